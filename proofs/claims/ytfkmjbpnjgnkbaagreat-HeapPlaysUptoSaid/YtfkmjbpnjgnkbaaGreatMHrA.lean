import Derived.Test.YtfkmjbpnjgnkbaaGreatMHpF
import Derived.Test.YtfkmjbpnjgnkbaaGreatMHpV
import Derived.Test.YtfkmjbpnjgnkbaaGreatMHcA
/-
  How many pages a heap may have: plain numbers. No program in sight.
-/
namespace Go.Proofs.YtfkmjbpnjgnkbaaGreat.H
set_option linter.unusedSimpArgs false
set_option linter.unusedVariables false
/-! ### numbers -/
/-- The least length that a row in page i has, where all have T bytes. -/
def lowB (T i : Nat) : Nat := if i ≤ 1 then 1 else max 1 ((347 * i + 24 - T + (i - 2)) / (i - 1))
def sumB (T : Nat) : Nat → Nat
  | 0 => 0
  | n + 1 => sumB T n + lowB T n
def checkB : Bool := (List.range 26).all fun a => (List.range 121).all fun b => decide (6 * a + 5 < a + b + 3) || decide (100 * b + 99 < sumB (100 * b + 99 + 24 * (6 * a + 5)) (a + b + 3))
set_option maxRecDepth 100000 in
theorem checkB_true : checkB = true := by decide +kernel
def sumM (m : Nat → Nat) : Nat → Nat
  | 0 => 0
  | n + 1 => sumM m n + m n
theorem sumM_mono {m : Nat → Nat} {k n : Nat} (h : k ≤ n) : sumM m k ≤ sumM m n := by
  induction n with
  | zero => have : k = 0 := by omega
            subst this; exact Nat.le_refl _
  | succ n ih =>
    rcases Nat.lt_or_ge k (n + 1) with h1 | h1
    · have := ih (by omega); show _ ≤ sumM m n + m n; omega
    · have : k = n + 1 := by omega
      subst this; exact Nat.le_refl _
theorem lowB_le {T i m : Nat} (h1 : 1 ≤ m) (h : i * (347 - m) + m + 24 ≤ T) : lowB T i ≤ m := by
  unfold lowB
  split
  · exact h1
  · rename_i hi
    refine Nat.max_le.2 ⟨h1, ?_⟩
    obtain ⟨k, rfl⟩ : ∃ k, i = k + 2 := ⟨i - 2, by omega⟩
    have e1 : k + 2 - 2 = k := by omega
    have e2 : k + 2 - 1 = k + 1 := by omega
    rw [e1, e2]
    have key : 347 * (k + 2) + 24 - T ≤ (k + 1) * m := by
      rcases Nat.lt_or_ge m 347 with hm | hm
      · have e3 : (k + 2) * (347 - m) + (k + 2) * m = (k + 2) * 347 := by rw [← Nat.mul_add, Nat.sub_add_cancel (by omega)]
        have e4 : (k + 2) * m = (k + 1) * m + m := by rw [show k + 2 = (k + 1) + 1 from rfl, Nat.add_mul, Nat.one_mul]
        omega
      · have : 347 * (k + 1) ≤ (k + 1) * m := by rw [Nat.mul_comm]; exact Nat.mul_le_mul_left _ hm
        omega
    refine Nat.le_of_lt_succ ((Nat.div_lt_iff_lt_mul (by omega)).2 ?_)
    have : (m + 1) * (k + 1) = (k + 1) * m + (k + 1) := by rw [Nat.mul_comm, Nat.mul_add, Nat.mul_one]
    show _ < (m + 1) * (k + 1)
    omega
theorem page_bound {N M B : Nat} {m : Nat → Nat} (h1 : ∀ i, i < N → 1 ≤ m i) (hl : ∀ i, i < N → i * (347 - m i) + m i + 24 ≤ B + 24 * M) (hs : sumM m N ≤ B) (hN : N ≤ M) (hM : M ≤ 150) (hB : B ≤ 12000) : N ≤ 2 + B / 100 + M / 6 := by
  refine Classical.byContradiction fun hc => ?_
  have hck := checkB_true
  unfold checkB at hck
  rw [List.all_eq_true] at hck
  have h2 := hck (M / 6) (List.mem_range.2 (by omega))
  rw [List.all_eq_true] at h2
  have h3 := h2 (B / 100) (List.mem_range.2 (by omega))
  simp only [Bool.or_eq_true, decide_eq_true_eq] at h3
  rcases h3 with h3 | h3
  · omega
  · have hT : B + 24 * M ≤ 100 * (B / 100) + 99 + 24 * (6 * (M / 6) + 5) := by omega
    have hle : ∀ n, n ≤ N → sumB (100 * (B / 100) + 99 + 24 * (6 * (M / 6) + 5)) n ≤ sumM m n := by
      intro n
      induction n with
      | zero => intro _; exact Nat.le_refl _
      | succ n ih =>
        intro hn
        have := ih (by omega)
        have := lowB_le (h1 n (by omega)) (Nat.le_trans (hl n (by omega)) hT)
        show sumB _ n + _ ≤ sumM m n + m n
        omega
    have h4 := hle (M / 6 + B / 100 + 3) (by omega)
    have h5 := sumM_mono (m := m) (show M / 6 + B / 100 + 3 ≤ N by omega)
    omega
end Go.Proofs.YtfkmjbpnjgnkbaaGreat.H

/-
  What lies in a heap's pages, counted; how many pages there may be: plain data. No program in sight.
-/
namespace Go.Proofs.YtfkmjbpnjgnkbaaGreat.H
set_option linter.unusedSimpArgs false
open Go Go.RowKit Go.Proofs.YtfkmjbpnjgnkbaaGreat.D Go.Proofs.YtfkmjbpnjgnkbaaGreat.B Go.Proofs.YtfkmjbpnjgnkbaaGreat.C Go.Proofs.YtfkmjbpnjgnkbaaGreat.G Go.Proofs.YtfkmjbpnjgnkbaaGreat.P
set_option linter.unusedVariables false
/-! ### the places of versions -/
theorem mem_ridsTo {id : Nat} {p : List UInt8} {j r : Nat} : r ∈ ridsTo id p j ↔ ∃ i, i < j ∧ (verAt p i).isSome = true ∧ r = id * 128 + i := by
  unfold ridsTo
  simp only [List.mem_map, List.mem_filter, List.mem_range]
  constructor
  · rintro ⟨i, ⟨h1, h2⟩, rfl⟩; exact ⟨i, h1, h2, rfl⟩
  · rintro ⟨i, h1, h2, rfl⟩; exact ⟨i, ⟨h1, h2⟩, rfl⟩
theorem ridsTo_nodup (id : Nat) (p : List UInt8) : ∀ j, (ridsTo id p j).Nodup
  | 0 => by simp [ridsTo]
  | j + 1 => by
    rw [ridsTo_succ, List.nodup_append]
    refine ⟨ridsTo_nodup id p j, by split <;> simp, fun a ha b hb e => ?_⟩
    obtain ⟨i, hi, _, rfl⟩ := mem_ridsTo.1 ha
    split at hb
    · simp at hb; omega
    · simp at hb
theorem mem_ridsOf {pg : Nat → List UInt8} {l : List Nat} {r : Nat} : r ∈ ridsOf pg l ↔ ∃ id ∈ l, r ∈ ridsTo id (pg id) (nS (pg id)) := by
  unfold ridsOf; simp
theorem ridsTo_div {id : Nat} {p : List UInt8} {j r : Nat} (h : r ∈ ridsTo id p j) (hj : j ≤ 128) : r / 128 = id ∧ (verAt p (r % 128)).isSome = true := by
  obtain ⟨i, hi, hv, rfl⟩ := mem_ridsTo.1 h
  have h1 : (id * 128 + i) / 128 = id := by omega
  have h2 : (id * 128 + i) % 128 = i := by omega
  rw [h1, h2]; exact ⟨rfl, hv⟩
theorem ridsOf_nodup {pg : Nat → List UInt8} : ∀ {l : List Nat}, l.Nodup → (∀ id ∈ l, nS (pg id) ≤ 29) → (ridsOf pg l).Nodup
  | [], _, _ => by simp [ridsOf]
  | id :: l, hn, hs => by
    have e : ridsOf pg (id :: l) = ridsTo id (pg id) (nS (pg id)) ++ ridsOf pg l := by simp [ridsOf]
    rw [List.nodup_cons] at hn
    rw [e, List.nodup_append]
    refine ⟨ridsTo_nodup _ _ _, ridsOf_nodup hn.2 (fun x hx => hs x (by simp [hx])), fun a ha b hb e => ?_⟩
    subst e
    obtain ⟨id2, hid2, hb2⟩ := mem_ridsOf.1 hb
    have h1 := (ridsTo_div ha (by have := hs id (by simp); omega)).1
    have h2 := (ridsTo_div hb2 (by have := hs id2 (by simp [hid2]); omega)).1
    rw [h1] at h2
    exact hn.1 (by rw [h2]; exact hid2)
theorem mem_verR {pg : Nat → List UInt8} {ids : List Nat} (hs : ∀ id ∈ ids, nS (pg id) ≤ 29) {r : Nat} : r ∈ ridsOf pg ids ↔ verR pg ids r ≠ none := by
  rw [mem_ridsOf]
  constructor
  · rintro ⟨id, hid, hr⟩
    obtain ⟨h1, h2⟩ := ridsTo_div hr (by have := hs id hid; omega)
    unfold verR
    rw [h1, if_pos hid]
    exact Option.isSome_iff_ne_none.1 h2
  · intro h
    obtain ⟨v, hv⟩ := Option.ne_none_iff_exists'.1 h
    obtain ⟨hid, hv2⟩ := verR_some hv
    have := verAt_lt hv2
    exact ⟨_, hid, mem_ridsTo.2 ⟨r % 128, by omega, by rw [hv2]; rfl, by omega⟩⟩
/-! ### counted -/
def lenV : Option Ver → Nat
  | some v => 24 + v.row.length
  | none => 0
def sumV (p : List UInt8) : Nat → Nat
  | 0 => 0
  | n + 1 => sumV p n + lenV (verAt p n)
theorem cell_none {p : List UInt8} (h : Core p) {k : Nat} (hk : k < nS p) (h0 : ct p k = none) : sL p k = 0 :=
  (h.goodAt hk).1 (Classical.byContradiction fun hx => ct_none.1 h0 ⟨hk, hx⟩)
theorem sum_vers {root next : Nat} {p : List UInt8} (h : HPage root next p) : ∀ j, 1 + 2 * j ≤ nS p → sumL p (1 + 2 * j) = 8 + sumV p (1 + 2 * j)
  | 0, _ => by
    have := (ct_long h.pg.body.core h.head).2.2.1
    rw [head_len] at this
    have e : verAt p 0 = none := verAt_even (by omega)
    simp [sumL, sumV, this, e, lenV]
  | j + 1, hj => by
    have ih := sum_vers h j (by omega)
    have e2 : verAt p (1 + 2 * j + 1) = none := verAt_even (by omega)
    show sumL p (1 + 2 * j) + sL p (1 + 2 * j) + sL p (1 + 2 * j + 1) = 8 + (sumV p (1 + 2 * j) + lenV (verAt p (1 + 2 * j)) + lenV (verAt p (1 + 2 * j + 1)))
    rw [e2]
    rcases h.pairs (1 + 2 * j) (by omega) with ⟨s, r, h1, h2, h3, h4, h5⟩ | ⟨h1, h2⟩
    · have f1 := (ct_long h.pg.body.core h1).2.2.1
      have f2 := (ct_long h.pg.body.core h2).2.2.1
      have ev : verAt p (1 + 2 * j) = some (verOf s r) := by unfold verAt; rw [if_pos (by omega), h1, h2]
      rw [ev]
      have : (verOf s r).row = r := rfl
      simp only [lenV, this]
      omega
    · have f1 := cell_none h.pg.body.core (by omega) h1
      have f2 := cell_none h.pg.body.core (by omega) h2
      have ev : verAt p (1 + 2 * j) = none := (verAt_none h (by omega)).2 h1
      rw [ev]
      simp only [lenV]
      omega
theorem slots_odd {root next : Nat} {p : List UInt8} (h : HPage root next p) : nS p % 2 = 1 := by
  have h0 := (ct_isSome h.head).1
  have hl := h.pg.body.last h0
  by_cases e : nS p % 2 = 1
  · exact e
  · rcases h.pairs (nS p - 1) (by omega) with ⟨s, r, h1, h2, _⟩ | ⟨h1, _⟩
    · have := (ct_isSome h2).1; omega
    · exact absurd h1 (ct_used.2 ⟨by omega, hl⟩)
theorem page_full {root next : Nat} {p : List UInt8} (h : HPage root next p) : bg p + 8 + sumV p (nS p) = 512 := by
  have h1 := core_sum h.pg.body.core
  have h2 := slots_odd h
  have h3 := sum_vers h (nS p / 2) (by omega)
  rw [show 1 + 2 * (nS p / 2) = nS p by omega] at h3
  omega
/-- A page without versions has room. -/
theorem empty_page {root next : Nat} {p : List UInt8} (h : HPage root next p) (hv : ∀ k, verAt p k = none) : nS p = 1 ∧ bg p = 504 := by
  have h0 := (ct_isSome h.head).1
  have hl := h.pg.body.last h0
  have hn : nS p = 1 := by
    rcases Nat.lt_or_ge 1 (nS p) with h1 | h1
    · have ho := slots_odd h
      have hu := ct_used.2 ⟨show nS p - 1 < nS p by omega, hl⟩
      rcases h.pairs (nS p - 2) (by omega) with ⟨s, r, e1, e2, _⟩ | ⟨_, e2⟩
      · have := hv (nS p - 2)
        rw [verAt_none h (by omega), e1] at this; cases this
      · rw [show nS p - 2 + 1 = nS p - 1 by omega] at e2
        exact absurd e2 hu
    · omega
  have := page_full h
  rw [hn] at this
  have e : sumV p 1 = 0 := by simp [sumV, hv, lenV]
  omega
theorem empty_lays {root next : Nat} {p : List UInt8} (hP : HPage root next p) (hv : ∀ k, verAt p k = none) {row : List UInt8} (xmin : Nat) (h1 : 1 ≤ row.length) (h2 : row.length ≤ 370) : ∃ q, laysB p row xmin = some q := by
  obtain ⟨hn, hb⟩ := empty_page hP hv
  have hf : freeB p = 490 := by unfold freeB; omega
  have hs : (stampC xmin 0 0).length = 24 := stamp_len _ _ _
  have hle := freeS_le p
  have ho := hP.odd.1
  have hfs : freeS p = 1 := by omega
  have i1 : insE p (stampC xmin 0 0) = 0 := by
    unfold insE
    rw [if_neg (by rw [ok_iff.2 hP.pg]; simp), if_neg (by omega), if_neg]
    unfold need
    rw [hfs, hn, if_neg (by omega), hf, hs]
    omega
  have I1 := ins_ok i1
  have n1 := hP.odd
  have hc := I1.count
  have hb2 := I1.beg
  rw [hfs, hn] at hc
  have hm : freeS (insP p (stampC xmin 0 0)) = 2 := freeS_eq (fun k hk => by
    by_cases e : k = freeS p
    · rw [e, I1.mine]; simp
    · rw [I1.rest k e]; exact ct_free (by omega)) (by
      have := n1.2.2
      rw [hfs] at this
      rw [I1.rest _ (by omega)]; exact this)
  have i2 : insE (insP p (stampC xmin 0 0)) row = 0 := by
    unfold insE
    rw [if_neg (by rw [ok_iff.2 I1.pg]; simp), if_neg (by omega), if_neg]
    unfold need
    rw [hm, hc, if_neg (by omega)]
    unfold freeB at hf ⊢
    rw [hb2, hc]
    rw [hn] at hf
    omega
  exact ⟨_, by unfold laysB; rw [if_pos ⟨i1, i2⟩]⟩
end Go.Proofs.YtfkmjbpnjgnkbaaGreat.H

/-
  What lies in all pages of a heap; how many they are: plain data. No program in sight.
-/
namespace Go.Proofs.YtfkmjbpnjgnkbaaGreat.H
set_option linter.unusedSimpArgs false
open Go Go.RowKit Go.Proofs.YtfkmjbpnjgnkbaaGreat.D Go.Proofs.YtfkmjbpnjgnkbaaGreat.B Go.Proofs.YtfkmjbpnjgnkbaaGreat.C Go.Proofs.YtfkmjbpnjgnkbaaGreat.G Go.Proofs.YtfkmjbpnjgnkbaaGreat.P
set_option linter.unusedVariables false
/-! ### what lies in all pages -/
def lenO : Option Ver → Nat
  | some v => v.row.length
  | none => 0
/-- The bytes of the rows at the places L. -/
def bytesO (V : Nat → Option Ver) (L : List Nat) : Nat := (L.map fun r => lenO (V r)).sum
theorem bytesO_append (V : Nat → Option Ver) (L K : List Nat) : bytesO V (L ++ K) = bytesO V L + bytesO V K := by
  unfold bytesO; rw [List.map_append, List.sum_append_nat]
theorem bytesO_congr {V W : Nat → Option Ver} {L : List Nat} (h : ∀ r ∈ L, lenO (V r) = lenO (W r)) : bytesO V L = bytesO W L := by
  unfold bytesO; rw [List.map_congr_left h]
theorem sum_ridsTo (id : Nat) (p : List UInt8) : ∀ j, j ≤ 128 → ((ridsTo id p j).map fun r => lenV (verAt p (r % 128))).sum = sumV p j
  | 0, _ => by simp [ridsTo, sumV]
  | j + 1, hj => by
    rw [ridsTo_succ, List.map_append, List.sum_append_nat, sum_ridsTo id p j (by omega)]
    show _ + _ = sumV p j + lenV (verAt p j)
    congr 1
    split
    · have : (id * 128 + j) % 128 = j := by omega
      simp [this]
    · rename_i h
      have : verAt p j = none := by simpa using h
      simp [this, lenV]
theorem sum_ridsOf {pg : Nat → List UInt8} {ids : List Nat} (hs : ∀ id ∈ ids, nS (pg id) ≤ 29) : ∀ l : List Nat, (∀ id ∈ l, id ∈ ids) → ((ridsOf pg l).map fun r => lenV (verR pg ids r)).sum = (l.map fun id => sumV (pg id) (nS (pg id))).sum
  | [], _ => by simp [ridsOf]
  | id :: l, hm => by
    have e : ridsOf pg (id :: l) = ridsTo id (pg id) (nS (pg id)) ++ ridsOf pg l := by simp [ridsOf]
    rw [e, List.map_append, List.sum_append_nat, sum_ridsOf hs l (fun x hx => hm x (by simp [hx])), List.map_cons, List.sum_cons]
    congr 1
    have hid := hm id (by simp)
    have hn := hs id hid
    rw [← sum_ridsTo id (pg id) (nS (pg id)) (by omega)]
    congr 1
    apply List.map_congr_left
    intro r hr
    obtain ⟨h1, _⟩ := ridsTo_div hr (by omega)
    unfold verR
    rw [h1, if_pos hid]
theorem lenV_eq {o : Option Ver} (h : o ≠ none) : lenV o = 24 + lenO o := by
  cases o with
  | none => exact absurd rfl h
  | some v => rfl
/-- Places without doubles, all that have versions. -/
structure Live (V : Nat → Option Ver) (L : List Nat) : Prop where
  nodup : L.Nodup
  mem : ∀ r, r ∈ L ↔ V r ≠ none
theorem Vers.live {V : Nat → Option Ver} {L : List Nat} {Gv : Nat → Ver} (h : Vers V L Gv) : Live V L :=
  ⟨h.nodup, fun r => ⟨fun hr hn => by
    obtain ⟨t, ht, he⟩ := List.getElem_of_mem hr
    have := h.at_ t ht
    rw [List.getD_eq_getElem?_getD, List.getElem?_eq_getElem ht] at this
    rw [← he] at hn
    rw [show V L[t] = some (Gv t) from this] at hn
    exact (Option.some_ne_none _ hn), h.only r⟩⟩
theorem live_rids {u : List Bool} {pg : Nat → List UInt8} {root : Nat} {ids : List Nat} (hI : HeapIs u pg root ids) {L : List Nat} (h : Live (verR pg ids) L) : (ridsOf pg ids).Perm L :=
  (List.perm_ext_iff_of_nodup (ridsOf_nodup hI.nodup hI.slots) h.nodup).2 fun r => by rw [mem_verR hI.slots, h.mem]
theorem live_sum {u : List Bool} {pg : Nat → List UInt8} {root : Nat} {ids : List Nat} (hI : HeapIs u pg root ids) {L : List Nat} (h : Live (verR pg ids) L) : (ids.map fun id => sumV (pg id) (nS (pg id))).sum = bytesO (verR pg ids) L + 24 * L.length := by
  rw [← sum_ridsOf hI.slots ids (fun x hx => hx), ((live_rids hI h).map _).sum_nat]
  have : ∀ K : List Nat, (∀ r ∈ K, verR pg ids r ≠ none) → (K.map fun r => lenV (verR pg ids r)).sum = bytesO (verR pg ids) K + 24 * K.length := by
    intro K
    induction K with
    | nil => intro _; rfl
    | cons r K ih =>
      intro hk
      have e : bytesO (verR pg ids) (r :: K) = lenO (verR pg ids r) + bytesO (verR pg ids) K := by simp [bytesO]
      rw [List.map_cons, List.sum_cons, ih (fun x hx => hk x (by simp [hx])), e, lenV_eq (hk r (by simp)), List.length_cons]
      omega
  exact this L (fun r hr => (h.mem r).1 hr)
/-- A part of the places has no more. -/
theorem bytesO_part {V : Nat → Option Ver} {L K : List Nat} (hK : K.Nodup) (hL : L.Nodup) (h : ∀ r ∈ K, r ∈ L) : bytesO V K ≤ bytesO V L ∧ K.length ≤ L.length := by
  have hp : L.Perm (K ++ L.filter fun r => !K.contains r) := (List.perm_ext_iff_of_nodup hL (by
    rw [List.nodup_append]
    refine ⟨hK, hL.sublist List.filter_sublist, fun a ha b hb e => ?_⟩
    subst e
    have := (List.mem_filter.1 hb).2
    simp at this
    exact this ha)).2 fun r => by
      rw [List.mem_append, List.mem_filter]
      constructor
      · intro hr
        by_cases hk : r ∈ K
        · exact .inl hk
        · exact .inr ⟨hr, by simpa using hk⟩
      · rintro (hk | ⟨hr, _⟩)
        · exact h r hk
        · exact hr
  constructor
  · have := (hp.map fun r => lenO (V r)).sum_nat
    rw [List.map_append, List.sum_append_nat] at this
    unfold bytesO; omega
  · have := hp.length_eq
    rw [List.length_append] at this; omega
end Go.Proofs.YtfkmjbpnjgnkbaaGreat.H

/-
  A heap's pages are no more than may be: plain data. No program in sight.
-/
namespace Go.Proofs.YtfkmjbpnjgnkbaaGreat.H
set_option linter.unusedSimpArgs false
open Go Go.RowKit Go.Proofs.YtfkmjbpnjgnkbaaGreat.D Go.Proofs.YtfkmjbpnjgnkbaaGreat.B Go.Proofs.YtfkmjbpnjgnkbaaGreat.C Go.Proofs.YtfkmjbpnjgnkbaaGreat.G Go.Proofs.YtfkmjbpnjgnkbaaGreat.P
set_option linter.unusedVariables false
/-- The pages are few: at most M rows of B bytes lay in them at one time. -/
structure Fits (pg : Nat → List UInt8) (ids : List Nat) (B M : Nat) : Prop where
  low : ∀ i, i < ids.length → ∀ r v, verR pg ids r = some v → r / 128 = ids.getD i 0 → i * (347 - v.row.length) + v.row.length + 24 ≤ B + 24 * M
  few : ids.length ≤ 2 + B / 100 + M / 6
theorem Fits.first {n : Nat} (h : 1 ≤ n) (B M : Nat) : Fits pg0 [0] B M := by
  obtain ⟨_, _, _, _, hv⟩ := heap_first h
  exact ⟨fun i hi r v hr => (by rw [hv r] at hr; cases hr), (by show 1 ≤ _; omega)⟩
theorem Fits.more {pg : Nat → List UInt8} {ids : List Nat} {B M B' M' : Nat} (h : Fits pg ids B M) (hB : B ≤ B') (hM : M ≤ M') : Fits pg ids B' M' :=
  ⟨fun i hi r v hr he => by have := h.low i hi r v hr he; omega, by
    have h1 := h.few
    have h2 := Nat.div_le_div_right (c := 100) hB
    have h3 := Nat.div_le_div_right (c := 6) hM
    omega⟩
theorem Fits.same {pg pg' : Nat → List UInt8} {ids : List Nat} {B M : Nat} (h : Fits pg ids B M) (hv : ∀ r v', verR pg' ids r = some v' → ∃ v, verR pg ids r = some v ∧ v.row.length = v'.row.length) : Fits pg' ids B M :=
  ⟨fun i hi r v hr he => by
    obtain ⟨v0, h0, hl⟩ := hv r v hr
    rw [← hl]
    exact h.low i hi r v0 h0 he, h.few⟩
theorem sum_take {f : Nat → Nat} {c : Nat} {l : List Nat} : ∀ i, i ≤ l.length → (∀ j, j < i → c ≤ f (l.getD j 0)) → i * c ≤ ((l.take i).map f).sum ∧ ((l.take i).map f).sum ≤ (l.map f).sum := by
  intro i hi hj
  constructor
  · induction i with
    | zero => simp
    | succ i ih =>
      have h1 := ih (by omega) (fun j h => hj j (by omega))
      have h2 := hj i (by omega)
      rw [List.take_succ_eq_append_getElem (by omega), List.map_append, List.sum_append_nat, Nat.add_mul, Nat.one_mul]
      rw [List.getD_eq_getElem?_getD, List.getElem?_eq_getElem (by omega)] at h2
      simp only [List.map_cons, List.map_nil, List.sum_cons, List.sum_nil, Option.getD_some] at h2 ⊢
      omega
  · have e := congrArg (fun k => (List.map f k).sum) (List.take_append_drop i l)
    simp only [List.map_append, List.sum_append_nat] at e
    omega
theorem nodup_range {f : Nat → Nat} : ∀ n, (∀ i j, i < n → j < n → f i = f j → i = j) → ((List.range n).map f).Nodup
  | 0, _ => by simp
  | n + 1, h => by
    rw [List.range_succ, List.map_append, List.nodup_append]
    refine ⟨nodup_range n fun i j hi hj e => h i j (by omega) (by omega) e, by simp, fun a ha b hb e => ?_⟩
    obtain ⟨i, hi, rfl⟩ := List.mem_map.1 ha
    have hi := List.mem_range.1 hi
    simp at hb
    subst hb
    have := h i n (by omega) (by omega) e
    omega
section
variable {u : List Bool} {pg : Nat → List UInt8} {ids : List Nat} {row : List UInt8} {xmin : Nat}
/-- The pages without room are full, or nearly so. -/
theorem ahead_full (hI : HeapIs u pg 0 ids) (h1 : 1 ≤ row.length) (h2 : row.length ≤ 370) {i : Nat} (hi : i ≤ ids.length) (hn : ∀ j, j < i → laysB (pg (ids.getD j 0)) row xmin = none) : i * (347 - row.length) ≤ (ids.map fun id => sumV (pg id) (nS (pg id))).sum := by
  have h := sum_take (f := fun id => sumV (pg id) (nS (pg id))) (c := 347 - row.length) (l := ids) i hi (fun j hj => by
    have hp := hI.page j (by omega)
    have a := lays_room hp (hI.slots _ (getD_mem (by omega))) h1 h2 (hn j hj)
    have b := page_full hp
    omega)
  exact Nat.le_trans h.1 h.2
theorem full_some (hI : HeapIs u pg 0 ids) (h1 : 1 ≤ row.length) (h2 : row.length ≤ 370) {j : Nat} (hj : j < ids.length) (hn : laysB (pg (ids.getD j 0)) row xmin = none) : ∃ r, verR pg ids r ≠ none ∧ r / 128 = ids.getD j 0 := by
  refine Classical.byContradiction fun hc => ?_
  have hv : ∀ k, verAt (pg (ids.getD j 0)) k = none := fun k => by
    cases hv : verAt (pg (ids.getD j 0)) k with
    | none => rfl
    | some v =>
      have := verAt_lt hv
      have hs := hI.slots _ (getD_mem hj)
      have e1 : (ids.getD j 0 * 128 + k) / 128 = ids.getD j 0 := by omega
      have e2 : (ids.getD j 0 * 128 + k) % 128 = k := by omega
      refine absurd ⟨ids.getD j 0 * 128 + k, ?_, e1⟩ hc
      unfold verR
      rw [e1, e2, if_pos (getD_mem hj), hv]
      simp
  obtain ⟨q, hq⟩ := empty_lays (hI.page j hj) hv xmin h1 h2
  rw [hn] at hq; cases hq
theorem ver_len (hI : HeapIs u pg 0 ids) {r : Nat} {v : Ver} (hv : verR pg ids r = some v) : 1 ≤ v.row.length ∧ v.row.length ≤ 370 := by
  have h := verR_some hv
  obtain ⟨_, _, _, hp⟩ := hI.at h.1
  obtain ⟨_, s, _, _, _, h4, h5, _⟩ := verAt_some hp h.2
  exact ⟨h4, h5⟩
theorem sumM_bytes (V : Nat → Option Ver) (rr : Nat → Nat) : ∀ n, sumM (fun i => lenO (V (rr i))) n = bytesO V ((List.range n).map rr)
  | 0 => rfl
  | n + 1 => by
    rw [List.range_succ, List.map_append, bytesO_append, ← sumM_bytes V rr n]
    show _ + _ = _ + _
    simp [bytesO]
theorem Fits.insert (hI : HeapIs u pg 0 ids) {B M B' M' : Nat} (hF : Fits pg ids B M) {u' : List Bool} {pg' : Nat → List UInt8} {ids' : List Nat} {id slot : Nat} (hi : Inserted u pg 0 ids row xmin u' pg' ids' id slot) (hs : slot < 128) (hPut : Put (verR pg ids) (verR pg' ids') (id * 128 + slot) ⟨row, xmin, 0, 0⟩) {L : List Nat} (hL : Live (verR pg ids) L) (h1 : 1 ≤ row.length) (h2 : row.length ≤ 370)
    (hB : B ≤ B') (hM : M ≤ M') (hb : bytesO (verR pg ids) L + row.length ≤ B') (hm : L.length + 1 ≤ M') (hM2 : M' ≤ 150) (hB2 : B' ≤ 12000) : Fits pg' ids' B' M' := by
  have hsum := live_sum hI hL
  have hdiv : (id * 128 + slot) / 128 = id := by omega
  have hnew : id * 128 + slot ∉ L := fun h => (hL.mem _).1 h hPut.free
  cases hi with
  | here i hi q hq hn =>
    refine ⟨fun i' hi' r v hr he => ?_, Nat.le_trans hF.few (by
      have h2 := Nat.div_le_div_right (c := 100) hB
      have h3 := Nat.div_le_div_right (c := 6) hM
      omega)⟩
    by_cases e : r = ids.getD i 0 * 128 + freeS (pg (ids.getD i 0))
    · subst e
      rw [hPut.mine] at hr
      have hr := (Option.some.inj hr).symm
      subst hr
      rw [hdiv] at he
      have := getD_inj hI.nodup hi hi' he
      subst this
      have := ahead_full hI h1 h2 (Nat.le_of_lt hi) hn
      simp only
      omega
    · rw [hPut.rest r e] at hr
      have := hF.low i' hi' r v hr he
      omega
  | more hn hu q hd hq hh =>
    have hff : firstFree u ∉ ids := fun hm => by
      have h3 := hI.used _ hm
      rw [(firstFree_free hu).1] at h3; cases h3
    have hlow : ∀ i, i < (ids ++ [firstFree u]).length → ∀ r v, verR (upd (upd pg (firstFree u) q) (ids.getD (ids.length - 1) 0) hd) (ids ++ [firstFree u]) r = some v → r / 128 = (ids ++ [firstFree u]).getD i 0 → i * (347 - v.row.length) + v.row.length + 24 ≤ B' + 24 * M' := fun i' hi' r v hr he => by
      rw [List.length_append, List.length_singleton] at hi'
      by_cases e : r = firstFree u * 128 + freeS (freshP 0)
      · subst e
        rw [hPut.mine] at hr
        have hr := (Option.some.inj hr).symm
        subst hr
        rw [hdiv] at he
        have e2 : i' = ids.length := by
          rcases Nat.lt_or_ge i' ids.length with h | h
          · rw [getD_append_lt h] at he
            exact absurd (by rw [he]; exact getD_mem h) hff
          · omega
        subst e2
        have := ahead_full hI h1 h2 (Nat.le_refl _) hn
        simp only
        omega
      · rw [hPut.rest r e] at hr
        have hid := (verR_some hr).1
        rcases Nat.lt_or_ge i' ids.length with h | h
        · rw [getD_append_lt h] at he
          have := hF.low i' h r v hr he
          omega
        · have : i' = ids.length := by omega
          subst this
          rw [getD_append_at] at he
          exact absurd (by rw [← he]; exact hid) hff
    refine ⟨hlow, ?_⟩
    have hex : ∃ rr : Nat → Nat, ∀ i, i < ids.length → verR pg ids (rr i) ≠ none ∧ rr i / 128 = ids.getD i 0 :=
      Classical.axiomOfChoice (r := fun i r => i < ids.length → verR pg ids r ≠ none ∧ r / 128 = ids.getD i 0) fun i => by
        by_cases h : i < ids.length
        · obtain ⟨r, hr⟩ := full_some hI h1 h2 h (hn i h)
          exact ⟨r, fun _ => hr⟩
        · exact ⟨0, fun h' => absurd h' h⟩
    obtain ⟨rr, hrr⟩ := hex
    have hne : ∀ i, i < ids.length → rr i ≠ firstFree u * 128 + freeS (freshP 0) := fun i h e => (hrr i h).1 (by rw [e]; exact hPut.free)
    obtain ⟨r2, hr2⟩ : ∃ r2 : Nat → Nat, (∀ i, i < ids.length → r2 i = rr i) ∧ r2 ids.length = firstFree u * 128 + freeS (freshP 0) := ⟨fun i => if i < ids.length then rr i else firstFree u * 128 + freeS (freshP 0), fun i h => if_pos h, if_neg (by omega)⟩
    have hdv : ∀ i, i < ids.length + 1 → r2 i / 128 = (ids ++ [firstFree u]).getD i 0 := fun i h => by
      rcases Nat.lt_or_ge i ids.length with h' | h'
      · rw [hr2.1 i h', (hrr i h').2, getD_append_lt h']
      · have : i = ids.length := by omega
        subst this
        rw [hr2.2, hdiv, getD_append_at]
    have hnd : (ids ++ [firstFree u]).Nodup := by
      rw [List.nodup_append]
      exact ⟨hI.nodup, by simp, fun a ha b hb e => by simp at hb; subst hb; subst e; exact hff ha⟩
    have hsome : ∀ i, i < ids.length + 1 → ∃ v, verR (upd (upd pg (firstFree u) q) (ids.getD (ids.length - 1) 0) hd) (ids ++ [firstFree u]) (r2 i) = some v ∧ 1 ≤ v.row.length := fun i h => by
      rcases Nat.lt_or_ge i ids.length with h' | h'
      · rw [hr2.1 i h', hPut.rest _ (hne i h')]
        obtain ⟨v, hv⟩ := Option.ne_none_iff_exists'.1 (hrr i h').1
        exact ⟨v, hv, (ver_len hI hv).1⟩
      · have : i = ids.length := by omega
        subst this
        rw [hr2.2, hPut.mine]
        exact ⟨_, rfl, h1⟩
    have hKn : ((List.range (ids.length + 1)).map r2).Nodup := nodup_range (ids.length + 1) fun i j hi hj e => by
      have h3 := hdv i hi
      rw [e, hdv j hj] at h3
      exact getD_inj hnd (by simpa using hi) (by simpa using hj) h3.symm
    have hL2 : (L ++ [firstFree u * 128 + freeS (freshP 0)]).Nodup := by
      rw [List.nodup_append]
      exact ⟨hL.nodup, by simp, fun a ha b hb e => by simp at hb; subst hb; subst e; exact hnew ha⟩
    have hpart := bytesO_part (V := verR (upd (upd pg (firstFree u) q) (ids.getD (ids.length - 1) 0) hd) (ids ++ [firstFree u])) hKn hL2 (fun r hr => by
      obtain ⟨i, hi, rfl⟩ := List.mem_map.1 hr
      have hi := List.mem_range.1 hi
      rcases Nat.lt_or_ge i ids.length with h' | h'
      · rw [hr2.1 i h']
        exact List.mem_append.2 (.inl ((hL.mem _).2 (hrr i h').1))
      · have : i = ids.length := by omega
        subst this
        rw [hr2.2]; simp)
    have hby : bytesO (verR (upd (upd pg (firstFree u) q) (ids.getD (ids.length - 1) 0) hd) (ids ++ [firstFree u])) (L ++ [firstFree u * 128 + freeS (freshP 0)]) = bytesO (verR pg ids) L + row.length := by
      rw [bytesO_append, bytesO_congr (W := verR pg ids) (fun r hr => by rw [hPut.rest r (fun e => hnew (by rw [← e]; exact hr))])]
      congr 1
      show lenO _ + 0 = _
      rw [hPut.mine]; rfl
    rw [hby, List.length_append, List.length_singleton, List.length_map, List.length_range] at hpart
    rw [List.length_append, List.length_singleton]
    refine page_bound (m := fun i => lenO (verR (upd (upd pg (firstFree u) q) (ids.getD (ids.length - 1) 0) hd) (ids ++ [firstFree u]) (r2 i))) (fun i h => ?_) (fun i h => ?_) ?_ (by omega) hM2 hB2
    · obtain ⟨v, hv, hl⟩ := hsome i h
      rw [hv]; exact hl
    · obtain ⟨v, hv, hl⟩ := hsome i h
      rw [hv]
      exact hlow i (by rw [List.length_append, List.length_singleton]; exact h) (r2 i) v hv (hdv i h)
    · rw [sumM_bytes]; omega
end
end Go.Proofs.YtfkmjbpnjgnkbaaGreat.H

/-
  The laws on heaps: Pages and All of a heap that a law holds; zeros as a row: by contracts.
-/
namespace Go.Proofs.YtfkmjbpnjgnkbaaGreat.H
set_option linter.unusedSimpArgs false
open Go Go.RowKit Go.Proofs.YtfkmjbpnjgnkbaaGreat.D Go.Proofs.YtfkmjbpnjgnkbaaGreat.B Go.Proofs.YtfkmjbpnjgnkbaaGreat.C Go.Proofs.YtfkmjbpnjgnkbaaGreat.G Go.Proofs.YtfkmjbpnjgnkbaaGreat.P
set_option linter.unusedVariables false
section
variable {w0 w : World} {p hb n k : Nat} {M ids : List Nat} {u : List Bool} {pg : Nat → List UInt8}
theorem HeapL.more {k' : Nat} (h : HeapL w0 p hb n M u pg ids k w) (hk : k ≤ k') : HeapL w0 p hb n M u pg ids k' w :=
  ⟨h.pool.more hk, h.hp, h.hbM, h.hb0, h.is_, h.own, h.zero, h.ulen, h.new, h.only⟩
theorem HeapL.pages (h : HeapL w0 p hb n M u pg ids k w) (hk : k + 2 * ids.length ≤ 1000000) (hl : ids.length ≤ 10000) :
    Calls Tryz.prog 8 #[.pointer (some ⟨hb, 0, none⟩)] w fun e w' => ∃ ao cap M', e = .returned (.tuple #[.slice ao ids.length cap, .int .i64 0]) ∧ w'.ownsRow 0 3 1 (.slice ao ids.length cap) ids.length ((I.rising (ids.map fun j => ((j : Nat) : Int))).map (Value.int .i64)) ∧ HeapL w0 p hb n M' u pg ids (k + 2 * ids.length) w' ∧ Step M M' w w' := by
  refine (pages_any h.pool hk h.hp h.hbM h.is_ (by omega)).mono ?_
  rintro e w' ⟨v, M', rfl, hr, _, hP, hS⟩
  obtain ⟨ao, cap, rfl⟩ := owns_slice hr
  exact ⟨ao, cap, M', rfl, hr, h.step hP hS h.is_ h.own h.zero rfl, hS⟩
theorem HeapL.all (h : HeapL w0 p hb n M u pg ids k w) (hk : k + 2 * ids.length ≤ 1000000) (hl : ids.length ≤ 10000) :
    Calls Tryz.prog 10 #[.pointer (some ⟨hb, 0, none⟩)] w fun e w' => ∃ ao cap M', e = .returned (.tuple #[.slice ao (ridsOf pg ids).length cap, .int .i64 0]) ∧ w'.ownsRow 0 29 1 (.slice ao (ridsOf pg ids).length cap) (ridsOf pg ids).length (risen (ridsOf pg ids)) ∧ HeapL w0 p hb n M' u pg ids (k + 2 * ids.length) w' ∧ Step M M' w w' := by
  refine (all_any h.pool hk h.hp h.hbM h.is_ hl).mono ?_
  rintro e w' ⟨v, M', rfl, hr, _, hP, hS⟩
  obtain ⟨ao, cap, rfl⟩ := owns_slice hr
  exact ⟨ao, cap, M', rfl, hr, h.step hP hS h.is_ h.own h.zero rfl, hS⟩
theorem rids_none (h : HeapIs u pg 0 ids) (hv : ∀ x, verR pg ids x = none) : (ridsOf pg ids).length = 0 := by
  cases hr : ridsOf pg ids with
  | nil => rfl
  | cons x l => exact absurd (hv x) ((mem_verR h.slots).1 (by rw [hr]; simp))
end
theorem bytesO_const {V : Nat → Option Ver} {s : Nat} : ∀ {L : List Nat}, (∀ r ∈ L, lenO (V r) = s) → bytesO V L = L.length * s
  | [], _ => by simp [bytesO]
  | r :: L, h => by
    have e : bytesO V (r :: L) = lenO (V r) + bytesO V L := by simp [bytesO]
    rw [e, bytesO_const (fun x hx => h x (by simp [hx])), h r (by simp), List.length_cons, Nat.add_mul, Nat.one_mul]
    omega
theorem Vers.bytes {V : Nat → Option Ver} {L : List Nat} {Gv : Nat → Ver} {s : Nat} (h : Vers V L Gv) (hs : ∀ j, (Gv j).row.length = s) : bytesO V L = L.length * s :=
  bytesO_const fun r hr => by
    obtain ⟨t, ht, he⟩ := List.getElem_of_mem hr
    have := h.at_ t ht
    rw [List.getD_eq_getElem?_getD, List.getElem?_eq_getElem ht] at this
    rw [← he, show V L[t] = some (Gv t) from this]
    exact hs t
/-- One row more: the pages stay few. -/
theorem InsL.fits {w0 w w' : World} {p hb n k B Mx xmin r : Nat} {M ids ids' M' : List Nat} {u u' : List Bool} {pg pg' : Nat → List UInt8} {row : List UInt8} (hH : HeapIs u pg 0 ids) (h0 : u.getD 0 false = true) (hu : u.length ≤ 65536) (hx : xmin < W64) (h : InsL w0 w p hb n k M ids u pg row xmin r u' pg' ids' M' w') (hF : Fits pg ids B Mx) {L : List Nat} (hL : Live (verR pg ids) L) (h1 : 1 ≤ row.length) (h2 : row.length ≤ 370) (hb : bytesO (verR pg ids) L + row.length ≤ B) (hm : L.length + 1 ≤ Mx) (hM2 : Mx ≤ 150) (hB2 : B ≤ 12000) : Fits pg' ids' B Mx := by
  obtain ⟨id, slot, hr, hi⟩ := h.ins
  obtain ⟨_, _, _, hsl, _⟩ := hi.done hH h0 hu hx h1 h2
  have hput := h.put
  rw [hr] at hput
  exact hF.insert hH hi (by omega) hput hL h1 h2 (Nat.le_refl _) (Nat.le_refl _) hb hm hM2 hB2
/-- Rows that are taken at a step of three: no one twice. -/
theorem three_apart {n r i j : Nat} (hn : n % 3 ≠ 0) (hi : i < n) (hj : j < n) (h : (i * 3 + r) % n = (j * 3 + r) % n) : i = j := by
  have key : ∀ a b : Nat, a < n → b < n → a < b → (a * 3 + r) % n = (b * 3 + r) % n → False := fun a b ha hb hab he => by
    have h1 := Nat.div_add_mod (a * 3 + r) n
    have h2 := Nat.div_add_mod (b * 3 + r) n
    rw [he] at h1
    generalize (a * 3 + r) / n = qa at *
    generalize (b * 3 + r) / n = qb at *
    generalize (b * 3 + r) % n = m at *
    have hq : qa < qb := by
      rcases Nat.lt_or_ge qa qb with h3 | h3
      · exact h3
      · have := Nat.mul_le_mul_left n h3; omega
    obtain ⟨d, rfl⟩ : ∃ d, qb = qa + d := ⟨qb - qa, by omega⟩
    rw [Nat.mul_add] at h2
    have h4 : n * d = 3 * (b - a) := by omega
    have h5 : d < 3 := by
      rcases Nat.lt_or_ge d 3 with h6 | h6
      · exact h6
      · have := Nat.mul_le_mul_left n h6; omega
    have h7 : d = 1 ∨ d = 2 := by omega
    rcases h7 with rfl | rfl <;> omega
  rcases Nat.lt_trichotomy i j with h1 | h1 | h1
  · exact (key i j hi hj h1 h).elim
  · exact h1
  · exact (key j i hj hi h1 h.symm).elim
end Go.Proofs.YtfkmjbpnjgnkbaaGreat.H
