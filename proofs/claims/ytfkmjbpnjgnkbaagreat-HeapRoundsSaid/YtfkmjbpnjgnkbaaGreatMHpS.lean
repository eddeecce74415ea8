import Derived.Test.YtfkmjbpnjgnkbaaGreatMHpJ
import Derived.Test.YtfkmjbpnjgnkbaaGreatMHpR
/-
  What the calls of a heap do to its versions: plain data. No program in sight.
-/
namespace Go.Proofs.YtfkmjbpnjgnkbaaGreat.H
set_option linter.unusedSimpArgs false
open Go Go.RowKit Go.Proofs.YtfkmjbpnjgnkbaaGreat.D Go.Proofs.YtfkmjbpnjgnkbaaGreat.B Go.Proofs.YtfkmjbpnjgnkbaaGreat.C Go.Proofs.YtfkmjbpnjgnkbaaGreat.G Go.Proofs.YtfkmjbpnjgnkbaaGreat.P
set_option linter.unusedVariables false
theorem rid_div {id slot : Nat} (h : slot < 128) : (id * 128 + slot) / 128 = id ∧ (id * 128 + slot) % 128 = slot := by omega
/-- The heap with other versions: the same pages, or one more. -/
structure Done (u : List Bool) (pg : Nat → List UInt8) (root : Nat) (ids : List Nat) (u' : List Bool) (pg' : Nat → List UInt8) (ids' : List Nat) : Prop where
  is_ : HeapIs u' pg' root ids'
  len : u'.length = u.length
  zero : u'.getD 0 false = true
  own : Owns u ids → Owns u' ids'
theorem getD_append_lt {l k : List Nat} {i : Nat} (h : i < l.length) : (l ++ k).getD i 0 = l.getD i 0 := by
  rw [List.getD_eq_getElem?_getD, List.getElem?_append_left h, ← List.getD_eq_getElem?_getD]
theorem getD_append_at {l : List Nat} {x : Nat} : (l ++ [x]).getD l.length 0 = x := by
  rw [List.getD_eq_getElem?_getD, List.getElem?_append_right (Nat.le_refl _), Nat.sub_self]; rfl
theorem getD_inj {l : List Nat} (h : l.Nodup) {i j : Nat} (hi : i < l.length) (hj : j < l.length) (e : l.getD i 0 = l.getD j 0) : i = j := by
  rw [List.getD_eq_getElem?_getD, List.getD_eq_getElem?_getD, List.getElem?_eq_getElem hi, List.getElem?_eq_getElem hj] at e
  have e : l[i] = l[j] := e
  rcases Nat.lt_trichotomy i j with h1 | h1 | h1
  · exact absurd e (List.pairwise_iff_getElem.1 h i j hi hj h1)
  · exact h1
  · exact absurd e.symm (List.pairwise_iff_getElem.1 h j i hj hi h1)
section
variable {u : List Bool} {pg : Nat → List UInt8} {root : Nat} {ids : List Nat}
/-- One page is another one of the heap: the others stay. -/
theorem HeapIs.set (h : HeapIs u pg root ids) {id : Nat} (hid : id ∈ ids) {q : List UInt8} (hq : ∀ next, HPage root next (pg id) → HPage root next q) (hs : nS q ≤ 29) : HeapIs u (upd pg id q) root ids := by
  refine ⟨h.head, h.some_, h.nodup, h.used, fun i hi => ?_, h.pos, fun x hx => ?_⟩
  · by_cases e : ids.getD i 0 = id
    · rw [e, upd_self]; have := h.page i hi; rw [e] at this; exact hq _ this
    · rw [upd_ne e]; exact h.page i hi
  · by_cases e : x = id
    · rw [e, upd_self]; exact hs
    · rw [upd_ne e]; exact h.slots x hx
theorem verR_upd {id : Nat} {q : List UInt8} (r : Nat) : verR (upd pg id q) ids r = if r / 128 ∈ ids then (if r / 128 = id then verAt q (r % 128) else verAt (pg (r / 128)) (r % 128)) else none := by
  unfold verR upd
  split
  · split <;> rfl
  · rfl
/-- A version was put in. -/
structure Put (V V' : Nat → Option Ver) (r : Nat) (v : Ver) : Prop where
  free : V r = none
  mine : V' r = some v
  rest : ∀ x, x ≠ r → V' x = V x
theorem Inserted.done (h : HeapIs u pg root ids) (h0 : u.getD 0 false = true) (hu : u.length ≤ 65536) {row : List UInt8} {xmin : Nat} (hx : xmin < W64) (h1 : 1 ≤ row.length) (h2 : row.length ≤ 370) {u' : List Bool} {pg' : Nat → List UInt8} {ids' : List Nat} {id slot : Nat} (hi : Inserted u pg root ids row xmin u' pg' ids' id slot) :
    Done u pg root ids u' pg' ids' ∧ Put (verR pg ids) (verR pg' ids') (id * 128 + slot) ⟨row, xmin, 0, 0⟩ ∧ id < 65536 ∧ slot < 125 ∧ 1 ≤ slot ∧ id ∈ ids' ∧ slot % 2 = 1 := by
  cases hi with
  | here i hi q hq hn =>
    have hid : ids.getD i 0 ∈ ids := getD_mem hi
    have hL := lays_page (h.page i hi) hx h1 h2 hq
    have hF := lays_fill (h.page i hi) (h.slots _ hid) h1 h2 hq hx
    have hsl := hL.lt
    have hdv := rid_div (id := ids.getD i 0) (slot := freeS (pg (ids.getD i 0))) (by omega)
    refine ⟨⟨h.set hid (fun next hp => (lays_page hp hx h1 h2 hq).page) hF.2, rfl, h0, fun ho => ho⟩, ⟨?_, ?_, fun x hxr => ?_⟩, by have := used_lt (h.used _ hid); omega, hsl, by have := hL.odd; omega, hid, hL.odd⟩
    · unfold verR; rw [hdv.1, hdv.2, if_pos hid]; exact hL.free
    · rw [verR_upd, hdv.1, hdv.2, if_pos hid, if_pos rfl]; exact hL.mine
    · rw [verR_upd]
      unfold verR
      by_cases e : x / 128 ∈ ids
      · rw [if_pos e, if_pos e]
        by_cases e2 : x / 128 = ids.getD i 0
        · rw [if_pos e2, e2]
          exact hL.rest _ (fun e3 => hxr (by omega))
        · rw [if_neg e2]
      · rw [if_neg e, if_neg e]
  | more hn hfu q hh hq hr =>
    obtain ⟨f1, f2⟩ := firstFree_free hfu
    have hni : firstFree u ∉ ids := fun hm => by have := h.used _ hm; rw [f1] at this; cases this
    have hpos : 0 < firstFree u := by
      rcases Nat.eq_zero_or_pos (firstFree u) with e | e
      · rw [e] at f1; rw [h0] at f1; cases f1
      · exact e
    have hlen := h.some_
    have hlm : ids.getD (ids.length - 1) 0 ∈ ids := getD_mem (by omega)
    have hlast := h.page (ids.length - 1) (by omega)
    have hnx : ids.getD (ids.length - 1 + 1) 0 = 0 := getD_over (by omega)
    rw [hnx] at hlast
    obtain ⟨hH, hHv⟩ := head_page hlast hr
    have hlne : ids.getD (ids.length - 1) 0 ≠ firstFree u := fun e => hni (e ▸ hlm)
    obtain ⟨_, hfp, hfn, _, hfv⟩ := fresh_page root
    have hL := lays_page hfp hx h1 h2 hq
    have hF := lays_fill hfp (by rw [hfn]; omega) h1 h2 hq hx
    have hsl := hL.lt
    have hdv := rid_div (id := firstFree u) (slot := freeS (freshP root)) (by omega)
    have hpgf : upd (upd pg (firstFree u) q) (ids.getD (ids.length - 1) 0) hh (firstFree u) = q := by rw [upd_ne (fun e => hlne e.symm), upd_self]
    have hpgl : upd (upd pg (firstFree u) q) (ids.getD (ids.length - 1) 0) hh (ids.getD (ids.length - 1) 0) = hh := upd_self _ _ _
    have hpgo : ∀ x, x ≠ firstFree u → x ≠ ids.getD (ids.length - 1) 0 → upd (upd pg (firstFree u) q) (ids.getD (ids.length - 1) 0) hh x = pg x := fun x a b => by rw [upd_ne b, upd_ne a]
    have hus : ∀ x, u.getD x false = true → (u.set (firstFree u) true).getD x false = true := fun x hx => by
      rw [P.getD_set_ne _ _ _ _ _ (fun e => by rw [← e, f1] at hx; cases hx)]; exact hx
    have hve : ∀ x, x ∈ ids → ∀ j, verAt (upd (upd pg (firstFree u) q) (ids.getD (ids.length - 1) 0) hh x) j = verAt (pg x) j := fun x hx j => by
      by_cases e : x = ids.getD (ids.length - 1) 0
      · rw [e, hpgl]; exact hHv j
      · rw [hpgo x (fun e2 => hni (e2 ▸ hx)) e]
    refine ⟨⟨⟨?_, by simp, ?_, ?_, ?_, ?_, ?_⟩, by simp, hus 0 h0, ?_⟩, ⟨?_, ?_, fun x hxr => ?_⟩, by omega, hsl, by have := hL.odd; omega, by simp, hL.odd⟩
    · rw [getD_append_lt hlen]; exact h.head
    · rw [List.nodup_append]
      exact ⟨h.nodup, by simp, fun x hx y hy e => by simp at hy; subst hy; subst e; exact hni hx⟩
    · intro x hx
      rcases List.mem_append.1 hx with hx | hx
      · exact hus x (h.used x hx)
      · simp at hx; subst hx; exact P.getD_set_self u _ true false hfu
    · intro i hi
      rw [List.length_append, List.length_singleton] at hi
      by_cases e : i = ids.length
      · subst e
        rw [getD_append_at, getD_over (by simp), hpgf]
        exact hL.page
      · have hi2 : i < ids.length := by omega
        rw [getD_append_lt hi2]
        by_cases e2 : i = ids.length - 1
        · subst e2
          rw [show ids.length - 1 + 1 = ids.length by omega, getD_append_at, hpgl]
          exact hH
        · rw [getD_append_lt (by omega), hpgo _ (fun e3 => hni (e3 ▸ getD_mem hi2)) (fun e3 => e2 (getD_inj h.nodup hi2 (by omega) e3))]
          exact h.page i hi2
    · intro i hi0 hi
      rw [List.length_append, List.length_singleton] at hi
      by_cases e : i = ids.length
      · subst e; rw [getD_append_at]; exact hpos
      · rw [getD_append_lt (by omega)]; exact h.pos i hi0 (by omega)
    · intro x hx
      rcases List.mem_append.1 hx with hx | hx
      · by_cases e : x = ids.getD (ids.length - 1) 0
        · rw [e, hpgl]
          obtain ⟨k1, k2⟩ := ct_isSome hlast.head
          have hlen8 : sL (pg (ids.getD (ids.length - 1) 0)) 0 = 8 := by rw [(ct_long hlast.pg.body.core hlast.head).2.2.1, head_len]
          have S := hr.swap hlast.pg k1 k2 (by rw [head_len]; omega) (by rw [head_len]; omega) (by rw [head_len, hlen8]; omega)
          rw [S.count]; exact h.slots _ hlm
        · rw [hpgo x (fun e2 => hni (e2 ▸ hx)) e]; exact h.slots x hx
      · simp at hx; subst hx; rw [hpgf]; exact hF.2
    · intro ho x hx
      by_cases e : x = firstFree u
      · simp [e]
      · rw [P.getD_set_ne _ _ _ _ _ (fun h => e h.symm)] at hx
        exact List.mem_append.2 (.inl (ho x hx))
    · unfold verR; rw [hdv.1, if_neg hni]
    · unfold verR; rw [hdv.1, hdv.2, if_pos (by simp), hpgf]; exact hL.mine
    · unfold verR
      by_cases e : x / 128 = firstFree u
      · rw [e, if_pos (by simp), if_neg hni, hpgf, hL.rest _ (fun e3 => hxr (by omega)), hfv]
      · by_cases e2 : x / 128 ∈ ids
        · rw [if_pos (List.mem_append.2 (.inl e2)), if_pos e2, hve _ e2]
        · rw [if_neg e2, if_neg (by simp [e, e2])]
/-- Other stamps. -/
theorem stamp_done (h : HeapIs u pg root ids) {r : Nat} {v : Ver} (hv : IsVer pg ids r v) {a b c : Nat} (ha : a < W64) (hb : b < W64) (hc : c < W64) {q : List UInt8} (hr : Rep (pg (r / 128)) (r % 128) (stampC a b c) q) :
    HeapIs u (upd pg (r / 128) q) root ids ∧ verR (upd pg (r / 128) q) ids r = some ⟨v.row, a, b, c⟩ ∧ ∀ x, x ≠ r → verR (upd pg (r / 128) q) ids x = verR pg ids x := by
  obtain ⟨hid, hver⟩ := hv
  obtain ⟨i, hi, he, hp⟩ := h.at hid
  have hS := stamp_page hp hver ha hb hc hr
  obtain ⟨hj, s, c1, c2, c3, c4, c5, c6⟩ := verAt_some hp hver
  obtain ⟨k1, k2⟩ := ct_isSome c1
  have hl : sL (pg (r / 128)) (r % 128) = 24 := by rw [(ct_long hp.pg.body.core c1).2.2.1, c3]
  have S := hr.swap hp.pg k1 k2 (by rw [stamp_len]; omega) (by rw [stamp_len]; omega) (by rw [stamp_len, hl]; omega)
  refine ⟨h.set hid (fun next hp2 => (stamp_page hp2 hver ha hb hc hr).1) (by rw [S.count]; exact h.slots _ hid), ?_, fun x hx => ?_⟩
  · rw [verR_upd, if_pos hid, if_pos rfl]; exact hS.2.1
  · rw [verR_upd]
    unfold verR
    by_cases e : x / 128 ∈ ids
    · rw [if_pos e, if_pos e]
      by_cases e2 : x / 128 = r / 128
      · rw [if_pos e2, e2]; exact hS.2.2 _ (fun e3 => hx (by omega))
      · rw [if_neg e2]
    · rw [if_neg e, if_neg e]
/-- A version is gone. -/
theorem free_done (h : HeapIs u pg root ids) {r : Nat} {v : Ver} (hv : IsVer pg ids r v) {q q2 : List UInt8} (hq : Del (pg (r / 128)) (r % 128 + 1) q) (hq2 : Del q (r % 128) q2) :
    HeapIs u (upd pg (r / 128) q2) root ids ∧ verR (upd pg (r / 128) q2) ids r = none ∧ ∀ x, x ≠ r → verR (upd pg (r / 128) q2) ids x = verR pg ids x := by
  obtain ⟨hid, hver⟩ := hv
  obtain ⟨i, hi, he, hp⟩ := h.at hid
  have hS := gone_page hp hver hq hq2
  obtain ⟨hj, s, c1, c2, c3, c4, c5, c6⟩ := verAt_some hp hver
  obtain ⟨k1, k2⟩ := ct_isSome c2
  have C1 := hq.cut hp.pg k1 k2
  have C2 := hq2.cut hS.1.2.2 hS.1.1 hS.1.2.1
  refine ⟨h.set hid (fun next hp2 => (gone_page hp2 hver hq hq2).2.1) (by have := C1.le; have := C2.le; have := h.slots _ hid; omega), ?_, fun x hx => ?_⟩
  · rw [verR_upd, if_pos hid, if_pos rfl]; exact hS.2.2.1
  · rw [verR_upd]
    unfold verR
    by_cases e : x / 128 ∈ ids
    · rw [if_pos e, if_pos e]
      by_cases e2 : x / 128 = r / 128
      · rw [if_pos e2, e2]; exact hS.2.2.2 _ (fun e3 => hx (by omega))
      · rw [if_neg e2]
    · rw [if_neg e, if_neg e]
end
end Go.Proofs.YtfkmjbpnjgnkbaaGreat.H

/-
  The program's heap: New, Open, Root; the law's made: by contracts.
-/
namespace Go.Proofs.YtfkmjbpnjgnkbaaGreat.H
set_option linter.unusedSimpArgs false
open Go Go.RowKit Go.Proofs.YtfkmjbpnjgnkbaaGreat.D Go.Proofs.YtfkmjbpnjgnkbaaGreat.B Go.Proofs.YtfkmjbpnjgnkbaaGreat.C Go.Proofs.YtfkmjbpnjgnkbaaGreat.G Go.Proofs.YtfkmjbpnjgnkbaaGreat.P
set_option linter.unusedVariables false
section
variable {w : World} {hb p root k : Nat} {M : List Nat} {u : List Bool} {pg : Nat → List UInt8} {ids : List Nat}
set_option maxRecDepth 100000 in
set_option maxHeartbeats 1000000 in
theorem hnew_any (hP : PoolV w p M u pg k) (hk : k + 10 ≤ 1000000) (hfu : firstFree u < u.length) :
    Calls Tryz.prog 27 #[.pointer (some ⟨p, 0, none⟩)] w fun e w' => ∃ hb M', e = .returned (.tuple #[.pointer (some ⟨hb, 0, none⟩), .int .i64 0]) ∧ HpAt w' hb p (firstFree u) ∧ hb ∉ M' ∧ w.heap.size ≤ hb ∧ PoolV w' p M' (u.set (firstFree u) true) (upd pg (firstFree u) (freshP (firstFree u))) (k + 4) ∧ Step M M' w w' := by
  have AL := Lib.hid (hP.alloc (by omega) hfu)
  have hs := hP.size
  have FR : Hid (∀ w1 hb, HpAt w1 hb p (firstFree u) → Calls Tryz.prog 34 #[.pointer (some ⟨hb, 0, none⟩)] w1 fun e w' => ∃ gb c, e = .returned (.slice (some ⟨gb, 0, none⟩) 512 c) ∧ Buf w' gb c (freshP (firstFree u)) ∧ w1.heap.size ≤ gb ∧ Only [] w1 w') := fun w1 hb h => fresh_any h (by omega)
  have hu1 : (u.set (firstFree u) true).getD (firstFree u) false = true := P.getD_set_self u _ true false hfu
  have PT : Hid (∀ w1 M1 gb c q, PoolV w1 p M1 (u.set (firstFree u) true) (upd pg (firstFree u) zeros) (k + 2) → Buf w1 gb c q → gb ∉ M1 → Calls Tryz.prog 32 #[.pointer (some ⟨p, 0, none⟩), .int .i64 (firstFree u : Nat), .slice (some ⟨gb, 0, none⟩) 512 c, .int .u64 0] w1 fun e w' => ∃ M', e = .returned (.int .i64 0) ∧ PoolV w' p M' (u.set (firstFree u) true) (upd (upd pg (firstFree u) zeros) (firstFree u) q) (k + 2 + 2) ∧ Step M1 M' w1 w') := fun w1 M1 gb c q h1 h2 h3 => h1.put (by omega) hu1 h2.at (fun a n c he => by simp only [Value.slice.injEq, Option.some.injEq] at he; obtain ⟨rfl, _, _⟩ := he; exact h3) h2.1
  have HP := Lib.hid hP
  clear hP hfu hu1 hs
  generalize freshP (firstFree u) = F at *
  generalize firstFree u = ff at *
  go_enter Tryz.func27, Tryz.ntmps27
  go_wp2_with (go_at_call 33; refine AL.out.mono ?_; rintro e w1 ⟨M1, rfl, hP1, hS1⟩; have P1 := Lib.hid hP1; have S1 := Lib.hid hS1; clear hP1 hS1)
  have H2 : Hid (HpAt (w1.alloc (.cells #[.pointer (some ⟨p, 0, none⟩), .int .i64 ff] 77)) w1.heap.size p ff) := Blk.new' _ _ w1 rfl
  refine (FR.out _ _ H2.out).mono ?_
  rintro e w2 ⟨g2, c2, rfl, hb2, hg2, hO2⟩
  have O2 : Hid (Only [] w1 w2) := (((Only.refl [] w1).alloc _).trans hO2 (by simp))
  have H3 := Lib.hid (H2.out.past hO2)
  have B2 := Lib.hid hb2
  have hsz : w1.heap.size + 1 ≤ g2 := by rw [World.size_alloc] at hg2; exact hg2
  have N2 : Hid (g2 ∉ M1) := fun hm => by have := P1.out.lt _ hm; omega
  clear hb2 hg2 hO2 hsz
  go_wp2_with (go_at_call 32; refine (PT.out _ _ _ _ _ (P1.out.past O2.out) B2.out N2.out).mono ?_; rintro e w3 ⟨M3, rfl, hP3, hS3⟩; have P3 := Lib.hid hP3; have S3 := Lib.hid hS3; clear hP3 hS3)
  go_ret2
  have hNM : w1.heap.size ∉ M1 := fun hm => Nat.lt_irrefl _ (P1.out.lt _ hm)
  refine ⟨w1.heap.size, M3, rfl, S3.out.1.blk H3.out hNM, P.Step.keep S3.out H3.out.lt hNM, S1.out.1.size, P3.out.congr (fun j hj => ?_), (S1.out.then O2.out).trans S3.out⟩
  unfold upd
  split <;> rfl
set_option maxRecDepth 100000 in
theorem hroot_any (hH : HpAt w hb p root) : Calls Tryz.prog 20 #[.pointer (some ⟨hb, 0, none⟩)] w fun e w' => e = .returned (.int .i64 root) ∧ w = w' := by
  have c1 := hH.cell 1
  simp only [List.getElem?_cons_succ, List.getElem?_cons_zero] at c1
  go_enter Tryz.func20, Tryz.ntmps20
  go_wp2
  go_ret
  exact ⟨rfl, rfl⟩
set_option maxRecDepth 100000 in
theorem hopen_any (hP : PoolV w p M u pg k) (hk : k ≤ 1000000) (hI : HeapIs u pg root ids) :
    Calls Tryz.prog 19 #[.pointer (some ⟨p, 0, none⟩), .int .i64 root] w fun e w' => ∃ hb M', e = .returned (.tuple #[.pointer (some ⟨hb, 0, none⟩), .int .i64 0]) ∧ HpAt w' hb p root ∧ hb ∉ M' ∧ w.heap.size ≤ hb ∧ PoolV w' p M' u pg (k + 2) ∧ Step M M' w w' := by
  have OA := (Only.refl [] w).alloc (.cells #[.pointer (some ⟨p, 0, none⟩), .int .i64 root] 77)
  have H2 : Hid (HpAt (w.alloc (.cells #[.pointer (some ⟨p, 0, none⟩), .int .i64 root] 77)) w.heap.size p root) := Blk.new' _ _ w rfl
  have hNM : w.heap.size ∉ M := fun hm => Nat.lt_irrefl _ (hP.lt _ hm)
  have hrm : root ∈ ids := by have := getD_mem hI.some_; rw [hI.head] at this; exact this
  have PY := Lib.hid (page_in (hP.past OA) hk H2.out hNM hI hrm)
  have HNM := Lib.hid hNM
  have OA' := Lib.hid OA
  clear hP hI hNM hrm OA
  go_enter Tryz.func19, Tryz.ntmps19
  go_wp2_with (go_at_call 48; refine PY.out.mono ?_; rintro e w2 ⟨gb, c, M2, n, rfl, hg⟩; have G2 := Lib.hid hg; clear hg)
  go_ret2
  obtain ⟨_, _, _, h1, h2⟩ := G2.out
  exact ⟨w.heap.size, M2, rfl, h2.1.blk H2.out HNM.out, P.Step.keep h2 H2.out.lt HNM.out, Nat.le_refl _, h1, Step.ahead OA'.out h2⟩
end
/-- The first state of a heap: one page. -/
def usedN (n : Nat) : List Bool := (List.replicate n false).set 0 true
def pg0 : Nat → List UInt8 := upd (fun _ => zeros) 0 (freshP 0)
theorem heap_first {n : Nat} (hn : 1 ≤ n) : HeapIs (usedN n) pg0 0 [0] ∧ Owns (usedN n) [0] ∧ (usedN n).getD 0 false = true ∧ (usedN n).length = n ∧ ∀ r, verR pg0 [0] r = none := by
  obtain ⟨_, hp, hs, _, hv⟩ := fresh_page 0
  have h0 : (usedN n).getD 0 false = true := P.getD_set_self _ 0 true false (by rw [List.length_replicate]; omega)
  refine ⟨⟨rfl, by simp, by simp, fun id hid => by simp at hid; subst hid; exact h0, fun i hi => ?_, fun i h1 h2 => by simp at h2; omega, fun id hid => ?_⟩, fun id hid => ?_, h0, by simp [usedN], fun r => ?_⟩
  · simp at hi; subst hi
    exact hp
  · simp at hid; subst hid
    show nS (freshP 0) ≤ 29
    omega
  · by_cases e : id = 0
    · simp [e]
    · unfold usedN at hid
      rw [P.getD_set_ne _ _ _ _ _ (fun h => e h.symm), List.getD_eq_getElem?_getD, List.getElem?_replicate] at hid
      split at hid <;> cases hid
  · unfold verR
    split
    · rename_i h
      simp at h
      have : r / 128 = 0 := by omega
      rw [this]
      exact hv _
    · rfl
/-- What made tells: a heap of one page, in a pool of n pages. -/
def MadeAt (w : World) (n : Nat) (p hb : Nat) (M : List Nat) (w' : World) : Prop := HpAt w' hb p 0 ∧ hb ∉ M ∧ w.heap.size ≤ hb ∧ PoolV w' p M (usedN n) pg0 4 ∧ Step [] M w w'
set_option maxRecDepth 100000 in
set_option maxHeartbeats 1000000 in
theorem made_any (w : World) (n : Nat) (h1 : 1 ≤ n) (h2 : n ≤ 65536) :
    Calls Tryz.prog 6 #[.int .i64 n] w fun e w' => ∃ p hb M, e = .returned (.tuple #[.pointer (some ⟨p, 0, none⟩), .pointer (some ⟨hb, 0, none⟩)]) ∧ MadeAt w n p hb M w' := by
  have DN := Lib.hid (Disk.new (n := n) (w := w) h1 h2)
  have PN : Hid (∀ w1 d M1, Disk w1 d M1 (DS.fresh n) → Calls Tryz.prog 26 #[.pointer (some ⟨d, 0, none⟩), .int .i64 0, .int .i64 n, .int .i64 24] w1 fun e w' => ∃ p M', e = .returned (.tuple #[.pointer (some ⟨p, 0, none⟩), .int .i64 0]) ∧ PoolV w' p M' (List.replicate n false) (fun _ => zeros) 0 ∧ Step M1 M' w1 w') := fun w1 d M1 hD => by
    have hl : (DS.fresh n).now.length = n := by simp [DS.fresh]
    refine (P.new_ok hD ⟨rfl, rfl, rfl⟩ (Int.le_refl _) 0 (Int.le_refl _) (Nat.le_refl _) 0 n 24 ⟨by omega, by omega, by omega, by rw [hl]; omega, by omega, by omega⟩).mono ?_
    rintro e w' ⟨p, M', rfl, hP, hS⟩
    exact ⟨p, M', rfl, ⟨d, _, hP, (fun f hf => by cases hf), rfl, rfl, fun j hj => by
      rw [List.getD_eq_getElem?_getD, List.getElem?_replicate] at hj
      split at hj <;> cases hj⟩, hS⟩
  have hff : firstFree (List.replicate n false) = 0 := by
    cases n with
    | zero => omega
    | succ n => simp [firstFree, List.replicate_succ, List.findIdx_cons]
  have HN : Hid (∀ w1 p M1, PoolV w1 p M1 (List.replicate n false) (fun _ => zeros) 0 → Calls Tryz.prog 27 #[.pointer (some ⟨p, 0, none⟩)] w1 fun e w' => ∃ hb M', e = .returned (.tuple #[.pointer (some ⟨hb, 0, none⟩), .int .i64 0]) ∧ HpAt w' hb p 0 ∧ hb ∉ M' ∧ w1.heap.size ≤ hb ∧ PoolV w' p M' (usedN n) pg0 4 ∧ Step M1 M' w1 w') := fun w1 p M1 hP => by
    have := hnew_any hP (by omega) (by rw [hff, List.length_replicate]; omega)
    rw [hff] at this
    exact this
  clear hff h1 h2
  go_enter Tryz.func6, Tryz.ntmps6
  go_wp2_with (first
    | (go_at_call 25; refine DN.out.mono ?_; rintro e w1 ⟨d, M1, rfl, hD1, hS1⟩; have D1 := Lib.hid hD1; have S1 := Lib.hid hS1; clear hD1 hS1)
    | (go_at_call 26; refine (PN.out _ _ _ D1.out).mono ?_; rintro e w2 ⟨p, M2, rfl, hP2, hS2⟩; have P2 := Lib.hid hP2; have S2 := Lib.hid hS2; clear hP2 hS2)
    | (go_at_call 27; refine (HN.out _ _ _ P2.out).mono ?_; rintro e w3 ⟨hb, M3, rfl, hH3, hn3, hl3, hP3, hS3⟩; have R3 := Lib.hid (And.intro hH3 (And.intro hn3 (And.intro hl3 (And.intro hP3 hS3)))); clear hH3 hn3 hl3 hP3 hS3))
  go_ret2
  obtain ⟨r1, r2, r3, r4, r5⟩ := R3.out
  have hs := (S1.out.trans S2.out).1.size
  exact ⟨p, hb, M3, rfl, r1, r2, by omega, r4, (S1.out.trans S2.out).trans r5⟩
end Go.Proofs.YtfkmjbpnjgnkbaaGreat.H
