/-
  The program's table of transactions: Horizon, Dead: by contracts.
-/
import Derived.Test.YtilkbcoofbkemaaTxnC
import Derived.Deep.LoopGhost
import Derived.Test.YtilkbcoofbkemaaQuietL
namespace Go.Proofs.Ytilkbcoofbkemaa.T
set_option linter.unusedSimpArgs false
open Go Go.RowKit Go.Proofs.Ytilkbcoofbkemaa.I
set_option linter.unusedVariables false

/-- One of the numbers that the horizon is the least of. -/
def TS.Num (S : TS) (x : Nat) : Prop := x = S.next ∨ ∃ s ∈ S.opens, x = s.own ∨ x ∈ s.op
def Snap.le (o : Nat) (s : Snap) : Prop := o ≤ s.own ∧ ∀ x ∈ s.op, o ≤ x
def TS.IsHor (S : TS) (o : Nat) : Prop := S.Num o ∧ o ≤ S.next ∧ ∀ s ∈ S.opens, s.le o
theorem TS.IsHor.eq {S : TS} {a b : Nat} (h : S.IsHor a) (h2 : S.IsHor b) : a = b := by
  have le : ∀ {a b}, S.IsHor a → S.IsHor b → a ≤ b := fun {a b} h h2 => by
    rcases h2.1 with rfl | ⟨s, hs, rfl | hx⟩
    · exact h.2.1
    · exact (h.2.2 s hs).1
    · exact (h.2.2 s hs).2 _ hx
  exact Nat.le_antisymm (le h h2) (le h2 h)
def Snap.low (o : Nat) (s : Snap) : Nat := s.op.foldl min (min o s.own)
def TS.horizon (S : TS) : Nat := S.opens.foldl (fun o s => s.low o) S.next
theorem foldl_min (l : List Nat) : ∀ o : Nat, (l.foldl min o = o ∨ l.foldl min o ∈ l) ∧ l.foldl min o ≤ o ∧ ∀ x ∈ l, l.foldl min o ≤ x := by
  induction l with
  | nil => intro o; exact ⟨.inl rfl, Nat.le_refl _, fun x hx => by cases hx⟩
  | cons a l ih =>
    intro o
    obtain ⟨h1, h2, h3⟩ := ih (min o a)
    refine ⟨?_, Nat.le_trans h2 (Nat.min_le_left _ _), fun x hx => ?_⟩
    · rcases h1 with h1 | h1
      · by_cases h : o ≤ a
        · left; show l.foldl min (min o a) = o; rw [h1]; omega
        · right; show l.foldl min (min o a) ∈ a :: l; rw [h1, show min o a = a by omega]; simp
      · right; exact List.mem_cons_of_mem _ h1
    · rcases List.mem_cons.1 hx with rfl | hx
      · exact Nat.le_trans h2 (Nat.min_le_right _ _)
      · exact h3 x hx
theorem Snap.low_spec (o : Nat) (s : Snap) : (s.low o = o ∨ s.low o = s.own ∨ s.low o ∈ s.op) ∧ s.low o ≤ o ∧ s.le (s.low o) := by
  obtain ⟨h1, h2, h3⟩ := foldl_min s.op (min o s.own)
  refine ⟨?_, Nat.le_trans h2 (Nat.min_le_left _ _), Nat.le_trans h2 (Nat.min_le_right _ _), h3⟩
  rcases h1 with h1 | h1
  · by_cases h : o ≤ s.own
    · left; unfold Snap.low; rw [h1]; omega
    · right; left; unfold Snap.low; rw [h1]; omega
  · right; right; exact h1
theorem TS.horizon_is (S : TS) : S.IsHor S.horizon := by
  have key : ∀ (l : List Snap) (o : Nat), ((l.foldl (fun o s => s.low o) o = o ∨ ∃ s ∈ l, l.foldl (fun o s => s.low o) o = s.own ∨ l.foldl (fun o s => s.low o) o ∈ s.op) ∧ l.foldl (fun o s => s.low o) o ≤ o ∧ ∀ s ∈ l, s.le (l.foldl (fun o s => s.low o) o)) := by
    intro l
    induction l with
    | nil => intro o; exact ⟨.inl rfl, Nat.le_refl _, fun s hs => by cases hs⟩
    | cons a l ih =>
      intro o
      obtain ⟨h1, h2, h3⟩ := ih (a.low o)
      obtain ⟨g1, g2, g3⟩ := Snap.low_spec o a
      refine ⟨?_, Nat.le_trans h2 g2, fun s hs => ?_⟩
      · rcases h1 with h1 | ⟨s, hs, h1⟩
        · rcases g1 with g1 | g1 | g1
          · exact .inl (h1.trans g1)
          · exact .inr ⟨a, by simp, .inl (h1.trans g1)⟩
          · exact .inr ⟨a, by simp, .inr (by show l.foldl _ (a.low o) ∈ _; rw [h1]; exact g1)⟩
        · exact .inr ⟨s, List.mem_cons_of_mem _ hs, h1⟩
      · rcases List.mem_cons.1 hs with rfl | hs
        · exact ⟨Nat.le_trans h2 g3.1, fun x hx => Nat.le_trans h2 (g3.2 x hx)⟩
        · exact h3 s hs
  obtain ⟨h1, h2, h3⟩ := key S.opens S.next
  exact ⟨h1, h2, h3⟩
theorem inj_once : ∀ {l : List Snap}, (l.map (·.own)).Nodup → ∀ a ∈ l, ∀ b ∈ l, a.own = b.own → a = b
  | [], _, a, ha, _, _, _ => by cases ha
  | c :: l, h, a, ha, b, hb, e => by
    rw [List.map_cons, List.nodup_cons] at h
    rcases List.mem_cons.1 ha with ha | ha
    · rcases List.mem_cons.1 hb with hb | hb
      · rw [ha, hb]
      · exact absurd (List.mem_map_of_mem (f := (·.own)) hb) (by rw [← e, ha]; exact h.1)
    · rcases List.mem_cons.1 hb with hb | hb
      · exact absurd (List.mem_map_of_mem (f := (·.own)) ha) (by rw [e, hb]; exact h.1)
      · exact inj_once h.2 a ha b hb e
/-- All but those in left are looked at. -/
def TS.Part (S : TS) (left : Pairs) (o : Nat) : Prop := S.Num o ∧ o ≤ S.next ∧ ∀ s ∈ S.opens, (∀ u ∈ left, u.1 ≠ (s.own : Int)) → s.le o
theorem TS.Part.step {S : TS} (ho : S.Once) {left : Pairs} {o o2 : Nat} (h : S.Part left o) {s : Snap} (hs : s ∈ S.opens) (h1 : S.Num o2) (h2 : o2 ≤ o) (h3 : s.le o2) : S.Part (mdel left s.own) o2 := by
  refine ⟨h1, Nat.le_trans h2 h.2.1, fun s2 hs2 hu => ?_⟩
  by_cases e : s2.own = s.own
  · have : s2 = s := by
      exact inj_once ho s2 hs2 s hs e
    subst this; exact h3
  · have := h.2.2 s2 hs2 (fun u hu2 hc => by
      refine hu u ?_ hc
      unfold mdel
      rw [List.mem_filter]
      exact ⟨hu2, by simp; intro e2; exact e (by omega)⟩)
    exact ⟨Nat.le_trans h2 this.1, fun x hx => Nat.le_trans h2 (this.2 x hx)⟩
theorem TS.Part.done {S : TS} {o : Nat} (h : S.Part [] o) : o = S.horizon := TS.IsHor.eq ⟨h.1, h.2.1, fun s hs => h.2.2 s hs (by simp)⟩ S.horizon_is
set_option maxHeartbeats 1000000 in
theorem horizon_any {w : World} {t bo bg : Nat} {L : Opens} {S : TS} (h : TabAt w t bo bg L S) (ho : S.Once) (hl : ∀ s ∈ S.opens, s.op.length ≤ 1048576) :
    Calls Try.prog 11 #[.pointer (some ⟨t, 0, none⟩)] w fun e w' => e = .returned (.int .u64 S.horizon) ∧ Only [] w w' := by
  have HH := Lib.hid h
  have c0 := h.tab.cell 0
  have c1 := h.tab.cell 1
  simp only [List.getElem?_cons_succ, List.getElem?_cons_zero] at c0 c1
  obtain ⟨nx, hnx⟩ : ∃ nx, S.next = nx := ⟨_, rfl⟩
  have HNX := Lib.hid hnx
  rw [hnx] at c0
  have HO := Lib.hid ho
  have HL := Lib.hid hl
  clear h hnx ho hl
  have PT0 : Hid (S.Part (openM L) nx) := by
    refine ⟨.inl HNX.out.symm, by rw [HNX.out]; exact Nat.le_refl _, fun s hs hu => ?_⟩
    rw [← HH.out.fst, List.mem_map] at hs
    obtain ⟨p, hp, rfl⟩ := hs
    exact absurd rfl (hu ((p.1.own : Int), snapV p.1 p.2) (List.mem_map_of_mem (f := fun p : Snap × Value => ((p.1.own : Int), snapV p.1 p.2)) hp))
  go_enter Try.func11, Try.ntmps11
  go_wp2_with (at_range; refine wpList_range rfl _ 63 rfl Try.underlying63 bo (openM L) rfl HH.out.opn ?_; intro w1 hit hO1 hs1)
  go_frame
  have O1 := Lib.hid hO1
  have IT := Lib.hid hit
  clear hO1 hit c0 c1
  go_loopg [3] L.length (fun gk out wr => ∃ (left : Pairs) (o : Nat), gk = left.length ∧ out = .int .u64 o ∧ IterAt wr w.heap.size bo .u64 (openM L) left ∧ S.Part left o ∧ Only [] w wr)
  case atStart => exact ⟨openM L, nx, by simp [openM], rfl, IT.out, PT0.out, O1.out⟩
  case round =>
    obtain ⟨left, o, hgk, rfl, hit, hpt, hO⟩ := hrel
    have HGK := Lib.hid hgk
    have IT := Lib.hid hit
    have PT := Lib.hid hpt
    have OO := Lib.hid hO
    clear hgk hit hpt hO
    go_wp2_with (at_next; refine wpList_next rfl _ rfl w.heap.size bo (openM L) left rfl IT.out ?_ ?_)
    case refine_1 =>
      intro h0
      have E : Hid (o = S.horizon) := TS.Part.done (h0 ▸ PT.out)
      clear h0
      go_wp2_with fail
      go_ret
      rw [← E.out]
      exact ⟨rfl, OO.out⟩
    case refine_2 =>
      intro x u w2 hmem hit2 hO2 hs2 hen
      have hsub := IT.out.sub _ hmem
      simp only [openM, List.mem_map] at hsub
      obtain ⟨p, hp, hpe⟩ := hsub
      obtain ⟨rfl, rfl⟩ := Prod.mk.inj hpe
      have OO2 : Hid (Only [] w w2) := OO.out.trans hO2 (fun y hy => by simp at hy; subst hy; right; exact Nat.le_refl _)
      have hrow := (HH.out.past OO2.out).rows p hp
      obtain ⟨ao, cap, hpv⟩ := owns_form hrow
      have hna := nats_owned hrow
      have hsn : p.1 ∈ S.opens := by rw [← HH.out.fst]; exact List.mem_map_of_mem hp
      obtain ⟨⟨own, pn, op⟩, pv⟩ := p
      have hpv : pv = .slice ao op.length cap := hpv
      subst hpv
      have SN := Lib.hid hsn
      have NA := Lib.hid hna
      have IT2 := Lib.hid hit2
      have ML : Hid ((mdel left own).length < left.length) := by
        have := left_shorter hmem IT.out.nodup
        show _ < _
        simp only at this
        omega
      have hl : op.length ≤ 1048576 := HL.out _ SN.out
      simp only [snapV] at hen
      clear hpe hp hmem hit2 hO2 hs2 hrow hna hsn
      generalize hpl : op.length = m at *
      have HPL := Lib.hid hpl
      clear hpl
      have N2 : Hid (S.Num (min o own)) := by
        show S.Num _
        rcases Nat.le_total o own with h | h
        · rw [Nat.min_eq_left h]; exact PT.out.1
        · rw [Nat.min_eq_right h]; exact .inr ⟨_, SN.out, .inl rfl⟩
      have em : min (o : Int) (own : Int) = ((min o own : Nat) : Int) := by omega
      have hm2 : (m : Int) ≤ 1048576 := by omega
      go_wp2_with fail
      generalize ho2 : min o own = o2 at *
      have HO2 := Lib.hid ho2
      clear em ho2
      go_loop [3, 28] (fun out i => ∃ (k o3 : Nat), k ≤ m ∧ i = .int .i64 k ∧ out = .int .u64 o3 ∧ S.Num o3 ∧ o3 ≤ o2 ∧ ∀ j, j < k → o3 ≤ op.getD j 0) (fun out i => m - (intOf i).toNat)
      case atStart => exact ⟨0, o2, Nat.zero_le _, rfl, rfl, N2.out, Nat.le_refl _, fun j hj => by omega⟩
      case round =>
        obtain ⟨k, o3, hk, rfl, rfl, hn3, ho3, hj3⟩ := hrel
        have N3 := Lib.hid hn3
        have J3 := Lib.hid hj3
        have L3 := Lib.hid ho3
        clear hn3 hj3 ho3
        by_cases hlt : k < m
        · obtain ⟨b, off, rfl⟩ : ∃ b off, ao = some ⟨b, off, none⟩ := by
            obtain ⟨ao', c', he, hc⟩ := NA.out
            obtain ⟨b, off, h1, _⟩ := hc (by rw [HPL.out]; omega)
            cases he
            exact ⟨b, off, h1⟩
          have c : (w2.alloc (.cells #[.int .u64 own, .int .u64 pn, .slice (some ⟨b, off, none⟩) m cap] 29)).cell? ⟨b, off + k, none⟩ = some (.int .u64 (op.getD k 0 : Nat)) := Blk.cellAlloc _ (NA.out.cellAt (by rw [HPL.out]; exact hlt))
          have HG : Hid (op.getD k 0 ∈ op) := by show _ ∈ _; rw [List.getD_eq_getElem?_getD, List.getElem?_eq_getElem (by rw [HPL.out]; exact hlt)]; exact List.getElem_mem _
          generalize hx : op.getD k 0 = x at *
          have HX := Lib.hid hx
          clear hx
          have hki : (k : Int) < m := by omega
          have em : min (o3 : Int) (x : Int) = ((min o3 x : Nat) : Int) := by omega
          go_wp2_with fail
          refine ⟨⟨k + 1, min o3 x, by omega, by go_num, rfl, ?_, Nat.le_trans (Nat.min_le_left _ _) L3.out, fun j hj => ?_⟩, by simp [intOf]; omega⟩
          · rcases Nat.le_total o3 x with h | h
            · rw [Nat.min_eq_left h]; exact N3.out
            · rw [Nat.min_eq_right h]; exact .inr ⟨_, SN.out, .inr HG.out⟩
          · rcases Nat.lt_or_ge j k with h1 | h1
            · exact Nat.le_trans (Nat.min_le_left _ _) (J3.out j h1)
            · obtain rfl : j = k := by omega
              rw [HX.out]; exact Nat.min_le_right _ _
        · obtain rfl : k = m := by omega
          go_wp2_with fail
          go_roundg (mdel left own).length
          case measure => rw [HGK.out]; exact ML.out
          refine ⟨mdel left own, o3, rfl, rfl, IT2.out.past ((Only.refl _ _).alloc _), PT.out.step HO.out SN.out N3.out ?_ ⟨?_, fun x hx => ?_⟩, OO2.out.alloc _⟩
          · have h1 := L3.out; have h2 := HO2.out; omega
          · have h1 := L3.out; have h2 := HO2.out; show o3 ≤ own; omega
          · obtain ⟨j, hj, e⟩ := List.mem_iff_getElem.1 hx
            have := J3.out j (by have := HPL.out; simp only at hj; omega)
            rw [List.getD_eq_getElem?_getD, List.getElem?_eq_getElem hj] at this
            rw [← e]; exact this
/-! ### Dead -/
def TS.dead (S : TS) (xmin xmax : Nat) : Bool := decide (S.state xmin = 3) || (decide (S.state xmax = 2) && decide (xmax < S.horizon))
set_option maxHeartbeats 2000000 in
theorem dead_any {w : World} {t bo bg : Nat} {L : Opens} {S : TS} (h : TabAt w t bo bg L S) (ho : S.Once) (hl : ∀ s ∈ S.opens, s.op.length ≤ 1048576) (xmin xmax : Nat) :
    Calls Try.prog 20 #[.pointer (some ⟨t, 0, none⟩), verV xmin xmax] w fun e w' => e = .returned (.bool (S.dead xmin xmax)) ∧ Only [] w w' := by
  have SE : Hid (∀ (id : Nat) (z : Int), S.state id = z → ∀ w1, Only [] w w1 → Calls Try.prog 12 #[.pointer (some ⟨t, 0, none⟩), .int .u64 id] w1 fun e w' => e = .returned (.int .i64 z) ∧ Only [] w1 w') := fun id z e w1 hO => by
    have := state_any (h.past hO) ho id
    rw [e] at this; exact this
  have HE : Hid (∀ (z : Nat), S.horizon = z → ∀ w1, Only [] w w1 → Calls Try.prog 11 #[.pointer (some ⟨t, 0, none⟩)] w1 fun e w' => e = .returned (.int .u64 z) ∧ Only [] w1 w') := fun z e w1 hO => by
    have := horizon_any (h.past hO) ho hl
    rw [e] at this; exact this
  have OA : Only [] w (w.alloc (.cells #[.slice none 0 0, .int .u64 xmin, .int .u64 xmax, .int .u64 0] 47)) := (Only.refl _ _).alloc _
  show Calls _ _ #[_, .agg #[.slice none 0 0, .int .u64 xmin, .int .u64 xmax, .int .u64 0]] _ _
  clear h hl
  generalize hz1 : S.state xmin = z1
  have B0 : Blk (w.alloc (.cells #[.slice none 0 0, .int .u64 xmin, .int .u64 xmax, .int .u64 0] 47)) w.heap.size [.slice none 0 0, .int .u64 xmin, .int .u64 xmax, .int .u64 0] 47 := Blk.new _ _ w
  have y1 := B0.cell 1
  have y2 := B0.cell 2
  simp only [List.getElem?_cons_succ, List.getElem?_cons_zero] at y1 y2
  obtain ⟨wa, hwa⟩ : ∃ wa, w.alloc (.cells #[.slice none 0 0, .int .u64 xmin, .int .u64 xmax, .int .u64 0] 47) = wa := ⟨_, rfl⟩
  have HWA := Lib.hid hwa
  rw [hwa] at OA B0 y1 y2
  clear hwa
  have OW := Lib.hid OA
  have HC1 := Later.cell y1
  have HC2 := Later.cell y2
  clear B0 y1 y2 OA
  have LS : Hid (∀ (id : Nat) (z : Int), S.state id = z → ∀ x : Later wa, Calls Try.prog 12 #[.pointer (some ⟨t, 0, none⟩), .int .u64 id] x.v fun e w' => e = .returned (.int .i64 z) ∧ ∃ y : Later wa, w' = y.v) := fun id z e x => Calls.later (fun w1 hO => SE.out id z e w1 (OW.out.trans hO (by simp))) x
  have LH : Hid (∀ (z : Nat), S.horizon = z → ∀ x : Later wa, Calls Try.prog 11 #[.pointer (some ⟨t, 0, none⟩)] x.v fun e w' => e = .returned (.int .u64 z) ∧ ∃ y : Later wa, w' = y.v) := fun z e x => Calls.later (fun w1 hO => HE.out z e w1 (OW.out.trans hO (by simp))) x
  have S1 := Lib.hid (LS.out xmin z1 hz1)
  by_cases h1 : z1 = 3
  · have E : Hid (S.dead xmin xmax = true) := by show _ = _; unfold TS.dead; rw [hz1, decide_eq_true h1]; rfl
    subst h1
    clear hz1
    go_enter Try.func20, Try.ntmps20
    go_wp2_with fail
    rw [HWA.out]
    refine wp_region_later (Only.refl _ _) (by kernel_rfl) (by kernel_rfl) ?_
    repeat (go_big_quiet_step (first | (go_at_call_of 12 (Value.int .u64 (xmin : Int)); exact S1.out _)))
    refine wpQuiet_nil ?_
    rintro _ ⟨xq, rfl⟩
    go_wp2_with fail
    go_ret
    rw [E.out]
    exact ⟨rfl, OW.out.trans xq.h (by simp)⟩
  have h1i : (z1 == 3) = false := by simp [h1]
  generalize hz2 : S.state xmax = z2
  have S2 := Lib.hid (LS.out xmax z2 hz2)
  by_cases h2 : z2 = 2
  · subst h2
    generalize hz3 : S.horizon = z3
    have S3 := Lib.hid (LH.out z3 hz3)
    have E : Hid (S.dead xmin xmax = decide (xmax < z3)) := by show _ = _; unfold TS.dead; rw [hz1, hz2, hz3, decide_eq_false h1]; simp
    clear hz1 hz2 hz3 h1
    go_enter Try.func20, Try.ntmps20
    go_wp2_with fail
    rw [HWA.out]
    refine wp_region_later (Only.refl _ _) (by kernel_rfl) (by kernel_rfl) ?_
    repeat (go_big_quiet_step (first | (go_at_call_of 12 (Value.int .u64 (xmin : Int)); exact S1.out _) | (go_at_call_of 12 (Value.int .u64 (xmax : Int)); exact S2.out _) | (go_at_call 11; exact S3.out _)))
    refine wpQuiet_nil ?_
    rintro _ ⟨xq, rfl⟩
    go_wp2_with fail
    go_ret
    rw [E.out]
    exact ⟨rfl, OW.out.trans xq.h (by simp)⟩
  · have h2i : (z2 == 2) = false := by simp [h2]
    have E : Hid (S.dead xmin xmax = false) := by show _ = _; unfold TS.dead; rw [hz1, hz2, decide_eq_false h1, decide_eq_false h2]; simp
    clear hz1 hz2 h1 h2
    go_enter Try.func20, Try.ntmps20
    go_wp2_with fail
    rw [HWA.out]
    refine wp_region_later (Only.refl _ _) (by kernel_rfl) (by kernel_rfl) ?_
    repeat (go_big_quiet_step (first | (go_at_call_of 12 (Value.int .u64 (xmin : Int)); exact S1.out _) | (go_at_call_of 12 (Value.int .u64 (xmax : Int)); exact S2.out _)))
    refine wpQuiet_nil ?_
    rintro _ ⟨xq, rfl⟩
    go_wp2_with fail
    go_ret
    rw [E.out]
    exact ⟨rfl, OW.out.trans xq.h (by simp)⟩
end Go.Proofs.Ytilkbcoofbkemaa.T
