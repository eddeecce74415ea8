/-
  The document's table: Write, Dead, by contracts.
-/
import Derived.Test.YtilkbcoofbkemaaRefE
namespace Go.Proofs.Ytilkbcoofbkemaa.T
set_option linter.unusedSimpArgs false
open Go Go.RowKit Go.Proofs.Ytilkbcoofbkemaa.I
set_option linter.unusedVariables false
variable {w : World} {r n0 : Nat} {v0 : Value} {R : RRows} {S : TS}
set_option maxHeartbeats 1000000 in
theorem rwrite_any (h : RefAt w r n0 v0 R S) (s : Snap) (v : Value) (hv : NatsAt w v s.op) (hl : s.op.length ≤ 1048576) (xmin xmax : Nat) (hxa : xmin < 18446744073709551616) (hxb : xmax < 18446744073709551616) (hown : s.own < 18446744073709551616) :
    Calls Try.prog 31 #[.pointer (some ⟨r, 0, none⟩), snapV s v, verV xmin xmax] w fun e w' => e = .returned (.int .i64 (S.write s xmin xmax)) ∧ Only [] w w' := by
  have VE : Hid (∀ w1, Only [] w w1 → Calls Try.prog 30 #[.pointer (some ⟨r, 0, none⟩), snapV s v, verV xmin xmax] w1 fun e w' => e = .returned (.bool (S.vis s xmin xmax)) ∧ Only [] w1 w') := fun w1 hO =>
    rvisible_any (h.past hO) s v (hv.past hO) hl xmin xmax hxa hxb
  have SE : Hid (∀ (id : Nat) (z : Int), id < 18446744073709551616 → S.state id = z → ∀ w1, Only [] w w1 → Calls Try.prog 32 #[.pointer (some ⟨r, 0, none⟩), .int .u64 id] w1 fun e w' => e = .returned (.int .i64 z) ∧ Only [] w1 w') := fun id z hb e w1 hO => by
    have := rstate_any (h.past hO) id hb
    rw [e] at this; exact this
  obtain ⟨own, next, op⟩ := s
  have hown : own < 18446744073709551616 := hown
  obtain ⟨ao, cap, rfl, hc⟩ := hv
  simp only [snapV, verV] at VE
  have OA : Hid (Only [] w ((w.alloc (.cells #[.int .u64 own, .int .u64 next, .slice ao op.length cap] 29)).alloc (.cells #[.slice none 0 0, .int .u64 xmin, .int .u64 xmax, .int .u64 0] 47))) := ((Only.refl _ _).alloc _).alloc _
  have B : Hid (∀ w2, Only [] ((w.alloc (.cells #[.int .u64 own, .int .u64 next, .slice ao op.length cap] 29)).alloc (.cells #[.slice none 0 0, .int .u64 xmin, .int .u64 xmax, .int .u64 0] 47)) w2 → Blk w2 w.heap.size [.int .u64 own, .int .u64 next, .slice ao op.length cap] 29 ∧ Blk w2 (w.heap.size + 1) [.slice none 0 0, .int .u64 xmin, .int .u64 xmax, .int .u64 0] 47) := fun w2 hO => ⟨hO.blk ((Blk.new _ _ w).alloc _) (by simp), hO.blk (Blk.new' _ _ _ (by simp)) (by simp)⟩
  clear hc h
  show Calls _ _ #[_, .agg #[.int .u64 own, .int .u64 next, .slice ao op.length cap], .agg #[.slice none 0 0, .int .u64 xmin, .int .u64 xmax, .int .u64 0]] _ _
  generalize hz : S.vis ⟨own, next, op⟩ xmin xmax = z at *
  cases z with
  | false =>
    have E : Hid (S.write ⟨own, next, op⟩ xmin xmax = 100) := by show _ = _; unfold TS.write; rw [hz]; simp
    clear hz
    go_enter Try.func31, Try.ntmps31
    go_wp2_with (go_at_call 30; refine (VE.out _ OA.out).mono ?_; rintro e w2 ⟨rfl, hO2⟩)
    go_ret
    rw [E.out]
    exact ⟨rfl, OA.out.trans hO2 (by simp)⟩
  | true =>
    generalize hzo : S.state own = zo
    have S1 := Lib.hid (SE.out own zo hown hzo)
    by_cases h1 : zo = 1
    · have h1i : (zo != 1) = false := by simp [h1]
      generalize hzx : S.state xmax = zx
      have S2 := Lib.hid (SE.out xmax zx hxb hzx)
      have E : Hid (S.write ⟨own, next, op⟩ xmin xmax = if zx = 1 ∨ zx = 2 then 101 else 0) := by show _ = _; unfold TS.write; rw [hz, if_pos ⟨rfl, hzo.trans h1⟩, hzx]
      have Z0 : Hid (xmax = 0 → zx = 0) := fun e => by subst e; rw [← hzx]; unfold TS.state; rw [if_pos (.inl rfl)]
      clear hz hzo hzx SE
      have A1 : Hid (zo = 1) := h1
      subst h1
      obtain ⟨res, hres⟩ : ∃ res, S.write ⟨own, next, op⟩ xmin xmax = res := ⟨_, rfl⟩
      rw [hres] at E ⊢
      have b0 : ((xmax : Int) != 0) = (decide (xmax ≠ 0)) := by
        by_cases h : xmax = 0
        · simp [h]
        · rw [decide_eq_true h]; simp; exact h
      clear A1
      by_cases h0 : xmax = 0
      · have R0 : Hid (res = 0) := by show _ = _; rw [E.out, Z0.out h0]; rfl
        subst h0
        clear E b0
        go_enter Try.func31, Try.ntmps31
        go_wp2_with (first | (go_at_call 30; refine (VE.out _ OA.out).mono ?_; rintro e w2 ⟨rfl, hO2⟩; have x0 := (B.out _ hO2).1.cell 0; simp only [List.getElem?_cons_succ, List.getElem?_cons_zero] at x0) | (go_at_call_of 32 (Value.int .u64 (own : Int)); have hO3 := OA.out.trans hO2 (by simp); refine (S1.out _ hO3).mono ?_; rintro e w3 ⟨rfl, hO4⟩; have hB4 := hO2.trans hO4 (by simp); have y2 := (B.out _ hB4).2.cell 2; simp only [List.getElem?_cons_succ, List.getElem?_cons_zero] at y2) | (go_at_call 32; have hO5 := hO3.trans hO4 (by simp); refine (S2.out _ hO5).mono ?_; rintro e w4 ⟨rfl, hO6⟩; have y2' := (B.out _ (hB4.trans hO6 (by simp))).2.cell 2; simp only [List.getElem?_cons_succ, List.getElem?_cons_zero] at y2'))
        go_ret
        rw [R0.out]
        exact ⟨rfl, hO5.trans hO6 (by simp)⟩
      rw [decide_eq_true h0] at b0
      by_cases h2 : zx = 1
      · have R0 : Hid (res = 101) := by show _ = _; rw [E.out, if_pos (.inl h2)]
        subst h2
        clear E h0
        go_enter Try.func31, Try.ntmps31
        go_wp2_with (first | (go_at_call 30; refine (VE.out _ OA.out).mono ?_; rintro e w2 ⟨rfl, hO2⟩; have x0 := (B.out _ hO2).1.cell 0; simp only [List.getElem?_cons_succ, List.getElem?_cons_zero] at x0) | (go_at_call_of 32 (Value.int .u64 (own : Int)); have hO3 := OA.out.trans hO2 (by simp); refine (S1.out _ hO3).mono ?_; rintro e w3 ⟨rfl, hO4⟩; have hB4 := hO2.trans hO4 (by simp); have y2 := (B.out _ hB4).2.cell 2; simp only [List.getElem?_cons_succ, List.getElem?_cons_zero] at y2) | (go_at_call 32; have hO5 := hO3.trans hO4 (by simp); refine (S2.out _ hO5).mono ?_; rintro e w4 ⟨rfl, hO6⟩; have y2' := (B.out _ (hB4.trans hO6 (by simp))).2.cell 2; simp only [List.getElem?_cons_succ, List.getElem?_cons_zero] at y2'))
        go_ret
        rw [R0.out]
        exact ⟨rfl, hO5.trans hO6 (by simp)⟩
      by_cases h3 : zx = 2
      · have R0 : Hid (res = 101) := by show _ = _; rw [E.out, if_pos (.inr h3)]
        subst h3
        clear E h0 h2
        go_enter Try.func31, Try.ntmps31
        go_wp2_with (first | (go_at_call 30; refine (VE.out _ OA.out).mono ?_; rintro e w2 ⟨rfl, hO2⟩; have x0 := (B.out _ hO2).1.cell 0; simp only [List.getElem?_cons_succ, List.getElem?_cons_zero] at x0) | (go_at_call_of 32 (Value.int .u64 (own : Int)); have hO3 := OA.out.trans hO2 (by simp); refine (S1.out _ hO3).mono ?_; rintro e w3 ⟨rfl, hO4⟩; have hB4 := hO2.trans hO4 (by simp); have y2 := (B.out _ hB4).2.cell 2; simp only [List.getElem?_cons_succ, List.getElem?_cons_zero] at y2) | (go_at_call 32; have hO5 := hO3.trans hO4 (by simp); refine (S2.out _ hO5).mono ?_; rintro e w4 ⟨rfl, hO6⟩; have y2' := (B.out _ (hB4.trans hO6 (by simp))).2.cell 2; simp only [List.getElem?_cons_succ, List.getElem?_cons_zero] at y2'))
        go_ret
        rw [R0.out]
        exact ⟨rfl, hO5.trans hO6 (by simp)⟩
      · have h2i : (zx == 1) = false := by simp [h2]
        have h3i : (zx == 2) = false := by simp [h3]
        have R0 : Hid (res = 0) := by show _ = _; rw [E.out, if_neg (by simp [h2, h3])]
        clear E h0 h2 h3
        go_enter Try.func31, Try.ntmps31
        go_wp2_with (first | (go_at_call 30; refine (VE.out _ OA.out).mono ?_; rintro e w2 ⟨rfl, hO2⟩; have x0 := (B.out _ hO2).1.cell 0; simp only [List.getElem?_cons_succ, List.getElem?_cons_zero] at x0) | (go_at_call_of 32 (Value.int .u64 (own : Int)); have hO3 := OA.out.trans hO2 (by simp); refine (S1.out _ hO3).mono ?_; rintro e w3 ⟨rfl, hO4⟩; have hB4 := hO2.trans hO4 (by simp); have y2 := (B.out _ hB4).2.cell 2; simp only [List.getElem?_cons_succ, List.getElem?_cons_zero] at y2) | (go_at_call 32; have hO5 := hO3.trans hO4 (by simp); refine (S2.out _ hO5).mono ?_; rintro e w4 ⟨rfl, hO6⟩; have y2' := (B.out _ (hB4.trans hO6 (by simp))).2.cell 2; simp only [List.getElem?_cons_succ, List.getElem?_cons_zero] at y2'))
        go_ret
        rw [R0.out]
        exact ⟨rfl, hO5.trans hO6 (by simp)⟩
    · have h1i : (zo != 1) = true := by simp [h1]
      have E : Hid (S.write ⟨own, next, op⟩ xmin xmax = 100) := by show _ = _; unfold TS.write; rw [if_neg (fun h => h1 (hzo.symm.trans h.2))]
      clear hz hzo SE h1
      go_enter Try.func31, Try.ntmps31
      go_wp2_with (first | (go_at_call 30; refine (VE.out _ OA.out).mono ?_; rintro e w2 ⟨rfl, hO2⟩; have x0 := (B.out _ hO2).1.cell 0; simp only [List.getElem?_cons_succ, List.getElem?_cons_zero] at x0) | (go_at_call 32; have hO3 := OA.out.trans hO2 (by simp); refine (S1.out _ hO3).mono ?_; rintro e w3 ⟨rfl, hO4⟩))
      go_ret
      rw [E.out]
      exact ⟨rfl, hO3.trans hO4 (by simp)⟩
set_option maxHeartbeats 2000000 in
theorem rdead_any (h : RefAt w r n0 v0 R S) (hl : R.length ≤ 1048576) (hops : ∀ p ∈ R, p.1.s.op.length ≤ 1048576) (xmin xmax : Nat) (hxa : xmin < 18446744073709551616) (hxb : xmax < 18446744073709551616) :
    Calls Try.prog 28 #[.pointer (some ⟨r, 0, none⟩), verV xmin xmax] w fun e w' => e = .returned (.bool (S.dead xmin xmax)) ∧ Only [] w w' := by
  have SE : Hid (∀ (id : Nat) (z : Int), id < 18446744073709551616 → S.state id = z → ∀ w1, Only [] w w1 → Calls Try.prog 32 #[.pointer (some ⟨r, 0, none⟩), .int .u64 id] w1 fun e w' => e = .returned (.int .i64 z) ∧ Only [] w1 w') := fun id z hb e w1 hO => by
    have := rstate_any (h.past hO) id hb
    rw [e] at this; exact this
  have HE : Hid (∀ (z : Nat), S.horizon = z → ∀ w1, Only [] w w1 → Calls Try.prog 33 #[.pointer (some ⟨r, 0, none⟩)] w1 fun e w' => e = .returned (.int .u64 z) ∧ Only [] w1 w') := fun z e w1 hO => by
    have := rhor_any (h.past hO) hl hops
    rw [e] at this; exact this
  have OA : Only [] w (w.alloc (.cells #[.slice none 0 0, .int .u64 xmin, .int .u64 xmax, .int .u64 0] 47)) := (Only.refl _ _).alloc _
  show Calls _ _ #[_, .agg #[.slice none 0 0, .int .u64 xmin, .int .u64 xmax, .int .u64 0]] _ _
  clear h hl
  generalize hz1 : S.state xmin = z1
  have B0 : Blk (w.alloc (.cells #[.slice none 0 0, .int .u64 xmin, .int .u64 xmax, .int .u64 0] 47)) w.heap.size [.slice none 0 0, .int .u64 xmin, .int .u64 xmax, .int .u64 0] 47 := Blk.new _ _ w
  have y1 := B0.cell 1
  have y2 := B0.cell 2
  simp only [List.getElem?_cons_succ, List.getElem?_cons_zero] at y1 y2
  obtain ⟨wa, hwa⟩ : ∃ wa, w.alloc (.cells #[.slice none 0 0, .int .u64 xmin, .int .u64 xmax, .int .u64 0] 47) = wa := ⟨_, rfl⟩
  have HWA := Lib.hid hwa
  rw [hwa] at OA B0 y1 y2
  clear hwa
  have OW := Lib.hid OA
  have HC1 := Later.cell y1
  have HC2 := Later.cell y2
  clear B0 y1 y2 OA
  have LS : Hid (∀ (id : Nat) (z : Int), id < 18446744073709551616 → S.state id = z → ∀ x : Later wa, Calls Try.prog 32 #[.pointer (some ⟨r, 0, none⟩), .int .u64 id] x.v fun e w' => e = .returned (.int .i64 z) ∧ ∃ y : Later wa, w' = y.v) := fun id z hb e x => Calls.later (fun w1 hO => SE.out id z hb e w1 (OW.out.trans hO (by simp))) x
  have LH : Hid (∀ (z : Nat), S.horizon = z → ∀ x : Later wa, Calls Try.prog 33 #[.pointer (some ⟨r, 0, none⟩)] x.v fun e w' => e = .returned (.int .u64 z) ∧ ∃ y : Later wa, w' = y.v) := fun z e x => Calls.later (fun w1 hO => HE.out z e w1 (OW.out.trans hO (by simp))) x
  have S1 := Lib.hid (LS.out xmin z1 hxa hz1)
  by_cases h1 : z1 = 3
  · have E : Hid (S.dead xmin xmax = true) := by show _ = _; unfold TS.dead; rw [hz1, decide_eq_true h1]; rfl
    subst h1
    clear hz1
    go_enter Try.func28, Try.ntmps28
    go_wp2_with fail
    rw [HWA.out]
    refine wp_region_later (Only.refl _ _) (by kernel_rfl) (by kernel_rfl) ?_
    repeat (go_big_quiet_step (first | (go_at_call_of 32 (Value.int .u64 (xmin : Int)); exact S1.out _)))
    refine wpQuiet_nil ?_
    rintro _ ⟨xq, rfl⟩
    go_wp2_with fail
    go_ret
    rw [E.out]
    exact ⟨rfl, OW.out.trans xq.h (by simp)⟩
  have h1i : (z1 == 3) = false := by simp [h1]
  by_cases h0 : xmax = 0
  · have hs0 : S.state xmax = 0 := by unfold TS.state; rw [if_pos (.inl h0)]
    have h0i : ((xmax : Int) != 0) = false := by simp [h0]
    have E : Hid (S.dead xmin xmax = false) := by show _ = _; unfold TS.dead; rw [hz1, hs0, decide_eq_false h1]; simp
    clear hz1 h1 h0 hs0
    go_enter Try.func28, Try.ntmps28
    go_wp2_with fail
    rw [HWA.out]
    refine wp_region_later (Only.refl _ _) (by kernel_rfl) (by kernel_rfl) ?_
    repeat (go_big_quiet_step (first | (go_at_call_of 32 (Value.int .u64 (xmin : Int)); exact S1.out _)))
    refine wpQuiet_nil ?_
    rintro _ ⟨xq, rfl⟩
    go_wp2_with fail
    go_ret
    rw [E.out]
    exact ⟨rfl, OW.out.trans xq.h (by simp)⟩
  have h0i : ((xmax : Int) != 0) = true := by simp; exact h0
  generalize hz2 : S.state xmax = z2
  have S2 := Lib.hid (LS.out xmax z2 hxb hz2)
  by_cases h2 : z2 = 2
  · subst h2
    generalize hz3 : S.horizon = z3
    have S3 := Lib.hid (LH.out z3 hz3)
    have E : Hid (S.dead xmin xmax = decide (xmax < z3)) := by show _ = _; unfold TS.dead; rw [hz1, hz2, hz3, decide_eq_false h1]; simp
    clear hz1 hz2 hz3 h1
    go_enter Try.func28, Try.ntmps28
    go_wp2_with fail
    rw [HWA.out]
    refine wp_region_later (Only.refl _ _) (by kernel_rfl) (by kernel_rfl) ?_
    repeat (go_big_quiet_step (first | (go_at_call_of 32 (Value.int .u64 (xmin : Int)); exact S1.out _) | (go_at_call_of 32 (Value.int .u64 (xmax : Int)); exact S2.out _) | (go_at_call 33; exact S3.out _)))
    refine wpQuiet_nil ?_
    rintro _ ⟨xq, rfl⟩
    go_wp2_with fail
    go_ret
    rw [E.out]
    exact ⟨rfl, OW.out.trans xq.h (by simp)⟩
  · have h2i : (z2 == 2) = false := by simp [h2]
    have E : Hid (S.dead xmin xmax = false) := by show _ = _; unfold TS.dead; rw [hz1, hz2, decide_eq_false h1, decide_eq_false h2]; simp
    clear hz1 hz2 h1 h2
    go_enter Try.func28, Try.ntmps28
    go_wp2_with fail
    rw [HWA.out]
    refine wp_region_later (Only.refl _ _) (by kernel_rfl) (by kernel_rfl) ?_
    repeat (go_big_quiet_step (first | (go_at_call_of 32 (Value.int .u64 (xmin : Int)); exact S1.out _) | (go_at_call_of 32 (Value.int .u64 (xmax : Int)); exact S2.out _)))
    refine wpQuiet_nil ?_
    rintro _ ⟨xq, rfl⟩
    go_wp2_with fail
    go_ret
    rw [E.out]
    exact ⟨rfl, OW.out.trans xq.h (by simp)⟩
end Go.Proofs.Ytilkbcoofbkemaa.T
