/-
  The document's table: Sees, Visible, by contracts.
-/
import Derived.Test.YtilkbcoofbkemaaRefC
namespace Go.Proofs.Ytilkbcoofbkemaa.T
set_option linter.unusedSimpArgs false
open Go Go.RowKit Go.Proofs.Ytilkbcoofbkemaa.I
set_option linter.unusedVariables false
variable {w : World} {r n0 : Nat} {v0 : Value} {R : RRows} {S : TS}
set_option maxHeartbeats 1000000 in
theorem rsees_any (h : RefAt w r n0 v0 R S) (s : Snap) (v : Value) (hv : NatsAt w v s.op) (hl : s.op.length ≤ 1048576) (id : Nat) (hid : id < 18446744073709551616) :
    Calls Try.prog 29 #[.pointer (some ⟨r, 0, none⟩), snapV s v, .int .u64 id] w fun e w' => e = .returned (.bool (S.sees s id)) ∧ Only [] w w' := by
  obtain ⟨own, next, op⟩ := s
  have ST := Lib.hid (rstate_any (h.past ((Only.refl [] w).alloc (.cells #[.int .u64 own, .int .u64 next, v] 29))) id hid)
  have NA := Lib.hid (hv.past ((Only.refl [] w).alloc (.cells #[.int .u64 own, .int .u64 next, v] 29)))
  obtain ⟨ao, cap, rfl, hc⟩ := hv
  have OA : Hid (Only [] w (w.alloc (.cells #[.int .u64 own, .int .u64 next, .slice ao op.length cap] 29))) := (Only.refl _ _).alloc _
  clear hc h
  show Calls _ _ #[_, .agg #[.int .u64 own, .int .u64 next, .slice ao op.length cap], _] _ _
  have hl : op.length ≤ 1048576 := hl
  generalize hpl : op.length = n at *
  have HPL := Lib.hid hpl
  clear hpl
  by_cases h1 : id = own
  · subst h1
    have E : Hid (S.sees ⟨id, next, op⟩ id = true) := S.sees_own rfl
    go_enter Try.func29, Try.ntmps29
    go_wp2_with fail
    go_ret
    rw [E.out]
    exact ⟨rfl, OA.out⟩
  have h1i : ((id : Int) == own) = false := by simp; omega
  have H1 := Lib.hid h1
  have hn2 : (n : Int) ≤ 1048576 := by omega
  clear h1
  go_enter Try.func29, Try.ntmps29
  go_wp2_with fail
  go_loop [7] (fun i => ∃ k : Nat, k ≤ n ∧ i = .int .i64 k ∧ ∀ j, j < k → op.getD j 0 ≠ id) (fun i => n - (intOf i).toNat)
  case atStart => exact ⟨0, Nat.zero_le _, rfl, fun j hj => by omega⟩
  case round =>
    obtain ⟨k, hk, rfl, hj⟩ := hrel
    have HJ := Lib.hid hj
    clear hj
    by_cases hlt : k < n
    · obtain ⟨b, off, rfl⟩ : ∃ b off, ao = some ⟨b, off, none⟩ := by
        obtain ⟨ao', c', he, hc⟩ := NA.out
        obtain ⟨b, off, h1, _⟩ := hc (by rw [HPL.out]; omega)
        cases he
        exact ⟨b, off, h1⟩
      have cc := NA.out.cellAt (j := k) (by rw [HPL.out]; exact hlt)
      have HG : Hid (op.getD k 0 ∈ op) := by show _ ∈ _; rw [List.getD_eq_getElem?_getD, List.getElem?_eq_getElem (by rw [HPL.out]; exact hlt)]; exact List.getElem_mem _
      generalize hx : op.getD k 0 = x at *
      have HX := Lib.hid hx
      clear hx
      have hki : (k : Int) < n := by omega
      by_cases hxi : x = id
      · subst hxi
        have E : Hid (S.sees ⟨own, next, op⟩ x = false) := S.sees_out H1.out (by simp [HG.out])
        go_wp2_with fail
        go_ret
        rw [E.out]
        exact ⟨rfl, OA.out⟩
      · have hxi2 : ((x : Int) == id) = false := by simp; omega
        have HXI := Lib.hid hxi
        clear hxi
        go_wp2_with fail
        refine ⟨⟨k + 1, by omega, by go_num, fun j hj => ?_⟩, by simp [intOf]; omega⟩
        rcases Nat.lt_or_ge j k with h1 | h1
        · exact HJ.out j h1
        · obtain rfl : j = k := by omega
          rw [HX.out]; exact HXI.out
    · obtain rfl : k = n := by omega
      have NI : Hid (id ∉ op) := contains_not (fun j hj => HJ.out j (by rw [← HPL.out]; exact hj))
      by_cases h2 : id = 0
      · subst h2
        have E : Hid (S.sees ⟨own, next, op⟩ 0 = false) := S.sees_out H1.out (by simp)
        go_wp2_with fail
        go_ret
        rw [E.out]
        exact ⟨rfl, OA.out⟩
      have h2i : ((id : Int) != 0) = true := by simp; exact h2
      by_cases h3 : id < next
      · have h3i : (id : Int) < next := by omega
        have E := Lib.hid (S.sees_in (s := ⟨own, next, op⟩) H1.out ⟨h2, h3, NI.out⟩)
        generalize S.state id = z at *
        clear h3
        by_cases h5 : z = 2
        · have h5i : (z == 2) = true := by simp [h5]
          have E2 : Hid (S.sees ⟨own, next, op⟩ id = true) := by show _ = _; rw [E.out]; simp [h5]
          clear h5
          go_wp2_with (go_at_call 32; refine ST.out.mono ?_; rintro e w' ⟨rfl, hO⟩)
          go_ret
          rw [E2.out]
          exact ⟨rfl, OA.out.trans hO (by simp)⟩
        · have h5i : (z == 2) = false := by simp [h5]
          have E2 : Hid (S.sees ⟨own, next, op⟩ id = false) := by show _ = _; rw [E.out]; simp [h5]
          clear h5
          go_wp2_with (go_at_call 32; refine ST.out.mono ?_; rintro e w' ⟨rfl, hO⟩)
          go_ret
          rw [E2.out]
          exact ⟨rfl, OA.out.trans hO (by simp)⟩
      · have h3i : ¬ (id : Int) < next := by omega
        have E : Hid (S.sees ⟨own, next, op⟩ id = false) := S.sees_out H1.out (by simp; omega)
        go_wp2_with fail
        go_ret
        rw [E.out]
        exact ⟨rfl, OA.out⟩
set_option maxHeartbeats 1000000 in
theorem rvisible_any (h : RefAt w r n0 v0 R S) (s : Snap) (v : Value) (hv : NatsAt w v s.op) (hl : s.op.length ≤ 1048576) (xmin xmax : Nat) (hxa : xmin < 18446744073709551616) (hxb : xmax < 18446744073709551616) :
    Calls Try.prog 30 #[.pointer (some ⟨r, 0, none⟩), snapV s v, verV xmin xmax] w fun e w' => e = .returned (.bool (S.vis s xmin xmax)) ∧ Only [] w w' := by
  have SE : Hid (∀ (id : Nat) (z : Bool), id < 18446744073709551616 → S.sees s id = z → ∀ w1, Only [] w w1 → Calls Try.prog 29 #[.pointer (some ⟨r, 0, none⟩), snapV s v, .int .u64 id] w1 fun e w' => e = .returned (.bool z) ∧ Only [] w1 w') := fun id z hb e w1 hO => by
    have := rsees_any (h.past hO) s v (hv.past hO) hl id hb
    rw [e] at this; exact this
  obtain ⟨own, next, op⟩ := s
  obtain ⟨ao, cap, rfl, hc⟩ := hv
  generalize hz : S.sees ⟨own, next, op⟩ xmin = z
  have S1 := Lib.hid (SE.out xmin z hxa hz)
  have OA : Hid (Only [] w ((w.alloc (.cells #[.int .u64 own, .int .u64 next, .slice ao op.length cap] 29)).alloc (.cells #[.slice none 0 0, .int .u64 xmin, .int .u64 xmax, .int .u64 0] 47))) := ((Only.refl _ _).alloc _).alloc _
  clear hc h
  simp only [snapV] at SE S1
  show Calls _ _ #[_, .agg #[.int .u64 own, .int .u64 next, .slice ao op.length cap], .agg #[.slice none 0 0, .int .u64 xmin, .int .u64 xmax, .int .u64 0]] _ _
  cases z with
  | false =>
    have E : Hid (S.vis ⟨own, next, op⟩ xmin xmax = false) := by show _ = _; unfold TS.vis; rw [hz]; rfl
    clear hz
    go_enter Try.func30, Try.ntmps30
    go_wp2_with (go_at_call 29; refine (S1.out _ OA.out).mono ?_; rintro e w2 ⟨rfl, hO2⟩)
    go_ret
    rw [E.out]
    exact ⟨rfl, OA.out.trans hO2 (by simp)⟩
  | true =>
    have B : Hid (∀ w2, Only [] ((w.alloc (.cells #[.int .u64 own, .int .u64 next, .slice ao op.length cap] 29)).alloc (.cells #[.slice none 0 0, .int .u64 xmin, .int .u64 xmax, .int .u64 0] 47)) w2 → Blk w2 w.heap.size [.int .u64 own, .int .u64 next, .slice ao op.length cap] 29 ∧ Blk w2 (w.heap.size + 1) [.slice none 0 0, .int .u64 xmin, .int .u64 xmax, .int .u64 0] 47) := fun w2 hO => ⟨hO.blk ((Blk.new _ _ w).alloc _) (by simp), hO.blk (Blk.new' _ _ _ (by simp)) (by simp)⟩
    by_cases h0 : xmax = 0
    · have E : Hid (S.vis ⟨own, next, op⟩ xmin xmax = true) := by show _ = _; unfold TS.vis; rw [hz, decide_eq_true h0]; rfl
      subst h0
      clear hz
      go_enter Try.func30, Try.ntmps30
      go_wp2_with (go_at_call 29; refine (S1.out _ OA.out).mono ?_; rintro e w2 ⟨rfl, hO2⟩; have y2 := (B.out _ hO2).2.cell 2; simp only [List.getElem?_cons_succ, List.getElem?_cons_zero] at y2)
      go_ret
      rw [E.out]
      exact ⟨rfl, OA.out.trans hO2 (by simp)⟩
    · have h0i : ((xmax : Int) == 0) = false := by simp [h0]
      generalize hz2 : S.sees ⟨own, next, op⟩ xmax = z2
      have S2 := Lib.hid (SE.out xmax z2 hxb hz2)
      have E : Hid (S.vis ⟨own, next, op⟩ xmin xmax = !z2) := by show _ = _; unfold TS.vis; rw [hz, hz2, decide_eq_false h0]; simp
      clear hz hz2 SE
      go_enter Try.func30, Try.ntmps30
      go_wp2_with (first | (go_at_call_of 29 (Value.int .u64 (xmin : Int)); refine (S1.out _ OA.out).mono ?_; rintro e w2 ⟨rfl, hO2⟩; have x0 := (B.out _ hO2).1.cell 0; have x1 := (B.out _ hO2).1.cell 1; have x2 := (B.out _ hO2).1.cell 2; have y2 := (B.out _ hO2).2.cell 2; simp only [List.getElem?_cons_succ, List.getElem?_cons_zero] at x0 x1 x2 y2) | (go_at_call 29; refine (S2.out _ (OA.out.trans hO2 (by simp))).mono ?_; rintro e w3 ⟨rfl, hO3⟩))
      go_ret
      rw [E.out]
      exact ⟨rfl, (OA.out.trans hO2 (by simp)).trans hO3 (by simp)⟩
end Go.Proofs.Ytilkbcoofbkemaa.T
