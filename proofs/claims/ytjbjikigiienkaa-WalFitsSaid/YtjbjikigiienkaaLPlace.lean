/-
  The walk of WalPlace: the Go text answers true at every three ints; nothing that was there is changed.
-/
import Derived.Test.YtjbjikigiienkaaWalV
namespace Go.Proofs.Ytjbjikigiienkaa.W
set_option linter.unusedSimpArgs false
open Go.RowKit Go.Proofs.Ytjbjikigiienkaa.D Go.Proofs.Ytjbjikigiienkaa.B
set_option linter.unusedVariables false

theorem seeTo_fresh (n a z : Nat) (hp : a + 2 ≤ n) : (fresh0 a z).seeTo (DS.fresh n) 2 = fresh0 a z := by
  have hz : ∀ i, i < n → (DS.fresh n).now.getD i [] = zeros := fun i hi => by
    simp only [DS.fresh, List.getD_eq_getElem?_getD]
    rw [List.getElem?_eq_getElem (by simpa using hi)]
    simp
  have see0 : ∀ i, (fresh0 a z).see i zeros = fresh0 a z := fun i => by
    unfold LS.see
    rw [ok_zeros, if_neg (by simp)]
  show ((fresh0 a z).see 0 ((DS.fresh n).now.getD (a + 0) [])).see 1 ((DS.fresh n).now.getD (a + 1) []) = _
  rw [hz (a + 0) (by omega), see0, hz (a + 1) (by omega), see0]
theorem open_fresh (n a z : Nat) (hp : a + 2 ≤ n) : openS (DS.fresh n) a z = (none, DS.fresh n, 30) := by
  unfold openS
  rw [if_neg (by simp [DS.fresh]), seeTo_fresh n a z hp]
  simp [fresh0]
/-- Outside the bounds the law says nothing. -/
theorem place_out (n f z : Int) (w : World) (ho : n < 1 ∨ 60 < n ∨ f < -5 ∨ 80 < f ∨ z < -5 ∨ 80 < z) :
    Calls Try.prog 5 #[.int .i64 n, .int .i64 f, .int .i64 z] w fun e w' => e = .returned (.bool true) ∧ Below w.heap.size w w' := by
  have HH := Lib.hid ho
  clear ho
  go_enter Try.func5, Try.ntmps5
  go_wp2_with (go_at_call 6; refine (known_yes _).mono ?_; rintro e w1 ⟨rfl, hb⟩; have HB := Lib.hid hb; clear hb)
  all_goals first | (go_ret; exact ⟨rfl, HB.out⟩) | (exfalso; have := HH.out; omega)
set_option maxRecDepth 100000 in
set_option maxHeartbeats 1000000 in
theorem place_no (n : Nat) (f z : Int) (w : World) (hn0 : 1 ≤ n) (hn : n ≤ 60) (hf : -5 ≤ f) (hf2 : f ≤ 80) (hz : -5 ≤ z) (hz2 : z ≤ 80) (hno : f < 0 ∨ z < 4 ∨ (n : Int) < f + z) :
    Calls Try.prog 5 #[.int .i64 n, .int .i64 f, .int .i64 z] w fun e w' => e = .returned (.bool true) ∧ Below w.heap.size w w' := by
  have NN := Lib.hid (fun w : World => Disk.new (n := n) (w := w) (by omega) (by omega))
  have PL : Hid (placedB f z n = false) := by
    show _ = _
    unfold placedB; simp; omega
  have hn1 : (1 : Int) ≤ n := by omega
  have hn2 : (n : Int) ≤ 60 := by omega
  have hd : f < 0 ∨ (0 ≤ f ∧ z < 4) ∨ (0 ≤ f ∧ 4 ≤ z ∧ decide (f + z ≤ (n : Int)) = false) := by simp only [decide_eq_false_iff_not]; omega
  clear hno
  rcases hd with h1 | ⟨h1, h2⟩ | ⟨h1, h2, h3⟩
  all_goals
    go_enter Try.func5, Try.ntmps5
    go_wp2_with (go_at_call 6; refine (known_yes _).mono ?_; rintro e w1 ⟨rfl, hb⟩; have HB := Lib.hid hb; clear hb)
    refine (NN.out _).mono ?_
    rintro e w2 ⟨d, M2, rfl, hD2, hS2⟩
    have D2 := Lib.hid (Dk.made hD2 hS2)
    have N2 : Hid ((DS.fresh n).now.length = n) := by show _ = _; simp [DS.fresh]
    have OP : Hid (Calls Try.prog 10 #[.pointer (some ⟨d, 0, none⟩), .int .i64 f, .int .i64 z] w2 fun e w' => e = .returned (.tuple #[.pointer none, .slice none 0 0, .int .i64 30]) ∧ w2 = w') := by
      refine (open_any D2.out f z (by omega) (by omega) (by rw [N2.out]; omega) ⟨by simp [DS.fresh], by simp [DS.fresh], by simp [DS.fresh]⟩).mono ?_
      intro e w' h
      unfold OpenPost at h
      rw [N2.out, PL.out, if_neg (by simp)] at h
      exact h
    have FM : Hid (Calls Try.prog 9 #[.pointer (some ⟨d, 0, none⟩), .int .i64 f, .int .i64 z] w2 fun e w' => e = .returned (.int .i64 30) ∧ w2 = w') := by
      refine (format_any D2.out f z (by omega) (by omega) (by rw [N2.out]; omega) ⟨by simp [DS.fresh], by simp [DS.fresh], by simp [DS.fresh]⟩ (fun i _ => fresh_turn n _)).mono ?_
      intro e w' h
      unfold FormatPost at h
      rw [N2.out, PL.out, if_neg (by simp)] at h
      exact h
    have BL : Hid (Below w.heap.size w w2) := HB.out.trans (D2.out.own.below HB.out.size (by simp))
    clear hD2 hS2
    go_wp2_with (first | (go_at_call 10; refine OP.out.mono ?_; rintro e w' ⟨rfl, rfl⟩) | (go_at_call 9; refine FM.out.mono ?_; rintro e w' ⟨rfl, rfl⟩))
    all_goals (go_ret; exact ⟨rfl, BL.out⟩)
set_option maxRecDepth 100000 in
set_option maxHeartbeats 1000000 in
theorem place_yes (n f z : Nat) (w : World) (hn0 : 1 ≤ n) (hn : n ≤ 60) (hf2 : f ≤ 80) (hz : 4 ≤ z) (hz2 : z ≤ 80) (hp : f + z ≤ n) :
    Calls Try.prog 5 #[.int .i64 n, .int .i64 f, .int .i64 z] w fun e w' => e = .returned (.bool true) ∧ Below w.heap.size w w' := by
  have NN := Lib.hid (fun w : World => Disk.new (n := n) (w := w) (by omega) (by omega))
  obtain ⟨s1, l1, hf1, hl1a, hl1b, hl1c, hL1, hk1, hn1⟩ := format_fresh n f z hz hp (by omega)
  obtain ⟨l2, ho2, hl2a, hl2b, hl2c, hL2⟩ := hL1.opened (by rw [hk1]; omega) [] (by simp [recs_nil])
  rw [hl1a, hl1b] at ho2
  have HF1 := Lib.hid hf1
  have HO2 := Lib.hid ho2
  have HK1 : Hid (s1.count = 2 ∧ s1.row = [] ∧ s1.now.length = n) := ⟨hk1, hL1.none, hn1⟩
  have e1 : (1 : Int) ≤ n := by omega
  have e2 : (n : Int) ≤ 60 := by omega
  have e3 : (0 : Int) ≤ f := by omega
  have e4 : (f : Int) ≤ 80 := by omega
  have e5 : (4 : Int) ≤ z := by omega
  have e6 : (z : Int) ≤ 80 := by omega
  have e7 : (f : Int) + z ≤ n := by omega
  clear hf1 ho2 hk1 hn1 hL1 hL2 hl1a hl1b hl1c hl2a hl2b hl2c
  go_enter Try.func5, Try.ntmps5
  go_wp2_with (go_at_call 6; refine (known_yes _).mono ?_; rintro e w1 ⟨rfl, hb⟩; have HB := Lib.hid hb; clear hb)
  refine (NN.out _).mono ?_
  rintro e w2 ⟨d, M2, rfl, hD2, hS2⟩
  have D2 := Lib.hid (Dk.made hD2 hS2)
  have N2 : Hid ((DS.fresh n).now.length = n) := by show _ = _; simp [DS.fresh]
  have OP : Hid (Calls Try.prog 10 #[.pointer (some ⟨d, 0, none⟩), .int .i64 f, .int .i64 z] w2 fun e w' => e = .returned (.tuple #[.pointer none, .slice none 0 0, .int .i64 30]) ∧ ∃ M', Dk w1 w' d M' (DS.fresh n)) := by
    refine (open_any D2.out f z (by omega) (by omega) (by rw [N2.out]; omega) ⟨by simp [DS.fresh], by simp [DS.fresh], by simp [DS.fresh]⟩).mono ?_
    intro e w' h
    unfold OpenPost at h
    rw [N2.out, if_pos (placed_ok f z n hz hp), Int.toNat_natCast, Int.toNat_natCast, open_fresh n f z (by omega)] at h
    obtain ⟨h1, M', h2, _⟩ := h
    exact ⟨h1, M', h2⟩
  clear hD2 hS2
  go_wp2_with fail
  refine OP.out.mono ?_
  rintro e w3 ⟨rfl, M3, hD3⟩
  have D3 := Lib.hid hD3
  have FM := Lib.hid (D3.out.format' f z hz (by rw [N2.out]; exact hp) (by rw [N2.out]; omega) ⟨by simp [DS.fresh], by simp [DS.fresh], by simp [DS.fresh]⟩ (fun i _ => fresh_turn n _) HF1.out)
  clear hD3
  go_wp2_with fail
  refine FM.out.mono ?_
  rintro e w4 ⟨rfl, M4, hD4, hF4⟩
  have D4 := Lib.hid hD4
  have OP2 := Lib.hid (D4.out.open' f z hz (by rw [HK1.out.2.2]; exact hp) (by rw [HK1.out.2.2]; omega) ⟨by rw [HK1.out.1]; omega, by rw [HK1.out.1]; omega, by rw [HK1.out.2.1]; simp⟩ HO2.out)
  clear hD4 hF4
  go_wp2_with fail
  refine OP2.out.mono ?_
  rintro e w5 ⟨p, v, vr, M5, B5, rfl, hG5, hR5, hF5, hv5⟩
  have BL : Hid (Below w.heap.size w w5) := HB.out.trans (hG5.own.below HB.out.size (by simp))
  obtain ⟨av, cv, rfl⟩ : ∃ av cv, vr = .slice av 0 cv := by
    obtain ⟨xs, h1, _⟩ := hR5
    obtain ⟨x, c, h, _⟩ := owns_shape h1
    exact ⟨x, c, h⟩
  clear hG5 hR5 hF5 hv5
  have LE : Hid (Calls Try.prog 19 #[.slice none 0 0] w5 fun e w' => e = .returned (.int .i64 4) ∧ w5 = w') :=
    (least_any (w := w5) (v := .slice none 0 0) [] ⟨none, 0, rfl, fun h => by simp at h⟩ (by simp) (by simp)).mono fun e w' h => ⟨h.1.trans (ret_int (by decide)), h.2⟩
  go_wp2_with fail
  refine LE.out.mono ?_
  rintro e w' ⟨rfl, rfl⟩
  go_wp2_with fail
  go_ret
  exact ⟨rfl, BL.out⟩
theorem place_walk (n : Int) (_ : -9223372036854775808 ≤ n ∧ n ≤ 9223372036854775807) (f : Int) (_ : -9223372036854775808 ≤ f ∧ f ≤ 9223372036854775807) (z : Int) (_ : -9223372036854775808 ≤ z ∧ z ≤ 9223372036854775807) (w : World) :
    Calls Try.prog 5 #[.int .i64 n, .int .i64 f, .int .i64 z] w fun e w' => e = .returned (.bool true) ∧ Below w.heap.size w w' := by
  by_cases ho : n < 1 ∨ 60 < n ∨ f < -5 ∨ 80 < f ∨ z < -5 ∨ 80 < z
  · exact place_out n f z w ho
  · obtain ⟨m, rfl⟩ := Int.eq_ofNat_of_zero_le (show 0 ≤ n by omega)
    by_cases hp : f < 0 ∨ z < 4 ∨ (m : Int) < f + z
    · exact place_no m f z w (by omega) (by omega) (by omega) (by omega) (by omega) (by omega) hp
    · obtain ⟨a, rfl⟩ := Int.eq_ofNat_of_zero_le (show 0 ≤ f by omega)
      obtain ⟨b, rfl⟩ := Int.eq_ofNat_of_zero_le (show 0 ≤ z by omega)
      exact place_yes m a b w (by omega) (by omega) (by omega) (by omega) (by omega) (by omega)
end Go.Proofs.Ytjbjikigiienkaa.W
