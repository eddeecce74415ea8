/-
  Sort, Weight, Less at whole numbers; whole, counted, Nest where a number is too great to be counted.
-/
import Derived.Test.YtmkhneapkcfmgaaCostD
import Derived.Test.YtmkhneapkcfmgaaShelf
namespace Go.Proofs.Ytmkhneapkcfmgaa.K
open Go.RowKit F
set_option linter.unusedVariables false

theorem bitLenAux_mono : ∀ (f x y : Nat), x ≤ y → Lib.bitLenAux f x ≤ Lib.bitLenAux f y ∧ Lib.bitLenAux f x ≤ f
  | 0, x, y, h => by simp [Lib.bitLenAux]
  | f + 1, x, y, h => by
    have := bitLenAux_mono f (x / 2) (y / 2) (by omega)
    simp only [Lib.bitLenAux]
    split <;> split <;> omega
theorem bitLen_mono {x y : Nat} (h : x ≤ y) : Lib.bitLen x ≤ Lib.bitLen y := (bitLenAux_mono 64 x y h).1
theorem bitLen_le (x : Nat) : Lib.bitLen x ≤ 64 := (bitLenAux_mono 64 x x (Nat.le_refl _)).2

theorem sort_yes (n : Nat) (h : n ≤ 1048576) (w : World) :
    Calls Try.prog 10 #[.int .i64 n] w fun e w' => e = .returned (.tuple #[.complex .f64 (fl (n * Lib.bitLen n)) (fl 0), .int .i64 0]) ∧ w = w' := by
  have hl := bitLen_le n
  have hm : n * Lib.bitLen n ≤ 1048576 * 64 := Nat.mul_le_mul h hl
  have e1 : floatOfInt .f64 ((n * Lib.bitLen n : Nat) : Int) = fl (n * Lib.bitLen n) := by rw [floatOfInt_eq _ (by omega) (by omega)]; rfl
  have e0 : floatOfInt .f64 0 = fl 0 := by rw [floatOfInt_eq _ (by omega) (by omega)]; rfl
  have L := fun w => Try.bits_Len (n : Int) w (by omega) (by omega)
  simp only [Int.toNat_natCast] at L
  have O := fun w => of_any ((n : Int) * (Lib.bitLen n : Int)) 0 w
  rw [← Int.natCast_mul, e1, e0] at O
  rw [Int.natCast_mul] at O
  have b0 : 0 ≤ (n : Int) * (Lib.bitLen n : Int) := by rw [← Int.natCast_mul]; omega
  have b1 : (n : Int) * (Lib.bitLen n : Int) ≤ 67108864 := by rw [← Int.natCast_mul]; omega
  have HO := Lib.hid O
  have HL := Lib.hid L
  clear O L e1 e0 hm
  generalize Lib.bitLen n = B at *
  have hn0 : (0 : Int) ≤ n := by omega
  have hn1 : (n : Int) ≤ 1048576 := by omega
  go_enter Try.func10, Try.ntmps10
  go_wp2_with (first | (go_at_call 15; refine (in_any _ _ _ _).mono ?_; rintro e w' ⟨rfl, rfl⟩) | (go_at_call 17; refine (HL.out _).mono ?_; rintro e w' ⟨rfl, rfl⟩) | (go_at_call 13; refine (HO.out _).mono ?_; rintro e w' ⟨rfl, rfl⟩))
  go_ret2
  exact ⟨rfl, rfl⟩

theorem weight_yes (a b : Nat) (ha : a ≤ 1099511627776) (hb : b ≤ 1099511627776) (w : World) :
    Calls Try.prog 18 #[.complex .f64 (fl a) (fl b)] w fun e w' => e = .returned (.float .f64 (fl (a + 4 * b))) ∧ w = w' := by
  have e4 : fl 4 = 4616189618054758400 := by decide +kernel
  have m1 : floatBits .mul .f64 (fl 4) (fl b) = some (fl (4 * b)) := mul_eq (fl_rep _ (by omega)) (fl_rep _ (by omega)) (by omega)
  rw [e4] at m1
  have a1 : floatBits .add .f64 (fl a) (fl (4 * b)) = some (fl (a + 4 * b)) := add_eq (fl_rep _ (by omega)) (fl_rep _ (by omega)) (by omega)
  have r1 := fun w : World => run_float_arith (P := Try.prog) w .mul 32 .f64 _ _ _ m1
  have r2 := fun w : World => run_float_arith (P := Try.prog) w .add 32 .f64 _ _ _ a1
  clear m1 a1 e4
  go_enter Try.func18, Try.ntmps18
  go_wp2
  go_ret
  exact ⟨rfl, rfl⟩

/-- Not less: the weight isn't less, nor the second part. -/
theorem less_no (a b c d : Nat) (ha : a ≤ 1099511627776) (hb : b ≤ 1099511627776) (hc : c ≤ a) (hd : d ≤ b) (w : World) :
    Calls Try.prog 11 #[.complex .f64 (fl a) (fl b), .complex .f64 (fl c) (fl d)] w fun e w' => e = .returned (.bool false) ∧ w = w' := by
  have o1 : (FloatKind.f64.format.order (fl (a + 4 * b)) (fl (c + 4 * d)) == some .lt) = false := by
    rw [cmp _ _ (by omega) (by omega)]
    by_cases h : a + 4 * b = c + 4 * d
    · rw [Nat.compare_eq_eq.2 h]; rfl
    · rw [Nat.compare_eq_gt.2 (by omega)]; rfl
  have o2 : (FloatKind.f64.format.order (fl b) (fl d) == some .lt) = false := by
    rw [cmp _ _ (by omega) (by omega)]
    by_cases h : b = d
    · rw [Nat.compare_eq_eq.2 h]; rfl
    · rw [Nat.compare_eq_gt.2 (by omega)]; rfl
  have W1 := Lib.hid (weight_yes a b ha hb)
  have W2 := Lib.hid (weight_yes c d (by omega) (by omega))
  go_enter Try.func11, Try.ntmps11
  go_wp2_with fail
  refine (W1.out _).mono ?_
  rintro e w' ⟨rfl, rfl⟩
  go_wp2_with fail
  refine (W2.out _).mono ?_
  rintro e w' ⟨rfl, rfl⟩
  go_wp2_with fail
  all_goals go_ret
  all_goals exact ⟨rfl, rfl⟩

theorem whole_no (n : Nat) (h : 1073741824 < n) (h2 : n ≤ 1099511627776) (w : World) :
    Calls Try.prog 21 #[.float .f64 (fl n)] w fun e w' => e = .returned (.bool false) ∧ w = w' := by
  have c0 : FloatKind.f64.format.order (fl n) 0 = some (compare n 0) := cmp n 0 (by omega) (by omega)
  have c1 : FloatKind.f64.format.order (fl n) 4742290407621132288 = some (compare n 1073741824) := by
    have : fl 1073741824 = 4742290407621132288 := by decide +kernel
    rw [← this]; exact cmp n 1073741824 (by omega) (by omega)
  rw [Nat.compare_eq_gt.2 (by omega)] at c0 c1
  go_enter Try.func21, Try.ntmps21
  go_wp2_with fail
  go_ret
  exact ⟨rfl, rfl⟩

theorem counted_no (a b : Nat) (h : 1073741824 < a ∨ 1073741824 < b) (ha : a ≤ 1099511627776) (hb : b ≤ 1099511627776) (w : World) :
    Calls Try.prog 16 #[.complex .f64 (fl a) (fl b)] w fun e w' => e = .returned (.bool false) ∧ w = w' := by
  by_cases h1 : 1073741824 < a
  · go_enter Try.func16, Try.ntmps16
    go_wp2_with (go_at_call 21; refine (whole_no _ (by assumption) (by assumption) _).mono ?_; rintro e w' ⟨rfl, rfl⟩)
    go_ret
    exact ⟨rfl, rfl⟩
  · have h2 : a ≤ 1073741824 := by omega
    have h3 : 1073741824 < b := by omega
    have W1 := Lib.hid (whole_yes a h2)
    have W2 := Lib.hid (whole_no b h3 hb)
    clear h h1
    go_enter Try.func16, Try.ntmps16
    go_wp2_with fail
    refine (W1.out _).mono ?_
    rintro e w' ⟨rfl, rfl⟩
    go_wp2_with fail
    refine (W2.out _).mono ?_
    rintro e w' ⟨rfl, rfl⟩
    go_wp2_with fail
    go_ret
    exact ⟨rfl, rfl⟩

theorem nest_no (a b : Nat) (x y : Nat) (n : Nat) (h : 1073741824 < a ∨ 1073741824 < b) (ha : a ≤ 1099511627776) (hb : b ≤ 1099511627776) (hn : n ≤ 1048576) (w : World) :
    Calls Try.prog 9 #[.complex .f64 (fl a) (fl b), .complex .f64 x y, .int .i64 n] w fun e w' => e = .returned (.tuple #[.complex .f64 0 0, .int .i64 170]) ∧ w = w' := by
  have C := Lib.hid (counted_no a b h ha hb)
  have hn0 : (0 : Int) ≤ n := by omega
  have hn1 : (n : Int) ≤ 1048576 := by omega
  clear h
  go_enter Try.func9, Try.ntmps9
  go_wp2_with (first | (go_at_call 15; refine (in_any _ _ _ _).mono ?_; rintro e w' ⟨rfl, rfl⟩) | (go_at_call 16; refine (C.out _).mono ?_; rintro e w' ⟨rfl, rfl⟩))
  go_ret2
  exact ⟨rfl, rfl⟩
end Go.Proofs.Ytmkhneapkcfmgaa.K
