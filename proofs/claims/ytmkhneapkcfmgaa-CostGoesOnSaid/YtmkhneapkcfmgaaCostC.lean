/-
  Trunc, whole, counted, Nest at whole numbers; known of the package of laws answers true at whatever world.
-/
import Derived.Test.YtmkhneapkcfmgaaCostB
import Derived.Test.YtmkhneapkcfmgaaCostF
namespace Go.Proofs.Ytmkhneapkcfmgaa.K
open Go.RowKit F
set_option linter.unusedVariables false

theorem toIntegral_num (nm : String) (way : Ieee.Toward) (x : Nat) (g : Bool) (m : Nat) (p : Int) (hd : FloatKind.f64.decode x = .number g m p) :
    Extern.MathFloor.toIntegral nm way #[.float .f64 x] = pure (.float .f64 (FloatKind.f64.encode ((Ieee.Datum.number g m p).integral way))) := by
  refine Eq.trans (b := match FloatKind.f64.decode x with
    | .nan s t => if FloatKind.f64.format.quiet t = t then pure (.float .f64 x) else do
        let kept ← choose (.extern _ 2)
        pure (.float .f64 (if kept == 1 then x else FloatKind.f64.encode (.nan s (FloatKind.f64.format.quiet t))))
    | d => pure (.float .f64 (FloatKind.f64.encode (d.integral way)))) rfl ?_
  rw [hd]

theorem arch_run (n : Nat) (h : n < 2 ^ 53) (w : World) : (callFunc 26 #[.float .f64 (fl n)]).run Try.prog w = .ok (.value (.float .f64 (fl n))) w := by
  have hr := fl_rep n h
  have ht := trunc_eq h hr
  rw [run_callFunc_extern Try.func26 (by kernel_rfl) (by kernel_rfl) (by kernel_rfl) (e := Extern.MathFloor.toIntegral "math.archTrunc" .zero) (by kernel_rfl)]
  obtain ⟨k, hk⟩ := hr
  have hd : FloatKind.f64.decode (fl n) = .number false (n * 2 ^ k) (-(k : Int)) := hk
  rw [toIntegral_num _ _ _ _ _ _ hd]
  rw [hk] at ht
  simp only [FloatKind.encode, FloatKind.format, ht]
  rfl

theorem trunc_any (n : Nat) (h : n < 2 ^ 53) (w : World) :
    Calls Try.prog 25 #[.float .f64 (fl n)] w fun e w' => e = .returned (.float .f64 (fl n)) ∧ w = w' := by
  have ha := arch_run n h
  go_enter Try.func25, Try.ntmps25
  go_wp2
  go_ret
  exact ⟨rfl, rfl⟩

theorem cmp (a b : Nat) (ha : a < 2 ^ 53) (hb : b < 2 ^ 53) : FloatKind.f64.format.order (fl a) (fl b) = some (compare a b) := order_eq (fl_rep a ha) (fl_rep b hb)

theorem whole_yes (n : Nat) (h : n ≤ 1073741824) (w : World) :
    Calls Try.prog 21 #[.float .f64 (fl n)] w fun e w' => e = .returned (.bool true) ∧ w = w' := by
  have h53 : n < 2 ^ 53 := by omega
  have c0 : FloatKind.f64.format.order (fl n) 0 = some (compare n 0) := cmp n 0 h53 (by omega)
  have c1 : FloatKind.f64.format.order (fl n) 4742290407621132288 = some (compare n 1073741824) := by
    have : fl 1073741824 = 4742290407621132288 := by decide +kernel
    rw [← this]; exact cmp n 1073741824 h53 (by omega)
  have c2 : FloatKind.f64.format.order (fl n) (fl n) = some (compare n n) := cmp n n h53 h53
  have d0 : (some (compare n 0) == some Ordering.gt || some (compare n 0) == some Ordering.eq) = true := by
    by_cases hz : n = 0
    · subst hz; rfl
    · have : compare n 0 = .gt := Nat.compare_eq_gt.2 (by omega)
      rw [this]; rfl
  have d1 : (some (compare n 1073741824) == some Ordering.lt || some (compare n 1073741824) == some Ordering.eq) = true := by
    by_cases hz : n = 1073741824
    · subst hz; rfl
    · have : compare n 1073741824 = .lt := Nat.compare_eq_lt.2 (by omega)
      rw [this]; rfl
  have d2 : (some (compare n n) == some Ordering.eq) = true := by rw [Nat.compare_eq_eq.2 rfl]; rfl
  rw [← c0] at d0
  rw [← c1] at d1
  rw [← c2] at d2
  clear c0 c1 c2
  generalize hf : fl n = x at *
  have T := fun w => trunc_any n h53 w
  rw [hf] at T
  have HT := Lib.hid T
  clear T
  have Hf := Lib.hid hf
  clear hf
  go_enter Try.func21, Try.ntmps21
  go_wp2_with (go_at_call 25; refine (HT.out _).mono ?_; rintro e w' ⟨rfl, rfl⟩)
  go_ret
  exact ⟨rfl, rfl⟩

theorem counted_yes (a b : Nat) (ha : a ≤ 1073741824) (hb : b ≤ 1073741824) (w : World) :
    Calls Try.prog 16 #[.complex .f64 (fl a) (fl b)] w fun e w' => e = .returned (.bool true) ∧ w = w' := by
  go_enter Try.func16, Try.ntmps16
  go_wp2_with (go_at_call 21; refine (whole_yes _ (by assumption) _).mono ?_; rintro e w' ⟨rfl, rfl⟩)
  go_ret
  exact ⟨rfl, rfl⟩

theorem nest_yes (a b c d n : Nat) (ha : a ≤ 1073741824) (hb : b ≤ 1073741824) (hc : c ≤ 1073741824) (hd : d ≤ 1073741824) (hn : n ≤ 1048576) (w : World) :
    Calls Try.prog 9 #[.complex .f64 (fl a) (fl b), .complex .f64 (fl c) (fl d), .int .i64 n] w fun e w' => e = .returned (.tuple #[.complex .f64 (fl (a + n * c)) (fl (b + n * d)), .int .i64 0]) ∧ w = w' := by
  have hx : floatOfInt .f64 (n : Int) = fl n := by rw [floatOfInt_eq _ (by omega) (by omega)]; rfl
  have h1 : n * c ≤ 1048576 * 1073741824 := Nat.mul_le_mul hn hc
  have h2 : n * d ≤ 1048576 * 1073741824 := Nat.mul_le_mul hn hd
  have m1 : floatBits .mul .f64 (fl n) (fl c) = some (fl (n * c)) := mul_eq (fl_rep _ (by omega)) (fl_rep _ (by omega)) (by omega)
  have m2 : floatBits .mul .f64 (fl n) (fl d) = some (fl (n * d)) := mul_eq (fl_rep _ (by omega)) (fl_rep _ (by omega)) (by omega)
  have a1 : floatBits .add .f64 (fl a) (fl (n * c)) = some (fl (a + n * c)) := add_eq (fl_rep _ (by omega)) (fl_rep _ (by omega)) (by omega)
  have a2 : floatBits .add .f64 (fl b) (fl (n * d)) = some (fl (b + n * d)) := add_eq (fl_rep _ (by omega)) (fl_rep _ (by omega)) (by omega)
  have r1 := fun w : World => run_float_arith (P := Try.prog) w .mul 32 .f64 _ _ _ m1
  have r2 := fun w : World => run_float_arith (P := Try.prog) w .mul 32 .f64 _ _ _ m2
  have cs : cSumBits .add .f64 (fl a) (fl b) (fl (n * c)) (fl (n * d)) = some (fl (a + n * c), fl (b + n * d)) := by
    simp [cSumBits, a1, a2]
  have r3 := fun w : World => run_complex_sum (P := Try.prog) w .add (.inl rfl) 26 .f64 _ _ _ _ _ _ cs
  clear m1 m2 a1 a2 cs h1 h2
  have hn0 : (0 : Int) ≤ n := by omega
  have hn1 : (n : Int) ≤ 1048576 := by omega
  go_enter Try.func9, Try.ntmps9
  go_wp2_with (first | (go_at_call 15; refine (in_any _ _ _ _).mono ?_; rintro e w' ⟨rfl, rfl⟩) | (go_at_call 16; refine (counted_yes _ _ (by assumption) (by assumption) _).mono ?_; rintro e w' ⟨rfl, rfl⟩))
  go_ret2
  exact ⟨rfl, rfl⟩
end Go.Proofs.Ytmkhneapkcfmgaa.K
