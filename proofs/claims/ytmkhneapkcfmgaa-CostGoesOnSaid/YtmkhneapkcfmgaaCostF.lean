/-
  float64 at whole numbers below 2^53: the conversion of an int is exact; order, sum, product and Trunc of such floats are those of the numbers. No program in sight.
-/
import Derived.WalkLawsBesides
namespace Go.Proofs.Ytmkhneapkcfmgaa.F
open Ieee
set_option linter.unusedVariables false

/-- The word x stands for the whole number n. -/
def Rep (x n : Nat) : Prop := ∃ k : Nat, double.read x = .number false (n * 2 ^ k) (-(k : Int))

theorem log2_le {n : Nat} (h0 : 0 < n) (h : n < 2 ^ 53) : n.log2 ≤ 52 := by
  have := (Nat.log2_lt (by omega)).2 h
  omega
theorem shift_lt {n : Nat} (h0 : 0 < n) (h : n < 2 ^ 53) : n * 2 ^ (52 - n.log2) < 2 ^ 53 := by
  have hl := log2_le h0 h
  have h1 : n < 2 ^ (n.log2 + 1) := Nat.lt_log2_self
  calc n * 2 ^ (52 - n.log2) < 2 ^ (n.log2 + 1) * 2 ^ (52 - n.log2) := Nat.mul_lt_mul_of_pos_right h1 (Nat.two_pow_pos _)
    _ = 2 ^ 53 := by rw [← Nat.pow_add]; congr 1; omega
theorem le_shift {n : Nat} (h0 : 0 < n) (h : n < 2 ^ 53) : 2 ^ 52 ≤ n * 2 ^ (52 - n.log2) := by
  have hl := log2_le h0 h
  have h1 : 2 ^ n.log2 ≤ n := Nat.log2_self_le (by omega)
  calc 2 ^ 52 = 2 ^ n.log2 * 2 ^ (52 - n.log2) := by rw [← Nat.pow_add]; congr 1; omega
    _ ≤ n * 2 ^ (52 - n.log2) := Nat.mul_le_mul_right _ h1

/-- The word of a whole number above 0. -/
def wordOf (n : Nat) : Nat := (1074 - (52 - n.log2)) * 2 ^ 52 + n * 2 ^ (52 - n.log2)

theorem log2_mul_pow (n k : Nat) (h0 : 0 < n) : (n * 2 ^ k).log2 = n.log2 + k := by
  have h1 : 2 ^ n.log2 ≤ n := Nat.log2_self_le (by omega)
  have h2 : n < 2 ^ (n.log2 + 1) := Nat.lt_log2_self
  have hp := Nat.two_pow_pos k
  have hm : 0 < n * 2 ^ k := Nat.mul_pos h0 hp
  have a : 2 ^ (n.log2 + k) ≤ n * 2 ^ k := by rw [Nat.pow_add]; exact Nat.mul_le_mul_right _ h1
  have b : n * 2 ^ k < 2 ^ (n.log2 + k + 1) := by
    rw [show n.log2 + k + 1 = (n.log2 + 1) + k by omega, Nat.pow_add]; exact Nat.mul_lt_mul_of_pos_right h2 hp
  have := (Nat.le_log2 (by omega)).2 a
  have := (Nat.log2_lt (by omega)).2 b
  omega

theorem cut_exact (m d : Nat) (hd : d ≤ m.log2 + 2) (q : Nat) (hq : m = q * 2 ^ d) : Toward.even.cut false m d = q := by
  unfold Toward.cut
  have hg : (1 <<< min d (m.log2 + 2)) = 2 ^ d := by rw [Nat.min_eq_left hd, Nat.shiftLeft_eq, Nat.one_mul]
  have hp := Nat.two_pow_pos d
  have h1 : m / 2 ^ d = q := by rw [hq, Nat.mul_div_cancel _ hp]
  have h2 : m % 2 ^ d = 0 := by rw [hq, Nat.mul_mod_left]
  simp only [hg, h1, h2]
  simp

theorem nearest_eq (n k : Nat) (h0 : 0 < n) (h : n < 2 ^ 53) : double.nearest false (n * 2 ^ k) (-(k : Int)) = wordOf n := by
  have hl := log2_le h0 h
  have hp := Nat.two_pow_pos k
  have hm : 0 < n * 2 ^ k := Nat.mul_pos h0 hp
  have hlt := shift_lt h0 h
  have hle := le_shift h0 h
  unfold Format.nearest
  rw [if_neg (by omega), log2_mul_pow n k h0]
  have hlast : max (-(k : Int) + ((n.log2 + k : Nat) : Int) - (double.fractionBits : Nat)) double.leastPlace = -((52 - n.log2 : Nat) : Int) := by
    have e1 : double.leastPlace = -1074 := by decide
    have e2 : double.fractionBits = 52 := rfl
    rw [e1, e2]; omega
  simp only [hlast]
  have hkept : Toward.even.cut false ((n * 2 ^ k) <<< (-(k : Int) - -((52 - n.log2 : Nat) : Int)).toNat) (-((52 - n.log2 : Nat) : Int) - -(k : Int)).toNat = n * 2 ^ (52 - n.log2) := by
    by_cases hk : k ≤ 52 - n.log2
    · have e1 : (-(k : Int) - -((52 - n.log2 : Nat) : Int)).toNat = 52 - n.log2 - k := by omega
      have e2 : (-((52 - n.log2 : Nat) : Int) - -(k : Int)).toNat = 0 := by omega
      rw [e1, e2]
      refine cut_exact _ 0 (by omega) _ ?_
      rw [Nat.shiftLeft_eq, Nat.mul_assoc, ← Nat.pow_add, Nat.pow_zero, Nat.mul_one]
      congr 2
      omega
    · have e1 : (-(k : Int) - -((52 - n.log2 : Nat) : Int)).toNat = 0 := by omega
      have e2 : (-((52 - n.log2 : Nat) : Int) - -(k : Int)).toNat = k - (52 - n.log2) := by omega
      rw [e1, e2]
      refine cut_exact _ _ ?_ _ ?_
      · rw [Nat.shiftLeft_eq, Nat.pow_zero, Nat.mul_one, log2_mul_pow n k h0]; omega
      · rw [Nat.shiftLeft_eq, Nat.pow_zero, Nat.mul_one, Nat.mul_assoc, ← Nat.pow_add]; congr 2; omega
  rw [hkept]
  have e3 : (-((52 - n.log2 : Nat) : Int) - double.leastPlace).toNat = 1074 - (52 - n.log2) := by
    have e1 : double.leastPlace = -1074 := by decide
    rw [e1]; omega
  have e4 : double.binade = 2 ^ 52 := rfl
  have e5 : double.infRung = 2047 * 2 ^ 52 := by decide
  rw [e3, e4, e5]
  unfold Format.word wordOf
  simp only [Bool.false_eq_true, if_false]
  refine Nat.min_eq_left ?_
  have hlt' : n * 2 ^ (52 - n.log2) < 9007199254740992 := hlt
  clear hkept hlt hle e3 e4 e5 hlast
  generalize n * 2 ^ (52 - n.log2) = m at *
  have h2 : (1074 - (52 - n.log2)) * 4503599627370496 ≤ 1074 * 4503599627370496 := Nat.mul_le_mul_right _ (by omega)
  have h3 : 1074 * 4503599627370496 + 9007199254740992 ≤ 2047 * 4503599627370496 := by decide
  exact Nat.le_trans (Nat.add_le_add h2 (Nat.le_of_lt hlt')) h3

theorem read_wordOf (n : Nat) (h0 : 0 < n) (h : n < 2 ^ 53) : double.read (wordOf n) = .number false (n * 2 ^ (52 - n.log2)) (-((52 - n.log2 : Nat) : Int)) := by
  have hl := log2_le h0 h
  have hlt := shift_lt h0 h
  have hle := le_shift h0 h
  unfold wordOf
  generalize hm : n * 2 ^ (52 - n.log2) = m at *
  generalize hk : 52 - n.log2 = k at *
  have hk2 : k ≤ 52 := by omega
  have e0 : double.signWeight = 2 ^ 63 := by decide
  have e4 : double.binade = 2 ^ 52 := rfl
  have e5 : double.infRung = 2047 * 2 ^ 52 := by decide
  have e6 : double.leastPlace = -1074 := by decide
  unfold Format.read
  rw [e0, e4, e5, e6]
  have hw : (1074 - k) * 2 ^ 52 + m < 2 ^ 63 := by omega
  have r1 : ((1074 - k) * 2 ^ 52 + m) / 2 ^ 63 = 0 := Nat.div_eq_of_lt hw
  have r2 : ((1074 - k) * 2 ^ 52 + m) % 2 ^ 63 = (1074 - k) * 2 ^ 52 + m := Nat.mod_eq_of_lt hw
  simp only [r1, r2]
  rw [if_neg (by omega), if_pos (by omega)]
  have r3 : ((1074 - k) * 2 ^ 52 + m) % 2 ^ 52 = m - 2 ^ 52 := by omega
  have r4 : ((1074 - k) * 2 ^ 52 + m) / 2 ^ 52 = 1075 - k := by omega
  rw [r3, r4]
  have r5 : 2 ^ 52 + (m - 2 ^ 52) = m := by omega
  have r6 : (-1074 : Int) + ((1075 - k - 1 : Nat) : Int) = -(k : Int) := by omega
  rw [r5, r6]
  rfl

/-- The word of a whole number. -/
def fl (n : Nat) : Nat := if n = 0 then 0 else wordOf n
theorem fl_rep (n : Nat) (h : n < 2 ^ 53) : Rep (fl n) n := by
  unfold fl
  split
  · subst_vars; exact ⟨1074, by decide +kernel⟩
  · exact ⟨52 - n.log2, read_wordOf n (by omega) h⟩
theorem write_eq (n k : Nat) (h : n < 2 ^ 53) : double.write (.number false (n * 2 ^ k) (-(k : Int))) = fl n := by
  show double.nearest false (n * 2 ^ k) (-(k : Int)) = _
  unfold fl
  by_cases h0 : n = 0
  · subst h0; simp [Format.nearest, Format.word]
  · rw [if_neg h0]; exact nearest_eq n k (by omega) h
theorem floatOfInt_eq (n : Int) (h0 : 0 ≤ n) (h : n < 2 ^ 53) : floatOfInt .f64 n = fl n.toNat := by
  have e : decide (n < 0) = false := by simp; omega
  show double.write (.number (decide (n < 0)) n.natAbs 0) = _
  rw [e]
  have := write_eq n.toNat 0 (by omega)
  rw [← this]
  simp only [Nat.pow_zero, Nat.mul_one, Int.ofNat_zero, Int.neg_zero]
  congr 2
  omega
theorem signed_false (m u : Nat) : signed false m u = ((m * 2 ^ u : Nat) : Int) := by simp [signed, Nat.shiftLeft_eq]
theorem base_l (k j : Nat) : (-(k : Int) - min (-(k : Int)) (-(j : Int))).toNat = max k j - k := by omega
theorem base_r (k j : Nat) : (-(j : Int) - min (-(k : Int)) (-(j : Int))).toNat = max k j - j := by omega
theorem order_eq {x y a b : Nat} (hx : Rep x a) (hy : Rep y b) : double.order x y = some (compare a b) := by
  obtain ⟨k, hk⟩ := hx
  obtain ⟨j, hj⟩ := hy
  unfold Format.order
  rw [hk, hj]
  simp only [Datum.order, base_l, base_r, signed_false, Nat.mul_assoc, ← Nat.pow_add]
  rw [show k + (max k j - k) = max k j by omega, show j + (max k j - j) = max k j by omega]
  have hp := Nat.two_pow_pos (max k j)
  congr 1
  simp only [compare, compareOfLessAndEq]
  have l1 : ((a * 2 ^ max k j : Nat) : Int) < ((b * 2 ^ max k j : Nat) : Int) ↔ a < b := by
    rw [Int.ofNat_lt]; exact Nat.mul_lt_mul_right hp
  have l2 : ((a * 2 ^ max k j : Nat) : Int) = ((b * 2 ^ max k j : Nat) : Int) ↔ a = b := by
    rw [Int.natCast_inj]; exact Nat.mul_right_cancel_iff hp
  simp only [l1, l2]
theorem add_eq {x y a b : Nat} (hx : Rep x a) (hy : Rep y b) (h : a + b < 2 ^ 53) : double.add x y = some (fl (a + b)) := by
  obtain ⟨k, hk⟩ := hx
  obtain ⟨j, hj⟩ := hy
  unfold Format.add
  rw [hk, hj]
  simp only [Datum.sum, base_l, base_r, signed_false, Nat.mul_assoc, ← Nat.pow_add]
  rw [show k + (max k j - k) = max k j by omega, show j + (max k j - j) = max k j by omega, show min (-(k : Int)) (-(j : Int)) = -((max k j : Nat) : Int) by omega]
  rw [← Int.natCast_add, ← Nat.add_mul]
  simp only [Option.map_some, Option.some.injEq]
  rw [← write_eq (a + b) (max k j) h]
  congr 2
  · split
    · rfl
    · exact decide_eq_false (by omega)
theorem mul_eq {x y a b : Nat} (hx : Rep x a) (hy : Rep y b) (h : a * b < 2 ^ 53) : double.mul x y = some (fl (a * b)) := by
  obtain ⟨k, hk⟩ := hx
  obtain ⟨j, hj⟩ := hy
  unfold Format.mul
  rw [hk, hj]
  simp only [Datum.product, Option.map_some, Option.some.injEq]
  rw [← write_eq (a * b) (k + j) h]
  congr 2
  · rw [Nat.pow_add]; ac_rfl
  · omega
theorem trunc_eq {n : Nat} (h : n < 2 ^ 53) {x : Nat} (hx : Rep x n) : double.write ((double.read x).integral .zero) = fl n := by
  obtain ⟨k, hk⟩ := hx
  rw [hk]
  have := write_eq n 0 h
  simp only [Nat.pow_zero, Nat.mul_one, Int.ofNat_zero, Int.neg_zero] at this
  rw [← this]
  congr 1
  simp only [Datum.integral]
  congr 1
  unfold Toward.cut
  have e1 : (-(k : Int)).toNat = 0 := by omega
  have e2 : (- -(k : Int)).toNat = k := by omega
  rw [e1, e2, Nat.shiftLeft_zero]
  by_cases h0 : n = 0
  · subst h0; simp
  · rw [log2_mul_pow n k (by omega), Nat.min_eq_left (by omega), Nat.shiftLeft_eq, Nat.one_mul]
    simp [Nat.mul_div_cancel _ (Nat.two_pow_pos k)]
end Go.Proofs.Ytmkhneapkcfmgaa.F
