/-
  The walk of CostPlain: the Go text answers true at every two ints; nothing that was there is changed.
-/
import Derived.Test.YtmkhneapkcfmgaaCostD
namespace Go.Proofs.Ytmkhneapkcfmgaa.K
open Go.RowKit F
set_option linter.unusedVariables false

theorem bounds2 (r u : Int) (h0 : 1 ≤ u) (h : u ≤ r) : Bounds r [u, r] := by
  intro j hj
  have : j = 0 ∨ j = 1 := by simp at hj; omega
  rcases this with rfl | rfl
  · simp; omega
  · simp; omega

theorem plain_scan (r u p : Int) (ao : Option Addr) (w : World) (h0 : 1 ≤ u) (h : u ≤ r) (h1 : r ≤ 1048576) (hp : (r + 8 - 1) / 8 = p) (ha : IntsIn w ao [u, r]) :
    Calls Try.prog 6 #[.agg #[.int .i64 r, .slice ao 2 2]] w fun e w' => e = .returned (.tuple #[cx r p, .int .i64 0]) ∧ Below w.heap.size w w' := by
  have := scan_yes [u, r] r ao 2 w (by omega) (by omega) (bounds2 r u h0 h) (by simp) ha
  rw [hp] at this
  exact this
theorem plain_probe1 (r u m : Int) (ao co : Option Addr) (w : World) (h0 : 1 ≤ u) (h : u ≤ r) (h1 : r ≤ 1048576) (hm : (r + u - 1) / u = m) (ha : IntsIn w ao [u, r]) (hco : IntsIn w co [0]) :
    Calls Try.prog 7 #[.agg #[.int .i64 r, .slice ao 2 2], .slice co 1 1] w fun e w' => e = .returned (.tuple #[cx (m + 1) (m + 1), .int .i64 0]) ∧ Below w.heap.size w w' := by
  have := probe_yes [u, r] [0] r ao co 2 1 w (by omega) (by omega) (bounds2 r u h0 h) (by simp) ha hco (by simp) (by simp) (by simp)
  have e : byOf r [u, r] [0] = u := by simp [byOf]; omega
  rw [e, hm] at this
  exact this
theorem plain_probe2 (r u : Int) (ao co : Option Addr) (w : World) (h0 : 1 ≤ u) (h : u ≤ r) (h1 : r ≤ 1048576) (ha : IntsIn w ao [u, r]) (hco : IntsIn w co [0, 1]) :
    Calls Try.prog 7 #[.agg #[.int .i64 r, .slice ao 2 2], .slice co 2 2] w fun e w' => e = .returned (.tuple #[cx 2 2, .int .i64 0]) ∧ Below w.heap.size w w' := by
  have := probe_yes [u, r] [0, 1] r ao co 2 2 w (by omega) (by omega) (bounds2 r u h0 h) (by simp) ha hco (by simp) (by simp) (by simp)
  have e : byOf r [u, r] [0, 1] = r := by
    simp [byOf]
    have hm : 1 * r ≤ u * r := Int.mul_le_mul_of_nonneg_right h0 (by omega)
    rw [show min u r = u by omega]
    omega
  have e2 : (r + r - 1) / r + 1 = 2 := by
    have : (r + r - 1) / r = 1 := by
      rw [show r + r - 1 = (r - 1) + r * 1 by omega, Int.add_mul_ediv_left _ _ (by omega), Int.ediv_eq_zero_of_lt (by omega) (by omega)]
      rfl
    omega
  rw [e, e2] at this
  exact this
theorem plain_span (r u part whole q : Int) (ao : Option Addr) (w : World) (h0 : 1 ≤ u) (h : u ≤ r) (h1 : r ≤ 1048576) (hw : 1 ≤ whole) (hw2 : whole ≤ 2) (hp : 0 ≤ part) (hp2 : part ≤ whole) (hq : (r * part + whole - 1) / whole = q) (ha : IntsIn w ao [u, r]) :
    Calls Try.prog 8 #[.agg #[.int .i64 r, .slice ao 2 2], .int .i64 part, .int .i64 whole] w fun e w' => e = .returned (.tuple #[cx (q + 1) (q + 2), .int .i64 0]) ∧ Below w.heap.size w w' := by
  have := span_yes [u, r] r part whole ao 2 w (by omega) (by omega) (bounds2 r u h0 h) (by simp) ha hw hw2 hp hp2
  rw [hq] at this
  exact this

theorem fcmp (a b : Int) (ha : 0 ≤ a) (hb : 0 ≤ b) (ha2 : a ≤ 1099511627776) (hb2 : b ≤ 1099511627776) : FloatKind.f64.format.order (floatOfInt .f64 a) (floatOfInt .f64 b) = some (compare a.toNat b.toNat) := by
  rw [floatOfInt_eq a ha (by omega), floatOfInt_eq b hb (by omega)]
  exact cmp _ _ (by omega) (by omega)
theorem feq (a : Int) (ha : 0 ≤ a) (ha2 : a ≤ 1099511627776) : FloatKind.f64.format.order (floatOfInt .f64 a) (floatOfInt .f64 a) = some .eq := by
  rw [fcmp a a ha ha ha2 ha2, Nat.compare_eq_eq.2 rfl]
theorem fle (a b : Int) (ha : 0 ≤ a) (hb : a ≤ b) (hb2 : b ≤ 1099511627776) : (FloatKind.f64.format.order (floatOfInt .f64 a) (floatOfInt .f64 b) == some .lt || FloatKind.f64.format.order (floatOfInt .f64 a) (floatOfInt .f64 b) == some .eq) = true := by
  rw [fcmp a b ha (by omega) (by omega) hb2]
  by_cases h : a = b
  · subst h; rw [Nat.compare_eq_eq.2 rfl]; rfl
  · rw [Nat.compare_eq_lt.2 (by omega)]; rfl
theorem up_split (r u : Int) (h0 : 1 ≤ u) (h : 0 ≤ r) : (r + u - 1) / u = if 0 < r % u then r / u + 1 else r / u := by
  have hd := Int.mul_ediv_add_emod r u
  have hm0 := Int.emod_nonneg r (show u ≠ 0 by omega)
  have hm1 := Int.emod_lt_of_pos r (show 0 < u by omega)
  split
  · rw [show r + u - 1 = (r % u - 1) + u * (r / u + 1) by rw [Int.mul_add]; omega, Int.add_mul_ediv_left _ _ (by omega), Int.ediv_eq_zero_of_lt (by omega) (by omega)]
    omega
  · rw [show r + u - 1 = (u - 1) + u * (r / u) by omega, Int.add_mul_ediv_left _ _ (by omega), Int.ediv_eq_zero_of_lt (by omega) (by omega)]
    omega

/-- Outside the bounds the law says nothing. -/
theorem plain_out (r u : Int) (w : World) (h : r < 1 ∨ 1048576 < r ∨ u < 1 ∨ r < u) :
    Calls Try.prog 3 #[.int .i64 r, .int .i64 u] w fun e w' => e = .returned (.bool true) ∧ Below w.heap.size w w' := by
  have HH := Lib.hid h
  clear h
  go_enter Try.func3, Try.ntmps3
  go_wp2_with (go_at_call 5; refine (known_yes _).mono ?_; rintro e w1 ⟨rfl, hb⟩; have HB := Lib.hid hb; clear hb)
  all_goals first | (go_ret; exact ⟨rfl, HB.out⟩) | (exfalso; have := HH.out; omega) | skip

/-- Two cells that are there, in every later world. -/
theorem ints2 {w w' : World} {b : Nat} {x y : Int} (hb : Below w.heap.size w w') (h0 : w.cell? ⟨b, 0, none⟩ = some (.int .i64 x)) (h1 : w.cell? ⟨b, 1, none⟩ = some (.int .i64 y)) : IntsIn w' (some ⟨b, 0, none⟩) [x, y] := fun _ => by
  refine ⟨b, 0, rfl, fun j hj => ?_⟩
  have : j = 0 ∨ j = 1 := by simp at hj; omega
  rcases this with rfl | rfl
  · exact cell_later hb (by simpa using h0)
  · exact cell_later hb (by simpa using h1)
theorem ints1 {w : World} {b : Nat} {x : Int} (h0 : w.cell? ⟨b, 0, none⟩ = some (.int .i64 x)) : IntsIn w (some ⟨b, 0, none⟩) [x] := fun _ => by
  refine ⟨b, 0, rfl, fun j hj => ?_⟩
  have : j = 0 := by simp at hj; omega
  subst this; simpa using h0

theorem plain_in (r u : Int) (w : World) (h0 : 1 ≤ u) (h : u ≤ r) (h1 : r ≤ 1048576) :
    Calls Try.prog 3 #[.int .i64 r, .int .i64 u] w fun e w' => e = .returned (.bool true) ∧ Below w.heap.size w w' := by
  have hp := up_split r 8 (by omega) (by omega)
  have hm := up_split r u h0 (by omega)
  have m0 : 0 ≤ r / u := Int.ediv_nonneg (by omega) (by omega)
  have m1 : r / u ≤ r := Int.ediv_le_self _ (by omega)
  generalize hP : (r + 8 - 1) / 8 = P at *
  generalize hM : (r + u - 1) / u = M at *
  generalize hQ : (r * 1 + 2 - 1) / 2 = Q at *
  have hQ2 : (r * 1 + 1 - 1) / 1 = r := by omega
  have cQ1 := fle (Q + 1) (r + 1) (by omega) (by omega) (by omega)
  have cQ2 := fle (Q + 2) (r + 2) (by omega) (by omega) (by omega)
  have c2 : FloatKind.f64.format.order (floatOfInt .f64 2) 4611686018427387904 = some .eq := by decide +kernel
  have cr := feq r (by omega) (by omega)
  have cr1 := feq (r + 1) (by omega) (by omega)
  have cr2 := feq (r + 2) (by omega) (by omega)
  have S1 := fun ao w => plain_scan r u P ao w h0 h h1 hP
  have S2 := fun ao co w => plain_probe1 r u M ao co w h0 h h1 hM
  have S3 := fun ao co w => plain_probe2 r u ao co w h0 h h1
  have S4 := fun ao w => plain_span r u 1 2 Q ao w h0 h h1 (by omega) (by omega) (by omega) (by omega) hQ
  have S5 := fun ao w => plain_span r u 1 1 r ao w h0 h h1 (by omega) (by omega) (by omega) (by omega) hQ2
  have HS1 := Lib.hid S1
  have HS2 := Lib.hid S2
  have HS3 := Lib.hid S3
  have HS4 := Lib.hid S4
  have HS5 := Lib.hid S5
  clear S1 S2 S3 S4 S5 hP hM hQ hQ2
  have g1 : 0 < r % u → FloatKind.f64.format.order (floatOfInt .f64 (M + 1)) (floatOfInt .f64 (r / u + 1 + 1)) = some .eq := fun k => by
    rw [hm, if_pos k]; exact feq _ (by omega) (by omega)
  have g2 : r % u ≤ 0 → FloatKind.f64.format.order (floatOfInt .f64 (M + 1)) (floatOfInt .f64 (r / u + 1)) = some .eq := fun k => by
    rw [hm, if_neg (by omega)]; exact feq _ (by omega) (by omega)
  have g3 : 0 < r % 8 → FloatKind.f64.format.order (floatOfInt .f64 P) (floatOfInt .f64 (r / 8 + 1)) = some .eq := fun k => by
    rw [hp, if_pos k]; exact feq _ (by omega) (by omega)
  have g4 : r % 8 ≤ 0 → FloatKind.f64.format.order (floatOfInt .f64 P) (floatOfInt .f64 (r / 8)) = some .eq := fun k => by
    rw [hp, if_neg (by omega)]; exact feq _ (by omega) (by omega)
  have HP := Lib.hid hp
  have HM := Lib.hid hm
  clear hp hm
  go_enter Try.func3, Try.ntmps3
  go_wp2_with (go_at_call 5; refine (known_yes _).mono ?_; rintro e w1 ⟨rfl, hb⟩; have HB := Lib.hid hb; clear hb)
  refine (HS1.out _ _ (ints2 (w := w1.alloc (.cells #[.int .i64 u, .int .i64 r] 3)) ((Below.refl _ _).alloc (Nat.le_refl _) _) (by simp) (by simp))).mono ?_
  rintro e w2 ⟨rfl, hb2⟩
  have n0 := hb2.cell (p := ⟨w1.heap.size + 1, 0, none⟩) (by simp)
  have n1 := hb2.cell (p := ⟨w1.heap.size + 1, 1, none⟩) (by simp)
  have m0' := hb2.cell (p := ⟨w1.heap.size, 0, none⟩) (by simp <;> omega)
  have m1' := hb2.cell (p := ⟨w1.heap.size, 1, none⟩) (by simp <;> omega)
  simp at n0 n1 m0' m1'
  have HN0 := Lib.hid n0
  have HN1 := Lib.hid n1
  have HM0 := Lib.hid m0'
  have HM1 := Lib.hid m1'
  have HZ : Hid (w1.heap.size + 2 ≤ w2.heap.size) := by have := hb2.size; simp at this; exact this
  have HB2 : Hid (Below w.heap.size w w2) := HB.out.trans ((((Below.refl _ _).alloc (Nat.le_refl _) _).alloc (by simp) _).trans (hb2.mono (by simp; omega)) |>.mono HB.out.size)
  clear hb2 m0' m1'
  go_wp2_with fail
  refine (HS2.out _ _ _ (ints2 ((Below.refl _ _).alloc (Nat.le_refl _) _) HM0.out HM1.out) (ints1 (by simp))).mono ?_
  rintro e w3 ⟨rfl, hb3⟩
  have HB3 : Hid (Below w2.heap.size w2 w3) := ((Below.refl _ _).alloc (Nat.le_refl _) _).trans (hb3.mono (by simp))
  clear hb3
  have n0 := cell_later HB3.out HN0.out
  have n1 := cell_later HB3.out HN1.out
  go_wp2_with fail
  refine (HS3.out _ _ _ (ints2 (HB3.out.alloc HB3.out.size _) HM0.out HM1.out) (ints2 (Below.refl _ _) (by simp) (by simp))).mono ?_
  rintro e w4 ⟨rfl, hb4⟩
  have HB4 : Hid (Below w2.heap.size w2 w4) := HB3.out.trans (((Below.refl _ _).alloc (Nat.le_refl _) _).trans (hb4.mono (by simp)) |>.mono HB3.out.size)
  clear hb4 n0 n1
  have n0 := cell_later HB4.out HN0.out
  have n1 := cell_later HB4.out HN1.out
  go_wp2_with fail
  refine (HS4.out _ _ (ints2 HB4.out HM0.out HM1.out)).mono ?_
  rintro e w5 ⟨rfl, hb5⟩
  have HB5 : Hid (Below w2.heap.size w2 w5) := HB4.out.trans (hb5.mono HB4.out.size)
  clear hb5 n0 n1
  have n0 := cell_later HB5.out HN0.out
  have n1 := cell_later HB5.out HN1.out
  go_wp2_with fail
  refine (HS5.out _ _ (ints2 HB5.out HM0.out HM1.out)).mono ?_
  rintro e w6 ⟨rfl, hb6⟩
  have HB6 : Hid (Below w.heap.size w w6) := HB2.out.trans ((HB5.out.trans (hb6.mono HB5.out.size)).mono HB2.out.size)
  clear hb6 n0 n1
  go_wp2_with fail
  all_goals (go_ret; exact ⟨rfl, HB6.out⟩)

theorem plain_walk (r u : Int) (w : World) :
    Calls Try.prog 3 #[.int .i64 r, .int .i64 u] w fun e w' => e = .returned (.bool true) ∧ Below w.heap.size w w' := by
  by_cases h : r < 1 ∨ 1048576 < r ∨ u < 1 ∨ r < u
  · exact plain_out r u w h
  · exact plain_in r u w (by omega) (by omega) (by omega)
end Go.Proofs.Ytmkhneapkcfmgaa.K
