/-
  The walk of CostGoesOn: the Go text answers true at every input; nothing that was there is changed.
-/
import Derived.Test.YtmkhneapkcfmgaaCostE
namespace Go.Proofs.Ytmkhneapkcfmgaa.K
open Go.RowKit F
set_option linter.unusedVariables false

theorem flv (n : Nat) (h : n ≤ 1099511627776) : floatOfInt .f64 (n : Int) = fl n := by rw [floatOfInt_eq _ (by omega) (by omega)]; rfl
theorem lt_no (a b : Nat) (h : b ≤ a) (ha : a ≤ 1099511627776) : (FloatKind.f64.format.order (fl a) (fl b) == some .lt) = false := by
  rw [cmp _ _ (by omega) (by omega)]
  by_cases h : a = b
  · rw [Nat.compare_eq_eq.2 h]; rfl
  · rw [Nat.compare_eq_gt.2 (by omega)]; rfl
theorem eq_yes (a : Nat) (ha : a ≤ 1099511627776) : (FloatKind.f64.format.order (fl a) (fl a) == some .eq) = true := by
  rw [cmp _ _ (by omega) (by omega), Nat.compare_eq_eq.2 rfl]; rfl
theorem ge_yes (a b : Nat) (h : b ≤ a) (ha : a ≤ 1099511627776) : (FloatKind.f64.format.order (fl a) (fl b) == some .gt || FloatKind.f64.format.order (fl a) (fl b) == some .eq) = true := by
  rw [cmp _ _ (by omega) (by omega)]
  by_cases h : a = b
  · rw [Nat.compare_eq_eq.2 h]; rfl
  · rw [Nat.compare_eq_gt.2 (by omega)]; rfl

theorem goes_scan (R : Nat) (ao : Option Addr) (cap : Nat) (w : World) (h : R ≤ 2000) :
    Calls Try.prog 6 #[.agg #[.int .i64 R, .slice ao 0 cap]] w fun e w' => e = .returned (.tuple #[.complex .f64 (fl R) (fl ((R + 7) / 8)), .int .i64 0]) ∧ Below w.heap.size w w' := by
  have := scan_yes [] R ao cap w (by omega) (by omega) (fun j hj => by simp at hj) (by simp) (fun hl => by simp at hl)
  have e : ((R : Int) + 8 - 1) / 8 = ((R + 7) / 8 : Nat) := by omega
  rw [cx, e, flv _ (by omega), flv _ (by omega)] at this
  exact this

/-- The three nestings, whatever is counted: what the law asks of them. -/
theorem goes_nest (a b c d n m : Nat) (ha : a ≤ 65535) (hb : b ≤ 65535) (hc : c ≤ 65535) (hd : d ≤ 65535) (hn : n ≤ 65535) (hm : m ≤ 65535) :
    ∃ y1 y2 g : Nat, ∃ f : Int, (f = 0 ∧ y1 = fl (a + n * c + m * c) ∧ y2 = fl (b + n * d + m * d) ∨ f = 170) ∧
    ∀ w, Calls Try.prog 9 #[.complex .f64 (fl (a + n * c)) (fl (b + n * d)), .complex .f64 (fl c) (fl d), .int .i64 m] w fun e w' => e = .returned (.tuple #[.complex .f64 y1 y2, .int .i64 f]) ∧ w = w' := by
  have h1 : n * c ≤ 65535 * 65535 := Nat.mul_le_mul hn hc
  have h2 : n * d ≤ 65535 * 65535 := Nat.mul_le_mul hn hd
  by_cases h : a + n * c ≤ 1073741824 ∧ b + n * d ≤ 1073741824
  · exact ⟨_, _, 0, 0, .inl ⟨rfl, rfl, rfl⟩, fun w => nest_yes _ _ c d m h.1 h.2 (by omega) (by omega) (by omega) w⟩
  · exact ⟨_, _, 0, 170, .inr rfl, fun w => nest_no _ _ _ _ m (by omega) (by omega) (by omega) (by omega) w⟩

set_option maxRecDepth 100000 in
set_option maxHeartbeats 1000000 in
theorem goes_walk (a b c d n m : Nat) (ha : a ≤ 65535) (hb : b ≤ 65535) (hc : c ≤ 65535) (hd : d ≤ 65535) (hn : n ≤ 65535) (hm : m ≤ 65535) (rows : Int) (ao : Option Addr) (len cap : Nat) (w : World) :
    Calls Try.prog 4 #[.int .u16 a, .int .u16 b, .int .u16 c, .int .u16 d, .int .u16 n, .int .u16 m, .agg #[.int .i64 rows, .slice ao len cap]] w fun e w' => e = .returned (.bool true) ∧ Below w.heap.size w w' := by
  have va := flv a (by omega)
  have vb := flv b (by omega)
  have vc := flv c (by omega)
  have vd := flv d (by omega)
  have h1 : n * c ≤ 65535 * 65535 := Nat.mul_le_mul hn hc
  have h2 : n * d ≤ 65535 * 65535 := Nat.mul_le_mul hn hd
  have h3 : m * c ≤ 65535 * 65535 := Nat.mul_le_mul hm hc
  have h4 : m * d ≤ 65535 * 65535 := Nat.mul_le_mul hm hd
  obtain ⟨y1, y2, _, f, hf, hN2⟩ := goes_nest a b c d n m ha hb hc hd hn hm
  have N1 := fun w => nest_yes a b c d n (by omega) (by omega) (by omega) (by omega) (by omega) w
  have N3 := fun w => nest_yes a b c d (n + m) (by omega) (by omega) (by omega) (by omega) (by omega) w
  rw [Nat.add_mul, Nat.add_mul, ← Nat.add_assoc, ← Nat.add_assoc, Int.natCast_add] at N3
  have S1 := fun w => sort_yes n (by omega) w
  have S2 := fun w => sort_yes (n + m) (by omega) w
  rw [Int.natCast_add] at S2
  have l1 := lt_no (a + n * c) a (by omega) (by omega)
  have l2 := lt_no (b + n * d) b (by omega) (by omega)
  have e1 := eq_yes (a + n * c + m * c) (by omega)
  have e2 := eq_yes (b + n * d + m * d) (by omega)
  have B0 : n * Lib.bitLen n ≤ (n + m) * Lib.bitLen (n + m) := Nat.mul_le_mul (by omega) (bitLen_mono (by omega))
  have B1 : (n + m) * Lib.bitLen (n + m) ≤ 131070 * 64 := Nat.mul_le_mul (by omega) (bitLen_le _)
  have l3 := lt_no _ _ B0 (by omega)
  have HN1 := Lib.hid N1
  have HN2 := Lib.hid hN2
  have HN3 := Lib.hid N3
  have HS1 := Lib.hid S1
  have HS2 := Lib.hid S2
  clear N1 N3 S1 S2 hN2 B0 B1 h1 h2 h3 h4
  generalize fl (n * Lib.bitLen n) = p1 at *
  generalize fl ((n + m) * Lib.bitLen (n + m)) = q1 at *
  generalize fl (a + n * c) = x1 at *
  generalize fl (b + n * d) = x2 at *
  generalize fl (a + n * c + m * c) = z1 at *
  generalize fl (b + n * d + m * d) = z2 at *
  have n0 : (0 : Int) ≤ n := by omega
  have n1 : (n : Int) ≤ 65535 := by omega
  have m0 : (0 : Int) ≤ m := by omega
  have m1 : (m : Int) ≤ 65535 := by omega
  rcases hf with ⟨rfl, rfl, rfl⟩ | rfl
  all_goals
    go_enter Try.func4, Try.ntmps4
    go_wp2_with (go_at_call 5; refine (known_yes _).mono ?_; rintro e w1 ⟨rfl, hb⟩; have c0 := hb.cell (p := ⟨w.heap.size, 0, none⟩) (by simp); have c1 := hb.cell (p := ⟨w.heap.size, 1, none⟩) (by simp); simp at c0 c1; have HB : Hid (Below w.heap.size w w1) := ((Below.refl _ _).alloc (Nat.le_refl _) _).trans (hb.mono (by simp)); clear hb)
    refine (HN1.out _).mono ?_
    rintro e w' ⟨rfl, rfl⟩
    go_wp2_with fail
    refine (HN2.out _).mono ?_
    rintro e w' ⟨rfl, rfl⟩
    go_wp2_with fail
    refine (HN3.out _).mono ?_
    rintro e w' ⟨rfl, rfl⟩
    go_wp2_with fail
    refine (HS1.out _).mono ?_
    rintro e w' ⟨rfl, rfl⟩
    go_wp2_with fail
    refine (HS2.out _).mono ?_
    rintro e w' ⟨rfl, rfl⟩
    go_wp2_with fail
    all_goals first
      | (go_ret; exact ⟨rfl, HB.out⟩)
      | skip
    have hr0 : 0 ≤ rows := by omega
    have hr1 : rows ≤ 1000 := by omega
    have hl0 : len = 0 := by omega
    obtain ⟨R, hR⟩ := Int.eq_ofNat_of_zero_le hr0
    subst hR hl0
    have hR2 : R ≤ 1000 := by omega
    generalize hT : m % 1000 = T at *
    have hT1 : ((m : Int) % 1000) = T := by omega
    have hT2 : T ≤ 999 := by omega
    clear hT
    have T1 := fun ao cap w => goes_scan R ao cap w (by omega)
    have T2 := fun ao cap w => goes_scan (R + T) ao cap w (by omega)
    rw [Int.natCast_add] at T2
    have HT1 := Lib.hid T1
    have HT2 := Lib.hid T2
    have HL := Lib.hid (less_no (R + T) ((R + T + 7) / 8) R ((R + 7) / 8) (by omega) (by omega) (by omega) (by omega))
    have k1 := ge_yes (R + T) R (by omega) (by omega)
    have k2 := ge_yes ((R + T + 7) / 8) ((R + 7) / 8) (by omega) (by omega)
    clear T1 T2
    generalize fl (R + T) = g1 at *
    generalize fl ((R + T + 7) / 8) = g2 at *
    generalize fl R = g3 at *
    generalize fl ((R + 7) / 8) = g4 at *
    refine (HT1.out _ _ _).mono ?_
    rintro e w2 ⟨rfl, hb2⟩
    have c0' := cell_later hb2 c0
    have HB2 : Hid (Below w.heap.size w w2) := HB.out.trans (hb2.mono HB.out.size)
    clear hb2
    go_wp2_with fail
    refine (HT2.out _ _ _).mono ?_
    rintro e w3 ⟨rfl, hb3⟩
    have HB3 : Hid (Below w.heap.size w w3) := HB2.out.trans (hb3.mono HB2.out.size)
    clear hb3
    go_wp2_with (go_at_call 11; refine (HL.out _).mono ?_; rintro e w' ⟨rfl, rfl⟩)
    go_ret
    exact ⟨rfl, HB3.out⟩
end Go.Proofs.Ytmkhneapkcfmgaa.K
