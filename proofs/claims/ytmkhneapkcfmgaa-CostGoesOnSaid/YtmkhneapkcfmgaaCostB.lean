/-
  Scan, Probe, Span of package cost, each by a contract, where the statistics are in their bounds.
-/
import Derived.Test.YtmkhneapkcfmgaaCostA
namespace Go.Proofs.Ytmkhneapkcfmgaa.K
open Go.RowKit
set_option linter.unusedVariables false

theorem quiet_same {P : Program} {f : FuncId} {args : Array Value} {w : World} {n : Nat} {v : Value}
    (h : Calls P f args (w.drewN n) fun e w' => e = .returned v ∧ w.drewN n = w') : Calls P f args (w.drewN n) fun e w' => e = .returned v ∧ ∃ m, w' = w.drewN m :=
  h.mono fun _ _ ⟨a, b⟩ => ⟨a, n, b.symm⟩

abbrev cx (a b : Int) : Value := .complex .f64 (floatOfInt .f64 a) (floatOfInt .f64 b)

theorem scan_yes (l : List Int) (rows : Int) (ao : Option Addr) (cap : Nat) (w : World) (h0 : 0 ≤ rows) (h1 : rows ≤ 1048576)
    (hb : Bounds rows l) (hl : l.length ≤ 8) (ha : IntsIn w ao l) :
    Calls Try.prog 6 #[.agg #[.int .i64 rows, .slice ao l.length cap]] w fun e w' => e = .returned (.tuple #[cx rows ((rows + 8 - 1) / 8), .int .i64 0]) ∧ Below w.heap.size w w' := by
  have C := fun w' (hw : Below w.heap.size w w') => can_yes l rows ao cap w' h0 h1 hb hl (ha.below hw)
  have HC := Lib.hid C
  clear C
  generalize l.length = n at *
  go_enter Try.func6, Try.ntmps6
  go_wp2_with (go_at_call 12; refine (HC.out _ ((Below.refl _ _).alloc (Nat.le_refl _) _)).mono ?_; rintro e w1 ⟨rfl, hb1⟩)
  have hc0 := hb1.cell (p := ⟨w.heap.size, 0, none⟩) (by simp)
  simp at hc0
  go_quiet ((first | (go_at_call 14; exact quiet_same (up_any _ _ _ h0 (by omega) (by omega) (by omega))) | (go_at_call 13; exact quiet_same (of_any _ _ _))))
  go_wp2
  go_ret2
  exact ⟨rfl, ((Below.refl _ _).alloc (Nat.le_refl _) _).trans ((hb1.mono (by simp)).trans ⟨rfl, rfl, rfl, Nat.le_refl _, fun _ _ => rfl⟩)⟩

/-- 'by' of Probe behind so many columns. -/
def byOf (rows : Int) (l : List Int) (cs : List Int) : Int := cs.foldl (fun b c => min (b * l.getD c.toNat 0) rows) 1
theorem byOf_bd (rows : Int) (l cs : List Int) (h0 : 1 ≤ rows) (hb : Bounds rows l) (hc : ∀ c ∈ cs, 0 ≤ c ∧ c < l.length) : 1 ≤ byOf rows l cs ∧ byOf rows l cs ≤ rows := by
  have gen : ∀ (cs : List Int) (b : Int), (∀ c ∈ cs, 0 ≤ c ∧ c < l.length) → 1 ≤ b → b ≤ rows → 1 ≤ cs.foldl (fun b c => min (b * l.getD c.toNat 0) rows) b ∧ cs.foldl (fun b c => min (b * l.getD c.toNat 0) rows) b ≤ rows := by
    intro cs
    induction cs with
    | nil => intro b _ h1 h2; exact ⟨h1, h2⟩
    | cons c cs ih =>
      intro b h h1 h2
      have hc := h c (List.mem_cons_self ..)
      have hB := hb c.toNat (by omega)
      have hpos : 1 ≤ l.getD c.toNat 0 := by omega
      have hm : 1 * 1 ≤ b * l.getD c.toNat 0 := Int.mul_le_mul h1 hpos (by omega) (by omega)
      exact ih _ (fun x hx => h x (List.mem_cons_of_mem _ hx)) (Int.le_min.2 ⟨by omega, h0⟩) (Int.min_le_right _ _)
  exact gen cs 1 hc (by omega) h0
theorem byOf_snoc (rows : Int) (l cs : List Int) (c : Int) : byOf rows l (cs ++ [c]) = min (byOf rows l cs * l.getD c.toNat 0) rows := by
  simp [byOf, List.foldl_append]
theorem take_snoc (l : List Int) (k : Nat) (h : k < l.length) : l.take (k + 1) = l.take k ++ [l.getD k 0] := by
  rw [List.take_succ_eq_append_getElem h]; simp [List.getD_eq_getElem?_getD, h]

theorem probe_yes (l cs : List Int) (rows : Int) (ao co : Option Addr) (cap cap2 : Nat) (w : World) (h0 : 1 ≤ rows) (h1 : rows ≤ 1048576)
    (hb : Bounds rows l) (hl : l.length ≤ 8) (ha : IntsIn w ao l) (hco : IntsIn w co cs) (hcs : 0 < cs.length) (hcl : cs.length ≤ 1000) (hin : ∀ c ∈ cs, 0 ≤ c ∧ c < l.length) :
    Calls Try.prog 7 #[.agg #[.int .i64 rows, .slice ao l.length cap], .slice co cs.length cap2] w fun e w' => e = .returned (.tuple #[cx ((rows + byOf rows l cs - 1) / byOf rows l cs + 1) ((rows + byOf rows l cs - 1) / byOf rows l cs + 1), .int .i64 0]) ∧ Below w.heap.size w w' := by
  have C := fun w' (hw : Below w.heap.size w w') => can_yes l rows ao cap w' (by omega) h1 hb hl (ha.below hw)
  have HC := Lib.hid C
  have HA := Lib.hid ha
  have HCO := Lib.hid hco
  have HIN := Lib.hid hin
  have HB := Lib.hid hb
  clear C ha hco hin hb
  have hfin := byOf_bd rows l cs h0 HB.out HIN.out
  generalize hn : l.length = n at *
  generalize hm : cs.length = m at *
  have HN := Lib.hid hn
  have HM := Lib.hid hm
  clear hn hm
  go_enter Try.func7, Try.ntmps7
  go_wp2_with (go_at_call 12; refine (HC.out _ ((Below.refl _ _).alloc (Nat.le_refl _) _)).mono ?_; rintro e w1 ⟨rfl, hb1⟩)
  have hcm := hb1.cell (p := ⟨w.heap.size, 0, none⟩) (by simp)
  have hcm2 := hb1.cell (p := ⟨w.heap.size, 1, none⟩) (by simp)
  simp at hcm hcm2
  have HC0 := Lib.hid hcm
  have HC1 := Lib.hid hcm2
  have HBW : Hid (Below w.heap.size w w1) := ((Below.refl _ _).alloc (Nat.le_refl _) _).trans (hb1.mono (by simp))
  have HS : Hid (w.heap.size < w1.heap.size) := by have := hb1.size; simp at this; exact this
  clear hcm hcm2 hb1
  go_loopw [6, 20] (fun b i wr => ∃ k : Nat, k ≤ m ∧ i = .int .i64 k ∧ b = .int .i64 (byOf rows l (cs.take k)) ∧ Below w1.heap.size w1 wr) (fun _ i _ => m - (intOf i).toNat)
  case atStart => exact ⟨0, Nat.zero_le _, rfl, rfl, Below.refl _ _⟩
  case round =>
    obtain ⟨k, hk, rfl, rfl, hbw⟩ := hrel
    have c0 := cell_later hbw HC0.out
    have c1 := cell_later hbw HC1.out
    have HBW2 := Lib.hid hbw
    clear hbw
    by_cases hlt : k < m
    · obtain ⟨b, o, rfl, hc⟩ := HCO.out (by have := HM.out; omega)
      have hcell := cell_later HBW2.out (cell_later HBW.out (hc k (by have := HM.out; omega)))
      obtain ⟨q1, q2⟩ := HIN.out (cs.getD k 0) (by have := HM.out; rw [List.getD_eq_getElem?_getD, List.getElem?_eq_getElem (by omega)]; simp)
      obtain ⟨b2, o2, rfl, hc2⟩ := HA.out (by have := HN.out; omega)
      generalize hc' : cs.getD k 0 = c at *
      have hcell2 := cell_later HBW2.out (cell_later HBW.out (hc2 c.toNat (by have := HN.out; omega)))
      have HB2 := Lib.hid (HB.out c.toNat (by have := HN.out; omega))
      have HBY := Lib.hid (byOf_bd rows l (cs.take k) h0 HB.out (fun c h => by rw [HN.out]; exact HIN.out c (List.mem_of_mem_take h)))
      have HX := Lib.hid hc'
      have q3 : c ≤ (n : Int) - 1 := by omega
      clear hc hc2 hc'
      go_wp2_with (go_at_call 15; refine (in_any _ _ _ _).mono ?_; rintro e w' ⟨rfl, rfl⟩)
      generalize hB0 : byOf rows l (cs.take k) = B0 at *
      generalize hD0 : l.getD c.toNat 0 = D0 at *
      have HB0 := Lib.hid hB0
      have HD0 := Lib.hid hD0
      clear hB0 hD0
      have hm1 : 1 * 1 ≤ B0 * D0 := Int.mul_le_mul HBY.out.1 (by have := HB2.out; omega) (by omega) (by have := HBY.out; omega)
      have hm2 : B0 * D0 ≤ 1048576 * 1048576 := Int.mul_le_mul (by have := HBY.out; omega) (by have := HB2.out; omega) (by have := HB2.out; omega) (by omega)
      have hm3 : 0 ≤ B0 * D0 := by omega
      have hm4 : B0 * D0 ≤ 1099511627776 := by omega
      clear hm1 hm2
      go_quiet (fail)
      go_wp2
      have hB : byOf rows l (cs.take (k + 1)) = min (B0 * D0) rows := by
        rw [take_snoc cs k (by have := HM.out; omega), byOf_snoc, HX.out, HB0.out, HD0.out]
      have hbel : Below w1.heap.size w1 (wr.drewN nq) := HBW2.out.trans ⟨rfl, rfl, rfl, Nat.le_refl _, fun _ _ => rfl⟩
      · exact ⟨⟨_, _, _, _, _, ⟨k + 1, by omega, by go_num, by rw [hB]; congr 1; omega, hbel⟩, rfl, rfl, rfl, rfl, rfl⟩, by simp [intOf]; omega⟩
      · have hB : byOf rows l (cs.take (k + 1)) = min (B0 * D0) rows := by
          rw [take_snoc cs k (by have := HM.out; omega), byOf_snoc, HX.out, HB0.out, HD0.out]
        have hbel : Below w1.heap.size w1 (wr.drewN nq) := HBW2.out.trans ⟨rfl, rfl, rfl, Nat.le_refl _, fun _ _ => rfl⟩
        exact ⟨⟨_, _, _, _, _, ⟨k + 1, by omega, by go_num, by rw [hB]; congr 1; omega, hbel⟩, rfl, rfl, rfl, rfl, rfl⟩, by simp [intOf]; omega⟩
    · obtain rfl : k = m := by omega
      have hfull : cs.take k = cs := List.take_of_length_le (by have := HM.out; omega)
      rw [hfull]
      obtain ⟨f1, f2⟩ := hfin
      have f3 : ¬ rows = 0 := by omega
      generalize hBB : byOf rows l cs = B at *
      have HBB := Lib.hid hBB
      clear hBB
      have hq1 : (rows + B - 1) / B ≤ 1048576 := by
        have : (rows + B - 1) / B ≤ rows + B - 1 := Int.ediv_le_self _ (by omega)
        have h2 : (rows + B - 1) / B * B ≤ rows + B - 1 := Int.ediv_mul_le _ (by omega)
        have h3 : (rows + B - 1) / B ≤ (rows * B) / B := Int.ediv_le_ediv (by omega) (by
          have : 0 ≤ (rows - 1) * (B - 1) := Int.mul_nonneg (by omega) (by omega)
          have e : (rows - 1) * (B - 1) = rows * B - rows - B + 1 := by
            rw [Int.sub_mul, Int.mul_sub]; omega
          omega)
        rw [Int.mul_ediv_cancel _ (by omega)] at h3
        omega
      have hq0 : 0 ≤ (rows + B - 1) / B := Int.ediv_nonneg (by omega) (by omega)
      go_wp2_with (first | (go_at_call 14; refine (up_any _ _ _ (by omega) (by omega) (by omega) (by omega)).mono ?_; rintro e w' ⟨rfl, rfl⟩) | (go_at_call 13; refine (of_any _ _ _).mono ?_; rintro e w' ⟨rfl, rfl⟩))
      go_ret2
      rw [HBB.out]
      exact ⟨rfl, HBW.out.trans (HBW2.out.mono (by have := HS.out; omega))⟩

theorem span_yes (l : List Int) (rows part whole : Int) (ao : Option Addr) (cap : Nat) (w : World) (h0 : 1 ≤ rows) (h1 : rows ≤ 1048576)
    (hb : Bounds rows l) (hl : l.length ≤ 8) (ha : IntsIn w ao l) (hw : 1 ≤ whole) (hw2 : whole ≤ 2) (hp : 0 ≤ part) (hp2 : part ≤ whole) :
    Calls Try.prog 8 #[.agg #[.int .i64 rows, .slice ao l.length cap], .int .i64 part, .int .i64 whole] w fun e w' =>
      e = .returned (.tuple #[cx ((rows * part + whole - 1) / whole + 1) ((rows * part + whole - 1) / whole + 2), .int .i64 0]) ∧ Below w.heap.size w w' := by
  have C := fun w' (hw : Below w.heap.size w w') => can_yes l rows ao cap w' (by omega) h1 hb hl (ha.below hw)
  have HC := Lib.hid C
  clear C
  generalize l.length = n at *
  have e1 : whole ≤ 1048576 := by omega
  have m0 : 0 ≤ rows * part := Int.mul_nonneg (by omega) hp
  have m1 : rows * part ≤ 1048576 * 2 := Int.mul_le_mul h1 (by omega) hp (by omega)
  have m2 : rows * part ≤ 2097152 := by omega
  clear m1
  generalize hM : (rows * part + whole - 1) / whole = M at *
  have hM1 : 0 ≤ M := by subst hM; exact Int.ediv_nonneg (by omega) (by omega)
  have hM2 : M ≤ 2097154 := by subst hM; exact Int.le_trans (Int.ediv_le_self _ (by omega)) (by omega)
  have HM := Lib.hid hM
  clear hM
  go_enter Try.func8, Try.ntmps8
  go_wp2_with (first | (go_at_call 12; refine (HC.out _ ((Below.refl _ _).alloc (Nat.le_refl _) _)).mono ?_; rintro e w1 ⟨rfl, hb1⟩; have hc0 := hb1.cell (p := ⟨w.heap.size, 0, none⟩) (by simp); simp at hc0) | (go_at_call 15; refine (in_any _ _ _ _).mono ?_; rintro e w' ⟨rfl, rfl⟩) | (go_at_call 14; refine (up_any _ _ _ (by omega) (by omega) (by omega) (by omega)).mono ?_; rw [HM.out]; rintro e w' ⟨rfl, rfl⟩) | (go_at_call 13; refine (of_any _ _ _).mono ?_; rintro e w' ⟨rfl, rfl⟩))
  go_ret2
  exact ⟨rfl, ((Below.refl _ _).alloc (Nat.le_refl _) _).trans (hb1.mono (by simp))⟩
end Go.Proofs.Ytmkhneapkcfmgaa.K
