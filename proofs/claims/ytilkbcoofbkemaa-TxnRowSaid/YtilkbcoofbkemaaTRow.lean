/-
  The walk of TxnRow.
-/
import Derived.Test.YtilkbcoofbkemaaTxnF
import Derived.Test.YtilkbcoofbkemaaOpenB
namespace Go.Proofs.Ytilkbcoofbkemaa.T
set_option linter.unusedSimpArgs false
open Go Go.RowKit Go.Proofs.Ytilkbcoofbkemaa.I
set_option linter.unusedVariables false
/-- Those of the first i that are gone. -/
def goneOf (l : List Bool) (i : Nat) : List Nat := ((List.range i).filter fun k => !l.getD k false).map (· + 1)
theorem mem_gone (l : List Bool) (i x : Nat) : x ∈ goneOf l i ↔ ∃ k, k < i ∧ l.getD k false = false ∧ x = k + 1 := by
  simp only [goneOf, List.mem_map, List.mem_filter, List.mem_range]
  constructor
  · rintro ⟨k, ⟨h1, h2⟩, rfl⟩; exact ⟨k, h1, by simpa using h2, rfl⟩
  · rintro ⟨k, h1, h2, rfl⟩; exact ⟨k, ⟨h1, by simpa using h2⟩, rfl⟩
theorem goneOf_true {l : List Bool} {i : Nat} (h : l.getD i false = true) : goneOf l (i + 1) = goneOf l i := by
  unfold goneOf
  rw [List.range_succ, List.filter_append]
  simp only [List.filter_cons, h, List.filter_nil]
  simp
theorem goneOf_false {l : List Bool} {i : Nat} (h : l.getD i false = false) : goneOf l (i + 1) = goneOf l i ++ [i + 1] := by
  unfold goneOf
  rw [List.range_succ, List.filter_append]
  simp only [List.filter_cons, h, List.filter_nil]
  simp
structure RowFacts (l : List Bool) (i i1 i2 : Nat) : Prop where
  b : (⟨i1, [], goneOf l i⟩ : TS).begin = ⟨i2, [⟨i1, i1, []⟩], goneOf l i⟩
  h : (⟨i2, [⟨i1, i1, []⟩], goneOf l i⟩ : TS).horizon = i1
  st : (⟨i2, [⟨i1, i1, []⟩], goneOf l i⟩ : TS).state i1 = 1
  se : ∀ k, k < i → (⟨i2, [⟨i1, i1, []⟩], goneOf l i⟩ : TS).sees ⟨i1, i1, []⟩ (k + 1) = l.getD k false
  c : (⟨i2, [⟨i1, i1, []⟩], goneOf l i⟩ : TS).commit i1 = (⟨i2, [], goneOf l i⟩, 0)
  cs : (⟨i2, [], goneOf l i⟩ : TS).state i1 = 2
  a : (⟨i2, [⟨i1, i1, []⟩], goneOf l i⟩ : TS).abort i1 = (⟨i2, [], goneOf l i ++ [i1]⟩, 0)
  ag : (⟨i2, [], goneOf l i ++ [i1]⟩ : TS).state i1 = 3
  hh : ∀ g, (⟨i2, [], g⟩ : TS).horizon = i2
  no : ∀ g, (⟨i2, [], g⟩ : TS).sees ⟨i1, i1, []⟩ i2 = false
theorem rowFacts (l : List Bool) (i : Nat) : RowFacts l i (i + 1) (i + 2) := by
  have hg : i + 1 ∉ goneOf l i := fun h => by
    obtain ⟨k, h1, _, h3⟩ := (mem_gone l i _).1 h
    omega
  refine ⟨rfl, ?_, ?_, fun k hk => ?_, ?_, ?_, ?_, ?_, fun g => ?_, fun g => ?_⟩
  · simp [TS.horizon, Snap.low]
  · simp [TS.state, TS.isOpen]
  · have h1 : k + 1 ≠ i + 1 := by omega
    cases hb : l.getD k false with
    | true =>
      have : k + 1 ∉ goneOf l i := fun h => by
        obtain ⟨k', h1, h2, h3⟩ := (mem_gone l i _).1 h
        obtain rfl : k' = k := by omega
        rw [hb] at h2; cases h2
      have h3 : ¬ i = k := by omega
      have h4 : ¬ k = i := by omega
      have h5 : ¬ i + 2 ≤ k + 1 := by omega
      simp [TS.sees, TS.state, TS.isOpen, this, h3, h4, h5]
      omega
    | false =>
      have : k + 1 ∈ goneOf l i := (mem_gone l i _).2 ⟨k, hk, hb, rfl⟩
      have h3 : ¬ i = k := by omega
      have h4 : ¬ k = i := by omega
      have h5 : ¬ i + 2 ≤ k + 1 := by omega
      simp [TS.sees, TS.state, TS.isOpen, this, h3, h4, h5]
  · simp [TS.commit, TS.isOpen, TS.drop]
  · simp [TS.state, TS.isOpen, hg]
  · simp [TS.abort, TS.abort.mputN, TS.isOpen, TS.drop, hg]
  · simp [TS.state, TS.isOpen]
  · simp [TS.horizon]
  · simp [TS.sees]
set_option maxRecDepth 100000 in
set_option maxHeartbeats 4000000 in
theorem row_main {w : World} (v : Value) (l : List Bool) (hv : BoolsAt w v l) :
    Calls Try.prog 3 #[v] w fun e w' => e = .returned (.bool true) ∧ Below w.heap.size w w' := by
  have K := Lib.hid (known_any w)
  have N := Lib.hid (fun w1 (hO : Only [] w w1) => new_tab hO 1 (by decide))
  obtain ⟨ao, cap, rfl, hc⟩ := hv
  have CC := Lib.hid hc
  clear hc
  generalize hn : l.length = n at *
  have HN := Lib.hid hn
  clear hn
  by_cases h80 : 80 < n
  · have h80i : (80 : Int) < n := by omega
    go_enter Try.func3, Try.ntmps3
    go_wp2_with (go_at_call 8; refine K.out.mono ?_; rintro e w1 ⟨rfl, hO1⟩; have O1 := Lib.hid hO1; clear hO1)
    go_ret
    exact ⟨rfl, O1.out.below (Nat.le_refl _) (by simp)⟩
  have h80i : ¬ (80 : Int) < n := by omega
  go_enter Try.func3, Try.ntmps3
  go_wp2_with (first | (go_at_call 8; refine K.out.mono ?_; rintro e w1 ⟨rfl, hO1⟩; have O1 := Lib.hid hO1; clear hO1) | (go_at_call 9; refine (N.out _ O1.out).mono ?_; rintro e w2 ⟨t, bo, bg, rfl, hT2, hO2⟩; have T2 := Lib.hid hT2; clear hT2 hO2))
  go_loopg [4] n (fun gk i wr => ∃ k : Nat, gk = n - k ∧ k ≤ n ∧ i = .int .i64 k ∧ Tab w wr t bo bg k ⟨k + 1, [], goneOf l k⟩)
  case atStart => exact ⟨0, rfl, Nat.zero_le _, rfl, T2.out⟩
  case round =>
    obtain ⟨k, hgk, hk, rfl, hT⟩ := hrel
    have HGK := Lib.hid hgk
    clear hgk
    obtain ⟨i1, e1⟩ : ∃ i1, k + 1 = i1 := ⟨_, rfl⟩
    obtain ⟨i2, e2⟩ : ∃ i2, k + 2 = i2 := ⟨_, rfl⟩
    have E1 := Lib.hid e1
    have E2 : Hid (i1 + 1 = i2) := by show _ = _; omega
    have RF : Hid (RowFacts l k i1 i2) := by
      show RowFacts _ _ _ _
      rw [← e1, ← e2]; exact rowFacts l k
    rw [e1] at hT
    have TT := Lib.hid hT
    have ei : (k : Int) + 1 = (i1 : Int) := by omega
    have ei2 : (i1 : Int) + 1 = (i2 : Int) := by omega
    clear e1 e2 hT
    by_cases hlt : k < n
    · obtain ⟨b, o, rfl, hc⟩ := CC.out (by omega)
      have HC := Lib.hid hc
      clear hc CC
      have hki : (k : Int) < n := by omega
      go_wp2_with (first
        | (go_at_call 10; refine (TT.out.begin' (by omega) (m := i1) (n := 0) rfl rfl RF.out.b).mono ?_; rintro e w4 ⟨a4, c4, rfl, hr4, hT4, hO4⟩; have T4 := Lib.hid (hT4.past ((Only.refl _ _).alloc (.cells #[.int .u64 i1, .int .u64 i1, .slice a4 0 c4] 29))); have BS4 := Lib.hid (Blk.new [.int .u64 i1, .int .u64 i1, .slice a4 0 c4] 29 w4); clear hr4 hT4 hO4)
        | (go_at_call 11; refine (T4.out.horizon' (by omega) RF.out.h).mono ?_; rintro e w5 ⟨rfl, hO5⟩; have O5 := Lib.hid hO5; clear hO5)
        | (go_at_call 12; refine ((T4.out.past O5.out).state' i1 RF.out.st).mono ?_; rintro e w6 ⟨rfl, hO6⟩; have O6 := Lib.hid (O5.out.trans hO6 (by simp)); clear hO6))
      go_loopg [7] k (fun gj x wx => ∃ j : Nat, gj = k - j ∧ j ≤ k ∧ x = .int .i64 j ∧ Only [] w6 wx)
      case atStart => exact ⟨0, rfl, Nat.zero_le _, rfl, Only.refl _ _⟩
      case round =>
        obtain ⟨j, hgj, hj, rfl, hO⟩ := hrel
        rename World => wx
        have HGJ := Lib.hid hgj
        have OX := Lib.hid hO
        have T7 := Lib.hid (T4.out.past (O6.out.trans hO (by simp)))
        have BS7 := Lib.hid ((O6.out.trans hO (by simp)).blk BS4.out (by simp))
        clear hgj hO
        by_cases hjl : j < k
        · have x0 := BS7.out.cell 0
          have x1 := BS7.out.cell 1
          have x2 := BS7.out.cell 2
          simp only [List.getElem?_cons_succ, List.getElem?_cons_zero] at x0 x1 x2
          have hcj := T7.out.own.cell (HC.out j (by omega)) (by simp)
          have HX0 := Later.cell x0
          have HX1 := Later.cell x1
          have HX2 := Later.cell x2
          have HCJ := Later.cell hcj
          have hse := RF.out.se j hjl
          clear x0 x1 x2 hcj
          obtain ⟨j1, ej⟩ : ∃ j1, j + 1 = j1 := ⟨_, rfl⟩
          have eji : (j : Int) + 1 = (j1 : Int) := by omega
          rw [ej] at hse
          have EJ := Lib.hid ej
          clear ej
          generalize l.getD j false = bj at *
          have LS : Hid (∀ x : Later wx, Calls Try.prog 13 #[.pointer (some ⟨t, 0, none⟩), .agg #[.int .u64 i1, .int .u64 i1, .slice a4 0 c4], .int .u64 j1] x.v fun e w' => e = .returned (.bool bj) ∧ ∃ y : Later wx, w' = y.v) := fun x => Calls.later (fun w1 hO1 => (T7.out.past hO1).sees' (NatsAt.none_ _ _ _) (by decide) j1 hse) x
          clear hse
          have hji : (j : Int) < k := by omega
          have hjn : (j : Int) < n := by omega
          have hj0 : (0 : Int) ≤ j := by omega
          have hbb : (bj != bj) = false := by simp
          go_wp2_with fail
          refine wp_region_later (Only.refl _ _) (by kernel_rfl) (by kernel_rfl) ?_
          repeat (go_big_quiet_step ((go_at_call 13; exact LS.out _)))
          refine wpQuiet_nil ?_
          rintro _ ⟨xq, rfl⟩
          go_wp2_with fail
          go_roundg (k - (j + 1))
          case measure => have := HGJ.out; omega
          case rel => exact ⟨j + 1, rfl, by omega, by go_num, OX.out.trans xq.h (by simp)⟩
        · obtain rfl : j = k := by omega
          have hcj := T7.out.own.cell (HC.out j hlt) (by simp)
          have hjn : (j : Int) < n := by omega
          have hj0 : (0 : Int) ≤ j := by omega
          cases hb : l.getD j false with
          | true =>
            rw [hb] at hcj
            have HB := Lib.hid hb
            clear hb
            go_wp2_with (first
              | (go_at_call 14; refine (T7.out.commit' i1 RF.out.c).mono ?_; rintro e w8 ⟨rfl, hT8, hO8⟩; have T8 := Lib.hid hT8; have BS8 := Lib.hid (hO8.blk BS7.out (T7.out.ne BS7.out (by decide))); clear hT8 hO8)
              | (go_at_call 12; refine (T8.out.state' i1 RF.out.cs).mono ?_; rintro e w9 ⟨rfl, hO9⟩; have O9 := Lib.hid hO9; clear hO9)
              | (go_at_call 11; refine ((T8.out.past O9.out).horizon' (by omega) (RF.out.hh _)).mono ?_; rintro e w10 ⟨rfl, hO10⟩; have O10 := Lib.hid (O9.out.trans hO10 (by simp)); have BS10 := Lib.hid (O10.out.blk BS8.out (by simp)); have x0 := BS10.out.cell 0; have x1 := BS10.out.cell 1; have x2 := BS10.out.cell 2; simp only [List.getElem?_cons_succ, List.getElem?_cons_zero] at x0 x1 x2; clear hO10)
              | (go_at_call 13; refine ((T8.out.past O10.out).sees' (NatsAt.none_ _ _ _) (by decide) i2 (RF.out.no _)).mono ?_; rintro e w11 ⟨rfl, hO11⟩; have T11 := Lib.hid ((T8.out.past O10.out).past hO11); clear hO11))
            go_roundg (n - (j + 1))
            case measure => have := HGK.out; omega
            case rel => exact ⟨j + 1, rfl, by omega, by go_num, T11.out.to (by rw [goneOf_true HB.out, E1.out, ← E2.out])⟩
          | false =>
            rw [hb] at hcj
            have HB := Lib.hid hb
            clear hb
            go_wp2_with (first
              | (go_at_call 15; refine (T7.out.abort' i1 RF.out.a).mono ?_; rintro e w8 ⟨rfl, hT8, hO8⟩; have T8 := Lib.hid hT8; have BS8 := Lib.hid (hO8.blk BS7.out (T7.out.ne BS7.out (by decide))); clear hT8 hO8)
              | (go_at_call 12; refine (T8.out.state' i1 RF.out.ag).mono ?_; rintro e w9 ⟨rfl, hO9⟩; have O9 := Lib.hid hO9; clear hO9)
              | (go_at_call 11; refine ((T8.out.past O9.out).horizon' (by omega) (RF.out.hh _)).mono ?_; rintro e w10 ⟨rfl, hO10⟩; have O10 := Lib.hid (O9.out.trans hO10 (by simp)); have BS10 := Lib.hid (O10.out.blk BS8.out (by simp)); have x0 := BS10.out.cell 0; have x1 := BS10.out.cell 1; have x2 := BS10.out.cell 2; simp only [List.getElem?_cons_succ, List.getElem?_cons_zero] at x0 x1 x2; clear hO10)
              | (go_at_call 13; refine ((T8.out.past O10.out).sees' (NatsAt.none_ _ _ _) (by decide) i2 (RF.out.no _)).mono ?_; rintro e w11 ⟨rfl, hO11⟩; have T11 := Lib.hid ((T8.out.past O10.out).past hO11); clear hO11))
            go_roundg (n - (j + 1))
            case measure => have := HGK.out; omega
            case rel => exact ⟨j + 1, rfl, by omega, by go_num, T11.out.to (by rw [goneOf_false HB.out, E1.out, ← E2.out])⟩
    · obtain rfl : k = n := by omega
      have hki : ¬ (k : Int) < k := by omega
      go_wp2_with fail
      go_ret
      exact ⟨rfl, TT.out.own.below (Nat.le_refl _) (by simp)⟩
end Go.Proofs.Ytilkbcoofbkemaa.T
