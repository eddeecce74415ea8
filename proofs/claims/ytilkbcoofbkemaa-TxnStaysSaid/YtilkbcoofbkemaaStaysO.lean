/-
  TxnStays at every input.
-/
import Derived.Test.YtilkbcoofbkemaaTStays
namespace Go.Proofs.Ytilkbcoofbkemaa.T
set_option linter.unusedSimpArgs false
open Go Go.RowKit Go.Proofs.Ytilkbcoofbkemaa.I
set_option linter.unusedVariables false
set_option maxRecDepth 100000 in
theorem stays_out {w : World} (v : Value) (l : List StepD) (hv : StepsAt w v l) (a b : Int) (h60 : 60 < l.length) :
    Calls Try.prog 5 #[v, .int .u64 a, .int .u64 b] w fun e w' => e = .returned (.bool true) ∧ Below w.heap.size w w' := by
  have K := Lib.hid (known_any w)
  obtain ⟨ao, cap, rfl, hml, hc⟩ := hv
  clear hc hml
  have h60i : (60 : Int) < l.length := by omega
  go_enter Try.func5, Try.ntmps5
  go_wp2_with (go_at_call 8; refine K.out.mono ?_; rintro e w1 ⟨rfl, hO1⟩; have O1 := Lib.hid hO1; clear hO1)
  go_ret
  exact ⟨rfl, O1.out.below (Nat.le_refl _) (by simp)⟩
/-- TxnStays at every input. -/
theorem stays_law {w : World} (v : Value) (l : List StepD) (hv : StepsAt w v l) (a : Int) (ha : 0 ≤ a ∧ a ≤ 18446744073709551615) (b : Int) (hb : 0 ≤ b ∧ b ≤ 18446744073709551615) :
    Calls Try.prog 5 #[v, .int .u64 a, .int .u64 b] w fun e w' => e = .returned (.bool true) ∧ Below w.heap.size w w' := by
  by_cases h : 60 < l.length
  · exact stays_out v l hv a b h
  · obtain ⟨x, rfl⟩ := Int.eq_ofNat_of_zero_le ha.1
    obtain ⟨y, rfl⟩ := Int.eq_ofNat_of_zero_le hb.1
    exact stays_main v l hv x y (by omega)
end Go.Proofs.Ytilkbcoofbkemaa.T
