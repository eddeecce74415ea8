/-
  TxnPlays at every input.
-/
import Derived.Test.YtilkbcoofbkemaaTPlays
namespace Go.Proofs.Ytilkbcoofbkemaa.T
set_option linter.unusedSimpArgs false
open Go Go.RowKit Go.Proofs.Ytilkbcoofbkemaa.I
set_option linter.unusedVariables false
/-- TxnPlays at every input. -/
theorem plays_law {w : World} (a : Int) (ha : 0 ≤ a ∧ a ≤ 18446744073709551615) (v : Value) (l : List StepD) (hv : StepsAt w v l) :
    Calls Try.prog 7 #[.int .u64 a, v] w fun e w' => e = .returned (.bool true) ∧ Below w.heap.size w w' := by
  obtain ⟨x, rfl⟩ := Int.eq_ofNat_of_zero_le ha.1
  exact plays_main x (by omega) v l hv
end Go.Proofs.Ytilkbcoofbkemaa.T
