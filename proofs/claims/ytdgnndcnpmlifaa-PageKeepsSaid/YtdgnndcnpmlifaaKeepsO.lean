/-
  PageKeeps answers true at every row of steps.
-/
import Derived.Test.YtdgnndcnpmlifaaLKeeps
namespace Go.Proofs.Ytdgnndcnpmlifaa.G
set_option linter.unusedSimpArgs false
open Go Go.RowKit Go.Proofs.Ytdgnndcnpmlifaa.B Go.Proofs.Ytdgnndcnpmlifaa.C
set_option linter.unusedVariables false
theorem keeps_law {w : World} (v : Value) (l : List StepD) (hl : StepsAt w v l) : Calls Try.prog 5 #[v] w fun e w' => e = .returned (.bool true) ∧ Below w.heap.size w w' := by
  by_cases hf : fewB l = true
  · exact keeps_main hl hf
  · exact keeps_few hl (by simpa using hf)
end Go.Proofs.Ytdgnndcnpmlifaa.G
