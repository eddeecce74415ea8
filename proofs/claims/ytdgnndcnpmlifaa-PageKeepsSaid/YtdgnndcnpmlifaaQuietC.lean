/-
  A conversion as a step of a region that only reads. No program in sight.
-/
import Derived.Test.YtdgnndcnpmlifaaQuietL
namespace Go.Proofs.Ytdgnndcnpmlifaa
set_option linter.unusedSimpArgs false
open Go
set_option linter.unusedVariables false
/-- A conversion whose value is known by a law, as one step of such a walk. -/
theorem quiet_conv {P : Program} {C : World → Prop} {o : Oper} {a : Act} {K : Act → Prop} (s d : TypeId) (x : Operand) (ho : o.op = .convert s d x) (v : Value)
    (hv : ∀ w, C w → (convert s d (a.eval x)).run P w = .ok v w) (hk : K (a.put o.dst v)) : o.quiet P a C K :=
  ⟨v, fun w hw => by
    unfold Oper.quietAt execOp
    simp only [ho, Sem.run_bind, hv w hw, Result.andThen_ok]
    exact ⟨rfl, rfl⟩, hk⟩
end Go.Proofs.Ytdgnndcnpmlifaa
