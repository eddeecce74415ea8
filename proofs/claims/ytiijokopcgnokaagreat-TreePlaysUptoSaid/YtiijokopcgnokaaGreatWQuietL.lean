import Derived.Test.YtiijokopcgnokaaGreatWHeap
import Derived.BigQuiet
set_option linter.unusedSimpArgs false
set_option linter.unusedVariables false
namespace Go.Proofs.YtiijokopcgnokaaGreat
open Go
structure Later (w0:World) where
 v:World
 h:Only [] w0 v
instance (w0 : World):Nonempty (Later w0):=⟨⟨w0,Only.refl _ _⟩⟩
theorem Xaa {P:Program} {w0:World} {id:Nat} {Q:Exit→Act→World→Prop} {a:Act} {w:World} {l:List Oper} (hO:Only [] w0 w) (hm:P.follows .mixedOrders=true) (hB:Region.lexB .any l.toArray=true)
  (h:wpQuiet P l.toArray (fun w'=>∃ x:Later w0,w'=x.v) (fun a'=>∀ w',(∃ x:Later w0,w'=x.v)→Q .normal a' w') l a):(Code.region id l.toArray true).wp P Q a w :=
 wp_region_quiet (C:=fun w'=>∃ x:Later w0,w'=x.v) hm hB ⟨⟨_,hO.drew⟩,rfl⟩ (by simpa using h)
theorem Calls.later {P:Program} {w0:World} {f:FuncId} {args:Array Value} {v:Value} (h:∀ w1,Only [] w0 w1→Calls P f args w1 fun e w'=>e=.returned v∧Only [] w1 w') (x:Later w0) :
  Calls P f args x.v fun e w'=>e=.returned v∧∃ y:Later w0,w'=y.v :=
 (h x.v x.h).mono fun e w' ⟨he,hO⟩=>⟨he,⟨w',x.h.trans hO (by simp)⟩,rfl⟩
theorem Xly {P:Program} {C:World→Prop} {o:Oper} {a:Act} {K:Act→Prop} (ty:TypeId) (x:Operand) (ho:o.op=.load ty x) (v:Value)
  (hv:∀ w,C w→(Instr.loadAt ty (a.eval x)).run P w=.ok v w) (hk:K (a.put o.dst v)):o.quiet P a C K :=
 ⟨v,fun w hw=>by
  unfold Oper.quietAt execOp;simp only [ho,Sem.run_bind,hv w hw,Result.andThen_ok]
  exact ⟨rfl,rfl⟩,hk⟩
theorem Later.cell {w0:World} {p:Addr} {u:Value} (h:w0.cell? p=some u) (x:Later w0):x.v.cell? p=some u:=x.h.cell h (by simp)
end Go.Proofs.YtiijokopcgnokaaGreat
