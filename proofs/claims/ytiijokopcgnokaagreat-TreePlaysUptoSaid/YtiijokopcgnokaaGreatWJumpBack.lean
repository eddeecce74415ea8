import Derived.ScopeJumps
import Derived.WalkMore
import Derived.Tactics
set_option linter.unusedSimpArgs false
set_option linter.unusedVariables false
namespace Go.Proofs.YtiijokopcgnokaaGreat
open Go
theorem Xnx {P:Program} {a:Act} {w:World} {Q:Exit→Act→World→Prop} {c rest:Code} (l:Nat) (J:Nat→Act→World→Prop) (hf:findLabel c l=some (.seq .skip rest))
  (pass:∀ n a w,J n a w→rest.wp P (Exit.jump l (fun a' w'=>∃ n',n'<n∧J n' a' w') Q) a w)
  (first:(∀ n a w,J n a w→rest.wp P (Exit.jump l (fun a' w'=>∃ n',J n' a' w') Q) a w)→c.wp P (Exit.jump l (fun a' w'=>∃ n',J n' a' w') Q) a w):(Code.scope c).wp P Q a w:=by
 have weak:∀ n a w,J n a w→rest.wp P (Exit.jump l (fun a' w'=>∃ n',J n' a' w') Q) a w:=fun n a w h =>
  Code.wp_mono (fun e a' w' he=>by
   cases e with
   | goto l'=>obtain ⟨h1,n',_,h2⟩:=he;exact ⟨h1,n',h2⟩
   | normal=>exact he
   | exit id=>exact he
   | ret=>exact he
   | panic ch=>exact he
   | outgrown=>exact he) (pass n a w h)
 have first:=first weak
 clear weak;intro b k cs
 have hg:gotoIn l (.inScope c :: k)=some (.code (.seq .skip rest) :: .inScope c :: k):=by simp [gotoIn,hf]
 have key:∀ n a w,J n a w→∃ e a' w',Q e a' w'∧Arrives P (lone (b.at a (.code (.seq .skip rest) :: .inScope c :: k)) cs w) b k cs e a' w':=by
  intro n
  induction n using Nat.strongRecOn with
  | _ n ih =>
   intro a w hJ;obtain ⟨e,a₁,w₁,hq,harr⟩:=wp_seq (x:=.skip) (wp_skip (pass n a w hJ)) b (.inScope c :: k) cs
   cases e with
   | normal=>exact ⟨.normal,a₁,w₁,hq,Steps.trans harr (.one step_inScope)⟩
   | exit id=>exact ⟨.exit id,a₁,w₁,hq,fun k' hk=>harr k' (by simp [exitTo,hk])⟩
   | goto l' =>
    obtain ⟨rfl,n',hlt,hJ'⟩:=hq;obtain ⟨e₂,a₂,w₂,hq₂,harr₂⟩:=ih n' hlt a₁ w₁ hJ';exact ⟨e₂,a₂,w₂,hq₂,.of_steps (harr _ hg) harr₂⟩
   | ret=>exact ⟨_,a₁,w₁,hq,harr⟩
   | panic ch=>exact ⟨_,a₁,w₁,hq,harr⟩
   | outgrown=>exact ⟨_,a₁,w₁,hq,harr⟩
 obtain ⟨e,a₁,w₁,hq,harr⟩:=first b (.inScope c :: k) cs
 cases e with
 | normal=>exact ⟨.normal,a₁,w₁,hq,.head step_scope (Steps.trans harr (.one step_inScope))⟩
 | exit id=>exact ⟨.exit id,a₁,w₁,hq,fun k' hk=>.head step_scope (harr k' (by simp [exitTo,hk]))⟩
 | goto l' =>
  obtain ⟨rfl,n',hJ'⟩:=hq;obtain ⟨e₂,a₂,w₂,hq₂,harr₂⟩:=key n' a₁ w₁ hJ';exact ⟨e₂,a₂,w₂,hq₂,.of_steps (.head step_scope (harr _ hg)) harr₂⟩
 | ret=>exact ⟨_,a₁,w₁,hq,.of_steps (.one step_scope) harr⟩
 | panic ch=>exact ⟨_,a₁,w₁,hq,.of_steps (.one step_scope) harr⟩
 | outgrown=>exact ⟨_,a₁,w₁,hq,.of_steps (.one step_scope) harr⟩
end Go.Proofs.YtiijokopcgnokaaGreat
