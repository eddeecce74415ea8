import Derived.Test.YtiijokopcgnokaaGreatWQuietL
import Derived.Test.YtiijokopcgnokaaGreatWRowOn
import Derived.Deep.RegionHeld3
import Derived.Deep.MidRow
set_option linter.unusedSimpArgs false
set_option linter.unusedVariables false
namespace Go.Proofs.YtiijokopcgnokaaGreat
open Go
section
variable {P : Program} {ops : Array Oper} {Q : Exit → Act → World → Prop} {md : Region.Mode} {S : World → Prop}
theorem Xaq (i:Nat) (d:Nat) (v:Value) {oi:Oper} {fuel:Nat} {listed:Array Bool} {a:Act} {w:World} (hi:ops[i]?=some oi) (hd:oi.dst=some d)
  (hs:Region.noSelect ops=true) (hf:Region.free md ops listed i=true) (hr:(Region.ready md ops listed).contains i=true)
  (hQ:∀ c a w,Q (.panic c) (a.put (some d) v) w→Q (.panic c) a w) (hy:YieldsIf P ops S oi v a) (hS:S w)
  (h:wpAnyH P md ops Q S fuel (listed.setIfInBounds i true) (a.put (some d) v) w):wpAnyH P md ops Q S (fuel+1) listed a w:=by
 rw [←hd] at h hQ;exact wpAnyH_take hi hs hf hr hQ hy hS h
theorem tkA (i:Nat) (d:Nat) (v:Value) {oi:Oper} {fuel:Nat} {listed:Array Bool} {a a2:Act} {w:World} (hS:S w) (h:wpAnyH P md ops Q S fuel (listed.setIfInBounds i true) a2 w)
 (ha:a.put (some d) v=a2:=by first | (simp only [Act.put,List.setIfInBounds_toArray,List.set_cons_zero,List.set_cons_succ];exact rfl) | exact rfl)
 (hi:ops[i]?=some oi:=by rfl) (hd:oi.dst=some d:=by rfl) (hs:Region.noSelect ops=true:=by kernel_rfl) (hf:Region.free md ops listed i=true:=by kernel_rfl) (hr:(Region.ready md ops listed).contains i=true:=by kernel_rfl)
 (hQ:∀ c a w,Q (.panic c) (a.put (some d) v) w→Q (.panic c) a w:=by exact fun _ _ _ h=>h) (hy:YieldsIf P ops S oi v a:=by exact Or.inl ⟨by rfl,fun w1 hw1=>by go_simp⟩):wpAnyH P md ops Q S (fuel+1) listed a w:=by subst ha;exact Xaq i d v hi hd hs hf hr hQ hy hS h
theorem one_at (i:Nat) {o:Oper} {fuel:Nat} {listed:Array Bool} {a:Act} {w:World} (ho:ops[i]?=some o) (hr:Region.ready md ops listed=[i]) (hw:Region.wanted o (yielded ops a.tmps)=true)
  (h:∀ K':Act→World→Prop,Shut (∀ a w,S w→wpAnyH P md ops Q S fuel (listed.setIfInBounds i true) a w→K' a w)→Oper.wp P o a w K' Q):wpAnyH P md ops Q S (fuel+1) listed a w :=
 wpAnyH_ready hr (by simp) (AllReadyH.cons ho (fun K hK=>by rw [if_pos hw];exact h K (fun a w hS hW=>hK.out a w hS (fun _=>hW))) AllReadyH.nil)
theorem oneA (i:Nat) {o:Oper} {fuel:Nat} {listed:Array Bool} {a:Act} {w:World} (h:∀ K':Act→World→Prop,Shut (∀ a w,S w→wpAnyH P md ops Q S fuel (listed.setIfInBounds i true) a w→K' a w)→Oper.wp P o a w K' Q)
 (ho:ops[i]?=some o:=by rfl) (hr:Region.ready md ops listed=[i]:=by kernel_rfl) (hw:Region.wanted o (yielded ops a.tmps)=true:=by rfl):wpAnyH P md ops Q S (fuel+1) listed a w:=one_at i ho hr hw h
theorem Xht (i k:Nat) {o o':Oper} {fuel:Nat} {listed:Array Bool} {a:Act} {w:World} (ho:ops[i]?=some o) (ho':ops[k]?=some o') (hr:Region.ready md ops listed=[i,k]) (hw:Region.wanted o (yielded ops a.tmps)=true) (hw':Region.wanted o' (yielded ops a.tmps)=true)
  (h:∀ K':Act→World→Prop,Shut (∀ a w,S w→wpAnyH P md ops Q S fuel (listed.setIfInBounds i true) a w→K' a w)→Oper.wp P o a w K' Q)
  (h':∀ K':Act→World→Prop,Shut (∀ a w,S w→wpAnyH P md ops Q S fuel (listed.setIfInBounds k true) a w→K' a w)→Oper.wp P o' a w K' Q):wpAnyH P md ops Q S (fuel+1) listed a w :=
 wpAnyH_ready hr (by simp) (AllReadyH.cons ho (fun K hK=>by rw [if_pos hw];exact h K (fun a w hS hW=>hK.out a w hS (fun _=>hW))) (AllReadyH.cons ho' (fun K hK=>by rw [if_pos hw'];exact h' K (fun a w hS hW=>hK.out a w hS (fun _=>hW))) AllReadyH.nil))
theorem store_at {P:Program} {w:World} {op:Oper} {a:Act} {K:Act→World→Prop} {Q:Exit→Act→World→Prop} (ty:TypeId) (x y:Operand) (ho:op.op=.store ty x y) (hd:op.dst=none)
  (b:Nat) (cells:List Value) (hx:a.eval x=.pointer (some ⟨b,0,none⟩)) (hy:a.eval y=.agg cells.toArray) {cur:List Value} {t:TypeId} (hb:Blk w b cur t) (hl:cells.length=cur.length)
  (hi:(P.info? ty).map (·.size)=some cells.length) (h1:∀ v∈cells,v.oneCell'=true)
  (h:∀ w',Blk w' b cells t→Only [b] w w'→K (a.put none undef) w'):Oper.wp P op a w K Q:=by
 refine wp_store_mid ty x y ho b 0 cells.toArray hx hy (fun j hj=>?_) (by simpa using hi) (all_oneCell_toArray h1) ?_
 ·have hj':j<cur.length:=by rw [←hl];simpa using hj
  rw [Yd,hb.cell,Zc hj'];exact ⟨rfl,hb.frozen j⟩
 ·rw [hd]
  refine h _ ((hb.setCells cells 0 (by omega)).to ?_) (Only.setCells _ _ (Only.refl _ _) (.inl (by simp)))
  simp [splice,hl]
theorem Xbl {P:Program} {w:World} {o:Oper} {a:Act} {K:Act→World→Prop} {Q:Exit→Act→World→Prop} (d:Nat) (hd:o.dst=some d) (s x:Operand) (t:TypeId)
  (ho:o.op=.call { callee:=.builtin .append,args:=#[s,x],argTypes:=#[t,t] })
  (e:TypeId) (ht:P.underlying t=some (.slice e)) {z:Value} {size bytes:Nat} (hi:∃ i,P.info? e=some i∧i.zero=some z∧i.size=size∧i.bytes=bytes) (hzs:z.cells.size=size) (hsz:0<size)
  (v:Value) (n:Nat) (xs:List Value) (hs:a.eval s=v) (hown:w.ownsRow 0 e size v n xs) (so:Option Addr) (m c:Nat) (hx:a.eval x=.slice so m c) (news:List Value) (hl:news.length=m*size)
  (hcell:0<m→∃ ad,so=some ad∧∀ j u,news[j]?=some u→w.cell? (ad.add j)=some u) (h1:∀ u∈news,u.oneCell'=true) (hnm:n+m≤16777216) (hb:bytes≤1024)
  (h:∀ v' w',Grew w w' e size v v' (n+m) (xs++news)→K (a.put (some d) v') w'):Oper.wp P o a w K Q:=by
 rw [←hd] at h;exact wp_grow s x t ho e ht hi hzs hsz v n xs hs hown so m c hx news hl hcell h1 hnm hb h
end
end Go.Proofs.YtiijokopcgnokaaGreat
namespace Go.Proofs.YtiijokopcgnokaaGreat
open Go
section
variable {P : Program} {ops : Array Oper} {Q : Exit → Act → World → Prop} {md : Region.Mode} {S : World → Prop}
def Xcz (P:Program) (ops:Array Oper) (S:World→Prop) (o:Oper) (v:Value) (a:Act):Prop:=Region.wanted o (yielded ops a.tmps)=true∧∀ w,S w→o.quietAt P a (fun w'=>w'=w) w v
theorem Xcz.wpOp {i:Nat} {o:Oper} {v:Value} {a:Act} (hi:ops[i]?=some o) (hy:Xcz P ops S o v a) {K:Act→World→Prop} {w:World} (hS:S w) (h:K (a.put o.dst v) w):wpOp P ops Q i K a w:=by
 unfold Go.wpOp;simp only [hi,hy.1,if_true];exact .inl (Oper.wp_of_quiet (C:=fun w'=>w'=w) (K:=fun a'=>a'=a.put o.dst v) rfl (fun a' w' hw' ha'=>by subst hw';subst ha';exact h) ⟨v,fun w1 hw1=>by rw [hw1];exact hy.2 w hS,rfl⟩)
theorem Xcz.of_same {o:Oper} {v:Value} {a a':Act} (hy:Xcz P ops S o v a) (he:execOp a'.eval o=execOp a.eval o) (hw:Region.wanted o (yielded ops a'.tmps)=Region.wanted o (yielded ops a.tmps)):Xcz P ops S o v a':=by
 unfold Xcz Oper.quietAt at *;rw [he,hw];exact hy
theorem Xnw {j:Nat} {oi oj:Oper} {v:Value} (hj:ops[j]?=some oj) (hap:oi.apart ops oj=true) (hsi:∀ cs b,oi.op ≠ .select cs b) (hsj:∀ cs b,oj.op ≠ .select cs b)
  (hQ:∀ c a w,Q (.panic c) (a.put oi.dst v) w→Q (.panic c) a w) {K:Act→World→Prop} {a:Act} {w:World} (hy:Xcz P ops S oi v a) (h:wpOp P ops Q j K (a.put oi.dst v) w) :
  wpOp P ops Q j (fun a' w'=>Xcz P ops S oi v a'∧K (a'.put oi.dst v) w') a w:=by
 obtain ⟨h1,h2,h3⟩:=Oper.apart_spec hap
 have keep:∀ (a:Act),Xcz P ops S oi v a→∀ u,Xcz P ops S oi v (a.put oj.dst u):=fun a hy u=>hy.of_same (execOp_put oi hsi a oj.dst u h3) (wanted_put oi a oj.dst u h3)
 have keepD:∀ d,Xcz P ops S oi v { a with defers:=d :: a.defers }:=fun d=>hy.of_same rfl rfl
 unfold wpOp at *;simp only [hj] at *;rw [wanted_put oj a oi.dst v h1] at h;split
 ·rename_i hw
  simp only [hw,if_true] at h
  rcases h with h | ⟨hasks,hlets⟩
  case inr=>exact .inr ⟨by unfold Oper.asks at *;rw [execOp_put oj hsj a oi.dst v h1] at hasks;exact hasks,hlets⟩
  refine .inl ?_
  unfold Oper.wp at *;rw [execOp_put oj hsj a oi.dst v h1] at h;generalize (execOp a.eval oj).run P w=r at *
  cases r with
  | ok n w' =>
   cases n <;> simp only [Oper.upon] at h ⊢
   case value u=>exact ⟨keep a hy u,by rw [←Act.put_comm a v u h2];exact h⟩
   case skip=>exact ⟨keep a hy _,by rw [←Act.put_comm a v undef h2];exact h⟩
   case defer d =>
    refine ⟨keep _ (keepD d) _,?_⟩;rw [←Act.put_comm _ v undef h2,←Act.put_defers];exact h
   case enter f args =>
    refine Calls.mono h fun e w'' he=>?_
    cases e with
    | returned u=>exact ⟨keep a hy u,by rw [←Act.put_comm a v u h2];exact he⟩
    | panicked c=>exact hQ _ _ _ he
    | outgrown=>exact he
   case row row args=>exact Rows.mono h fun u w'' he=>⟨keep a hy u,by rw [←Act.put_comm a v u h2];exact he⟩
  | halt x w' =>
   cases x <;> simp only [Oper.upon] at h ⊢
   case panic u=>exact hQ _ _ _ h
 ·rename_i hw
  simp only [hw] at h;exact ⟨keep a hy _,by rw [←Act.put_comm a v undef h2];exact h⟩
theorem Xim {i:Nat} {oi:Oper} {v:Value} (hi:ops[i]?=some oi) (hsel:∀ (j:Nat) (o:Oper) cs b,ops[j]?=some o→o.op ≠ .select cs b) (hQ:∀ c a w,Q (.panic c) (a.put oi.dst v) w→Q (.panic c) a w) :
  ∀ (fuel:Nat) (listed:Array Bool) (a:Act) (w:World),
   (∀ j oj,ops[j]?=some oj→j≠i→listed.getD j true=false→(∀ e∈oj.after,Region.binds md e=true→e.on≠i)→oi.apart ops oj=true) →
   i∈Region.ready md ops listed→Xcz P ops S oi v a→S w→wpAnyH P md ops Q S fuel (listed.setIfInBounds i true) (a.put oi.dst v) w→wpAnyH P md ops Q S (fuel+1) listed a w:=by
 intro fuel
 induction fuel with
 | zero =>
  intro listed a w _ hr hy hS H;refine ⟨fun h=>(by rw [h] at hr;cases hr),fun j hj=>?_⟩
  by_cases hji:j=i
  ·subst hji;exact hy.wpOp hi hS ⟨hS,H⟩
  ·have:=ready_mono hj hji
   rw [H.1] at this;cases this
 | succ fuel ih =>
  intro listed a w hfree hr hy hS H;refine ⟨fun h=>(by rw [h] at hr;cases hr),fun j hj=>?_⟩
  by_cases hji:j=i
  ·subst hji;exact hy.wpOp hi hS ⟨hS,H⟩
  ·have h1:=H.2 j (ready_mono hj hji)
   obtain ⟨hjun,oj,hoj,hall⟩:=mem_ready.1 hj
   have hnot:∀ e∈oj.after,Region.binds md e=true→e.on≠i:=fun e he hb heq=>by
    have h1:=hall e he hb;have h0:=(mem_ready.1 hr).1;rw [heq] at h1
    rcases Yv i listed.size with h' | h'
    ·simp [h'] at h0 h1;rw [h0] at h1;cases h1
    ·simp [Array.getElem?_eq_none h'] at h1
   have h2:=Xnw hoj (hfree j oj hoj hji hjun hnot) (fun cs b=>hsel i oi cs b hi) (fun cs b=>hsel j oj cs b hoj) hQ hy h1
   have hfree':∀ k ok,ops[k]?=some ok→k≠i→(listed.setIfInBounds j true).getD k true=false→(∀ e∈ok.after,Region.binds md e=true→e.on≠i)→oi.apart ops ok=true:=fun k ok hk hki hun hno=>by
    refine hfree k ok hk hki ?_ hno
    by_cases hjk:j=k
    ·subst hjk;exact hjun
    ·rw [getD_set_ne true hjk] at hun;exact hun
   refine wpOp_mono (fun a' w' h3=>⟨h3.2.1,ih (listed.setIfInBounds j true) a' w' hfree' (ready_mono hr (Ne.symm hji)) h3.1 h3.2.1 ?_⟩) h2;rw [Array.setIfInBounds_comm _ _ hji];exact h3.2.2
theorem Xik (i:Nat) (d:Nat) (v:Value) {oi:Oper} {fuel:Nat} {listed:Array Bool} {a:Act} {w:World} (hi:ops[i]?=some oi) (hd:oi.dst=some d) (hs:Region.noSelect ops=true) (hf:Region.free md ops listed i=true) (hr:(Region.ready md ops listed).contains i=true)
  (hQ:∀ c a w,Q (.panic c) (a.put (some d) v) w→Q (.panic c) a w) (hy:Xcz P ops S oi v a) (hS:S w)
  (h:wpAnyH P md ops Q S fuel (listed.setIfInBounds i true) (a.put (some d) v) w):wpAnyH P md ops Q S (fuel+1) listed a w:=by
 rw [←hd] at h hQ;exact Xim hi (Region.noSelect_spec hs) hQ fuel listed a w (Region.free_spec hi hf) (by simpa using hr) hy hS h
end
end Go.Proofs.YtiijokopcgnokaaGreat
namespace Go.Proofs.YtiijokopcgnokaaGreat
open Go
section
variable {P : Program} {ops : Array Oper} {Q : Exit → Act → World → Prop} {md : Region.Mode} {S : World → Prop}
end
end Go.Proofs.YtiijokopcgnokaaGreat
namespace Go.Proofs.YtiijokopcgnokaaGreat
open Go
section
variable {P : Program} {ops : Array Oper} {Q : Exit → Act → World → Prop} {md : Region.Mode} {SS : List (Nat × (World → Prop))}
def heldW (SS:List (Nat × (World→Prop))) (listed:Array Bool) (w:World):Prop:=∀ p∈SS,listed.getD p.1 false=true∨p.2 w
def wpW (P:Program) (md:Region.Mode) (ops:Array Oper) (Q:Exit→Act→World→Prop) (SS:List (Nat × (World→Prop))):Nat→Array Bool→Act→World→Prop
 | 0,listed,a,w=>Region.ready md ops listed=[]∧Q .normal a w
 | n+1,listed,a,w=>(Region.ready md ops listed=[]→Q .normal a w) ∧
  ∀ i∈Region.ready md ops listed,wpOp P ops Q i (fun a' w'=>heldW SS (listed.setIfInBounds i true) w'∧wpW P md ops Q SS n (listed.setIfInBounds i true) a' w') a w
theorem wpW_any : ∀ (n:Nat) (listed:Array Bool) (a:Act) (w:World),wpW P md ops Q SS n listed a w→wpAny P md ops Q n listed a w
 | 0,_,_,_,h=>h
 | n+1,_,_,_,h=>⟨h.1,fun i hi=>wpOp_mono (fun a' w' k=>wpW_any n _ a' w' k.2) (h.2 i hi)⟩
def Down (md:Region.Mode) (ops:Array Oper) (l:Array Bool):Prop:=∀ j o,ops[j]?=some o→l.getD j false=true→∀ e∈o.after,Region.binds md e=true→l.getD e.on false=true
def downB (md:Region.Mode) (ops:Array Oper) (l:Array Bool):Bool:=(List.range ops.size).all fun j => !l.getD j false || ((ops[j]?).map (·.after.all fun e => !Region.binds md e || l.getD e.on false)).getD true
theorem down_of {l:Array Bool} (h:downB md ops l=true):Down md ops l:=fun j o ho hl e he hb=>by
 have hj:=(Array.getElem?_eq_some_iff.1 ho).1;have h1:=Wq.1 h j (Ww.2 hj);rw [hl,ho] at h1;simp only [Bool.not_true,Bool.false_or,Xe,Option.getD_some,Array.all_eq_true_iff_forall_mem] at h1;have h2:=h1 e he;rw [hb] at h2
 simpa using h2
theorem Down.step {l:Array Bool} {j:Nat} (h:Down md ops l) (hj:j∈Region.ready md ops l):Down md ops (l.setIfInBounds j true):=fun k o ho hk e he hb=>by
 by_cases hjk:j=k
 ·subst hjk
  obtain ⟨_,o',ho',hall⟩:=mem_ready.1 hj;rw [ho] at ho';obtain rfl:=Option.some.inj ho';exact getD_set_true (hall e he hb)
 ·rw [Go.getD_set_ne false hjk] at hk
  exact getD_set_true (h k o ho hk e he hb)
def reachB (md:Region.Mode) (ops:Array Oper):Nat→Nat→Nat→Bool
 | 0,_,_=>false
 | f+1,z,i=>match ops[z]? with
  | some o=>o.after.any fun e=>Region.binds md e && (e.on == i || reachB md ops f e.on i)
  | none=>false
theorem Xlz {l:Array Bool} (h:Down md ops l) {i:Nat}:∀ (f z:Nat),reachB md ops f z i=true→l.getD z false=true→l.getD i false=true
 | 0,z,hr,_=>by cases hr
 | f+1,z,hr,hz=>by
  unfold reachB at hr
  cases ho:ops[z]? with
  | none=>rw [ho] at hr;cases hr
  | some o =>
   rw [ho] at hr;obtain ⟨e,he,hb⟩:=Array.any_eq_true'.1 hr;rw [Bool.and_eq_true,Bool.or_eq_true] at hb;have h1:=h z o ho hz e he hb.1
   rcases hb.2 with h2 | h2
   ·rw [show e.on=i by simpa using h2] at h1;exact h1
   ·exact Xlz h f e.on h2 h1
theorem unlisted {l:Array Bool} {i:Nat} (h:i∈Region.ready md ops l):l.getD i false=false:=by
 have h0:=(mem_ready.1 h).1
 rcases Yv i l.size with h' | h'
 ·simp [h'] at h0 ⊢;exact h0
 ·simp [Array.getElem?_eq_none h']
theorem heldW_swap {i:Nat} {l:Array Bool} {w:World} (h:∀ p∈SS,p.1≠i) (hh:heldW SS (l.setIfInBounds i true) w):heldW SS l w:=fun p hp=>by
 have:=hh p hp;rw [Go.getD_set_ne false (fun e=>h p hp e.symm)] at this;exact this
theorem Xid {i:Nat} {l:Array Bool} {w:World} (hh:heldW SS l w):heldW SS (l.setIfInBounds i true) w:=fun p hp=>(hh p hp).imp getD_set_true id
theorem Xqd {D:World→Prop} {i:Nat} {oi:Oper} {v:Value} (hi:ops[i]?=some oi) (hsel:∀ (j:Nat) (o:Oper) cs b,ops[j]?=some o→o.op ≠ .select cs b) (hQ:∀ c a w,Q (.panic c) (a.put oi.dst v) w→Q (.panic c) a w)
  (hz:∀ p∈SS,p.1≠i) (hD:∀ l w,Down md ops l→l.getD i false=false→heldW SS l w→D w):∀ (n:Nat) (listed:Array Bool) (a:Act) (w:World),Down md ops listed →
   (∀ j oj,ops[j]?=some oj→j≠i→listed.getD j true=false→(∀ e∈oj.after,Region.binds md e=true→e.on≠i)→oi.apart ops oj=true) →
   i∈Region.ready md ops listed→YieldsIf P ops D oi v a→heldW SS listed w →
   wpW P md ops Q SS n (listed.setIfInBounds i true) (a.put oi.dst v) w→wpW P md ops Q SS (n+1) listed a w:=by
 have here:∀ (n:Nat) (listed:Array Bool) (a:Act) (w:World),Down md ops listed→i∈Region.ready md ops listed→YieldsIf P ops D oi v a→heldW SS listed w→wpW P md ops Q SS n (listed.setIfInBounds i true) (a.put oi.dst v) w →
   wpOp P ops Q i (fun a' w'=>heldW SS (listed.setIfInBounds i true) w'∧wpW P md ops Q SS n (listed.setIfInBounds i true) a' w') a w:=fun n listed a w hd hr hy hh H=>hy.wpOp hi (hD listed w hd (unlisted hr) hh) ⟨Xid hh,H⟩
 intro n
 induction n with
 | zero =>
  intro listed a w hd _ hr hy hh H;refine ⟨fun h=>(by rw [h] at hr;cases hr),fun j hj=>?_⟩
  by_cases hji:j=i
  ·rw [hji];exact here 0 listed a w hd hr hy hh H
  ·have h1:=ready_mono hj hji
   rw [H.1] at h1;cases h1
 | succ n ih =>
  intro listed a w hd hfree hr hy hh H;refine ⟨fun h=>(by rw [h] at hr;cases hr),fun j hj=>?_⟩
  by_cases hji:j=i
  ·rw [hji];exact here (n+1) listed a w hd hr hy hh H
  ·obtain ⟨hjun,oj,hoj,hall⟩:=mem_ready.1 hj
   have hiun:=(mem_ready.1 hr).1
   have hno:∀ e∈oj.after,Region.binds md e=true→e.on≠i:=fun e he hb heq=>by
    have h1:=hall e he hb;rw [heq,unlisted hr] at h1;cases h1
   have h2:=wpOp_putIf hoj (hfree j oj hoj hji hjun hno) (fun cs b=>hsel i oi cs b hi) (fun cs b=>hsel j oj cs b hoj) hQ hy (H.2 j (ready_mono hj hji));refine wpOp_mono (fun a' w' h3=>?_) h2;obtain ⟨h4,h5,h6⟩:=h3;have hcomm:(listed.setIfInBounds i true).setIfInBounds j true=(listed.setIfInBounds j true).setIfInBounds i true:=(Array.setIfInBounds_comm _ _ hji).symm;rw [hcomm] at h5 h6;have h7:=heldW_swap hz h5;refine ⟨h7,ih (listed.setIfInBounds j true) a' w' (hd.step hj) (fun k ok hk hki hun hnk=>?_) (ready_mono hr (Ne.symm hji)) h4 h7 h6⟩;refine hfree k ok hk hki ?_ hnk
   by_cases hjk:j=k
   ·rw [←hjk];exact hjun
   ·rw [Go.getD_set_ne true hjk] at hun;exact hun
theorem wake_at (i:Nat) (d:Nat) (v:Value) {oi:Oper} {n:Nat} {listed:Array Bool} {a:Act} {w:World} (hi:ops[i]?=some oi) (hd:oi.dst=some d)
  (hs:Region.noSelect ops=true) (hf:Region.free md ops listed i=true) (hr:(Region.ready md ops listed).contains i=true) (hdn:downB md ops listed=true) (hz:(SS.map (·.1)).all (· != i)=true)
  (hQ:∀ c a w,Q (.panic c) (a.put (some d) v) w→Q (.panic c) a w) (hy:YieldsIf P ops (fun _=>True) oi v a) (hh:heldW SS listed w)
  (h:heldW SS (listed.setIfInBounds i true) w→wpW P md ops Q SS n (listed.setIfInBounds i true) (a.put (some d) v) w):wpW P md ops Q SS (n+1) listed a w:=by
 replace h:=h (Xid hh);rw [←hd] at h hQ;exact Xqd hi (Region.noSelect_spec hs) hQ (fun p hp e=>by have:=Wq.1 hz p.1 (Yj hp);simp [e] at this) (fun _ _ _ _ _=>trivial) n listed a w (down_of hdn) (Region.free_spec hi hf) (by simpa using hr) hy hh h
theorem wkA (i:Nat) (d:Nat) (v:Value) {oi:Oper} {n:Nat} {listed:Array Bool} {a a2:Act} {w:World} (hh:heldW SS listed w) (h:heldW SS (listed.setIfInBounds i true) w→wpW P md ops Q SS n (listed.setIfInBounds i true) a2 w)
 (ha:a.put (some d) v=a2:=by first | (simp only [Act.put,List.setIfInBounds_toArray,List.set_cons_zero,List.set_cons_succ];exact rfl) | exact rfl)
 (hi:ops[i]?=some oi:=by rfl) (hd:oi.dst=some d:=by rfl) (hs:Region.noSelect ops=true:=by kernel_rfl) (hf:Region.free md ops listed i=true:=by kernel_rfl) (hr:(Region.ready md ops listed).contains i=true:=by kernel_rfl) (hdn:downB md ops listed=true:=by kernel_rfl) (hz:(SS.map (·.1)).all (· != i)=true:=by rfl)
 (hQ:∀ c a w,Q (.panic c) (a.put (some d) v) w→Q (.panic c) a w:=by exact fun _ _ _ h=>h) (hy:YieldsIf P ops (fun _=>True) oi v a:=by exact Or.inl ⟨by rfl,fun w1 hw1=>by go_simp⟩):wpW P md ops Q SS (n+1) listed a w:=by subst ha;exact wake_at i d v hi hd hs hf hr hdn hz hQ hy hh h
theorem Xbc (i:Nat) (d:Nat) (v:Value) (k z:Nat) {C:World→Prop} (hk:SS[k]?=some (z,C)) {oi:Oper} {n:Nat} {listed:Array Bool} {a:Act} {w:World} (hi:ops[i]?=some oi) (hd:oi.dst=some d)
  (hs:Region.noSelect ops=true) (hf:Region.free md ops listed i=true) (hr:(Region.ready md ops listed).contains i=true) (hdn:downB md ops listed=true) (hz:(SS.map (·.1)).all (· != i)=true) (hre:reachB md ops 16 z i=true)
  (hQ:∀ c a w,Q (.panic c) (a.put (some d) v) w→Q (.panic c) a w) (hy:YieldsIf P ops C oi v a) (hh:heldW SS listed w)
  (h:heldW SS (listed.setIfInBounds i true) w→wpW P md ops Q SS n (listed.setIfInBounds i true) (a.put (some d) v) w):wpW P md ops Q SS (n+1) listed a w:=by
 replace h:=h (Xid hh);rw [←hd] at h hQ;refine Xqd hi (Region.noSelect_spec hs) hQ (fun p hp e=>by have:=Wq.1 hz p.1 (Yj hp);simp [e] at this) (fun l w hdl hu hh=>?_) n listed a w (down_of hdn) (Region.free_spec hi hf) (by simpa using hr) hy hh h
 rcases hh _ (Zm hk) with h1 | h1
 ·rw [Xlz hdl 16 z hre h1] at hu;cases hu
 ·exact h1
theorem wone_at (i:Nat) {o:Oper} {n:Nat} {listed:Array Bool} {a:Act} {w:World} (ho:ops[i]?=some o) (hr:Region.ready md ops listed=[i]) (hw:Region.wanted o (yielded ops a.tmps)=true)
  (h:∀ K':Act→World→Prop,Shut (∀ a w,heldW SS (listed.setIfInBounds i true) w→(heldW SS (listed.setIfInBounds i true) w→wpW P md ops Q SS n (listed.setIfInBounds i true) a w)→K' a w)→Oper.wp P o a w K' Q):wpW P md ops Q SS (n+1) listed a w :=
 ⟨fun h0=>(by rw [hr] at h0;cases h0),fun j hj=>by
  rw [hr] at hj;obtain rfl:=Zo.1 hj
  exact wpOp_step ho (fun K' hK=>by rw [if_pos hw];exact h K' (fun a w hz hW=>hK a w ⟨hz,hW hz⟩))⟩
theorem woneA (i:Nat) {o:Oper} {n:Nat} {listed:Array Bool} {a:Act} {w:World} (h:∀ K':Act→World→Prop,Shut (∀ a w,heldW SS (listed.setIfInBounds i true) w→(heldW SS (listed.setIfInBounds i true) w→wpW P md ops Q SS n (listed.setIfInBounds i true) a w)→K' a w)→Oper.wp P o a w K' Q)
 (ho:ops[i]?=some o:=by rfl) (hr:Region.ready md ops listed=[i]:=by kernel_rfl) (hw:Region.wanted o (yielded ops a.tmps)=true:=by rfl):wpW P md ops Q SS (n+1) listed a w:=wone_at i ho hr hw h
theorem Xbz {k:Nat} {o:Oper} {K:Act→World→Prop} {a:Act} {w:World} (ho:ops[k]?=some o) (hw:Region.wanted o (yielded ops a.tmps)=true)
  (h:∀ K':Act→World→Prop,Shut (∀ a w,K a w→K' a w)→Oper.wp P o a w K' Q):wpOp P ops Q k K a w :=
 wpOp_step ho (fun K' hK=>by rw [if_pos hw];exact h K' hK)
theorem Xlb {n:Nat} {listed:Array Bool} {a:Act} {w:World} (h:heldW SS listed w) (k:heldW SS listed w→wpW P md ops Q SS n listed a w):wpW P md ops Q SS n listed a w:=k h
theorem wdone {listed:Array Bool} {a:Act} {w:World} (hr:Region.ready md ops listed=[]) (h:Q .normal a w):∀ n,wpW P md ops Q SS n listed a w
 | 0=>⟨hr,h⟩
 | n+1=>⟨fun _=>h,by rw [hr];simp⟩
theorem Xjb {l:Array Bool} {w:World}:heldW [] l w:=fun p hp=>by cases hp
theorem Xbi {z:Nat} {C:World→Prop} {l:Array Bool} {w:World} (h:l.getD z false=true∨C w) (k:heldW SS l w):heldW ((z,C) :: SS) l w:=fun p hp=>by
 rcases Zg.1 hp with h1 | h1
 ·rw [h1];exact h
 ·exact k p h1
theorem held1z {z:Nat} {C:World→Prop} {l:Array Bool} {w:World} (h:l.getD z false=true):heldW [(z,C)] l w:=fun p hp=>by rw [Zo.1 hp];exact .inl h
theorem held2 {z y:Nat} {C D:World→Prop} {l:Array Bool} {w:World} (h:l.getD z false=true∨C w) (k:l.getD y false=true∨D w):heldW [(z,C),(y,D)] l w:=fun p hp=>by
 rcases Zg.1 hp with h1 | h1
 ·rw [h1];exact h
 ·rw [Zo.1 h1];exact k
theorem Xbw (SS:List (Nat × (World→Prop))) {id:Nat} {a:Act} {w:World} (hm:P.follows .mixedOrders=true) (hC:∀ p∈SS,p.2 w.drew) (h:heldW SS (Array.replicate ops.size false) w.drew→wpW P .any ops Q SS ops.size (Array.replicate ops.size false) a w.drew):(Code.region id ops true).wp P Q a w :=
 wp_region_any hm (wpW_any _ _ _ _ (h fun p hp=>.inr (hC p hp)))
def puts (a:Act) (l:List (Nat × Value)):Act:=l.foldl (fun a p=>a.put (some p.1) p.2) a
def marks (l:Array Bool) (is:List Nat):Array Bool:=is.foldl (fun b i=>b.setIfInBounds i true) l
theorem puts_put {d:Option Nat} {v:Value}:∀ (l:List (Nat × Value)) (a:Act),(∀ p∈l,d≠some p.1)→puts (a.put d v) l=(puts a l).put d v
 | [],a,_=>rfl
 | p :: l,a,h=>by
  show puts ((a.put d v).put (some p.1) p.2) l=(puts (a.put (some p.1) p.2) l).put d v;rw [Act.put_comm a v p.2 (fun e he=>by rintro heq;cases heq;exact h p (by simp) he)]
  exact puts_put l _ (fun q hq=>h q (by simp [hq]))
theorem Xkj : ∀ (l k:List (Nat × Value)) (a:Act),(∀ p∈l,∀ q∈k,p.1≠q.1)→puts (puts a l) k=puts (puts a k) l
 | [],k,a,_=>rfl
 | p :: l,k,a,h=>by
  show puts (puts (a.put (some p.1) p.2) l) k=puts ((puts a k).put (some p.1) p.2) l;rw [Xkj l k _ (fun x hx y hy=>h x (by simp [hx]) y hy),puts_put k a (fun q hq e=>h p (by simp) q hq (Option.some.inj e))]
theorem Xoy {k:Nat}:∀ (l:List Nat) (b:Array Bool),k∉l→(marks b l).setIfInBounds k true=marks (b.setIfInBounds k true) l
 | [],b,_=>rfl
 | i :: l,b,h=>by
  show (marks (b.setIfInBounds i true) l).setIfInBounds k true=marks ((b.setIfInBounds k true).setIfInBounds i true) l;rw [Xoy l _ (fun hm=>h (by simp [hm])),Array.setIfInBounds_comm _ _ (fun e=>h (by simp [e]))]
theorem Xls (b:Array Bool) (l:List Nat) (k:Nat):marks b (l++[k])=(marks b l).setIfInBounds k true:=by unfold marks;rw [List.foldl_append];rfl
theorem Xld {k:Nat} {o:Oper} (ho:ops[k]?=some o) (hsel:∀ cs b,o.op ≠ .select cs b) (hQ:∀ c a d v w,Q (.panic c) a w→Q (.panic c) (a.put (some d) v) w):∀ (pB:List (Nat × Value)) {K:Act→World→Prop} {a:Act} {w:World},
  (∀ p∈pB,p.1∉o.looksAt ops∧o.dst≠some p.1)→wpOp P ops Q k (fun a' w'=>K (puts a' pB) w') a w→wpOp P ops Q k K (puts a pB) w
 | [],K,a,w,_,h=>h
 | p :: pB,K,a,w,hp,h=>by
  refine Xld ho hsel hQ pB (fun q hq=>hp q (by simp [hq])) ?_
  obtain ⟨h1,h2⟩:=hp p (by simp)
  have hl:∀ d,(some p.1:Option Nat)=some d→d∉o.looksAt ops:=fun d e=>by cases e;exact h1
  have hd2:∀ d,(some p.1:Option Nat)=some d→o.dst≠some d:=fun d e=>by cases e;exact h2
  have e1:=execOp_put (ops:=ops) o hsel a (some p.1) p.2 hl;have e2:=wanted_put (ops:=ops) o a (some p.1) p.2 hl
  have e3:∀ (b:Act) (u:Value),(b.put o.dst u).put (some p.1) p.2=(b.put (some p.1) p.2).put o.dst u:=fun b u=>(Act.put_comm b p.2 u (x:=some p.1) (y:=o.dst) hd2).symm
  unfold wpOp at *;simp only [ho] at *;rw [e2];split
  ·rename_i hw
   simp only [hw,if_true] at h
   rcases h with h | ⟨hasks,hlets⟩
   case inr=>exact .inr ⟨by unfold Oper.asks at *;rw [e1];exact hasks,hlets⟩
   refine .inl ?_
   unfold Oper.wp at *;rw [e1];generalize (execOp a.eval o).run P w=r at *
   cases r with
   | ok n w' =>
    cases n <;> simp only [Oper.upon] at h ⊢
    case value u=>rw [←e3];exact h
    case skip=>rw [←e3];exact h
    case defer d =>
     have h':K (puts ((({ a with defers:=d :: a.defers }:Act).put o.dst undef).put (some p.1) p.2) pB) w':=h;rw [e3] at h';exact h'
    case enter f args =>
     refine Calls.mono h fun e w'' he=>?_
     cases e with
     | returned u=>show K (puts ((a.put (some p.1) p.2).put o.dst u) pB) w'';rw [←e3];exact he
     | panicked c=>exact hQ _ _ _ _ _ he
     | outgrown=>exact he
    case row row args=>exact Rows.mono h fun u w'' he=>by rw [←e3];exact he
   | halt x w' =>
    cases x <;> simp only [Oper.upon] at h ⊢
    case panic u=>exact hQ _ _ _ _ _ h
  ·rename_i hw
   simp only [hw] at h;rw [←e3];exact h
def chainsB (md:Region.Mode) (ops:Array Oper) (listed:Array Bool) (A B:List Nat):Bool :=
 (List.range (A.length+1)).all fun i=>(List.range (B.length+1)).all fun j=>(i == A.length && j == B.length) ||
  (!(Region.ready md ops (marks (marks listed (A.take i)) (B.take j))).isEmpty && (Region.ready md ops (marks (marks listed (A.take i)) (B.take j))).all fun k=>A[i]? == some k || B[j]? == some k)
def apartB (ops:Array Oper) (A SB:List Nat):Bool:=A.all fun k=>match ops[k]? with
 | some o=>SB.all fun s => !(o.looksAt ops).contains s && o.dst != some s
 | none=>false
theorem apart_of {A SB:List Nat} (h:apartB ops A SB=true) {k:Nat} (hk:k∈A):∃ o,ops[k]?=some o∧∀ s∈SB,s∉o.looksAt ops∧o.dst≠some s:=by
 have h1:=Wq.1 h k hk
 cases ho:ops[k]? with
 | none=>rw [ho] at h1;cases h1
 | some o =>
  rw [ho] at h1;refine ⟨o,rfl,fun s hs=>?_⟩;have h2:=Wq.1 h1 s hs;simp only [Bool.and_eq_true,Bool.not_eq_true',List.contains_eq_mem,decide_eq_false_iff_not,bne_iff_ne,ne_eq] at h2;exact h2
theorem wpW_two (A B SA SB:List Nat) (IA IB:Nat→List (Nat × Value)→World→Prop) {listed:Array Bool} {a:Act} {n:Nat}
  (hs:Region.noSelect ops=true) (hch:chainsB md ops listed A B=true) (hnd:(A++B).Nodup) (hap:apartB ops A SB=true) (hbp:apartB ops B SA=true) (hsd:SA.all (fun x => !SB.contains x)=true)
  (hQ:∀ c a d v w,Q (.panic c) a w→Q (.panic c) (a.put (some d) v) w)
  (hSA:∀ i pA w,IA i pA w→∀ p∈pA,p.1∈SA) (hSB:∀ j pB w,IB j pB w→∀ p∈pB,p.1∈SB)
  (hA:∀ i k pA w,A[i]?=some k→IA i pA w→wpOp P ops Q k (fun a' w'=>∃ pA',a'=puts a pA'∧IA (i+1) pA' w'∧∀ j pB,IB j pB w→IB j pB w') (puts a pA) w)
  (hB:∀ j k pB w,B[j]?=some k→IB j pB w→wpOp P ops Q k (fun a' w'=>∃ pB',a'=puts a pB'∧IB (j+1) pB' w'∧∀ i pA,IA i pA w→IA i pA w') (puts a pB) w)
  (hS:∀ i j pA pB w,IA i pA w→IB j pB w→heldW SS (marks (marks listed (A.take i)) (B.take j)) w)
  (hend:∀ pA pB w,IA A.length pA w→IB B.length pB w→wpW P md ops Q SS n (marks (marks listed A) B) (puts (puts a pA) pB) w) :
  ∀ (m i j:Nat) (pA pB:List (Nat × Value)) (w:World),i≤A.length→j≤B.length→m=(A.length-i)+(B.length-j)→IA i pA w→IB j pB w→wpW P md ops Q SS (n+m) (marks (marks listed (A.take i)) (B.take j)) (puts (puts a pA) pB) w:=by
 have hdis:∀ pA pB i j w w',IA i pA w→IB j pB w'→∀ p∈pA,∀ q∈pB,p.1≠q.1:=fun pA pB i j w w' h1 h2 p hp q hq e=>by
  have h3:=hSA i pA w h1 p hp;have h4:=hSB j pB w' h2 q hq;have h5:=Wq.1 hsd p.1 h3;rw [e] at h5
  simp [h4] at h5
 have hnd':=Xi.1 hnd;intro m
 induction m with
 | zero =>
  intro i j pA pB w hi hj hm h1 h2
  obtain rfl:i=A.length:=by omega
  obtain rfl:j=B.length:=by omega
  rw [We,We];exact hend pA pB w h1 h2
 | succ m ih =>
  intro i j pA pB w hi hj hm h1 h2;have hc:=Wq.1 (Wq.1 hch i (Ww.2 (by omega))) j (Ww.2 (by omega))
  have hne:¬(i=A.length∧j=B.length):=fun ⟨e1,e2⟩=>by omega
  simp only [Bool.or_eq_true,Bool.and_eq_true,beq_iff_eq,hne,false_or,Bool.not_eq_true',Wq] at hc;obtain ⟨hc1,hc2⟩:=hc;refine ⟨fun h0=>by rw [h0] at hc1;simp at hc1,fun k hk=>?_⟩
  rcases hc2 k hk with hk1 | hk1
  ·obtain ⟨hil,hik⟩:=Zh.1 hk1
   obtain ⟨o,ho,hoff⟩:=apart_of hap (Zm hk1)
   refine Xld ho (fun cs b=>Region.noSelect_spec hs k o cs b ho) hQ pB (fun p hp=>hoff p.1 (hSB j pB w h2 p hp)) ?_
   refine wpOp_mono (fun a' w' h3=>?_) (hA i k pA w hk1 h1);obtain ⟨pA',rfl,h4,h5⟩:=h3
   have hkB:k∉B.take j:=fun hm2=>hnd'.2.2 k (Zm hk1) k (Yn hm2) rfl
   have e1:(marks (marks listed (A.take i)) (B.take j)).setIfInBounds k true=marks (marks listed (A.take (i+1))) (B.take j):=by
    rw [Xoy _ _ hkB,←Xls,Xg,hk1];rfl
   rw [e1];exact ⟨hS (i+1) j pA' pB w' h4 (h5 j pB h2),ih (i+1) j pA' pB w' hil hj (by omega) h4 (h5 j pB h2)⟩
  ·obtain ⟨hil,hik⟩:=Zh.1 hk1
   obtain ⟨o,ho,hoff⟩:=apart_of hbp (Zm hk1);rw [Xkj pA pB a (hdis pA pB i j w w h1 h2)]
   refine Xld ho (fun cs b=>Region.noSelect_spec hs k o cs b ho) hQ pA (fun p hp=>hoff p.1 (hSA i pA w h1 p hp)) ?_
   refine wpOp_mono (fun a' w' h3=>?_) (hB j k pB w hk1 h2);obtain ⟨pB',rfl,h4,h5⟩:=h3
   have e1:(marks (marks listed (A.take i)) (B.take j)).setIfInBounds k true=marks (marks listed (A.take i)) (B.take (j+1)):=by
    rw [←Xls,Xg,hk1];rfl
   rw [e1,←Xkj pA pB' a (hdis pA pB' i (j+1) w' w' (h5 i pA h1) h4)];exact ⟨hS i (j+1) pA pB' w' (h5 i pA h1) h4,ih i (j+1) pA pB' w' hi hil (by omega) (h5 i pA h1) h4⟩
end
end Go.Proofs.YtiijokopcgnokaaGreat
