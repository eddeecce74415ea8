import Derived.Test.YtiijokopcgnokaaGreatWToK
import Derived.Test.YtiijokopcgnokaaGreatWToM
import Derived.Test.YtiijokopcgnokaaGreatWToO
set_option linter.unusedSimpArgs false
set_option linter.unusedVariables false
namespace Go.Proofs.YtiijokopcgnokaaGreat
namespace T
open Go Go.RowKit Tryz
def TwCur (K:List UInt8) (B:List Bool) (i:Nat) (last:Pr) (begun:Bool):Prop :=
 (begun=false∧last=(K,0)∧∀ j,j<i→B.getD j false=false)∨(begun=true∧∃ j0,last=(K,j0)∧j0<i∧∀ j,j0<j→j<i→B.getD j false=false)
theorem TwCur.start (K:List UInt8) (B:List Bool):TwCur K B 0 (K,0) false:=.inl ⟨rfl,rfl,fun j hj=>by omega⟩
end T
namespace T
open Go Go.RowKit D B C G P H Tryz
theorem Xmw {l k:List Pr} (h:l.Sublist k):lenE l≤lenE k:=by
 induction h with
 | slnil=>exact Zq _
 | cons a _ ih =>
  unfold lenE at *
  simp only [Zx,List.sum_cons];omega
 | cons_cons a _ ih =>
  unfold lenE at *
  simp only [Zx,List.sum_cons];omega
theorem mostP_del {l:List Pr} {x:Pr}:mostP (delP l x)≤mostP l:=by
 have hs:(delP l x).Sublist l:=Wa _ _;have h1:=hs.length_le;have h2:=Xmw hs;unfold mostP
 split <;> split <;> omega
def TreeQ (Q:Pr→Prop) (u:List Bool) (pg:Nat→List UInt8) (E:List Pr) {H:Nat} (T:Tr H):Prop :=
 InPages u pg 0 T∧entsT T=E∧(nodes H T).length≤mostP E∧AllQ Q (nodes H T)∧∀ j:Nat,u.getD j false=true→∃ n∈nodes H T,n.id=(j:Nat)
structure OneQ (Q:Pr→Prop) (w:World) (p tb N:Nat) (M:List Nat) (u:List Bool) (pg:Nat→List UInt8) (k:Nat) (E:List Pr):Prop where
 pool:PoolV w p M u pg k
 at_:Xax w tb p 0
 off:tb∉M
 tree:∃ H,∃ T:Tr H,TreeQ Q u pg E T
 len:u.length=N
section
variable {Q : Pr → Prop} {w w' : World} {p tb N k : Nat} {M M' : List Nat} {u : List Bool} {pg : Nat → List UInt8} {E : List Pr}
theorem OneQ.step (h:OneQ Q w p tb N M u pg k E) {k':Nat} (hP:PoolV w' p M' u pg k') (hS:Step M M' w w'):OneQ Q w' p tb N M' u pg k' E :=
 ⟨hP,hS.1.blk h.at_ h.off,P.Step.keep hS h.at_.lt h.off,h.tree,h.len⟩
theorem OneQ.past (h:OneQ Q w p tb N M u pg k E) (hO:Only [] w w'):OneQ Q w' p tb N M u pg k E:=h.step (h.pool.past hO) ((Step.refl M w).then hO)
theorem OneQ.more (h:OneQ Q w p tb N M u pg k E) {k':Nat} (hk:k≤k'):OneQ Q w p tb N M u pg k' E:=⟨h.pool.more hk,h.at_,h.off,h.tree,h.len⟩
theorem OneQ.later (h:OneQ Q w p tb N M u pg k E) {X:List Nat} (hO:Only X w w') (hX:NoSec w X) (hM:∀ x∈M,x∉X) (ht:tb∉X):OneQ Q w' p tb N M u pg k E:=⟨h.pool.later hO hX hM,hO.blk h.at_ ht,h.off,h.tree,h.len⟩
theorem TreeQ.free {H:Nat} {T:Tr H} (h:TreeQ Q u pg E T):u.length≤u.count false+(nodes H T).length:=by
 have:=Xoo (u:=u) (L:=(nodes H T).map fun n=>n.id.toNat) (fun j hj=>by
  obtain ⟨n,hn,e⟩:=h.2.2.2.2 j hj
  exact Zi.2 ⟨n,hn,by rw [e];simp⟩)
 rwa [Zl] at this
theorem TreeQ.up {H:Nat} {T:Tr H} (h:TreeQ Q u pg E T):Up E:=by
 have:=Xey h.1.ris
 rwa [h.2.1] at this
theorem OneQ.up (h:OneQ Q w p tb N M u pg k E):Up E:=by obtain ⟨H,T,hT⟩:=h.tree;exact hT.up
theorem OneQ.after (h:OneQ Q w p tb N M u pg k E) {k':Nat} {u':List Bool} {pg':Nat→List UInt8} {E':List Pr} {H H':Nat} {T:Tr H} {T':Tr H'} (hT:TreeQ Q u pg E T) (hR:OpRes w w' p M u pg k' 0 T E' M' u' pg' T') (hq:∀ e∈E',Q e):OneQ Q w' p tb N M' u' pg' k' E':=by
 refine ⟨hR.pool,hR.step.1.blk h.at_ h.off,P.Step.keep hR.step h.at_.lt h.off,⟨H',T',hR.tree,hR.ents,hR.few,hR.kept Q hT.2.2.2.1 hq,fun j hj=>?_⟩,hR.len.trans h.len⟩
 rcases (hR.used j).1 hj with ⟨h1,h2⟩ | h1
 ·obtain ⟨n,hn,e⟩:=hT.2.2.2.2 j h1
  exact absurd e (h2 n hn)
 ·exact h1
theorem OneQ.insertF (h:OneQ Q w p tb N M u pg k E) {x m m2 F0:Nat} {kv:Value} {l:List UInt8} {c:Int} {E':List Pr} (hb:Xae w kv l) (hl:l.length≤300) (hx:x<18446744073709551616) (hq:Q (l,x)) (hQE:∀ e∈E,Q e)
  (hm:mostP E≤m) (hm2:mostP (insP E (l,x))≤m2) (hm1:m≤1000) (hF:F0≤60000) (hk:k+8*m+8*F0≤900000) (hE:E.length≤99000)
  (hroom:∀ {H:Nat} {T:Tr H},TreeQ Q u pg E T→∀ (c:Ctx H 0) (i:Int) (E:List Pr) (W' F':List Nd),plug c (.leaf i E)=T→Good c→Splits ⟨i,true,insP E (l,x),[]⟩ (path c i).reverse [] W' F'→F'.length≤u.count false∧F'.length≤F0)
  (hc:(if has E (l,x) then (81:Int) else 0)=c) (he:(if has E (l,x) then E else insP E (l,x))=E') :
  Calls prog 11 #[.pointer (some ⟨tb,0,none⟩),kv,.int .u64 x] w fun e w'=>∃ M' u' pg',e=.returned (.int .i64 c)∧OneQ Q w' p tb N M' u' pg' (k+(6*m+6*F0+2*m2)) E'∧Step M M' w w':=by
 subst hc;subst he;obtain ⟨H,T,hT⟩:=h.tree;obtain ⟨h1,h2,h3,h4,h5⟩:=id hT;have hH:=Xct h1.wf;have hms:mostP E≤mostP (insP E (l,x)):=Xfu
 refine (Xlo (F0:=F0) (hb0:=has E (l,x)) h.pool h.at_ h.off h1 (by omega) hb hl hx (by omega) hF (by rw [h2];exact hE) (by rw [h2];exact h3) (by rw [h2]) (hroom hT)).mono ?_
 rintro e w' (⟨hh,M',rfl,hP',hS'⟩ | ⟨hh,M',u',pg',H',T',rfl,hR⟩)
 ·rw [hh]
  exact ⟨M',u,pg,rfl,(h.step hP' hS').more (by omega),hS'⟩
 ·rw [hh]
  have hfew:=hR.few;rw [h2] at hR hfew;refine ⟨M',u',pg',rfl,(h.after hT hR (fun e he=>?_)).more (by omega),hR.step⟩
  rcases Xdt.1 he with h6 | h6
  ·rw [h6];exact hq
  ·exact hQE e h6
theorem OneQ.delete (h:OneQ Q w p tb N M u pg k E) {x m:Nat} {kv:Value} {l:List UInt8} {c:Int} {E':List Pr} (hb:Xae w kv l) (hl:l.length≤300) (hx:x<18446744073709551616) (hQE:∀ e∈E,Q e)
  (hm:mostP E≤m) (hm1:m≤1000) (hk:k+8*m≤900000) (hE:E.length≤99000) (hc:(if has E (l,x) then (0:Int) else 82)=c) (he:(if has E (l,x) then delP E (l,x) else E)=E') :
  Calls prog 14 #[.pointer (some ⟨tb,0,none⟩),kv,.int .u64 x] w fun e w'=>∃ M' u' pg',e=.returned (.int .i64 c)∧OneQ Q w' p tb N M' u' pg' (k+(6*m+2)) E'∧Step M M' w w':=by
 subst hc;subst he;obtain ⟨H,T,hT⟩:=h.tree;obtain ⟨h1,h2,h3,h4,h5⟩:=id hT;have hH:=Xct h1.wf;have hms:mostP (delP E (l,x))≤mostP E:=mostP_del
 refine (deleteT_any (hb0:=has E (l,x)) h.pool h.at_ h.off h1 (by omega) hb hl hx (by omega) (by rw [h2];exact hE) (by rw [h2])).mono ?_
 rintro e w' (⟨hh,M',rfl,hP',hS'⟩ | ⟨hh,M',u',pg',H',T',rfl,hR⟩)
 ·rw [hh]
  exact ⟨M',u,pg,rfl,(h.step hP' hS').more (by omega),hS'⟩
 ·rw [hh]
  have hfew:=hR.few;rw [h2] at hR hfew;exact ⟨M',u',pg',rfl,(h.after hT hR (fun e he=>hQE e ((Wa _ _).subset he))).more (by omega),hR.step⟩
theorem OneQ.check (h:OneQ Q w p tb N M u pg k E) {m:Nat} (hm:mostP E≤m) (hm1:m≤1000) (hk:k+8*m≤900000) :
  Calls prog 18 #[.pointer (some ⟨tb,0,none⟩)] w fun e w'=>∃ M',e=.returned (.int .i64 0)∧OneQ Q w' p tb N M' u pg (k+2*m) E∧Step M M' w w':=by
 obtain ⟨H,T,hT⟩:=h.tree;obtain ⟨h1,h2,h3,h4,h5⟩:=id hT
 refine (Xjn h.pool h.at_ h.off h1 (by omega)).mono ?_
 rintro e w' ⟨M',rfl,hP',hS'⟩;exact ⟨M',rfl,(h.step hP' hS').more (by omega),hS'⟩
theorem OneQ.next (h:OneQ Q w p tb N M u pg k E) {cb m:Nat} {kv:Value} {last:Pr} {begun:Bool} {r:Option Pr} (hC:CurAt w M cb tb kv last begun) (hm:mostP E≤m) (hm1:m≤1000) (hk:k+8*m≤900000) (hr:nextP E last begun=r) :
  Calls prog 16 #[.pointer (some ⟨cb,0,none⟩)] w fun e w'=>∃ M',
   (r=none∧e=.returned (.tuple #[.agg #[.slice none 0 0,.int .u64 0],.bool false,.int .i64 0])∧OneQ Q w' p tb N M' u pg (k+2*m) E∧CurAt w' M' cb tb kv last begun∧Step M M' w w') ∨
   (∃ x kv' rv,r=some x∧e=.returned (.tuple #[.agg #[rv,.int .u64 x.2],.bool true,.int .i64 0])∧KeyOk w' M' (rv,x)∧(∀ g,rv.ownBlock=some g→w.heap.size≤g)∧OneQ Q w' p tb N M' u pg (k+2*m) E∧CurAt w' M' cb tb kv' x true∧(∀ g,rv.ownBlock=some g→kv'.ownBlock≠some g)∧Only (M++[cb]) w w'∧∀ x∈M',x∈M∨w.heap.size≤x):=by
 obtain ⟨H,T,hT⟩:=h.tree;obtain ⟨h1,h2,h3,h4,h5⟩:=id hT
 refine (next_any h.pool h.at_ h.off h1 (by omega) hC).mono ?_
 rw [h2];rintro e w' ⟨M',⟨g1,rfl,g2,g3,g4⟩ | ⟨x,kv',rv,g1,rfl,g2,g3,g4,g5,g6,g7,g8⟩⟩
 ·exact ⟨M',.inl ⟨hr ▸ g1,rfl,(h.step g2 g4).more (by omega),g3,g4⟩⟩
 ·refine ⟨M',.inr ⟨x,kv',rv,hr ▸ g1,rfl,g2,g3,⟨g4.more (by omega),g7.blk h.at_ (fun hm=>?_),fun hm=>?_,h.tree,h.len⟩,g5,g6,g7,g8⟩⟩
  ·rcases Za.1 hm with hm | hm
   ·exact h.off hm
   ·simp at hm
    subst hm;exact absurd (h.at_.inj hC.blk).2 (by decide)
  ·rcases g8 _ hm with h | h9
   ·exact OneQ.off ‹_› h
   ·have:=h.at_.lt;omega
end
theorem madeQ_any (Q:Pr→Prop) (w:World) (n:Nat) (h1:1≤n) (h2:n≤65536) :
  Calls prog 8 #[.int .i64 n] w fun e w'=>∃ p tb M u pg,e=.returned (.tuple #[.pointer (some ⟨p,0,none⟩),.pointer (some ⟨tb,0,none⟩)])∧OneQ Q w' p tb n M u pg 4 []∧w.heap.size≤tb∧Step [] M w w':=by
 refine (Xox w n h1 h2).mono ?_
 rintro e w' ⟨p,tb,M,pg,rfl,hP,hT,hl,hS⟩;obtain ⟨H,T,g1,g2,g3,g4⟩:=hT.tree;refine ⟨p,tb,M,_,pg,rfl,⟨hP,hT.at_,hT.off,⟨H,T,g1,g2,g3,?_,fun j hj=>(Xff g4 j).2 (Xpx n j hj)⟩,Xpy n⟩,hl,hS⟩
 have hlen:(nodes H T).length=1:=by have:=congrArg List.length g4;simpa [natsI] using this
 intro m hm e he;have hm2:m∈nodes H T:=hm;exfalso
 have hin:AllQ (fun e=>e∈entsT T) (nodes H T):=by
  cases H with
  | zero =>
   obtain ⟨i,E,rfl⟩:=Tr.is_leaf T;rw [Xan];intro a ha b hb;rw [Zo] at ha;subst ha
   rw [Xdv];exact hb
  | succ H =>
   obtain ⟨i,E,K,rfl⟩:=Tr.is_node T;have hw:=((Xce i E K).1 g1.wf).1;rw [Xbr] at hlen
   cases K with
   | nil=>simp at hw
   | cons a K=>simp [nodes] at hlen
 have:=hin m hm e he;rw [g2] at this;cases this
end T
namespace T
open Go Go.RowKit D B C G P H Tryz
set_option maxRecDepth 100000 in
theorem bytes_same {w:World} {x y:Value} {a:List UInt8} (hx:Xae w x a) (hy:Xae w y a) :
  Calls prog 17 #[x,y] w fun e w'=>e=.returned (.bool true)∧w=w':=by
 have c1:=Xbt hx;have c2:=Xbt hy
 go_enter func17,ntmps17
 go_wp2_with fail
 go_ret;exact ⟨rfl,rfl⟩
section
variable {w wr w' : World} {K : List UInt8} {p tb n k X : Nat} {M M' : List Nat} {u u' : List Bool} {pg pg' : Nat → List UInt8} {B B' : List Bool}
end
end T
end Go.Proofs.YtiijokopcgnokaaGreat
