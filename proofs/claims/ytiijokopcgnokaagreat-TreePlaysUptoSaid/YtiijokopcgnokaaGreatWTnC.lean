import Derived.Test.YtiijokopcgnokaaGreatWHpB
import Derived.Lib.Bytealg
import Derived.Lib.BytesEntry
import Derived.Deep.LoopGhost
set_option maxRecDepth 100000
set_option maxHeartbeats 2000000
set_option linter.unusedSimpArgs false
set_option linter.unusedVariables false
namespace Go.Proofs.YtiijokopcgnokaaGreat
namespace T
open Go Go.RowKit D B C G P H Tryz
theorem Xli : ∀ a b:List UInt8,Lib.compareBytes a b=cmpB a b
 | [],[]=>rfl
 | [],_ :: _=>rfl
 | _ :: _,[]=>rfl
 | a :: l,b :: k=>by
  unfold Lib.compareBytes cmpB;rw [Xli l k];simp only [UInt8.lt_iff_toNat_lt]
theorem Xlq {w:World} {v:Value} {l:List UInt8} (h:Xae w v l):(Extern.Bytes.bytesOf v).run prog w=.ok ⟨l.toArray⟩ w:=by
 obtain ⟨ao,cap,rfl,hc⟩:=h
 cases ao with
 | none =>
  obtain rfl:l=[]:=by
   cases l with
   | nil=>rfl
   | cons a l=>obtain ⟨b,o,h,_⟩:=hc (by simp);cases h
  rfl
 | some a =>
  have e1:(Lib.bytesOf (l.map fun x=>(x.toNat:Int)))=l:=by
   unfold Lib.bytesOf;rw [Yw];refine (Xc fun x _=>?_).trans (List.map_id l);simp
  have hl:=Lib.run_loadBytesX (P:=prog) w (l.map fun x=>(x.toNat:Int)) a .empty (fun j x hj=>by
   rw [Zr] at hj
   cases hx:l[j]? with
   | none=>rw [hx] at hj;cases hj
   | some y =>
    rw [hx] at hj;obtain ⟨h1,h2⟩:=Zh.1 hx;obtain ⟨b,o,hao,hcell⟩:=hc (by omega);simp only [Zw] at hao;subst hao;have:=hcell j h1;rw [Zf,hx] at this;simp only [Xe,Zw] at hj;subst hj;rw [Xah]
    exact this)
  rw [e1,Zl] at hl;show (Extern.Bytes.loadBytes a l.length .empty).run prog w=_;rw [hl];congr 1
  apply ByteArray.ext
  show (#[]:Array UInt8)++l.toArray=l.toArray;simp
theorem balg_run {w:World} {v1 v2:Value} {l1 l2:List UInt8} (h1:Xae w v1 l1) (h2:Xae w v2 l2):(callFunc 88 #[v1,v2]).run prog w=.ok (.value (.int .i64 (cmpB l1 l2))) w:=by
 rw [run_callFunc_extern func88 (by kernel_rfl) (by kernel_rfl) (by kernel_rfl) (e:=Extern.BytealgCompare.compare) (by kernel_rfl)]
 have:(Extern.BytealgCompare.compare #[v1,v2]).run prog w=.ok (.int .i64 (cmpB l1 l2)) w:=by
  change Sem.run prog (do pure (goInt (Extern.BytealgCompare.cmp (←Extern.Bytes.bytesOf v1) (←Extern.Bytes.bytesOf v2)))) w=_
  simp only [Sem.run_bind,Sem.run_pure,Xlq h1,Xlq h2,Result.andThen];rw [Lib.cmp_eq,Xli];rfl
 rw [this];rfl
theorem bcmp_any {w:World} {v1 v2:Value} {l1 l2:List UInt8} (h1:Xae w v1 l1) (h2:Xae w v2 l2) :
  Calls prog 58 #[v1,v2] w fun e w'=>e=.returned (.int .i64 (cmpB l1 l2))∧w=w':=by
 have hr:=balg_run h1 h2;clear h1 h2;generalize cmpB l1 l2=z at *
 go_enter func58,ntmps58
 go_wp2
 go_ret;exact ⟨rfl,rfl⟩
def cmpN (a b:Nat):Int:=if a<b then -1 else if b<a then 1 else 0
theorem cmpu_any (a b:Nat) (w:World):Calls prog 59 #[.int .u64 a,.int .u64 b] w fun e w'=>e=.returned (.int .i64 (cmpN a b))∧w=w':=by
 rcases Wr a b with h | h | h
 ·have e0:cmpN a b = -1:=if_pos h
  have h1:(a:Int)<b:=by omega
  rw [e0];clear e0
  go_enter func59,ntmps59
  go_wp2
  go_ret;exact ⟨rfl,rfl⟩
 ·subst h
  have e0:cmpN a a=0:=by unfold cmpN;rw [if_neg (by omega),if_neg (by omega)]
  have h1:¬(a:Int)<a:=by omega
  rw [e0];clear e0
  go_enter func59,ntmps59
  go_wp2
  go_ret;exact ⟨rfl,rfl⟩
 ·have e0:cmpN a b=1:=by unfold cmpN;rw [if_neg (by omega),if_pos h]
  have h1:¬(a:Int)<b:=by omega
  have h2:(b:Int)<a:=by omega
  rw [e0];clear e0
  go_enter func59,ntmps59
  go_wp2
  go_ret;exact ⟨rfl,rfl⟩
theorem cor_any {w:World} {g:Nat} {x y z:Int} (c0:w.cell? ⟨g,0,none⟩=some (.int .i64 x)) (c1:w.cell? ⟨g,1,none⟩=some (.int .i64 y)) (hz:z=if x≠0 then x else y) :
  Calls prog 57 #[.slice (some ⟨g,0,none⟩) 2 2] w fun e w'=>e=.returned (.int .i64 z)∧w=w':=by
 have Z1:Hid (x≠0→x=z):=fun h=>by rw [hz,if_pos h]
 have Z2:Hid (x=0→y=z):=fun h=>by rw [hz,if_neg (by simpa using h)]
 clear hz
 go_enter func57,ntmps57
 go_wp2_with fail
 go_loopg [8] 2 (fun gk s8 wr=>∃ j:Nat,gk=2-j∧j≤2∧s8=.int .i64 j∧wr=w∧(j=1∨j=2→x=0)∧(j=2→y=0))
 case atStart=>exact ⟨0,rfl,by omega,rfl,rfl,by omega,by omega⟩
 case round =>
  obtain ⟨j,hgk,hj,rfl,rfl,hx,hy⟩:=hrel;have HGK:=Th hgk;clear hgk
  rcases Wr j 1 with h | h | h
  ·obtain rfl:j=0:=by omega
   by_cases h0:x=0
   ·have Z:=Th h0
    subst h0;clear hx hy
    go_wp2_with fail
    go_roundg (2-(0+1))
    case measure=>have:=HGK.out;omega
    case rel=>exact ⟨1,rfl,by omega,by go_num,rfl,fun _=>Z.out,by omega⟩
   ·obtain rfl:=Z1.out h0
    have e1:(x == 0)=false:=beq_eq_false_iff_ne.2 h0;clear hx hy Z1 Z2
    go_wp2_with fail
    go_ret;exact ⟨rfl,rfl⟩
  ·subst h
   obtain rfl:=hx (.inl rfl);obtain rfl:=Z2.out rfl
   by_cases h0:y=0
   ·have Z:=Th h0
    subst h0;clear hx hy
    go_wp2_with fail
    go_roundg (2-(1+1))
    case measure=>have:=HGK.out;omega
    case rel=>exact ⟨2,rfl,by omega,by go_num,rfl,fun _=>Z.out,fun _=>Z.out⟩
   ·have e1:(y == 0)=false:=beq_eq_false_iff_ne.2 h0
    clear hx hy Z1 Z2
    go_wp2_with fail
    go_ret;exact ⟨rfl,rfl⟩
  ·obtain rfl:j=2:=by omega
   obtain rfl:=hx (.inr rfl);obtain rfl:=Z2.out rfl;obtain rfl:=hy rfl;clear hx hy Z1 Z2
   go_wp2_with fail
   go_ret;exact ⟨rfl,rfl⟩
end T
namespace T
open Go Go.RowKit D B C G P H Tryz
abbrev KV := Value × Pr
def kvC (p:KV):List Value:=[p.1,.int .u64 p.2.2]
def kvsC (L:List KV):List Value:=L.flatMap kvC
theorem Xcu : ∀ L:List KV,(kvsC L).length=L.length*2
 | []=>rfl
 | p :: L=>by simp only [kvsC,Yu,Ze,Zz] at *;have:=Xcu L;simp only [kvsC] at this;rw [this];simp [kvC];omega
theorem Xbm (A B:List KV):kvsC (A++B)=kvsC A++kvsC B:=by simp [kvsC]
theorem Xfd : ∀ {L:List KV} {i:Nat} {p:KV},L[i]?=some p→(kvsC L)[i*2]?=some p.1∧(kvsC L)[i*2+1]?=some (.int .u64 p.2.2)
 | [],_,_,h=>by simp at h
 | q :: L,0,p,h=>by simp at h;subst h;simp [kvsC,kvC]
 | q :: L,i+1,p,h=>by
  have:=Xfd (L:=L) (i:=i) (p:=p) (by simpa using h);rw [show (i+1)*2=i*2+1+1 by omega]
  simpa [kvsC,kvC] using this
theorem Xed (L:List KV) (k:Nat):kvsC (L.take k)=(kvsC L).take (k*2):=by
 induction L generalizing k with
 | nil=>simp [kvsC]
 | cons p L ih =>
  cases k with
  | zero=>simp [kvsC]
  | succ k =>
   have h2:=ih k;rw [show (k+1)*2=k*2+1+1 by omega];simp only [kvsC,kvC,Xv,Yu,Xa,Ym] at h2 ⊢;rw [h2]
theorem Xfq (L:List KV) (k:Nat):kvsC (L.drop k)=(kvsC L).drop (k*2):=by
 induction L generalizing k with
 | nil=>simp [kvsC]
 | cons p L ih =>
  cases k with
  | zero=>simp [kvsC]
  | succ k =>
   have h2:=ih k;rw [show (k+1)*2=k*2+1+1 by omega];simp only [kvsC,kvC,Wh,Yu,Xa,Ym] at h2 ⊢;rw [h2]
structure KeyOk (w:World) (M:List Nat) (p:KV):Prop where
 bytes:Xae w p.1 p.2.1
 cap:∀ ao n c,p.1=.slice ao n c→n≤c
 blk:∀ g,p.1.ownBlock=some g→g∉M∧∃ cs,Blk w g cs 5
 num:p.2.2<18446744073709551616
theorem Xcp {w w':World} {X:List Nat} {v:Value} {l:List UInt8} (h:Xae w v l) (hO:Only X w w') (hX:∀ g,v.ownBlock=some g→g∉X):Xae w' v l:=by
 obtain ⟨ao,cap,rfl,hc⟩:=h;refine ⟨ao,cap,rfl,fun h0=>?_⟩;obtain ⟨b,o,rfl,hcell⟩:=hc h0;exact ⟨b,o,rfl,fun j hj=>hO.cell (hcell j hj) (hX b rfl)⟩
theorem KeyOk.later {w w':World} {M X:List Nat} {p:KV} (h:KeyOk w M p) (hO:Only X w w') (hX:Off 5 w X):KeyOk w' M p:=by
 have hn:∀ g,p.1.ownBlock=some g→g∉X:=fun g hg hm=>by
  obtain ⟨_,cs,hb⟩:=h.blk g hg;exact hX g hm cs hb
 refine ⟨Xcp h.bytes hO hn,h.cap,fun g hg=>?_,h.num⟩;obtain ⟨h1,cs,hb⟩:=h.blk g hg;exact ⟨h1,cs,hO.blk hb (hn g hg)⟩
theorem KeyOk.past {w w':World} {M:List Nat} {p:KV} (h:KeyOk w M p) (hO:Only [] w w'):KeyOk w' M p:=h.later hO (Off.nil _ _)
theorem KeyOk.step {w w':World} {M M':List Nat} {p:KV} (h:KeyOk w M p) (hS:Step M M' w w'):KeyOk w' M' p:=by
 refine ⟨Xcp h.bytes hS.1 (fun g hg=>(h.blk g hg).1),h.cap,fun g hg=>?_,h.num⟩;obtain ⟨h1,cs,hb⟩:=h.blk g hg;refine ⟨fun hm=>?_,cs,hS.1.blk hb h1⟩
 rcases hS.2 g hm with h2 | h2
 ·exact h1 h2
 ·have:=hb.lt;omega
structure MNd where
 nb:Nat
 root:Bool
 n:Nd
 ev:Value
 cv:Value
 L:List KV
def MNd.blocks (m:MNd):List Nat:=m.nb :: (m.ev.ownBlock.toList++m.cv.ownBlock.toList)
def intsC (l:List Int):List Value:=l.map fun x=>.int .i64 x
structure NodeAt (w:World) (M:List Nat) (m:MNd):Prop where
 blk:Blk w m.nb [.int .i64 m.n.id,.bool m.root,.bool m.n.leaf,m.ev,m.cv] 77
 es:m.L.map (·.2)=m.n.es
 ents:w.ownsRow 0 43 2 m.ev m.L.length (kvsC m.L)
 kids:w.ownsRow 0 3 1 m.cv m.n.cs.length (intsC m.n.cs)
 keys:∀ p∈m.L,KeyOk w M p
 off:∀ x∈m.blocks,x∉M
theorem NodeAt.later {w w':World} {M X:List Nat} {m:MNd} (h:NodeAt w M m) (hO:Only X w w') (hX:Off 5 w X) (hm:∀ x∈m.blocks,x∉X):NodeAt w' M m where
 blk:=hO.blk h.blk (hm _ (by simp [MNd.blocks]))
 es:=h.es
 ents:=Xab h.ents hO (fun k hk=>hm k (by simp [MNd.blocks,hk]))
 kids:=Xab h.kids hO (fun k hk=>hm k (by simp [MNd.blocks,hk]))
 keys:=fun p hp=>(h.keys p hp).later hO hX
 off:=h.off
theorem NodeAt.past {w w':World} {M:List Nat} {m:MNd} (h:NodeAt w M m) (hO:Only [] w w'):NodeAt w' M m:=h.later hO (Off.nil _ _) (by simp)
theorem NodeAt.lt {w:World} {M:List Nat} {m:MNd} (h:NodeAt w M m):∀ x∈m.blocks,x<w.heap.size:=by
 intro x hx;simp only [MNd.blocks,Zg,Za,Zk] at hx
 rcases hx with rfl | hx | hx
 ·exact h.blk.lt
 ·exact Xbk h.ents hx
 ·exact Xbk h.kids hx
theorem NodeAt.step {w w':World} {M M':List Nat} {m:MNd} (h:NodeAt w M m) (hS:Step M M' w w'):NodeAt w' M' m where
 blk:=hS.1.blk h.blk (h.off _ (by simp [MNd.blocks]))
 es:=h.es
 ents:=Xab h.ents hS.1 (fun k hk=>h.off k (by simp [MNd.blocks,hk]))
 kids:=Xab h.kids hS.1 (fun k hk=>h.off k (by simp [MNd.blocks,hk]))
 keys:=fun p hp=>(h.keys p hp).step hS
 off:=fun x hx hm=>by
  rcases hS.2 x hm with h2 | h2
  ·exact h.off x hx h2
  ·have:=h.lt x hx;omega
theorem NodeAt.foot {w:World} {M:List Nat} {m:MNd} (h:NodeAt w M m):Off 5 w m.blocks:=by
 intro x hx cs hb;simp only [MNd.blocks,Zg,Za,Zk] at hx
 rcases hx with rfl | hx | hx
 ·exact h.blk.ne hb (by decide) rfl
 ·exact Xaj h.ents hb (by decide) hx
 ·exact Xaj h.kids hb (by decide) hx
theorem NodeAt.len {w:World} {M:List Nat} {m:MNd} (h:NodeAt w M m):m.L.length=m.n.es.length:=by rw [←h.es,Zl]
theorem NodeAt.row {w:World} {M:List Nat} {m:MNd} (h:NodeAt w M m):∃ ao cap,m.ev=.slice ao m.n.es.length cap∧m.n.es.length≤cap∧(0<m.n.es.length→∃ g,ao=some ⟨g,0,none⟩∧∀ i p,m.L[i]?=some p→w.cell? ⟨g,i*2,none⟩=some p.1∧w.cell? ⟨g,i*2+1,none⟩=some (.int .u64 p.2.2)):=by
 obtain ⟨ao,cap,h1,h2,h3⟩:=(RowOn.of h.ents).shape;rw [h.len] at h1 h2 h3;refine ⟨ao,cap,h1,h2,fun h0=>?_⟩;obtain ⟨g,rfl,hc⟩:=h3 h0;refine ⟨g,rfl,fun i p hp=>?_⟩;have hi:=(Zh.1 hp).1;rw [h.len] at hi;obtain ⟨e1,e2⟩:=Xfd hp;exact ⟨by rw [hc _ (by omega)];exact e1,by rw [hc _ (by omega)];exact e2⟩
theorem NodeAt.crow {w:World} {M:List Nat} {m:MNd} (h:NodeAt w M m):∃ ao cap,m.cv=.slice ao m.n.cs.length cap∧m.n.cs.length≤cap∧(0<m.n.cs.length→∃ g,ao=some ⟨g,0,none⟩∧∀ i c,m.n.cs[i]?=some c→w.cell? ⟨g,i,none⟩=some (.int .i64 c)):=by
 obtain ⟨ao,cap,h1,h2,h3⟩:=(RowOn.of h.kids).shape;refine ⟨ao,cap,h1,h2,fun h0=>?_⟩;obtain ⟨g,rfl,hc⟩:=h3 h0;refine ⟨g,rfl,fun i c hp=>?_⟩;have hi:=(Zh.1 hp).1;rw [hc _ (by omega)]
 simp only [intsC,Zr,hp];rfl
theorem NodeAt.kv {w:World} {M:List Nat} {m:MNd} (h:NodeAt w M m) {i:Nat} {e:Pr} (he:m.n.es[i]?=some e):∃ v,m.L[i]?=some (v,e):=by
 rw [←h.es,Zr] at he
 cases hq:m.L[i]? with
 | none=>rw [hq] at he;cases he
 | some q =>
  rw [hq] at he;simp only [Xe,Zw] at he;exact ⟨q.1,by rw [←he]⟩
theorem Xnq {leaf:Bool} {E:List Pr} (hk:Keys E):sizeP leaf E≤8+316*E.length:=by
 have:=Xdk leaf hk;unfold sizeP baseE
 cases leaf <;> simp at * <;> omega
theorem Xnp {w:World} {M:List Nat} {m:MNd} (h:NodeAt w M m) (hk:Keys m.n.es) (hl:m.n.es.length≤1000000) :
  Calls prog 62 #[.pointer (some ⟨m.nb,0,none⟩)] w fun e w'=>e=.returned (.int .i64 (sizeP m.n.leaf m.n.es:Nat))∧w=w':=by
 have c2:=h.blk.cell 2;have c3:=h.blk.cell 3;simp only [Zd,Zb] at c2 c3;obtain ⟨ao,cap,hev,hcap,hrow⟩:=h.row;rw [hev] at c3;have ROW:=Th hrow
 have NXT:Hid (∀ i e,m.n.es[i]?=some e→(∃ g bo bc,ao=some ⟨g,0,none⟩∧w.cell? ⟨g,i*2,none⟩=some (.slice bo e.1.length bc))∧sumE m.n.leaf (m.n.es.take (i+1))=sumE m.n.leaf (m.n.es.take i)+(e.1.length+12+if m.n.leaf then 0 else 4)∧e.1.length≤300):=by
  intro i e he;obtain ⟨hi,rfl⟩:=Zh.1 he;obtain ⟨v,hv⟩:=h.kv he;obtain ⟨g,rfl,hg⟩:=hrow (by omega);obtain ⟨bo,bc,hvv,_⟩:=(h.keys _ (Zm hv)).bytes;simp only at hvv;refine ⟨⟨g,bo,bc,rfl,?_⟩,by rw [Xks _ _ hi];rfl,(hk _ (Yx hi)).1⟩
  rw [(hg i _ hv).1,hvv]
 have NOE:Hid (∀ i,i<m.n.es.length→∃ e,m.n.es[i]?=some e):=fun i hi=>⟨_,Zc hi⟩
 have LE:Hid (∀ i,i≤m.n.es.length→sumE m.n.leaf (m.n.es.take i)≤316*i):=fun i hi=>by
  have:=Xdk m.n.leaf (E:=m.n.es.take i) (hk.sub fun e he=>Yn he);rw [Zj,Yt hi] at this
  split at this <;> omega
 have END:Hid (sizeP m.n.leaf m.n.es=baseE m.n.leaf+sumE m.n.leaf (m.n.es.take m.n.es.length)):=by show _=_;rw [We];rfl
 generalize sizeP m.n.leaf m.n.es=S at *
 have hbase:baseE m.n.leaf=if m.n.leaf then 0 else 8:=rfl
 clear h hk hrow hev;generalize m.n.es=E at *;generalize hn:E.length=n at *;cases hleaf:m.n.leaf
 ·rw [hleaf] at c2 NXT LE END hbase
  simp only [Bool.false_eq_true,if_false] at NXT hbase;have BASE:=Th hbase;clear hbase hleaf
  go_enter func62,ntmps62
  go_wp2_with fail
  go_loopg [3,15] n (fun gk s3 s15 wr=>∃ i:Nat,gk=n-i∧i≤n∧s15=.int .i64 i∧s3=.int .i64 (8+sumE false (E.take i):Nat)∧wr=w)
  case atStart=>exact ⟨0,rfl,Yc _,rfl,by simp [sumE],rfl⟩
  case round =>
   obtain ⟨i,hgk,hi,rfl,rfl,rfl⟩:=hrel;have HGK:=Th hgk;clear hgk;have hle:=LE.out i hi
   by_cases hlt:i<n
   ·obtain ⟨e,he⟩:=NOE.out i hlt
    obtain ⟨⟨g,bo,bc,rfl,hc⟩,hs,hk⟩:=NXT.out i e he;have HS:=Th hs;clear hs he;generalize sumE false (E.take i)=s at *
    have hlt':(i:Int)<n:=by omega
    have h0:(0:Int)≤i:=by omega
    go_wp2_with fail
    go_roundg (n-(i+1))
    case measure=>have:=HGK.out;omega
    case rel=>exact ⟨i+1,rfl,by omega,by go_num,by rw [HS.out];go_num,rfl⟩
   ·obtain rfl:i=n:=by omega
    have hge:¬(i:Int)<i:=by omega
    go_wp2_with fail
    go_ret
    have hE:((S:Nat):Int)=8+(sumE false (List.take i E):Nat):=by rw [END.out,BASE.out];omega
    exact ⟨by rw [hE];rfl,rfl⟩
 ·rw [hleaf] at c2 NXT LE END hbase
  simp only [if_true] at NXT hbase;have BASE:=Th hbase;clear hbase hleaf
  go_enter func62,ntmps62
  go_wp2_with fail
  go_loopg [3,15] n (fun gk s3 s15 wr=>∃ i:Nat,gk=n-i∧i≤n∧s15=.int .i64 i∧s3=.int .i64 (sumE true (E.take i):Nat)∧wr=w)
  case atStart=>exact ⟨0,rfl,Yc _,rfl,by simp [sumE],rfl⟩
  case round =>
   obtain ⟨i,hgk,hi,rfl,rfl,rfl⟩:=hrel;have HGK:=Th hgk;clear hgk;have hle:=LE.out i hi
   by_cases hlt:i<n
   ·obtain ⟨e,he⟩:=NOE.out i hlt
    obtain ⟨⟨g,bo,bc,rfl,hc⟩,hs,hk⟩:=NXT.out i e he;have HS:=Th hs;clear hs he;generalize sumE true (E.take i)=s at *
    have hlt':(i:Int)<n:=by omega
    have h0:(0:Int)≤i:=by omega
    go_wp2_with fail
    go_roundg (n-(i+1))
    case measure=>have:=HGK.out;omega
    case rel=>exact ⟨i+1,rfl,by omega,by go_num,by rw [HS.out];go_num,rfl⟩
   ·obtain rfl:i=n:=by omega
    have hge:¬(i:Int)<i:=by omega
    go_wp2_with fail
    go_ret
    have hE:((S:Nat):Int)=(sumE true (List.take i E):Nat):=by rw [END.out,BASE.out];omega
    exact ⟨by rw [hE];rfl,rfl⟩
theorem Xdr {w:World} {M:List Nat} {m:MNd} (h:NodeAt w M m) (hk:Keys m.n.es) (hl:m.n.es.length≤1000000) :
  Calls prog 35 #[.pointer (some ⟨m.nb,0,none⟩)] w fun e w'=>e=.returned (.bool (fitsP m.n.leaf m.n.es))∧w=w':=by
 have SZ:=Th (Xnp h hk hl)
 have FT:Hid (fitsP m.n.leaf m.n.es=decide ((sizeP m.n.leaf m.n.es:Int)≤502)):=by show _=_;unfold fitsP;exact decide_eq_decide.2 (by omega)
 have hb:=Xnq (leaf:=m.n.leaf) hk
 have hb2:sizeP m.n.leaf m.n.es≤400000000:=by omega
 clear h hk hb;generalize fitsP m.n.leaf m.n.es=f at *;generalize sizeP m.n.leaf m.n.es=S at *
 go_enter func35,ntmps35
 go_wp2_with (go_at_call 62;refine SZ.out.mono ?_;rintro e w1 ⟨rfl,rfl⟩)
 go_ret;exact ⟨by rw [FT.out];rfl,rfl⟩
theorem kind_of {w:World} {M:List Nat} {m:MNd} (h:NodeAt w M m) :
  Calls prog 52 #[.pointer (some ⟨m.nb,0,none⟩)] w fun e w'=>e=.returned (.int .u8 (kindP m.root m.n.leaf:Nat))∧w=w':=by
 have c1:=h.blk.cell 1;have c2:=h.blk.cell 2;simp only [Zd,Zb] at c1 c2;clear h
 cases hr:m.root <;> cases hl:m.n.leaf <;> rw [hr] at c1 <;> rw [hl] at c2 <;> clear hr hl
 all_goals
  go_enter func52,ntmps52
  go_wp2_with fail
  go_ret;exact ⟨rfl,rfl⟩
end T
namespace T
open Go Go.RowKit D B C G P H Tryz
structure Kids (n:Nd):Prop where
 count:n.cs.length=if n.leaf then 0 else n.es.length+1
 small:∀ c∈n.cs,0≤c∧c<65536
theorem key_src {w:World} {v:Value} {l:List UInt8} (h:Xae w v l):∃ ao cap,v=.slice ao l.length cap∧(0<l.length→∃ ad,ao=some ad∧∀ j u,(u8s l)[j]?=some u→w.cell? (ad.add j)=some u):=by
 obtain ⟨ao,cap,rfl,hc⟩:=h;refine ⟨ao,cap,rfl,fun h0=>?_⟩;obtain ⟨b,o,rfl,hc2⟩:=hc h0;exact ⟨_,rfl,B.src_cells hc2⟩
theorem cell_any {w:World} {M:List Nat} {m:MNd} (h:NodeAt w M m) (hk:Keys m.n.es) (hK:Kids m.n) (hl:m.n.es.length≤1000000) {i:Nat} (hi:i<m.n.es.length) :
  Calls prog 55 #[.pointer (some ⟨m.nb,0,none⟩),.int .i64 i] w fun e w'=>∃ v',e=.returned v'∧B.Own w w' v' (cellN m.n i):=by
 have c2:=h.blk.cell 2;have c3:=h.blk.cell 3;have c4:=h.blk.cell 4;simp only [Zd,Zb] at c2 c3 c4;obtain ⟨ao,cap,hev,hcap,hrow⟩:=h.row;obtain ⟨g,rfl,hrow2⟩:=hrow (by omega);obtain ⟨v,hv⟩:=h.kv (Zc hi);obtain ⟨r0,r1⟩:=hrow2 i _ hv;have hb:=(h.keys _ (Zm hv)).bytes;have hx:=(h.keys _ (Zm hv)).num;obtain ⟨ka,kc,hvv,hks⟩:=key_src hb;simp only at hvv hks hx r0 r1;rw [hev] at c3;rw [hvv] at r0
 have CN:Hid (cellN m.n i=(if m.n.leaf then [] else le (m.n.cs.getD (i+1) 0).toNat 4)++le m.n.es[i].2 8++m.n.es[i].1):=by
  show _=_;unfold cellN
  have hg:m.n.es.getD i ([],0)=m.n.es[i]:=by rw [Zf,Zc hi];rfl
  rw [hg]
 have hkl:=(hk _ (Yx hi)).1;have KS:=Th hks;generalize cellN m.n i=CB at *;generalize m.n.es[i].1=key at *;generalize m.n.es[i].2=x at *;obtain ⟨kl,hkl2⟩:∃ kl,key.length=kl:=⟨_,rfl⟩;rw [hkl2] at r0 KS hkl;have KL:=Th hkl2
 have hi0:(0:Int)≤i:=by omega
 have hil:(i:Int)<m.n.es.length:=by omega
 have hX:=Th hx;clear hrow hrow2 hv hb hvv hks hkl2 hev hx
 have U8:Hid ((u8s key).length=kl*1):=by show _=_;rw [Xaf,KL.out];omega
 cases hleaf:m.n.leaf
 ·rw [hleaf] at c2 CN
  have hcn:m.n.cs.length=m.n.es.length+1:=by have:=hK.count;rw [hleaf] at this;exact this
  obtain ⟨co,cc,hcv,hccap,hcrow⟩:=h.crow;obtain ⟨cg,rfl,hcrow2⟩:=hcrow (by omega);obtain ⟨hc0,hc1⟩:=hK.small m.n.cs[i+1] (Yx _);have r2:=hcrow2 (i+1) _ (Zc (show i+1<m.n.cs.length by omega))
  have hgd:m.n.cs.getD (i+1) 0=m.n.cs[i+1]:=by rw [Zf,Zc (by omega)];rfl
  rw [hgd] at CN;rw [hcv,hcn] at c4;rw [hcn] at hccap;obtain ⟨c,hc⟩:∃ c:Nat,m.n.cs[i+1]=(c:Int):=⟨m.n.cs[i+1].toNat,by omega⟩;rw [hc] at r2 CN
  have hclt:c<65536:=by omega
  have HCL:=Th hclt;simp only [Bool.false_eq_true,if_false,Int.toNat_natCast] at CN
  have hi1:(0:Int)≤(i:Int)+1:=by omega
  have hi2:(i:Int)+1<(m.n.es.length:Int)+1:=by omega
  have hcI:(0:Int)≤c:=by omega
  have EW:=Th (wrap_u64 c (by unfold W64;omega));have ew:=EW.out;clear h hk hK hcrow hcrow2 hcv hgd hc hcn hc0 hc1 hleaf hclt;generalize m.n.es.length=n at *
  go_enter func55,ntmps55
  go_wp2_with fail
  refine (Xgj (m:=0) (nilRow w) rfl c (by have:=HCL.out;omega) 4 (by omega) (by omega) (m':=4) rfl).mono ?_
  rintro e w1 ⟨a1,k1,rfl,hg1,hl1⟩;have G1:=Th hg1;have E1:=Th hl1;have hO1:Only [] w w1:=hg1.only;have d3:=hO1.cell c3 (by simp);have s1:=hO1.cell r1 (by simp);clear hg1 hl1 hO1 c2 c4 r2;have EL:Hid ([]++le c 4=le c 4):=Ym _;rw [EL.out] at G1 E1;generalize le c 4=L1 at *
  go_wp2_with fail
  refine (Xgj G1.out.row E1.out x hX.out 8 (by omega) (by omega) (m':=12) rfl).mono ?_
  rintro e w2 ⟨a2,k2,rfl,hg2,hl2⟩;have G2:=Th (G1.out.trans hg2);have E2:=Th hl2;have hO2:Only [] w w2:=G2.out.only;have f3:=hO2.cell c3 (by simp);have s0:=hO2.cell r0 (by simp)
  have KS2:Hid (0<kl→∃ ad,ka=some ad∧∀ j u,(u8s key)[j]?=some u→w2.cell? (ad.add j)=some u):=fun h0=>by
   obtain ⟨ad,h1,h2⟩:=KS.out h0;exact ⟨ad,h1,fun j u hu=>hO2.cell (h2 j u hu) (by simp)⟩
  clear hg2 hl2 hO2 d3 s1 c3 r0 r1;generalize L1++le x 8=L2 at *
  go_wp2_with (at_builtin;refine Xap rfl (.tmp 32) (.tmp 40) 22 rfl 5 underlying22 (info_parts B.info_byte) rfl (by omega) (.slice a2 12 k2) 12 (u8s L2) rfl G2.out.own ka kl kc rfl (u8s key) U8.out KS2.out (Xba _) (by omega) (by omega) ?_)
  intro v3 w3 hg3;have G3:=Th (G2.out.trans hg3);clear hg3
  go_wp2_with fail
  go_ret;refine ⟨_,rfl,?_⟩;rw [CN.out];have hG:=G3.out;rw [←Xew] at hG
  have hlen:12+kl=(L2++key).length:=by rw [Ze,E2.out,KL.out]
  rw [hlen] at hG;exact own_grew hG
 ·rw [hleaf] at c2 CN
  simp only [if_true,Ym] at CN;clear h hk hK hleaf;generalize m.n.es.length=n at *
  go_enter func55,ntmps55
  go_wp2_with fail
  refine (Xgj (m:=0) (nilRow w) rfl x hX.out 8 (by omega) (by omega) (m':=8) rfl).mono ?_
  rintro e w2 ⟨a2,k2,rfl,hg2,hl2⟩;have G2:=Th hg2;have E2:=Th hl2;have hO2:Only [] w w2:=G2.out.only;have f3:=hO2.cell c3 (by simp);have s0:=hO2.cell r0 (by simp)
  have KS2:Hid (0<kl→∃ ad,ka=some ad∧∀ j u,(u8s key)[j]?=some u→w2.cell? (ad.add j)=some u):=fun h0=>by
   obtain ⟨ad,h1,h2⟩:=KS.out h0;exact ⟨ad,h1,fun j u hu=>hO2.cell (h2 j u hu) (by simp)⟩
  clear hg2 hl2 hO2 c3 r0 r1;have EL:Hid ([]++le x 8=le x 8):=Ym _;rw [EL.out] at G2 E2;generalize le x 8=L2 at *
  go_wp2_with (at_builtin;refine Xap rfl (.tmp 32) (.tmp 40) 22 rfl 5 underlying22 (info_parts B.info_byte) rfl (by omega) (.slice a2 8 k2) 8 (u8s L2) rfl G2.out.own ka kl kc rfl (u8s key) U8.out KS2.out (Xba _) (by omega) (by omega) ?_)
  intro v3 w3 hg3;have G3:=Th (G2.out.trans hg3);clear hg3
  go_wp2_with fail
  go_ret;refine ⟨_,rfl,?_⟩;rw [CN.out];have hG:=G3.out;rw [←Xew] at hG
  have hlen:8+kl=(L2++key).length:=by rw [Ze,E2.out,KL.out]
  rw [hlen] at hG;exact own_grew hG
theorem Xhv {w:World} {p k id:Nat} {M:List Nat} {u:List Bool} {pg:Nat→List UInt8} {m:MNd} (hP:PoolV w p M u pg k) (hk:k≤1000000) (hN:NodeAt w M m) (hid:m.n.id=(id:Nat)) (hu:u.getD id false=true)
  (hK:Keys m.n.es) (hC:Kids m.n) (hf:fitsP m.n.leaf m.n.es=true) :
  Calls prog 29 #[.pointer (some ⟨m.nb,0,none⟩),.pointer (some ⟨p,0,none⟩)] w fun e w'=>∃ M' q,e=.returned (.int .i64 0)∧Xel m.root m.n q∧PoolV w' p M' u (upd pg id q) (k+2)∧Step M M' w w':=by
 have c0:=hN.blk.cell 0;have c2:=hN.blk.cell 2;have c3:=hN.blk.cell 3;have c4:=hN.blk.cell 4;simp only [Zd,Zb] at c0 c2 c3 c4;rw [hid] at c0;obtain ⟨ao,cap,hev,hcap,_⟩:=hN.row;rw [hev] at c3
 have hlen:m.n.es.length≤1000000:=by
  rw [Xcf] at hf;have:=Xdo m.n m.n.es.length (Zq _);rw [We] at this;unfold weigh at this;rw [cellsTo_len] at this;omega
 have KI:=Th (kind_of hN)
 have CE:Hid (∀ w1 i,Only [] w w1→i<m.n.es.length→Calls prog 55 #[.pointer (some ⟨m.nb,0,none⟩),.int .i64 i] w1 fun e w'=>∃ v',e=.returned v'∧B.Own w1 w' v' (cellN m.n i)):=fun w1 i hO hi=>cell_any (hN.past hO) hK hC hlen hi
 have INS:Hid (∀ w1 v vb q i,Xbs w1 v q→Xae w1 vb (cellN m.n i)→i<m.n.es.length→PageIs (kindP m.root m.n.leaf) (Xbd m.n i) q →
   Calls prog 53 #[v,vb] w1 fun e w'=>∃ gb c q' s,e=.returned (.tuple #[.slice (some ⟨gb,0,none⟩) 512 c,.int .i64 (s:Nat),.int .i64 0])∧Buf w' gb c q'∧w1.heap.size≤gb∧Only [] w1 w'∧PageIs (kindP m.root m.n.leaf) (Xbd m.n (i+1)) q'):=by
  intro w1 v vb q i h1 h2 hi h3;obtain ⟨he,hq⟩:=laid_next hK hf hi h3
  refine (Xlp h1 h2 he).mono ?_
  rintro e w' ⟨gb,c,rfl,hb,hg,hO⟩;exact ⟨gb,c,_,_,rfl,hb,hg,hO,hq⟩
 have NW:Hid (Calls prog 51 #[.int .u8 (kindP m.root m.n.leaf:Nat)] w fun e w'=>∃ gb c q,e=.returned (.slice (some ⟨gb,0,none⟩) 512 c)∧Buf w' gb c q∧w.heap.size≤gb∧Only [] w w'∧PageIs (kindP m.root m.n.leaf) [] q):=by
  have h1:=new_any (w:=w) (kindU m.root m.n.leaf);have h2:=PageIs.new (kindU m.root m.n.leaf);rw [Xou] at h2;rw [Xou] at h1
  refine h1.mono ?_
  rintro e w' ⟨gb,c,rfl,hb,hg,hO⟩;exact ⟨gb,c,_,rfl,hb,hg,hO,h2⟩
 have PUT:Hid (∀ w1 gb c q,Only [] w w1→Buf w1 gb c q→gb∉M→Calls prog 56 #[.pointer (some ⟨p,0,none⟩),.int .i64 id,.slice (some ⟨gb,0,none⟩) 512 c,.int .u64 (0:Nat)] w1 fun e w'=>∃ M',e=.returned (.int .i64 0)∧PoolV w' p M' u (upd pg id q) (k+2)∧Step M M' w1 w'):=fun w1 gb c q hO hb hg =>
  (hP.past hO).put hk hu hb.at (fun a n c e=>by simp only [Value.slice.injEq,Zw] at e;rw [←e.1];exact hg) hb.1
 have LT:=Th hP.lt;have ALL:Hid (Xbd m.n m.n.es.length=Xcc m.n):=Xjk _
 have HNG:Hid (∀ g,w.heap.size≤g→g∉M):=fun g hg hm=>by have:=hP.lt _ hm;omega
 cases hleaf:m.n.leaf
 ·have INS0:Hid (∀ w1 v vb q,Xbs w1 v q→Xae w1 vb (le (m.n.cs.getD 0 0).toNat 4)→PageIs (kindP m.root m.n.leaf) [] q →
   Calls prog 53 #[v,vb] w1 fun e w'=>∃ gb c q' s,e=.returned (.tuple #[.slice (some ⟨gb,0,none⟩) 512 c,.int .i64 (s:Nat),.int .i64 0])∧Buf w' gb c q'∧w1.heap.size≤gb∧Only [] w1 w'∧PageIs (kindP m.root m.n.leaf) (Xbd m.n 0) q'):=by
   intro w1 v vb q h1 h2 h3;obtain ⟨he,hq⟩:=h3.ins (b:=le (m.n.cs.getD 0 0).toNat 4) (by rw [Xay];omega) (by rw [Xay];omega) (by rw [Xay];simp [lens]) (by simp)
   refine (Xlp h1 h2 he).mono ?_
   rintro e w' ⟨gb,c,rfl,hb,hg,hO⟩;refine ⟨gb,c,_,_,rfl,hb,hg,hO,?_⟩
   have e1:Xbd m.n 0=[]++[le (m.n.cs.getD 0 0).toNat 4]:=by unfold Xbd;rw [hleaf];simp
   rw [e1];exact hq
  have hcn:m.n.cs.length=m.n.es.length+1:=by have:=hC.count;rw [hleaf] at this;exact this
  obtain ⟨co,cc,hcv,hccap,hcrow⟩:=hN.crow;obtain ⟨cg,rfl,hcrow2⟩:=hcrow (by omega);obtain ⟨hc0,hc1⟩:=hC.small m.n.cs[0] (Yx (by omega));have r2:=hcrow2 0 _ (Zc (show 0<m.n.cs.length by omega))
  have hgd:m.n.cs.getD 0 0=m.n.cs[0]:=by rw [Zf,Zc (by omega)];rfl
  rw [hgd] at INS0;rw [hcv,hcn] at c4;rw [hcn] at hccap;obtain ⟨ch,hch⟩:∃ c:Nat,m.n.cs[0]=(c:Int):=⟨m.n.cs[0].toNat,by omega⟩;rw [hch] at r2 INS0;simp only [Int.toNat_natCast] at INS0
  have hclt:ch<65536:=by omega
  have HCL:=Th hclt;have ew:IntKind.u64.wrap (ch:Int)=ch:=wrap_u64 ch (by unfold W64;omega)
  have hcI:(0:Int)≤ch:=by omega
  rw [hleaf] at c2;have LFB:Hid (m.n.leaf=false):=hleaf
  have hn1:(0:Int)<(m.n.es.length:Int)+1:=by omega
  clear hP hN hK hC hf hev hcrow hcrow2 hcv hgd hch hc0 hc1 hleaf hclt hu hid hcn
  go_enter func29,ntmps29
  go_wp2_with (first
   | (go_at_call 52;refine KI.out.mono ?_;rintro e w9 ⟨rfl,rfl⟩)
   | (go_at_call 51;refine NW.out.mono ?_;rintro e w0 ⟨g0,b0,q0,rfl,hb0,hg0,hO0,hq0⟩;have B0:=Th hb0;have G0:=Th hg0;have O0:=Th hO0;have Q0:=Th hq0;have d2:=hO0.cell c2 (by simp);have d4:=hO0.cell c4 (by simp);have d5:=hO0.cell r2 (by simp);clear hb0 hg0 hO0 hq0)
   | (go_at_call 54;refine (Xgj (m:=0) (nilRow _) rfl ch (by have:=HCL.out;omega) 4 (by omega) (by omega) (m':=4) rfl).mono ?_;rintro e w7 ⟨a7,k7,rfl,hg7,hl7⟩;have R7:Hid (Xae w7 (.slice a7 4 k7) (le ch 4)):=hg7.row.at;have O7:Hid (Only [] _ w7):=hg7.only;clear hg7 hl7)
   | (go_at_call 53;refine (INS0.out _ _ _ _ (B0.out.past O7.out).c R7.out Q0.out).mono ?_;rintro e w1 ⟨gb1,c1,q1,s1,rfl,hb1,hg1,hO1,hq1⟩;have B1:=Th hb1;have O1:=Th ((O0.out.trans O7.out (by simp)).trans hO1 (by simp));have G1:Hid (w.heap.size≤gb1):=Zp (O0.out.trans O7.out (by simp)).size hg1;have Q1:=Th hq1;have f3:=O1.out.cell c3 (by simp);clear hb1 hg1 hO1 hq1))
  go_loopg [5,34] m.n.es.length (fun gk s5 s34 wr=>∃ (i gb c:Nat) (q:List UInt8),gk=m.n.es.length-i∧i≤m.n.es.length∧s34=.int .i64 i∧s5=.slice (some ⟨gb,0,none⟩) 512 c∧Buf wr gb c q∧w.heap.size≤gb∧Only [] w wr∧PageIs (kindP m.root m.n.leaf) (Xbd m.n i) q)
  case atStart=>exact ⟨0,_,_,_,rfl,Yc _,rfl,rfl,B1.out,G1.out,O1.out,Q1.out⟩
  case round =>
   obtain ⟨i,gb,c,q,hgk,hi,rfl,rfl,hb,hg,hO,hq⟩:=hrel;have HGK:=Th hgk;have BB:=Th hb;have GG:=Th hg;have OO:=Th hO;have QQ:=Th hq;have e0:=hO.cell c0 (by simp);have e3:=hO.cell c3 (by simp);clear hgk hb hg hO hq
   by_cases hlt:i<m.n.es.length
   ·have hlt':(i:Int)<m.n.es.length:=by omega
    have hi0:(0:Int)≤i:=by omega
    have HLT:=Th hlt
    go_wp2_with (first
     | (go_at_call 55;refine (CE.out _ _ OO.out HLT.out).mono ?_;rintro e w3 ⟨v3,rfl,hr3,hn3,hO3⟩;have R3:=Th hr3;have O3:=Th hO3;clear hr3 hn3 hO3)
     | (go_at_call 53;refine (INS.out _ _ _ _ _ (BB.out.past O3.out).c R3.out.at HLT.out QQ.out).mono ?_;rintro e w4 ⟨g4,c4',q4,s4,rfl,hb4,hg4,hO4,hq4⟩;have B4:=Th hb4;have G4:=Th hg4;have O4:=Th ((OO.out.trans O3.out (by simp)).trans hO4 (by simp));have Q4:=Th hq4;have S4:=Th (OO.out.trans O3.out (by simp)).size;clear hb4 hg4 hO4 hq4))
    go_roundg (m.n.es.length-(i+1))
    case measure=>have:=HGK.out;omega
    case rel=>exact ⟨i+1,g4,c4',q4,rfl,by omega,by go_num,rfl,B4.out,by have:=G4.out;have:=S4.out;omega,O4.out,Q4.out⟩
   ·obtain rfl:i=m.n.es.length:=by omega
    have hge:¬(m.n.es.length:Int)<m.n.es.length:=by omega
    have QA:Hid (Xel m.root m.n q):=by have h9:=QQ.out;rw [ALL.out] at h9;exact h9
    go_wp2_with (go_at_call 56;refine (PUT.out _ _ _ _ OO.out BB.out (HNG.out _ GG.out)).mono ?_;rintro e w5 ⟨M',rfl,hP5,hS5⟩;have P5:=Th hP5;have S5:=Th (Step.ahead OO.out hS5);clear hP5 hS5)
    go_ret;exact ⟨M',q,rfl,QA.out,P5.out,S5.out⟩
 ·rw [hleaf] at c2
  have C0:Hid (Xbd m.n 0=[]):=by show _=_;unfold Xbd;rw [hleaf];rfl
  have LFB:Hid (m.n.leaf=true):=hleaf;clear hP hN hK hC hf hev hleaf hu hid
  go_enter func29,ntmps29
  go_wp2_with (first
   | (go_at_call 52;refine KI.out.mono ?_;rintro e w9 ⟨rfl,rfl⟩)
   | (go_at_call 51;refine NW.out.mono ?_;rintro e w1 ⟨g1,b1,q1,rfl,hb1,hg1,hO1,hq1⟩;have B1:=Th hb1;have G1:=Th hg1;have O1:=Th hO1;have Q1:=Th (C0.out ▸ hq1:PageIs (kindP m.root m.n.leaf) (Xbd m.n 0) q1);have d2:=hO1.cell c2 (by simp);have f3:=hO1.cell c3 (by simp);clear hb1 hg1 hO1 hq1))
  go_loopg [5,34] m.n.es.length (fun gk s5 s34 wr=>∃ (i gb c:Nat) (q:List UInt8),gk=m.n.es.length-i∧i≤m.n.es.length∧s34=.int .i64 i∧s5=.slice (some ⟨gb,0,none⟩) 512 c∧Buf wr gb c q∧w.heap.size≤gb∧Only [] w wr∧PageIs (kindP m.root m.n.leaf) (Xbd m.n i) q)
  case atStart=>exact ⟨0,_,_,_,rfl,Yc _,rfl,rfl,B1.out,G1.out,O1.out,Q1.out⟩
  case round =>
   obtain ⟨i,gb,c,q,hgk,hi,rfl,rfl,hb,hg,hO,hq⟩:=hrel;have HGK:=Th hgk;have BB:=Th hb;have GG:=Th hg;have OO:=Th hO;have QQ:=Th hq;have e0:=hO.cell c0 (by simp);have e3:=hO.cell c3 (by simp);clear hgk hb hg hO hq
   by_cases hlt:i<m.n.es.length
   ·have hlt':(i:Int)<m.n.es.length:=by omega
    have hi0:(0:Int)≤i:=by omega
    have HLT:=Th hlt
    go_wp2_with (first
     | (go_at_call 55;refine (CE.out _ _ OO.out HLT.out).mono ?_;rintro e w3 ⟨v3,rfl,hr3,hn3,hO3⟩;have R3:=Th hr3;have O3:=Th hO3;clear hr3 hn3 hO3)
     | (go_at_call 53;refine (INS.out _ _ _ _ _ (BB.out.past O3.out).c R3.out.at HLT.out QQ.out).mono ?_;rintro e w4 ⟨g4,c4',q4,s4,rfl,hb4,hg4,hO4,hq4⟩;have B4:=Th hb4;have G4:=Th hg4;have O4:=Th ((OO.out.trans O3.out (by simp)).trans hO4 (by simp));have Q4:=Th hq4;have S4:=Th (OO.out.trans O3.out (by simp)).size;clear hb4 hg4 hO4 hq4))
    go_roundg (m.n.es.length-(i+1))
    case measure=>have:=HGK.out;omega
    case rel=>exact ⟨i+1,g4,c4',q4,rfl,by omega,by go_num,rfl,B4.out,by have:=G4.out;have:=S4.out;omega,O4.out,Q4.out⟩
   ·obtain rfl:i=m.n.es.length:=by omega
    have hge:¬(m.n.es.length:Int)<m.n.es.length:=by omega
    have QA:Hid (Xel m.root m.n q):=by have h9:=QQ.out;rw [ALL.out] at h9;exact h9
    go_wp2_with (go_at_call 56;refine (PUT.out _ _ _ _ OO.out BB.out (HNG.out _ GG.out)).mono ?_;rintro e w5 ⟨M',rfl,hP5,hS5⟩;have P5:=Th hP5;have S5:=Th (Step.ahead OO.out hS5);clear hP5 hS5)
    go_ret;exact ⟨M',q,rfl,QA.out,P5.out,S5.out⟩
end T
namespace T
open Go Go.RowKit D B C G P H Tryz
theorem ord_eq (a b:Pr):ordP a b=if cmpB a.1 b.1≠0 then cmpB a.1 b.1 else cmpN a.2 b.2:=rfl
theorem Xbh : (prog.info? 43).map (·.size)=some 2:=by kernel_rfl
theorem Xpc {w:World} {p q:KV} (h1:Xae w p.1 p.2.1) (h2:Xae w q.1 q.2.1) :
  Calls prog 33 #[.agg #[p.1,.int .u64 p.2.2],.agg #[q.1,.int .u64 q.2.2]] w fun e w'=>e=.returned (.int .i64 (ordP p.2 q.2))∧Only [] w w':=by
 have OE:=Th (ord_eq p.2 q.2);generalize ordP p.2 q.2=z at *;obtain ⟨a1,k1,e1,_⟩:=id h1;obtain ⟨a2,k2,e2,_⟩:=id h2
 have CB:Hid (∀ w1,Only [] w w1→Calls prog 58 #[p.1,q.1] w1 fun e w'=>e=.returned (.int .i64 (cmpB p.2.1 q.2.1))∧w1=w'):=fun w1 hO=>bcmp_any (Xam h1 hO) (Xam h2 hO)
 have CU:Hid (∀ w1,Calls prog 59 #[.int .u64 p.2.2,.int .u64 q.2.2] w1 fun e w'=>e=.returned (.int .i64 (cmpN p.2.2 q.2.2))∧w1=w'):=fun w1=>cmpu_any _ _ _
 have CO:Hid (∀ w1 g,w1.cell? ⟨g,0,none⟩=some (.int .i64 (cmpB p.2.1 q.2.1))→w1.cell? ⟨g,1,none⟩=some (.int .i64 (cmpN p.2.2 q.2.2))→Calls prog 57 #[.slice (some ⟨g,0,none⟩) 2 2] w1 fun e w'=>e=.returned (.int .i64 z)∧w1=w'):=fun w1 g c0 c1=>cor_any c0 c1 OE.out
 rw [e1,e2] at CB;rw [e1,e2];generalize cmpB p.2.1 q.2.1=z1 at *;generalize cmpN p.2.2 q.2.2=z2 at *;generalize p.2.1.length=n1 at *;generalize q.2.1.length=n2 at *;generalize p.2.2=x1 at *;generalize q.2.2=x2 at *;have IC:=Xbh;clear h1 h2 e1 e2 OE
 go_enter func33,ntmps33
 go_wp2_with fail
 obtain ⟨w0,hw0⟩:∃ w0,(w.alloc (.cells #[.slice a1 n1 k1,.int .u64 x1] 43)).alloc (.cells #[.slice a2 n2 k2,.int .u64 x2] 43)=w0:=⟨_,rfl⟩;have hO0:Only [] w w0:=hw0 ▸ ((Only.refl _ _).alloc _).alloc _
 have d0:w0.cell? ⟨w.heap.size,0,none⟩=some (.slice a1 n1 k1):=by rw [←hw0];exact ((Blk.new [.slice a1 n1 k1,.int .u64 x1] 43 w).alloc _).cell 0
 have d1:w0.cell? ⟨w.heap.size,1,none⟩=some (.int .u64 x1):=by rw [←hw0];exact ((Blk.new [.slice a1 n1 k1,.int .u64 x1] 43 w).alloc _).cell 1
 have d2:w0.cell? ⟨w.heap.size+1,0,none⟩=some (.slice a2 n2 k2):=by rw [←hw0];exact (Blk.new' (n:=w.heap.size+1) [.slice a2 n2 k2,.int .u64 x2].toArray 43 (w.alloc (.cells #[.slice a1 n1 k1,.int .u64 x1] 43)) (by simp)).cell 0
 have d3:w0.cell? ⟨w.heap.size+1,1,none⟩=some (.int .u64 x2):=by rw [←hw0];exact (Blk.new' (n:=w.heap.size+1) [.slice a2 n2 k2,.int .u64 x2].toArray 43 (w.alloc (.cells #[.slice a1 n1 k1,.int .u64 x1] 43)) (by simp)).cell 1
 rw [hw0];clear hw0;refine wp_region_held_drew (S:=fun w'=>Only [] w0 w') (by kernel_rfl) (Only.refl _ _).drew (fun hH=>?_)
 refine tkA 0 5 (.pointer (some ⟨w.heap.size,0,none⟩)) hH ?_
 refine Xaq 1 6 (.slice a1 n1 k1) rfl rfl (by kernel_rfl) (by kernel_rfl) (by kernel_rfl) (fun _ _ _ h=>h) (Or.inl ⟨by rfl,fun w1 hw1=>by have hw2:=hw1.cell d0 (by simp);go_simp⟩) hH ?_
 (try simp only [Act.put,qSa,qSz,qSs])
 refine tkA 2 7 (.pointer (some ⟨w.heap.size+1,0,none⟩)) hH ?_
 refine Xaq 3 8 (.slice a2 n2 k2) rfl rfl (by kernel_rfl) (by kernel_rfl) (by kernel_rfl) (fun _ _ _ h=>h) (Or.inl ⟨by rfl,fun w1 hw1=>by have hw2:=hw1.cell d2 (by simp);go_simp⟩) hH ?_
 (try simp only [Act.put,qSa,qSz,qSs])
 refine tkA 5 10 (.pointer (some ⟨w.heap.size,1,none⟩)) hH ?_
 refine Xaq 6 11 (.int .u64 x1) rfl rfl (by kernel_rfl) (by kernel_rfl) (by kernel_rfl) (fun _ _ _ h=>h) (Or.inl ⟨by rfl,fun w1 hw1=>by have hw2:=hw1.cell d1 (by simp);go_simp⟩) hH ?_
 (try simp only [Act.put,qSa,qSz,qSs])
 refine tkA 7 12 (.pointer (some ⟨w.heap.size+1,1,none⟩)) hH ?_
 refine Xaq 8 13 (.int .u64 x2) rfl rfl (by kernel_rfl) (by kernel_rfl) (by kernel_rfl) (fun _ _ _ h=>h) (Or.inl ⟨by rfl,fun w1 hw1=>by have hw2:=hw1.cell d3 (by simp);go_simp⟩) hH ?_
 (try simp only [Act.put,qSa,qSz,qSs])
 refine Xik 4 9 (.int .i64 z1) rfl rfl (by kernel_rfl) (by kernel_rfl) (by kernel_rfl) (fun _ _ _ h=>h) ⟨by rfl,fun w1 hw1=>by unfold Oper.quietAt;go_simp;exact ((CB.out _ (hO0.trans hw1 (by simp))).mono fun e w2 ⟨h1,h2⟩=>⟨h1,h2.symm⟩)⟩ hH ?_
 (try simp only [Act.put,qSa,qSz,qSs])
 refine Xik 9 14 (.int .i64 z2) rfl rfl (by kernel_rfl) (by kernel_rfl) (by kernel_rfl) (fun _ _ _ h=>h) ⟨by rfl,fun w1 hw1=>by unfold Oper.quietAt;go_simp;exact ((CU.out _).mono fun e w2 ⟨h1,h2⟩=>⟨h1,h2.symm⟩)⟩ hH ?_
 (try simp only [Act.put,qSa,qSz,qSs])
 have g0:=(Blk.new [.int .i64 z1,.int .i64 z2] 3 w0.drew).cell 0;have g1:=(Blk.new [.int .i64 z1,.int .i64 z2] 3 w0.drew).cell 1;have hO1:Only [] w0 (w0.drew.alloc (.cells [.int .i64 z1,.int .i64 z2].toArray 3)):=(Only.refl _ _).drew.alloc _
 refine oneA 10 fun K hK=>?_
 go_wp2_with fail
 refine hK.out _ _ hO1 ?_
 clear hK K
 (try simp only [Act.put,qSa,qSz,qSs])
 refine oneA 11 fun K hK=>?_
 go_wp2_with (go_at_call 57;refine (CO.out _ _ g0 g1).mono ?_;rintro e w2 ⟨rfl,rfl⟩)
 refine hK.out _ _ hO1 ?_
 clear hK K
 (try simp only [Act.put,qSa,qSz,qSs])
 refine oneA 12 fun K hK=>?_
 go_wp2_with fail
 refine hK.out _ _ hO1 ?_
 clear hK K
 (try simp only [Act.put,qSa,qSz,qSs])
 refine wpAnyH_done (by kernel_rfl) ?_ _
 go_wp2_with fail
 go_ret;exact ⟨rfl,hO0.trans hO1 (by simp)⟩
structure PrsAt (w:World) (v:Value) (L:List KV):Prop where
 row:∃ ao cap,v=.slice ao L.length cap∧L.length≤cap∧(0<L.length→∃ g o,ao=some ⟨g,o,none⟩∧∀ i p,L[i]?=some p→w.cell? ⟨g,o+i*2,none⟩=some p.1∧w.cell? ⟨g,o+i*2+1,none⟩=some (.int .u64 p.2.2))
 keys:∀ p∈L,Xae w p.1 p.2.1
theorem NodeAt.prs {w:World} {M:List Nat} {m:MNd} (h:NodeAt w M m):PrsAt w m.ev m.L:=by
 obtain ⟨ao,cap,h1,h2,h3⟩:=h.row;rw [←h.len] at h1 h2 h3;refine ⟨⟨ao,cap,h1,h2,fun h0=>?_⟩,fun p hp=>(h.keys p hp).bytes⟩;obtain ⟨g,hg,hc⟩:=h3 h0;exact ⟨g,0,hg,fun i p hp=>by rw [Yd];exact hc i p hp⟩
def WUp (l:List Pr):Prop:=l.Pairwise fun a b=>¬lt b a
theorem Up.weak {l:List Pr} (h:Up l):WUp l:=List.Pairwise.imp (fun h=>lt_asymm h) h
theorem Xjj {w:World} {v:Value} {L:List KV} {q:KV} (h:PrsAt w v L) (hq:Xae w q.1 q.2.1) (hU:WUp (L.map (·.2))) (hl:L.length≤1000000) :
  Calls prog 32 #[v,.agg #[q.1,.int .u64 q.2.2],.func (.func 33) #[] #[]] w fun e w'=>e=.returned (.tuple #[.int .i64 (low (L.map (·.2)) q.2:Nat),.bool (has (L.map (·.2)) q.2)])∧Only [] w w':=by
 obtain ⟨⟨ao,cap,rfl,hcap,hrow⟩,hkeys⟩:=h;obtain ⟨a2,k2,e2,_⟩:=id hq
 have ROW:Hid (∀ i,i<L.length→∃ g o p,ao=some ⟨g,o,none⟩∧L[i]?=some p∧(∃ a n k,p.1=.slice a n k)∧w.cell? ⟨g,o+i*2,none⟩=some p.1∧w.cell? ⟨g,o+i*2+1,none⟩=some (.int .u64 p.2.2) ∧
   ∀ w1,Only [] w w1→Calls prog 33 #[.agg #[p.1,.int .u64 p.2.2],.agg #[q.1,.int .u64 q.2.2]] w1 fun e w'=>e=.returned (.int .i64 (ordP p.2 q.2))∧Only [] w1 w'):=by
  intro i hi;obtain ⟨g,o,rfl,hc⟩:=hrow (by omega);have hp:=Zc hi;obtain ⟨c1,c2⟩:=hc i _ hp;have hb:=hkeys _ (Yx hi);obtain ⟨a1,k1,e1,_⟩:=id hb;exact ⟨g,o,_,rfl,hp,⟨_,_,_,e1⟩,c1,c2,fun w1 hO=>Xpc (Xam hb hO) (Xam hq hO)⟩
 have ANS:Hid (∀ i,i≤L.length→(∀ j p,j<i→L[j]?=some p→ordP p.2 q.2<0)→(∀ j p,i≤j→L[j]?=some p→0≤ordP p.2 q.2)→low (L.map (·.2)) q.2=i∧(∀ p,L[i]?=some p→has (L.map (·.2)) q.2=(ordP p.2 q.2 == 0))∧(i=L.length→has (L.map (·.2)) q.2=false)):=by
  intro i hi h1 h2
  have e:low (L.map (·.2)) q.2=i:=low_eq (by simpa using hi) (fun j hj=>by
   rw [List.getElem_map];exact h1 j _ hj (Zc _)) (fun h=>by
   rw [List.getElem_map];have:=h2 i _ (Zq _) (Zc (by simpa using h));unfold lt;omega)
  refine ⟨e,fun p hp=>?_,fun hn=>?_⟩
  ·unfold has
   rw [e,Zr,hp]
   by_cases hz:ordP p.2 q.2=0
   ·have e3:=Xgl.1 hz
    rw [hz];simp [e3]
   ·rw [beq_eq_false_iff_ne.2 hz]
    simp only [Xe,Zw,decide_eq_false_iff_not]
    exact fun h=>hz (Xgl.2 h)
  ·unfold has
   rw [e,Zr,Xb (by omega)];simp
 have SRT:Hid (∀ (i j:Nat) (p p':KV),i≤j→L[i]?=some p→L[j]?=some p'→ordP p'.2 q.2<0→ordP p.2 q.2<0):=by
  intro i j p p' hij hp hp' h
  rcases Yv i j with h1 | h1
  ·obtain ⟨i1,rfl⟩:=Zh.1 hp
   obtain ⟨i2,rfl⟩:=Zh.1 hp';have:=Yy.1 hU i j (by simpa using i1) (by simpa using i2) h1;rw [List.getElem_map,List.getElem_map] at this
   rcases Xiu L[i].2 L[j].2 with h3 | h3 | h3
   ·exact Xfe h3 h
   ·rw [h3];exact h
   ·exact absurd h3 this
  ·obtain rfl:i=j:=by omega
   rw [hp] at hp';cases hp';exact h
 rw [e2] at ROW ⊢;generalize low (L.map (·.2)) q.2=R at *;generalize has (L.map (·.2)) q.2=S at *;have HL:=Th hl;have IC:=Xbh;obtain ⟨x2,hx2⟩:∃ x2,q.2.2=x2:=⟨_,rfl⟩;obtain ⟨n2,hn2⟩:∃ n2,q.2.1.length=n2:=⟨_,rfl⟩;rw [hx2] at ROW ⊢;rw [hn2] at ROW ⊢;clear hrow hkeys hU hq e2 hx2 hn2;obtain ⟨n,hn⟩:∃ n,L.length=n:=⟨_,rfl⟩;rw [hn] at hcap hl HL ROW ANS ⊢;have HN:=Th hn;clear hn
 go_enter func32,ntmps32
 go_wp2_with fail
 obtain ⟨w0,hw0⟩:∃ w0,w.alloc (.cells #[.slice a2 n2 k2,.int .u64 x2] 43)=w0:=⟨_,rfl⟩;have hO0:Only [] w w0:=hw0 ▸ (Only.refl _ _).alloc _
 have d0:w0.cell? ⟨w.heap.size,0,none⟩=some (.slice a2 n2 k2):=by rw [←hw0];exact (Blk.new [.slice a2 n2 k2,.int .u64 x2] 43 w).cell 0
 have d1:w0.cell? ⟨w.heap.size,1,none⟩=some (.int .u64 x2):=by rw [←hw0];exact (Blk.new [.slice a2 n2 k2,.int .u64 x2] 43 w).cell 1
 rw [hw0]
 go_loopg [9,10] n (fun gk s9 s10 wr=>∃ i j:Nat,gk=j-i∧i≤j∧j≤n∧s9=.int .i64 i∧s10=.int .i64 j∧(∀ k p,k<i→L[k]?=some p→ordP p.2 q.2<0)∧(∀ k p,j≤k→L[k]?=some p→0≤ordP p.2 q.2)∧Only [] w0 wr)
 case atStart=>exact ⟨0,n,rfl,Yc _,Zq _,rfl,rfl,fun k p hk=>by omega,fun k p hk hp=>by have:=(Zh.1 hp).1;have:=HN.out;omega,Only.refl _ _⟩
 case round =>
  obtain ⟨i,j,hgk,hij,hjn,rfl,rfl,hlo,hhi,hO⟩:=hrel;have HGK:=Th hgk;have LO:=Th hlo;have HI:=Th hhi;have O1:=Th hO;clear hgk hlo hhi hO
  by_cases hlt:i<j
  ·have hlt':(i:Int)<j:=by omega
   obtain ⟨h,hh⟩:∃ h,(i+j) / 2=h:=⟨_,rfl⟩
   have hh1:i≤h:=by omega
   have hh2:h<j:=by omega
   obtain ⟨g,o,p,rfl,hp,⟨a1,n1,k1,e1⟩,c1,c2,hord⟩:=ROW.out h (by omega);have ORD:=Th hord;rw [e1] at ORD c1;have HP:=Th hp;clear hord hp e1
   go_wp2_with fail
   have hE:((i:Int)+j) / 2=(h:Int):=by omega
   rw [hE];clear hE
   have ORDL:Hid (∀ x:Later w0,Calls prog 33 #[.agg #[.slice a1 n1 k1,.int .u64 p.2.2],.agg #[.slice a2 n2 k2,.int .u64 x2]] x.v fun e w'=>e=.returned (.int .i64 (ordP p.2 q.2))∧∃ y:Later w0,w'=y.v):=fun x=>Calls.later (fun w1 hO=>ORD.out w1 (hO0.trans hO (by simp))) x
   have l0:∀ x:Later w0,x.v.cell? ⟨w.heap.size,0,none⟩=some (.slice a2 n2 k2):=fun x=>x.cell d0
   have l1:∀ x:Later w0,x.v.cell? ⟨w.heap.size,1,none⟩=some (.int .u64 x2):=fun x=>x.cell d1
   have l2:∀ x:Later w0,x.v.cell? ⟨g,o+h*2,none⟩=some (.slice a1 n1 k1):=fun x=>x.cell (hO0.cell c1 (by simp))
   have l3:∀ x:Later w0,x.v.cell? ⟨g,o+h*2+1,none⟩=some (.int .u64 p.2.2):=fun x=>x.cell (hO0.cell c2 (by simp))
   obtain ⟨x1,hx1⟩:∃ x1,p.2.2=x1:=⟨_,rfl⟩;obtain ⟨z,hz⟩:∃ z,ordP p.2 q.2=z:=⟨_,rfl⟩;rw [hx1,hz] at ORDL;rw [hx1] at l3;have HZ:=Th hz;have HH1:=Th hh1;have HH2:=Th hh2
   have hn0:(0:Int)≤h:=by omega
   have hn1:(h:Int)<n:=by omega
   clear ORD c1 c2 hx1 hz hh
   refine Xaa O1.out (by kernel_rfl) (by kernel_rfl) ?_
   repeat (go_big_quiet_step ((go_at_call 33;exact ORDL.out _)))
   refine wpQuiet_nil ?_
   rintro _ ⟨xq,rfl⟩;clear l0 l1 l2 l3
   by_cases h0:z<0
   ·go_wp2_with fail
    go_roundg (j-(h+1))
    case measure=>have:=HGK.out;omega
    case rel=>exact ⟨h+1,j,rfl,by omega,hjn,by go_num,rfl,fun k p' hk hp'=>SRT.out k h p' p (by omega) hp' HP.out (by rw [HZ.out];exact h0),HI.out,xq.h⟩
   ·go_wp2_with fail
    go_roundg (h-i)
    case measure=>have:=HGK.out;omega
    case rel=>exact ⟨i,h,rfl,by omega,by omega,rfl,rfl,LO.out,fun k p' hk hp'=>Int.not_lt.1 fun hlt=>by have h5:=SRT.out h k p p' (by omega) HP.out hp' hlt;rw [HZ.out] at h5;omega,xq.h⟩
  ·have hji:i=j:=by omega
   subst hji;obtain ⟨hR,hA1,hA2⟩:=ANS.out i hjn LO.out HI.out;have hR2:=hR.symm;subst hR2;clear hR
   by_cases hin:i<n
   ·obtain ⟨g,o,p,rfl,hp,⟨a1,n1,k1,e1⟩,c1,c2,hord⟩:=ROW.out i hin
    have hS:=hA1 p hp;rw [e1] at hord c1
    have ORDL:Hid (∀ x:Later w0,Calls prog 33 #[.agg #[.slice a1 n1 k1,.int .u64 p.2.2],.agg #[.slice a2 n2 k2,.int .u64 x2]] x.v fun e w'=>e=.returned (.int .i64 (ordP p.2 q.2))∧∃ y:Later w0,w'=y.v):=fun x=>Calls.later (fun w1 hO=>hord w1 (hO0.trans hO (by simp))) x
    have l0:∀ x:Later w0,x.v.cell? ⟨w.heap.size,0,none⟩=some (.slice a2 n2 k2):=fun x=>x.cell d0
    have l1:∀ x:Later w0,x.v.cell? ⟨w.heap.size,1,none⟩=some (.int .u64 x2):=fun x=>x.cell d1
    have l2:∀ x:Later w0,x.v.cell? ⟨g,o+i*2,none⟩=some (.slice a1 n1 k1):=fun x=>x.cell (hO0.cell c1 (by simp))
    have l3:∀ x:Later w0,x.v.cell? ⟨g,o+i*2+1,none⟩=some (.int .u64 p.2.2):=fun x=>x.cell (hO0.cell c2 (by simp))
    obtain ⟨x1,hx1⟩:∃ x1,p.2.2=x1:=⟨_,rfl⟩;obtain ⟨z,hz⟩:∃ z,ordP p.2 q.2=z:=⟨_,rfl⟩;rw [hx1,hz] at ORDL;rw [hx1] at l3;rw [hz] at hS;have HS:Hid (S=(z == 0)):=hS
    have hg:((i:Int)<n):=by omega
    have hgB:decide ((i:Int)<n)=true:=by simpa using hg
    have hn0:(0:Int)≤i:=by omega
    have hni:¬(i:Int)<i:=by omega
    clear hord c1 c2 hx1 hz hp hA1 hA2 hS hlt hjn e1
    go_wp2_with fail
    refine Xaa O1.out (by kernel_rfl) (by kernel_rfl) ?_
    repeat (go_big_quiet_step ((go_at_call 33;exact ORDL.out _)))
    refine wpQuiet_nil ?_
    rintro _ ⟨xq,rfl⟩
    go_wp2_with fail
    go_ret2;exact ⟨by rw [HS.out];rfl,hO0.trans xq.h (by simp)⟩
   ·have hni2:i=n:=by omega
    subst hni2;obtain rfl:=hA2 rfl
    have hni:¬(i:Int)<i:=by omega
    have hgB:decide ((i:Int)<i)=false:=by simp
    clear hA1 hA2 hlt hin hjn
    go_wp2_with fail
    refine Xaa O1.out (by kernel_rfl) (by kernel_rfl) ?_
    repeat (go_big_quiet_step (fail))
    refine wpQuiet_nil ?_
    rintro _ ⟨xq,rfl⟩
    go_wp2_with fail
    go_ret2;exact ⟨rfl,hO0.trans xq.h (by simp)⟩
theorem Xjo {w:World} {M:List Nat} {m:MNd} {q:KV} (h:NodeAt w M m) (hq:Xae w q.1 q.2.1) (hU:WUp m.n.es) (hl:m.n.es.length≤1000000) :
  Calls prog 43 #[.pointer (some ⟨m.nb,0,none⟩),.agg #[q.1,.int .u64 q.2.2]] w fun e w'=>e=.returned (.int .i64 (Xao m.n.es q.2:Nat))∧Only [] w w':=by
 have c3:=h.blk.cell 3;simp only [Zd,Zb] at c3;obtain ⟨a2,k2,e2,_⟩:=id hq;obtain ⟨ao,cap,e3,_⟩:=h.row;have hlow:=Xet m.n.es q.2
 have BS:Hid (∀ w1,Only [] w w1→Calls prog 32 #[m.ev,.agg #[q.1,.int .u64 q.2.2],.func (.func 33) #[] #[]] w1 fun e w'=>e=.returned (.tuple #[.int .i64 (low m.n.es q.2:Nat),.bool (has m.n.es q.2)])∧Only [] w1 w'):=fun w1 hO=>by
  have:=Xjj (h.past hO).prs (Xam hq hO) (by rw [h.es];exact hU) (by rw [h.len];exact hl);rw [h.es] at this;exact this
 have CH:Hid (Xao m.n.es q.2=low m.n.es q.2+if has m.n.es q.2 then 1 else 0):=rfl;rw [e2,e3] at BS;rw [e3] at c3;rw [e2];generalize Xao m.n.es q.2=R at *;generalize low m.n.es q.2=lo at *;obtain ⟨n2,hn2⟩:∃ n2,q.2.1.length=n2:=⟨_,rfl⟩;obtain ⟨x2,hx2⟩:∃ x2,q.2.2=x2:=⟨_,rfl⟩;rw [hn2,hx2] at BS;rw [hn2,hx2];have IC:=Xbh
 have hlo:lo≤1000000:=by omega
 clear h hq hU e2 e3 hn2 hx2 hlow;generalize m.n.es.length=n at *
 have key:∀ b,has m.n.es q.2=b→Calls prog 43 #[.pointer (some ⟨m.nb,0,none⟩),.agg #[.slice a2 n2 k2,.int .u64 x2]] w fun e w'=>e=.returned (.int .i64 (R:Nat))∧Only [] w w':=by
  intro b hb;rw [hb] at BS CH;clear hb
  go_enter func43,ntmps43
  go_wp2_with fail
  obtain ⟨w0,hw0⟩:∃ w0,w.alloc (.cells #[.slice a2 n2 k2,.int .u64 x2] 43)=w0:=⟨_,rfl⟩;have hO0:Only [] w w0:=hw0 ▸ (Only.refl _ _).alloc _
  have d0:w0.cell? ⟨w.heap.size,0,none⟩=some (.slice a2 n2 k2):=by rw [←hw0];exact (Blk.new [.slice a2 n2 k2,.int .u64 x2] 43 w).cell 0
  have d1:w0.cell? ⟨w.heap.size,1,none⟩=some (.int .u64 x2):=by rw [←hw0];exact (Blk.new [.slice a2 n2 k2,.int .u64 x2] 43 w).cell 1
  rw [hw0]
  have BSL:Hid (∀ x:Later w0,Calls prog 32 #[.slice ao n cap,.agg #[.slice a2 n2 k2,.int .u64 x2],.func (.func 33) #[] #[]] x.v fun e w'=>e=.returned (.tuple #[.int .i64 (lo:Nat),.bool b])∧∃ y:Later w0,w'=y.v):=fun x=>Calls.later (fun w1 hO=>BS.out w1 (hO0.trans hO (by simp))) x
  have l0:∀ x:Later w0,x.v.cell? ⟨w.heap.size,0,none⟩=some (.slice a2 n2 k2):=fun x=>x.cell d0
  have l1:∀ x:Later w0,x.v.cell? ⟨w.heap.size,1,none⟩=some (.int .u64 x2):=fun x=>x.cell d1
  have l2:∀ x:Later w0,x.v.cell? ⟨m.nb,3,none⟩=some (.slice ao n cap):=fun x=>x.cell (hO0.cell c3 (by simp))
  refine Xaa (Only.refl _ _) (by kernel_rfl) (by kernel_rfl) ?_
  repeat (go_big_quiet_step ((go_at_call 32;exact BSL.out _)))
  refine wpQuiet_nil ?_
  rintro _ ⟨xq,rfl⟩;cases b
  ·have hR:R=lo:=by rw [CH.out];simp
   subst hR
   go_wp2_with fail
   go_ret;exact ⟨rfl,hO0.trans xq.h (by simp)⟩
  ·have HR:Hid (((R:Nat):Int)=(lo:Int)+1):=by show _=_;rw [CH.out];simp
   clear CH
   go_wp2_with fail
   go_ret;exact ⟨by rw [HR.out];rfl,hO0.trans xq.h (by simp)⟩
 exact key _ rfl
end T
end Go.Proofs.YtiijokopcgnokaaGreat
