import Derived.Test.YtiijokopcgnokaaGreatWToJ
import Derived.Laws.EntriesVeiled
import Derived.RegionTactic
import Derived.ChangeAlike
set_option maxRecDepth 100000
set_option maxHeartbeats 4000000
set_option linter.unusedSimpArgs false
set_option linter.unusedVariables false
namespace Go.Proofs.YtiijokopcgnokaaGreat
namespace T
open Go Go.RowKit D B C G P H Tryz
def InB (lo hi:Option Pr) (l:List Tg):Prop:=∀ g∈l,(∀ a,lo=some a→tlt (sp a) g)∧(∀ b,hi=some b→tlt g (sp b))
theorem Xmh : ∀ {E:List Pr} {K:List (List Tg)},E.length=K.length→∀ e∈E,sp e∈Xdm E K
 | [],_,_,e,he=>by cases he
 | _ :: _,[],h,_,_=>by simp at h
 | a :: E,k :: K,h,e,he=>by
  simp only [Xdm]
  rcases Zg.1 he with rfl | he
  ·simp
  ·exact Yk _ (Yg _ (Xmh (by simpa using h) e he))
theorem Xmj : ∀ {E:List Pr} {K:List (List Tg)},E.length=K.length→∀ e∈E,sp e∈Xbg E K
 | [],_,_,e,he=>by cases he
 | _ :: _,[],h,_,_=>by simp at h
 | a :: E,k :: K,h,e,he=>by
  simp only [Xbg]
  rcases Zg.1 he with rfl | he
  ·simp
  ·exact Yg _ (Yk _ (Xmj (by simpa using h) e he))
theorem child_in {lo hi:Option Pr} {E:List Pr} {K:List (List Tg)} (hl:K.length=E.length+1) (hr:Ris (weave E K)) (hb:InB lo hi (weave E K)) {j:Nat} {l:List Tg} (hj:K[j]?=some l) :
  Ris l∧InB (if 0<j then E[j-1]? else lo) (if j<E.length then E[j]? else hi) l:=by
 obtain ⟨hjl,rfl⟩:=Zh.1 hj
 have hK:K=K.take j++K[j] :: K.drop (j+1):=by rw [Ws,Yf]
 have hE:E=E.take j++E.drop j:=(Yf j E).symm
 have e1:(E.take j).length=(K.take j).length:=by simp only [Zj];omega
 have e2:(E.drop j).length=(K.drop (j+1)).length:=by simp only [Zy];omega
 have hw:weave E K=Xdm (E.take j) (K.take j)++K[j]++Xbg (E.drop j) (K.drop (j+1)):=by
  conv=>lhs;rw [hE,hK]
  exact Xfk _ _ _ _ _ e1 e2
 rw [hw] at hr hb;unfold Ris at hr;rw [Zn,Zn] at hr;obtain ⟨⟨h1,h2,h3⟩,h4,h5⟩:=hr;refine ⟨h2,fun g hg=>⟨fun a ha=>?_,fun b hb2=>?_⟩⟩
 ·split at ha
  ·rename_i h0
   have hm:a∈E.take j:=by
    obtain ⟨h6,h7⟩:=Zh.1 ha
    have h8:(E.take j)[j-1]?=some a:=by rw [Yq,if_pos (by omega),ha]
    exact Zm h8
   exact h3 _ (Xmh e1 a hm) _ hg
  ·exact (hb g (by simp [hg])).1 a ha
 ·split at hb2
  ·have hm:b∈E.drop j:=by
    have h8:(E.drop j)[0]?=some b:=by rw [Xh];exact hb2
    exact Zm h8
   exact h5 g (by simp [hg]) _ (Xmj e2 b hm)
  ·exact (hb g (by simp [hg])).2 b hb2
def EntB (lo hi:Option Pr) (E:List Pr):Prop:=Up E∧∀ e∈E,(∀ a,lo=some a→ordP a e≤0)∧(∀ b,hi=some b→ordP e b<0)
theorem tlt_sp_en {a e:Pr} (h:tlt (sp a) (en e)):ordP a e≤0:=by
 rcases h with h | ⟨h,_,_⟩
 ·have:lt a e:=h
  unfold lt at this;omega
 ·have:a=e:=h
  rw [Xgl.2 this];decide
theorem Xpu {a e:Pr} (h:tlt (sp a) (sp e)):ordP a e<0:=by
 rcases h with h | ⟨_,_,h⟩
 ·exact h
 ·simp [sp] at h
theorem tlt_en_sp {e b:Pr} (h:tlt (en e) (sp b)):ordP e b<0:=by
 rcases h with h | ⟨_,h,_⟩
 ·exact h
 ·simp [en] at h
theorem top_in : ∀ {h:Nat} {t:Tr h} {lo hi:Option Pr},Wf h t→Ris (seq h t)→InB lo hi (seq h t)→EntB lo hi t.es
 | 0,t,lo,hi,_,hr,hb=>by
  obtain ⟨i,E,rfl⟩:=Tr.is_leaf t;rw [Xcn] at hr hb;rw [Tr.leaf_es];refine ⟨ris_en hr,fun e he=>?_⟩;have h1:=hb (en e) (Zi.2 ⟨e,he,rfl⟩);exact ⟨fun a ha=>tlt_sp_en (h1.1 a ha),fun b hb=>tlt_en_sp (h1.2 b hb)⟩
 | h+1,t,lo,hi,hw,hr,hb=>by
  obtain ⟨i,E,K,rfl⟩:=Tr.is_node t;rw [Xcb] at hr hb;rw [Tr.node_es];have hs:=Xla (E:=E) (K:=K.map (seq h)) (by rw [Zl];exact ((Xce i E K).1 hw).1)
  refine ⟨ris_sp (hr.sublist hs),fun e he=>?_⟩;have h1:=hb (sp e) (hs.subset (Zi.2 ⟨e,he,rfl⟩));exact ⟨fun a ha=>Int.le_of_lt (Xpu (h1.1 a ha)),fun b hb=>Xpu (h1.2 b hb)⟩
theorem EntB.prev {lo hi:Option Pr} {E:List Pr} (h:EntB lo hi E) {i:Nat} {a b:Pr} (ha:E[i]?=some a) (hb:E[i+1]?=some b):ordP a b<0:=by
 obtain ⟨h1,h2⟩:=Zh.1 ha;obtain ⟨h3,h4⟩:=Zh.1 hb;rw [←h2,←h4];exact Yy.1 h.1 i (i+1) h1 h3 (by omega)
inductive PtrB (w:World) (M:List Nat):Value→Option Pr→Prop
 | nil:PtrB w M (.pointer none) none
 | at_ {g i:Nat} {qa:Option Addr} {qk:Nat} {e:Pr} {cs:List Value}:Blk w g cs 43→g∉M→w.cell? ⟨g,i*2,none⟩=some (.slice qa e.1.length qk)→w.cell? ⟨g,i*2+1,none⟩=some (.int .u64 e.2)→KeyOk w M (.slice qa e.1.length qk,e)→PtrB w M (.pointer (some ⟨g,i*2,none⟩)) (some e)
def Light (w:World) (X:List Nat):Prop:=∀ x∈X,∀ cs t,Blk w x cs t→t=4∨t=3
theorem Light.no {w:World} {X:List Nat} (h:Light w X) {g:Nat} {cs:List Value} {t:TypeId} (hb:Blk w g cs t) (h1:t≠4) (h2:t≠3):g∉X:=fun hm=>by
 rcases h g hm cs t hb with h3 | h3
 ·exact h1 h3
 ·exact h2 h3
theorem KeyOk.light {w w':World} {M M' X:List Nat} {q:KV} (h:KeyOk w M q) (hO:Only (M++X) w w') (hX:Light w X) (hm:∀ x∈M',x∈M∨w.heap.size≤x):KeyOk w' M' q :=
 h.over hO (fun g hg=>by obtain ⟨_,cs,hb⟩:=h.blk g hg;exact hX.no hb (by decide) (by decide)) hm
theorem PtrB.light {w w':World} {M M' X:List Nat} {v:Value} {o:Option Pr} (h:PtrB w M v o) (hO:Only (M++X) w w') (hX:Light w X) (hm:∀ x∈M',x∈M∨w.heap.size≤x):PtrB w' M' v o:=by
 cases h with
 | nil=>exact .nil
 | at_ hb hg h0 h1 hk =>
  have hn:=hX.no hb (by decide) (by decide)
  have hnm:_∉M++X:=fun h=>by
   rcases Za.1 h with h | h
   ·exact hg h
   ·exact hn h
  refine .at_ (hO.blk hb hnm) (fun h=>?_) (hO.cell h0 hnm) (hO.cell h1 hnm) (hk.light hO hX hm)
  rcases hm _ h with h2 | h2
  ·exact hg h2
  ·have:=hb.lt;omega
theorem PtrB.past {w w':World} {M:List Nat} {v:Value} {o:Option Pr} (h:PtrB w M v o) (hO:Only [] w w'):PtrB w' M v o:=h.light (X:=[]) (hO.mono (by simp)) (fun x hx=>by cases hx) (fun x hx=>.inl hx)
theorem NodeAt.light {w w':World} {M M' X:List Nat} {m:MNd} (h:NodeAt w M m) (hO:Only (M++X) w w') (hX:Light w X) (hi:∀ x∈m.blocks,x∉X) (hm:∀ x∈M',x∈M∨w.heap.size≤x):NodeAt w' M' m:=by
 have hn:∀ x∈m.blocks,x∉M++X:=fun x hx h1=>by
  rcases Za.1 h1 with h1 | h1
  ·exact h.off x hx h1
  ·exact hi x hx h1
 refine ⟨hO.blk h.blk (hn _ (by simp [MNd.blocks])),h.es,Xab h.ents hO (fun k hk=>hn k (by simp [MNd.blocks,hk])),Xab h.kids hO (fun k hk=>hn k (by simp [MNd.blocks,hk])),fun p hp=>(h.keys p hp).light hO hX hm,fun x hx h1=>?_⟩
 rcases hm x h1 with h2 | h2
 ·exact h.off x hx h2
 ·have:=h.lt x hx;omega
theorem PtrB.form {w:World} {M:List Nat} {v:Value} {o:Option Pr} (h:PtrB w M v o):(v=.pointer none∧o=none)∨∃ g i qa qk e,v=.pointer (some ⟨g,i*2,none⟩)∧o=some e∧w.cell? ⟨g,i*2,none⟩=some (.slice qa e.1.length qk)∧w.cell? ⟨g,i*2+1,none⟩=some (.int .u64 e.2)∧Xae w (.slice qa e.1.length qk) e.1:=by
 cases h with
 | nil=>exact .inl ⟨rfl,rfl⟩
 | at_ hb hg h0 h1 hk=>exact .inr ⟨_,_,_,_,_,rfl,rfl,h0,h1,hk.bytes⟩
theorem PtrB.cells {w:World} {M:List Nat} {g i:Nat} {e:Pr} (h:PtrB w M (.pointer (some ⟨g,i*2,none⟩)) (some e)):∃ qa qk,w.cell? ⟨g,i*2,none⟩=some (.slice qa e.1.length qk)∧w.cell? ⟨g,i*2+1,none⟩=some (.int .u64 e.2)∧Xae w (.slice qa e.1.length qk) e.1:=by
 rcases h.form with ⟨h1,_⟩ | ⟨g',i',qa,qk,e',h1,h2,h3,h4,h5⟩
 ·cases h1
 ·simp only [Value.pointer.injEq,Zw,Addr.mk.injEq,and_true] at h1 h2
  obtain ⟨rfl,h6⟩:=h1
  obtain rfl:i=i':=by omega
  subst h2;exact ⟨qa,qk,h3,h4,h5⟩
theorem NodeAt.pairs {w:World} {M:List Nat} {m:MNd} (h:NodeAt w M m) {ao:Option Addr} {n c:Nat} (hev:m.ev=.slice ao n c) (h0:0<m.n.es.length):∃ g,ao=some ⟨g,0,none⟩∧g∈m.blocks∧∀ (i:Nat) (e:Pr),m.n.es[i]?=some e→PtrB w M (.pointer (some ⟨g,i*2,none⟩)) (some e):=by
 obtain ⟨ao2,cap,h1,h2,h3⟩:=h.row;rw [hev] at h1;simp only [Value.slice.injEq] at h1;obtain ⟨rfl,_,_⟩:=h1;obtain ⟨g,rfl,hc⟩:=h3 h0
 have hg:g∈m.blocks:=by simp [MNd.blocks,hev,Value.ownBlock]
 have hents:=h.ents;rw [hev] at hents;obtain ⟨cs,hb⟩:=Xag hents (k:=g) rfl;refine ⟨g,rfl,hg,fun i e he=>?_⟩;obtain ⟨v,hv⟩:=h.kv he;obtain ⟨c0,c1⟩:=hc i _ hv;have hk:=h.keys _ (Zm hv);obtain ⟨qa,qk,hq,_⟩:=id hk.bytes;dsimp only at hq c0 c1;subst hq;exact .at_ hb (h.off g hg) c0 c1 hk
theorem Xgy {w:World} {p q:KV} {z:Int} (h1:Xae w p.1 p.2.1) (h2:Xae w q.1 q.2.1) (hz:ordP p.2 q.2=z):∀ y:Later w,Calls prog 33 #[.agg #[p.1,.int .u64 p.2.2],.agg #[q.1,.int .u64 q.2.2]] y.v fun e w'=>e=.returned (.int .i64 z)∧∃ y':Later w,w'=y'.v:=fun y =>
 Calls.later (fun w1 hO=>by subst hz;exact Xpc (Xam h1 hO) (Xam h2 hO)) y
structure ChkB (w:World) (M:List Nat) (tb tbx mbx okx dpx vbx met:Nat) (d:Int) (m:Pairs):Prop where
 t:Blk w tbx [.pointer (some ⟨tb,0,none⟩)] 25
 mb:Blk w mbx [.map (some met)] 101
 ok:Blk w okx [.bool true] 4
 dp:Blk w dpx [.int .i64 d] 3
 v:Blk w vbx [.func (.func 44) #[] #[.pointer (some ⟨tbx,0,none⟩),.pointer (some ⟨mbx,0,none⟩),.pointer (some ⟨okx,0,none⟩),.pointer (some ⟨dpx,0,none⟩),.pointer (some ⟨vbx,0,none⟩)]] 102
 mp:MapAt w met .i64 m
 off:tbx∉M∧mbx∉M∧okx∉M∧dpx∉M∧vbx∉M∧met∉M
theorem ChkB.x {w:World} {M:List Nat} {tb tbx mbx okx dpx vbx met:Nat} {d:Int} {m:Pairs} (h:ChkB w M tb tbx mbx okx dpx vbx met d m):Light w [okx,dpx,met]:=fun x hx cs t hb=>by
 simp at hx
 rcases hx with rfl | rfl | rfl
 ·exact .inl (hb.inj h.ok).2
 ·exact .inr (hb.inj h.dp).2
 ·exact absurd rfl (h.mp.ne hb)
theorem ChkB.step {w w':World} {M M':List Nat} {tb tbx mbx okx dpx vbx met:Nat} {d:Int} {m:Pairs} (h:ChkB w M tb tbx mbx okx dpx vbx met d m) (hS:Step M M' w w'):ChkB w' M' tb tbx mbx okx dpx vbx met d m :=
 ⟨hS.1.blk h.t h.off.1,hS.1.blk h.mb h.off.2.1,hS.1.blk h.ok h.off.2.2.1,hS.1.blk h.dp h.off.2.2.2.1,hS.1.blk h.v h.off.2.2.2.2.1,h.mp.later hS.1 h.off.2.2.2.2.2,
  P.Step.keep hS h.t.lt h.off.1,P.Step.keep hS h.mb.lt h.off.2.1,P.Step.keep hS h.ok.lt h.off.2.2.1,P.Step.keep hS h.dp.lt h.off.2.2.2.1,P.Step.keep hS h.v.lt h.off.2.2.2.2.1,P.Step.keep hS h.mp.lt h.off.2.2.2.2.2⟩
theorem ChkB.past {w w':World} {M:List Nat} {tb tbx mbx okx dpx vbx met:Nat} {d:Int} {m:Pairs} (h:ChkB w M tb tbx mbx okx dpx vbx met d m) (hO:Only [] w w'):ChkB w' M tb tbx mbx okx dpx vbx met d m:=h.step ((Step.refl M w).then hO)
theorem ChkB.put {w w':World} {M:List Nat} {tb tbx mbx okx dpx vbx met:Nat} {d:Int} {m m':Pairs} (h:ChkB w M tb tbx mbx okx dpx vbx met d m) (hO:Only [met] w w') (hm:MapAt w' met .i64 m'):ChkB w' M tb tbx mbx okx dpx vbx met d m':=by
 have hn:∀ {g cs t},Blk w g cs t→g∉[met]:=fun {g cs t} hb h1=>by
  simp at h1;exact h.mp.ne hb h1.symm
 exact ⟨hO.blk h.t (hn h.t),hO.blk h.mb (hn h.mb),hO.blk h.ok (hn h.ok),hO.blk h.dp (hn h.dp),hO.blk h.v (hn h.v),hm,h.off⟩
theorem ChkB.setOk {w w':World} {M:List Nat} {tb tbx mbx okx dpx vbx met:Nat} {d:Int} {m:Pairs} (h:ChkB w M tb tbx mbx okx dpx vbx met d m) (hO:Only [okx] w w') (ho:Blk w' okx [.bool true] 4):ChkB w' M tb tbx mbx okx dpx vbx met d m:=by
 have hn:∀ {g cs t},Blk w g cs t→t≠4→g∉[okx]:=fun {g cs t} hb h1 h2=>by
  simp at h2;subst h2;exact h1 (hb.inj h.ok).2
 exact ⟨hO.blk h.t (hn h.t (by decide)),hO.blk h.mb (hn h.mb (by decide)),ho,hO.blk h.dp (hn h.dp (by decide)),hO.blk h.v (hn h.v (by decide)),h.mp.later hO (by simpa using h.mp.ne h.ok),h.off⟩
theorem ChkB.setD {w:World} {M:List Nat} {tb tbx mbx okx dpx vbx met:Nat} {d d':Int} {m:Pairs} (h:ChkB w M tb tbx mbx okx dpx vbx met d m):ChkB (w.setCell ⟨dpx,0,none⟩ (.int .i64 d')) M tb tbx mbx okx dpx vbx met d' m:=by
 have hO:Only [dpx] w (w.setCell ⟨dpx,0,none⟩ (.int .i64 d')):=Xbe _ _ _ _
 have hn:∀ {g cs t},Blk w g cs t→t≠3→g∉[dpx]:=fun {g cs t} hb h1 h2=>by
  simp at h2;subst h2;exact h1 (hb.inj h.dp).2
 exact ⟨hO.blk h.t (hn h.t (by decide)),hO.blk h.mb (hn h.mb (by decide)),hO.blk h.ok (hn h.ok (by decide)),h.dp.set 0 _,hO.blk h.v (hn h.v (by decide)),h.mp.later hO (by simpa using h.mp.ne h.dp),h.off⟩
structure ChkRes (w w':World) (p:Nat) (M:List Nat) (u:List Bool) (pg:Nat→List UInt8) (k' tb tbx mbx okx dpx vbx met:Nat) (d':Int) (m m':Pairs) (ns:List Nd) (M':List Nat):Prop where
 pool:PoolV w' p M' u pg k'
 boxes:ChkB w' M' tb tbx mbx okx dpx vbx met d' m'
 keys:∀ q∈m',q∈m∨∃ n∈ns,q.1=n.id
 only:Only (M++[okx,dpx,met]) w w'
 mine:∀ x∈M',x∈M∨w.heap.size≤x
theorem ChkRes.trans {w w1 w2:World} {p:Nat} {M M1 M2:List Nat} {u:List Bool} {pg:Nat→List UInt8} {k1 k2 tb tbx mbx okx dpx vbx met:Nat} {d1 d2:Int} {m m1 m2:Pairs} {ns ns2:List Nd} (h:ChkRes w w1 p M u pg k1 tb tbx mbx okx dpx vbx met d1 m m1 ns M1) (g:ChkRes w1 w2 p M1 u pg k2 tb tbx mbx okx dpx vbx met d2 m1 m2 ns2 M2) :
  ChkRes w w2 p M u pg k2 tb tbx mbx okx dpx vbx met d2 m m2 (ns++ns2) M2 where
 pool:=g.pool
 boxes:=g.boxes
 keys:=fun q hq=>by
  rcases g.keys q hq with h1 | ⟨n,hn,e⟩
  ·rcases h.keys q h1 with h2 | ⟨n,hn,e⟩
   ·exact .inl h2
   ·exact .inr ⟨n,Yb _ hn,e⟩
  ·exact .inr ⟨n,Yk _ hn,e⟩
 only:=h.only.trans g.only (fun x hx=>by
  rcases Za.1 hx with h1 | h1
  ·rcases h.mine x h1 with h2 | h2
   ·exact .inl (Yb _ h2)
   ·exact .inr h2
  ·exact .inl (Yk _ h1))
 mine:=fun x hx=>by
  rcases g.mine x hx with h1 | h1
  ·exact h.mine x h1
  ·exact .inr (Zp h.only.size h1)
theorem ChkRes.to {w w':World} {p:Nat} {M M':List Nat} {u:List Bool} {pg:Nat→List UInt8} {k1 k2 tb tbx mbx okx dpx vbx met:Nat} {d d':Int} {m m':Pairs} {ns ns':List Nd} (h:ChkRes w w' p M u pg k1 tb tbx mbx okx dpx vbx met d m m' ns M') (hk:k1≤k2) (hd:d=d') (hn:∀ n∈ns,n∈ns'):ChkRes w w' p M u pg k2 tb tbx mbx okx dpx vbx met d' m m' ns' M':=by
 subst hd;exact ⟨h.pool.more hk,h.boxes,fun q hq=>(h.keys q hq).imp id (fun ⟨n,h1,h2⟩=>⟨n,hn n h1,h2⟩),h.only,h.mine⟩
theorem Xax.light {w w':World} {M X:List Nat} {tb p root:Nat} (h:Xax w tb p root) (hM:tb∉M) (hO:Only (M++X) w w') (hX:Light w X):Xax w' tb p root :=
 hO.blk h (fun hm=>by
  rcases Za.1 hm with h1 | h1
  ·exact hM h1
  ·exact hX.no h (by decide) (by decide) h1)
end T
namespace T
open Go Go.RowKit D B C G P H Tryz
def ChkP (p tb root tbx mbx okx dpx vbx met:Nat) (u:List Bool) (pg:Nat→List UInt8) {h:Nat} (t:Tr h):Prop :=
 ∀ {w:World} {M:List Nat} {k deep:Nat} {d:Int} {m:Pairs} {lo hi:Option Pr} {lv hv:Value},PoolV w p M u pg k→k+2*(nodes h t).length≤1000000→Xax w tb p root→tb∉M→Xgu u pg root (nodes h t)→Wf h t→Ris (seq h t)→InB lo hi (seq h t) →
  ChkB w M tb tbx mbx okx dpx vbx met d m→PtrB w M lv lo→PtrB w M hv hi→(∀ n∈nodes h t,∀ q∈m,q.1≠n.id)→((nodes h t).map (·.id)).Nodup→(d = -1∨d=((deep+h:Nat):Int))→deep+h≤1000000 →
  Calls prog 44 #[.int .i64 t.id,.int .i64 deep,lv,hv,.pointer (some ⟨tbx,0,none⟩),.pointer (some ⟨mbx,0,none⟩),.pointer (some ⟨okx,0,none⟩),.pointer (some ⟨dpx,0,none⟩),.pointer (some ⟨vbx,0,none⟩)] w fun e w'=>∃ M' m',e=.returned (.int .i64 0)∧ChkRes w w' p M u pg (k+2*(nodes h t).length) tb tbx mbx okx dpx vbx met ((deep+h:Nat):Int) m m' (nodes h t) M'
theorem chk_step {p tb root tbx mbx okx dpx vbx met:Nat} {u:List Bool} {pg:Nat→List UInt8} {h:Nat} (t:Tr h) (hrec:∀ {h':Nat} (t':Tr h'),h'<h→ChkP p tb root tbx mbx okx dpx vbx met u pg t'):ChkP p tb root tbx mbx okx dpx vbx met u pg t:=by
 intro w M k deep d m lo hi lv hv hP hk hT htb hpg hw hr hib hB hlv hhv hfr hnd hd hdp
 have htop:t.top∈nodes h t:=by simp [nodes]
 obtain ⟨⟨id,hid,hu,hn⟩,hf,hkk,hki⟩:=hpg _ htop;have hN0:0<(nodes h t).length:=List.length_pos_of_mem htop;have RD:=Th (Xfh hP (by omega) hid hu hn hkk hki hf)
 have hie:t.id=(id:Nat):=by rw [←Tr.top_id];exact hid
 have HFIT:=Th hf;have hent:=top_in hw hr hib;rw [←Tr.top_es] at hent;have ENT:=Th hent;have hlook:look m (id:Int)=none:=Xhk (fun q hq=>by rw [←hid];exact hfr _ htop q hq)
 have HLOOK:=Th hlook;have x0:=hB.t.cell 0;have t0:=hT.cell 0;simp only [Zb,Zd] at x0 t0;have HP:=Th hP;have HT:=Th hT;have HTB:=Th htb;have HB:=Th hB;have HLV:=Th hlv;have HHV:=Th hhv;have HALL:=Th (And.intro hk (And.intro hpg (And.intro hw (And.intro hr (And.intro hib (And.intro hfr (And.intro hnd (And.intro hd hdp))))))));have HREC:Hid (∀ {h':Nat} (t':Tr h'),h'<h→ChkP p tb root tbx mbx okx dpx vbx met u pg t'):=hrec;have IC:=Xbh;obtain ⟨rt,hrt⟩:∃ rt,decide (id=root)=rt:=⟨_,rfl⟩;rw [hrt] at RD
 have hrt':decide ((id:Int)=(root:Int))=rt:=by rw [←hrt];exact decide_eq_decide.2 (by omega)
 rw [hie];clear hP hk hT htb hpg hw hr hib hB hlv hhv hfr hnd hd hdp htop hid hu hn hf hkk hki hent hrec hlook
 go_enter func44,ntmps44
 go_upto_region 2 with (go_at_call 38;refine RD.out.mono ?_;rintro e w1 ⟨n,M1,rfl,hR⟩;have R1:=Th hR;clear hR)
 have B1:=Th (HB.out.step R1.out.step);have m0:=B1.out.mb.cell 0;have x1:=B1.out.t.cell 0;simp only [Zb,Zd] at m0 x1;clear x0 t0
 go_upto_region 3 with (refine wpList_look rfl _ _ _ _ rfl underlying101 underlying3 (z:=.agg #[]) (by first | rfl | simp) met m rfl B1.out.mp id rfl ?_;rw [HLOOK.out])
 obtain ⟨w2,hw2⟩:∃ w2,w1.alloc (.cells #[] 104)=w2:=⟨_,rfl⟩
 have O2:Hid (Only [] w1 w2):=by show Only _ _ _;rw [←hw2];exact (Only.refl _ _).alloc _
 rw [hw2];clear hw2;have B2:=Th (B1.out.past O2.out);have m2:=O2.out.cell m0 (by simp);clear m0 x1
 go_upto_region 4 with (refine Xio rfl _ _ _ 101 rfl underlying101 underlying3 met m rfl B2.out.mp id rfl (.agg #[]) rfl ?_;intro w3 hm3 hO3 hs3)
 rw [put_new HLOOK.out] at hm3;have B3:=Th (B2.out.put hO3 hm3)
 have NX:Hid (∀ x∈n.blocks,x∉[okx,dpx,met]):=fun x hx hm=>by
  have h1:=R1.out.new x hx;have h2:=HB.out.ok.lt;have h3:=HB.out.dp.lt;have h4:=HB.out.mp.lt;simp at hm;omega
 have O13:Hid (Only [met] w1 w3):=(O2.out.mono (by simp)).trans hO3 (fun x hx=>.inl hx);have O13X:Hid (Only (M1++[okx,dpx,met]) w1 w3):=O13.out.mono (by simp);have LX1:=Th B1.out.x;have A3:Hid (NodeAt w3 M1 n):=R1.out.at_.light O13X.out LX1.out NX.out (fun x hx=>.inl hx);have P3:Hid (PoolV w3 p M1 u pg (k+2)):=R1.out.pool.later O13.out (fun x hx cs hb=>by simp at hx;subst hx;exact B1.out.mp.ne hb rfl) (fun x hx h1=>by simp at h1;subst h1;exact B1.out.off.2.2.2.2.2 hx)
 have T1:Hid (Xax w1 tb p root∧tb∉M1):=⟨R1.out.step.1.blk HT.out HTB.out,P.Step.keep R1.out.step HT.out.lt HTB.out⟩;have T3:Hid (Xax w3 tb p root):=T1.out.1.light T1.out.2 O13X.out LX1.out
 have PL3:Hid (PtrB w3 M1 lv lo∧PtrB w3 M1 hv hi):=by
  have OW:Only (M++[okx,dpx,met]) w w3:=(R1.out.step.1.mono (fun x hx=>.inl (Yb _ hx))).trans O13X.out (fun x hx=>by
   rcases Za.1 hx with h | h
   ·rcases R1.out.step.2 x h with h | h
    ·exact .inl (Yb _ h)
    ·exact .inr h
   ·exact .inl (Yk _ h))
  exact ⟨HLV.out.light OW HB.out.x R1.out.step.2,HHV.out.light OW HB.out.x R1.out.step.2⟩
 have b1:=A3.out.blk.cell 1;have x3:=B3.out.t.cell 0;have t3:=T3.out.cell 1;simp only [Zb,Zd] at b1 x3 t3;rw [R1.out.root] at b1;clear m2 hm3 hO3 hs3;have B1C:=Th b1;have X3C:=Th x3;have T3C:=Th t3;have HRT:=Th hrt';clear b1 x3 t3 hrt hrt'
 go_frame
 go_cut [60] from 43 to 60 (fun s60 wx=>∃ w4,w4=wx∧s60=.bool false∧Only [] w3 w4)
 case first =>
  have l0:∀ y:Later w3,y.v.cell? ⟨n.nb,1,none⟩=some (.bool rt):=fun y=>y.cell B1C.out
  have l1:∀ y:Later w3,y.v.cell? ⟨tbx,0,none⟩=some (.pointer (some ⟨tb,0,none⟩)):=fun y=>y.cell X3C.out
  have l2:∀ y:Later w3,y.v.cell? ⟨tb,1,none⟩=some (.int .i64 root):=fun y=>y.cell T3C.out
  have hrt':=HRT.out
  cases rt <;> (
   refine Xaa (Only.refl _ _) (by kernel_rfl) (by kernel_rfl) ?_
   repeat (go_big_quiet_step (fail))
   refine wpQuiet_nil ?_
   rintro _ ⟨xq,rfl⟩
   go_wp2_with fail
   go_meet
   case rel=>exact ⟨_,rfl,by first | rfl | (simpa using hrt'),xq.h⟩)
 case rest =>
 obtain ⟨w4,rfl,rfl,hO4⟩:=hcut;have O4:=Th hO4;clear hO4;have B4:=Th (B3.out.past O4.out);have A4:=Th (A3.out.past O4.out);have P4:=Th (P3.out.past O4.out);have T4:Hid (Xax w4 tb p root):=O4.out.blk T3.out (by simp);have PL4:Hid (PtrB w4 M1 lv lo∧PtrB w4 M1 hv hi):=⟨PL3.out.1.past O4.out,PL3.out.2.past O4.out⟩;have b3:=A4.out.blk.cell 3;simp only [Zd,Zb] at b3;obtain ⟨ea,ec,hev,hec,herow⟩:=A4.out.row;obtain ⟨el,hel⟩:∃ el,n.n.es.length=el:=⟨_,rfl⟩;rw [hel] at hev hec herow;rw [hev] at b3;have EL:=Th hel;have EV:=Th hev;have HROW:=Th herow
 have helb:el≤50:=by rw [←hel,R1.out.n];exact Xca HFIT.out
 have ENTN:Hid (EntB lo hi n.n.es):=by show EntB _ _ _;rw [R1.out.n];exact ENT.out
 clear hev herow hel
 go_wp2_with fail
 clear hec
 go_loopg [18,19,67] el (fun gk s18 s19 s67 wr=>∃ i:Nat,gk=el-i∧i≤el∧s67=.int .i64 i∧Only [okx] w4 wr∧Blk wr okx [.bool true] 4)
 case atStart=>exact ⟨0,rfl,Yc _,rfl,Only.refl _ _,B4.out.ok⟩
 case round =>
  obtain ⟨i,hgk,hib,rfl,hO5,hok5⟩:=hrel;have HGK:=Th hgk;have O5:=Th hO5;have OK5:=Th hok5;clear hgk hO5 hok5;have O5X:Hid (Only (M1++[okx,dpx,met]) w4 wr):=O5.out.mono (fun x hx=>.inl (by simp at hx;simp [hx]))
  have LX4:=Th B4.out.x;have B5:=Th (B4.out.setOk O5.out OK5.out);have A5:Hid (NodeAt wr M1 n):=A4.out.light O5X.out LX4.out NX.out (fun x hx=>.inl hx);have PL5:Hid (PtrB wr M1 lv lo∧PtrB wr M1 hv hi):=⟨PL4.out.1.light O5X.out LX4.out (fun x hx=>.inl hx),PL4.out.2.light O5X.out LX4.out (fun x hx=>.inl hx)⟩;have c3:=A5.out.blk.cell 3;simp only [Zd,Zb] at c3;rw [EV.out] at c3
  by_cases hlt:i<el
  ·have hlt':(i:Int)<el:=by omega
   obtain ⟨eg,rfl,heg,hpp⟩:=A5.out.pairs EV.out (by rw [EL.out];omega);have EGB:=Th heg;have HPP:=Th hpp;obtain ⟨e,he⟩:∃ e,n.n.es[i]?=some e:=⟨_,Zc (by rw [EL.out];exact hlt)⟩
   obtain ⟨ca,ck,hc0,hc1,hcb⟩:=(hpp i e he).cells;have HE:=Th he;have HCB:=Th hcb;have HIB:=Th (ENTN.out.2 e (Zm he));have okc:=OK5.out.cell 0;simp only [Zb] at okc;have OKC:=Th okc;obtain ⟨en,hen⟩:∃ en,e.1.length=en:=⟨_,rfl⟩;obtain ⟨ev2,hev2⟩:∃ ev2,e.2=ev2:=⟨_,rfl⟩
   have PREV:Hid ((((i:Int) == 0)=true∧decide (i=0)=true)∨∃ j pa pn pk px z,((i:Int) == 0)=false∧decide (i=0)=false∧IntKind.i64.wrap ((i:Int)-1)=((j:Nat):Int)∧(j:Int)<el∧(∀ y:Later wr,y.v.cell? ⟨eg,j*2,none⟩=some (.slice pa pn pk))∧(∀ y:Later wr,y.v.cell? ⟨eg,j*2+1,none⟩=some (.int .u64 px))∧decide (z<(0:Int))=true ∧
     ∀ y:Later wr,Calls prog 33 #[.agg #[.slice pa pn pk,.int .u64 px],.agg #[.slice ca en ck,.int .u64 ev2]] y.v fun e w'=>e=.returned (.int .i64 z)∧∃ y':Later wr,w'=y'.v):=by
    rcases Wo i with h0 | h0
    ·exact .inl ⟨by simp [h0],decide_eq_true h0⟩
    ·obtain ⟨j,rfl⟩:∃ j,i=j+1:=⟨i-1,by omega⟩
     obtain ⟨a,ha⟩:∃ a,n.n.es[j]?=some a:=⟨_,Zc (by rw [EL.out];omega)⟩;obtain ⟨pa,pk,g0,g1,gb⟩:=(HPP.out j a ha).cells;have h1:=Xgy (p:=(.slice pa a.1.length pk,a)) (q:=(.slice ca e.1.length ck,e)) gb HCB.out rfl;simp only at h1;rw [hen,hev2] at h1;exact .inr ⟨j,pa,_,pk,_,_,by simp;omega,decide_eq_false (by omega),by rw [Yi];omega,by omega,fun y=>y.cell g0,fun y=>y.cell g1,decide_eq_true (ENTN.out.prev ha HE.out),h1⟩
   have LOB:Hid ((lv=.pointer none)∨∃ g j pa pn pk px z,lv=.pointer (some ⟨g,j*2,none⟩)∧(∀ y:Later wr,y.v.cell? ⟨g,j*2,none⟩=some (.slice pa pn pk))∧(∀ y:Later wr,y.v.cell? ⟨g,j*2+1,none⟩=some (.int .u64 px))∧decide (z≤(0:Int))=true ∧
     ∀ y:Later wr,Calls prog 33 #[.agg #[.slice pa pn pk,.int .u64 px],.agg #[.slice ca en ck,.int .u64 ev2]] y.v fun e w'=>e=.returned (.int .i64 z)∧∃ y':Later wr,w'=y'.v):=by
    rcases PL5.out.1.form with ⟨h1,_⟩ | ⟨g,j,pa,pk,a,h1,h2,g0,g1,gb⟩
    ·exact .inl h1
    ·have h3:=Xgy (p:=(.slice pa a.1.length pk,a)) (q:=(.slice ca e.1.length ck,e)) gb HCB.out rfl
     simp only at h3;rw [hen,hev2] at h3;exact .inr ⟨g,j,pa,_,pk,_,_,h1,fun y=>y.cell g0,fun y=>y.cell g1,decide_eq_true (HIB.out.1 a h2),h3⟩
   have HIBB:Hid ((hv=.pointer none)∨∃ g j pa pn pk px z,hv=.pointer (some ⟨g,j*2,none⟩)∧(∀ y:Later wr,y.v.cell? ⟨g,j*2,none⟩=some (.slice pa pn pk))∧(∀ y:Later wr,y.v.cell? ⟨g,j*2+1,none⟩=some (.int .u64 px))∧decide (z<(0:Int))=true ∧
     ∀ y:Later wr,Calls prog 33 #[.agg #[.slice ca en ck,.int .u64 ev2],.agg #[.slice pa pn pk,.int .u64 px]] y.v fun e w'=>e=.returned (.int .i64 z)∧∃ y':Later wr,w'=y'.v):=by
    rcases PL5.out.2.form with ⟨h1,_⟩ | ⟨g,j,pa,pk,a,h1,h2,g0,g1,gb⟩
    ·exact .inl h1
    ·have h3:=Xgy (p:=(.slice ca e.1.length ck,e)) (q:=(.slice pa a.1.length pk,a)) HCB.out gb rfl
     simp only at h3;rw [hen,hev2] at h3;exact .inr ⟨g,j,pa,_,pk,_,_,h1,fun y=>y.cell g0,fun y=>y.cell g1,decide_eq_true (HIB.out.2 a h2),h3⟩
   rw [hen] at hc0;rw [hev2] at hc1;clear hen hev2 heg hpp he hcb
   go_upto_region 11 with fail
   have l0:∀ y:Later wr,y.v.cell? ⟨okx,0,none⟩=some (.bool true):=fun y=>y.cell okc
   have l1:∀ y:Later wr,y.v.cell? ⟨n.nb,3,none⟩=some (.slice (some ⟨eg,0,none⟩) el ec):=fun y=>y.cell c3
   have l2:∀ y:Later wr,y.v.cell? ⟨eg,i*2,none⟩=some (.slice ca en ck):=fun y=>y.cell hc0
   have l3:∀ y:Later wr,y.v.cell? ⟨eg,i*2+1,none⟩=some (.int .u64 ev2):=fun y=>y.cell hc1
   clear hc0 hc1 c3 okc
   have FIN:Hid (∀ x:Later wr,Only [okx] w4 (x.v.setCell ⟨okx,0,none⟩ (.bool true))∧Blk (x.v.setCell ⟨okx,0,none⟩ (.bool true)) okx [.bool true] 4):=fun x =>
    ⟨(O5.out.trans x.h (by simp)).setCell (.inl (by simp)) _,(x.h.blk OK5.out (by simp)).set 0 _⟩
   have lz:∀ y:Later wr,y.v.frozen? ⟨okx,0,none⟩=false:=fun y=>(y.h.blk OK5.out (by simp)).frozen 0
   refine Xgo 48 (Only.refl _ _) (by kernel_rfl) (by kernel_rfl) ?_
   simp only [Xv,Wc,Wh,Xp]
   rcases PREV.out with ⟨hd1,hd2⟩ | ⟨j1,pa1,pn1,pk1,px1,z1,hd1,hd2,hw1,hj1,f1,f2,hz1,C1⟩
   ·rcases LOB.out with rfl | ⟨g2,j2,pa2,pn2,pk2,px2,z2,rfl,f3,f4,hz2,C2⟩
    ·rcases HIBB.out with rfl | ⟨g3,j3,pa3,pn3,pk3,px3,z3,rfl,f5,f6,hz3,C3⟩
     ·repeat (go_big_quiet_step (fail))
      refine wpQuiet_nil ?_
      rintro _ ⟨xq,rfl⟩;have z0:=l0 xq;have zf:=lz xq
      go_wp2_with fail
      go_roundg (el-(i+1))
      case measure=>have:=HGK.out;omega
      case rel=>exact ⟨i+1,rfl,by omega,by go_num,(FIN.out xq).1,(FIN.out xq).2⟩
     ·repeat (go_big_quiet_step (fail))
      go_big_quiet_step ((go_at_call 33;exact C3 _))
      repeat (go_big_quiet_step (fail))
      refine wpQuiet_nil ?_
      rintro _ ⟨xq,rfl⟩;have z0:=l0 xq;have zf:=lz xq
      go_wp2_with fail
      go_roundg (el-(i+1))
      case measure=>have:=HGK.out;omega
      case rel=>exact ⟨i+1,rfl,by omega,by go_num,(FIN.out xq).1,(FIN.out xq).2⟩
    ·rcases HIBB.out with rfl | ⟨g3,j3,pa3,pn3,pk3,px3,z3,rfl,f5,f6,hz3,C3⟩
     ·repeat (go_big_quiet_step (fail))
      go_big_quiet_step ((go_at_call 33;exact C2 _))
      repeat (go_big_quiet_step (fail))
      refine wpQuiet_nil ?_
      rintro _ ⟨xq,rfl⟩;have z0:=l0 xq;have zf:=lz xq
      go_wp2_with fail
      go_roundg (el-(i+1))
      case measure=>have:=HGK.out;omega
      case rel=>exact ⟨i+1,rfl,by omega,by go_num,(FIN.out xq).1,(FIN.out xq).2⟩
     ·repeat (go_big_quiet_step (fail))
      go_big_quiet_step ((go_at_call 33;exact C2 _))
      repeat (go_big_quiet_step (fail))
      go_big_quiet_step ((go_at_call 33;exact C3 _))
      repeat (go_big_quiet_step (fail))
      refine wpQuiet_nil ?_
      rintro _ ⟨xq,rfl⟩;have z0:=l0 xq;have zf:=lz xq
      go_wp2_with fail
      go_roundg (el-(i+1))
      case measure=>have:=HGK.out;omega
      case rel=>exact ⟨i+1,rfl,by omega,by go_num,(FIN.out xq).1,(FIN.out xq).2⟩
   ·rcases LOB.out with rfl | ⟨g2,j2,pa2,pn2,pk2,px2,z2,rfl,f3,f4,hz2,C2⟩
    ·rcases HIBB.out with rfl | ⟨g3,j3,pa3,pn3,pk3,px3,z3,rfl,f5,f6,hz3,C3⟩
     ·repeat (go_big_quiet_step (fail))
      go_big_quiet_step ((go_at_call 33;exact C1 _))
      repeat (go_big_quiet_step (fail))
      refine wpQuiet_nil ?_
      rintro _ ⟨xq,rfl⟩;have z0:=l0 xq;have zf:=lz xq
      go_wp2_with fail
      go_roundg (el-(i+1))
      case measure=>have:=HGK.out;omega
      case rel=>exact ⟨i+1,rfl,by omega,by go_num,(FIN.out xq).1,(FIN.out xq).2⟩
     ·repeat (go_big_quiet_step (fail))
      go_big_quiet_step ((go_at_call 33;exact C1 _))
      repeat (go_big_quiet_step (fail))
      go_big_quiet_step ((go_at_call 33;exact C3 _))
      repeat (go_big_quiet_step (fail))
      refine wpQuiet_nil ?_
      rintro _ ⟨xq,rfl⟩;have z0:=l0 xq;have zf:=lz xq
      go_wp2_with fail
      go_roundg (el-(i+1))
      case measure=>have:=HGK.out;omega
      case rel=>exact ⟨i+1,rfl,by omega,by go_num,(FIN.out xq).1,(FIN.out xq).2⟩
    ·rcases HIBB.out with rfl | ⟨g3,j3,pa3,pn3,pk3,px3,z3,rfl,f5,f6,hz3,C3⟩
     ·repeat (go_big_quiet_step (fail))
      go_big_quiet_step ((go_at_call 33;exact C1 _))
      repeat (go_big_quiet_step (fail))
      go_big_quiet_step ((go_at_call 33;exact C2 _))
      repeat (go_big_quiet_step (fail))
      refine wpQuiet_nil ?_
      rintro _ ⟨xq,rfl⟩;have z0:=l0 xq;have zf:=lz xq
      go_wp2_with fail
      go_roundg (el-(i+1))
      case measure=>have:=HGK.out;omega
      case rel=>exact ⟨i+1,rfl,by omega,by go_num,(FIN.out xq).1,(FIN.out xq).2⟩
     ·repeat (go_big_quiet_step (fail))
      go_big_quiet_step ((go_at_call 33;exact C1 _))
      repeat (go_big_quiet_step (fail))
      go_big_quiet_step ((go_at_call 33;exact C2 _))
      repeat (go_big_quiet_step (fail))
      go_big_quiet_step ((go_at_call 33;exact C3 _))
      repeat (go_big_quiet_step (fail))
      refine wpQuiet_nil ?_
      rintro _ ⟨xq,rfl⟩;have z0:=l0 xq;have zf:=lz xq
      go_wp2_with fail
      go_roundg (el-(i+1))
      case measure=>have:=HGK.out;omega
      case rel=>exact ⟨i+1,rfl,by omega,by go_num,(FIN.out xq).1,(FIN.out xq).2⟩
  ·have hie:i=el:=by omega
   subst hie
   have hnlt:¬(i:Int)<i:=by omega
   have OWR:Hid (Only (M++[okx,dpx,met]) w wr):=by
    show Only _ _ _;have h1:Only (M1++[okx,dpx,met]) w1 wr:=(O13X.out.trans O4.out (by simp)).trans O5X.out (fun x hx=>.inl hx)
    exact (R1.out.step.1.mono (fun x hx=>.inl (Yb _ hx))).trans h1 (fun x hx=>by
     rcases Za.1 hx with h | h
     ·rcases R1.out.step.2 x h with h | h
      ·exact .inl (Yb _ h)
      ·exact .inr h
     ·exact .inl (Yk _ h))
   have P5:Hid (PoolV wr p M1 u pg (k+2)):=P4.out.later O5.out (fun x hx cs hb=>by simp at hx;subst hx;exact absurd (hb.inj B4.out.ok).2 (by decide)) (fun x hx h1=>by simp at h1;subst h1;exact B4.out.off.2.2.1 hx);have T5:Hid (Xax wr tb p root):=T4.out.light T1.out.2 O5X.out LX4.out
   have RES:Hid (ChkRes w wr p M u pg (k+2) tb tbx mbx okx dpx vbx met d m (m++[((id:Int),.agg #[])]) [t.top] M1):=⟨P5.out,B5.out,fun q hq=>by
    rcases Za.1 hq with h | h
    ·exact .inl h
    ·rw [Zo] at h
     subst h
     exact .inr ⟨t.top,by simp,by rw [Tr.top_id,hie]⟩,OWR.out,R1.out.step.2⟩
   have c2:=A5.out.blk.cell 2;simp only [Zd,Zb] at c2
   have hlf:n.n.leaf=decide (h=0):=by rw [R1.out.n,Tr.top_leaf]
   rw [hlf] at c2;have okc:=B5.out.ok.cell 0;have okz:=B5.out.ok.frozen 0;have dpc:=B5.out.dp.cell 0;have dpz:=B5.out.dp.frozen 0;simp only [Zb] at okc dpc;have HD:=Th HALL.out.2.2.2.2.2.2.2
   rcases Wo h with h0 | h0
   ·subst h0
    clear c3 hnlt;have OS:Hid (Only [okx] wr (wr.setCell ⟨okx,0,none⟩ (.bool true))):=Xbe _ _ _ _;have B6:=Th (B5.out.setOk OS.out (B5.out.ok.set 0 (.bool true)));have dpc2:=B6.out.dp.cell 0;have dpz2:=B6.out.dp.frozen 0;simp only [Zb] at dpc2;simp only [decide_true] at c2
    have FIN:Hid (ChkRes w ((wr.setCell ⟨okx,0,none⟩ (.bool true)).setCell ⟨dpx,0,none⟩ (.int .i64 deep)) p M u pg (k+2*(nodes 0 t).length) tb tbx mbx okx dpx vbx met ((deep+0:Nat):Int) m (m++[((id:Int),.agg #[])]) (nodes 0 t) M1):=by
     show ChkRes _ _ _ _ _ _ _ _ _ _ _ _ _ _ _ _ _ _ _;have OF:Only [okx,dpx] wr ((wr.setCell ⟨okx,0,none⟩ (.bool true)).setCell ⟨dpx,0,none⟩ (.int .i64 deep)):=((Only.refl _ _).setCell (.inl (by simp)) _).setCell (.inl (by simp)) _
     have PF:PoolV ((wr.setCell ⟨okx,0,none⟩ (.bool true)).setCell ⟨dpx,0,none⟩ (.int .i64 deep)) p M1 u pg (k+2):=P5.out.later OF (fun x hx cs hb=>by
      simp at hx
      rcases hx with rfl | rfl
      ·exact absurd (hb.inj B5.out.ok).2 (by decide)
      ·exact absurd (hb.inj B5.out.dp).2 (by decide)) (fun x hx h1=>by
      simp at h1
      rcases h1 with rfl | rfl
      ·exact B5.out.off.2.2.1 hx
      ·exact B5.out.off.2.2.2.1 hx)
     exact (ChkRes.mk PF B6.out.setD RES.out.keys (RES.out.only.trans OF (fun x hx=>.inl (Yk _ (by simp at hx ⊢;rcases hx with h | h <;> simp [h])))) RES.out.mine).to (by have:=HALL.out.1;omega) (by simp) (fun n hn=>by simp at hn;subst hn;simp [nodes])
    rcases HD.out.1 with rfl | hd1
    ·go_wp2_with fail
     go_ret;exact ⟨rfl,M1,_,FIN.out⟩
    ·have hd2:d=deep:=by rw [hd1];simp
     clear hd1;subst hd2;have hdec:decide ((deep:Int)<0)=false:=decide_eq_false (by omega)
     go_wp2_with fail
     go_ret;exact ⟨rfl,M1,_,FIN.out⟩
   ·obtain ⟨h',rfl⟩:∃ h',h=h'+1:=⟨h-1,by omega⟩
    obtain ⟨i0,E,K,rfl⟩:=Tr.is_node t;have hne:decide (h'+1=0)=false:=decide_eq_false (by omega);rw [hne] at c2;clear hnlt okc okz dpc dpz hlf h0 hne
    have HN:Hid (n.n=⟨i0,false,E,K.map Tr.id⟩):=by show _=_;rw [R1.out.n];rfl
    have HW:=Th ((Xce i0 E K).1 HALL.out.2.2.1);obtain ⟨kn,hkn⟩:∃ kn,K.length=kn:=⟨_,rfl⟩;have KN:=Th hkn
    have KE:Hid (kn=i+1):=by
     show _=_;have h1:=HW.out.1;have h2:=EL.out;rw [HN.out] at h2;simp only at h2;rw [←KN.out,h1,h2]
    obtain ⟨ca0,cc,hcv,_,hcrow⟩:=A5.out.crow
    have hcl:n.n.cs.length=kn:=by rw [HN.out];simp [hkn]
    rw [hcl] at hcv hcrow;obtain ⟨cg,rfl,_⟩:=hcrow (by have:=KE.out;omega)
    have CV:=Th hcv;have CL:=Th hcl;have c4:=A5.out.blk.cell 4;simp only [Zd,Zb] at c4;rw [hcv] at c4;have B5':=Th B5.out
    have hkn1:kn≤51:=by have:=KE.out;omega
    have CELL:Hid (∀ w6 M6,NodeAt w6 M6 n→∀ (j:Nat) (t':Tr h'),K[j]?=some t'→w6.cell? ⟨cg,j,none⟩=some (.int .i64 t'.id)):=fun w6 M6 hA j t' ht=>by
     obtain ⟨ca1,cc1,hcv1,_,hcrow1⟩:=hA.crow;rw [CL.out,CV.out] at hcv1;rw [CL.out] at hcrow1;obtain ⟨cg1,he1,hcc⟩:=hcrow1 (by have:=KE.out;omega)
     simp only [Value.slice.injEq] at hcv1;rw [←hcv1.1] at he1;simp only [Zw,Addr.mk.injEq,and_true] at he1;obtain rfl:=he1
     refine hcc j t'.id ?_
     rw [HN.out];simp only [Zr,ht,Xe]
    clear hkn hcv hcrow hcl hkn1
    go_wp2_with fail
    clear c2 c3 c4;have HIBT:=Th HALL.out.2.2.2.2.1;have HRIS:=Th HALL.out.2.2.2.1
    have hE:n.n.es=E:=by rw [HN.out]
    have HE:=Th hE
    have ELE:Hid (E.length=i):=by show _=_;rw [←HE.out];exact EL.out
    have KWF:=Th HW.out.2;have HNS:Hid (nodes (h'+1) (Tr.node i0 E K)=⟨i0,false,E,K.map Tr.id⟩ :: K.flatMap (nodes h')):=Xbr i0 E K;have HSQ:Hid (seq (h'+1) (Tr.node i0 E K)=weave E (K.map (seq h'))):=Xcb i0 E K;have LX5:=Th B5.out.x;clear hE;obtain ⟨w5,rfl⟩:∃ w5,w5=wr:=⟨wr,rfl⟩
    go_loopg [20,21,22,23,24,145] kn (fun gk s20 s21 s22 s23 s24 s145 wr=>∃ (j:Nat) (M6:List Nat) (d6:Int) (m6:Pairs),gk=kn-j∧j≤kn∧s145=.int .i64 j∧(j=0→d6=d)∧(0<j→d6=((deep+(h'+1):Nat):Int)) ∧
     ChkRes w5 wr p M1 u pg (k+2+2*((K.take j).flatMap (nodes h')).length) tb tbx mbx okx dpx vbx met d6 (m++[((id:Int),.agg #[])]) m6 ((K.take j).flatMap (nodes h')) M6)
    case atStart=>exact ⟨0,M1,d,_,rfl,Yc _,rfl,fun _=>rfl,fun h=>absurd h (by omega),⟨P5.out,B5.out,fun q hq=>.inl hq,Only.refl _ _,fun x hx=>.inl hx⟩⟩
    case round =>
     obtain ⟨j,M6,d6,m6,hgk,hjk,rfl,hd0,hd1,hres⟩:=hrel;have HGK:=Th hgk;have HD0:=Th hd0;have HD1:=Th hd1;have R6:=Th hres;clear hgk hd0 hd1 hres
     have hj0:(0:Int)≤j:=by omega
     by_cases hlt:j<kn
     ·have hlt':(j:Int)<kn:=by omega
      obtain ⟨t',ht⟩:∃ t',K[j]?=some t':=⟨_,Zc (by rw [KN.out];exact hlt)⟩;have HT':=Th ht;have A6:Hid (NodeAt wr M6 n):=A5.out.light R6.out.only LX5.out NX.out R6.out.mine;have PL6:Hid (PtrB wr M6 lv lo∧PtrB wr M6 hv hi):=⟨PL5.out.1.light R6.out.only LX5.out R6.out.mine,PL5.out.2.light R6.out.only LX5.out R6.out.mine⟩;have q0:=CELL.out wr M6 A6.out j t' ht;have q3:=A6.out.blk.cell 3;simp only [Zd,Zb] at q3;rw [EV.out] at q3;have Q3:=Th q3;clear ht
      have IH:Hid (∀ v22 v23,PtrB wr M6 v22 (if 0<j then E[j-1]? else lo)→PtrB wr M6 v23 (if j<E.length then E[j]? else hi)→Calls prog 44 #[.int .i64 t'.id,.int .i64 (deep+1:Nat),v22,v23,.pointer (some ⟨tbx,0,none⟩),.pointer (some ⟨mbx,0,none⟩),.pointer (some ⟨okx,0,none⟩),.pointer (some ⟨dpx,0,none⟩),.pointer (some ⟨vbx,0,none⟩)] wr fun e w'=>∃ M' m',e=.returned (.int .i64 0)∧ChkRes wr w' p M6 u pg (k+2+2*((K.take j).flatMap (nodes h')).length+2*(nodes h' t').length) tb tbx mbx okx dpx vbx met ((deep+1+h':Nat):Int) m6 m' (nodes h' t') M'):=fun v22 v23 h22 h23=>by
       have hmem:=Zm HT'.out
       have hsub:∀ n∈nodes h' t',n∈nodes (h'+1) (Tr.node i0 E K):=fun n hn=>by
        rw [HNS.out];exact Yg _ (Yl.2 ⟨t',hmem,hn⟩)
       have hfl:=Xhe (nodes h') K j t' HT'.out;have hnl:=congrArg List.length HNS.out;rw [Zz] at hnl;have hkk:=HALL.out.1;have hris:=HRIS.out;have hibt:=HIBT.out;rw [HSQ.out] at hris hibt;have hch:=child_in (by rw [Zl];exact HW.out.1) hris hibt (j:=j) (l:=seq h' t') (by rw [Zr,HT'.out];rfl)
       have hKs:K=K.take j++t' :: K.drop (j+1):=by
        obtain ⟨h1,h2⟩:=Zh.1 HT'.out;rw [←h2,Ws,Yf]
       have hndp:=HALL.out.2.2.2.2.2.2.1;rw [HNS.out,Zx,Xn] at hndp;obtain ⟨hnd1,hnd2⟩:=hndp;have hnd3:=hnd2;rw [hKs,Wg,Yu,Zs,Zs,Xi] at hnd3;have hnd4:=(Xi.1 hnd3.2.1).1;have hi0:i0=(id:Int):=hie
       refine HREC.out t' (Nat.lt_succ_self _) R6.out.pool (by omega) (T5.out.light T1.out.2 R6.out.only LX5.out) (fun hm=>?_) (HALL.out.2.1.sub hsub) (KWF.out t' hmem) hch.1 hch.2 R6.out.boxes h22 h23 (fun n hn q hq e=>?_) hnd4 ?_ (by have:=HALL.out.2.2.2.2.2.2.2.2;omega)
       ·rcases R6.out.mine _ hm with h | h
        ·exact T1.out.2 h
        ·have:=T5.out.lt;omega
       ·rcases R6.out.keys q hq with h | ⟨n',hn',e'⟩
        ·rcases Za.1 h with h | h
         ·exact HALL.out.2.2.2.2.2.1 n (hsub n hn) q h e
         ·rw [Zo] at h
          subst h;refine hnd1 (Zi.2 ⟨n,Yl.2 ⟨t',hmem,hn⟩,?_⟩);rw [←e];exact hi0.symm
        ·exact hnd3.2.2 _ (Zi.2 ⟨n',hn',rfl⟩) _ (Yb _ (Zi.2 ⟨n,hn,rfl⟩)) (by rw [←e',e])
       ·rcases Wo j with h0 | h0
        ·rw [HD0.out h0]
         rcases HD.out.1 with h1 | h1
         ·exact .inl h1
         ·right;rw [h1];congr 1;omega
        ·right;rw [HD1.out h0];congr 1;omega
      go_upto_if 153 with fail
      clear q0
      go_cut [22] from 154 to 160 (fun s22 wx=>wx=wr∧PtrB wr M6 s22 (if 0<j then E[j-1]? else lo))
      case first =>
       by_cases hj:0<j
       ·have hdec:decide ((j:Int) > 0)=true:=decide_eq_true (by omega)
        have hdec2:decide (0<j)=true:=decide_eq_true hj
        have hw:IntKind.i64.wrap ((j:Int)-1)=((j-1:Nat):Int):=by have:=KE.out;rw [Yi];omega
        have hjl:((j-1:Nat):Int)<i:=by have:=KE.out;omega
        obtain ⟨eg,rfl,_,hpp⟩:=A6.out.pairs EV.out (by rw [HE.out,ELE.out];have:=KE.out;omega);obtain ⟨a,ha⟩:∃ a,E[j-1]?=some a:=⟨_,Zc (by rw [ELE.out];omega)⟩
        have hpa:=hpp (j-1) a (by rw [HE.out];exact ha)
        go_wp2_with fail
        go_meet
        case rel=>exact ⟨rfl,by rw [if_pos hj,ha];exact hpa⟩
       ·have hdec:decide ((j:Int) > 0)=false:=decide_eq_false (by omega)
        have hdec2:decide (0<j)=false:=decide_eq_false hj
        go_wp2_with fail
        go_meet
        case rel=>exact ⟨rfl,by rw [if_neg hj];exact PL6.out.1⟩
      case rest =>
      obtain ⟨hwx,hlo⟩:=hcut;obtain rfl:wr=_:=hwx.symm;have HLO:=Th hlo;clear hlo
      go_upto_if 167 with fail
      go_cut [23] from 161 to 173 (fun s23 wx=>wx=wr∧PtrB wr M6 s23 (if j<E.length then E[j]? else hi))
      case first =>
       by_cases hj:j<i
       ·have hdec:decide ((j:Int)<i)=true:=decide_eq_true (by omega)
        have hdec2:decide (j<i)=true:=decide_eq_true hj
        have hjl:(j:Int)<i:=by omega
        obtain ⟨eg,rfl,_,hpp⟩:=A6.out.pairs EV.out (by rw [HE.out,ELE.out];omega);obtain ⟨a,ha⟩:∃ a,E[j]?=some a:=⟨_,Zc (by rw [ELE.out];exact hj)⟩
        have hpa:=hpp j a (by rw [HE.out];exact ha)
        go_wp2_with fail
        go_meet
        case rel=>exact ⟨rfl,by rw [if_pos (by rw [ELE.out];exact hj),ha];exact hpa⟩
       ·have hdec:decide ((j:Int)<i)=false:=decide_eq_false (by omega)
        have hdec2:decide (j<i)=false:=decide_eq_false hj
        go_wp2_with fail
        go_meet
        case rel=>exact ⟨rfl,by rw [if_neg (by rw [ELE.out];exact hj)];exact PL6.out.2⟩
      case rest =>
      obtain ⟨hwx,hhi⟩:=hcut;obtain rfl:wr=_:=hwx.symm;have VC:=Th (IH.out _ _ HLO.out hhi)
      have hw:IntKind.i64.wrap ((deep:Int)+1)=((deep+1:Nat):Int):=by have:=HALL.out.2.2.2.2.2.2.2.2;rw [Yi];omega
      have v0:=R6.out.boxes.v.cell 0;simp only [Zb] at v0;clear hhi q3
      go_upto_region 26 with (go_at_call 44;refine VC.out.mono ?_;rintro e w7 ⟨M7,m7,rfl,hr7⟩;have R7:=Th hr7;clear hr7)
      have okc:=R7.out.boxes.ok.cell 0;simp only [Zb] at okc;clear v0
      have hkb:kn≤51:=by have:=KE.out;omega
      go_wp2_with fail
      go_roundg (kn-(j+1))
      case measure=>have:=HGK.out;omega
      case rel =>
       refine ⟨j+1,M7,_,m7,rfl,by omega,by go_num,fun h=>absurd h (by omega),fun _=>rfl,?_⟩;rw [Xhf _ _ _ _ HT'.out];exact (R6.out.trans R7.out).to (by rw [Ze];omega) (by congr 1;omega) (fun n hn=>hn)
     ·have hjn:j=kn:=by omega
      subst hjn
      have hnlt:¬(j:Int)<j:=by omega
      go_wp2_with fail
      go_ret;have h1:=R6.out;rw [Ya (by rw [KN.out];exact Zq _)] at h1
      refine ⟨rfl,M6,m6,(RES.out.trans h1).to ?_ (HD1.out (by have:=KE.out;omega)) (fun n hn=>?_)⟩
      ·rw [HNS.out,Zz];omega
      ·rw [HNS.out]
       exact hn
theorem chk_any {p tb root tbx mbx okx dpx vbx met:Nat} {u:List Bool} {pg:Nat→List UInt8}:∀ (n:Nat) {h:Nat} (t:Tr h),h<n→ChkP p tb root tbx mbx okx dpx vbx met u pg t
 | 0,_,_,hn=>absurd hn (Nat.not_lt_zero _)
 | n+1,h,t,hn=>chk_step t (fun t' h'=>chk_any n t' (by omega))
end T
namespace T
open Go Go.RowKit D B C G P H Tryz
theorem check_world (w:World) (tb:Nat):∀ wA,((((((w.alloc (.cells #[.pointer (some ⟨tb,0,none⟩)] 25)).alloc (.map #[] 0)).alloc (.cells #[.map (some (w.heap.size+1))] 101)).alloc (.cells #[.bool true] 4)).alloc (.cells #[.int .i64 (-1)] 3)).alloc (.cells #[(.func (.func 44) #[] #[.pointer (some ⟨w.heap.size,0,none⟩),.pointer (some ⟨w.heap.size+1+1,0,none⟩),.pointer (some ⟨w.heap.size+1+1+1,0,none⟩),.pointer (some ⟨w.heap.size+1+1+1+1,0,none⟩),.pointer (some ⟨w.heap.size+1+1+1+1+1,0,none⟩)])] 102))=wA →
  Only [] w wA∧Blk wA w.heap.size [.pointer (some ⟨tb,0,none⟩)] 25∧MapAt wA (w.heap.size+1) .i64 []∧Blk wA (w.heap.size+1+1) [.map (some (w.heap.size+1))] 101∧Blk wA (w.heap.size+1+1+1) [.bool true] 4∧Blk wA (w.heap.size+1+1+1+1) [.int .i64 (-1)] 3 ∧
  Blk wA (w.heap.size+1+1+1+1+1) [(.func (.func 44) #[] #[.pointer (some ⟨w.heap.size,0,none⟩),.pointer (some ⟨w.heap.size+1+1,0,none⟩),.pointer (some ⟨w.heap.size+1+1+1,0,none⟩),.pointer (some ⟨w.heap.size+1+1+1+1,0,none⟩),.pointer (some ⟨w.heap.size+1+1+1+1+1,0,none⟩)])] 102:=by
 rintro _ rfl;refine ⟨(((((Only.refl _ _).alloc _).alloc _).alloc _).alloc _).alloc _ |>.alloc _,?_,?_,?_,?_,?_,?_⟩
 ·exact (((((Blk.new' #[.pointer (some ⟨tb,0,none⟩)] 25 w (n:=w.heap.size) rfl).alloc _).alloc _).alloc _).alloc _).alloc _
 ·have:=MapAt.made (w.alloc (.cells #[.pointer (some ⟨tb,0,none⟩)] 25)) .i64
  rw [World.size_alloc] at this;exact this.past ((((Only.refl _ _).alloc _).alloc _).alloc _ |>.alloc _)
 ·exact (((Blk.new' #[.map (some (w.heap.size+1))] 101 _ (n:=w.heap.size+1+1) (by simp)).alloc _).alloc _).alloc _
 ·exact ((Blk.new' #[.bool true] 4 _ (n:=w.heap.size+1+1+1) (by simp)).alloc _).alloc _
 ·exact (Blk.new' #[.int .i64 (-1)] 3 _ (n:=w.heap.size+1+1+1+1) (by simp)).alloc _
 ·exact Blk.new' #[(.func (.func 44) #[] #[.pointer (some ⟨w.heap.size,0,none⟩),.pointer (some ⟨w.heap.size+1+1,0,none⟩),.pointer (some ⟨w.heap.size+1+1+1,0,none⟩),.pointer (some ⟨w.heap.size+1+1+1+1,0,none⟩),.pointer (some ⟨w.heap.size+1+1+1+1+1,0,none⟩)])] 102 _ (n:=w.heap.size+1+1+1+1+1) (by simp)
theorem Xjn {w:World} {p k tb root H:Nat} {M:List Nat} {u:List Bool} {pg:Nat→List UInt8} {T:Tr H} (hP:PoolV w p M u pg k) (hT:Xax w tb p root) (htb:tb∉M) (hI:InPages u pg root T) (hk:k+2*(nodes H T).length≤1000000) :
  Calls prog 18 #[.pointer (some ⟨tb,0,none⟩)] w fun e w'=>∃ M',e=.returned (.int .i64 0)∧PoolV w' p M' u pg (k+2*(nodes H T).length)∧Step M M' w w':=by
 have t1:=hT.cell 1;simp only [Zb,Zd] at t1;have HP:=Th hP;have HT:=Th hT;have HTB:=Th htb;have HI:=Th hI;have HK:=Th hk;have B5:=Blk.new' #[.nilFunc] 102 (((((w.alloc (.cells #[.pointer (some ⟨tb,0,none⟩)] 25)).alloc (.map #[] 0)).alloc (.cells #[.map (some (w.heap.size+1))] 101)).alloc (.cells #[.bool true] 4)).alloc (.cells #[.int .i64 (-1)] 3)) (n:=w.heap.size+1+1+1+1+1) (by simp);have n0:=B5.cell 0;have nz:=B5.frozen 0;simp only [Zb] at n0;have hmm:=@run_makeMap prog;clear hP hT htb hI hk
 go_enter func18,ntmps18
 go_upto_region 6 with fail
 clear n0 nz B5 hmm;generalize hwA:World.alloc (World.alloc (World.alloc (World.alloc (World.alloc (World.alloc w _) _) _) _) _) _=wA;obtain ⟨OA,BT,BM,BX,BO,BD,BV⟩:=check_world w tb wA hwA;clear hwA;replace OA:=OA.drew;replace BT:=BT.drew;replace BM:MapAt wA.drew (w.heap.size+1) .i64 []:=BM.past ((Only.refl _ _).drew);replace BX:=BX.drew;replace BO:=BO.drew;replace BD:=BD.drew;replace BV:=BV.drew;obtain ⟨wD,hwD⟩:∃ x,wA.drew=x:=⟨_,rfl⟩;rw [hwD] at OA BT BM BX BO BD BV;have HWD:=Th hwD;clear hwD;obtain ⟨vbx,hvb⟩:∃ x,w.heap.size+1+1+1+1+1=x:=⟨_,rfl⟩
 obtain ⟨dpx,hdp⟩:∃ x,w.heap.size+1+1+1+1=x:=⟨_,rfl⟩;obtain ⟨okx,hok⟩:∃ x,w.heap.size+1+1+1=x:=⟨_,rfl⟩;obtain ⟨mbx,hmb⟩:∃ x,w.heap.size+1+1=x:=⟨_,rfl⟩;obtain ⟨met,hme⟩:∃ x,w.heap.size+1=x:=⟨_,rfl⟩;obtain ⟨tbx,htbx⟩:∃ x,w.heap.size=x:=⟨_,rfl⟩
 have HNE:Hid ((tbx∉M∧mbx∉M∧okx∉M∧dpx∉M∧vbx∉M∧met∉M)∧w.heap.size≤okx∧w.heap.size≤dpx∧w.heap.size≤met):=by
  have hl:=HP.out.lt
  refine ⟨⟨fun hm=>?_,fun hm=>?_,fun hm=>?_,fun hm=>?_,fun hm=>?_,fun hm=>?_⟩,by omega⟩ <;> (have:=hl _ hm;omega)
 rw [hvb,hdp,hok,hmb,htbx] at BV;rw [hdp] at BD;rw [hok] at BO;rw [hmb,hme] at BX;rw [hme] at BM;rw [htbx] at BT;rw [hvb,hdp,hok,hmb,hme,htbx];clear hvb hdp hok hmb hme htbx;have OA:=Th OA;have PA:Hid (PoolV wD p M u pg k):=HP.out.past OA.out;have TA:Hid (Xax wD tb p root):=OA.out.blk HT.out (by simp);have hchk:ChkB wD M tb tbx mbx okx dpx vbx met (-1) []:=⟨BT,BX,BO,BD,BV,BM,HNE.out.1⟩
 have hib:InB none none (seq H T):=fun g hg=>⟨fun a (ha:none=some a)=>(by cases ha),fun b (hb:none=some b)=>(by cases hb)⟩
 have hvis:Calls prog 44 #[.int .i64 T.id,.int .i64 ((0:Nat):Int),.pointer none,.pointer none,.pointer (some ⟨tbx,0,none⟩),.pointer (some ⟨mbx,0,none⟩),.pointer (some ⟨okx,0,none⟩),.pointer (some ⟨dpx,0,none⟩),.pointer (some ⟨vbx,0,none⟩)] wD fun e w'=>∃ M' m',e=.returned (.int .i64 0)∧ChkRes wD w' p M u pg (k+2*(nodes H T).length) tb tbx mbx okx dpx vbx met ((0+H:Nat):Int) [] m' (nodes H T) M' :=
  chk_any (H+1) T (Nat.lt_succ_self H) PA.out HK.out TA.out HTB.out HI.out.of HI.out.wf HI.out.ris hib hchk .nil .nil (fun n hn q hq=>by cases hq) HI.out.once (.inl rfl) (by have:=Xct HI.out.wf;have:=HK.out;omega)
 have h0:((0:Nat):Int)=0:=rfl;rw [h0] at hvis;rw [HI.out.top] at hvis;have VIS:=Th hvis;have hta:=OA.out.cell t1 (by simp);have hcx:=BT.cell 0;have hvx:=BV.cell 0;simp only [Zb] at hcx hvx;clear hvis hchk BT BX BO BD BV BM t1
 refine Xbf 5 (C:=fun w'=>w'=wD) (by kernel_rfl) (by kernel_rfl) HWD.out ?_
 simp only [Xv,Wc,Wh,Xp]
 repeat (go_big_quiet_step (fail))
 refine wpQuiet_nil ?_
 rintro _ rfl
 go_upto_region 7 with (go_at_call 44;refine VIS.out.mono ?_;rintro e w1 ⟨M1,m1,rfl,hR⟩;have R1:=Th hR;clear hR)
 clear hta hcx hvx;have okc:=R1.out.boxes.ok.cell 0;simp only [Zb] at okc
 go_wp2_with fail
 go_ret;refine ⟨M1,rfl,R1.out.pool,(OA.out.mono (by simp)).trans R1.out.only (fun x hx=>?_),fun x hx=>?_⟩
 ·rcases Za.1 hx with h | h
  ·exact .inl h
  ·simp at h
   right
   rcases h with rfl | rfl | rfl
   ·exact HNE.out.2.1
   ·exact HNE.out.2.2.1
   ·exact HNE.out.2.2.2
 ·rcases R1.out.mine x hx with h | h
  ·exact .inl h
  ·exact .inr (Zp OA.out.size h)
end T
end Go.Proofs.YtiijokopcgnokaaGreat
