import Derived.Test.YtiijokopcgnokaaGreatWTnM
set_option linter.unusedSimpArgs false
set_option linter.unusedVariables false
namespace Go.Proofs.YtiijokopcgnokaaGreat
namespace T
open Go Go.RowKit D B C G P H
def MNd.insE (m:MNd) (v':Value) (c:Nat) (q:KV):MNd:={ m with n:={ m.n with es:=m.n.es.take c++q.2 :: m.n.es.drop c },ev:=v',L:=m.L.take c++q :: m.L.drop c }
def MNd.insC (m:MNd) (v':Value) (c:Nat) (ch:Int):MNd:={ m with n:={ m.n with cs:=m.n.cs.take c++ch :: m.n.cs.drop c },cv:=v' }
theorem Xka {w1 w2:World} {M:List Nat} {m:MNd} {ao:Option Addr} {cc c:Nat} {v':Value} {q:KV} (h1:NodeAt w1 M m) (hM:∀ x∈M,x<w1.heap.size) (hq:KeyOk w1 M q) (hev:m.ev=.slice ao m.n.es.length cc) (hc:c≤m.n.es.length)
  (hg2:Grew w1 w2 43 2 (.slice ao m.n.es.length cc) v' (m.n.es.length+1) ((kvsC m.L).take (c*2)++kvC q++(kvsC m.L).drop (c*2))) :
  w2.cell? ⟨m.nb,3,none⟩=some (.slice ao m.n.es.length cc)∧w2.frozen? ⟨m.nb,3,none⟩=false∧Turn w1 (w2.setCell ⟨m.nb,3,none⟩ v') M m (m.insE v' c q):=by
 have hlen:(m.L.take c++q :: m.L.drop c).length=m.n.es.length+1:=by
  have:=h1.len
  simp only [Ze,Zz,Zj,Zy];omega
 have hkv:kvsC (m.L.take c++q :: m.L.drop c)=(kvsC m.L).take (c*2)++kvC q++(kvsC m.L).drop (c*2):=by
  rw [←Xed,←Xfq,Xbm,show kvsC (q :: m.L.drop c)=kvC q++kvsC (m.L.drop c) from rfl,Zu]
 have hg3:Grew w1 w2 43 2 m.ev v' (m.L.take c++q :: m.L.drop c).length (kvsC (m.L.take c++q :: m.L.drop c)):=by rw [hlen,hkv,hev];exact hg2
 have hb:=hg3.only.blk h1.blk (fun hm=>Xaj h1.ents h1.blk (by decide) (by simpa using hm))
 have hT:=h1.setEs hg3 (fun p hp=>by
  rcases Za.1 hp with h | h
  ·exact h1.keys p (Yn h)
  ·rcases Zg.1 h with h | h
   ·rw [h];exact hq
   ·exact h1.keys p (Ys h)) hM
 refine ⟨?_,hb.frozen 3,?_⟩
 ·rw [hb.cell 3]
  simp [hev]
 ·have e:(m.L.take c++q :: m.L.drop c).map (·.2)=m.n.es.take c++q.2 :: m.n.es.drop c:=by rw [Zs,Zx,Xx,Wk,h1.es]
  rw [e] at hT;exact hT
theorem Xot {w1 w2:World} {M:List Nat} {m:MNd} {co:Option Addr} {cc c:Nat} {v':Value} {ch:Int} (h1:NodeAt w1 M m) (hM:∀ x∈M,x<w1.heap.size) (hcv:m.cv=.slice co m.n.cs.length cc) (hc:c≤m.n.cs.length)
  (hg2:Grew w1 w2 3 1 (.slice co m.n.cs.length cc) v' (m.n.cs.length+1) ((intsC m.n.cs).take c++[.int .i64 ch]++(intsC m.n.cs).drop c)) :
  w2.cell? ⟨m.nb,4,none⟩=some (.slice co m.n.cs.length cc)∧w2.frozen? ⟨m.nb,4,none⟩=false∧Turn w1 (w2.setCell ⟨m.nb,4,none⟩ v') M m (m.insC v' c ch):=by
 have hlen:(m.n.cs.take c++ch :: m.n.cs.drop c).length=m.n.cs.length+1:=by
  simp only [Ze,Zz,Zj,Zy];omega
 have hi:intsC (m.n.cs.take c++ch :: m.n.cs.drop c)=(intsC m.n.cs).take c++[.int .i64 ch]++(intsC m.n.cs).drop c:=by
  simp [intsC,Xx,Wk]
 have hg3:Grew w1 w2 3 1 m.cv v' (m.n.cs.take c++ch :: m.n.cs.drop c).length (intsC (m.n.cs.take c++ch :: m.n.cs.drop c)):=by rw [hlen,hi,hcv];exact hg2
 have hb:=hg3.only.blk h1.blk (fun hm=>Xaj h1.kids h1.blk (by decide) (by simpa using hm));refine ⟨?_,hb.frozen 4,h1.setCs hg3 hM⟩;rw [hb.cell 4]
 simp [hcv]
set_option maxRecDepth 100000 in
set_option maxHeartbeats 4000000 in
theorem splits_upS {w:World} {M:List Nat} {base gb rb cap:Nat} {fv:Value} {rcs:List Value} {us F:List MNd} {mu m:MNd} {p:List Pr × List Int} {l:List (Pr × List Pr × List Int)} {W' F':List Nd} (h:SplAt w M base gb fv rb rcs (us++[mu,m]) F) (hrt:m.root=false)
  (hM:∀ x∈M,x<w.heap.size) (hb:base≤w.heap.size) (hk:Keys m.n.es) (hK:m.n.cs.length=if m.n.leaf then 0 else m.n.es.length+1) (hlen:m.n.es.length≤1000000) (hf:fitsP m.n.leaf m.n.es=false) (hp:Parts m.n.leaf m.n.es m.n.cs p l) (hl:F.length+1+l.length≤900000)
  (hku:mu.n.cs.length=mu.n.es.length+1) (hwu:WUp mu.n.es) (hlu:mu.n.es.length≤40)
  (hr:∀ f∈F,f.root=false) (hcap:us.length+2≤cap) (hus:us.length≤100000)
  (hrec:∀ (w1:World) (fv1:Value) (m1:MNd) (F1:List MNd),w.heap.size≤w1.heap.size→SplAt w1 M base gb fv1 rb rcs (us++[m1]) F1→m1.nb=mu.nb→m1.root=mu.root→m1.n=⟨mu.n.id,mu.n.leaf,(ups (mu.n.es,mu.n.cs) (seps F.length l)).1,(ups (mu.n.es,mu.n.cs) (seps F.length l)).2⟩ →
   F1.map (·.n)=F.map (·.n)++numb m.n.leaf F.length l→(∀ f∈F1,f.root=false)→Xcm w1 M base gb fv1 rb cap rcs (us++[m1]) F1 W' F'):Xcm w M base gb fv rb cap rcs (us++[mu,m]) F (⟨m.n.id,m.n.leaf,p.1,p.2⟩ :: W') F':=by
 have c0:=h.row.cell (us.length+1);rw [h.ptr (us.length+1) m (by rw [Yo (by omega)];simp)] at c0
 have c9:=h.row.cell us.length;rw [h.ptr us.length mu (by rw [Yo (by omega)];simp)] at c9
 have hN:=h.nodes.at_ m (by simp);have hU:=h.nodes.at_ mu (by simp);have c1:=hN.blk.cell 1;simp only [Zd,Zb] at c1;rw [hrt] at c1;have FT:=Th (Xdr hN hk hlen);rw [hf] at FT;have PT:=Th (Xpg hp rfl rfl rfl h.grow hN hM hb hK hk hlen hf (by omega));have HH:=Th h;have HR:=Th hr;have HM:=Th hM;have HB:=Th hb;have HL:=Th hl;have RC:=Th hrec;have A0:=Th hN;have U0:=Th hU;have RT:=Th hrt;have HKU:=Th hku;have HWU:=Th hwu;have HLU:=Th hlu;have GK:=Th (Xcr h.grow)
 have hmu:Apart mu m:=by
  have h1:=h.nodes.apart;rw [Zu] at h1;have h2:=(Zn.1 h1).2.1;exact (Yh.1 h2).1 m (by simp)
 have HMU:=Th hmu;obtain ⟨n,hn⟩:∃ n,us.length=n:=⟨_,rfl⟩;have UL:=Th hn;unfold Xcm;rw [Ze,show [mu,m].length=2 from rfl,hn];rw [hn] at c0 c9 hcap hus;unfold ptrN at c0 c9
 have hw1:IntKind.i64.wrap ((n:Int)+2-1)=n+1:=by rw [Yi];omega
 have hw2:IntKind.i64.wrap ((n:Int)+2-2)=n:=by rw [Yi];omega
 clear h hr hM hb hk hK hf hp hl hlen hrec hN hrt hU hku hwu hlu hmu hn
 go_enter Tryz.func36,Tryz.ntmps36
 go_upto_region 14 with (first
  | (go_at_call 35;refine FT.out.mono ?_;rintro e w1 ⟨rfl,rfl⟩)
  | (go_at_call 64;refine PT.out.mono ?_;rintro e w1 ⟨m4,news,bv,ov,fv1,Lb,rfl,hp⟩;obtain ⟨ba,bc,rfl⟩:=Xac hp.bt;obtain ⟨oa,oc,rfl⟩:=Xac hp.row.own;have PR:=Th hp;clear hp PT))
 have hO1:=PR.out.only;have O1:=Th hO1;have hmlt:m.nb<w.heap.size:=A0.out.blk.lt
 have hmu1:m.nb∉mu.blocks:=fun hm=>HMU.out _ hm (by simp [MNd.blocks])
 have U1:Hid (NodeAt w1 M mu):=U0.out.far O1.out A0.out.blk hmu1 GK.out
 have PW:Hid (∀ f∈us++F,f∈us++[mu,m]++F∧Apart m f∧Apart mu f):=fun f hf=>by
  have h1:=HH.out.nodes.apart
  rcases Za.1 hf with h | h
  ·refine ⟨by simp [h],?_⟩
   rw [Zu] at h1;have h2:=(Zn.1 h1).2.2 f h;exact ⟨(h2 m (by simp)).symm,(h2 mu (by simp)).symm⟩
  ·refine ⟨by simp [h],?_⟩
   have h2:=(Zn.1 h1).2.2;exact ⟨h2 m (by simp) f h,h2 mu (by simp) f h⟩
 have FN1:Hid (∀ f∈us++F,NodeAt w1 M f∧Apart mu f):=fun f hf=>by
  obtain ⟨h1,h2,h3⟩:=PW.out f hf;exact ⟨(HH.out.nodes.at_ f h1).far O1.out A0.out.blk (fun hm=>h2 _ (by simp [MNd.blocks]) hm) GK.out,h3⟩
 have hrbX:rb∉m.nb :: growX gb fv:=fun hm=>by
  simp only [growX,Zg,Zk] at hm
  rcases hm with h | h | h
  ·exact absurd ((h ▸ HH.out.row).inj A0.out.blk).2 (by decide)
  ·exact absurd ((h ▸ HH.out.row).inj HH.out.grow.blk).2 (by decide)
  ·exact HH.out.rne h
 have RB1:Hid (Blk w1 rb rcs 75):=O1.out.blk HH.out.row hrbX;have d9:=O1.out.cell c9 hrbX;have hrb0:rb<w.heap.size:=HH.out.row.lt
 have RNE:Hid (fv1.ownBlock≠some rb):=fun h=>by
  rcases PR.out.lies rb h with h' | h'
  ·exact HH.out.rne h'
  ·omega
 have S1:Hid (w.heap.size≤w1.heap.size):=O1.out.size;have M4:Hid (∀ x∈m4.blocks,x=m.nb∨w.heap.size≤x):=PR.out.blocks
 have FN4:Hid (NodeAt w1 M m4∧Apart mu m4):=⟨PR.out.at_,fun x hx hy=>by
  rcases M4.out x hy with h | h
  ·exact hmu1 (h ▸ hx)
  ·have:=U0.out.lt x hx;omega⟩
 have FNN:Hid (∀ o∈news,NodeAt w1 M o∧Apart mu o):=fun o ho=>⟨PR.out.nodes.at_ o ho,fun x hx hy=>by
  have:=PR.out.nodes.new o ho x hy
  have:=U0.out.lt x hx;omega⟩
 have hnl:news.length=l.length:=by have:=congrArg List.length PR.out.ns;simpa [Xbu] using this
 have hbl:Lb.length=l.length:=by have:=congrArg List.length PR.out.lb;simpa using this
 have RND:Hid (∀ (i:Nat) wr mi,i<l.length→Turn w1 wr M mu mi→∃ og o,oa=some ⟨og,0,none⟩∧news[i]?=some o∧wr.cell? ⟨og,i,none⟩=some (.pointer (some ⟨o.nb,0,none⟩))∧wr.cell? ⟨o.nb,0,none⟩=some (.int .i64 o.n.id)∧o.nb∉mi.blocks∧i<oc+1∧og∉mi.blocks):=fun i wr mi hi hT=>by
  have hi':i<news.length:=by omega
  obtain ⟨ao',cap',hv,hcap',hc⟩:=(RowOn.of PR.out.row.own).shape;obtain ⟨og,hog,hcell⟩:=hc (by omega);simp only [Value.slice.injEq] at hv;have ho:=Zc hi';obtain ⟨hn,ha⟩:=FNN.out news[i] (Yx hi');obtain ⟨cs,hbo⟩:=Xag PR.out.row.own (by rw [hv.1,hog];rfl:(Value.slice oa news.length oc).ownBlock=some og)
  refine ⟨og,news[i],by rw [hv.1,hog],ho,?_,?_,fun hm=>?_,by omega,fun hm=>?_⟩
  ·have h1:=hcell i (by omega)
   rw [Zr,ho] at h1;exact hT.only.cell h1 (fun hm=>U1.out.no hbo (by decide) hm)
  ·exact hT.only.cell (hn.blk.cell 0) (fun hm=>ha _ hm (by simp [MNd.blocks]))
  ·exact (hT.other U1.out hn ha).2 _ hm (by simp [MNd.blocks])
  ·rcases hT.new og hm with h | h
   ·exact U1.out.no hbo (by decide) h
   ·have:=hbo.lt;omega
 have RNB:Hid (∀ (i:Nat) wr mi,i<l.length→Turn w1 wr M mu mi→∃ bg qa qc qk qx,ba=some ⟨bg,0,none⟩∧Lb[i]?=some (.slice qa qk.length qc,qk,qx)∧wr.cell? ⟨bg,i*2,none⟩=some (.slice qa qk.length qc)∧wr.cell? ⟨bg,i*2+1,none⟩=some (.int .u64 qx)∧KeyOk wr M (.slice qa qk.length qc,qk,qx)∧i<bc+1):=fun i wr mi hi hT=>by
  have hi':i<Lb.length:=by omega
  obtain ⟨ao',cap',hv,hcap',hc⟩:=(RowOn.of PR.out.bt).shape;obtain ⟨bg,hbg,hcell⟩:=hc (by omega);simp only [Value.slice.injEq] at hv;have ho:=Zc hi';have hk:=PR.out.keys _ (Yx hi');obtain ⟨qa,qc,hq,_⟩:=id hk.bytes
  have hb1:bg∉mu.blocks:=fun hm=>by
   have h1:=PR.out.bnew bg (by rw [hv.1,hbg];rfl)
   have:=U0.out.lt _ hm;omega
  obtain ⟨k1,k2⟩:=Xfd ho;have h1:=hcell (i*2) (by omega);have h2:=hcell (i*2+1) (by omega);rw [k1] at h1;rw [k2] at h2;rw [hq] at h1;refine ⟨bg,qa,qc,Lb[i].2.1,Lb[i].2.2,by rw [hv.1,hbg],by rw [ho,←hq],hT.only.cell h1 hb1,hT.only.cell h2 hb1,?_,by omega⟩;have:=hk.later hT.only U1.out.foot;rw [←hq];exact this
 have SEP:Hid (∀ (i:Nat) q (o:MNd),Lb[i]?=some q→news[i]?=some o→(seps F.length l)[i]?=some (q.2,o.n.id)):=fun i q o hq ho=>by
  have h1:(news.map (·.n)).map (·.id)=(seps F.length l).map (·.2):=by rw [PR.out.ns,Xen,Xnm]
  have h2:Lb.map (·.2)=(seps F.length l).map (·.1):=by rw [PR.out.lb,Xch]
  have h3:((seps F.length l).map (·.2))[i]?=some o.n.id:=by rw [←h1,Zr,Zr,ho];rfl
  have h4:((seps F.length l).map (·.1))[i]?=some q.2:=by rw [←h2,Zr,hq];rfl
  rw [Zr] at h3 h4
  cases hs:(seps F.length l)[i]? with
  | none=>rw [hs] at h3;cases h3
  | some s =>
   rw [hs] at h3 h4;simp only [Xe,Zw] at h3 h4;rw [←h3,←h4]
 have UPS:Hid (∀ i,i≤l.length→WUp (ups (mu.n.es,mu.n.cs) ((seps F.length l).take i)).1∧(ups (mu.n.es,mu.n.cs) ((seps F.length l).take i)).1.length=mu.n.es.length+i∧(ups (mu.n.es,mu.n.cs) ((seps F.length l).take i)).2.length=mu.n.es.length+i+1):=fun i hi=>by
  obtain ⟨h1,h2,h3⟩:=ups_ok ((seps F.length l).take i) (u:=(mu.n.es,mu.n.cs)) HWU.out HKU.out
  have hls:(seps F.length l).length=l.length:=by have:=congrArg List.length (Xch l F.length);simpa using this
  rw [Zj,hls,Yt hi] at h2 h3;refine ⟨h1,h2,?_⟩
  rw [h3,HKU.out];omega
 obtain ⟨L,hL⟩:∃ L,l.length=L:=⟨_,rfl⟩
 have hLL:L≤900000:=by have:=HL.out;omega
 have LE:Hid (l.length=L):=hL;rw [hL] at hnl hbl RND RNB UPS;rw [hnl,hbl];clear hO1 hmu1 hrbX hrb0 c9 c0 c1 hL hnl hbl
 go_wp2_with fail
 go_loopg [106] L (fun gk s106 wr=>∃ (i:Nat) (mi:MNd),gk=L-i∧i≤L∧s106=.int .i64 i∧Turn w1 wr M mu mi∧mi.n=⟨mu.n.id,mu.n.leaf,(ups (mu.n.es,mu.n.cs) ((seps F.length l).take i)).1,(ups (mu.n.es,mu.n.cs) ((seps F.length l).take i)).2⟩)
 case atStart=>exact ⟨0,mu,rfl,Yc _,rfl,Turn.refl U1.out,by simp [ups]⟩
 case round =>
  obtain ⟨i,mi,hgk,hi,rfl,hT,hn⟩:=hrel;have HGK:=Th hgk;have HT:=Th hT;have HN:=Th hn;clear hgk hT hn
  have hi0:(0:Int)≤i:=by omega
  by_cases hlt:i<L
  ·have hlt':(i:Int)<L:=by omega
   obtain ⟨bg,qa,qc,qk,qx,hba,hq,x1,x2,hkq,_⟩:=RNB.out i wr mi hlt HT.out;subst hba;have MNB:Hid (mi.nb=mu.nb):=HT.out.nb;obtain ⟨wA,hwA⟩:∃ wA,wr.alloc (.cells #[.slice qa qk.length qc,.int .u64 qx] 43)=wA:=⟨_,rfl⟩
   have OA:Hid (Only [] wr wA):=by show Only _ _ _;rw [←hwA];exact (Only.refl _ _).alloc _
   obtain ⟨xb,hxb⟩:∃ xb,wr.heap.size=xb:=⟨_,rfl⟩
   have BXA:Hid (Blk wA xb [.slice qa qk.length qc,.int .u64 qx] 43):=by show Blk _ _ _ _;rw [←hwA,←hxb];exact Blk.new [.slice qa qk.length qc,.int .u64 qx] 43 wr
   have XNO:Hid (xb∉mi.blocks):=fun hm=>by have:=HT.out.at_.lt _ hm;omega
   have HMR:Hid (∀ x∈M,x<wr.heap.size):=fun x hx=>by have:=HM.out x hx;have:=S1.out;have:=HT.out.only.size;omega
   obtain ⟨ups1,ups2,ups3⟩:=UPS.out i hi
   have HEL:Hid (mi.n.es.length=mu.n.es.length+i):=by show _=_;rw [HN.out];exact ups2
   have HCL:Hid (mi.n.cs.length=mu.n.es.length+i+1):=by show _=_;rw [HN.out];exact ups3
   have HELB:Hid (mi.n.es.length≤900040):=by show _≤_;have h1:=HEL.out;have h2:=HLU.out;omega
   have CH:=Th (Xjo (q:=(.slice qa qk.length qc,(qk,qx))) (HT.out.at_.past OA.out) (hkq.past OA.out).bytes (by rw [HN.out];exact ups1) (by have:=HELB.out;omega));have hcle:=Xex mi.n.es (qk,qx);obtain ⟨c,hc⟩:∃ c,Xao mi.n.es (qk,qx)=c:=⟨_,rfl⟩;have HC:=Th hc;rw [hc] at CH hcle;rw [MNB.out] at CH;obtain ⟨k,hk⟩:∃ k,mi.n.es.length=k:=⟨_,rfl⟩;have KL:=Th hk;rw [hk] at hcle HELB HEL;have CLE:Hid (c≤k):=hcle;have KQ:=Th hkq;have HQ:=Th hq;have y0:=BXA.out.cell 0;have y1:=BXA.out.cell 1;simp only [Zd,Zb] at y0 y1;have hkB:k≤900040:=HELB.out
   clear ups1 ups2 ups3 hcle hc hk hkq hq
   go_upto_region 18 with fail
   clear hwA hxb
   go_upto_region 19 with (go_at_call 43;refine CH.out.mono ?_;rintro e wB ⟨rfl,hoB⟩;have OB:=Th (OA.out.trans hoB (by simp));have BXB:=Th (hoB.blk BXA.out (by simp));have SZB:Hid (xb<wB.heap.size):=BXB.out.lt;clear hoB CH)
   have HB2:=Th (HT.out.at_.past OB.out)
   have HMB:Hid (∀ x∈M,x<wB.heap.size):=fun x hx=>Ye (HMR.out x hx) OB.out.size
   have KQB:=Th (KQ.out.past OB.out);obtain ⟨ea,ec,hev⟩:=Xac HB2.out.ents;rw [HB2.out.len,KL.out] at hev;have EV:=Th hev
   have c3:wB.cell? ⟨mu.nb,3,none⟩=some mi.ev:=by have:=HB2.out.blk.cell 3;rw [MNB.out] at this;simpa using this
   rw [hev] at c3;have y0:=BXB.out.cell 0;have y1:=BXB.out.cell 1;simp only [Zd,Zb] at y0 y1;have OV:Hid (Only [] wB (wB.drew.alloc (.cells [.slice qa qk.length qc,.int .u64 qx].toArray 43))):=(Only.refl _ _).drew.alloc _;have SV:Hid ((wB.drew.alloc (.cells [.slice qa qk.length qc,.int .u64 qx].toArray 43)).cell? ⟨xb,0,none⟩=some (.slice qa qk.length qc)∧(wB.drew.alloc (.cells [.slice qa qk.length qc,.int .u64 qx].toArray 43)).cell? ⟨xb,1,none⟩=some (.int .u64 qx)):=⟨OV.out.cell y0 (by simp),OV.out.cell y1 (by simp)⟩;have m3c:(wB.alloc (.cells #[.slice qa qk.length qc,.int .u64 qx] 43)).cell? ⟨mu.nb,3,none⟩=some (.slice ea k ec):=((Only.refl [] wB).alloc _).cell c3 (by simp)
   have INS:Hid (Calls Tryz.prog 34 #[.slice ea k ec,.int .i64 c,.slice (some ⟨wB.heap.size,0,none⟩) 1 1] (wB.drew.alloc (.cells [.slice qa qk.length qc,.int .u64 qx].toArray 43)) fun e w'=>∃ v',e=.returned v'∧Grew (wB.drew.alloc (.cells [.slice qa qk.length qc,.int .u64 qx].toArray 43)) w' 43 2 (.slice ea k ec) v' (k+1) ((kvsC mi.L).take (c*2)++kvC (.slice qa qk.length qc,(qk,qx))++(kvsC mi.L).drop (c*2))):=by
    have hown:=Xad HB2.out.ents OV.out;rw [hev,HB2.out.len,KL.out] at hown;refine I.slInsert_any hown (Blk.new [.slice qa qk.length qc,.int .u64 qx] 43 wB.drew) rfl (fun k' hk' e=>?_) CLE.out (Xdh HB2.out.keys) (by intro u hu;simp [kvC] at hu;rcases hu with rfl | rfl <;> rfl) (by omega)
    have h1:=Xbk HB2.out.ents (by rw [hev];exact hk');have h2:wB.drew.heap.size=wB.heap.size:=rfl;omega
   clear hev
   go_cut [106] from 106 to 143 (fun s106 wx=>s106=.int .i64 i∧∃ v',Turn wB wx M mi (mi.insE v' c (.slice qa qk.length qc,(qk,qx))))
   case first =>
    refine wp_region_held_drew (S:=fun w'=>w'.cell? ⟨xb,0,none⟩=some (.slice qa qk.length qc)∧w'.cell? ⟨xb,1,none⟩=some (.int .u64 qx)) (by kernel_rfl) ⟨((Only.refl [] wB).drew).cell y0 (by simp),((Only.refl [] wB).drew).cell y1 (by simp)⟩ (fun hH=>?_)
    refine tkA 0 114 (.pointer (some ⟨mu.nb,0,none⟩)) hH ?_
    refine tkA 1 115 (.pointer (some ⟨mu.nb,0,none⟩)) hH ?_
    refine tkA 2 116 (.pointer (some ⟨mu.nb,0,none⟩)) hH ?_
    refine tkA 3 117 (.pointer (some ⟨mu.nb,3,none⟩)) hH ?_
    refine tkA 5 119 (.int .i64 c) hH ?_
    refine Xaq 6 120 (.agg #[.slice qa qk.length qc,.int .u64 qx]) rfl rfl (by kernel_rfl) (by kernel_rfl) (by kernel_rfl) (fun _ _ _ h=>h) (Or.inl ⟨by rfl,fun w1 hw1=>by have hw2:=hw1.1;have hw3:=hw1.2;go_simp⟩) hH ?_
    (try simp only [Act.put,qSa,qSz,qSs])
    refine Xht 4 7 rfl rfl (by kernel_rfl) (by rfl) (by rfl) (fun K hK=>?_) (fun K hK=>?_)
    ·go_wp2_with fail
     refine hK.out _ _ hH ?_
     clear hK K
     (try simp only [Act.put,qSa,qSz,qSs])
     refine oneA 7 fun K hK=>?_
     go_wp2_with fail
     refine hK.out _ _ SV.out ?_
     clear hK K
     (try simp only [Act.put,qSa,qSz,qSs])
     refine oneA 8 fun K hK=>?_
     go_wp2_with (go_at_call 34;refine INS.out.mono ?_;rintro e w6 ⟨v',rfl,hg6⟩)
     obtain ⟨va,vc,rfl⟩:=hg6.shape;obtain ⟨k4,kf,hT6⟩:=Xka (HB2.out.past OV.out) (fun x hx=>Ye (HMB.out x hx) OV.out.size) (KQB.out.past OV.out) (by rw [KL.out];exact EV.out) (by rw [KL.out];exact CLE.out) (by rw [KL.out];exact hg6)
     rw [MNB.out] at k4 kf hT6;have hC6:w6.cell? ⟨xb,0,none⟩=some (.slice qa qk.length qc)∧w6.cell? ⟨xb,1,none⟩=some (.int .u64 qx):=⟨hg6.only.cell SV.out.1 (fun hm=>XNO.out (by simp only [MNd.blocks,EV.out];simp only [Zk] at hm;simp [hm])),hg6.only.cell SV.out.2 (fun hm=>XNO.out (by simp only [MNd.blocks,EV.out];simp only [Zk] at hm;simp [hm]))⟩
     refine hK.out _ _ hC6 ?_
     clear hK K hH
     (try simp only [Act.put,qSa,qSz,qSs])
     refine tkA 9 123 (.pointer (some ⟨mu.nb,0,none⟩)) hC6 ?_
     refine tkA 10 124 (.pointer (some ⟨mu.nb,3,none⟩)) hC6 ?_
     rw [KL.out] at k4
     refine oneA 11 fun K hK=>?_
     go_wp2_with fail
     have hC7:(w6.setCell ⟨mu.nb,3,none⟩ (.slice va (k+1) vc)).cell? ⟨xb,0,none⟩=some (.slice qa qk.length qc)∧(w6.setCell ⟨mu.nb,3,none⟩ (.slice va (k+1) vc)).cell? ⟨xb,1,none⟩=some (.int .u64 qx):=⟨hT6.only.cell SV.out.1 XNO.out,hT6.only.cell SV.out.2 XNO.out⟩
     refine hK.out _ _ hC7 ?_
     clear hK K
     (try simp only [Act.put,qSa,qSz,qSs])
     refine wpAnyH_done (by kernel_rfl) ?_ _;have TT:=Th (Turn.ahead OV.out hT6);clear hg6 hT6 k4 kf hC6 hC7
     go_wp2_with fail
     go_meet
     case rel=>exact ⟨rfl,_,TT.out⟩
    ·go_wp2_with fail
     refine hK.out _ _ SV.out ?_
     clear hK K
     (try simp only [Act.put,qSa,qSz,qSs])
     refine oneA 4 fun K hK=>?_
     go_wp2_with fail
     refine hK.out _ _ SV.out ?_
     clear hK K
     (try simp only [Act.put,qSa,qSz,qSs])
     refine oneA 8 fun K hK=>?_
     go_wp2_with (go_at_call 34;refine INS.out.mono ?_;rintro e w6 ⟨v',rfl,hg6⟩)
     obtain ⟨va,vc,rfl⟩:=hg6.shape;obtain ⟨k4,kf,hT6⟩:=Xka (HB2.out.past OV.out) (fun x hx=>Ye (HMB.out x hx) OV.out.size) (KQB.out.past OV.out) (by rw [KL.out];exact EV.out) (by rw [KL.out];exact CLE.out) (by rw [KL.out];exact hg6)
     rw [MNB.out] at k4 kf hT6;have hC6:w6.cell? ⟨xb,0,none⟩=some (.slice qa qk.length qc)∧w6.cell? ⟨xb,1,none⟩=some (.int .u64 qx):=⟨hg6.only.cell SV.out.1 (fun hm=>XNO.out (by simp only [MNd.blocks,EV.out];simp only [Zk] at hm;simp [hm])),hg6.only.cell SV.out.2 (fun hm=>XNO.out (by simp only [MNd.blocks,EV.out];simp only [Zk] at hm;simp [hm]))⟩
     refine hK.out _ _ hC6 ?_
     clear hK K hH
     (try simp only [Act.put,qSa,qSz,qSs])
     refine tkA 9 123 (.pointer (some ⟨mu.nb,0,none⟩)) hC6 ?_
     refine tkA 10 124 (.pointer (some ⟨mu.nb,3,none⟩)) hC6 ?_
     rw [KL.out] at k4
     refine oneA 11 fun K hK=>?_
     go_wp2_with fail
     have hC7:(w6.setCell ⟨mu.nb,3,none⟩ (.slice va (k+1) vc)).cell? ⟨xb,0,none⟩=some (.slice qa qk.length qc)∧(w6.setCell ⟨mu.nb,3,none⟩ (.slice va (k+1) vc)).cell? ⟨xb,1,none⟩=some (.int .u64 qx):=⟨hT6.only.cell SV.out.1 XNO.out,hT6.only.cell SV.out.2 XNO.out⟩
     refine hK.out _ _ hC7 ?_
     clear hK K
     (try simp only [Act.put,qSa,qSz,qSs])
     refine wpAnyH_done (by kernel_rfl) ?_ _;have TT:=Th (Turn.ahead OV.out hT6);clear hg6 hT6 k4 kf hC6 hC7
     go_wp2_with fail
     go_meet
     case rel=>exact ⟨rfl,_,TT.out⟩
   case rest =>
    obtain ⟨rfl,v',hTc⟩:=hcut;obtain ⟨md,hmd⟩:∃ md,mi.insE v' c (.slice qa qk.length qc,(qk,qx))=md:=⟨_,rfl⟩;rw [hmd] at hTc;have HTM:=Th (HT.out.trans (Turn.ahead OB.out hTc));obtain ⟨og,o,hoa,ho,z0,z1,hno,_,hog⟩:=RND.out i wc md hlt HTM.out;have ONO:Hid (og∉md.blocks∧o.nb∉md.blocks):=⟨hog,hno⟩;have MNB2:Hid (md.nb=mu.nb):=HTM.out.nb
    have HDC:Hid (md.n.cs=mi.n.cs):=by show _=_;rw [←hmd];rfl
    obtain ⟨da,dc,hdv⟩:=Xac HTM.out.at_.kids;obtain ⟨k2,hk2⟩:∃ k2,md.n.cs.length=k2:=⟨_,rfl⟩;have KL2:=Th hk2;rw [hk2] at hdv;have EV2:=Th hdv
    have hk3:k2=k+1:=by rw [←hk2,HDC.out,HCL.out,←HEL.out]
    have CLE2:Hid (c+1≤k2):=by show _≤_;have:=CLE.out;omega
    have hcB:c≤900040:=by have:=CLE.out;omega
    have c4:wc.cell? ⟨mu.nb,4,none⟩=some md.cv:=by have:=HTM.out.at_.blk.cell 4;rw [MNB2.out] at this;simpa using this
    rw [hdv] at c4
    have HMD:Hid (∀ x∈M,x<wc.heap.size):=fun x hx=>by have:=HMB.out x hx;have:=hTc.only.size;omega
    have OV2:Hid (Only [] wc (wc.drew.alloc (.cells [.int .i64 o.n.id].toArray 3))):=(Only.refl _ _).drew.alloc _;have SV2:Hid ((wc.drew.alloc (.cells [.int .i64 o.n.id].toArray 3)).cell? ⟨og,i,none⟩=some (.pointer (some ⟨o.nb,0,none⟩))∧(wc.drew.alloc (.cells [.int .i64 o.n.id].toArray 3)).cell? ⟨o.nb,0,none⟩=some (.int .i64 o.n.id)):=⟨OV2.out.cell z0 (by simp),OV2.out.cell z1 (by simp)⟩;have m4c:(wc.alloc (.cells #[.int .i64 o.n.id] 3)).cell? ⟨mu.nb,4,none⟩=some (.slice da k2 dc):=((Only.refl [] wc).alloc _).cell c4 (by simp)
    have IW:Hid (IntKind.i64.wrap ((c:Int)+1)=(c:Int)+1):=by show _=_;rw [Yi];omega
    have INS2:Hid (Calls Tryz.prog 65 #[.slice da k2 dc,.int .i64 ((c:Int)+1),.slice (some ⟨wc.heap.size,0,none⟩) 1 1] (wc.drew.alloc (.cells [.int .i64 o.n.id].toArray 3)) fun e w'=>∃ v',e=.returned v'∧Grew (wc.drew.alloc (.cells [.int .i64 o.n.id].toArray 3)) w' 3 1 (.slice da k2 dc) v' (k2+1) ((intsC md.n.cs).take (c+1)++[.int .i64 o.n.id]++(intsC md.n.cs).drop (c+1))):=by
     have hown:=Xad HTM.out.at_.kids OV2.out;rw [hdv,KL2.out] at hown
     have h9:=IJ.slInsert_any hown (Blk.new [.int .i64 o.n.id] 3 wc.drew) rfl (fun k' hk' e=>by
      have h1:=Xbk HTM.out.at_.kids (by rw [hdv];exact hk');have h2:wc.drew.heap.size=wc.heap.size:=rfl
      omega) CLE2.out (Xkb _) (by intro u hu;simp at hu;subst hu;rfl) (by omega)
     rw [show ((c+1:Nat):Int)=(c:Int)+1 from by omega] at h9;exact h9
    have FIN:Hid (∀ v2,(md.insC v2 (c+1) o.n.id).n=⟨mu.n.id,mu.n.leaf,(ups (mu.n.es,mu.n.cs) ((seps F.length l).take (i+1))).1,(ups (mu.n.es,mu.n.cs) ((seps F.length l).take (i+1))).2⟩):=fun v2=>by
     have hs:(seps F.length l).take (i+1)=(seps F.length l).take i++[((qk,qx),o.n.id)]:=by rw [Xg,SEP.out i _ o HQ.out ho];rfl
     have hu:ups (mu.n.es,mu.n.cs) ((seps F.length l).take (i+1))=up1 (ups (mu.n.es,mu.n.cs) ((seps F.length l).take i)) ((qk,qx),o.n.id):=by rw [hs];unfold ups;rw [List.foldl_append];rfl
     rw [hu,←hmd];have h1:=HN.out;have hc':=HC.out;unfold MNd.insC MNd.insE up1;simp only;rw [←hc',h1]
    subst hoa
    have hj0:(i:Int)<oc+1:=by omega
    clear hTc hmd hno hog ho hk2 hdv hk3
    go_wp2_with fail
    refine wp_region_held_drew (S:=fun w'=>w'.cell? ⟨og,i,none⟩=some (.pointer (some ⟨o.nb,0,none⟩))∧w'.cell? ⟨o.nb,0,none⟩=some (.int .i64 o.n.id)) (by kernel_rfl) ⟨((Only.refl [] wc).drew).cell z0 (by simp),((Only.refl [] wc).drew).cell z1 (by simp)⟩ (fun hH=>?_)
    refine tkA 0 125 (.pointer (some ⟨mu.nb,0,none⟩)) hH ?_
    refine tkA 1 126 (.pointer (some ⟨mu.nb,0,none⟩)) hH ?_
    refine tkA 2 127 (.pointer (some ⟨mu.nb,0,none⟩)) hH ?_
    refine tkA 3 128 (.pointer (some ⟨mu.nb,4,none⟩)) hH ?_
    refine tkA 5 130 (.int .i64 c) hH ?_
    refine Xaq 6 131 (.int .i64 ((c:Int)+1)) rfl rfl (by kernel_rfl) (by kernel_rfl) (by kernel_rfl) (fun _ _ _ h=>h) (Or.inl ⟨by rfl,fun w1 hw1=>by go_simp;exact IW.out⟩) hH ?_
    (try simp only [Act.put,qSa,qSz,qSs])
    refine tkA 7 132 (.slice (some ⟨og,0,none⟩) L oc) hH ?_
    refine tkA 8 133 (.int .i64 i) hH ?_
    refine tkA 9 134 (.pointer (some ⟨og,i,none⟩)) hH ?_
    refine Xaq 10 135 (.pointer (some ⟨o.nb,0,none⟩)) rfl rfl (by kernel_rfl) (by kernel_rfl) (by kernel_rfl) (fun _ _ _ h=>h) (Or.inl ⟨by rfl,fun w1 hw1=>by have hw2:=hw1.1;go_simp⟩) hH ?_
    (try simp only [Act.put,qSa,qSz,qSs])
    refine tkA 11 136 (.pointer (some ⟨o.nb,0,none⟩)) hH ?_
    refine tkA 12 137 (.pointer (some ⟨o.nb,0,none⟩)) hH ?_
    refine Xaq 13 138 (.int .i64 o.n.id) rfl rfl (by kernel_rfl) (by kernel_rfl) (by kernel_rfl) (fun _ _ _ h=>h) (Or.inl ⟨by rfl,fun w1 hw1=>by have hw2:=hw1.2;go_simp⟩) hH ?_
    (try simp only [Act.put,qSa,qSz,qSs])
    refine Xht 4 14 rfl rfl (by kernel_rfl) (by rfl) (by rfl) (fun K hK=>?_) (fun K hK=>?_)
    ·go_wp2_with fail
     refine hK.out _ _ hH ?_
     clear hK K
     (try simp only [Act.put,qSa,qSz,qSs])
     refine oneA 14 fun K hK=>?_
     go_wp2_with fail
     refine hK.out _ _ SV2.out ?_
     clear hK K
     (try simp only [Act.put,qSa,qSz,qSs])
     refine oneA 15 fun K hK=>?_
     go_wp2_with (go_at_call 65;refine INS2.out.mono ?_;rintro e w6 ⟨v',rfl,hg6⟩)
     obtain ⟨va,vc,rfl⟩:=hg6.shape;obtain ⟨k4,kf,hT6⟩:=Xot (HTM.out.at_.past OV2.out) (fun x hx=>Ye (HMD.out x hx) OV2.out.size) (by rw [KL2.out];exact EV2.out) (by rw [KL2.out];exact CLE2.out) (by rw [KL2.out];exact hg6)
     rw [MNB2.out] at k4 kf hT6;have hC6:w6.cell? ⟨og,i,none⟩=some (.pointer (some ⟨o.nb,0,none⟩))∧w6.cell? ⟨o.nb,0,none⟩=some (.int .i64 o.n.id):=⟨hg6.only.cell SV2.out.1 (fun hm=>ONO.out.1 (by simp only [MNd.blocks,EV2.out];simp only [Zk] at hm;simp [hm])),hg6.only.cell SV2.out.2 (fun hm=>ONO.out.2 (by simp only [MNd.blocks,EV2.out];simp only [Zk] at hm;simp [hm]))⟩
     refine hK.out _ _ hC6 ?_
     clear hK K hH
     (try simp only [Act.put,qSa,qSz,qSs])
     refine tkA 16 141 (.pointer (some ⟨mu.nb,0,none⟩)) hC6 ?_
     refine tkA 17 142 (.pointer (some ⟨mu.nb,4,none⟩)) hC6 ?_
     rw [KL2.out] at k4
     refine oneA 18 fun K hK=>?_
     go_wp2_with fail
     have hC7:(w6.setCell ⟨mu.nb,4,none⟩ (.slice va (k2+1) vc)).cell? ⟨og,i,none⟩=some (.pointer (some ⟨o.nb,0,none⟩))∧(w6.setCell ⟨mu.nb,4,none⟩ (.slice va (k2+1) vc)).cell? ⟨o.nb,0,none⟩=some (.int .i64 o.n.id):=⟨hT6.only.cell SV2.out.1 ONO.out.1,hT6.only.cell SV2.out.2 ONO.out.2⟩
     refine hK.out _ _ hC7 ?_
     clear hK K
     (try simp only [Act.put,qSa,qSz,qSs])
     refine wpAnyH_done (by kernel_rfl) ?_ _;have TT:=Th (HTM.out.trans (Turn.ahead OV2.out hT6));clear hg6 hT6 k4 kf hC6 hC7
     go_wp2_with fail
     go_roundg (L-(i+1))
     case measure=>have:=HGK.out;omega
     case rel=>exact ⟨i+1,_,rfl,by omega,by go_num,TT.out,FIN.out _⟩
    ·go_wp2_with fail
     refine hK.out _ _ SV2.out ?_
     clear hK K
     (try simp only [Act.put,qSa,qSz,qSs])
     refine oneA 4 fun K hK=>?_
     go_wp2_with fail
     refine hK.out _ _ SV2.out ?_
     clear hK K
     (try simp only [Act.put,qSa,qSz,qSs])
     refine oneA 15 fun K hK=>?_
     go_wp2_with (go_at_call 65;refine INS2.out.mono ?_;rintro e w6 ⟨v',rfl,hg6⟩)
     obtain ⟨va,vc,rfl⟩:=hg6.shape;obtain ⟨k4,kf,hT6⟩:=Xot (HTM.out.at_.past OV2.out) (fun x hx=>Ye (HMD.out x hx) OV2.out.size) (by rw [KL2.out];exact EV2.out) (by rw [KL2.out];exact CLE2.out) (by rw [KL2.out];exact hg6)
     rw [MNB2.out] at k4 kf hT6;have hC6:w6.cell? ⟨og,i,none⟩=some (.pointer (some ⟨o.nb,0,none⟩))∧w6.cell? ⟨o.nb,0,none⟩=some (.int .i64 o.n.id):=⟨hg6.only.cell SV2.out.1 (fun hm=>ONO.out.1 (by simp only [MNd.blocks,EV2.out];simp only [Zk] at hm;simp [hm])),hg6.only.cell SV2.out.2 (fun hm=>ONO.out.2 (by simp only [MNd.blocks,EV2.out];simp only [Zk] at hm;simp [hm]))⟩
     refine hK.out _ _ hC6 ?_
     clear hK K hH
     (try simp only [Act.put,qSa,qSz,qSs])
     refine tkA 16 141 (.pointer (some ⟨mu.nb,0,none⟩)) hC6 ?_
     refine tkA 17 142 (.pointer (some ⟨mu.nb,4,none⟩)) hC6 ?_
     rw [KL2.out] at k4
     refine oneA 18 fun K hK=>?_
     go_wp2_with fail
     have hC7:(w6.setCell ⟨mu.nb,4,none⟩ (.slice va (k2+1) vc)).cell? ⟨og,i,none⟩=some (.pointer (some ⟨o.nb,0,none⟩))∧(w6.setCell ⟨mu.nb,4,none⟩ (.slice va (k2+1) vc)).cell? ⟨o.nb,0,none⟩=some (.int .i64 o.n.id):=⟨hT6.only.cell SV2.out.1 ONO.out.1,hT6.only.cell SV2.out.2 ONO.out.2⟩
     refine hK.out _ _ hC7 ?_
     clear hK K
     (try simp only [Act.put,qSa,qSz,qSs])
     refine wpAnyH_done (by kernel_rfl) ?_ _;have TT:=Th (HTM.out.trans (Turn.ahead OV2.out hT6));clear hg6 hT6 k4 kf hC6 hC7
     go_wp2_with fail
     go_roundg (L-(i+1))
     case measure=>have:=HGK.out;omega
     case rel=>exact ⟨i+1,_,rfl,by omega,by go_num,TT.out,FIN.out _⟩
  ·have hiL:i=L:=by omega
   subst hiL
   have hnlt:¬(i:Int)<i:=by omega
   have hN2:=HN.out
   have hls:(seps F.length l).length=l.length:=by have:=congrArg List.length (Xch l F.length);simpa using this
   rw [Ya (by rw [hls,LE.out];exact Zq _)] at hN2;have hsz:w1.heap.size≤wr.heap.size:=HT.out.only.size
   have hOth:∀ n,NodeAt w1 M n∧Apart mu n→NodeAt wr M n∧Apart mi n:=fun n hn=>HT.out.other U1.out hn.1 hn.2
   have hMb:∀ x∈mi.blocks,x∈mu.blocks∨w.heap.size≤x:=fun x hx=>by
    rcases HT.out.new x hx with h | h
    ·exact .inl h
    ·exact .inr (by have:=S1.out;omega)
   have hNb:∀ o∈news,∀ x∈o.blocks,w.heap.size≤x:=fun o ho x hx=>PR.out.nodes.new o ho x hx
   have hX1:rb∉mu.blocks:=U1.out.no RB1.out (by decide)
   have hold:∀ f∈us++F,∀ x∈f.blocks,x<w.heap.size:=fun f hf=>(HH.out.nodes.at_ f (PW.out f hf).1).lt
   have hpw:∀ f∈us,∀ g∈F,Apart f g:=fun f hf g hg=>by
    have h1:=HH.out.nodes.apart;rw [Zu] at h1;exact (Zn.1 h1).2.2 f hf g (by simp [hg])
   have hpu:us.Pairwise Apart:=by
    have h1:=HH.out.nodes.apart;rw [Zu] at h1;exact (Zn.1 h1).1
   have hpf:F.Pairwise Apart:=(Zn.1 HH.out.nodes.apart).2.1
   have hAt:SplAt wr M base gb fv1 rb rcs (us++[mi]) (F++news):={
    nodes:=by
     have hF:=HH.out.nodes;have hb:=HB.out;refine ⟨fun n hn=>?_,fun n hn x hx=>?_,Zn.2 ⟨Zn.2 ⟨hpu,Xs _ _,fun f hf g hg=>?_⟩,Zn.2 ⟨hpf,PR.out.nodes.apart,fun f hf g hg x hx hy=>?_⟩,fun f hf g hg=>?_⟩⟩
     ·rcases Za.1 hn with h | h
      ·rcases Za.1 h with h | h
       ·exact (hOth n (FN1.out n (by simp [h]))).1
       ·simp at h;rw [h];exact HT.out.at_
      ·rcases Za.1 h with h | h
       ·exact (hOth n (FN1.out n (by simp [h]))).1
       ·exact (hOth n (FNN.out n h)).1
     ·rcases Za.1 hn with h | h
      ·rcases Za.1 h with h | h
       ·exact hF.new n (by simp [h]) x hx
       ·simp at h
        rw [h] at hx
        rcases hMb x hx with h1 | h1
        ·exact hF.new mu (by simp) x h1
        ·omega
      ·rcases Za.1 h with h | h
       ·exact hF.new n (by simp [h]) x hx
       ·have:=hNb n h x hx;omega
     ·simp at hg;rw [hg];exact (hOth f (FN1.out f (by simp [hf]))).2.symm
     ·have h1:=hold f (by simp [hf]) x hx
      have h2:=hNb g hg x hy;omega
     ·rcases Za.1 hf with h | h
      ·rcases Za.1 hg with h' | h'
       ·exact hpw f h g h'
       ·intro x hx hy
        have h1:=hold f (by simp [h]) x hx;have h2:=hNb g h' x hy;omega
      ·simp at h
       rw [h]
       rcases Za.1 hg with h' | h'
       ·exact (hOth g (FN1.out g (by simp [h']))).2
       ·exact (hOth g (FNN.out g h')).2
    grow:=PR.out.grow.turn HT.out U1.out
    row:=HT.out.only.blk RB1.out hX1
    ptr:=fun j f hf=>by
     rcases Yv j us.length with h | h
     ·rw [Xo h] at hf
      exact HH.out.ptr j f (by rw [Xo h];exact hf)
     ·rw [Yo h] at hf
      have hj:j=us.length:=by
       have:=(Zh.1 hf).1
       simp at this;omega
      rw [hj,Wd] at hf;simp at hf;rw [←hf,hj,HH.out.ptr us.length mu (by rw [Yo (Zq _)];simp)]
      unfold ptrN;rw [HT.out.nb]
    rne:=RNE.out }
   have RX:=RC.out wr fv1 mi (F++news) (by have:=S1.out;omega) hAt HT.out.nb HT.out.root hN2 (by rw [Zs,PR.out.ns]) (fun f hf=>by
    rcases Za.1 hf with h | h
    ·exact HR.out f h
    ·exact PR.out.roots f h)
   unfold Xcm at RX;rw [Ze,Zt,UL.out] at RX
   have hw3:IntKind.i64.wrap ((n:Int)+2-1)=n+1:=by rw [Yi];omega
   have hcap2:(n:Int)+1≤cap:=by omega
   have hcap3:n+1≤cap:=by omega
   have hn0:(0:Int)≤(n:Int)+1:=by omega
   have RXH:=Th RX;have HMB:=Th hMb;have HNB:=Th hNb;have HAT:=Th hAt;have M4A:Hid (NodeAt wr M m4∧Apart mi m4):=hOth m4 FN4.out
   have M4B:Hid (∀ f∈us++F,Apart m4 f):=fun f hf x hx hy=>by
    rcases M4.out x hx with h | h
    ·exact (PW.out f hf).2.1 x (by rw [h];simp [MNd.blocks]) hy
    ·have:=hold f hf x hy;omega
   clear RX hMb hNb hAt hN2 hOth hX1 hsz hold hpw hpu hpf hls
   go_wp2_with (go_at_call 36;refine RXH.out.mono ?_;rintro e w7 ⟨ws',Fm,fv3,rfl,hres⟩;have RES:=Th hres;clear hres)
   go_end0
   have res:=RES.out;have at1:=HAT.out;have hs1:=S1.out;have hgk:∀ x∈growX gb fv1,∀ cs t,Blk wr x cs t→t=89∨t=75:=Xcr at1.grow
   have hX7:∀ x∈(us++[mi]).flatMap MNd.blocks++growX gb fv1,(∃ f∈us++[mi],x∈f.blocks)∨x∈growX gb fv1:=fun x hx=>by
    rcases Za.1 hx with h | h
    ·obtain ⟨f,hf,hx⟩:=Yl.1 h;exact .inl ⟨f,hf,hx⟩
    ·exact .inr h
   have hap4:∀ f∈us++[mi],Apart m4 f:=fun f hf=>by
    rcases Za.1 hf with h | h
    ·exact M4B.out f (by simp [h])
    ·simp at h;rw [h];exact M4A.out.2.symm
   have hapF:∀ f∈F++news,Apart m4 f:=fun f hf=>by
    rcases Za.1 hf with h | h
    ·exact M4B.out f (by simp [h])
    ·exact PR.out.apart f h
   have hm47:NodeAt w7 M m4:=M4A.out.1.later res.only (fun x hx cs hb=>by
     rcases hX7 x hx with ⟨f,hf,hx⟩ | h
     ·exact (at1.nodes.at_ f (Za.2 (.inl hf))).foot x hx cs hb
     ·rcases hgk x h cs _ hb with h | h <;> exact absurd h (by decide)) (fun x hx hm=>by
     rcases hX7 x hm with ⟨f,hf,hx2⟩ | h
     ·exact hap4 f hf x hx hx2
     ·obtain ⟨cs,t,hb,ht⟩:=M4A.out.1.blkOf hx
      rcases hgk x h cs t hb with h | h <;> rw [h] at ht <;> simp at ht)
   have hA4:∀ f∈ws'++Fm,Apart m4 f:=fun f hf x hx hy=>by
    rcases res.blocks f hf x hy with ⟨f0,hf0,hx0⟩ | h
    ·rcases Za.1 hf0 with h | h
     ·exact hap4 f0 h x hx hx0
     ·exact hapF f0 h x hx hx0
    ·have:=M4A.out.1.lt x hx;omega
   have hwl:ws'.length=us.length+1:=by have:=congrArg List.length res.nbs;simpa using this
   have hOw:Only ((us++[mu,m]).flatMap MNd.blocks++growX gb fv) w wr:=(O1.out.mono (M':=(us++[mu,m]).flatMap MNd.blocks++growX gb fv) (fun x hx=>by
    rcases Zg.1 hx with h | h
    ·exact .inl (by rw [h];simp [MNd.blocks])
    ·exact .inl (Za.2 (.inr h)))).trans HT.out.only (fun x hx=>.inl (by simp [hx]))
   refine ⟨ws'++[m4],Fm,fv3,rfl,⟨⟨⟨fun f hf=>?_,fun f hf x hx=>?_,?_⟩,res.at_.grow,res.at_.row,fun j f hf=>?_,res.at_.rne⟩,?_,?_,?_,res.fs,res.froot,fun f hf x hx=>?_,?_⟩⟩
   ·simp only [Za,Zo] at hf
    rcases hf with (h | h) | h
    ·exact res.at_.nodes.at_ f (by simp [h])
    ·rw [h];exact hm47
    ·exact res.at_.nodes.at_ f (by simp [h])
   ·simp only [Za,Zo] at hf
    rcases hf with (h | h) | h
    ·exact res.at_.nodes.new f (by simp [h]) x hx
    ·rw [h] at hx
     rcases M4.out x hx with h1 | h1
     ·exact HH.out.nodes.new m (by simp) x (by rw [h1];simp [MNd.blocks])
     ·have:=HB.out;omega
    ·exact res.at_.nodes.new f (by simp [h]) x hx
   ·have hpr:=Zn.1 res.at_.nodes.apart
    refine Zn.2 ⟨Zn.2 ⟨hpr.1,Xs _ _,fun f hf g hg=>?_⟩,hpr.2.1,fun f hf g hg=>?_⟩
    ·simp at hg;rw [hg];exact (hA4 f (by simp [hf])).symm
    ·rcases Za.1 hf with h | h
     ·exact hpr.2.2 f h g hg
     ·simp at h;rw [h];exact hA4 g (by simp [hg])
   ·rcases Yv j ws'.length with h | h
    ·rw [Xo h] at hf
     exact res.at_.ptr j f hf
    ·rw [Yo h] at hf
     have hj:j=ws'.length:=by
      have:=(Zh.1 hf).1
      simp at this;omega
     rw [hj,Wd] at hf;simp at hf;rw [←hf,hj,hwl,HH.out.ptr (us.length+1) m (by rw [Yo (by omega)];simp)]
     unfold ptrN;rw [PR.out.nb]
   ·rw [Zs,res.nbs];simp [HT.out.nb,PR.out.nb]
   ·rw [Zs,res.roots];simp [HT.out.root,PR.out.root]
   ·rw [Zs,res.ns];simp [PR.out.n]
   ·simp only [Za,Zo] at hf
    have hgen:∀ f∈ws'++Fm,∀ x∈f.blocks,(∃ m0∈us++[mu,m]++F,x∈m0.blocks)∨w.heap.size≤x:=fun f hf x hx=>by
     rcases res.blocks f hf x hx with ⟨f0,hf0,hx0⟩ | h
     ·simp only [Za,Zo] at hf0
      rcases hf0 with (h | h) | h | h
      ·exact .inl ⟨f0,by simp [h],hx0⟩
      ·rw [h] at hx0
       rcases HMB.out x hx0 with h1 | h1
       ·exact .inl ⟨mu,by simp,h1⟩
       ·exact .inr h1
      ·exact .inl ⟨f0,by simp [h],hx0⟩
      ·exact .inr (HNB.out f0 h x hx0)
     ·exact .inr (by have:=HT.out.only.size;omega)
    rcases hf with (h | h) | h
    ·exact hgen f (by simp [h]) x hx
    ·rw [h] at hx
     rcases M4.out x hx with h1 | h1
     ·exact .inl ⟨m,by simp,by rw [h1];simp [MNd.blocks]⟩
     ·exact .inr h1
    ·exact hgen f (by simp [h]) x hx
   ·refine hOw.trans res.only (fun x hx=>?_)
    rcases hX7 x hx with ⟨f,hf,hx⟩ | h
    ·rcases Za.1 hf with h | h
     ·exact .inl (Za.2 (.inl (Yl.2 ⟨f,by simp [h],hx⟩)))
     ·simp at h
      rw [h] at hx
      rcases HMB.out x hx with h1 | h1
      ·exact .inl (Za.2 (.inl (Yl.2 ⟨mu,by simp,h1⟩)))
      ·exact .inr h1
    ·simp only [growX,Zg,Zk] at h
     rcases h with h | h
     ·exact .inl (by simp [growX,h])
     ·rcases PR.out.lies x h with h1 | h1
      ·exact .inl (by simp [growX,h1])
      ·exact .inr h1
end T
namespace T
open Go Go.RowKit D B C G P H
theorem Xkq {n:Nd} {us F W' F':List Nd} (h:Splits n us F W' F'):F.length≤F'.length:=by
 induction h with
 | fits=>exact Zq _
 | root hf hp hs ih=>simp at ih;omega
 | up hf hp hs ih=>simp at ih;omega
structure WayK (n:Nd) (us:List Nd):Prop where
 kids:n.cs.length=if n.leaf then 0 else n.es.length+1
 keys:Keys n.es
 len:n.es.length+40*us.length≤100000
 ups:∀ u∈us,u.leaf=false∧u.cs.length=u.es.length+1∧Keys u.es∧WUp u.es∧u.es.length≤40
theorem splits_any {n:Nd} {us F W' F':List Nd} (hs:Splits n us F W' F'):∀ {w:World} {M:List Nat} {base gb:Nat} {fv:Value} {rb cap:Nat} {rcs:List Value} {ms Fm:List MNd} {m:MNd},m.n=n→ms.map (·.n)=us.reverse→Fm.map (·.n)=F →
  SplAt w M base gb fv rb rcs (ms++[m]) Fm→(∀ x∈M,x<w.heap.size)→base≤w.heap.size→WayK n us→(∀ (i:Nat) (f:MNd),(ms++[m])[i]?=some f→f.root=decide (i=0))→(∀ f∈Fm,f.root=false)→ms.length+1≤cap→F'.length≤800000 →
  Xcm w M base gb fv rb cap rcs (ms++[m]) Fm W' F':=by
 induction hs with
 | @fits n us F hf =>
  intro w M base gb fv rb cap rcs ms Fm m hn hms hFm h hM hb hW hr hF hcap hl;have hl2:=hW.len
  have e:us.length=ms.length:=by have:=congrArg List.length hms;simpa using this.symm
  subst hn hFm;have:=splits_fit h hW.keys (by omega) hf hF hcap (by omega);rw [hms,List.reverse_reverse] at this;exact this
 | @root n F p l W' F' hf hp hs ih =>
  intro w M base gb fv rb cap rcs ms Fm m hn hms hFm h hM hb hW hr hF hcap hl
  have e:ms=[]:=by simpa using hms
  subst e hn
  have hFl:Fm.length=F.length:=by rw [←hFm];simp
  have hmono:=Xkq hs;simp only [Ze,Zz,Xbu] at hmono;have hl2:=hW.len;have hft:=Xef hp hW.keys hf;have hrt:=hr 0 m rfl;simp only [decide_true] at hrt;rw [←hFl] at hs ih;refine Xpn h hrt hM hb hW.keys hW.kids (by omega) hf hp (by omega) hF hcap (fun w1 fv1 m1 F1 hs1 h1 hnb hroot hn1 hF1 hr1=>?_);refine ih (ms:=[]) hn1 rfl (by rw [hF1,hFm]) h1 (fun x hx=>Ye (hM x hx) hs1) (Zp hb hs1) ⟨by simp [ids_len],?_,?_,by simp⟩ (fun i f hf=>?_) hr1 hcap hl
  ·exact hW.keys.fsts fun x hx=>(hft.2.2.1 x hx).2.1
  ·have:=hft.2.2.2.2
   simp only [Zl,Wn];simp only [Wn] at hl2;omega
  ·cases i with
   | zero=>simp at hf;rw [←hf];simpa using hroot
   | succ i=>simp at hf
 | @up n u us F p l W' F' hf hp hs ih =>
  intro w M base gb fv rb cap rcs ms Fm m hn hms hFm h hM hb hW hr hF hcap hl;subst hn
  have hFl:Fm.length=F.length:=by rw [←hFm];simp
  obtain ⟨ms0,mu,e,hms0,hmu⟩:∃ ms0 mu,ms=ms0++[mu]∧ms0.map (·.n)=us.reverse∧mu.n=u:=by
   rw [List.reverse_cons] at hms;obtain ⟨a,b,e,ha,hb⟩:=List.map_eq_append_iff.1 hms
   obtain ⟨x,hx,hx2⟩:∃ x,b=[x]∧x.n=u:=by
    match b,hb with
    | [x],hb=>exact ⟨x,rfl,by simpa using hb⟩
   exact ⟨a,x,by rw [e,hx],ha,hx2⟩
  subst e hmu;have hmono:=Xkq hs;simp only [Ze,Xbu] at hmono;have hl2:=hW.len;simp only [Zz] at hl2;have hft:=Xef hp hW.keys hf;obtain ⟨u1,u2,u3,u4,u5⟩:=hW.ups mu.n (by simp)
  have hrt:m.root=false:=by have:=hr (ms0.length+1) m (by rw [Yo (by simp)];simp);simpa using this
  have hul:us.length=ms0.length:=by have:=congrArg List.length hms0;simpa using this.symm
  rw [←hFl] at hs ih
  have e2:ms0++[mu]++[m]=ms0++[mu,m]:=by simp
  rw [e2] at h hr ⊢;simp only [Ze,Zt] at hcap;refine splits_upS h hrt hM hb hW.keys hW.kids (by omega) hf hp (by omega) u2 u4 u5 hF (by omega) (by omega) (fun w1 fv1 m1 F1 hs1 h1 hnb hroot hn1 hF1 hr1=>?_)
  have hsl:(seps Fm.length l).length=l.length:=by have:=congrArg List.length (Xch l Fm.length);simpa using this
  obtain ⟨o1,o2,o3⟩:=ups_ok (seps Fm.length l) (u:=(mu.n.es,mu.n.cs)) u4 u2;rw [hsl] at o2 o3;refine ih hn1 hms0 (by rw [hF1,hFm]) h1 (fun x hx=>Ye (hM x hx) hs1) (Zp hb hs1) ⟨?_,?_,?_,fun v hv=>hW.ups v (by simp [hv])⟩ (fun i f hf=>?_) hr1 (by omega) hl
  ·rw [u1]
   simp only [Bool.false_eq_true,if_false]
   rw [o2,o3];simp only;omega
  ·refine (u3.append (hW.keys.fsts (l:=l) fun x hx=>(hft.2.2.1 x hx).2.1)).sub fun e he=>?_
   have:=(Xnv _ _ _).1 he;rw [Xch] at this;exact Za.2 this
  ·have:=hft.2.2.2.2
   simp only at o2 ⊢
   rw [o2];omega
  ·rcases Yv i ms0.length with h | h
   ·rw [Xo h] at hf
    exact hr i f (by rw [Xo h];exact hf)
   ·rw [Yo h] at hf
    have hj:i=ms0.length:=by
     have:=(Zh.1 hf).1
     simp at this;omega
    rw [hj,Wd] at hf;simp at hf;rw [←hf,hroot,hj];exact hr ms0.length mu (by rw [Yo (Zq _)];simp)
end T
end Go.Proofs.YtiijokopcgnokaaGreat
