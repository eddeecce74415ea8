import Derived.Test.YtiijokopcgnokaaGreatWTnL
set_option linter.unusedSimpArgs false
set_option linter.unusedVariables false
namespace Go.Proofs.YtiijokopcgnokaaGreat.T
open Go Go.RowKit D B C G P H
theorem ids_get : ∀ {n m i:Nat} {x:Int},(ids m n)[i]?=some x→x = -1-((m+i:Nat):Int)
 | 0,m,i,x,h=>by simp [ids] at h
 | n+1,m,0,x,h=>by simp [ids] at h;exact h.symm
 | n+1,m,i+1,x,h=>by
  simp only [ids,Zd] at h;have:=ids_get h
  rw [this];omega
theorem ids_len : ∀ (n m:Nat),(ids m n).length=n
 | 0,m=>rfl
 | n+1,m=>by simp [ids,ids_len n]
theorem Turn.other {w w':World} {M:List Nat} {m m' n:MNd} (h:Turn w w' M m m') (hm:NodeAt w M m) (hn:NodeAt w M n) (ha:Apart m n):NodeAt w' M n∧Apart m' n :=
 ⟨hn.later h.only hm.foot (fun x hx hx2=>ha x hx2 hx),fun x hx hy=>by
  rcases h.new x hx with h1 | h1
  ·exact ha x h1 hy
  ·have:=hn.lt x hy;omega⟩
theorem NodeAt.blkOf {w:World} {M:List Nat} {m:MNd} (h:NodeAt w M m) {x:Nat} (hx:x∈m.blocks):∃ cs t,Blk w x cs t∧(t=77∨t=43∨t=3):=by
 obtain ⟨cs,t,hb⟩:∃ cs t,Blk w x cs t:=by
  have hx':=hx;simp only [MNd.blocks,Zg,Za,Zk] at hx'
  rcases hx' with rfl | hx' | hx'
  ·exact ⟨_,_,h.blk⟩
  ·obtain ⟨cs,hb⟩:=Xag h.ents hx';exact ⟨_,_,hb⟩
  ·obtain ⟨cs,hb⟩:=Xag h.kids hx';exact ⟨_,_,hb⟩
 exact ⟨cs,t,hb,h.kind hx hb⟩
theorem NodeAt.no {w:World} {M:List Nat} {m:MNd} (h:NodeAt w M m) {x:Nat} {cs:List Value} {t:TypeId} (hb:Blk w x cs t) (ht:t≠77∧t≠43∧t≠3):x∉m.blocks:=fun hx=>by
 rcases h.kind hx hb with h1 | h1 | h1
 ·exact ht.1 h1
 ·exact ht.2.1 h1
 ·exact ht.2.2 h1
theorem GrowAt.turn {w w':World} {M:List Nat} {m m':MNd} {base gb:Nat} {fv:Value} {F:List MNd} (h:GrowAt w M base gb fv F) (hT:Turn w w' M m m') (hm:NodeAt w M m):GrowAt w' M base gb fv F :=
 h.later hT.only (fun x hx cs t hb=>by rcases hm.kind hx hb with h | h | h <;> rw [h] <;> decide)
theorem Xny {w1 w2:World} {M:List Nat} {m:MNd} {co:Option Addr} {cc:Nat} {v':Value} {ch:Int} (h1:NodeAt w1 M m) (hM:∀ x∈M,x<w1.heap.size) (hcv:m.cv=.slice co m.n.cs.length cc)
  (hg2:Grew w1 w2 3 1 (.slice co m.n.cs.length cc) v' (m.n.cs.length+1) (intsC m.n.cs++[.int .i64 ch])) :
  w2.cell? ⟨m.nb,4,none⟩=some (.slice co m.n.cs.length cc)∧w2.frozen? ⟨m.nb,4,none⟩=false∧Turn w1 (w2.setCell ⟨m.nb,4,none⟩ v') M m (m.addC v' ch):=by
 have hg3:Grew w1 w2 3 1 m.cv v' (m.n.cs++[ch]).length (intsC (m.n.cs++[ch])):=by
  rw [hcv,Ze]
  have e:intsC (m.n.cs++[ch])=intsC m.n.cs++[.int .i64 ch]:=by simp [intsC]
  rw [e];exact hg2
 have hb:=hg3.only.blk h1.blk (fun hm=>Xaj h1.kids h1.blk (by decide) (by simpa using hm));refine ⟨?_,hb.frozen 4,h1.setCs hg3 hM⟩;rw [hb.cell 4]
 simp [hcv]
set_option maxRecDepth 100000 in
set_option maxHeartbeats 4000000 in
theorem Xpn {w:World} {M:List Nat} {base gb rb cap:Nat} {fv:Value} {rcs:List Value} {F:List MNd} {m:MNd} {p:List Pr × List Int} {l:List (Pr × List Pr × List Int)} {W' F':List Nd} (h:SplAt w M base gb fv rb rcs [m] F) (hrt:m.root=true)
  (hM:∀ x∈M,x<w.heap.size) (hb:base≤w.heap.size) (hk:Keys m.n.es) (hK:m.n.cs.length=if m.n.leaf then 0 else m.n.es.length+1) (hlen:m.n.es.length≤1000000) (hf:fitsP m.n.leaf m.n.es=false) (hp:Parts m.n.leaf m.n.es m.n.cs p l) (hl:F.length+1+l.length≤900000)
  (hr:∀ f∈F,f.root=false) (hcap:1≤cap)
  (hrec:∀ (w1:World) (fv1:Value) (m1:MNd) (F1:List MNd),w.heap.size≤w1.heap.size→SplAt w1 M base gb fv1 rb rcs [m1] F1→m1.nb=m.nb→m1.root=true→m1.n=⟨m.n.id,false,l.map (·.1),(-1-(F.length:Int)) :: ids (F.length+1) l.length⟩ →
   F1.map (·.n)=F.map (·.n)++⟨-1-(F.length:Int),m.n.leaf,p.1,p.2⟩ :: numb m.n.leaf (F.length+1) l→(∀ f∈F1,f.root=false)→Xcm w1 M base gb fv1 rb cap rcs [m1] F1 W' F'):Xcm w M base gb fv rb cap rcs [m] F W' F':=by
 have c0:=h.row.cell 0;rw [h.ptr 0 m rfl] at c0;have hN:=h.nodes.at_ m (by simp);have c1:=hN.blk.cell 1;have c2:=hN.blk.cell 2;simp only [Zd,Zb] at c1 c2;rw [hrt] at c1;have FT:=Th (Xdr hN hk hlen);rw [hf] at FT;have HH:=Th h;have HR:=Th hr;have HM:=Th hM;have HB:=Th hb;have HK:=Th hk;have HKI:=Th hK;have HF:=Th hf;have HP:=Th hp;have HL:=Th hl;have HLEN:=Th hlen;have RC:=Th hrec;have A0:=Th hN;have RT:=Th hrt;have AD:=Th (adds_any (leaf:=m.n.leaf) h.grow hM hb (by omega));unfold Xcm;rw [Zt];unfold ptrN at c0;clear h hr hM hb hk hK hf hp hl hlen hrec hN hrt
 go_enter Tryz.func36,Tryz.ntmps36
 go_upto_region 4 with (first
  | (go_at_call 35;refine FT.out.mono ?_;rintro e w1 ⟨rfl,rfl⟩)
  | (go_at_call 63;refine AD.out.mono ?_;rintro e w1 ⟨nb1,fv1,rfl,hn1,hf1,hg1,hl1,ho1,hx1⟩;have F1:=Th hf1;have G1:=Th hg1;have L1:=Th hl1;have O1:=Th ho1;have NB1:=Th hn1;clear hn1 hf1 hg1 hl1 ho1 hx1 AD))
 have GK:=Th (Xcr HH.out.grow);have A1:Hid (NodeAt w1 M m):=A0.out.free O1.out GK.out;have hnb1:=NB1.out
 have h10:nb1∉m.blocks:=fun hm=>by have:=A0.out.lt _ hm;omega
 have h01:¬m.nb=nb1:=fun e=>h10 (by rw [←e];simp [MNd.blocks])
 obtain ⟨a1,k1,he1⟩:=Xac A1.out.ents;obtain ⟨q1,k2,he2⟩:=Xac A1.out.kids;have b13:=A1.out.blk.cell 3;have b14:=A1.out.blk.cell 4;simp only [Zd,Zb] at b13 b14;rw [he1] at b13;rw [he2] at b14;have b53:w1.cell? ⟨nb1,3,none⟩=some (.slice none 0 0):=F1.out.blk.cell 3;have b54:(w1.setCell ⟨nb1,3,none⟩ (.slice a1 m.L.length k1)).cell? ⟨nb1,4,none⟩=some (.slice none 0 0):=(F1.out.blk.set 3 _).cell 4;have z53:w1.frozen? ⟨nb1,3,none⟩=false:=F1.out.blk.frozen 3;have z54:(w1.setCell ⟨nb1,3,none⟩ (.slice a1 m.L.length k1)).frozen? ⟨nb1,4,none⟩=false:=(F1.out.blk.set 3 _).frozen 4
 have T6:=Th (F1.out.take A1.out h10);rw [he1,he2] at T6;clear c0 c1 c2;refine wp_region_held_drew (S:=fun w'=>Only [nb1] w1 w') (by kernel_rfl) (Only.refl _ _).drew (fun hH=>?_)
 refine tkA 0 34 (.pointer (some ⟨nb1,0,none⟩)) hH ?_
 refine tkA 1 35 (.pointer (some ⟨nb1,0,none⟩)) hH ?_
 refine tkA 2 36 (.pointer (some ⟨m.nb,0,none⟩)) hH ?_
 refine tkA 3 37 (.pointer (some ⟨m.nb,0,none⟩)) hH ?_
 refine tkA 4 38 (.pointer (some ⟨m.nb,3,none⟩)) hH ?_
 refine Xaq 5 39 (.slice a1 m.L.length k1) rfl rfl (by kernel_rfl) (by kernel_rfl) (by kernel_rfl) (fun _ _ _ h=>h) (Or.inl ⟨by rfl,fun w1 hw1=>by have hw2:=hw1.cell b13 (by simpa using h01);go_simp⟩) hH ?_
 (try simp only [Act.put,qSa,qSz,qSs])
 refine tkA 6 40 (.pointer (some ⟨m.nb,0,none⟩)) hH ?_
 refine tkA 7 41 (.pointer (some ⟨m.nb,0,none⟩)) hH ?_
 refine tkA 8 42 (.pointer (some ⟨m.nb,4,none⟩)) hH ?_
 refine Xaq 9 43 (.slice q1 m.n.cs.length k2) rfl rfl (by kernel_rfl) (by kernel_rfl) (by kernel_rfl) (fun _ _ _ h=>h) (Or.inl ⟨by rfl,fun w1 hw1=>by have hw2:=hw1.cell b14 (by simpa using h01);go_simp⟩) hH ?_
 (try simp only [Act.put,qSa,qSz,qSs])
 refine tkA 10 44 (.pointer (some ⟨nb1,0,none⟩)) hH ?_
 refine tkA 11 45 (.pointer (some ⟨nb1,3,none⟩)) hH ?_
 clear hH
 refine oneA 12 fun K hK=>?_
 go_wp2_with fail
 refine hK.out _ _ ((Only.refl _ _).drew.setCell (.inl (by simp)) _) ?_
 clear hK K
 (try simp only [Act.put,qSa,qSz,qSs])
 refine tkA 13 46 (.pointer (some ⟨nb1,0,none⟩)) ((Only.refl _ _).drew.setCell (.inl (by simp)) _) ?_
 refine tkA 14 47 (.pointer (some ⟨nb1,4,none⟩)) ((Only.refl _ _).drew.setCell (.inl (by simp)) _) ?_
 refine oneA 15 fun K hK=>?_
 go_wp2_with fail
 refine hK.out _ _ (((Only.refl _ _).drew.setCell (.inl (by simp)) _).setCell (.inl (by simp)) _) ?_
 clear hK K
 (try simp only [Act.put,qSa,qSz,qSs])
 refine wpAnyH_done (by kernel_rfl) ?_ _;obtain ⟨w2,hw2⟩:∃ w2,((w1.setCell ⟨nb1,3,none⟩ (.slice a1 m.L.length k1)).setCell ⟨nb1,4,none⟩ (.slice q1 m.n.cs.length k2)).drew=w2:=⟨_,rfl⟩
 obtain ⟨mf,hmf⟩:∃ mf,(Xhg nb1 F.length m.n.leaf).with m=mf:=⟨_,rfl⟩
 have O12:Hid (Only [nb1] w1 w2):=by show Only _ _ _;rw [←hw2];exact T6.out.2.drew
 have MF:Hid (NodeAt w2 M mf):=by show NodeAt _ _ _;rw [←hw2,←hmf];exact T6.out.1.past (Only.refl _ _).drew
 rw [hw2]
 have RF:Hid (mf.nb=nb1∧mf.root=false∧mf.n=⟨-1-(F.length:Int),m.n.leaf,m.n.es,m.n.cs⟩):=by
  show _∧_∧_;rw [←hmf];exact ⟨rfl,rfl,rfl⟩
 have A2:Hid (NodeAt w2 M m):=A1.out.later O12.out (fun x hx cs hb=>by simp at hx;subst hx;exact absurd (hb.inj F1.out.blk).2 (by decide)) (fun x hx hm=>by simp at hm;subst hm;exact h10 hx);have G2:Hid (GrowAt w2 M base gb fv1 (F++[mf])):=(G1.out.later O12.out (fun x hx cs t hb=>by simp at hx;subst hx;have:=(hb.inj F1.out.blk).2;subst this;decide)).congr (by rw [←hmf];simp [ptrN,MNd.with,Xhg])
 have O2:Hid (Only (growX gb fv) w w2):=O1.out.trans O12.out (fun x hx=>by simp at hx;subst hx;exact .inr NB1.out);have S2:Hid (w.heap.size≤w2.heap.size):=O2.out.size
 have FN2:Hid (∀ f∈F,NodeAt w2 M f):=fun f hf=>by
  have hfa:=HH.out.nodes.at_ f (by simp [hf]);refine (hfa.free O1.out GK.out).later O12.out (fun x hx cs hb=>by simp at hx;subst hx;exact absurd (hb.inj F1.out.blk).2 (by decide)) (fun x hx hm=>?_)
  simp at hm;subst hm
  have:=hfa.lt _ hx;have:=NB1.out;omega
 have PT:=Th (Xpg HP.out (m:=mf) (by rw [RF.out.2.2]) (by rw [RF.out.2.2]) (by rw [RF.out.2.2]) G2.out MF.out (fun x hx=>Ye (HM.out x hx) S2.out) (Zp HB.out S2.out) HKI.out HK.out HLEN.out HF.out (by have:=HL.out;simp;omega));rw [RF.out.1] at PT;clear hw2 hmf T6 b13 b14 b53 b54 z53 z54 he1 he2
 go_upto_region 6 with (go_at_call 64;refine PT.out.mono ?_;rintro e w3 ⟨m4,news,bv,ov,fv2,Lb,rfl,hp⟩;obtain ⟨ba,bc,rfl⟩:=Xac hp.bt;obtain ⟨oa,oc,rfl⟩:=Xac hp.row.own;have PR:=Th hp;clear hp PT)
 have hO23:=PR.out.only;rw [RF.out.1] at hO23;have O23:=Th hO23
 have hMF2:Hid (Blk w2 nb1 [.int .i64 mf.n.id,.bool mf.root,.bool mf.n.leaf,mf.ev,mf.cv] 77):=by show Blk _ _ _ _;have:=MF.out.blk;rw [RF.out.1] at this;exact this
 have GK2:=Th (Xcr G2.out);have A3:Hid (NodeAt w3 M m):=A2.out.far O23.out hMF2.out h10 GK2.out
 have FN3:Hid (∀ f∈F,NodeAt w3 M f):=fun f hf=>(FN2.out f hf).far O23.out hMF2.out (fun hm=>by
  have hfa:=HH.out.nodes.at_ f (by simp [hf]);have:=hfa.lt _ hm;have:=NB1.out
  omega) GK2.out
 have hrb0:rb<w.heap.size:=HH.out.row.lt
 have hrbX:rb∉growX gb fv:=fun hm=>by
  simp only [growX,Zg,Zk] at hm
  rcases hm with h | h
  ·exact absurd ((h ▸ HH.out.row).inj HH.out.grow.blk).2 (by decide)
  ·exact HH.out.rne h
 have hfv1:∀ k,fv1.ownBlock=some k→fv.ownBlock=some k∨w.heap.size≤k:=L1.out
 have hfv2:∀ k,fv2.ownBlock=some k→fv.ownBlock=some k∨w.heap.size≤k:=fun k hk=>by
  rcases PR.out.lies k hk with h | h
  ·exact hfv1 k h
  ·exact .inr (Zp S2.out h)
 have O3:Hid (Only (growX gb fv) w w3):=O2.out.trans O23.out (fun x hx=>by
  rcases Zg.1 hx with h | h
  ·exact .inr (by rw [h];exact NB1.out)
  ·simp only [growX,Zg,Zk] at h
   rcases h with h | h
   ·exact .inl (by simp [growX,h])
   ·rcases hfv1 x h with h' | h'
    ·exact .inl (by simp [growX,h'])
    ·exact .inr h')
 have RB3:Hid (Blk w3 rb rcs 75):=O3.out.blk HH.out.row hrbX
 have RNE:Hid (fv2.ownBlock≠some rb):=fun h=>by
  rcases hfv2 rb h with h' | h'
  ·exact HH.out.rne h'
  ·omega
 have d0:w3.cell? ⟨nb1,0,none⟩=some (.int .i64 (-1-(F.length:Int))):=by
  have:=PR.out.at_.blk.cell 0;rw [PR.out.nb,RF.out.1,PR.out.n,RF.out.2.2] at this;exact this
 have S3:Hid (w2.heap.size≤w3.heap.size):=O23.out.size;have BA:=A3.out.blk.alloc (.cells [.int .i64 (-1-(F.length:Int))].toArray 3);have e2:=BA.cell 2;have e3:=(BA.set 2 (.bool false)).cell 3;have e4:=((BA.set 2 (.bool false)).set 3 (.slice ba Lb.length bc)).cell 4;have z2:=BA.frozen 2;have z3:=(BA.set 2 (.bool false)).frozen 3;have z4:=((BA.set 2 (.bool false)).set 3 (.slice ba Lb.length bc)).frozen 4;simp only [qSs,qSz,Zd,Zb] at e2 e3 e4;have BZ:=Th (((BA.set 2 (.bool false)).set 3 (.slice ba Lb.length bc)).set 4 (.slice (some ⟨w3.heap.size,0,none⟩) 1 1))
 clear BA hO23 h01
 go_upto_region 7 with fail
 obtain ⟨w4,hw4⟩:∃ w4,((((w3.alloc (.cells #[.int .i64 (-1-(F.length:Int))] 3)).setCell ⟨m.nb,2,none⟩ (.bool false)).setCell ⟨m.nb,3,none⟩ (.slice ba Lb.length bc)).setCell ⟨m.nb,4,none⟩ (.slice (some ⟨w3.heap.size,0,none⟩) 1 1))=w4:=⟨_,rfl⟩
 have OA:Hid (Only [m.nb] w3 w4):=by
  show Only _ _ _;rw [←hw4];exact ((((Only.refl _ _).alloc _).setCell (.inl (by simp)) _).setCell (.inl (by simp)) _).setCell (.inl (by simp)) _
 have B4:Hid (Blk w4 m.nb [.int .i64 m.n.id,.bool m.root,.bool false,.slice ba Lb.length bc,.slice (some ⟨w3.heap.size,0,none⟩) 1 1] 77):=by show Blk _ _ _ _;rw [←hw4];exact BZ.out
 have KB4:Hid (Blk w4 w3.heap.size [.int .i64 (-1-(F.length:Int))] 3):=by
  show Blk _ _ _ _;rw [←hw4]
  have hne:w3.heap.size≠m.nb:=by have:=A3.out.blk.lt;omega
  exact (((Blk.new [.int .i64 (-1-(F.length:Int))] 3 w3).far _ hne).far _ hne).far _ hne
 rw [hw4];clear e2 e3 e4 z2 z3 z4 BZ hw4 d0;have hmlt:m.nb<w.heap.size:=A0.out.blk.lt
 have OF:Hid (Off 5 w3 [m.nb]):=fun x hx cs hb=>by simp at hx;subst hx;exact absurd (hb.inj A3.out.blk).2 (by decide)
 obtain ⟨m5,hm5⟩:∃ m5:MNd,m5=⟨m.nb,m.root,⟨m.n.id,false,l.map (·.1),[-1-(F.length:Int)]⟩,.slice ba Lb.length bc,.slice (some ⟨w3.heap.size,0,none⟩) 1 1,Lb⟩:=⟨_,rfl⟩
 have R5:Hid (m5.nb=m.nb∧m5.root=true∧m5.n=⟨m.n.id,false,l.map (·.1),[-1-(F.length:Int)]⟩):=by show _∧_∧_;rw [hm5];exact ⟨rfl,RT.out,rfl⟩
 have B5:Hid (∀ x∈m5.blocks,x=m.nb∨(w2.heap.size≤x∧(Value.slice ba Lb.length bc).ownBlock=some x)∨x=w3.heap.size):=fun x hx=>by
  rw [hm5] at hx;simp only [MNd.blocks,Zg,Za,Zk] at hx
  rcases hx with h | h | h
  ·exact .inl h
  ·exact .inr (.inl ⟨PR.out.bnew x h,h⟩)
  ·simp [Value.ownBlock] at h;exact .inr (.inr h.symm)
 have N5:Hid (NodeAt w4 M m5):=by
  show NodeAt _ _ _
  have hoff:∀ x∈m5.blocks,x∉M:=fun x hx hm=>by
   have:=HM.out x hm;have:=S2.out
   rcases B5.out x hx with h | ⟨h,_⟩ | h
   ·exact A0.out.off _ (by rw [h];simp [MNd.blocks]) hm
   ·omega
   ·have:=S3.out;omega
  rw [hm5] at hoff ⊢;exact ⟨B4.out,PR.out.lb,Xab PR.out.bt OA.out (fun k hk hm=>by simp at hm;subst hm;have:=PR.out.bnew _ hk;have:=S2.out;omega),Blk.owns KB4.out (by show 1≤maxLen;decide),fun q hq=>(PR.out.keys q hq).later OA.out OF.out,hoff⟩
 have FX4:Hid (∀ n,NodeAt w3 M n→m.nb∉n.blocks→(∀ k,(Value.slice ba Lb.length bc).ownBlock=some k→k∉n.blocks)→NodeAt w4 M n∧Apart m5 n):=fun n hn h1 h2=>by
  refine ⟨hn.later OA.out OF.out (fun x hx hm=>by simp at hm;subst hm;exact h1 hx),fun x hx hy=>?_⟩
  rcases B5.out x hx with h | ⟨_,h⟩ | h
  ·exact h1 (h ▸ hy)
  ·exact h2 x h hy
  ·have:=hn.lt x hy;omega
 have FNF:Hid (∀ f∈F,NodeAt w4 M f∧Apart m5 f):=fun f hf=>by
  have ha:=HH.out.nodes.apart;have hmf:=(Zn.1 ha).2.2 m (by simp) f hf;refine FX4.out f (FN3.out f hf) (hmf _ (by simp [MNd.blocks])) (fun k hk hm=>?_);have h1:=PR.out.bnew k hk;have h2:=(HH.out.nodes.at_ f (by simp [hf])).lt k hm;have:=S2.out;omega
 have M4:Hid (∀ x∈m4.blocks,x=nb1∨w2.heap.size≤x):=fun x hx=>by have:=PR.out.blocks x hx;rw [RF.out.1] at this;exact this
 have FN4:Hid (NodeAt w4 M m4∧Apart m5 m4):=FX4.out m4 PR.out.at_ (fun hm=>by
  rcases M4.out _ hm with h | h
  ·have:=NB1.out;omega
  ·have:=S2.out;omega) (fun k hk=>(PR.out.boff k hk).1)
 have FNN:Hid (∀ n∈news,NodeAt w4 M n∧Apart m5 n):=fun n hn=>FX4.out n (PR.out.nodes.at_ n hn) (fun hm=>by have:=PR.out.nodes.new n hn _ hm;have:=S2.out;omega) (fun k hk=>(PR.out.boff k hk).2 n hn)
 have RB4:Hid (Blk w4 rb rcs 75):=OA.out.blk RB3.out (by simp;intro h;exact absurd ((h ▸ RB3.out).inj A3.out.blk).2 (by decide));have G4:Hid (GrowAt w4 M base gb fv2 ((F++[mf])++news)):=PR.out.grow.later OA.out (fun x hx cs t hb=>by simp at hx;subst hx;have:=(hb.inj A3.out.blk).2;subst this;decide)
 have ROW4:Hid (w4.ownsRow 0 75 1 (.slice oa news.length oc) news.length (news.map ptrN)):=Xab PR.out.row.own OA.out (fun k hk hm=>by simp at hm;subst hm;obtain ⟨cs,hb⟩:=Xag PR.out.row.own hk;exact absurd (hb.inj A3.out.blk).2 (by decide))
 have hnl:news.length=l.length:=by have:=congrArg List.length PR.out.ns;simpa [Xbu] using this
 have NID:Hid (∀ (i:Nat) (o:MNd),news[i]?=some o→o.n.id = -1-((F.length+1+i:Nat):Int)∧(ids (F.length+1) l.length)[i]?=some o.n.id):=fun i o ho=>by
  have h1:(news.map (·.n)).map (·.id)=ids (F.length+1) l.length:=by rw [PR.out.ns,RF.out.2.2,Xen];simp
  have h2:(ids (F.length+1) l.length)[i]?=some o.n.id:=by rw [←h1,Zr,Zr,ho];rfl
  exact ⟨ids_get h2,h2⟩
 obtain ⟨L,hL⟩:∃ L,news.length=L:=⟨_,rfl⟩
 have hLL:L≤1000000:=by have:=HL.out;omega
 have LE:Hid (L=l.length∧news.length=L):=⟨by omega,hL⟩
 have RND:Hid (∀ (i:Nat) wr mi,i<L→Turn w4 wr M m5 mi→∃ og o,oa=some ⟨og,0,none⟩∧news[i]?=some o∧wr.cell? ⟨og,i,none⟩=some (.pointer (some ⟨o.nb,0,none⟩))∧wr.cell? ⟨o.nb,0,none⟩=some (.int .i64 o.n.id)∧o.nb∉mi.blocks∧i<oc+1):=fun i wr mi hi hT=>by
  have hi':i<news.length:=by rw [hL];exact hi
  obtain ⟨ao',cap',hv,hcap',hc⟩:=(RowOn.of ROW4.out).shape;obtain ⟨og,hog,hcell⟩:=hc (by omega);simp only [Value.slice.injEq] at hv;have ho:=Zc hi';obtain ⟨hn,ha⟩:=FNN.out news[i] (Yx hi');refine ⟨og,news[i],by rw [hv.1,hog],ho,?_,?_,fun hm=>?_,by omega⟩
  ·have h1:=hcell i (by omega)
   rw [Zr,ho] at h1;refine hT.only.cell h1 (fun hm=>?_);obtain ⟨cs,hb⟩:=Xag ROW4.out (by rw [hv.1,hog];rfl:(Value.slice oa news.length oc).ownBlock=some og)
   exact N5.out.no hb (by decide) hm
  ·exact hT.only.cell (hn.blk.cell 0) (fun hm=>ha _ hm (by simp [MNd.blocks]))
  ·exact (hT.other N5.out hn ha).2 _ hm (by simp [MNd.blocks])
 rw [hL];have HFV:=Th hfv2;clear hL hnl hm5 hrb0 hrbX hfv1 hfv2 h10 hnb1
 go_wp2_with fail
 go_loopg [71] L (fun gk s71 wr=>∃ (i:Nat) (mi:MNd),gk=L-i∧i≤L∧s71=.int .i64 i∧Turn w4 wr M m5 mi∧mi.n=⟨m.n.id,false,l.map (·.1),(-1-(F.length:Int)) :: (ids (F.length+1) l.length).take i⟩)
 case atStart=>exact ⟨0,m5,rfl,Yc _,rfl,Turn.refl N5.out,by rw [R5.out.2.2];simp⟩
 case round =>
  obtain ⟨i,mi,hgk,hi,rfl,hT,hn⟩:=hrel;have HGK:=Th hgk;have HT:=Th hT;have HN:=Th hn;clear hgk hT hn
  have hi0:(0:Int)≤i:=by omega
  by_cases hlt:i<L
  ·have hlt':(i:Int)<L:=by omega
   obtain ⟨og,o,hoa,ho,x1,x2,hno,_⟩:=RND.out i wr mi hlt HT.out;subst hoa;have MNB:Hid (mi.nb=m.nb):=HT.out.nb.trans R5.out.1;obtain ⟨co,cc,hcv⟩:=Xac HT.out.at_.kids
   have c4:wr.cell? ⟨m.nb,4,none⟩=some mi.cv:=by have:=HT.out.at_.blk.cell 4;rw [MNB.out] at this;simpa using this
   obtain ⟨k,hk⟩:∃ k,mi.n.cs.length=k:=⟨_,rfl⟩;have KL:=Th hk;rw [hk] at hcv;have CV:=Th hcv
   have OWN:Hid (wr.ownsRow 0 3 1 (.slice co k cc) k (intsC mi.n.cs)):=by show World.ownsRow _ _ _ _ _ _ _;have:=HT.out.at_.kids;rw [hcv,hk] at this;exact this
   rw [hcv] at c4
   have hkl:k≤1000001:=by rw [←hk,HN.out];simp;omega
   have OAR:Hid (Only [] wr (wr.drew.alloc (.cells [.int .i64 o.n.id].toArray 3))):=(Only.refl _ _).drew.alloc _;have m4c:(wr.alloc (.cells #[.int .i64 o.n.id] 3)).cell? ⟨m.nb,4,none⟩=some (.slice co k cc):=((Only.refl [] wr).alloc _).cell c4 (by simp);have OC:Hid ((wr.drew.alloc (.cells [.int .i64 o.n.id].toArray 3)).cell? ⟨o.nb,0,none⟩=some (.int .i64 o.n.id)):=OAR.out.cell x2 (by simp);have HNO:=Th hno
   have HMR:Hid (∀ x∈M,x<wr.heap.size):=fun x hx=>by have:=HM.out x hx;have:=S2.out;have:=S3.out;have:=OA.out.size;have:=HT.out.only.size;omega
   have NEW:Hid (0<1→∃ ad,some (⟨wr.heap.size,0,none⟩:Addr)=some ad∧∀ j u,[Value.int .i64 o.n.id][j]?=some u→(wr.drew.alloc (.cells [.int .i64 o.n.id].toArray 3)).cell? (ad.add j)=some u):=fun _=>⟨_,rfl,fun j u hu=>by rw [Xah,Yd];exact ((Blk.new [.int .i64 o.n.id] 3 wr.drew).cell j).trans hu⟩
   have ONE:Hid (∀ u∈[Value.int .i64 o.n.id],u.oneCell'=true):=by intro u hu;simp at hu;subst hu;rfl
   have NIX:Hid ((ids (F.length+1) l.length)[i]?=some o.n.id):=(NID.out i o ho).2
   have hq1:¬m.nb=wr.heap.size:=by have h1:=HT.out.at_.blk.lt;rw [MNB.out] at h1;omega
   clear hk hcv hno ho
   go_upto_region 10 with fail
   refine wp_region_held_drew (S:=fun w'=>w'.cell? ⟨o.nb,0,none⟩=some (.int .i64 o.n.id)) (by kernel_rfl) (((Only.refl [] wr).drew).cell x2 (by simp)) (fun hH=>?_)
   refine tkA 0 75 (.pointer (some ⟨m.nb,0,none⟩)) hH ?_
   refine tkA 1 76 (.pointer (some ⟨m.nb,0,none⟩)) hH ?_
   refine tkA 2 77 (.pointer (some ⟨m.nb,0,none⟩)) hH ?_
   refine tkA 3 78 (.pointer (some ⟨m.nb,4,none⟩)) hH ?_
   refine tkA 5 80 (.pointer (some ⟨o.nb,0,none⟩)) hH ?_
   refine tkA 6 81 (.pointer (some ⟨o.nb,0,none⟩)) hH ?_
   refine tkA 7 82 (.pointer (some ⟨o.nb,0,none⟩)) hH ?_
   refine Xaq 8 83 (.int .i64 o.n.id) rfl rfl (by kernel_rfl) (by kernel_rfl) (by kernel_rfl) (fun _ _ _ h=>h) (Or.inl ⟨by rfl,fun w1 hw1=>by have hw2:_=_:=hw1;go_simp⟩) hH ?_
   (try simp only [Act.put,qSa,qSz,qSs])
   refine Xht 4 9 rfl rfl (by kernel_rfl) (by rfl) (by rfl) (fun K hK=>?_) (fun K hK=>?_)
   ·go_wp2_with fail
    refine hK.out _ _ hH ?_
    clear hK K
    (try simp only [Act.put,qSa,qSz,qSs])
    refine oneA 9 fun K hK=>?_
    go_wp2_with fail
    refine hK.out _ _ OC.out ?_
    clear hK K
    (try simp only [Act.put,qSa,qSz,qSs])
    refine oneA 10 fun K hK=>?_
    refine Xbl 85 rfl (.tmp 79) (.tmp 84) 52 rfl 3 Tryz.underlying52 (info_parts Xcl) rfl (by decide) (.slice co k cc) k (intsC mi.n.cs) rfl (Xad OWN.out OAR.out) (some ⟨wr.heap.size,0,none⟩) 1 1 rfl [.int .i64 o.n.id] rfl NEW.out ONE.out (by omega) (by decide) ?_
    intro v' w6 hg6;obtain ⟨va,vc,rfl⟩:=hg6.shape;obtain ⟨k4,kf,hT6⟩:=Xny (HT.out.at_.past OAR.out) (fun x hx=>Ye (HMR.out x hx) OAR.out.size) (by rw [KL.out];exact CV.out) (by rw [KL.out];exact hg6)
    rw [MNB.out] at k4 kf hT6;have hC6:w6.cell? ⟨o.nb,0,none⟩=some (.int .i64 o.n.id):=hg6.only.cell OC.out (fun hm=>HNO.out (by simp only [MNd.blocks,CV.out];simp only [Zk] at hm;simp [hm]))
    refine hK.out _ _ hC6 ?_
    clear hK K hH
    (try simp only [Act.put,qSa,qSz,qSs])
    refine tkA 11 86 (.pointer (some ⟨m.nb,0,none⟩)) hC6 ?_
    refine tkA 12 87 (.pointer (some ⟨m.nb,4,none⟩)) hC6 ?_
    rw [KL.out] at k4
    refine oneA 13 fun K hK=>?_
    go_wp2_with fail
    have hC7:(w6.setCell ⟨m.nb,4,none⟩ (.slice va (k+1) vc)).cell? ⟨o.nb,0,none⟩=some (.int .i64 o.n.id):=hT6.only.cell OC.out HNO.out
    refine hK.out _ _ hC7 ?_
    clear hK K
    (try simp only [Act.put,qSa,qSz,qSs])
    refine wpAnyH_done (by kernel_rfl) ?_ _;have TT:=Th (HT.out.trans (Turn.ahead OAR.out hT6));clear hg6 hT6 k4 kf hC6 hC7
    go_wp2_with fail
    go_roundg (L-(i+1))
    case measure=>have:=HGK.out;omega
    case rel=>exact ⟨i+1,_,rfl,by omega,by go_num,TT.out,by rw [MNd.addC,HN.out,Xg,NIX.out];rfl⟩
   ·go_wp2_with fail
    refine hK.out _ _ OC.out ?_
    clear hK K
    (try simp only [Act.put,qSa,qSz,qSs])
    refine oneA 4 fun K hK=>?_
    go_wp2_with fail
    refine hK.out _ _ OC.out ?_
    clear hK K
    (try simp only [Act.put,qSa,qSz,qSs])
    refine oneA 10 fun K hK=>?_
    refine Xbl 85 rfl (.tmp 79) (.tmp 84) 52 rfl 3 Tryz.underlying52 (info_parts Xcl) rfl (by decide) (.slice co k cc) k (intsC mi.n.cs) rfl (Xad OWN.out OAR.out) (some ⟨wr.heap.size,0,none⟩) 1 1 rfl [.int .i64 o.n.id] rfl NEW.out ONE.out (by omega) (by decide) ?_
    intro v' w6 hg6;obtain ⟨va,vc,rfl⟩:=hg6.shape;obtain ⟨k4,kf,hT6⟩:=Xny (HT.out.at_.past OAR.out) (fun x hx=>Ye (HMR.out x hx) OAR.out.size) (by rw [KL.out];exact CV.out) (by rw [KL.out];exact hg6)
    rw [MNB.out] at k4 kf hT6;have hC6:w6.cell? ⟨o.nb,0,none⟩=some (.int .i64 o.n.id):=hg6.only.cell OC.out (fun hm=>HNO.out (by simp only [MNd.blocks,CV.out];simp only [Zk] at hm;simp [hm]))
    refine hK.out _ _ hC6 ?_
    clear hK K hH
    (try simp only [Act.put,qSa,qSz,qSs])
    refine tkA 11 86 (.pointer (some ⟨m.nb,0,none⟩)) hC6 ?_
    refine tkA 12 87 (.pointer (some ⟨m.nb,4,none⟩)) hC6 ?_
    rw [KL.out] at k4
    refine oneA 13 fun K hK=>?_
    go_wp2_with fail
    have hC7:(w6.setCell ⟨m.nb,4,none⟩ (.slice va (k+1) vc)).cell? ⟨o.nb,0,none⟩=some (.int .i64 o.n.id):=hT6.only.cell OC.out HNO.out
    refine hK.out _ _ hC7 ?_
    clear hK K
    (try simp only [Act.put,qSa,qSz,qSs])
    refine wpAnyH_done (by kernel_rfl) ?_ _;have TT:=Th (HT.out.trans (Turn.ahead OAR.out hT6));clear hg6 hT6 k4 kf hC6 hC7
    go_wp2_with fail
    go_roundg (L-(i+1))
    case measure=>have:=HGK.out;omega
    case rel=>exact ⟨i+1,_,rfl,by omega,by go_num,TT.out,by rw [MNd.addC,HN.out,Xg,NIX.out];rfl⟩
  ·have hiL:i=L:=by omega
   subst hiL
   have hnlt:¬(i:Int)<i:=by omega
   have hN2:=HN.out;rw [Ya (by rw [ids_len];have:=LE.out;omega)] at hN2
   have hO4:=OA.out.size;have hsz:w3.heap.size≤wr.heap.size:=Zp hO4 HT.out.only.size
   have hwr:w.heap.size≤wr.heap.size:=by have:=S2.out;have:=S3.out;omega
   have hOth:∀ n,NodeAt w4 M n∧Apart m5 n→NodeAt wr M n∧Apart mi n:=fun n hn=>HT.out.other N5.out hn.1 hn.2
   have hMb:∀ x∈mi.blocks,x∈m.blocks∨w.heap.size≤x:=fun x hx=>by
    have h2:=S2.out;have h3:=S3.out
    rcases HT.out.new x hx with h | h
    ·rcases B5.out x h with h | ⟨h,_⟩ | h
     ·exact .inl (by rw [h];simp [MNd.blocks])
     ·exact .inr (by omega)
     ·exact .inr (by omega)
    ·exact .inr (by omega)
   have hNb:∀ n∈m4 :: news,∀ x∈n.blocks,w.heap.size≤x:=fun n hn x hx=>by
    have h2:=S2.out
    rcases Zg.1 hn with h | h
    ·rw [h] at hx
     rcases M4.out x hx with h | h
     ·rw [h];exact NB1.out
     ·omega
    ·have:=PR.out.nodes.new n h x hx;omega
   have hX1:rb∉m5.blocks:=N5.out.no RB4.out (by decide)
   have hAt:SplAt wr M base gb fv2 rb rcs [mi] (F++m4 :: news):={
    nodes:=by
     have hF:=HH.out.nodes;refine ⟨fun n hn=>?_,fun n hn x hx=>?_,?_⟩
     ·simp only [Vd,Zg,Za] at hn
      rcases hn with h | h | h | h
      ·rw [h];exact HT.out.at_
      ·exact (hOth n (FNF.out n h)).1
      ·rw [h];exact (hOth m4 FN4.out).1
      ·exact (hOth n (FNN.out n h)).1
     ·simp only [Vd,Zg,Za] at hn
      have hb:=HB.out
      rcases hn with h | h | h
      ·rw [h] at hx
       rcases hMb x hx with h1 | h1
       ·exact hF.new m (by simp) x h1
       ·omega
      ·exact hF.new n (by simp [h]) x hx
      ·have:=hNb n (Zg.2 h) x hx;omega
     ·show List.Pairwise Apart (mi :: (F++m4 :: news))
      refine Yh.2 ⟨fun n hn=>?_,Zn.2 ⟨(Zn.1 hF.apart).2.1,Yh.2 ⟨PR.out.apart,PR.out.nodes.apart⟩,fun f hf n hn x hx hy=>?_⟩⟩
      ·rcases Za.1 hn with h | h
       ·exact (hOth n (FNF.out n h)).2
       ·rcases Zg.1 h with h | h
        ·rw [h];exact (hOth m4 FN4.out).2
        ·exact (hOth n (FNN.out n h)).2
      ·have h1:=(hF.at_ f (by simp [hf])).lt x hx
       have h2:=hNb n hn x hy;omega
    grow:=(G4.out.turn HT.out N5.out).congr (by simp [ptrN,PR.out.nb])
    row:=HT.out.only.blk RB4.out hX1
    ptr:=fun j n hn=>by
     cases j with
     | zero =>
      simp at hn;subst hn;have:=HH.out.ptr 0 m rfl;unfold ptrN at this ⊢;rw [this,HT.out.nb,R5.out.1]
     | succ j=>simp at hn
    rne:=RNE.out }
   have RX:=RC.out wr fv2 mi (F++m4 :: news) hwr hAt (HT.out.nb.trans R5.out.1) (HT.out.root.trans R5.out.2.1) hN2 (by
    have h1:=PR.out.n;have h2:=PR.out.ns;rw [RF.out.2.2] at h1 h2
    simp [h1,h2]) (fun f hf=>by
    simp only [Za,Zg] at hf
    rcases hf with h | h | h
    ·exact HR.out f h
    ·rw [h,PR.out.root];exact RF.out.2.1
    ·exact PR.out.roots f h)
   unfold Xcm at RX;rw [Zt] at RX;have RXH:=Th RX;have HMB:=Th hMb;have HNB:=Th hNb;have HWR:=Th hwr;clear RX hMb hNb hAt hN2 hOth hX1 hO4 hsz hwr
   go_wp2_with (go_at_call 36;refine RXH.out.mono ?_;rintro e w7 ⟨ws',Fm,fv3,rfl,hres⟩;have RES:=Th hres;clear hres)
   refine bodyPost_ret (results_none rfl _ _ _) rfl ?_
   have res:=RES.out;have hO2:=S2.out;have hO3:=S3.out;have hO4:=OA.out.size
   have hOw:Only ([m].flatMap MNd.blocks++growX gb fv) w wr:=((O3.out.mono (M':=[m].flatMap MNd.blocks++growX gb fv) (fun x hx=>.inl (Za.2 (.inr hx)))).trans OA.out (fun x hx=>.inl (by simp at hx;subst hx;simp [MNd.blocks]))).trans HT.out.only (fun x hx=>by
    rcases B5.out x hx with h | ⟨h,_⟩ | h
    ·exact .inl (by rw [h];simp [MNd.blocks])
    ·exact .inr (by omega)
    ·exact .inr (by omega))
   exact ⟨ws',Fm,fv3,rfl,{
    at_:=res.at_
    nbs:=by rw [res.nbs];simp [HT.out.nb,R5.out.1]
    roots:=by rw [res.roots];simp [HT.out.root,R5.out.2.1,RT.out]
    ns:=res.ns
    fs:=res.fs
    froot:=res.froot
    blocks:=fun n hn x hx=>by
     rcases res.blocks n hn x hx with ⟨n0,hn0,hx0⟩ | h
     ·simp only [Vd,Zg,Za] at hn0
      rcases hn0 with h | h | h
      ·rw [h] at hx0
       rcases HMB.out x hx0 with h1 | h1
       ·exact .inl ⟨m,by simp,h1⟩
       ·exact .inr h1
      ·exact .inl ⟨n0,by simp [h],hx0⟩
      ·exact .inr (HNB.out n0 (Zg.2 h) x hx0)
     ·exact .inr (Zp HWR.out h)
    only:=hOw.trans res.only (fun x hx=>by
     rcases Za.1 hx with h | h
     ·simp only [Yu,List.flatMap_nil,Xj] at h
      rcases HMB.out x h with h1 | h1
      ·exact .inl (by simp [h1])
      ·exact .inr h1
     ·simp only [growX,Zg,Zk] at h
      rcases h with h | h
      ·exact .inl (by simp [growX,h])
      ·rcases HFV.out x h with h1 | h1
       ·exact .inl (by simp [growX,h1])
       ·exact .inr h1) }⟩
end Go.Proofs.YtiijokopcgnokaaGreat.T
