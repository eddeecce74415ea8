import Derived.Test.YtiijokopcgnokaaGreatWTnJ
set_option maxRecDepth 100000
set_option maxHeartbeats 4000000
set_option linter.unusedSimpArgs false
set_option linter.unusedVariables false
namespace Go.Proofs.YtiijokopcgnokaaGreat
namespace T
open Go Go.RowKit D B C G P H Tryz
def MNd.with (m m2:MNd):MNd:=⟨m.nb,m.root,⟨m.n.id,m.n.leaf,m2.n.es,m2.n.cs⟩,m2.ev,m2.cv,m2.L⟩
theorem Xhd {m m2:MNd} {x:Nat} (h:x∈(m.with m2).blocks):x=m.nb∨x∈m2.blocks:=by
 simp only [MNd.blocks,MNd.with,Zg] at *
 rcases h with h | h
 ·exact .inl h
 ·exact .inr (.inr h)
theorem NodeAt.take {w:World} {M:List Nat} {m m2:MNd} (h:NodeAt w M m) (h2:NodeAt w M m2) (hA:m.nb∉m2.blocks) :
  NodeAt ((w.setCell ⟨m.nb,3,none⟩ m2.ev).setCell ⟨m.nb,4,none⟩ m2.cv) M (m.with m2)∧Only [m.nb] w ((w.setCell ⟨m.nb,3,none⟩ m2.ev).setCell ⟨m.nb,4,none⟩ m2.cv):=by
 have hO:Only [m.nb] w ((w.setCell ⟨m.nb,3,none⟩ m2.ev).setCell ⟨m.nb,4,none⟩ m2.cv):=(Xbe _ _ _ _).trans (Xbe _ _ _ _) (fun x hx=>.inl hx);have hm2:=h2.later hO (fun x hx cs hb=>by simp at hx;subst hx;exact absurd (hb.inj h.blk).2 (by decide)) (fun x hx hm=>by simp at hm;subst hm;exact hA hx)
 refine ⟨⟨(h.blk.set 3 m2.ev).set 4 m2.cv,hm2.es,hm2.ents,hm2.kids,hm2.keys,fun x hx=>?_⟩,hO⟩
 rcases Xhd hx with rfl | hx
 ·exact h.off _ (by simp [MNd.blocks])
 ·exact hm2.off x hx
theorem GrowAt.later {w w':World} {M X:List Nat} {base gb:Nat} {fv:Value} {F:List MNd} (h:GrowAt w M base gb fv F) (hO:Only X w w') (hX:∀ x∈X,∀ cs t,Blk w x cs t→t≠89∧t≠75):GrowAt w' M base gb fv F :=
 ⟨hO.blk h.blk (fun hm=>(hX _ hm _ _ h.blk).1 rfl),Xab h.row.own hO (fun k hk hm=>by obtain ⟨cs,hb⟩:=Xag h.row.own hk;exact (hX _ hm _ _ hb).2 rfl),h.row.off⟩
theorem NodeAt.free {w w':World} {M X:List Nat} {m:MNd} (h:NodeAt w M m) (hO:Only X w w') (hX:∀ x∈X,∀ cs t,Blk w x cs t→t=89∨t=75):NodeAt w' M m :=
 h.later hO (fun x hx cs hb=>by rcases hX x hx cs _ hb with h | h <;> exact absurd h (by decide)) (fun x hx hm=>by
  obtain ⟨cs,t,hb⟩:∃ cs t,Blk w x cs t:=by
   simp only [MNd.blocks,Zg,Za,Zk] at hx
   rcases hx with rfl | hx | hx
   ·exact ⟨_,_,h.blk⟩
   ·obtain ⟨cs,hb⟩:=Xag h.ents hx;exact ⟨_,_,hb⟩
   ·obtain ⟨cs,hb⟩:=Xag h.kids hx;exact ⟨_,_,hb⟩
  rcases h.kind hx hb with h1 | h1 | h1 <;> rcases hX x hm _ _ hb with h2 | h2 <;> rw [h1] at h2 <;> exact absurd h2 (by decide))
theorem NodeAt.far {w w':World} {M X:List Nat} {m:MNd} {nb:Nat} {cs0:List Value} (h:NodeAt w M m) (hO:Only (nb :: X) w w') (hb0:Blk w nb cs0 77) (hn:nb∉m.blocks) (hX:∀ x∈X,∀ cs t,Blk w x cs t→t=89∨t=75):NodeAt w' M m :=
 h.later hO (fun x hx cs hb=>by
  rcases Zg.1 hx with rfl | hx
  ·exact absurd (hb.inj hb0).2 (by decide)
  ·rcases hX x hx cs _ hb with h | h <;> exact absurd h (by decide)) (fun x hx hm=>by
  rcases Zg.1 hm with rfl | hm
  ·exact hn hx
  ·obtain ⟨cs,t,hb⟩:∃ cs t,Blk w x cs t:=by
    simp only [MNd.blocks,Zg,Za,Zk] at hx
    rcases hx with rfl | hx | hx
    ·exact ⟨_,_,h.blk⟩
    ·obtain ⟨cs,hb⟩:=Xag h.ents hx;exact ⟨_,_,hb⟩
    ·obtain ⟨cs,hb⟩:=Xag h.kids hx;exact ⟨_,_,hb⟩
   rcases h.kind hx hb with h1 | h1 | h1 <;> rcases hX x hm _ _ hb with h2 | h2 <;> rw [h1] at h2 <;> exact absurd h2 (by decide))
theorem Xjf {w:World} {e:TypeId} {size n c:Nat} {ao:Option Addr} {xs:List Value} (h:w.ownsRow 0 e size (.slice ao n c) n xs):0<n→∃ ad,ao=some ad∧∀ j u,xs[j]?=some u→w.cell? (ad.add j)=some u:=fun h0=>by
 obtain ⟨ao',cap,hv,_,hc⟩:=(RowOn.of h).shape;simp only [Value.slice.injEq] at hv;obtain ⟨g,hg,hcell⟩:=hc h0;refine ⟨⟨g,0,none⟩,by rw [hv.1,hg],fun j u hu=>?_⟩;rw [Xah,Yd,hcell j ?_,hu];have h1:=(Zh.1 hu).1;have h2:=h.1;omega
theorem GrowAt.congr {w:World} {M:List Nat} {base gb:Nat} {fv:Value} {F F':List MNd} (h:GrowAt w M base gb fv F) (he:F.map ptrN=F'.map ptrN):GrowAt w M base gb fv F':=by
 have hl:F.length=F'.length:=by have:=congrArg List.length he;simpa using this
 exact ⟨h.blk,by rw [←hl,←he];exact h.row.own,h.row.off⟩
structure PartsRes (w w':World) (M:List Nat) (base gb:Nat) (fv:Value) (F:List MNd) (m:MNd) (p:List Pr × List Int) (l:List (Pr × List Pr × List Int)) (m':MNd) (news:List MNd) (bv ov fv':Value) (Lb:List KV):Prop where
 at_:NodeAt w' M m'
 nb:m'.nb=m.nb
 root:m'.root=m.root
 n:m'.n=⟨m.n.id,m.n.leaf,p.1,p.2⟩
 blocks:∀ x∈m'.blocks,x=m.nb∨w.heap.size≤x
 nodes:Nodes w' M w.heap.size news
 apart:∀ n∈news,Apart m' n
 ns:news.map (·.n)=numb m.n.leaf F.length l
 roots:∀ n∈news,n.root=false
 grow:GrowAt w' M base gb fv' (F++news)
 lies:∀ k,fv'.ownBlock=some k→fv.ownBlock=some k∨w.heap.size≤k
 row:PtrRow w' M w.heap.size ov news
 bt:w'.ownsRow 0 43 2 bv Lb.length (kvsC Lb)
 bnew:∀ k,bv.ownBlock=some k→w.heap.size≤k
 boff:∀ k,bv.ownBlock=some k→k∉m'.blocks∧∀ n∈news,k∉n.blocks
 lb:Lb.map (·.2)=l.map (·.1)
 keys:∀ q∈Lb,KeyOk w' M q
 only:Only (m.nb :: growX gb fv) w w'
theorem Xlw {w:World} {M:List Nat} {base gb i:Nat} {fv:Value} {F:List MNd} {m:MNd} {b:Pr} (hG:GrowAt w M base gb fv F) (h:NodeAt w M m) (hM:∀ x∈M,x<w.heap.size) (hb:base≤w.heap.size)
  (hK:m.n.cs.length=if m.n.leaf then 0 else m.n.es.length+1) (hk:Keys m.n.es) (hlen:m.n.es.length≤1000000) (hi:Xgp m.n.leaf m.n.es=i) (hbi:m.n.es[i]?=some b) (h1:1≤i) {l':List (Pr × List Pr × List Int)} (hl':F.length+l'.length≤1000000)
  (hcase:(fitsP m.n.leaf (restE m.n.leaf i m.n.es)=true∧l'=[(b,restE m.n.leaf i m.n.es,restC m.n.leaf i m.n.cs)])∨(fitsP m.n.leaf (restE m.n.leaf i m.n.es)=false∧∃ p l,l'=(b,p) :: l ∧
   ∀ {w1:World} {fv1:Value} {F1:List MNd} {m3:MNd},w.heap.size≤w1.heap.size→F1.length=F.length+1→m3.root=false→m3.n=⟨-1-(F.length:Int),m.n.leaf,restE m.n.leaf i m.n.es,restC m.n.leaf i m.n.cs⟩→GrowAt w1 M base gb fv1 F1→NodeAt w1 M m3 →
    Calls prog 64 #[.pointer (some ⟨gb,0,none⟩),.pointer (some ⟨m3.nb,0,none⟩)] w1 fun e w'=>∃ m' news bv ov fv' Lb,e=.returned (.tuple #[bv,ov])∧PartsRes w1 w' M base gb fv1 F1 m3 p l m' news bv ov fv' Lb)) :
  Calls prog 64 #[.pointer (some ⟨gb,0,none⟩),.pointer (some ⟨m.nb,0,none⟩)] w fun e w'=>∃ m' news bv ov fv' Lb,e=.returned (.tuple #[bv,ov])∧PartsRes w w' M base gb fv F m (m.n.es.take i,Xgr m.n.leaf i m.n.cs) l' m' news bv ov fv' Lb:=by
 have h2:i<m.n.es.length:=(Zh.1 hbi).1;obtain ⟨kv,hkv⟩:=h.kv hbi;obtain ⟨ao,cap,hev,hcap,hrow⟩:=h.row;obtain ⟨g,rfl,hcell⟩:=hrow (by omega);obtain ⟨hc1,hc2⟩:=hcell i _ hkv;have hkk:=h.keys _ (Zm hkv);obtain ⟨ka,kc,hkf,_⟩:=id hkk.bytes;simp only at hkf;subst hkf;obtain ⟨bk,bx⟩:=b;simp only at hc1 hc2 hkk hkv;have KK:=Th hkk;have KV:=Th hkv;have c3:=h.blk.cell 3;simp only [Zd,Zb] at c3;rw [hev] at c3;have AP:=Th (apart_any h hM hK hk hlen (by omega));rw [hi] at AP;have HH:=Th h;have HG:=Th hG;have HM:=Th hM;have HB:=Th hb;have HKI:=Th hK
 have HL:=Th hlen;have HI:=Th hi;have CASE:=Th hcase;have LL:=Th hl'
 have hl:F.length≤1000000:=by omega
 have hi0:(0:Int)≤i:=by omega
 have hi1:(i:Int)<m.n.es.length:=by omega
 obtain ⟨ne,hne⟩:∃ ne,m.n.es.length=ne:=⟨_,rfl⟩;have NE:=Th hne;rw [hne] at c3 hcap h2 hi1;clear h hG hM hb hK hlen hi hcase hl' hev hrow hcell hne hkk hkv
 go_enter func64,ntmps64
 go_upto_region 4 with (first
  | (go_at_call 91;refine AP.out.mono ?_;rintro e w1 ⟨rfl,hO1⟩;have O1:=Th hO1;clear hO1 AP)
  | (go_at_call 92;refine (cut_any (HH.out.past O1.out) (fun x hx=>Ye (HM.out x hx) O1.out.size) HKI.out h1 (by have:=NE.out;omega) HL.out).mono ?_;rintro e w2 ⟨m1,m2,rfl,hC⟩;have CR:=Th hC;have O2:=Th (O1.out.trans hC.only (by simp));have d3:=O2.out.cell c3 (by simp);have d1:=O2.out.cell hc1 (by simp);have d2:=O2.out.cell hc2 (by simp);clear hC))
 have A12:=CR.out.at1;obtain ⟨w3,hw3⟩:∃ w3,w2.alloc (.cells #[.slice ka bk.length kc,.int .u64 bx] 43)=w3:=⟨_,rfl⟩
 have O23:Hid (Only [] w2 w3):=by
  show Only _ _ _;rw [←hw3];exact (Only.refl _ _).alloc _
 have BX3:Hid (Blk w3 w2.heap.size [.slice ka bk.length kc,.int .u64 bx] 43):=by
  show Blk _ _ _ _;rw [←hw3];exact Blk.new [.slice ka bk.length kc,.int .u64 bx] 43 w2
 rw [hw3];have O3:Hid (Only [] w w3):=O2.out.trans O23.out (by simp);have A1:Hid (NodeAt w3 M m1):=CR.out.at1.past O23.out;have A2:Hid (NodeAt w3 M m2):=CR.out.at2.past O23.out;have A0:Hid (NodeAt w3 M m):=HH.out.past O3.out
 have N1:Hid (∀ x∈m1.blocks,w.heap.size≤x∧x<w2.heap.size):=fun x hx=>⟨Zp O1.out.size (CR.out.new1 x hx),CR.out.at1.lt x hx⟩
 have N2:Hid (∀ x∈m2.blocks,w.heap.size≤x∧x<w2.heap.size):=fun x hx=>⟨Zp O1.out.size (CR.out.new2 x hx),CR.out.at2.lt x hx⟩
 have hm0:m.nb<w.heap.size:=HH.out.blk.lt
 have h01:m.nb∉m1.blocks:=fun hm=>by have:=N1.out _ hm;omega
 have h11:¬m1.nb=m.nb:=fun e=>h01 (by rw [←e];simp [MNd.blocks])
 obtain ⟨a1,k1,he1⟩:=Xac A1.out.ents;obtain ⟨c1,q1,hf1⟩:=Xac A1.out.kids;obtain ⟨a2,k2,he2⟩:=Xac A2.out.ents;obtain ⟨c2,q2,hf2⟩:=Xac A2.out.kids;have b13:=A1.out.blk.cell 3;have b14:=A1.out.blk.cell 4;have b03:=A0.out.blk.cell 3;have b04:=A0.out.blk.cell 4;have z03:=A0.out.blk.frozen 3;have z04:=A0.out.blk.frozen 4;simp only [Zd,Zb] at b13 b14 b03 b04;rw [he1] at b13;rw [hf1] at b14;have T4:=Th (A0.out.take A1.out h01);rw [he1,hf1] at T4;obtain ⟨s1,hs1⟩:∃ s,(.slice a1 m1.L.length k1:Value)=s:=⟨_,rfl⟩
 have b04':(w3.setCell ⟨m.nb,3,none⟩ (.slice a1 m1.L.length k1)).cell? ⟨m.nb,4,none⟩=some m.cv:=by have:=(A0.out.blk.set 3 (.slice a1 m1.L.length k1)).cell 4;simpa using this
 have z04':(w3.setCell ⟨m.nb,3,none⟩ (.slice a1 m1.L.length k1)).frozen? ⟨m.nb,4,none⟩=false:=(A0.out.blk.set 3 _).frozen 4;clear hs1 hc1 hc2 d1 d2 d3 A12 hw3;refine wp_region_held_drew (S:=fun w'=>Only [m.nb] w3 w') (by kernel_rfl) (Only.refl _ _).drew (fun hH=>?_)
 refine tkA 0 28 (.pointer (some ⟨m.nb,0,none⟩)) hH ?_
 refine tkA 1 29 (.pointer (some ⟨m.nb,0,none⟩)) hH ?_
 refine tkA 2 30 (.pointer (some ⟨m1.nb,0,none⟩)) hH ?_
 refine tkA 3 31 (.pointer (some ⟨m1.nb,0,none⟩)) hH ?_
 refine tkA 4 32 (.pointer (some ⟨m1.nb,3,none⟩)) hH ?_
 refine Xaq 5 33 (.slice a1 m1.L.length k1) rfl rfl (by kernel_rfl) (by kernel_rfl) (by kernel_rfl) (fun _ _ _ h=>h) (Or.inl ⟨by rfl,fun w1 hw1=>by have hw2:=hw1.cell b13 (by simpa using h11);go_simp⟩) hH ?_
 (try simp only [Act.put,qSa,qSz,qSs])
 refine tkA 6 34 (.pointer (some ⟨m1.nb,0,none⟩)) hH ?_
 refine tkA 7 35 (.pointer (some ⟨m1.nb,0,none⟩)) hH ?_
 refine tkA 8 36 (.pointer (some ⟨m1.nb,4,none⟩)) hH ?_
 refine Xaq 9 37 (.slice c1 m1.n.cs.length q1) rfl rfl (by kernel_rfl) (by kernel_rfl) (by kernel_rfl) (fun _ _ _ h=>h) (Or.inl ⟨by rfl,fun w1 hw1=>by have hw2:=hw1.cell b14 (by simpa using h11);go_simp⟩) hH ?_
 (try simp only [Act.put,qSa,qSz,qSs])
 refine tkA 10 38 (.pointer (some ⟨m.nb,0,none⟩)) hH ?_
 refine tkA 11 39 (.pointer (some ⟨m.nb,3,none⟩)) hH ?_
 clear hH
 refine oneA 12 fun K hK=>?_
 go_wp2_with fail
 refine hK.out _ _ ((Only.refl _ _).drew.setCell (.inl (by simp)) _) ?_
 clear hK K
 (try simp only [Act.put,qSa,qSz,qSs])
 refine tkA 13 40 (.pointer (some ⟨m.nb,0,none⟩)) ((Only.refl _ _).drew.setCell (.inl (by simp)) _) ?_
 refine tkA 14 41 (.pointer (some ⟨m.nb,4,none⟩)) ((Only.refl _ _).drew.setCell (.inl (by simp)) _) ?_
 refine oneA 15 fun K hK=>?_
 go_wp2_with fail
 refine hK.out _ _ (((Only.refl _ _).drew.setCell (.inl (by simp)) _).setCell (.inl (by simp)) _) ?_
 clear hK K
 (try simp only [Act.put,qSa,qSz,qSs])
 refine wpAnyH_done (by kernel_rfl) ?_ _;obtain ⟨w4,hw4⟩:∃ w4,((w3.setCell ⟨m.nb,3,none⟩ (.slice a1 m1.L.length k1)).setCell ⟨m.nb,4,none⟩ (.slice c1 m1.n.cs.length q1)).drew=w4:=⟨_,rfl⟩
 have O34:Hid (Only [m.nb] w3 w4):=by show Only _ _ _;rw [←hw4];exact T4.out.2.drew
 have N4:Hid (NodeAt w4 M (m.with m1)):=by show NodeAt _ _ _;rw [←hw4];exact T4.out.1.past (Only.refl _ _).drew
 rw [hw4];have O4:Hid (Only [m.nb] w w4):=(O3.out.mono (by simp)).trans O34.out (fun x hx=>.inl hx)
 have h02:m.nb∉m2.blocks:=fun hm=>by have:=N2.out _ hm;omega
 have A24:Hid (NodeAt w4 M m2):=A2.out.later O34.out (fun x hx cs hb=>by simp at hx;subst hx;exact absurd (hb.inj A0.out.blk).2 (by decide)) (fun x hx hm=>by simp at hm;subst hm;exact h02 hx);have BX4:Hid (Blk w4 w2.heap.size [.slice ka bk.length kc,.int .u64 bx] 43):=O34.out.blk BX3.out (by simp;have:=O2.out.size;omega)
 have G4:Hid (GrowAt w4 M base gb fv F):=HG.out.later O4.out (fun x hx cs t hb=>by simp at hx;subst hx;have:=(hb.inj HH.out.blk).2;subst this;decide);have S4:Hid (w.heap.size≤w4.heap.size):=O4.out.size;have b42:w4.cell? ⟨m.nb,2,none⟩=some (.bool m.n.leaf):=N4.out.blk.cell 2;clear hw4 T4 b13 b14 b03 b04 z03 z04 b04' z04' h01 h11
 go_upto_region 6 with (go_at_call 63;refine (adds_any G4.out (fun x hx=>Ye (HM.out x hx) S4.out) (Zp HB.out S4.out) (by omega)).mono ?_;rintro e w5 ⟨nb2,fv2,rfl,hn2,hf2,hg2,hl2,ho2,hx2⟩;have F5:=Th hf2;have G5:=Th hg2;have L5:=Th hl2;have O45:=Th ho2;have NB2:=Th hn2;clear hn2 hf2 hg2 hl2 ho2 hx2)
 have KX:Hid (∀ x∈growX gb fv,∀ cs t,Blk w4 x cs t→t=89∨t=75):=Xcr G4.out;have N5:Hid (NodeAt w5 M (m.with m1)):=N4.out.free O45.out KX.out;have A25:Hid (NodeAt w5 M m2):=A24.out.free O45.out KX.out;have BX5:Hid (Blk w5 w2.heap.size [.slice ka bk.length kc,.int .u64 bx] 43):=O45.out.blk BX4.out (fun hm=>by rcases KX.out _ hm _ _ BX4.out with h | h <;> exact absurd h (by decide));have hs42:w2.heap.size<w4.heap.size:=BX4.out.lt;have hnb2:=NB2.out
 have h22:nb2∉m2.blocks:=fun hm=>by have:=N2.out _ hm;omega
 have h12:¬m2.nb=nb2:=fun e=>h22 (by rw [←e];simp [MNd.blocks])
 have b23:=A25.out.blk.cell 3;have b24:=A25.out.blk.cell 4;have b53:w5.cell? ⟨nb2,3,none⟩=some (.slice none 0 0):=F5.out.blk.cell 3;have b54:(w5.setCell ⟨nb2,3,none⟩ (.slice a2 m2.L.length k2)).cell? ⟨nb2,4,none⟩=some (.slice none 0 0):=(F5.out.blk.set 3 _).cell 4;have z53:w5.frozen? ⟨nb2,3,none⟩=false:=F5.out.blk.frozen 3;have z54:(w5.setCell ⟨nb2,3,none⟩ (.slice a2 m2.L.length k2)).frozen? ⟨nb2,4,none⟩=false:=(F5.out.blk.set 3 _).frozen 4;simp only [Zd,Zb] at b23 b24;rw [he2] at b23;rw [hf2] at b24;have T6:=Th (F5.out.take A25.out h22);rw [he2,hf2] at T6
 clear b42;refine wp_region_held_drew (S:=fun w'=>Only [nb2] w5 w') (by kernel_rfl) (Only.refl _ _).drew (fun hH=>?_)
 refine tkA 0 48 (.pointer (some ⟨nb2,0,none⟩)) hH ?_
 refine tkA 1 49 (.pointer (some ⟨nb2,0,none⟩)) hH ?_
 refine tkA 2 50 (.pointer (some ⟨m2.nb,0,none⟩)) hH ?_
 refine tkA 3 51 (.pointer (some ⟨m2.nb,0,none⟩)) hH ?_
 refine tkA 4 52 (.pointer (some ⟨m2.nb,3,none⟩)) hH ?_
 refine Xaq 5 53 (.slice a2 m2.L.length k2) rfl rfl (by kernel_rfl) (by kernel_rfl) (by kernel_rfl) (fun _ _ _ h=>h) (Or.inl ⟨by rfl,fun w1 hw1=>by have hw2:=hw1.cell b23 (by simpa using h12);go_simp⟩) hH ?_
 (try simp only [Act.put,qSa,qSz,qSs])
 refine tkA 6 54 (.pointer (some ⟨m2.nb,0,none⟩)) hH ?_
 refine tkA 7 55 (.pointer (some ⟨m2.nb,0,none⟩)) hH ?_
 refine tkA 8 56 (.pointer (some ⟨m2.nb,4,none⟩)) hH ?_
 refine Xaq 9 57 (.slice c2 m2.n.cs.length q2) rfl rfl (by kernel_rfl) (by kernel_rfl) (by kernel_rfl) (fun _ _ _ h=>h) (Or.inl ⟨by rfl,fun w1 hw1=>by have hw2:=hw1.cell b24 (by simpa using h12);go_simp⟩) hH ?_
 (try simp only [Act.put,qSa,qSz,qSs])
 refine tkA 10 58 (.pointer (some ⟨nb2,0,none⟩)) hH ?_
 refine tkA 11 59 (.pointer (some ⟨nb2,3,none⟩)) hH ?_
 clear hH
 refine oneA 12 fun K hK=>?_
 go_wp2_with fail
 refine hK.out _ _ ((Only.refl _ _).drew.setCell (.inl (by simp)) _) ?_
 clear hK K
 (try simp only [Act.put,qSa,qSz,qSs])
 refine tkA 13 60 (.pointer (some ⟨nb2,0,none⟩)) ((Only.refl _ _).drew.setCell (.inl (by simp)) _) ?_
 refine tkA 14 61 (.pointer (some ⟨nb2,4,none⟩)) ((Only.refl _ _).drew.setCell (.inl (by simp)) _) ?_
 refine oneA 15 fun K hK=>?_
 go_wp2_with fail
 refine hK.out _ _ (((Only.refl _ _).drew.setCell (.inl (by simp)) _).setCell (.inl (by simp)) _) ?_
 clear hK K
 (try simp only [Act.put,qSa,qSz,qSs])
 refine wpAnyH_done (by kernel_rfl) ?_ _;obtain ⟨w6,hw6⟩:∃ w6,((w5.setCell ⟨nb2,3,none⟩ (.slice a2 m2.L.length k2)).setCell ⟨nb2,4,none⟩ (.slice c2 m2.n.cs.length q2)).drew=w6:=⟨_,rfl⟩
 obtain ⟨m3,hm3⟩:∃ m3,(Xhg nb2 F.length m.n.leaf).with m2=m3:=⟨_,rfl⟩
 have O56:Hid (Only [nb2] w5 w6):=by show Only _ _ _;rw [←hw6];exact T6.out.2.drew
 have A3:Hid (NodeAt w6 M m3):=by show NodeAt _ _ _;rw [←hw6,←hm3];exact T6.out.1.past (Only.refl _ _).drew
 rw [hw6]
 have R3:Hid (m3.nb=nb2∧m3.root=false∧m3.n=⟨-1-(F.length:Int),m.n.leaf,restE m.n.leaf i m.n.es,restC m.n.leaf i m.n.cs⟩):=by
  show _∧_∧_;rw [←hm3];exact ⟨rfl,rfl,by rw [MNd.with,CR.out.n2];rfl⟩
 have R1:Hid ((m.with m1).nb=m.nb∧(m.with m1).root=m.root∧(m.with m1).n=⟨m.n.id,m.n.leaf,m.n.es.take i,Xgr m.n.leaf i m.n.cs⟩):=⟨rfl,rfl,by rw [MNd.with,CR.out.n1]⟩
 have B3:Hid (∀ x∈m3.blocks,w.heap.size≤x∧(x=nb2∨x∈m2.blocks)):=fun x hx=>by
  rw [←hm3] at hx
  rcases Xhd hx with h | h
  ·exact ⟨by rw [h];exact Zp S4.out NB2.out,.inl h⟩
  ·exact ⟨(N2.out x h).1,.inr h⟩
 have B1:Hid (∀ x∈(m.with m1).blocks,x=m.nb∨x∈m1.blocks):=fun x hx=>Xhd hx
 obtain ⟨mm,hmm⟩:∃ mm,m.with m1=mm:=⟨_,rfl⟩
 rw [hmm] at N5 R1 B1
 have h2m:nb2∉mm.blocks:=fun hm=>by
  rcases B1.out _ hm with h | h
  ·have:=S4.out;omega
  ·have:=N1.out _ h;omega
 have N6:Hid (NodeAt w6 M mm):=N5.out.later O56.out (fun x hx cs hb=>by simp at hx;subst hx;exact absurd (hb.inj F5.out.blk).2 (by decide)) (fun x hx hm=>by simp at hm;subst hm;exact h2m hx);have BX6:Hid (Blk w6 w2.heap.size [.slice ka bk.length kc,.int .u64 bx] 43):=O56.out.blk BX5.out (by simp;omega)
 have G6:Hid (GrowAt w6 M base gb fv2 (F++[m3])):=(G5.out.later O56.out (fun x hx cs t hb=>by simp at hx;subst hx;have:=(hb.inj F5.out.blk).2;subst this;decide)).congr (by rw [←hm3];simp [ptrN,MNd.with,Xhg])
 have A13:Hid (Apart mm m3):=fun x hx hy=>by
  rcases B1.out x hx with h | h
  ·have:=(B3.out x hy).1;omega
  ·rcases (B3.out x hy).2 with h' | h'
   ·subst h';have:=N1.out _ h;omega
   ·exact CR.out.apart x h h'
 have O6:Hid (Only (m.nb :: growX gb fv) w w6):=(((O4.out.mono (M':=m.nb :: growX gb fv) (fun x hx=>.inl (by simp at hx;simp [hx]))).trans O45.out (fun x hx=>.inl (Yg _ hx)))).trans O56.out (fun x hx=>.inr (by simp at hx;subst hx;exact Zp S4.out NB2.out))
 have LI:Hid (∀ k,fv2.ownBlock=some k→fv.ownBlock=some k∨w.heap.size≤k):=fun k hk=>(L5.out k hk).imp id (fun h=>Zp S4.out h)
 have KB:Hid (∀ x∈mm.blocks,x=m.nb∨w.heap.size≤x):=fun x hx=>(B1.out x hx).imp id (fun h=>(N1.out x h).1)
 have KK6:Hid (KeyOk w6 M (.slice ka bk.length kc,bk,bx)):=KK.out.later O6.out (fun x hx cs hb=>by
  simp only [Zg] at hx
  rcases hx with rfl | hx
  ·exact absurd (hb.inj HH.out.blk).2 (by decide)
  ·rcases Xcr HG.out x hx cs _ hb with h | h <;> exact absurd h (by decide))
 have b60:=BX6.out.cell 0;have b61:=BX6.out.cell 1;simp only [Zd,Zb] at b60 b61;have hr3:=R3.out;have FT:=Th (Xdr A3.out (by rw [hr3.2.2];exact hk.rest _) (by rw [hr3.2.2];have h2':=Xdj (leaf:=m.n.leaf) h1 (show i<m.n.es.length by rw [NE.out];exact h2);have:=HL.out;simp only;omega))
 rw [hr3.1] at FT
 have FE:Hid (fitsP m3.n.leaf m3.n.es=fitsP m.n.leaf (restE m.n.leaf i m.n.es)):=by show _=_;rw [hr3.2.2]
 clear hr3 hm3 hw6 T6 b23 b24 b53 b54 z53 z54 hmm h12 h22 he1 he2 hf1 hf2 c3 hs42 hnb2 h02 h2m hm0;have hr1:=R1.out;have hS06:w.heap.size≤w6.heap.size:=O6.out.size
 rcases CASE.out with ⟨hfit,hl1⟩ | ⟨hfit,p,l,hl1,hrec⟩
 ·have HF:=Th hfit
  have L1:=Th hl1;rw [FE.out,hfit] at FT;clear hfit hl1 CASE
  go_wp2_with (go_at_call 35;refine FT.out.mono ?_;rintro e w7 ⟨rfl,rfl⟩)
  go_ret2;have hOA:Only [] w6 ((w6.alloc (.cells #[.slice ka bk.length kc,.int .u64 bx] 43)).alloc (.cells #[.pointer (some ⟨nb2,0,none⟩)] 75)):=((Only.refl _ _).alloc _).alloc _;have hB1:Blk ((w6.alloc (.cells #[.slice ka bk.length kc,.int .u64 bx] 43)).alloc (.cells #[.pointer (some ⟨nb2,0,none⟩)] 75)) w6.heap.size [.slice ka bk.length kc,.int .u64 bx] 43:=(Blk.new [.slice ka bk.length kc,.int .u64 bx] 43 w6).alloc _;have hB2:Blk ((w6.alloc (.cells #[.slice ka bk.length kc,.int .u64 bx] 43)).alloc (.cells #[.pointer (some ⟨nb2,0,none⟩)] 75)) (w6.heap.size+1) [.pointer (some ⟨nb2,0,none⟩)] 75:=Blk.new' #[.pointer (some ⟨nb2,0,none⟩)] 75 (w6.alloc (.cells #[.slice ka bk.length kc,.int .u64 bx] 43)) (by simp)
  have hbl:∀ m',NodeAt w6 M m'→∀ x∈m'.blocks,x<w6.heap.size:=fun m' h=>h.lt
  obtain ⟨r31,r32,r33⟩:=R3.out;refine ⟨mm,[m3],_,_,fv2,[(.slice ka bk.length kc,bk,bx)],rfl,?_⟩;rw [L1.out]
  exact {
   at_:=N6.out.past hOA
   nb:=hr1.1
   root:=hr1.2.1
   n:=hr1.2.2
   blocks:=KB.out
   nodes:=⟨fun m' hm=>by simp at hm;subst hm;exact A3.out.past hOA,fun m' hm x hx=>by simp at hm;subst hm;exact (B3.out x hx).1,Xs _ _⟩
   apart:=fun n hn=>by simp at hn;subst hn;exact A13.out
   ns:=by simp [numb,r33]
   roots:=fun n hn=>by simp at hn;subst hn;exact r32
   grow:=G6.out.past hOA
   lies:=LI.out
   row:=⟨by have h9:=Blk.owns hB2 (by show 1≤maxLen;decide);simpa [ptrN,r31] using h9,fun k hk=>by simp [Value.ownBlock] at hk;subst hk;exact ⟨fun hm=>by have:=HM.out _ hm;omega,by omega⟩⟩
   bt:=I.blk_owns hB1 rfl (Zq _) (by decide) rfl rfl
   bnew:=fun k hk=>by simp [Value.ownBlock] at hk;omega
   boff:=fun k hk=>by
    simp [Value.ownBlock] at hk
    refine ⟨fun hm=>?_,fun n hn hm=>?_⟩
    ·have:=hbl _ N6.out k hm;omega
    ·simp at hn;subst hn;have:=hbl _ A3.out k hm;omega
   lb:=rfl
   keys:=fun q hq=>by simp at hq;subst hq;exact KK6.out.past hOA
   only:=O6.out.trans hOA (by simp) }
 ·have HF:=Th hfit
  have L1:=Th hl1;rw [FE.out,hfit] at FT;obtain ⟨r31,r32,r33⟩:=R3.out;have RC:=Th (hrec hS06 (by simp) r32 r33 G6.out A3.out);rw [r31] at RC
  have LLL:Hid (F.length+(l.length+1)≤1000000):=by show _≤_;have:=LL.out;rw [hl1] at this;simpa using this
  clear hfit hl1 CASE r31 r32 r33 hrec;have KX6:Hid (∀ x∈growX gb fv2,∀ cs t,Blk w6 x cs t→t=89∨t=75):=Xcr G6.out
  go_upto_region 10 with (first
   | (go_at_call 35;refine FT.out.mono ?_;rintro e w7 ⟨rfl,rfl⟩)
   | (go_at_call 64;refine RC.out.mono ?_;rintro e w7 ⟨m4,news,bv,ov,fv3,Lb,rfl,hp⟩;obtain ⟨ba,bc,rfl⟩:=Xac hp.bt;obtain ⟨oa,oc,rfl⟩:=Xac hp.row.own;have PR:=Th hp;clear hp RC))
  have hO67:=PR.out.only;rw [show m3.nb=nb2 from R3.out.1] at hO67;have O67:=Th hO67
  have hA3b:Blk w6 nb2 [.int .i64 m3.n.id,.bool m3.root,.bool m3.n.leaf,m3.ev,m3.cv] 77:=by have:=A3.out.blk;rw [R3.out.1] at this;exact this
  have hm3b:nb2∈m3.blocks:=by rw [←R3.out.1];simp [MNd.blocks]
  have N7:Hid (NodeAt w7 M mm):=N6.out.far O67.out hA3b (fun hm=>A13.out _ hm hm3b) KX6.out
  have hxk:w2.heap.size∉nb2 :: growX gb fv2:=fun hm=>by
   rcases Zg.1 hm with h | h
   ·exact absurd ((h ▸ BX6.out).inj hA3b).2 (by decide)
   ·rcases KX6.out _ h _ _ BX6.out with h | h <;> exact absurd h (by decide)
  have BX7:Hid (Blk w7 w2.heap.size [.slice ka bk.length kc,.int .u64 bx] 43):=O67.out.blk BX6.out hxk
  have KK7:Hid (KeyOk w7 M (.slice ka bk.length kc,bk,bx)):=KK6.out.later O67.out (fun x hx cs hb=>by
   rcases Zg.1 hx with h | h
   ·subst h;exact absurd (hb.inj hA3b).2 (by decide)
   ·rcases KX6.out _ h _ _ hb with h | h <;> exact absurd h (by decide))
  have b70:=BX7.out.cell 0;have b71:=BX7.out.cell 1;simp only [Zd,Zb] at b70 b71
  have hlb:Lb.length=l.length:=by have:=congrArg List.length PR.out.lb;simpa using this
  have hnl:news.length=l.length:=by have:=congrArg List.length PR.out.ns;simpa [Xbu] using this
  have LBB:Hid (Lb.length≤1000000∧news.length≤1000000):=by show _∧_;have:=LLL.out;omega
  have KO:Hid (∀ v∈kvsC Lb,v.oneCell'=true):=Xdh PR.out.keys;have BA:Hid (Blk (w7.alloc (.cells #[.slice ka bk.length kc,.int .u64 bx] 43)) w7.heap.size [.slice ka bk.length kc,.int .u64 bx] 43):=Blk.new [.slice ka bk.length kc,.int .u64 bx] 43 w7;have OWA:Hid ((w7.alloc (.cells #[.slice ka bk.length kc,.int .u64 bx] 43)).ownsRow 0 43 2 (.slice (some ⟨w7.heap.size,0,none⟩) 1 1) 1 (kvsC [(.slice ka bk.length kc,bk,bx)])):=I.blk_owns BA.out rfl (Zq _) (by decide) rfl rfl;have SRA:Hid (0<Lb.length→∃ ad,ba=some ad∧∀ j u,(kvsC Lb)[j]?=some u→(w7.alloc (.cells #[.slice ka bk.length kc,.int .u64 bx] 43)).cell? (ad.add j)=some u):=Xjf (Xad PR.out.bt ((Only.refl _ _).alloc _))
  clear hO67 hA3b hm3b hxk hlb hnl b60 b61
  go_wp2_with (first
   | (at_builtin;refine Xap rfl (.tmp 75) (.tmp 76) 48 rfl 43 underlying48 (info_parts Xbq) rfl (by decide) (.slice (some ⟨w7.heap.size,0,none⟩) 1 1) 1 (kvsC [(.slice ka bk.length kc,bk,bx)]) rfl OWA.out ba Lb.length bc rfl (kvsC Lb) (Xcu Lb) SRA.out KO.out (by have:=LBB.out;omega) (by decide) ?_;intro v8 w8 hg8;obtain ⟨va,vc,rfl⟩:=hg8.shape;have G8:=Th hg8;have O78:=Th (show Only [] w7 (w8.alloc (.cells #[.pointer (some ⟨nb2,0,none⟩)] 75)) from ((((Only.refl [] w7).alloc _).trans hg8.only (fun x hx=>.inr (by simp [Value.ownBlock] at hx;omega)))).alloc _);clear hg8)
   | (at_builtin;refine Xap rfl (.tmp 79) (.tmp 80) 81 rfl 75 underlying81 (info_parts Xcg) rfl (by decide) (.slice (some ⟨w8.heap.size,0,none⟩) 1 1) 1 [.pointer (some ⟨nb2,0,none⟩)] rfl (Blk.owns (Blk.new [.pointer (some ⟨nb2,0,none⟩)] 75 w8) (by show 1≤maxLen;decide)) oa news.length oc rfl (news.map ptrN) (by simp) (Xjf (Xad PR.out.row.own O78.out)) (by intro u hu;obtain ⟨q,_,rfl⟩:=Zi.1 hu;rfl) (by have:=LBB.out;omega) (by decide) ?_;intro v9 w9 hg9;obtain ⟨vb,vd,rfl⟩:=hg9.shape;have G9:=Th hg9;clear hg9))
  go_ret2;have h89:Only [] w8 w9:=((Only.refl [] w8).alloc _).trans G9.out.only (fun x hx=>.inr (by simp [Value.ownBlock] at hx;omega))
  have h78:Only [] w7 w8:=((Only.refl [] w7).alloc _).trans G8.out.only (fun x hx=>.inr (by simp [Value.ownBlock] at hx;omega));have h79:Only [] w7 w9:=h78.trans h89 (by simp)
  have hO7:Only (m.nb :: growX gb fv) w w7:=O6.out.trans O67.out (fun x hx=>by
   rcases Zg.1 hx with h | h
   ·exact .inr (by rw [h];exact Zp S4.out NB2.out)
   ·simp only [growX,Zg,Zk] at h
    rcases h with h | h
    ·exact .inl (by simp [growX,h])
    ·rcases LI.out x h with h' | h'
     ·exact .inl (by simp [growX,h'])
     ·exact .inr h')
  have hs7:w6.heap.size≤w7.heap.size:=O67.out.size
  have hbv:∀ k,(Value.slice va (1+Lb.length) vc).ownBlock=some k→w7.heap.size≤k:=fun k hk=>by
   rcases G8.out.lies k hk with h | h
   ·simp [Value.ownBlock] at h;omega
   ·simp at h;omega
  have hov:∀ k,(Value.slice vb (1+news.length) vd).ownBlock=some k→w7.heap.size≤k:=fun k hk=>by
   have:=h78.size
   rcases G9.out.lies k hk with h | h
   ·simp [Value.ownBlock] at h;omega
   ·simp at h;omega
  have pr:=PR.out;refine ⟨mm,m4 :: news,_,_,fv3,(.slice ka bk.length kc,bk,bx) :: Lb,rfl,?_⟩;rw [L1.out]
  have hns:∀ n∈news,∀ x∈n.blocks,w.heap.size≤x:=fun n hn x hx=>Zp hS06 (pr.nodes.new n hn x hx)
  have h4b:∀ x∈m4.blocks,x=nb2∨w6.heap.size≤x:=fun x hx=>by
   have:=pr.blocks x hx;rw [R3.out.1] at this;exact this
  have hm4:Apart mm m4:=fun x hx hy=>by
   have hlt:=N6.out.lt x hx
   rcases h4b x hy with h | h
   ·exact A13.out x hx (by rw [h,←R3.out.1];simp [MNd.blocks])
   ·omega
  have hmn:∀ n∈news,Apart mm n:=fun n hn x hx hy=>by
   have hlt:=N6.out.lt x hx;have:=pr.nodes.new n hn x hy;omega
  exact {
   at_:=N7.out.past h79
   nb:=hr1.1
   root:=hr1.2.1
   n:=hr1.2.2
   blocks:=KB.out
   nodes:=⟨fun m' hm=>by
     rcases Zg.1 hm with h | h
     ·rw [h];exact pr.at_.past h79
     ·exact (pr.nodes.at_ m' h).past h79,fun m' hm x hx=>by
     rcases Zg.1 hm with h | h
     ·rw [h] at hx
      rcases h4b x hx with h | h
      ·rw [h];exact Zp S4.out NB2.out
      ·omega
     ·exact hns m' h x hx,Yh.2 ⟨pr.apart,pr.nodes.apart⟩⟩
   apart:=fun n hn=>by
    rcases Zg.1 hn with h | h
    ·rw [h];exact hm4
    ·exact hmn n h
   ns:=by
    have h1':=pr.ns;have h2':=pr.n;rw [R3.out.2.2] at h1' h2';simp only [Zx,numb,h1',h2',Ze,Zz,Wn]
   roots:=fun n hn=>by
    rcases Zg.1 hn with h | h
    ·rw [h,pr.root];exact R3.out.2.1
    ·exact pr.roots n h
   grow:=(pr.grow.past h79).congr (by simp [ptrN,pr.nb])
   lies:=fun k hk=>by
    rcases pr.lies k hk with h | h
    ·exact LI.out k h
    ·exact .inr (by omega)
   row:=⟨by
     have h9:=G9.out.own
     have e1:ptrN m4=.pointer (some ⟨nb2,0,none⟩):=by unfold ptrN;rw [pr.nb,R3.out.1]
     rw [Nat.add_comm] at h9
     simpa [e1,Nat.add_comm] using h9,fun k hk=>by have:=hov k hk;exact ⟨fun hm=>by have:=HM.out _ hm;omega,by omega⟩⟩
   bt:=by
    have h9:=Xad G8.out.own h89;rw [←Xbm] at h9
    simpa [Nat.add_comm] using h9
   bnew:=fun k hk=>by have:=hbv k hk;omega
   boff:=fun k hk=>by
    have hk':=hbv k hk;refine ⟨fun hm=>?_,fun n hn hm=>?_⟩
    ·have:=N7.out.lt k hm;omega
    ·rcases Zg.1 hn with h | h
     ·rw [h] at hm;have:=pr.at_.lt k hm;omega
     ·have:=(pr.nodes.at_ n h).lt k hm;omega
   lb:=by simp [pr.lb]
   keys:=fun q hq=>by
    rcases Zg.1 hq with h | h
    ·rw [h];exact KK7.out.past h79
    ·exact (pr.keys q h).past h79
   only:=hO7.trans h79 (by simp) }
theorem Xpg {leaf:Bool} {E:List Pr} {C:List Int} {p:List Pr × List Int} {l:List (Pr × List Pr × List Int)} (hp:Parts leaf E C p l):∀ {w:World} {M:List Nat} {base gb:Nat} {fv:Value} {F:List MNd} {m:MNd},m.n.leaf=leaf→m.n.es=E→m.n.cs=C →
  GrowAt w M base gb fv F→NodeAt w M m→(∀ x∈M,x<w.heap.size)→base≤w.heap.size→C.length=(if leaf then 0 else E.length+1)→Keys E→E.length≤1000000→fitsP leaf E=false→F.length+l.length≤1000000 →
  Calls prog 64 #[.pointer (some ⟨gb,0,none⟩),.pointer (some ⟨m.nb,0,none⟩)] w fun e w'=>∃ m' news bv ov fv' Lb,e=.returned (.tuple #[bv,ov])∧PartsRes w w' M base gb fv F m p l m' news bv ov fv' Lb:=by
 induction hp with
 | @one E C i b hi hb hf =>
  intro w M base gb fv F m hle hE hC hG h hM hbase hK hk hlen hfit hl;have hc:=Xea hk hfit;rw [hi] at hc;subst hE hC hle;exact Xlw hG h hM hbase hK hk hlen hi hb hc.1 hl (.inl ⟨hf,rfl⟩)
 | @more E C i b p l hi hb hf hp ih =>
  intro w M base gb fv F m hle hE hC hG h hM hbase hK hk hlen hfit hl;have hc:=Xea hk hfit;rw [hi] at hc;subst hE hC hle;have hsh:=Xdj (leaf:=m.n.leaf) hc.1 hc.2.1;refine Xlw hG h hM hbase hK hk hlen hi hb hc.1 hl (.inr ⟨hf,p,l,rfl,fun hs hF hr hn hG1 h1=>?_⟩);refine ih (by rw [hn]) (by rw [hn]) (by rw [hn]) hG1 h1 (fun x hx=>Ye (hM x hx) hs) (Zp hbase hs) ?_ (hk.rest i) (by omega) hf (by rw [hF];simp only [Zz] at hl;omega)
  have h2:=hc.2.1;unfold restC restE;cases hlf:m.n.leaf
  ·rw [hlf] at hK
   simp only [Bool.false_eq_true,if_false] at hK ⊢
   rw [Zy,Zy,hK];omega
  ·simp
end T
namespace T
open Go Go.RowKit D B C G P H Tryz
theorem le_trans' {a b c:Pr} (h1:¬lt b a) (h2:¬lt c b):¬lt c a:=fun h=>by
 rcases Xiu b c with h3 | h3 | h3
 ·exact h1 (Xfe h3 h)
 ·exact h1 (h3 ▸ h)
 ·exact h2 h3
theorem weak_low {l:List Pr} (hl:WUp l) {x:Pr} {i:Nat} (h1:low l x≤i) (h2:i<l.length):¬lt l[i] x:=by
 have h3:low l x<l.length:=by omega
 have h4:¬lt l[low l x] x:=by
  have:=Vg (w:=h3);simp only [decide_eq_true_eq] at this;exact this
 rcases Yv (low l x) i with h5 | h5
 ·exact le_trans' h4 (Yy.1 hl _ _ h3 h2 h5)
 ·have h6:i=low l x:=by omega
  subst h6;exact h4
theorem weak_child {l:List Pr} (hl:WUp l) (x:Pr):(∀ i (h:i<l.length),i<Xao l x→¬lt x l[i])∧(∀ i (h:i<l.length),Xao l x≤i→¬lt l[i] x):=by
 refine ⟨fun i h hi=>?_,fun i h hi=>weak_low hl (by unfold Xao at hi;omega) h⟩
 rcases Yv i (low l x) with h1 | h1
 ·exact lt_asymm (Xft h1)
 ·unfold Xao at hi
  split at hi
  ·rename_i hh
   have h2:i=low l x:=by omega
   subst h2;unfold has at hh;rw [decide_eq_true_eq,Zc h] at hh;simp only [Zw] at hh
   rw [hh];exact lt_irrefl x
  ·omega
theorem up1_weak {u:List Pr × List Int} (hu:WUp u.1) (x:Pr × Int):WUp (up1 u x).1:=by
 have hc:=weak_child hu x.1;unfold up1 WUp;simp only;have hT:=hu.sublist (List.take_sublist (Xao u.1 x.1) u.1);have hD:=hu.sublist (List.drop_sublist (Xao u.1 x.1) u.1)
 have hTD:∀ a∈u.1.take (Xao u.1 x.1),∀ b∈u.1.drop (Xao u.1 x.1),¬lt b a:=by
  have h:=hu;unfold WUp at h;rw [←Yf (Xao u.1 x.1) u.1] at h;exact (Zn.1 h).2.2
 have hT1:∀ a∈u.1.take (Xao u.1 x.1),¬lt x.1 a:=fun a ha=>by
  obtain ⟨i,hi,rfl⟩:=Xl ha;rw [List.getElem_take];rw [Zj] at hi;exact hc.1 i (by omega) (by omega)
 have hD1:∀ a∈u.1.drop (Xao u.1 x.1),¬lt a x.1:=fun a ha=>by
  obtain ⟨i,hi,rfl⟩:=Xl ha;rw [List.getElem_drop];rw [Zy] at hi;exact hc.2 _ (by omega) (by omega)
 refine Zn.2 ⟨hT,Yh.2 ⟨hD1,hD⟩,fun a ha b hb=>?_⟩
 rcases Zg.1 hb with h | h
 ·rw [h];exact hT1 a ha
 ·exact hTD a ha b h
theorem up1_lens {u:List Pr × List Int} (x:Pr × Int) (h:u.2.length=u.1.length+1):(up1 u x).1.length=u.1.length+1∧(up1 u x).2.length=u.2.length+1:=by
 have hc:=Xex u.1 x.1;unfold up1;simp only [Ze,Zz,Zj,Zy];omega
theorem ups_ok : ∀ (l:List (Pr × Int)) {u:List Pr × List Int},WUp u.1→u.2.length=u.1.length+1→WUp (ups u l).1∧(ups u l).1.length=u.1.length+l.length∧(ups u l).2.length=u.2.length+l.length
 | [],u,h1,h2=>⟨h1,rfl,rfl⟩
 | x :: l,u,h1,h2=>by
  have hl:=up1_lens x h2;have h:=ups_ok l (up1_weak h1 x) (by rw [hl.1,hl.2,h2]);simp only [Zz];exact ⟨h.1,by have:=h.2.1;rw [hl.1] at this;show (ups (up1 u x) l).1.length=_;omega,by have:=h.2.2;rw [hl.2] at this;show (ups (up1 u x) l).2.length=_;omega⟩
structure SplAt (w:World) (M:List Nat) (base gb:Nat) (fv:Value) (rb:Nat) (rcs:List Value) (ws F:List MNd):Prop where
 nodes:Nodes w M base (ws++F)
 grow:GrowAt w M base gb fv F
 row:Blk w rb rcs 75
 ptr:∀ (i:Nat) (m:MNd),ws[i]?=some m→rcs[i]?=some (ptrN m)
 rne:fv.ownBlock≠some rb
structure SplRes (w w':World) (M:List Nat) (base gb:Nat) (fv:Value) (rb:Nat) (rcs:List Value) (ws F:List MNd) (W' F':List Nd) (ws' Fm:List MNd) (fv':Value):Prop where
 at_:SplAt w' M base gb fv' rb rcs ws' Fm
 nbs:ws'.map (·.nb)=ws.map (·.nb)
 roots:ws'.map (·.root)=ws.map (·.root)
 ns:ws'.map (·.n)=W'.reverse
 fs:Fm.map (·.n)=F'
 froot:∀ m∈Fm,m.root=false
 blocks:∀ m∈ws'++Fm,∀ x∈m.blocks,(∃ m0∈ws++F,x∈m0.blocks)∨w.heap.size≤x
 only:Only (ws.flatMap MNd.blocks++growX gb fv) w w'
def Xcm (w:World) (M:List Nat) (base gb:Nat) (fv:Value) (rb cap:Nat) (rcs:List Value) (ws F:List MNd) (W' F':List Nd):Prop :=
 Calls prog 36 #[.pointer (some ⟨gb,0,none⟩),.slice (some ⟨rb,0,none⟩) ws.length cap] w fun e w'=>∃ ws' Fm fv',e=.returned (.tuple #[])∧SplRes w w' M base gb fv rb rcs ws F W' F' ws' Fm fv'
theorem splits_fit {w:World} {M:List Nat} {base gb rb cap:Nat} {fv:Value} {rcs:List Value} {us F:List MNd} {m:MNd} (h:SplAt w M base gb fv rb rcs (us++[m]) F) (hk:Keys m.n.es) (hl:m.n.es.length≤1000000) (hf:fitsP m.n.leaf m.n.es=true) (hr:∀ f∈F,f.root=false) (hcap:us.length+1≤cap) (hn:us.length≤1000000) :
  Xcm w M base gb fv rb cap rcs (us++[m]) F (m.n :: (us.map (·.n)).reverse) (F.map (·.n)):=by
 have c0:=h.row.cell us.length;rw [h.ptr us.length m (by simp)] at c0;have FT:=Th (Xdr (h.nodes.at_ m (by simp)) hk hl);rw [hf] at FT;have HH:=Th h;have HR:=Th hr;obtain ⟨n,hnn⟩:∃ n,us.length=n:=⟨_,rfl⟩;unfold Xcm;rw [Ze,Zt,hnn];rw [hnn] at c0 hcap hn;unfold ptrN at c0;clear h hr
 have hw:IntKind.i64.wrap ((n:Int)+1-1)=n:=by rw [Yi];omega
 go_enter func36,ntmps36
 go_wp2_with (go_at_call 35;refine FT.out.mono ?_;rintro e w1 ⟨rfl,rfl⟩)
 refine bodyPost_ret (results_none rfl _ _ _) rfl ?_
 exact ⟨us++[m],F,fv,rfl,HH.out,rfl,rfl,by simp,rfl,HR.out,fun m hm x hx=>.inl ⟨m,hm,hx⟩,Only.refl _ _⟩
end T
end Go.Proofs.YtiijokopcgnokaaGreat
