import Derived.Test.YtiijokopcgnokaaGreatWTnP
set_option maxRecDepth 100000
set_option maxHeartbeats 2000000
set_option linter.unusedSimpArgs false
set_option linter.unusedVariables false
namespace Go.Proofs.YtiijokopcgnokaaGreat
namespace T
open Go Go.RowKit D B C G P H Tryz
structure BoxAt (w:World) (N:Nat) (tb te:TypeId) (size:Nat) (v:Value) (n:Nat) (xs:List Value):Prop where
 box:Blk w N [v] tb
 row:w.ownsRow 0 te size v n xs
def boxX (N:Nat) (v:Value):List Nat:=N :: v.ownBlock.toList
theorem BoxAt.later {w w':World} {N n size:Nat} {tb te:TypeId} {v:Value} {xs:List Value} (h:BoxAt w N tb te size v n xs) {X:List Nat} (hO:Only X w w') (hX:∀ x∈boxX N v,x∉X):BoxAt w' N tb te size v n xs :=
 ⟨hO.blk h.box (hX _ (by simp [boxX])),Xab h.row hO (fun k hk=>hX k (by simp [boxX,hk]))⟩
theorem BoxAt.past {w w':World} {N n size:Nat} {tb te:TypeId} {v:Value} {xs:List Value} (h:BoxAt w N tb te size v n xs) (hO:Only [] w w'):BoxAt w' N tb te size v n xs:=h.later hO (by simp)
theorem BoxAt.grow {w wA w2:World} {N n n' size:Nat} {tb te:TypeId} {v v':Value} {xs xs':List Value} (h:BoxAt w N tb te size v n xs) (ht:tb≠te) (hO:Only [] w wA) (hg:Grew wA w2 te size v v' n' xs') :
  w2.cell? ⟨N,0,none⟩=some v∧w2.frozen? ⟨N,0,none⟩=false∧BoxAt (w2.setCell ⟨N,0,none⟩ v') N tb te size v' n' xs'∧Only (boxX N v) w (w2.setCell ⟨N,0,none⟩ v')∧(∀ k,v'.ownBlock=some k→v.ownBlock=some k∨w.heap.size≤k):=by
 have hN:N∉v.ownBlock.toList:=fun hm=>Xaj h.row h.box ht (by simpa using hm)
 have hb2:=hg.only.blk (hO.blk h.box (by simp)) hN;have hO2:Only [N] w2 (w2.setCell ⟨N,0,none⟩ v'):=Xbe _ _ _ _;refine ⟨by rw [hb2.cell];rfl,hb2.frozen 0,⟨hb2.set 0 v',Xab hg.own hO2 (fun k hk hm=>?_)⟩,?_,fun k hk=>(hg.lies k hk).imp id (fun h=>Zp hO.size h)⟩
 ·simp at hm;subst hm
  exact Xaj hg.own hb2 ht hk
 ·exact ((hO.mono (M':=boxX N v) (by simp)).trans hg.only (fun x hx=>.inl (by simp only [boxX,Zg];exact .inr hx))).trans hO2 (fun x hx=>.inl (by simp at hx;simp [boxX,hx]))
theorem BoxAt.kind {w:World} {N n size:Nat} {tb te:TypeId} {v:Value} {xs:List Value} (h:BoxAt w N tb te size v n xs) {x:Nat} (hx:x∈boxX N v) {cs:List Value} {t:TypeId} (hb:Blk w x cs t):t=tb∨t=te:=by
 simp only [boxX,Zg,Zk] at hx
 rcases hx with rfl | hx
 ·exact .inl (hb.inj h.box).2
 ·obtain ⟨cs',hb'⟩:=Xag h.row hx
  exact .inr (hb.inj hb').2
theorem BoxAt.lt {w:World} {N n size:Nat} {tb te:TypeId} {v:Value} {xs:List Value} (h:BoxAt w N tb te size v n xs):∀ x∈boxX N v,x<w.heap.size:=fun x hx=>by
 simp only [boxX,Zg,Zk] at hx
 rcases hx with rfl | hx
 ·exact h.box.lt
 ·exact Xbk h.row hx
structure AllS (w:World) (M:List Nat) (base pbx lbx:Nat) (pv lv:Value) (ps:List Int) (L:List KV):Prop where
 pb:BoxAt w pbx 52 3 1 pv ps.length (intsC ps)
 lb:BoxAt w lbx 48 43 2 lv L.length (kvsC L)
 keys:∀ q∈L,KeyOk w M q
 off:∀ x∈boxX pbx pv++boxX lbx lv,x∉M∧base≤x
theorem AllS.kind {w:World} {M:List Nat} {base pbx lbx:Nat} {pv lv:Value} {ps:List Int} {L:List KV} (h:AllS w M base pbx lbx pv lv ps L) {x:Nat} (hx:x∈boxX pbx pv++boxX lbx lv) {cs:List Value} {t:TypeId} (hb:Blk w x cs t):t=52∨t=3∨t=48∨t=43:=by
 rcases Za.1 hx with h1 | h1
 ·rcases h.pb.kind h1 hb with h | h
  ·exact .inl h
  ·exact .inr (.inl h)
 ·rcases h.lb.kind h1 hb with h | h
  ·exact .inr (.inr (.inl h))
  ·exact .inr (.inr (.inr h))
theorem AllS.lt {w:World} {M:List Nat} {base pbx lbx:Nat} {pv lv:Value} {ps:List Int} {L:List KV} (h:AllS w M base pbx lbx pv lv ps L):∀ x∈boxX pbx pv++boxX lbx lv,x<w.heap.size:=fun x hx=>by
 rcases Za.1 hx with h1 | h1
 ·exact h.pb.lt x h1
 ·exact h.lb.lt x h1
theorem AllS.cross {w:World} {M:List Nat} {base pbx lbx:Nat} {pv lv:Value} {ps:List Int} {L:List KV} (h:AllS w M base pbx lbx pv lv ps L):∀ x∈boxX pbx pv,x∉boxX lbx lv:=fun x hx hy=>by
 obtain ⟨cs,t,hb,ht⟩:∃ cs t,Blk w x cs t∧(t=52∨t=3):=by
  have hx':=hx;simp only [boxX,Zg,Zk] at hx'
  rcases hx' with e | hx'
  ·rw [e];exact ⟨_,_,h.pb.box,.inl rfl⟩
  ·obtain ⟨cs,hb⟩:=Xag h.pb.row hx'
   exact ⟨cs,_,hb,.inr rfl⟩
 rcases h.lb.kind hy hb with h1 | h1 <;> rcases ht with h2 | h2 <;> rw [h2] at h1 <;> exact absurd h1 (by decide)
theorem AllS.step {w w':World} {M M':List Nat} {base pbx lbx:Nat} {pv lv:Value} {ps:List Int} {L:List KV} (h:AllS w M base pbx lbx pv lv ps L) (hS:Step M M' w w'):AllS w' M' base pbx lbx pv lv ps L :=
 ⟨h.pb.later hS.1 (fun x hx=>(h.off x (Za.2 (.inl hx))).1),h.lb.later hS.1 (fun x hx=>(h.off x (Za.2 (.inr hx))).1),fun q hq=>(h.keys q hq).step hS,fun x hx=>⟨P.Step.keep hS (h.lt x hx) (h.off x hx).1,(h.off x hx).2⟩⟩
theorem Xpz {w:World} {M:List Nat} {base pbx lbx:Nat} {pv lv:Value} {ps:List Int} {L:List KV} {m:MNd} (h:AllS w M base pbx lbx pv lv ps L) (hm:NodeAt w M m) (hd:∀ x∈m.blocks,x∉boxX pbx pv++boxX lbx lv) (hM:∀ x∈M,x<w.heap.size) (hb:base≤w.heap.size) (hp:ps.length≤900000) (hL:L.length+m.L.length≤900000) :
  Calls prog 75 #[.pointer (some ⟨m.nb,0,none⟩),.pointer (some ⟨pbx,0,none⟩),.pointer (some ⟨lbx,0,none⟩)] w fun e w'=>∃ pv' lv',e=.returned (.bool true)∧AllS w' M base pbx lbx pv' lv' (ps++[m.n.id]) (if m.n.leaf then L++m.L else L)∧Only (boxX pbx pv++boxX lbx lv) w w' ∧
   (∀ k,pv'.ownBlock=some k→pv.ownBlock=some k∨w.heap.size≤k)∧(∀ k,lv'.ownBlock=some k→lv.ownBlock=some k∨w.heap.size≤k):=by
 have c0:=hm.blk.cell 0;have c2:=hm.blk.cell 2;have c3:=hm.blk.cell 3;simp only [Zd,Zb] at c0 c2 c3;obtain ⟨pa,pc,rfl⟩:=Xac h.pb.row;obtain ⟨la,lc,rfl⟩:=Xac h.lb.row;obtain ⟨ea,ec,hev⟩:=Xac hm.ents;rw [hev] at c3;have EV:=Th hev;have HH:=Th h;have HN:=Th hm;have HD:=Th hd;have HM:=Th hM;have HB:=Th hb;have HLL:=Th hL;have p0:=h.pb.box.cell 0;simp only [Zb] at p0;obtain ⟨np,hnp⟩:∃ np,ps.length=np:=⟨_,rfl⟩
 have PB:Hid (BoxAt w pbx 52 3 1 (.slice pa np pc) np (intsC ps)):=by show BoxAt _ _ _ _ _ _ _ _;rw [←hnp];exact h.pb
 rw [hnp] at p0 hp HH HD;have NP:=Th hnp;rw [hnp];obtain ⟨idv,hidv⟩:∃ idv,m.n.id=idv:=⟨_,rfl⟩;rw [hidv] at c0;have IDV:=Th hidv;rw [hidv];have OA:Hid (Only [] w (w.drew.alloc (.cells [.int .i64 idv].toArray 3))):=(Only.refl _ _).drew.alloc _;have p0c:(w.alloc (.cells #[.int .i64 idv] 3)).cell? ⟨pbx,0,none⟩=some (.slice pa np pc):=((Only.refl [] w).alloc _).cell p0 (by simp);have SV:Hid ((w.drew.alloc (.cells [.int .i64 idv].toArray 3)).cell? ⟨m.nb,0,none⟩=some (.int .i64 idv)):=OA.out.cell c0 (by simp);have MNO:Hid (m.nb∉boxX pbx (.slice pa np pc)++boxX lbx (.slice la L.length lc)):=HD.out m.nb (by simp [MNd.blocks])
 have NEW:Hid (0<1→∃ ad,some (⟨w.heap.size,0,none⟩:Addr)=some ad∧∀ j u,[Value.int .i64 idv][j]?=some u→(w.drew.alloc (.cells [.int .i64 idv].toArray 3)).cell? (ad.add j)=some u):=fun _=>⟨_,rfl,fun j u hu=>by rw [Xah,Yd];exact ((Blk.new [.int .i64 idv] 3 w.drew).cell j).trans hu⟩
 have ONE:Hid (∀ u∈[Value.int .i64 idv],u.oneCell'=true):=by intro u hu;simp at hu;subst hu;rfl
 have NOB:Hid (m.nb∉(Value.slice pa np pc).ownBlock.toList):=fun hx=>MNO.out (Za.2 (.inl (by simp only [boxX,Zg];exact .inr hx)))
 obtain ⟨lf,hlf⟩:∃ lf,m.n.leaf=lf:=⟨_,rfl⟩;rw [hlf] at c2;rw [hlf];clear h hm hd hM hb hL hev hnp hidv hlf
 go_enter func75,ntmps75
 go_wp2_with fail
 go_cut [] (fun wx=>∃ pa' pc',BoxAt wx pbx 52 3 1 (.slice pa' (np+1) pc') (np+1) (intsC ps++[.int .i64 idv])∧Only (boxX pbx (.slice pa np pc)) w wx∧(∀ k,(Value.slice pa' (np+1) pc').ownBlock=some k→(Value.slice pa np pc).ownBlock=some k∨w.heap.size≤k))
 case first =>
  refine wp_region_held_drew (S:=fun w'=>w'.cell? ⟨m.nb,0,none⟩=some (.int .i64 idv)) (by kernel_rfl) (((Only.refl [] w).drew).cell c0 (by simp)) (fun hH=>?_)
  refine tkA 1 6 (.pointer (some ⟨m.nb,0,none⟩)) hH ?_
  refine tkA 2 7 (.pointer (some ⟨m.nb,0,none⟩)) hH ?_
  refine tkA 3 8 (.pointer (some ⟨m.nb,0,none⟩)) hH ?_
  refine Xaq 4 9 (.int .i64 idv) rfl rfl (by kernel_rfl) (by kernel_rfl) (by kernel_rfl) (fun _ _ _ h=>h) (Or.inl ⟨by rfl,fun w1 hw1=>by have hw2:_=_:=hw1;go_simp⟩) hH ?_
  (try simp only [Act.put,qSa,qSz,qSs])
  refine Xht 0 5 rfl rfl (by kernel_rfl) (by rfl) (by rfl) (fun K hK=>?_) (fun K hK=>?_)
  ·go_wp2_with fail
   refine hK.out _ _ hH ?_
   clear hK K
   (try simp only [Act.put,qSa,qSz,qSs])
   refine oneA 5 fun K hK=>?_
   go_wp2_with fail
   refine hK.out _ _ SV.out ?_
   clear hK K
   (try simp only [Act.put,qSa,qSz,qSs])
   refine oneA 6 fun K hK=>?_
   refine Xbl 11 rfl (.tmp 5) (.tmp 10) 52 rfl 3 underlying52 (info_parts Xcl) rfl (by decide) (.slice pa np pc) np (intsC ps) rfl (Xad PB.out.row OA.out) (some ⟨w.heap.size,0,none⟩) 1 1 rfl [.int .i64 idv] rfl NEW.out ONE.out (by omega) (by decide) ?_
   intro v' w6 hg6;obtain ⟨va,vc,rfl⟩:=hg6.shape;obtain ⟨k4,kf,hB6,hO6,hl6⟩:=PB.out.grow (by decide) OA.out hg6;have hC6:w6.cell? ⟨m.nb,0,none⟩=some (.int .i64 idv):=hg6.only.cell SV.out NOB.out
   refine hK.out _ _ hC6 ?_
   clear hK K hH
   (try simp only [Act.put,qSa,qSz,qSs])
   refine oneA 7 fun K hK=>?_
   go_wp2_with fail
   have hC7:(w6.setCell ⟨pbx,0,none⟩ (.slice va (np+1) vc)).cell? ⟨m.nb,0,none⟩=some (.int .i64 idv):=hO6.cell c0 (fun hm=>MNO.out (Za.2 (.inl hm)))
   refine hK.out _ _ hC7 ?_
   clear hK K
   (try simp only [Act.put,qSa,qSz,qSs])
   refine wpAnyH_done (by kernel_rfl) ?_ _;have B6:=Th hB6;have O6:=Th hO6;have L6:=Th hl6;clear hg6 hB6 hO6 hl6 k4 kf hC6 hC7
   go_wp2_with fail
   go_meet
   case rel=>exact ⟨_,_,B6.out,O6.out,L6.out⟩
  ·go_wp2_with fail
   refine hK.out _ _ SV.out ?_
   clear hK K
   (try simp only [Act.put,qSa,qSz,qSs])
   refine oneA 0 fun K hK=>?_
   go_wp2_with fail
   refine hK.out _ _ SV.out ?_
   clear hK K
   (try simp only [Act.put,qSa,qSz,qSs])
   refine oneA 6 fun K hK=>?_
   refine Xbl 11 rfl (.tmp 5) (.tmp 10) 52 rfl 3 underlying52 (info_parts Xcl) rfl (by decide) (.slice pa np pc) np (intsC ps) rfl (Xad PB.out.row OA.out) (some ⟨w.heap.size,0,none⟩) 1 1 rfl [.int .i64 idv] rfl NEW.out ONE.out (by omega) (by decide) ?_
   intro v' w6 hg6;obtain ⟨va,vc,rfl⟩:=hg6.shape;obtain ⟨k4,kf,hB6,hO6,hl6⟩:=PB.out.grow (by decide) OA.out hg6;have hC6:w6.cell? ⟨m.nb,0,none⟩=some (.int .i64 idv):=hg6.only.cell SV.out NOB.out
   refine hK.out _ _ hC6 ?_
   clear hK K hH
   (try simp only [Act.put,qSa,qSz,qSs])
   refine oneA 7 fun K hK=>?_
   go_wp2_with fail
   have hC7:(w6.setCell ⟨pbx,0,none⟩ (.slice va (np+1) vc)).cell? ⟨m.nb,0,none⟩=some (.int .i64 idv):=hO6.cell c0 (fun hm=>MNO.out (Za.2 (.inl hm)))
   refine hK.out _ _ hC7 ?_
   clear hK K
   (try simp only [Act.put,qSa,qSz,qSs])
   refine wpAnyH_done (by kernel_rfl) ?_ _;have B6:=Th hB6;have O6:=Th hO6;have L6:=Th hl6;clear hg6 hB6 hO6 hl6 k4 kf hC6 hC7
   go_wp2_with fail
   go_meet
   case rel=>exact ⟨_,_,B6.out,O6.out,L6.out⟩
 case rest =>
  obtain ⟨pa',pc',hP1,hO1,hL1⟩:=hcut;have P1:=Th hP1;have O1:=Th hO1;have L1:=Th hL1;have hcr:=HH.out.cross;have LB1:Hid (BoxAt wc lbx 48 43 2 (.slice la L.length lc) L.length (kvsC L)):=HH.out.lb.later hO1 (fun x hx hy=>hcr x hy hx)
  have N1:Hid (NodeAt wc M m):=HN.out.later hO1 (fun x hx cs hb=>by
   rcases HH.out.pb.kind hx hb with h | h <;> exact absurd h (by decide)) (fun x hx hy=>HD.out x hx (Za.2 (.inl hy)))
  have e2:=hO1.cell c2 (fun hm=>MNO.out (Za.2 (.inl hm)));have e3:=hO1.cell c3 (fun hm=>MNO.out (Za.2 (.inl hm)))
  have FIN:Hid (∀ w7 la' lc' (L':List KV),BoxAt w7 lbx 48 43 2 (.slice la' L'.length lc') L'.length (kvsC L')→Only (boxX lbx (.slice la L.length lc)) wc w7→(∀ k,(Value.slice la' L'.length lc').ownBlock=some k→(Value.slice la L.length lc).ownBlock=some k∨wc.heap.size≤k)→(∀ q∈L',q∈L∨q∈m.L) →
    AllS w7 M base pbx lbx (.slice pa' (np+1) pc') (.slice la' L'.length lc') (ps++[idv]) L'∧Only (boxX pbx (.slice pa np pc)++boxX lbx (.slice la L.length lc)) w w7∧(∀ k,(Value.slice pa' (np+1) pc').ownBlock=some k→(Value.slice pa np pc).ownBlock=some k∨w.heap.size≤k)∧(∀ k,(Value.slice la' L'.length lc').ownBlock=some k→(Value.slice la L.length lc).ownBlock=some k∨w.heap.size≤k)):=by
   intro w7 la' lc' L' hB7 hO7 hL7 hq
   have hc1:∀ x∈boxX pbx (.slice pa' (np+1) pc'),x∉boxX lbx (.slice la L.length lc):=fun x hx hy=>by
    have hlt:=HH.out.lb.lt x hy;simp only [boxX,Zg,Zk] at hx
    rcases hx with h | h
    ·exact hcr x (by rw [h];simp [boxX]) hy
    ·rcases L1.out x h with h | h
     ·exact hcr x (by simp [boxX,h]) hy
     ·omega
   have hS1:=O1.out.size
   have hlies:∀ k,(Value.slice la' L'.length lc').ownBlock=some k→(Value.slice la L.length lc).ownBlock=some k∨w.heap.size≤k:=fun k hk=>(hL7 k hk).imp id (fun h=>by omega)
   have hpl:(ps++[idv]).length=np+1:=by simp [NP.out]
   have hO:Only (boxX pbx (.slice pa np pc)++boxX lbx (.slice la L.length lc)) w w7:=(O1.out.mono (fun x hx=>.inl (Za.2 (.inl hx)))).trans hO7 (fun x hx=>.inl (Za.2 (.inr hx)));refine ⟨⟨?_,hB7,fun q hq'=>?_,fun x hx=>?_⟩,hO,L1.out,hlies⟩
   ·rw [hpl]
    have:=P1.out.later hO7 hc1
    simpa [intsC] using this
   ·have hoff:Off 5 w (boxX pbx (.slice pa np pc)++boxX lbx (.slice la L.length lc)):=fun x hx cs hb=>by
     rcases HH.out.kind hx hb with h | h | h | h <;> exact absurd h (by decide)
    rcases hq q hq' with h | h
    ·exact (HH.out.keys q h).later hO hoff
    ·exact (HN.out.keys q h).later hO hoff
   ·have hnew:w.heap.size≤x→x∉M∧base≤x:=fun h=>⟨fun hm=>by have:=HM.out x hm;omega,by have:=HB.out;omega⟩
    rcases Za.1 hx with h | h
    ·simp only [boxX,Zg,Zk] at h
     rcases h with h | h
     ·exact HH.out.off x (by rw [h];simp [boxX])
     ·rcases L1.out x h with h | h
      ·exact HH.out.off x (by simp [boxX,h])
      ·exact hnew h
    ·simp only [boxX,Zg,Zk] at h
     rcases h with h | h
     ·exact HH.out.off x (by rw [h];simp [boxX])
     ·rcases hlies x h with h | h
      ·exact HH.out.off x (by simp [boxX,h])
      ·exact hnew h
  have l0:=LB1.out.box.cell 0;simp only [Zb] at l0;clear hP1 hO1 hL1 hcr c0 c2 c3 p0 p0c;cases lf
  ·go_wp2_with fail
   go_ret;obtain ⟨f1,f2,f3,f4⟩:=FIN.out _ _ _ L LB1.out (Only.refl _ _) (fun k hk=>.inl hk) (fun q hq=>.inl hq);exact ⟨rfl,_,_,f1,f2,f3,f4⟩
  ·obtain ⟨ml,hml⟩:∃ ml,m.L.length=ml:=⟨_,rfl⟩
   have ML:=Th hml;rw [hml] at e3
   have MNL:Hid (m.nb∉(Value.slice la L.length lc).ownBlock.toList):=fun hx=>MNO.out (Za.2 (.inr (by simp only [boxX,Zg];exact .inr hx)))
   have SRC:Hid (0<ml→∃ ad,ea=some ad∧∀ j u,(kvsC m.L)[j]?=some u→wc.drew.cell? (ad.add j)=some u):=by
    have:=N1.out.ents;rw [EV.out,hml] at this;exact Xjf (Xad this ((Only.refl [] wc).drew))
   have hlm:L.length+ml≤900000:=by rw [←hml];exact HLL.out
   clear hml
   go_wp2_with fail
   refine wp_region_held_drew (S:=fun w'=>w'.cell? ⟨m.nb,3,none⟩=some (.slice ea ml ec)) (by kernel_rfl) (((Only.refl [] wc).drew).cell e3 (by simp)) (fun hH=>?_)
   refine tkA 1 17 (.pointer (some ⟨m.nb,0,none⟩)) hH ?_
   refine tkA 2 18 (.pointer (some ⟨m.nb,0,none⟩)) hH ?_
   refine tkA 3 19 (.pointer (some ⟨m.nb,3,none⟩)) hH ?_
   refine Xaq 4 20 (.slice ea ml ec) rfl rfl (by kernel_rfl) (by kernel_rfl) (by kernel_rfl) (fun _ _ _ h=>h) (Or.inl ⟨by rfl,fun w1 hw1=>by have hw2:_=_:=hw1;go_simp⟩) hH ?_
   (try simp only [Act.put,qSa,qSz,qSs])
   refine oneA 0 fun K hK=>?_
   go_wp2_with fail
   refine hK.out _ _ hH ?_
   clear hK K
   (try simp only [Act.put,qSa,qSz,qSs])
   refine oneA 5 fun K hK=>?_
   refine Xbl 21 rfl (.tmp 16) (.tmp 20) 48 rfl 43 underlying48 (info_parts Xbq) rfl (by decide) (.slice la L.length lc) L.length (kvsC L) rfl (Xad LB1.out.row ((Only.refl [] wc).drew)) ea ml ec rfl (kvsC m.L) (by rw [Xcu,ML.out]) SRC.out (Xdh HN.out.keys) (by omega) (by decide) ?_
   intro v' w6 hg6;obtain ⟨va,vc,rfl⟩:=hg6.shape;obtain ⟨k4,kf,hB6,hO6,hl6⟩:=LB1.out.grow (by decide) ((Only.refl [] wc).drew) hg6;have hC6:w6.cell? ⟨m.nb,3,none⟩=some (.slice ea ml ec):=hg6.only.cell (((Only.refl [] wc).drew).cell e3 (by simp)) MNL.out
   refine hK.out _ _ hC6 ?_
   clear hK K hH
   (try simp only [Act.put,qSa,qSz,qSs])
   refine oneA 6 fun K hK=>?_
   go_wp2_with fail
   have hC7:(w6.setCell ⟨lbx,0,none⟩ (.slice va (L.length+ml) vc)).cell? ⟨m.nb,3,none⟩=some (.slice ea ml ec):=hO6.cell e3 (fun hm=>MNO.out (Za.2 (.inr hm)))
   refine hK.out _ _ hC7 ?_
   clear hK K
   (try simp only [Act.put,qSa,qSz,qSs])
   refine wpAnyH_done (by kernel_rfl) ?_ _;have B6:=Th hB6;have O6:=Th hO6;have L6:=Th hl6;clear hg6 hB6 hO6 hl6 k4 kf hC6 hC7
   go_wp2_with fail
   go_ret
   have hll:(L++m.L).length=L.length+ml:=by rw [Ze,ML.out]
   obtain ⟨f1,f2,f3,f4⟩:=FIN.out _ va vc (L++m.L) (by rw [hll,Xbm];exact B6.out) O6.out (by rw [hll];exact L6.out) (fun q hq=>Za.1 hq);rw [hll] at f1 f4;exact ⟨rfl,_,_,f1,f2,f3,f4⟩
end T
namespace T
open Go Go.RowKit D B C G P H Tryz
def Xgu (u:List Bool) (pg:Nat→List UInt8) (root:Nat) (ns:List Nd):Prop:=∀ n∈ns,(∃ id:Nat,n.id=(id:Nat)∧u.getD id false=true∧Xel (decide (id=root)) n (pg id))∧fitsP n.leaf n.es=true∧Keys n.es∧Kids n
theorem Xgu.sub {u:List Bool} {pg:Nat→List UInt8} {root:Nat} {ns ms:List Nd} (h:Xgu u pg root ns) (hs:∀ n∈ms,n∈ns):Xgu u pg root ms:=fun n hn=>h n (hs n hn)
theorem InPages.of {u:List Bool} {pg:Nat→List UInt8} {root H:Nat} {T:Tr H} (h:InPages u pg root T):Xgu u pg root (nodes H T):=fun n hn=>⟨h.page n hn,(h.fit n hn).1,(h.fit n hn).2,h.kids n hn⟩
structure WalkRes (w w':World) (p:Nat) (M:List Nat) (u:List Bool) (pg:Nat→List UInt8) (k base pbx lbx:Nat) (pv lv:Value) (ps:List Int) (L:List KV) (ns:List Nd) (es:List Pr) (pv' lv':Value) (M':List Nat) (Lt:List KV):Prop where
 pool:PoolV w' p M' u pg (k+2*ns.length)
 boxes:AllS w' M' base pbx lbx pv' lv' (ps++ns.map (·.id)) (L++Lt)
 ents:Lt.map (·.2)=es
 only:Only (M++(boxX pbx pv++boxX lbx lv)) w w'
 mine:∀ x∈M',x∈M∨w.heap.size≤x
 pnew:∀ k,pv'.ownBlock=some k→pv.ownBlock=some k∨w.heap.size≤k
 lnew:∀ k,lv'.ownBlock=some k→lv.ownBlock=some k∨w.heap.size≤k
theorem WalkRes.refl {w:World} {p:Nat} {M:List Nat} {u:List Bool} {pg:Nat→List UInt8} {k base pbx lbx:Nat} {pv lv:Value} {ps:List Int} {L:List KV} (hP:PoolV w p M u pg k) (hA:AllS w M base pbx lbx pv lv ps L):WalkRes w w p M u pg k base pbx lbx pv lv ps L [] [] pv lv M [] where
 pool:=hP
 boxes:=by simpa using hA
 ents:=rfl
 only:=Only.refl _ _
 mine:=fun x hx=>.inl hx
 pnew:=fun k hk=>.inl hk
 lnew:=fun k hk=>.inl hk
theorem Xmo {w:World} {pbx lbx:Nat} {pv lv pv' lv':Value} (h1:∀ k,pv'.ownBlock=some k→pv.ownBlock=some k∨w.heap.size≤k) (h2:∀ k,lv'.ownBlock=some k→lv.ownBlock=some k∨w.heap.size≤k) {x:Nat} (hx:x∈boxX pbx pv'++boxX lbx lv'):x∈boxX pbx pv++boxX lbx lv∨w.heap.size≤x:=by
 simp only [boxX,Za,Zg,Zk] at hx ⊢
 rcases hx with (h | h) | h | h
 ·exact .inl (.inl (.inl h))
 ·rcases h1 x h with h | h
  ·exact .inl (.inl (.inr h))
  ·exact .inr h
 ·exact .inl (.inr (.inl h))
 ·rcases h2 x h with h | h
  ·exact .inl (.inr (.inr h))
  ·exact .inr h
theorem WalkRes.trans {w w1 w2:World} {p:Nat} {M M1 M2:List Nat} {u:List Bool} {pg:Nat→List UInt8} {k base pbx lbx:Nat} {pv lv pv1 lv1 pv2 lv2:Value} {ps:List Int} {L L1 L2:List KV} {ns ns2:List Nd} {es es2:List Pr}
  (h:WalkRes w w1 p M u pg k base pbx lbx pv lv ps L ns es pv1 lv1 M1 L1) (g:WalkRes w1 w2 p M1 u pg (k+2*ns.length) base pbx lbx pv1 lv1 (ps++ns.map (·.id)) (L++L1) ns2 es2 pv2 lv2 M2 L2) :
  WalkRes w w2 p M u pg k base pbx lbx pv lv ps L (ns++ns2) (es++es2) pv2 lv2 M2 (L1++L2) where
 pool:=by have:=g.pool;rw [Ze,show k+2*(ns.length+ns2.length)=k+2*ns.length+2*ns2.length by omega];exact this
 boxes:=by have:=g.boxes;rw [Zs,←Zu,←Zu];exact this
 ents:=by rw [Zs,h.ents,g.ents]
 only:=h.only.trans g.only (fun x hx=>by
  rcases Za.1 hx with h1 | h1
  ·rcases h.mine x h1 with h2 | h2
   ·exact .inl (Za.2 (.inl h2))
   ·exact .inr h2
  ·rcases Xmo h.pnew h.lnew h1 with h2 | h2
   ·exact .inl (Za.2 (.inr h2))
   ·exact .inr h2)
 mine:=fun x hx=>by
  rcases g.mine x hx with h1 | h1
  ·exact h.mine x h1
  ·exact .inr (Zp h.only.size h1)
 pnew:=fun k hk=>by
  rcases g.pnew k hk with h1 | h1
  ·exact h.pnew k h1
  ·exact .inr (Zp h.only.size h1)
 lnew:=fun k hk=>by
  rcases g.lnew k hk with h1 | h1
  ·exact h.lnew k h1
  ·exact .inr (Zp h.only.size h1)
theorem WalkRes.far {w w':World} {p:Nat} {M M':List Nat} {u:List Bool} {pg:Nat→List UInt8} {k base pbx lbx:Nat} {pv lv pv' lv':Value} {ps:List Int} {L Lt:List KV} {ns:List Nd} {es:List Pr}
  (h:WalkRes w w' p M u pg k base pbx lbx pv lv ps L ns es pv' lv' M' Lt) {x:Nat} (hl:x<w.heap.size) (hx:x∉M++(boxX pbx pv++boxX lbx lv)):x∉M'++(boxX pbx pv'++boxX lbx lv'):=fun hm=>by
 rcases Za.1 hm with h1 | h1
 ·rcases h.mine x h1 with h2 | h2
  ·exact hx (Za.2 (.inl h2))
  ·omega
 ·rcases Xmo h.pnew h.lnew h1 with h2 | h2
  ·exact hx (Za.2 (.inr h2))
  ·omega
theorem WalkRes.one {w w1 w2:World} {p:Nat} {M M1:List Nat} {u:List Bool} {pg:Nat→List UInt8} {k base pbx lbx:Nat} {pv lv pv' lv':Value} {ps:List Int} {L:List KV} {rt:Bool} {n:Nd} {m:MNd}
  (hR:ReadRes w p M u pg k rt n m M1 w1) (hA0:AllS w M base pbx lbx pv lv ps L) (hA:AllS w2 M1 base pbx lbx pv' lv' (ps++[m.n.id]) (if m.n.leaf then L++m.L else L)) (hO:Only (boxX pbx pv++boxX lbx lv) w1 w2)
  (h1:∀ k,pv'.ownBlock=some k→pv.ownBlock=some k∨w1.heap.size≤k) (h2:∀ k,lv'.ownBlock=some k→lv.ownBlock=some k∨w1.heap.size≤k):WalkRes w w2 p M u pg k base pbx lbx pv lv ps L [n] (if n.leaf then n.es else []) pv' lv' M1 (if n.leaf then m.L else []) where
 pool:=hR.pool.later hO (fun x hx cs hb=>by
  rcases (hA0.step hR.step).kind hx hb with h | h | h | h <;> exact absurd h (by decide)) (fun x hx hm=>((hA0.step hR.step).off x hm).1 hx)
 boxes:=by
  rw [hR.n] at hA;cases hl:n.leaf
  ·rw [hl] at hA;simpa using hA
  ·rw [hl] at hA;simpa using hA
 ents:=by
  have:=hR.at_.es;rw [hR.n] at this;cases n.leaf
  ·rfl
  ·exact this
 only:=(hR.step.1.mono (M':=M++(boxX pbx pv++boxX lbx lv)) (fun x hx=>.inl (Za.2 (.inl hx)))).trans hO (fun x hx=>.inl (Za.2 (.inr hx)))
 mine:=hR.step.2
 pnew:=fun k hk=>(h1 k hk).imp id (fun h=>Zp hR.step.1.size h)
 lnew:=fun k hk=>(h2 k hk).imp id (fun h=>Zp hR.step.1.size h)
theorem Xmg {w w1 w2:World} {p:Nat} {M M1:List Nat} {u:List Bool} {pg:Nat→List UInt8} {k base pbx lbx:Nat} {pv lv:Value} {ps:List Int} {L:List KV} {rt:Bool} {n:Nd} {m:MNd}
  (hR:ReadRes w p M u pg k rt n m M1 w1) (hA0:AllS w M base pbx lbx pv lv ps L) (hO:Only (boxX pbx pv++boxX lbx lv) w1 w2):NodeAt w2 M1 m∧∃ ca cc,w2.cell? ⟨m.nb,4,none⟩=some (.slice ca n.cs.length cc)∧m.cv=.slice ca n.cs.length cc:=by
 have hN:NodeAt w2 M1 m:=hR.at_.later hO (fun x hx cs hb=>by rcases (hA0.step hR.step).kind hx hb with h | h | h | h <;> exact absurd h (by decide)) (fun x hx hm=>by have h1:=hR.new x hx;have h2:=hA0.lt x hm;omega);obtain ⟨ca,cc,hcv⟩:=Xac hN.kids;have:=hN.blk.cell 4;rw [hR.n] at hcv;refine ⟨hN,ca,cc,?_,hcv⟩;rw [this]
 simp [hcv]
theorem Xjv : ∀ (E:List Pr) (S:List (List Tg)),S.length=E.length→ents (Xbg E S)=S.flatMap ents
 | [],[],_=>rfl
 | e :: E,s :: S,h=>by
  simp only [Zz,Nat.add_right_cancel_iff] at h;rw [show Xbg (e :: E) (s :: S)=sp e :: s++Xbg E S from rfl,Xa,ents_sp,Xby,Xjv E S h];rfl
theorem ents_weave {E:List Pr} {S:List (List Tg)} (h:S.length=E.length+1):ents (weave E S)=S.flatMap ents:=by
 obtain ⟨s,S',rfl⟩:∃ s S',S=s :: S':=by
  cases S with
  | nil=>simp at h
  | cons s S'=>exact ⟨s,S',rfl⟩
 simp only [Zz,Nat.add_right_cancel_iff] at h;rw [Xkz _ _ _ h.symm,Xby,Xjv E S' h];rfl
def entsT {h:Nat} (t:Tr h):List Pr:=ents (seq h t)
theorem Xdv (i:Int) (E:List Pr):entsT (.leaf i E)=E:=by unfold entsT;rw [Xcn,Xfn]
theorem Xgg {h:Nat} {i:Int} {E:List Pr} {K:List (Tr h)} (hl:K.length=E.length+1):entsT (.node i E K)=K.flatMap entsT:=by
 unfold entsT;rw [Xcb,ents_weave (by simpa using hl),List.flatMap_map]
def WalkP (p tb root base pbx lbx:Nat) (u:List Bool) (pg:Nat→List UInt8) {h:Nat} (t:Tr h):Prop :=
 ∀ {w:World} {M:List Nat} {k:Nat} {pv lv:Value} {ps:List Int} {L:List KV},PoolV w p M u pg k→k+2*(nodes h t).length≤1000000→Xax w tb p root→tb∉M++(boxX pbx pv++boxX lbx lv)→Xgu u pg root (nodes h t)→Wf h t→AllS w M base pbx lbx pv lv ps L→base≤w.heap.size →
  ps.length+(nodes h t).length≤900000→L.length+(entsT t).length≤800000 →
  Calls prog 74 #[.pointer (some ⟨tb,0,none⟩),.int .i64 t.id,.func (.func 75) #[] #[.pointer (some ⟨pbx,0,none⟩),.pointer (some ⟨lbx,0,none⟩)]] w fun e w'=>∃ pv' lv' M' Lt,e=.returned (.tuple #[.bool true,.int .i64 0])∧WalkRes w w' p M u pg k base pbx lbx pv lv ps L (nodes h t) (entsT t) pv' lv' M' Lt
theorem walk_leaf {p tb root base pbx lbx:Nat} {u:List Bool} {pg:Nat→List UInt8} (i:Int) (E:List Pr):WalkP p tb root base pbx lbx u pg (.leaf i E):=by
 intro w M k pv lv ps L hP hk hT htb hpg hw hA hb hps hL;have t0:=hT.cell 0;simp only [Zd,Zb] at t0;rw [Xan] at *;rw [Xdv] at *;obtain ⟨⟨id,hid,hu,hn⟩,hf,hkk,hki⟩:=hpg _ (Xw _);have RD:=Th (Xfh hP (by omega) hid hu hn hkk hki hf);have HA:=Th hA;have hie:i=(id:Nat):=hid;subst hie;have HB:=Th hb;have HPS:=Th hps;have HL:=Th hL;have HP:=Th hP;rw [Tr.leaf_id];clear hP hT hpg hw hA hf hkk hki hn hid hb hps hL
 go_enter func74,ntmps74
 go_wp2_with (first
  | (go_at_call 38;refine RD.out.mono ?_;rintro e w1 ⟨m,M1,rfl,hR⟩;have R1:=Th hR;clear hR)
  | (go_at_call 75;refine (Xpz (HA.out.step R1.out.step) R1.out.at_ (fun x hx hm=>by have h1:=R1.out.new x hx;have h2:=HA.out.lt x hm;omega) R1.out.pool.lt (Zp HB.out R1.out.step.1.size) (by have:=HPS.out;omega) (by have h1:=R1.out.at_.len;rw [R1.out.n] at h1;rw [h1];have:=HL.out;simp only;omega)).mono ?_;rintro e w2 ⟨pv',lv',rfl,ha2,ho2,hp2,hl2⟩;have A2:=Th ha2;have O2:=Th ho2;have P2:=Th hp2;have L2:=Th hl2;obtain ⟨hn2,ca,cc,e4,_⟩:=Xmg R1.out HA.out ho2;simp only [Wn] at e4;clear ha2 ho2 hp2 hl2 hn2))
 go_loopg [35] 0 (fun gk s35 wr=>gk=0∧s35=.int .i64 0∧wr=w2)
 case atStart=>exact ⟨rfl,rfl,rfl⟩
 case round =>
  obtain ⟨_,rfl,rfl⟩:=hrel
  go_wp2_with fail
  go_ret2;have:=WalkRes.one R1.out HA.out A2.out O2.out P2.out L2.out;exact ⟨_,_,_,_,rfl,this⟩
theorem Xca {leaf:Bool} {E:List Pr} (h:fitsP leaf E=true):E.length≤50:=by
 have h1:∀ E:List Pr,12*E.length≤sumE leaf E:=by
  intro E
  induction E with
  | nil=>simp
  | cons e E ih=>simp only [Zz,sumE,wE];omega
 have:=Xcf.1 h;have:=h1 E;omega
theorem Xhe {α β:Type} (f:α→List β):∀ (K:List α) (j:Nat) (x:α),K[j]?=some x→((K.take j).flatMap f).length+(f x).length≤(K.flatMap f).length
 | [],j,x,h=>by simp at h
 | a :: K,0,x,h=>by simp at h;subst h;simp
 | a :: K,j+1,x,h=>by
  have:=Xhe f K j x (by simpa using h)
  simp only [Xv,Yu,Ze];omega
theorem Xhf {α β:Type} (f:α→List β) (K:List α) (j:Nat) (x:α) (h:K[j]?=some x):(K.take (j+1)).flatMap f=(K.take j).flatMap f++f x:=by
 rw [Xg,h,Wg];simp
theorem walk_node {p tb root base pbx lbx:Nat} {u:List Bool} {pg:Nat→List UInt8} {h:Nat} (i:Int) (E:List Pr) (K:List (Tr h)) (hrec:∀ t∈K,WalkP p tb root base pbx lbx u pg t):WalkP p tb root base pbx lbx u pg (.node i E K):=by
 intro w M k pv lv ps L hP hk hT htb hpg hw hA hb hps hL;have t0:=hT.cell 0;simp only [Zd,Zb] at t0;have hwf:=(Xce i E K).1 hw;rw [Xgg hwf.1] at hL ⊢;have hns:nodes (h+1) (.node i E K)=⟨i,false,E,K.map Tr.id⟩ :: K.flatMap (nodes h):=Xbr i E K;rw [hns] at hk hps hpg ⊢;obtain ⟨⟨id,hid,hu,hn⟩,hf,hkk,hki⟩:=hpg _ (List.mem_cons_self ..);simp only [Zz] at hk hps;have RD:=Th (Xfh hP (by omega) hid hu hn hkk hki hf);have HA:=Th hA;have hie:i=(id:Nat):=hid;subst hie;have HB:=Th hb;have HPS:=Th hps;have HL:=Th hL;have HK:=Th hk;have HPG:=Th hpg
 have HWF:=Th hwf;have HT:=Th hT;have HTB:=Th htb;have HREC:=Th hrec;rw [Tr.node_id];obtain ⟨kn,hkn⟩:∃ kn,K.length=kn:=⟨_,rfl⟩;have KN:=Th hkn
 have hkn0:0<kn:=by have:=hwf.1;omega
 have hkn1:kn≤1000000:=by
  have h1:∀ K:List (Tr h),K.length≤(K.flatMap (nodes h)).length:=by
   intro K
   induction K with
   | nil=>simp
   | cons a K ih=>simp only [Yu,Ze,Zz,nodes];omega
  have:=h1 K;omega
 clear hP hT htb hpg hw hA hf hkk hki hn hid hb hps hL hk hwf hrec hns hkn
 go_enter func74,ntmps74
 go_wp2_with (first
  | (go_at_call 38;refine RD.out.mono ?_;rintro e w1 ⟨m,M1,rfl,hR⟩;have R1:=Th hR;clear hR)
  | (go_at_call 75;refine (Xpz (HA.out.step R1.out.step) R1.out.at_ (fun x hx hm=>by have h1:=R1.out.new x hx;have h2:=HA.out.lt x hm;omega) R1.out.pool.lt (Zp HB.out R1.out.step.1.size) (by have:=HPS.out;omega) (by have h1:=R1.out.at_.len;rw [R1.out.n] at h1;rw [h1];have h2:=HL.out;have h3:=Xca (leaf:=false) (HPG.out _ (List.mem_cons_self ..)).2.1;simp only at h3 ⊢;omega)).mono ?_;rintro e w2 ⟨pv',lv',rfl,ha2,ho2,hp2,hl2⟩;have A2:=Th ha2;have O2:=Th ho2;have P2:=Th hp2;have L2:=Th hl2;obtain ⟨hn2,ca,cc,e4,hcv⟩:=Xmg R1.out HA.out ho2;have N2:=Th hn2;have CV:=Th hcv;simp only [Zl] at e4;rw [KN.out] at e4;clear ha2 ho2 hp2 hl2 hn2 hcv))
 have hW1:=WalkRes.one R1.out HA.out A2.out O2.out P2.out L2.out;simp only [Bool.false_eq_true,if_false] at hW1;have W1:=Th hW1;have hal2:=A2.out;rw [R1.out.n] at hal2;simp only [Bool.false_eq_true,if_false] at hal2;have AL2:=Th hal2;obtain ⟨ao',cap',hcv',_,hcrow⟩:=N2.out.crow;rw [R1.out.n] at hcrow;simp only [Zl] at hcrow;obtain ⟨cg,hcg,hcell⟩:=hcrow (by rw [KN.out];exact hkn0)
 have hca:ca=some ⟨cg,0,none⟩:=by
  have h1:=CV.out;rw [hcv'] at h1;simp only [Value.slice.injEq] at h1;rw [←h1.1,hcg]
 subst hca
 have hcgm:cg∈m.blocks:=by simp [MNd.blocks,CV.out,Value.ownBlock]
 have CGN:Hid (cg<w2.heap.size∧cg∉M1++(boxX pbx pv'++boxX lbx lv')):=by
  refine ⟨N2.out.lt _ hcgm,fun hm=>?_⟩
  rcases Za.1 hm with h1 | h1
  ·exact N2.out.off _ hcgm h1
  ·have h3:=R1.out.at_.lt _ hcgm
   have h4:=R1.out.new _ hcgm
   rcases Xmo P2.out L2.out h1 with h2 | h2
   ·have:=HA.out.lt _ h2;omega
   ·omega
 have CEL:Hid (∀ (j:Nat) (t:Tr h),K[j]?=some t→w2.cell? ⟨cg,j,none⟩=some (.int .i64 t.id)):=fun j t ht=>hcell j t.id (by rw [Zr,ht];rfl)
 have T2:Hid (Xax w2 tb p root∧tb∉M1++(boxX pbx pv'++boxX lbx lv')):=⟨W1.out.only.blk HT.out HTB.out,W1.out.far HT.out.lt HTB.out⟩;have SZ2:Hid (w.heap.size≤w2.heap.size):=W1.out.only.size;clear hW1 hal2 hcrow hcg hcell hcgm hcv'
 go_loopg [35] kn (fun gk s35 wr=>∃ (j:Nat) (pv2 lv2:Value) (M2:List Nat) (Lt:List KV),gk=kn-j∧j≤kn∧s35=.int .i64 j∧WalkRes w2 wr p M1 u pg (k+2) base pbx lbx pv' lv' (ps++[(id:Int)]) L ((K.take j).flatMap (nodes h)) ((K.take j).flatMap entsT) pv2 lv2 M2 Lt)
 case atStart=>exact ⟨0,pv',lv',M1,[],rfl,Yc _,rfl,WalkRes.refl (by have:=W1.out.pool;simpa using this) AL2.out⟩
 case round =>
  obtain ⟨j,pv2,lv2,M2,Lt,hgk,hj,rfl,hW⟩:=hrel;have HGK:=Th hgk;have HW:=Th hW;clear hgk hW
  have hj0:(0:Int)≤j:=by omega
  by_cases hlt:j<kn
  ·have hlt':(j:Int)<kn:=by omega
   obtain ⟨t,ht⟩:∃ t,K[j]?=some t:=⟨_,Zc (by rw [KN.out];exact hlt)⟩;have hmem:=Zm ht;have x1:=HW.out.only.cell (CEL.out j t ht) CGN.out.2;have hl1:=Xhe (nodes h) K j t ht;have hl2:=Xhe entsT K j t ht;have hkb:=HK.out;have hpb:=HPS.out;have hLb:=HL.out
   have hlt3:Lt.length=((K.take j).flatMap entsT).length:=by rw [←HW.out.ents,Zl]
   have WK:=Th (HREC.out t hmem HW.out.pool (by omega) (HW.out.only.blk T2.out.1 T2.out.2) (HW.out.far T2.out.1.lt T2.out.2) (HPG.out.sub (fun n hn=>Yg _ (Yl.2 ⟨t,hmem,hn⟩))) (HWF.out.2 t hmem) HW.out.boxes (Zp HB.out (Zp SZ2.out HW.out.only.size)) (by simp only [Ze,Zl,Zt];omega) (by simp only [Ze];omega));have HTJ:=Th ht;clear hmem hl1 hl2 hkb hpb hLb hlt3 ht
   go_wp2_with (go_at_call 74;refine WK.out.mono ?_;rintro e w4 ⟨pv4,lv4,M4,L4,rfl,hw4⟩;have W4:=Th hw4;clear hw4)
   go_roundg (kn-(j+1))
   case measure=>have:=HGK.out;omega
   case rel=>exact ⟨j+1,pv4,lv4,M4,Lt++L4,rfl,by omega,by go_num,by rw [Xhf _ _ _ _ HTJ.out,Xhf _ _ _ _ HTJ.out];exact HW.out.trans W4.out⟩
  ·have hjn:j=kn:=by omega
   subst hjn
   have hnlt:¬(j:Int)<j:=by omega
   go_wp2_with fail
   go_ret2;have hfin:=HW.out;rw [Ya (by rw [KN.out];exact Zq _)] at hfin
   have:=W1.out.trans (g:=by rw [R1.out.n] at *;simpa using hfin);exact ⟨rfl,_,_,_,_,by simpa using this⟩
theorem walk_any {p tb root base pbx lbx:Nat} {u:List Bool} {pg:Nat→List UInt8}:∀ {h:Nat} (t:Tr h),WalkP p tb root base pbx lbx u pg t
 | 0,t=>by
  obtain ⟨i,E,rfl⟩:=Tr.is_leaf t;exact walk_leaf i E
 | h+1,t=>by
  obtain ⟨i,E,K,rfl⟩:=Tr.is_node t;exact walk_node i E K (fun t _=>walk_any t)
end T
namespace T
open Go Go.RowKit D B C G P H Tryz
structure AllRes (w w':World) (p:Nat) (M:List Nat) (u:List Bool) (pg:Nat→List UInt8) (k:Nat) {H:Nat} (T:Tr H) (lv pv:Value) (M':List Nat) (Lt:List KV):Prop where
 pool:PoolV w' p M' u pg (k+2*(nodes H T).length)
 lrow:w'.ownsRow 0 43 2 lv Lt.length (kvsC Lt)
 ents:Lt.map (·.2)=entsT T
 keys:∀ q∈Lt,KeyOk w' M' q
 prow:w'.ownsRow 0 3 1 pv (nodes H T).length (intsC ((nodes H T).map (·.id)))
 loff:∀ k,lv.ownBlock=some k→w.heap.size≤k∧k∉M'
 poff:∀ k,pv.ownBlock=some k→w.heap.size≤k∧k∉M'
 step:Step M M' w w'
theorem AllS.past {w w':World} {M:List Nat} {base pbx lbx:Nat} {pv lv:Value} {ps:List Int} {L:List KV} (h:AllS w M base pbx lbx pv lv ps L) (hO:Only [] w w'):AllS w' M base pbx lbx pv lv ps L :=
 ⟨h.pb.past hO,h.lb.past hO,fun q hq=>(h.keys q hq).past hO,h.off⟩
theorem all_any {w:World} {p k tb root H:Nat} {M:List Nat} {u:List Bool} {pg:Nat→List UInt8} {T:Tr H} (hP:PoolV w p M u pg k) (hT:Xax w tb p root) (htb:tb∉M) (hI:InPages u pg root T) (hk:k+2*(nodes H T).length≤1000000) (hn:(nodes H T).length≤800000) (he:(entsT T).length≤800000) :
  Calls prog 47 #[.pointer (some ⟨tb,0,none⟩)] w fun e w'=>∃ lv pv M' Lt,e=.returned (.tuple #[lv,pv,.int .i64 0])∧AllRes w w' p M u pg k T lv pv M' Lt:=by
 have O0:Hid (Only [] w ((w.alloc (.cells #[.slice none 0 0] 48)).alloc (.cells #[.slice none 0 0] 52))):=((Only.refl _ _).alloc _).alloc _;have BL:Blk ((w.alloc (.cells #[.slice none 0 0] 48)).alloc (.cells #[.slice none 0 0] 52)) w.heap.size [.slice none 0 0] 48:=(Blk.new [.slice none 0 0] 48 w).alloc _;have BP:Blk ((w.alloc (.cells #[.slice none 0 0] 48)).alloc (.cells #[.slice none 0 0] 52)) (w.heap.size+1) [.slice none 0 0] 52:=Blk.new' #[.slice none 0 0] 52 (w.alloc (.cells #[.slice none 0 0] 48)) (by simp)
 have AS:AllS ((w.alloc (.cells #[.slice none 0 0] 48)).alloc (.cells #[.slice none 0 0] 52)) M w.heap.size (w.heap.size+1) w.heap.size (.slice none 0 0) (.slice none 0 0) [] []:=by
  refine ⟨⟨BP,⟨rfl,.inl ⟨rfl,rfl⟩⟩⟩,⟨BL,⟨rfl,.inl ⟨rfl,rfl⟩⟩⟩,fun q hq=>absurd hq (by simp),fun x hx=>?_⟩
  simp [boxX,Value.ownBlock] at hx
  refine ⟨fun hm=>?_,by omega⟩;have:=hP.lt x hm;omega
 have htb2:tb∉M++(boxX (w.heap.size+1) (.slice none 0 0)++boxX w.heap.size (.slice none 0 0)):=fun hm=>by
  rcases Za.1 hm with h | h
  ·exact htb h
  ·simp [boxX,Value.ownBlock] at h
   have:=hT.lt;omega
 have WK:=Th (walk_any T (hP.past O0.out) hk (O0.out.blk hT (by simp)) htb2 hI.of hI.wf AS O0.out.size (by simpa using (by omega:(nodes H T).length≤900000)) (by simpa using he));rw [hI.top] at WK;have t1:=(O0.out.blk hT (by simp)).cell 1;simp only [Zd,Zb] at t1;have HM:=Th hP.lt;clear BL BP AS htb2 hP hT hI
 go_enter func47,ntmps47
 go_wp2_with (go_at_call 74;refine WK.out.mono ?_;rintro e w3 ⟨pv',lv',M',Lt,rfl,hw⟩;have WR:=Th hw;clear hw)
 obtain ⟨a1,k1,e1⟩:=Xac WR.out.boxes.pb.row;obtain ⟨a2,k2,e2⟩:=Xac WR.out.boxes.lb.row;subst e1 e2
 have l0:∀ x:Later w3,x.v.cell? ⟨w.heap.size,0,none⟩=some (.slice a2 Lt.length k2):=fun x=>x.cell (by have:=WR.out.boxes.lb.box.cell 0;simpa using this)
 have l1:∀ x:Later w3,x.v.cell? ⟨w.heap.size+1,0,none⟩=some (.slice a1 (nodes H T).length k1):=fun x=>x.cell (by have:=WR.out.boxes.pb.box.cell 0;simpa using this)
 refine Xaa (Only.refl _ _) (by kernel_rfl) (by kernel_rfl) ?_
 repeat (go_big_quiet_step (fail))
 refine wpQuiet_nil ?_
 rintro _ ⟨xq,rfl⟩
 go_wp2_with fail
 go_ret3;have wr:=WR.out;have hb:=wr.boxes.past xq.h;have hlt:=wr.boxes.off
 have hX:Only M w w3:=by
  refine (O0.out.mono (M':=M) (by simp)).trans wr.only (fun x hx=>?_)
  rcases Za.1 hx with h | h
  ·exact .inl h
  ·simp [boxX,Value.ownBlock] at h
   exact .inr (by omega)
 have hst:Step M M' w xq.v:=by
  refine ⟨hX.trans xq.h (by simp),fun x hx=>?_⟩
  rcases wr.mine x hx with h | h
  ·exact .inl h
  ·have:=O0.out.size;exact .inr (by omega)
 refine ⟨_,_,M',Lt,rfl,⟨wr.pool.past xq.h,?_,wr.ents,fun q hq=>(wr.boxes.keys q (by simpa using hq)).past xq.h,?_,fun k hk=>?_,fun k hk=>?_,hst⟩⟩
 ·have:=hb.lb.row;simpa using this
 ·have:=hb.pb.row;simpa using this
 ·have hx:k∈boxX w.heap.size (.slice a2 Lt.length k2):=by simp only [boxX,Zg,Zk];exact .inr (by simpa using hk)
  have:=hlt k (Za.2 (.inr hx));exact ⟨this.2,this.1⟩
 ·have hx:k∈boxX (w.heap.size+1) (.slice a1 (nodes H T).length k1):=by simp only [boxX,Zg,Zk];exact .inr (by simpa using hk)
  have:=hlt k (Za.2 (.inl (by simpa using hx)));exact ⟨this.2,this.1⟩
end T
namespace T
open Go Go.RowKit D B C G P H Tryz
theorem Xnh {w:World} {e:TypeId} {size n m c:Nat} {ao:Option Addr} {xs:List Value} (h:w.ownsRow 0 e size (.slice ao n c) n xs) (hm:m≤n) (h0:0<n):w.ownsRow 0 e size (.slice ao m c) m (xs.take (m*size)):=by
 have hle:m*size≤n*size:=Wv _ hm;obtain ⟨h1,h2⟩:=h;refine ⟨by rw [Zj];omega,?_⟩
 rcases h2 with ⟨hv,hn⟩ | ⟨g,cap,cur,hv,a1,a2,a3,a4,a5,a6⟩
 ·simp only [Value.slice.injEq] at hv;omega
 ·simp only [Value.slice.injEq] at hv
  obtain ⟨v1,_,v3⟩:=hv;refine .inr ⟨g,cap,cur,by rw [v1,v3],a1,a2,Zp hm a3,a4,a5,?_⟩;rw [←a6,Wb,Yt hle]
def MNd.cutE (m:MNd) (v':Value) (k:Nat):MNd:={ m with n:={ m.n with es:=m.n.es.take k },ev:=v',L:=m.L.take k }
theorem cutE_turn {w:World} {M:List Nat} {m:MNd} {ao:Option Addr} {cc k:Nat} (h:NodeAt w M m) (hM:∀ x∈M,x<w.heap.size) (hev:m.ev=.slice ao m.n.es.length cc) (hk:k≤m.n.es.length) (h0:0<m.n.es.length) :
  Turn w (w.setCell ⟨m.nb,3,none⟩ (.slice ao k cc)) M m (m.cutE (.slice ao k cc) k):=by
 have hl:(m.L.take k).length=k:=by rw [Zj,h.len];omega
 have hr:=h.ents;rw [hev,h.len] at hr;have hcut:=Xnh hr hk h0
 have hg:Grew w w 43 2 m.ev (.slice ao k cc) (m.L.take k).length (kvsC (m.L.take k)):=by
  rw [hl,Xed,hev];exact ⟨hcut,Only.refl _ _,fun x hx=>.inl (by cases ao <;> exact hx),⟨_,_,rfl⟩⟩
 have hT:=h.setEs hg (fun p hp=>h.keys p (Yn hp)) hM
 have e:(m.L.take k).map (·.2)=m.n.es.take k:=by rw [Xx,h.es]
 rw [e] at hT;exact hT
theorem addE_turn {w1 w2:World} {M:List Nat} {m:MNd} {ao:Option Addr} {cc:Nat} {v':Value} {q:KV} (h1:NodeAt w1 M m) (hM:∀ x∈M,x<w1.heap.size) (hq:KeyOk w1 M q) (hev:m.ev=.slice ao m.n.es.length cc)
  (hg2:Grew w1 w2 43 2 (.slice ao m.n.es.length cc) v' (m.n.es.length+1) (kvsC m.L++kvC q)) :
  w2.cell? ⟨m.nb,3,none⟩=some (.slice ao m.n.es.length cc)∧w2.frozen? ⟨m.nb,3,none⟩=false∧Turn w1 (w2.setCell ⟨m.nb,3,none⟩ v') M m (m.addE v' q):=by
 have hg3:Grew w1 w2 43 2 m.ev v' (m.L++[q]).length (kvsC (m.L++[q])):=by
  rw [Ze,h1.len,Xbm,hev]
  simpa [kvsC] using hg2
 have hb:=hg3.only.blk h1.blk (fun hm=>Xaj h1.ents h1.blk (by decide) (by simpa using hm))
 have hT:=h1.setEs hg3 (fun p hp=>by
  rcases Za.1 hp with h | h
  ·exact h1.keys p h
  ·rw [Zo.1 h];exact hq) hM
 refine ⟨?_,hb.frozen 3,?_⟩
 ·rw [hb.cell 3]
  simp [hev]
 ·have e:(m.L++[q]).map (·.2)=m.n.es++[q.2]:=by rw [Zs,h1.es];rfl
  rw [e] at hT;exact hT
structure RowsAt (w0 w:World) (M:List Nat) (ps:List (Value × List MNd)) (es:List (Value × List KV)) (ns:List MNd):Prop where
 nodes:Nodes w M w0.heap.size ns
 prow:∀ p∈ps,PtrRow w M w0.heap.size p.1 p.2
 erow:∀ e∈es,w.ownsRow 0 43 2 e.1 e.2.length (kvsC e.2)∧(∀ q∈e.2,KeyOk w M q)∧∀ k,e.1.ownBlock=some k→k∉M∧w0.heap.size≤k∧∀ m∈ns,k∉m.blocks
 pdis:ps.Pairwise fun a b=>∀ k,a.1.ownBlock=some k→b.1.ownBlock≠some k
 edis:es.Pairwise fun a b=>∀ k,a.1.ownBlock=some k→b.1.ownBlock≠some k
 only:Only [] w0 w
theorem RowsAt.past {w0 w w':World} {M:List Nat} {ps:List (Value × List MNd)} {es:List (Value × List KV)} {ns:List MNd} (h:RowsAt w0 w M ps es ns) (hO:Only [] w w'):RowsAt w0 w' M ps es ns :=
 ⟨h.nodes.past hO,fun p hp=>(h.prow p hp).past hO,fun e he=>⟨Xad (h.erow e he).1 hO,fun q hq=>((h.erow e he).2.1 q hq).past hO,(h.erow e he).2.2⟩,h.pdis,h.edis,h.only.trans hO (by simp)⟩
theorem RowsAt.perm {w0 w:World} {M:List Nat} {ps:List (Value × List MNd)} {es:List (Value × List KV)} {ns ns':List MNd} (h:RowsAt w0 w M ps es ns) (hp:ns.Perm ns'):RowsAt w0 w M ps es ns' :=
 ⟨⟨fun m hm=>h.nodes.at_ m (hp.mem_iff.2 hm),fun m hm=>h.nodes.new m (hp.mem_iff.2 hm),hp.pairwise h.nodes.apart Apart.symm⟩,h.prow,fun e he=>⟨(h.erow e he).1,(h.erow e he).2.1,fun k hk=>⟨((h.erow e he).2.2 k hk).1,((h.erow e he).2.2 k hk).2.1,fun m hm=>((h.erow e he).2.2 k hk).2.2 m (hp.mem_iff.2 hm)⟩⟩,h.pdis,h.edis,h.only⟩
theorem RowsAt.sub {w0 w:World} {M:List Nat} {ps ps':List (Value × List MNd)} {es es':List (Value × List KV)} {ns:List MNd} (h:RowsAt w0 w M ps es ns) (h1:ps'.Sublist ps) (h2:es'.Sublist es):RowsAt w0 w M ps' es' ns :=
 ⟨h.nodes,fun p hp=>h.prow p (h1.subset hp),fun e he=>h.erow e (h2.subset he),h.pdis.sublist h1,h.edis.sublist h2,h.only⟩
theorem PtrRow.congr {w:World} {M:List Nat} {base:Nat} {v:Value} {ms ms':List MNd} (h:PtrRow w M base v ms) (he:ms.map ptrN=ms'.map ptrN):PtrRow w M base v ms':=by
 have hl:ms.length=ms'.length:=by have:=congrArg List.length he;simpa using this
 exact ⟨by rw [←hl,←he];exact h.own,h.off⟩
theorem PtrRow.turn {w w':World} {M:List Nat} {m m':MNd} {base:Nat} {v:Value} {ms:List MNd} (h:PtrRow w M base v ms) (hT:Turn w w' M m m') (hm:NodeAt w M m):PtrRow w' M base v ms :=
 ⟨Xab h.own hT.only (fun k hk hx=>by
  obtain ⟨cs,hb⟩:=Xag h.own hk
  exact hm.no hb (by decide) hx),h.off⟩
theorem RowsAt.congr {w0 w:World} {M:List Nat} {A B:List (Value × List MNd)} {es:List (Value × List KV)} {ns:List MNd} {v:Value} {l l':List MNd} (h:RowsAt w0 w M (A++(v,l) :: B) es ns) (he:l.map ptrN=l'.map ptrN):RowsAt w0 w M (A++(v,l') :: B) es ns:=by
 have hpw:=Zn.1 h.pdis;have hpc:=Yh.1 hpw.2.1;refine ⟨h.nodes,fun p hp=>?_,h.erow,Zn.2 ⟨hpw.1,Yh.2 ⟨hpc.1,hpc.2⟩,fun p hp q hq=>?_⟩,h.edis,h.only⟩
 ·rcases Za.1 hp with h1 | h1
  ·exact h.prow p (by simp [h1])
  ·rcases Zg.1 h1 with h2 | h2
   ·rw [h2];exact (h.prow (v,l) (by simp)).congr he
   ·exact h.prow p (by simp [h2])
 ·rcases Zg.1 hq with h1 | h1
  ·rw [h1];exact hpw.2.2 p hp (v,l) (by simp)
  ·exact hpw.2.2 p hp q (by simp [h1])
theorem RowsAt.turn {w0 w w':World} {M:List Nat} {ps:List (Value × List MNd)} {es:List (Value × List KV)} {A B:List MNd} {m m':MNd} (h:RowsAt w0 w M ps es (A++m :: B)) (hT:Turn w w' M m m'):RowsAt w0 w' M ps es (A++m' :: B):=by
 have hm:=h.nodes.at_ m (by simp);have hpw:=Zn.1 h.nodes.apart;have hpc:=Yh.1 hpw.2.1
 have hoth:∀ x,x∈A∨x∈B→NodeAt w' M x∧Apart m' x:=fun x hx=>hT.other hm (h.nodes.at_ x (by rcases hx with hx | hx <;> simp [hx])) (by
  rcases hx with hx | hx
  ·exact (hpw.2.2 x hx m (by simp)).symm
  ·exact hpc.1 x hx)
 have hnew:∀ x∈m'.blocks,w0.heap.size≤x:=fun x hx=>by
  rcases hT.new x hx with h1 | h1
  ·exact h.nodes.new m (by simp) x h1
  ·exact Zp h.only.size h1
 have hin:∀ x∈A++m' :: B,x=m'∨x∈A∨x∈B:=fun x hx=>by
  rcases Za.1 hx with h1 | h1
  ·exact .inr (.inl h1)
  ·rcases Zg.1 h1 with h2 | h2
   ·exact .inl h2
   ·exact .inr (.inr h2)
 refine ⟨⟨fun x hx=>?_,fun x hx y hy=>?_,Zn.2 ⟨hpw.1,Yh.2 ⟨fun x hx=>(hoth x (.inr hx)).2,hpc.2⟩,fun x hx y hy=>?_⟩⟩,fun p hp=>(h.prow p hp).turn hT hm,fun e he=>?_,h.pdis,h.edis,h.only.trans hT.only (fun x hx=>.inr (h.nodes.new m (by simp) x hx))⟩
 ·rcases hin x hx with h1 | h1
  ·rw [h1];exact hT.at_
  ·exact (hoth x h1).1
 ·rcases hin x hx with h1 | h1
  ·rw [h1] at hy;exact hnew y hy
  ·exact h.nodes.new x (by rcases h1 with h1 | h1 <;> simp [h1]) y hy
 ·rcases Zg.1 hy with h2 | h2
  ·rw [h2];exact (hoth x (.inl hx)).2.symm
  ·exact hpw.2.2 x hx y (by simp [h2])
 ·obtain ⟨r1,r2,r3⟩:=h.erow e he
  refine ⟨Xab r1 hT.only (fun k hk hx=>(r3 k hk).2.2 m (by simp) hx),fun q hq=>(r2 q hq).later hT.only hm.foot,fun k hk=>?_⟩;obtain ⟨a,b,c⟩:=r3 k hk;refine ⟨a,b,fun x hx hy=>?_⟩
  rcases hin x hx with h1 | h1
  ·rw [h1] at hy
   rcases hT.new k hy with h2 | h2
   ·exact c m (by simp) h2
   ·have:=Xbk r1 hk;omega
  ·exact c x (by rcases h1 with h1 | h1 <;> simp [h1]) hy
theorem RowsAt.growP {w0 w w':World} {M:List Nat} {A B:List (Value × List MNd)} {es:List (Value × List KV)} {ns:List MNd} {v v':Value} {l l':List MNd} (h:RowsAt w0 w M (A++(v,l) :: B) es ns) (hM:∀ x∈M,x<w0.heap.size) (hg:Grew w w' 75 1 v v' l'.length (l'.map ptrN)):RowsAt w0 w' M (A++(v',l') :: B) es ns:=by
 have hv:=h.prow (v,l) (by simp);have hpw:=Zn.1 h.pdis;have hpc:=Yh.1 hpw.2.1
 have hX:∀ x∈v.ownBlock.toList,∃ cs,Blk w x cs 75:=fun x hx=>Xag hv.own (by simpa using hx)
 have hoff:Off 5 w v.ownBlock.toList:=fun x hx cs hb=>by
  obtain ⟨cs',hb'⟩:=hX x hx;exact absurd (hb.inj hb').2 (by decide)
 have hno:∀ m∈ns,∀ x∈m.blocks,x∉v.ownBlock.toList:=fun m hm x hx hxv=>by
  obtain ⟨cs',hb'⟩:=hX x hxv;exact (h.nodes.at_ m hm).no hb' (by decide) hx
 have hsz:=h.only.size
 have hoth:∀ p,p∈A∨p∈B→∀ k,p.1.ownBlock=some k→v.ownBlock≠some k:=fun p hp k hk e=>by
  rcases hp with hp | hp
  ·exact hpw.2.2 p hp (v,l) (by simp) k hk e
  ·exact hpc.1 p hp k e hk
 have hlt:∀ p,p∈A∨p∈B→∀ k,p.1.ownBlock=some k→k<w.heap.size:=fun p hp k hk=>Xbk (h.prow p (by rcases hp with hp | hp <;> simp [hp])).own hk
 refine ⟨⟨fun m hm=>(h.nodes.at_ m hm).later hg.only hoff (hno m hm),h.nodes.new,h.nodes.apart⟩,fun p hp=>?_,fun e he=>?_,Zn.2 ⟨hpw.1,Yh.2 ⟨fun p hp k hk e=>?_,hpc.2⟩,fun p hp q hq k hk e=>?_⟩,h.edis,h.only.trans hg.only (fun x hx=>.inr (hv.off x (by simpa using hx)).2)⟩
 ·have hin:p=(v',l')∨p∈A∨p∈B:=by
   rcases Za.1 hp with h1 | h1
   ·exact .inr (.inl h1)
   ·rcases Zg.1 h1 with h2 | h2
    ·exact .inl h2
    ·exact .inr (.inr h2)
  rcases hin with h1 | h1
  ·rw [h1]
   refine ⟨hg.own,fun k hk=>?_⟩
   rcases hg.lies k hk with h2 | h2
   ·exact hv.off k h2
   ·exact ⟨fun hm=>by have:=hM k hm;omega,by omega⟩
  ·have hp':=h.prow p (by rcases h1 with h1 | h1 <;> simp [h1])
   exact ⟨Xab hp'.own hg.only (fun k hk hx=>hoth p h1 k hk (by simpa using hx)),hp'.off⟩
 ·obtain ⟨r1,r2,r3⟩:=h.erow e he
  exact ⟨Xab r1 hg.only (fun k hk hx=>by
   obtain ⟨cs',hb'⟩:=hX k hx
   exact Xaj r1 hb' (by decide) hk),fun q hq=>(r2 q hq).later hg.only hoff,r3⟩
 ·rcases hg.lies k hk with h1 | h1
  ·exact hpc.1 p hp k h1 e
  ·have:=hlt p (.inr hp) k e;omega
 ·rcases Zg.1 hq with h1 | h1
  ·rw [h1] at e
   rcases hg.lies k e with h2 | h2
   ·exact hoth p (.inl hp) k hk h2
   ·have:=hlt p (.inl hp) k hk;omega
  ·exact hpw.2.2 p hp q (by simp [h1]) k hk e
theorem RowsAt.more {w0 w w':World} {M:List Nat} {A B:List (Value × List MNd)} {A' B':List (Value × List KV)} {ns:List MNd} {v v' e e':Value} {l:List MNd} {Ls:List KV} {m:MNd} {q:KV} (h:RowsAt w0 w M (A++(v,l) :: B) (A'++(e,Ls) :: B') ns) (hM:∀ x∈M,x<w0.heap.size)
  (hO:Only (v.ownBlock.toList++e.ownBlock.toList) w w') (hm:NodeAt w' M m) (hnew:∀ x∈m.blocks,w.heap.size≤x) (hq:KeyOk w M q)
  (hl:w'.ownsRow 0 75 1 v' (l.length+1) (l.map ptrN++[ptrN m])) (hf:w'.ownsRow 0 43 2 e' (Ls.length+1) (kvsC Ls++kvC q)) (hll:∀ k,v'.ownBlock=some k→v.ownBlock=some k∨w.heap.size≤k) (hfl:∀ k,e'.ownBlock=some k→e.ownBlock=some k∨w.heap.size≤k) (hfm:∀ k,e'.ownBlock=some k→k∉m.blocks) :
  RowsAt w0 w' M (A++(v',l++[m]) :: B) (A'++(e',Ls++[q]) :: B') (ns++[m]):=by
 have hv:=h.prow (v,l) (by simp);have hE:=h.erow (e,Ls) (by simp);have hpw:=Zn.1 h.pdis;have hpc:=Yh.1 hpw.2.1;have hew:=Zn.1 h.edis;have hec:=Yh.1 hew.2.1
 have hx:∀ x∈v.ownBlock.toList++e.ownBlock.toList,w0.heap.size≤x∧(∀ cs t,Blk w x cs t→t=75∨t=43)∧∀ y∈ns,x∉y.blocks:=fun x hx=>by
  rcases Za.1 hx with h1 | h1
  ·have hk:v.ownBlock=some x:=by simpa using h1
   obtain ⟨cs',hb'⟩:=Xag hv.own hk;refine ⟨(hv.off x hk).2,fun cs t hb=>.inl (hb.inj hb').2,fun y hy hxy=>(h.nodes.at_ y hy).no hb' (by decide) hxy⟩
  ·have hk:e.ownBlock=some x:=by simpa using h1
   obtain ⟨cs',hb'⟩:=Xag hE.1 hk;exact ⟨(hE.2.2 x hk).2.1,fun cs t hb=>.inr (hb.inj hb').2,(hE.2.2 x hk).2.2⟩
 have hoff:Off 5 w (v.ownBlock.toList++e.ownBlock.toList):=fun x hx1 cs hb=>by rcases (hx x hx1).2.1 cs _ hb with h | h <;> exact absurd h (by decide)
 have hsz:=h.only.size
 have hpoth:∀ p,p∈A∨p∈B→∀ k,p.1.ownBlock=some k→v.ownBlock≠some k:=fun p hp k hk e=>by
  rcases hp with hp | hp
  ·exact hpw.2.2 p hp (v,l) (by simp) k hk e
  ·exact hpc.1 p hp k e hk
 have hplt:∀ p,p∈A∨p∈B→∀ k,p.1.ownBlock=some k→k<w.heap.size:=fun p hp k hk=>Xbk (h.prow p (by rcases hp with hp | hp <;> simp [hp])).own hk
 have heoth:∀ p,p∈A'∨p∈B'→∀ k,p.1.ownBlock=some k→e.ownBlock≠some k:=fun p hp k hk e2=>by
  rcases hp with hp | hp
  ·exact hew.2.2 p hp (e,Ls) (by simp) k hk e2
  ·exact hec.1 p hp k e2 hk
 have helt:∀ p,p∈A'∨p∈B'→∀ k,p.1.ownBlock=some k→k<w.heap.size:=fun p hp k hk=>Xbk (h.erow p (by rcases hp with hp | hp <;> simp [hp])).1 hk
 have hins:∀ {α:Type} {X Y:List α} {y z:α},z∈X++y :: Y→z=y∨z∈X∨z∈Y:=fun {α X Y y z} hz=>by
  rcases Za.1 hz with h1 | h1
  ·exact .inr (.inl h1)
  ·rcases Zg.1 h1 with h2 | h2
   ·exact .inl h2
   ·exact .inr (.inr h2)
 refine ⟨⟨fun y hy=>?_,fun y hy z hz=>?_,Zn.2 ⟨h.nodes.apart,Xs _ _,fun y hy z hz=>?_⟩⟩,fun p hp=>?_,fun p hp=>?_,Zn.2 ⟨hpw.1,Yh.2 ⟨fun p hp k hk e=>?_,hpc.2⟩,fun p hp q hq k hk e=>?_⟩,Zn.2 ⟨hew.1,Yh.2 ⟨fun p hp k hk e=>?_,hec.2⟩,fun p hp q hq k hk e=>?_⟩,h.only.trans hO (fun x hx1=>.inr (hx x hx1).1)⟩
 ·rcases Za.1 hy with h1 | h1
  ·exact (h.nodes.at_ y h1).later hO hoff (fun x hx1 hx2=>(hx x hx2).2.2 y h1 hx1)
  ·rw [Zo.1 h1];exact hm
 ·rcases Za.1 hy with h1 | h1
  ·exact h.nodes.new y h1 z hz
  ·rw [Zo.1 h1] at hz;have:=hnew z hz;omega
 ·rw [Zo.1 hz]
  intro x hx1 hx2;have h2:=(h.nodes.at_ y hy).lt x hx1;have h3:=hnew x hx2;omega
 ·rcases hins hp with h1 | h1
  ·rw [h1]
   refine ⟨by simpa using hl,fun k hk=>?_⟩
   rcases hll k hk with h2 | h2
   ·exact hv.off k h2
   ·exact ⟨fun hm=>by have:=hM k hm;omega,by omega⟩
  ·have hp':=h.prow p (by rcases h1 with h1 | h1 <;> simp [h1])
   refine ⟨Xab hp'.own hO (fun k hk hx=>?_),hp'.off⟩
   rcases Za.1 hx with h2 | h2
   ·exact hpoth p h1 k hk (by simpa using h2)
   ·obtain ⟨cs',hb'⟩:=Xag hE.1 (by simpa using h2)
    exact Xaj hp'.own hb' (by decide) hk
 ·rcases hins hp with h1 | h1
  ·rw [h1]
   refine ⟨by rw [Ze,Xbm];simpa [kvsC] using hf,fun q' hq'=>?_,fun k hk=>?_⟩
   ·rcases Za.1 hq' with h2 | h2
    ·exact (hE.2.1 q' h2).later hO hoff
    ·rw [Zo.1 h2];exact hq.later hO hoff
   ·rcases hfl k hk with h2 | h2
    ·obtain ⟨a,b,c⟩:=hE.2.2 k h2
     refine ⟨a,b,fun y hy hky=>?_⟩
     rcases Za.1 hy with h3 | h3
     ·exact c y h3 hky
     ·rw [Zo.1 h3] at hky;exact hfm k hk hky
    ·refine ⟨fun hm=>by have:=hM k hm;omega,by omega,fun y hy hky=>?_⟩
     rcases Za.1 hy with h3 | h3
     ·have:=(h.nodes.at_ y h3).lt k hky;omega
     ·rw [Zo.1 h3] at hky;exact hfm k hk hky
  ·obtain ⟨r1,r2,r3⟩:=h.erow p (by rcases h1 with h1 | h1 <;> simp [h1])
   refine ⟨Xab r1 hO (fun k hk hx=>?_),fun q' hq'=>(r2 q' hq').later hO hoff,fun k hk=>?_⟩
   ·rcases Za.1 hx with h2 | h2
    ·obtain ⟨cs',hb'⟩:=Xag hv.own (by simpa using h2)
     exact Xaj r1 hb' (by decide) hk
    ·exact heoth p h1 k hk (by simpa using h2)
   ·obtain ⟨a,b,c⟩:=r3 k hk
    refine ⟨a,b,fun y hy hky=>?_⟩
    rcases Za.1 hy with h3 | h3
    ·exact c y h3 hky
    ·rw [Zo.1 h3] at hky
     have:=hnew k hky;have:=helt p h1 k hk;omega
 ·rcases hll k hk with h1 | h1
  ·exact hpc.1 p hp k h1 e
  ·have:=hplt p (.inr hp) k e;omega
 ·rcases Zg.1 hq with h1 | h1
  ·rw [h1] at e
   rcases hll k e with h2 | h2
   ·exact hpoth p (.inl hp) k hk h2
   ·have:=hplt p (.inl hp) k hk;omega
  ·exact hpw.2.2 p hp q (by simp [h1]) k hk e
 ·rcases hfl k hk with h1 | h1
  ·exact hec.1 p hp k h1 e
  ·have:=helt p (.inr hp) k e;omega
 ·rcases Zg.1 hq with h1 | h1
  ·rw [h1] at e
   rcases hfl k e with h2 | h2
   ·exact heoth p (.inl hp) k hk h2
   ·have:=helt p (.inl hp) k hk;omega
  ·exact hew.2.2 p hp q (by simp [h1]) k hk e
end T
end Go.Proofs.YtiijokopcgnokaaGreat
