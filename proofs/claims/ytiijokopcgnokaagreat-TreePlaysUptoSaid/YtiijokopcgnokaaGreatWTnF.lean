import Derived.Test.YtiijokopcgnokaaGreatWTnC
import Derived.Test.YtiijokopcgnokaaGreatWQuietT
set_option maxRecDepth 100000
set_option maxHeartbeats 4000000
set_option linter.unusedSimpArgs false
set_option linter.unusedVariables false
namespace Go.Proofs.YtiijokopcgnokaaGreat
namespace T
open Go Go.RowKit D B C G P H Tryz
structure Turn (w w':World) (M:List Nat) (m m':MNd):Prop where
 at_:NodeAt w' M m'
 nb:m'.nb=m.nb
 root:m'.root=m.root
 only:Only m.blocks w w'
 new:∀ x∈m'.blocks,x∈m.blocks∨w.heap.size≤x
theorem Turn.refl {w:World} {M:List Nat} {m:MNd} (h:NodeAt w M m):Turn w w M m m:=⟨h,rfl,rfl,Only.refl _ _,fun x hx=>.inl hx⟩
theorem Turn.trans {w w1 w2:World} {M:List Nat} {m m1 m2:MNd} (h:Turn w w1 M m m1) (k:Turn w1 w2 M m1 m2):Turn w w2 M m m2 where
 at_:=k.at_
 nb:=k.nb.trans h.nb
 root:=k.root.trans h.root
 only:=h.only.trans k.only (fun x hx=>h.new x hx)
 new:=fun x hx=>by
  rcases k.new x hx with h1 | h1
  ·exact h.new x h1
  ·exact .inr (Zp h.only.size h1)
theorem Turn.then {w w1 w2:World} {M:List Nat} {m m1:MNd} (h:Turn w w1 M m m1) (k:Only [] w1 w2):Turn w w2 M m m1 :=
 ⟨h.at_.past k,h.nb,h.root,h.only.trans k (by simp),h.new⟩
theorem Turn.ahead {w w1 w2:World} {M:List Nat} {m m1:MNd} (k:Only [] w w1) (h:Turn w1 w2 M m m1):Turn w w2 M m m1 :=
 ⟨h.at_,h.nb,h.root,(k.mono (by simp)).trans h.only (fun x hx=>.inl hx),fun x hx=>by
  rcases h.new x hx with h1 | h1
  ·exact .inl h1
  ·exact .inr (Zp k.size h1)⟩
theorem NodeAt.setEs {w w1:World} {M:List Nat} {m:MNd} {v':Value} {L':List KV} (h:NodeAt w M m) (hg:Grew w w1 43 2 m.ev v' L'.length (kvsC L')) (hk:∀ p∈L',KeyOk w M p) (hM:∀ x∈M,x<w.heap.size) :
  Turn w (w1.setCell ⟨m.nb,3,none⟩ v') M m { m with n:={ m.n with es:=L'.map (·.2) },ev:=v',L:=L' }:=by
 have hne:∀ k,m.ev.ownBlock=some k→m.nb≠k:=fun k hk e=>Xaj h.ents h.blk (by decide) (e ▸ hk)
 have hb1:Blk w1 m.nb [.int .i64 m.n.id,.bool m.root,.bool m.n.leaf,m.ev,m.cv] 77:=hg.only.blk h.blk (fun hm=>hne m.nb (by simpa using hm) rfl);have hO2:Only [m.nb] w1 (w1.setCell ⟨m.nb,3,none⟩ v'):=Xbe _ _ _ _
 have hcv:∀ k,m.cv.ownBlock=some k→k∉m.ev.ownBlock.toList:=fun k hk hm=>by
  obtain ⟨cs,hb⟩:=Xag h.kids hk;exact Xaj h.ents hb (by decide) (by simpa using hm)
 have hO:Only m.blocks w (w1.setCell ⟨m.nb,3,none⟩ v'):=(hg.only.mono (M':=m.blocks) (fun x hx=>.inl (by simp only [Zk] at hx;simp [MNd.blocks,hx]))).trans hO2 (fun x hx=>.inl (by simp at hx;simp [MNd.blocks,hx]));refine ⟨⟨hb1.set 3 v',rfl,?_,?_,fun p hp=>(hk p hp).later hO h.foot,fun x hx=>?_⟩,rfl,rfl,hO,fun x hx=>?_⟩
 ·exact Xab hg.own hO2 (fun k hk hm=>by
   simp at hm;subst hm
   exact Xaj hg.own hb1 (by decide) hk)
 ·exact Xab (Xab h.kids hg.only hcv) hO2 (fun k hk hm=>by
   simp at hm;subst hm
   exact Xaj h.kids h.blk (by decide) hk)
 ·simp only [MNd.blocks,Zg,Za,Zk] at hx
  rcases hx with rfl | hx | hx
  ·exact h.off _ (by simp [MNd.blocks])
  ·rcases hg.lies x hx with h1 | h1
   ·exact h.off _ (by simp [MNd.blocks,h1])
   ·intro hm;have:=hM x hm;omega
  ·exact h.off _ (by simp [MNd.blocks,hx])
 ·simp only [MNd.blocks,Zg,Za,Zk] at hx
  rcases hx with rfl | hx | hx
  ·exact .inl (by simp [MNd.blocks])
  ·rcases hg.lies x hx with h1 | h1
   ·exact .inl (by simp [MNd.blocks,h1])
   ·exact .inr h1
  ·exact .inl (by simp [MNd.blocks,hx])
theorem NodeAt.setCs {w w1:World} {M:List Nat} {m:MNd} {v':Value} {C':List Int} (h:NodeAt w M m) (hg:Grew w w1 3 1 m.cv v' C'.length (intsC C')) (hM:∀ x∈M,x<w.heap.size) :
  Turn w (w1.setCell ⟨m.nb,4,none⟩ v') M m { m with n:={ m.n with cs:=C' },cv:=v' }:=by
 have hne:∀ k,m.cv.ownBlock=some k→m.nb≠k:=fun k hk e=>Xaj h.kids h.blk (by decide) (e ▸ hk)
 have hb1:Blk w1 m.nb [.int .i64 m.n.id,.bool m.root,.bool m.n.leaf,m.ev,m.cv] 77:=hg.only.blk h.blk (fun hm=>hne m.nb (by simpa using hm) rfl);have hO2:Only [m.nb] w1 (w1.setCell ⟨m.nb,4,none⟩ v'):=Xbe _ _ _ _
 have hev:∀ k,m.ev.ownBlock=some k→k∉m.cv.ownBlock.toList:=fun k hk hm=>by
  obtain ⟨cs,hb⟩:=Xag h.ents hk;exact Xaj h.kids hb (by decide) (by simpa using hm)
 have hO:Only m.blocks w (w1.setCell ⟨m.nb,4,none⟩ v'):=(hg.only.mono (M':=m.blocks) (fun x hx=>.inl (by simp only [Zk] at hx;simp [MNd.blocks,hx]))).trans hO2 (fun x hx=>.inl (by simp at hx;simp [MNd.blocks,hx]));refine ⟨⟨hb1.set 4 v',h.es,?_,?_,fun p hp=>(h.keys p hp).later hO h.foot,fun x hx=>?_⟩,rfl,rfl,hO,fun x hx=>?_⟩
 ·exact Xab (Xab h.ents hg.only hev) hO2 (fun k hk hm=>by
   simp at hm;subst hm
   exact Xaj h.ents h.blk (by decide) hk)
 ·exact Xab hg.own hO2 (fun k hk hm=>by
   simp at hm;subst hm
   exact Xaj hg.own hb1 (by decide) hk)
 ·simp only [MNd.blocks,Zg,Za,Zk] at hx
  rcases hx with rfl | hx | hx
  ·exact h.off _ (by simp [MNd.blocks])
  ·exact h.off _ (by simp [MNd.blocks,hx])
  ·rcases hg.lies x hx with h1 | h1
   ·exact h.off _ (by simp [MNd.blocks,h1])
   ·intro hm;have:=hM x hm;omega
 ·simp only [MNd.blocks,Zg,Za,Zk] at hx
  rcases hx with rfl | hx | hx
  ·exact .inl (by simp [MNd.blocks])
  ·exact .inl (by simp [MNd.blocks,hx])
  ·rcases hg.lies x hx with h1 | h1
   ·exact .inl (by simp [MNd.blocks,h1])
   ·exact .inr h1
theorem Xbq : (prog.info? 43).map (fun i=>(i.zero,i.size,i.bytes))=some (some (.agg #[.slice none 0 0,.int .u64 0]),2,32):=by kernel_rfl
theorem Xcl : (prog.info? 3).map (fun i=>(i.zero,i.size,i.bytes))=some (some (.int .i64 0),1,8):=by kernel_rfl
def Xav (w:World) (g n cap:Nat) (b:List UInt8):Prop:=n=b.length∧n≤cap∧(∀ j,j<n→w.cell? ⟨g,j,none⟩=some (.int .u8 (b.getD j 0).toNat))∧∃ cs,Blk w g cs 5
theorem Xav.later {w w':World} {X:List Nat} {g n cap:Nat} {b:List UInt8} (h:Xav w g n cap b) (hO:Only X w w') (hX:g∉X):Xav w' g n cap b:=by
 obtain ⟨h1,h2,h3,cs,h4⟩:=h;exact ⟨h1,h2,fun j hj=>hO.cell (h3 j hj) hX,cs,hO.blk h4 hX⟩
theorem Xav.past {w w':World} {g n cap:Nat} {b:List UInt8} (h:Xav w g n cap b) (hO:Only [] w w'):Xav w' g n cap b:=h.later hO (by simp)
theorem Xav.part {w:World} {g n cap:Nat} {b:List UInt8} (h:Xav w g n cap b) {a k:Nat} (hk:a+k≤n):∀ j,j<((b.drop a).take k).length→w.cell? ⟨g,a+j,none⟩=some (.int .u8 (((b.drop a).take k).getD j 0).toNat):=fun j hj=>by
 obtain ⟨rfl,h2,h3,_⟩:=h;rw [Zj,Zy] at hj;rw [h3 (a+j) (by omega)];simp only [Zf,Yq,Xh];rw [if_pos (by omega)]
theorem Xav.row {w:World} {g n cap:Nat} {b:List UInt8} (h:Xau 5 w (.slice (some ⟨g,0,none⟩) n cap) b) (hn:n=b.length) (hc:n≤cap):Xav w g n cap b:=by
 refine ⟨hn,hc,fun j hj=>?_,Xag h rfl⟩;obtain ⟨ao,cap',hv,hcell⟩:=h.at;obtain ⟨b',o,hao,hce⟩:=hcell (by omega);simp only [Value.slice.injEq] at hv;obtain ⟨rfl,_,_⟩:=hv;simp only [Zw,Addr.mk.injEq] at hao;obtain ⟨rfl,rfl,_⟩:=hao;have:=hce j (by omega);rw [Yd] at this;exact this
def MNd.addC (m:MNd) (v':Value) (ch:Int):MNd:={ m with n:={ m.n with cs:=m.n.cs++[ch] },cv:=v' }
def MNd.addE (m:MNd) (v':Value) (p:KV):MNd:={ m with n:={ m.n with es:=m.n.es++[p.2] },ev:=v',L:=m.L++[p] }
theorem takes_head {w:World} {M:List Nat} {m:MNd} {g n c:Nat} {b:List UInt8} {ch:Nat} (h:NodeAt w M m) (hM:∀ x∈M,x<w.heap.size) (hl:m.n.leaf=false) (hc:Xav w g n c b) (hb:b.take 4=le ch 4) (hch:ch<65536) (hg:g∉m.blocks)
  (hn:n=4) (hcl:m.n.cs.length≤1000000) :
  Calls prog 71 #[.pointer (some ⟨m.nb,0,none⟩),.slice (some ⟨g,0,none⟩) n c,.int .i64 0] w fun e w'=>∃ v',e=.returned (.bool true)∧Turn w w' M m (m.addC v' ch):=by
 have HN:=Th h;have HM:=Th hM;have HC:=Th hc;have HG:=Th hg;have c2:=h.blk.cell 2;have c4:=h.blk.cell 4;simp only [Zd,Zb] at c2 c4;rw [hl] at c2;obtain ⟨co,cc,hcv,hccap,_⟩:=h.crow;have CV:=Th hcv
 have OWN:Hid (∀ w1,Only [] w w1→w1.ownsRow 0 3 1 (.slice co m.n.cs.length cc) m.n.cs.length (intsC m.n.cs)):=fun w1 hO=>by
  have:=Xad h.kids hO;rw [hcv] at this;exact this
 rw [hcv] at c4;have hcc:=hc.2.1
 have CHL:Hid (∀ w1 v' w2,NodeAt w1 M m→w.heap.size≤w1.heap.size→Grew w1 w2 3 1 (.slice co m.n.cs.length cc) v' (m.n.cs.length+1) (intsC m.n.cs++[.int .i64 ch])→w2.cell? ⟨m.nb,4,none⟩=some (.slice co m.n.cs.length cc)∧Turn w1 (w2.setCell ⟨m.nb,4,none⟩ v') M m (m.addC v' ch)):=by
  intro w1 v' w2 h1 hsz hg2
  have hg3:Grew w1 w2 3 1 m.cv v' (m.n.cs++[(ch:Int)]).length (intsC (m.n.cs++[(ch:Int)])):=by
   rw [hcv,Ze]
   have e:intsC (m.n.cs++[(ch:Int)])=intsC m.n.cs++[.int .i64 ch]:=by simp [intsC]
   rw [e];exact hg2
  refine ⟨?_,h1.setCs hg3 (fun x hx=>Ye (HM.out x hx) hsz)⟩;have:=(hg3.only.blk h1.blk (fun hm=>Xaj h1.kids h1.blk (by decide) (by simpa using hm))).cell 4;rw [this]
  simp [hcv]
 have FZ:Hid (∀ w1 v' w2,NodeAt w1 M m→Grew w1 w2 3 1 (.slice co m.n.cs.length cc) v' (m.n.cs.length+1) (intsC m.n.cs++[.int .i64 ch])→w2.frozen? ⟨m.nb,4,none⟩=false):=by
  intro w1 v' w2 h1 hg2;exact (hg2.only.blk h1.blk (fun hm=>Xaj h1.kids h1.blk (by decide) (by rw [hcv];simpa using hm))).frozen 4
 have UN:Hid (∀ w1 c',Xav w1 g n c b→Calls prog 99 #[.slice (some ⟨g,0,none⟩) 4 c'] w1 fun e w'=>e=.returned (.int .u64 (ch:Nat))∧w1=w'):=fun w1 c' h1=>by
  have hp:=h1.part (a:=0) (k:=4) (by omega);rw [Xp,hb] at hp;have:=Xdl (w:=w1) g 0 c' (le ch 4) (by rw [Xay];omega) hp
  rw [Xay,H.unle_le ch 4 (by omega)] at this;exact this
 have hci:(ch:Int)≤9223372036854775807:=by omega
 generalize hk:m.n.cs.length=k at *;clear h hM hc hg hl hcv hb
 have n1:¬(n:Int)<4:=by omega
 have n2:(4:Int)≤n:=by omega
 have n3:4≤c:=by omega
 have n4:(4:Int)≤c:=by omega
 go_enter func71,ntmps71
 go_wp2_with fail
 have wch:IntKind.i64.wrap (ch:Int)=ch:=by rw [Yi];omega
 have WCH:=Th wch;have hOA:Only [] w (w.drew.alloc (.cells [.int .i64 (ch:Int)].toArray 3)):=(Only.refl _ _).drew.alloc _;have m4:=hOA.cell c4 (by simp);have OA:=Th hOA;have q1:m.nb<w.heap.size:=HN.out.blk.lt
 have q2:¬m.nb=w.heap.size:=by omega
 have NEW:Hid (0<1→∃ ad,some (⟨w.heap.size,0,none⟩:Addr)=some ad∧∀ j u,[Value.int .i64 (ch:Int)][j]?=some u→(w.drew.alloc (.cells [.int .i64 (ch:Int)].toArray 3)).cell? (ad.add j)=some u):=fun _=>⟨_,rfl,fun j u hu=>by rw [Xah,Yd];exact ((Blk.new [.int .i64 (ch:Int)] 3 w.drew).cell j).trans hu⟩
 have ONE:Hid (∀ u∈[Value.int .i64 (ch:Int)],u.oneCell'=true):=by intro u hu;simp at hu;subst hu;rfl
 clear hOA c2
 go_cut [] (fun wx=>∃ v',Turn w wx M m (m.addC v' ch)∧Xav wx g n c b)
 case first =>
  refine wp_region_held_drew (S:=fun w'=>Xav w' g n c b) (by kernel_rfl) (HC.out.past ((Only.refl [] w).drew)) (fun hH=>?_)
  refine tkA 0 15 (.pointer (some ⟨m.nb,0,none⟩)) hH ?_
  refine tkA 1 16 (.pointer (some ⟨m.nb,0,none⟩)) hH ?_
  refine tkA 2 17 (.pointer (some ⟨m.nb,0,none⟩)) hH ?_
  refine tkA 3 18 (.pointer (some ⟨m.nb,4,none⟩)) hH ?_
  refine tkA 5 20 (.slice (some ⟨g,0,none⟩) n c) hH ?_
  refine tkA 6 21 (.slice (some ⟨g,0,none⟩) 4 c) hH ?_
  refine Xik 7 22 (.int .u64 ch) rfl rfl (by kernel_rfl) (by kernel_rfl) (by kernel_rfl) (fun _ _ _ h=>h) ⟨by rfl,fun w1 hw1=>by unfold Oper.quietAt;go_simp;exact ((UN.out _ _ hw1).mono fun e w2 ⟨h1,h2⟩=>⟨h1,h2.symm⟩)⟩ hH ?_
  (try simp only [Act.put,qSa,qSz,qSs])
  refine tkA 8 23 (.int .i64 ch) hH ?_
  refine Xht 4 9 rfl rfl (by kernel_rfl) (by rfl) (by rfl) (fun K hK=>?_) (fun K hK=>?_)
  ·go_wp2_with fail
   refine hK.out _ _ hH ?_
   clear hK K
   (try simp only [Act.put,qSa,qSz,qSs])
   refine oneA 9 fun K hK=>?_
   go_wp2_with fail
   refine hK.out _ _ (HC.out.past OA.out) ?_
   clear hK K
   (try simp only [Act.put,qSa,qSz,qSs])
   refine oneA 10 fun K hK=>?_
   refine Xbl 25 rfl (.tmp 19) (.tmp 24) 52 rfl 3 underlying52 (info_parts Xcl) rfl (by decide) (.slice co k cc) k (intsC m.n.cs) rfl (OWN.out _ OA.out) (some ⟨w.heap.size,0,none⟩) 1 1 rfl [.int .i64 ch] rfl NEW.out ONE.out (by omega) (by decide) ?_
   intro v' w2 hg2;obtain ⟨va,vc,rfl⟩:=hg2.shape;obtain ⟨k4,hT⟩:=CHL.out _ _ w2 (HN.out.past OA.out) OA.out.size hg2;have kf:w2.frozen? ⟨m.nb,4,none⟩=false:=FZ.out _ _ w2 (HN.out.past OA.out) hg2;have hC2:Xav w2 g n c b:=(HC.out.past OA.out).later hg2.only (fun hm=>HG.out (by simp only [MNd.blocks,CV.out];simp only [Zk] at hm;simp [hm]))
   refine hK.out _ _ hC2 ?_
   clear hK K hH
   (try simp only [Act.put,qSa,qSz,qSs])
   refine tkA 11 26 (.pointer (some ⟨m.nb,0,none⟩)) hC2 ?_
   refine tkA 12 27 (.pointer (some ⟨m.nb,4,none⟩)) hC2 ?_
   refine oneA 13 fun K hK=>?_
   go_wp2_with fail
   have hC3:Xav (w2.setCell ⟨m.nb,4,none⟩ (.slice va (k+1) vc)) g n c b:=(HC.out.past OA.out).later hT.only HG.out
   refine hK.out _ _ hC3 ?_
   clear hK K
   (try simp only [Act.put,qSa,qSz,qSs])
   refine wpAnyH_done (by kernel_rfl) ?_ _;have TT:=Th (Turn.ahead OA.out hT);have CC3:=Th hC3;clear hg2 hT k4 kf hC2 hC3
   go_wp2_with fail
   go_meet
   case rel=>exact ⟨_,TT.out,CC3.out⟩
  ·go_wp2_with fail
   refine hK.out _ _ (HC.out.past OA.out) ?_
   clear hK K
   (try simp only [Act.put,qSa,qSz,qSs])
   refine oneA 4 fun K hK=>?_
   go_wp2_with fail
   refine hK.out _ _ (HC.out.past OA.out) ?_
   clear hK K
   (try simp only [Act.put,qSa,qSz,qSs])
   refine oneA 10 fun K hK=>?_
   refine Xbl 25 rfl (.tmp 19) (.tmp 24) 52 rfl 3 underlying52 (info_parts Xcl) rfl (by decide) (.slice co k cc) k (intsC m.n.cs) rfl (OWN.out _ OA.out) (some ⟨w.heap.size,0,none⟩) 1 1 rfl [.int .i64 ch] rfl NEW.out ONE.out (by omega) (by decide) ?_
   intro v' w2 hg2;obtain ⟨va,vc,rfl⟩:=hg2.shape;obtain ⟨k4,hT⟩:=CHL.out _ _ w2 (HN.out.past OA.out) OA.out.size hg2;have kf:w2.frozen? ⟨m.nb,4,none⟩=false:=FZ.out _ _ w2 (HN.out.past OA.out) hg2;have hC2:Xav w2 g n c b:=(HC.out.past OA.out).later hg2.only (fun hm=>HG.out (by simp only [MNd.blocks,CV.out];simp only [Zk] at hm;simp [hm]))
   refine hK.out _ _ hC2 ?_
   clear hK K hH
   (try simp only [Act.put,qSa,qSz,qSs])
   refine tkA 11 26 (.pointer (some ⟨m.nb,0,none⟩)) hC2 ?_
   refine tkA 12 27 (.pointer (some ⟨m.nb,4,none⟩)) hC2 ?_
   refine oneA 13 fun K hK=>?_
   go_wp2_with fail
   have hC3:Xav (w2.setCell ⟨m.nb,4,none⟩ (.slice va (k+1) vc)) g n c b:=(HC.out.past OA.out).later hT.only HG.out
   refine hK.out _ _ hC3 ?_
   clear hK K
   (try simp only [Act.put,qSa,qSz,qSs])
   refine wpAnyH_done (by kernel_rfl) ?_ _;have TT:=Th (Turn.ahead OA.out hT);have CC3:=Th hC3;clear hg2 hT k4 kf hC2 hC3
   go_wp2_with fail
   go_meet
   case rel=>exact ⟨_,TT.out,CC3.out⟩
 case rest =>
  obtain ⟨v',hT,hC⟩:=hcut;have TT:=Th hT;subst hn
  go_wp2_with fail
  all_goals
   go_ret;exact ⟨rfl,v',TT.out⟩
theorem takes_leaf {w:World} {M:List Nat} {m:MNd} {g n c kl x s:Nat} {b key:List UInt8} (h:NodeAt w M m) (hM:∀ x∈M,x<w.heap.size) (hl:m.n.leaf=true) (hc:Xav w g n c b) (hb2:b.drop 0=le x 8++key) (hg:g∉m.blocks) (hgM:g∉M)
  (hn:n=8+kl) (hkl:key.length=kl) (hk3:kl≤300) (hx:x<18446744073709551616) (hes:m.n.es.length≤1000000) :
  Calls prog 71 #[.pointer (some ⟨m.nb,0,none⟩),.slice (some ⟨g,0,none⟩) n c,.int .i64 s] w fun e w'=>∃ v' kv,e=.returned (.bool true)∧Turn w w' M m (m.addE v' (kv,(key,x))):=by
 have hcc:=hc.2.1
 have B8:Hid ((b.drop 0).take 8=le x 8):=by show _=_;rw [hb2,Xm (by rw [Xay];exact Zq _),Ya (by rw [Xay];exact Zq _)]
 have XN:=Th hx
 obtain ⟨o1,ho1⟩:∃ o1,o1=if kl=0 then 0 else 8:=⟨_,rfl⟩
 obtain ⟨kv,hkv⟩:∃ kv:Value,kv=.slice (some ⟨g,o1,none⟩) kl kl:=⟨_,rfl⟩;have KV0:=Th hkv
 have KOW:Hid (∀ w1,Xav w1 g n c b→KeyOk w1 M (kv,(key,x))):=by
  intro w1 h1;rw [hkv];refine ⟨⟨_,kl,by rw [hkl],fun h0=>⟨g,o1,rfl,fun j hj=>?_⟩⟩,fun ao n' c' e=>by simp only [Value.slice.injEq] at e;omega,fun g' hg'=>?_,hx⟩
  ·have hp:=h1.part (a:=8) (k:=kl) (by omega)
   have e1:(b.drop 8).take kl=key:=by
    have e2:b.drop 8=(b.drop 0).drop 8:=by rw [List.drop_drop]
    rw [e2,hb2,Wy (by rw [Xay]),Ya (by omega)]
   rw [e1] at hp;rw [ho1,if_neg (by rw [←hkl];exact fun e=>by rw [e] at h0;simp at h0)]
   exact hp j hj
  ·simp only [Value.ownBlock,Zw] at hg'
   subst hg';exact ⟨hgM,h1.2.2.2⟩
 have O1:=Th ho1;have NN:=Th h;have MM:=Th hM;have CC:=Th hc;have GG:=Th hg;have KO:Hid (KeyOk w M (kv,(key,x))):=KOW.out w hc;have ESL:=Th hes;have c2:=h.blk.cell 2;simp only [Zd,Zb] at c2;rw [hl] at c2;subst hn;clear h hM hc hg hl hkv ho1 hb2 hes
 have n1:¬((8+kl:Nat):Int)<8:=by omega
 have n2:¬(308:Int)<((8+kl:Nat):Int):=by omega
 go_enter func71,ntmps71
 go_wp2_with fail
 have NB:Hid (m.nb=m.nb):=rfl;obtain ⟨eo,ec,hev,hecap,_⟩:=NN.out.row;have e3:=NN.out.blk.cell 3;simp only [Zd,Zb] at e3;rw [NB.out] at e3;rw [hev] at e3;have EV:=Th hev
 have OWN:Hid (∀ w1,Only [] w w1→w1.ownsRow 0 43 2 (.slice eo m.n.es.length ec) m.n.es.length (kvsC m.L)):=fun w1 hO=>by
  have:=Xad NN.out.ents hO;rw [hev,NN.out.len] at this;exact this
 have ENL:Hid (∀ w1 v' w2,NodeAt w1 M m→w.heap.size≤w1.heap.size→Only [] w w1→Grew w1 w2 43 2 (.slice eo m.n.es.length ec) v' (m.n.es.length+1) (kvsC m.L++[kv,.int .u64 x])→w2.cell? ⟨m.nb,3,none⟩=some (.slice eo m.n.es.length ec)∧Turn w1 (w2.setCell ⟨m.nb,3,none⟩ v') M m (m.addE v' (kv,(key,x)))):=by
  intro w1 v' w2 h1 hsz hO1 hg2;rw [←NB.out]
  have hg3:Grew w1 w2 43 2 m.ev v' (m.L++[(kv,(key,x))]).length (kvsC (m.L++[(kv,(key,x))])):=by
   rw [EV.out,Ze,h1.len]
   have e:kvsC (m.L++[(kv,(key,x))])=kvsC m.L++[kv,.int .u64 x]:=by rw [Xbm];rfl
   rw [e];exact hg2
  have hT:=h1.setEs hg3 (fun p hp=>by
   rcases Za.1 hp with hp | hp
   ·exact h1.keys p hp
   ·simp only [Zo] at hp;subst hp;exact KO.out.past hO1) (fun y hy=>Ye (MM.out y hy) hsz)
  refine ⟨?_,?_⟩
  ·have:=(hg3.only.blk h1.blk (fun hm=>Xaj h1.ents h1.blk (by decide) (by simpa using hm))).cell 3
   rw [this]
   simp [EV.out]
  ·have e:(m.L++[(kv,(key,x))]).map (·.2)=m.n.es++[(key,x)]:=by rw [Zs,h1.es];rfl
   rw [e] at hT;exact hT
 have FZE:Hid (∀ w1 v' w2,NodeAt w1 M m→Grew w1 w2 43 2 (.slice eo m.n.es.length ec) v' (m.n.es.length+1) (kvsC m.L++[kv,.int .u64 x])→w2.frozen? ⟨m.nb,3,none⟩=false):=by
  intro w1 v' w2 h1 hg2;rw [←NB.out];exact (hg2.only.blk h1.blk (fun hm=>Xaj h1.ents h1.blk (by decide) (by rw [EV.out];simpa using hm))).frozen 3
 have UNX:Hid (∀ w1 c',Xav w1 g (8+kl) c b→Calls prog 99 #[.slice (some ⟨g,0,none⟩) 8 c'] w1 fun e w'=>e=.returned (.int .u64 (x:Nat))∧w1=w'):=fun w1 c' h1=>by
  have hp:=h1.part (a:=0) (k:=8) (by omega);rw [B8.out] at hp;have:=Xdl (w:=w1) g 0 c' (le x 8) (by rw [Xay];omega) hp
  rw [Xay,H.unle_le x 8 (by have:=XN.out;omega)] at this;exact this
 obtain ⟨ke,hke⟩:∃ ke,m.n.es.length=ke:=⟨_,rfl⟩;rw [hke] at e3 OWN ENL FZE EV hecap
 have hke2:ke≤1000000:=by rw [←hke];exact ESL.out
 have HOB:Only [] w (w.drew.alloc (.cells [kv,.int .u64 x].toArray 43)):=(Only.refl _ _).drew.alloc _;have OB:=Th HOB;have z1:m.nb<w.heap.size:=NB.out ▸ NN.out.blk.lt
 have z2:¬m.nb=w.heap.size:=by omega
 have NEWE:Hid (0<1→∃ ad,some (⟨w.heap.size,0,none⟩:Addr)=some ad∧∀ j u,[kv,Value.int .u64 x][j]?=some u→(w.drew.alloc (.cells [kv,.int .u64 x].toArray 43)).cell? (ad.add j)=some u):=fun _=>⟨_,rfl,fun j u hu=>by rw [Xah,Yd];exact ((Blk.new [kv,.int .u64 x] 43 w.drew).cell j).trans hu⟩
 have ONEE:Hid (∀ u∈[kv,Value.int .u64 x],u.oneCell'=true):=by
  intro u hu;simp only [Zg,Xt,or_false] at hu
  rcases hu with rfl | rfl
  ·rw [KV0.out];rfl
  ·rfl
 clear hev hke HOB;rw [KV0.out] at NEWE ONEE OB ENL FZE
 have wr8:(8:Int)≤(c:Nat):=by omega
 have wr9:8≤c:=by omega
 have wr10:((8+kl:Nat):Int)≤(c:Nat):=by omega
 have wr11:8+kl≤c:=by omega
 refine wp_region_held_drew (S:=fun w'=>Xav w' g (8+kl) c b) (by kernel_rfl) (CC.out.past ((Only.refl [] w).drew)) (fun hH=>?_)
 refine tkA 0 43 (.pointer (some ⟨m.nb,0,none⟩)) hH ?_
 refine tkA 1 44 (.pointer (some ⟨m.nb,0,none⟩)) hH ?_
 refine tkA 2 45 (.pointer (some ⟨m.nb,0,none⟩)) hH ?_
 refine tkA 3 46 (.pointer (some ⟨m.nb,3,none⟩)) hH ?_
 refine tkA 5 48 (.slice (some ⟨g,0,none⟩) (8+kl) c) hH ?_
 refine tkA 6 49 (.slice (some ⟨g,0,none⟩) (8+kl) c) hH ?_
 refine tkA 7 50 (.int .i64 ((8+kl):Nat)) hH ?_
 refine tkA 8 51 (.slice (some ⟨g,0,none⟩) (8+kl) c) hH ?_
 refine tkA 9 52 (.int .i64 ((8+kl):Nat)) hH ?_
 refine Xaq 10 53 (.slice (some ⟨g,o1,none⟩) kl kl) rfl rfl (by kernel_rfl) (by kernel_rfl) (by kernel_rfl) (fun _ _ _ h=>h) (Or.inl ⟨by rfl,fun w1 hw1=>by have hO:=O1.out;by_cases h0:kl=0 <;> first | (subst h0;rw [if_pos rfl] at hO;rw [hO];go_simp;done) | (rw [if_neg h0] at hO;rw [hO];go_simp;rw [if_pos ⟨by omega,by omega⟩,if_pos ⟨by omega,by omega⟩,if_pos (by omega),if_neg (by omega),show (8+(kl:Int)).toNat-8=kl by omega])⟩) hH ?_
 (try simp only [Act.put,qSa,qSz,qSs])
 refine tkA 11 54 (.slice (some ⟨g,0,none⟩) (8+kl) c) hH ?_
 refine tkA 12 55 (.slice (some ⟨g,0,none⟩) 8 c) hH ?_
 refine Xik 13 56 (.int .u64 x) rfl rfl (by kernel_rfl) (by kernel_rfl) (by kernel_rfl) (fun _ _ _ h=>h) ⟨by rfl,fun w1 hw1=>by unfold Oper.quietAt;go_simp;exact ((UNX.out _ _ hw1).mono fun e w2 ⟨h1,h2⟩=>⟨h1,h2.symm⟩)⟩ hH ?_
 (try simp only [Act.put,qSa,qSz,qSs])
 refine tkA 14 57 (.agg #[.slice (some ⟨g,o1,none⟩) kl kl,.int .u64 x]) hH ?_
 refine Xht 4 15 rfl rfl (by kernel_rfl) (by rfl) (by rfl) (fun K hK=>?_) (fun K hK=>?_)
 ·go_wp2_with fail
  refine hK.out _ _ hH ?_
  clear hK K
  (try simp only [Act.put,qSa,qSz,qSs])
  refine oneA 15 fun K hK=>?_
  go_wp2_with fail
  refine hK.out _ _ (CC.out.past OB.out) ?_
  clear hK K
  (try simp only [Act.put,qSa,qSz,qSs])
  refine oneA 16 fun K hK=>?_
  refine Xbl 59 rfl (.tmp 47) (.tmp 58) 48 rfl 43 underlying48 (info_parts Xbq) rfl (by decide) (.slice eo ke ec) ke (kvsC m.L) rfl (OWN.out _ OB.out) (some ⟨w.heap.size,0,none⟩) 1 1 rfl [.slice (some ⟨g,o1,none⟩) kl kl,.int .u64 x] rfl NEWE.out ONEE.out (by omega) (by decide) ?_
  intro v' w2 hg2;obtain ⟨va,vc,rfl⟩:=hg2.shape;obtain ⟨k4,hT⟩:=ENL.out _ _ w2 (NN.out.past OB.out) OB.out.size OB.out hg2;have kf:w2.frozen? ⟨m.nb,3,none⟩=false:=FZE.out _ _ w2 (NN.out.past OB.out) hg2;have hC2:Xav w2 g (8+kl) c b:=(CC.out.past OB.out).later hg2.only (fun hm=>GG.out (by simp only [MNd.blocks,EV.out];simp only [Zk] at hm;simp [hm]))
  refine hK.out _ _ hC2 ?_
  clear hK K hH
  (try simp only [Act.put,qSa,qSz,qSs])
  refine tkA 17 60 (.pointer (some ⟨m.nb,0,none⟩)) hC2 ?_
  refine tkA 18 61 (.pointer (some ⟨m.nb,3,none⟩)) hC2 ?_
  refine oneA 19 fun K hK=>?_
  go_wp2_with fail
  have hC3:Xav (w2.setCell ⟨m.nb,3,none⟩ (.slice va (ke+1) vc)) g (8+kl) c b:=(CC.out.past OB.out).later hT.only GG.out
  refine hK.out _ _ hC3 ?_
  clear hK K
  (try simp only [Act.put,qSa,qSz,qSs])
  refine wpAnyH_done (by kernel_rfl) ?_ _;have TT:=Th (Turn.ahead OB.out hT);clear hg2 hT k4 kf hC2 hC3
  go_wp2_with fail
  go_ret;exact ⟨_,_,rfl,TT.out⟩
 ·go_wp2_with fail
  refine hK.out _ _ (CC.out.past OB.out) ?_
  clear hK K
  (try simp only [Act.put,qSa,qSz,qSs])
  refine oneA 4 fun K hK=>?_
  go_wp2_with fail
  refine hK.out _ _ (CC.out.past OB.out) ?_
  clear hK K
  (try simp only [Act.put,qSa,qSz,qSs])
  refine oneA 16 fun K hK=>?_
  refine Xbl 59 rfl (.tmp 47) (.tmp 58) 48 rfl 43 underlying48 (info_parts Xbq) rfl (by decide) (.slice eo ke ec) ke (kvsC m.L) rfl (OWN.out _ OB.out) (some ⟨w.heap.size,0,none⟩) 1 1 rfl [.slice (some ⟨g,o1,none⟩) kl kl,.int .u64 x] rfl NEWE.out ONEE.out (by omega) (by decide) ?_
  intro v' w2 hg2;obtain ⟨va,vc,rfl⟩:=hg2.shape;obtain ⟨k4,hT⟩:=ENL.out _ _ w2 (NN.out.past OB.out) OB.out.size OB.out hg2;have kf:w2.frozen? ⟨m.nb,3,none⟩=false:=FZE.out _ _ w2 (NN.out.past OB.out) hg2;have hC2:Xav w2 g (8+kl) c b:=(CC.out.past OB.out).later hg2.only (fun hm=>GG.out (by simp only [MNd.blocks,EV.out];simp only [Zk] at hm;simp [hm]))
  refine hK.out _ _ hC2 ?_
  clear hK K hH
  (try simp only [Act.put,qSa,qSz,qSs])
  refine tkA 17 60 (.pointer (some ⟨m.nb,0,none⟩)) hC2 ?_
  refine tkA 18 61 (.pointer (some ⟨m.nb,3,none⟩)) hC2 ?_
  refine oneA 19 fun K hK=>?_
  go_wp2_with fail
  have hC3:Xav (w2.setCell ⟨m.nb,3,none⟩ (.slice va (ke+1) vc)) g (8+kl) c b:=(CC.out.past OB.out).later hT.only GG.out
  refine hK.out _ _ hC3 ?_
  clear hK K
  (try simp only [Act.put,qSa,qSz,qSs])
  refine wpAnyH_done (by kernel_rfl) ?_ _;have TT:=Th (Turn.ahead OB.out hT);clear hg2 hT k4 kf hC2 hC3
  go_wp2_with fail
  go_ret;exact ⟨_,_,rfl,TT.out⟩
theorem takes_entry {w:World} {M:List Nat} {m:MNd} {g n c kl x s:Nat} {b key:List UInt8} {ch:Nat} (h:NodeAt w M m) (hM:∀ x∈M,x<w.heap.size) (hl:m.n.leaf=false) (hc:Xav w g n c b) (hb:b.take 4=le ch 4) (hb2:b.drop 4=le x 8++key) (hch:ch<65536) (hg:g∉m.blocks) (hgM:g∉M)
  (hn:n=4+(8+kl)) (hkl:key.length=kl) (hk3:kl≤300) (hx:x<18446744073709551616) (hes:m.n.es.length≤1000000) (hcl:m.n.cs.length≤1000000) (hs:0<s) (hs2:s≤1000) :
  Calls prog 71 #[.pointer (some ⟨m.nb,0,none⟩),.slice (some ⟨g,0,none⟩) n c,.int .i64 s] w fun e w'=>∃ v' v'' kv,e=.returned (.bool true)∧Turn w w' M m ((m.addC v' ch).addE v'' (kv,(key,x))):=by
 have B8:Hid ((b.drop 4).take 8=le x 8):=by show _=_;rw [hb2,Xm (by rw [Xay];exact Zq _),Ya (by rw [Xay];exact Zq _)]
 have XN:=Th hx
 obtain ⟨o1,ho1⟩:∃ o1,o1=if kl=0 then 4 else 12:=⟨_,rfl⟩
 obtain ⟨kv,hkv⟩:∃ kv:Value,kv=.slice (some ⟨g,o1,none⟩) kl kl:=⟨_,rfl⟩;have KV0:=Th hkv
 have KOW:Hid (∀ w1,Xav w1 g n c b→KeyOk w1 M (kv,(key,x))):=by
  intro w1 h1;rw [hkv];refine ⟨⟨_,kl,by rw [hkl],fun h0=>⟨g,o1,rfl,fun j hj=>?_⟩⟩,fun ao n' c' e=>by simp only [Value.slice.injEq] at e;omega,fun g' hg'=>?_,hx⟩
  ·have hp:=h1.part (a:=12) (k:=kl) (by omega)
   have e1:(b.drop 12).take kl=key:=by
    have e2:b.drop 12=(b.drop 4).drop 8:=by rw [List.drop_drop]
    rw [e2,hb2,Wy (by rw [Xay]),Ya (by omega)]
   rw [e1] at hp;rw [ho1,if_neg (by rw [←hkl];exact fun e=>by rw [e] at h0;simp at h0)]
   exact hp j hj
  ·simp only [Value.ownBlock,Zw] at hg'
   subst hg';exact ⟨hgM,h1.2.2.2⟩
 have O1:=Th ho1;have HES:=Th hes
 have LT0:Hid (∀ w1,Only m.blocks w w1→w.heap.size≤w1.heap.size):=fun w1 hO=>hO.size
 clear hkv ho1 hb2 hes;have HN:=Th h;have HM:=Th hM;have HC:=Th hc;have HG:=Th hg;have c2:=h.blk.cell 2;have c4:=h.blk.cell 4;simp only [Zd,Zb] at c2 c4;rw [hl] at c2;obtain ⟨co,cc,hcv,hccap,_⟩:=h.crow;have CV:=Th hcv
 have OWN:Hid (∀ w1,Only [] w w1→w1.ownsRow 0 3 1 (.slice co m.n.cs.length cc) m.n.cs.length (intsC m.n.cs)):=fun w1 hO=>by
  have:=Xad h.kids hO;rw [hcv] at this;exact this
 rw [hcv] at c4;have hcc:=hc.2.1
 have CHL:Hid (∀ w1 v' w2,NodeAt w1 M m→w.heap.size≤w1.heap.size→Grew w1 w2 3 1 (.slice co m.n.cs.length cc) v' (m.n.cs.length+1) (intsC m.n.cs++[.int .i64 ch])→w2.cell? ⟨m.nb,4,none⟩=some (.slice co m.n.cs.length cc)∧Turn w1 (w2.setCell ⟨m.nb,4,none⟩ v') M m (m.addC v' ch)):=by
  intro w1 v' w2 h1 hsz hg2
  have hg3:Grew w1 w2 3 1 m.cv v' (m.n.cs++[(ch:Int)]).length (intsC (m.n.cs++[(ch:Int)])):=by
   rw [hcv,Ze]
   have e:intsC (m.n.cs++[(ch:Int)])=intsC m.n.cs++[.int .i64 ch]:=by simp [intsC]
   rw [e];exact hg2
  refine ⟨?_,h1.setCs hg3 (fun x hx=>Ye (HM.out x hx) hsz)⟩;have:=(hg3.only.blk h1.blk (fun hm=>Xaj h1.kids h1.blk (by decide) (by simpa using hm))).cell 4;rw [this]
  simp [hcv]
 have FZ:Hid (∀ w1 v' w2,NodeAt w1 M m→Grew w1 w2 3 1 (.slice co m.n.cs.length cc) v' (m.n.cs.length+1) (intsC m.n.cs++[.int .i64 ch])→w2.frozen? ⟨m.nb,4,none⟩=false):=by
  intro w1 v' w2 h1 hg2;exact (hg2.only.blk h1.blk (fun hm=>Xaj h1.kids h1.blk (by decide) (by rw [hcv];simpa using hm))).frozen 4
 have UN:Hid (∀ w1 c',Xav w1 g n c b→Calls prog 99 #[.slice (some ⟨g,0,none⟩) 4 c'] w1 fun e w'=>e=.returned (.int .u64 (ch:Nat))∧w1=w'):=fun w1 c' h1=>by
  have hp:=h1.part (a:=0) (k:=4) (by omega);rw [Xp,hb] at hp;have:=Xdl (w:=w1) g 0 c' (le ch 4) (by rw [Xay];omega) hp
  rw [Xay,H.unle_le ch 4 (by omega)] at this;exact this
 have hci:(ch:Int)≤9223372036854775807:=by omega
 generalize hk:m.n.cs.length=k at *;clear h hM hc hg hl hcv hb
 have n1:¬(n:Int)<4:=by omega
 have n2:(4:Int)≤n:=by omega
 have n3:4≤c:=by omega
 have n4:(4:Int)≤c:=by omega
 go_enter func71,ntmps71
 go_wp2_with fail
 have wch:IntKind.i64.wrap (ch:Int)=ch:=by rw [Yi];omega
 have WCH:=Th wch;have hOA:Only [] w (w.drew.alloc (.cells [.int .i64 (ch:Int)].toArray 3)):=(Only.refl _ _).drew.alloc _;have m4:=hOA.cell c4 (by simp);have OA:=Th hOA;have q1:m.nb<w.heap.size:=HN.out.blk.lt
 have q2:¬m.nb=w.heap.size:=by omega
 have NEW:Hid (0<1→∃ ad,some (⟨w.heap.size,0,none⟩:Addr)=some ad∧∀ j u,[Value.int .i64 (ch:Int)][j]?=some u→(w.drew.alloc (.cells [.int .i64 (ch:Int)].toArray 3)).cell? (ad.add j)=some u):=fun _=>⟨_,rfl,fun j u hu=>by rw [Xah,Yd];exact ((Blk.new [.int .i64 (ch:Int)] 3 w.drew).cell j).trans hu⟩
 have ONE:Hid (∀ u∈[Value.int .i64 (ch:Int)],u.oneCell'=true):=by intro u hu;simp at hu;subst hu;rfl
 clear hOA c2
 go_cut [] (fun wx=>∃ v',Turn w wx M m (m.addC v' ch)∧Xav wx g n c b)
 case first =>
  refine wp_region_held_drew (S:=fun w'=>Xav w' g n c b) (by kernel_rfl) (HC.out.past ((Only.refl [] w).drew)) (fun hH=>?_)
  refine tkA 0 15 (.pointer (some ⟨m.nb,0,none⟩)) hH ?_
  refine tkA 1 16 (.pointer (some ⟨m.nb,0,none⟩)) hH ?_
  refine tkA 2 17 (.pointer (some ⟨m.nb,0,none⟩)) hH ?_
  refine tkA 3 18 (.pointer (some ⟨m.nb,4,none⟩)) hH ?_
  refine tkA 5 20 (.slice (some ⟨g,0,none⟩) n c) hH ?_
  refine tkA 6 21 (.slice (some ⟨g,0,none⟩) 4 c) hH ?_
  refine Xik 7 22 (.int .u64 ch) rfl rfl (by kernel_rfl) (by kernel_rfl) (by kernel_rfl) (fun _ _ _ h=>h) ⟨by rfl,fun w1 hw1=>by unfold Oper.quietAt;go_simp;exact ((UN.out _ _ hw1).mono fun e w2 ⟨h1,h2⟩=>⟨h1,h2.symm⟩)⟩ hH ?_
  (try simp only [Act.put,qSa,qSz,qSs])
  refine tkA 8 23 (.int .i64 ch) hH ?_
  refine Xht 4 9 rfl rfl (by kernel_rfl) (by rfl) (by rfl) (fun K hK=>?_) (fun K hK=>?_)
  ·go_wp2_with fail
   refine hK.out _ _ hH ?_
   clear hK K
   (try simp only [Act.put,qSa,qSz,qSs])
   refine oneA 9 fun K hK=>?_
   go_wp2_with fail
   refine hK.out _ _ (HC.out.past OA.out) ?_
   clear hK K
   (try simp only [Act.put,qSa,qSz,qSs])
   refine oneA 10 fun K hK=>?_
   refine Xbl 25 rfl (.tmp 19) (.tmp 24) 52 rfl 3 underlying52 (info_parts Xcl) rfl (by decide) (.slice co k cc) k (intsC m.n.cs) rfl (OWN.out _ OA.out) (some ⟨w.heap.size,0,none⟩) 1 1 rfl [.int .i64 ch] rfl NEW.out ONE.out (by omega) (by decide) ?_
   intro v' w2 hg2;obtain ⟨va,vc,rfl⟩:=hg2.shape;obtain ⟨k4,hT⟩:=CHL.out _ _ w2 (HN.out.past OA.out) OA.out.size hg2;have kf:w2.frozen? ⟨m.nb,4,none⟩=false:=FZ.out _ _ w2 (HN.out.past OA.out) hg2;have hC2:Xav w2 g n c b:=(HC.out.past OA.out).later hg2.only (fun hm=>HG.out (by simp only [MNd.blocks,CV.out];simp only [Zk] at hm;simp [hm]))
   refine hK.out _ _ hC2 ?_
   clear hK K hH
   (try simp only [Act.put,qSa,qSz,qSs])
   refine tkA 11 26 (.pointer (some ⟨m.nb,0,none⟩)) hC2 ?_
   refine tkA 12 27 (.pointer (some ⟨m.nb,4,none⟩)) hC2 ?_
   refine oneA 13 fun K hK=>?_
   go_wp2_with fail
   have hC3:Xav (w2.setCell ⟨m.nb,4,none⟩ (.slice va (k+1) vc)) g n c b:=(HC.out.past OA.out).later hT.only HG.out
   refine hK.out _ _ hC3 ?_
   clear hK K
   (try simp only [Act.put,qSa,qSz,qSs])
   refine wpAnyH_done (by kernel_rfl) ?_ _;have TT:=Th (Turn.ahead OA.out hT);have CC3:=Th hC3;clear hg2 hT k4 kf hC2 hC3
   go_wp2_with fail
   go_meet
   case rel=>exact ⟨_,TT.out,CC3.out⟩
  ·go_wp2_with fail
   refine hK.out _ _ (HC.out.past OA.out) ?_
   clear hK K
   (try simp only [Act.put,qSa,qSz,qSs])
   refine oneA 4 fun K hK=>?_
   go_wp2_with fail
   refine hK.out _ _ (HC.out.past OA.out) ?_
   clear hK K
   (try simp only [Act.put,qSa,qSz,qSs])
   refine oneA 10 fun K hK=>?_
   refine Xbl 25 rfl (.tmp 19) (.tmp 24) 52 rfl 3 underlying52 (info_parts Xcl) rfl (by decide) (.slice co k cc) k (intsC m.n.cs) rfl (OWN.out _ OA.out) (some ⟨w.heap.size,0,none⟩) 1 1 rfl [.int .i64 ch] rfl NEW.out ONE.out (by omega) (by decide) ?_
   intro v' w2 hg2;obtain ⟨va,vc,rfl⟩:=hg2.shape;obtain ⟨k4,hT⟩:=CHL.out _ _ w2 (HN.out.past OA.out) OA.out.size hg2;have kf:w2.frozen? ⟨m.nb,4,none⟩=false:=FZ.out _ _ w2 (HN.out.past OA.out) hg2;have hC2:Xav w2 g n c b:=(HC.out.past OA.out).later hg2.only (fun hm=>HG.out (by simp only [MNd.blocks,CV.out];simp only [Zk] at hm;simp [hm]))
   refine hK.out _ _ hC2 ?_
   clear hK K hH
   (try simp only [Act.put,qSa,qSz,qSs])
   refine tkA 11 26 (.pointer (some ⟨m.nb,0,none⟩)) hC2 ?_
   refine tkA 12 27 (.pointer (some ⟨m.nb,4,none⟩)) hC2 ?_
   refine oneA 13 fun K hK=>?_
   go_wp2_with fail
   have hC3:Xav (w2.setCell ⟨m.nb,4,none⟩ (.slice va (k+1) vc)) g n c b:=(HC.out.past OA.out).later hT.only HG.out
   refine hK.out _ _ hC3 ?_
   clear hK K
   (try simp only [Act.put,qSa,qSz,qSs])
   refine wpAnyH_done (by kernel_rfl) ?_ _;have TT:=Th (Turn.ahead OA.out hT);have CC3:=Th hC3;clear hg2 hT k4 kf hC2 hC3
   go_wp2_with fail
   go_meet
   case rel=>exact ⟨_,TT.out,CC3.out⟩
 case rest =>
  obtain ⟨v',hT,hC⟩:=hcut;obtain ⟨m1,hm1⟩:∃ m1,m.addC v' ch=m1:=⟨_,rfl⟩;rw [hm1] at hT;have HM1:=Th hm1
  have NB:Hid (m1.nb=m.nb):=by show _=_;rw [←hm1];rfl
  have NN:=Th hT.at_;have TT1:=Th hT;have CC:=Th hC
  have MM:Hid (∀ y∈M,y<wc.heap.size):=fun y hy=>Ye (HM.out y hy) hT.only.size
  have GG:Hid (g∉m1.blocks):=fun hm=>by
   rcases hT.new g hm with h9 | h9
   ·exact HG.out h9
   ·obtain ⟨cs,hb9⟩:=HC.out.2.2.2
    have:=hb9.lt;omega
  have KO:Hid (KeyOk wc M (kv,(key,x))):=KOW.out wc hC
  have ESL:Hid (m1.n.es.length≤1000000):=by show _≤_;rw [←hm1];exact HES.out
  subst hn
  have y1:¬c=4:=by omega
  have y2:¬((8+kl:Nat):Int)<8:=by omega
  have y3:¬(308:Int)<((8+kl:Nat):Int):=by omega
  have y4:¬(s:Int)=0:=by omega
  have y5:((s:Int) == 0)=false:=beq_eq_false_iff_ne.2 y4;clear hT hC hm1 c4 m4 q1 q2 wch
  go_wp2_with fail
  obtain ⟨eo,ec,hev,hecap,_⟩:=NN.out.row;have e3:=NN.out.blk.cell 3;simp only [Zd,Zb] at e3;rw [NB.out] at e3;rw [hev] at e3;have EV:=Th hev
  have OWN:Hid (∀ w1,Only [] wc w1→w1.ownsRow 0 43 2 (.slice eo m1.n.es.length ec) m1.n.es.length (kvsC m1.L)):=fun w1 hO=>by
   have:=Xad NN.out.ents hO;rw [hev,NN.out.len] at this;exact this
  have ENL:Hid (∀ w1 v' w2,NodeAt w1 M m1→wc.heap.size≤w1.heap.size→Only [] wc w1→Grew w1 w2 43 2 (.slice eo m1.n.es.length ec) v' (m1.n.es.length+1) (kvsC m1.L++[kv,.int .u64 x])→w2.cell? ⟨m.nb,3,none⟩=some (.slice eo m1.n.es.length ec)∧Turn w1 (w2.setCell ⟨m.nb,3,none⟩ v') M m1 (m1.addE v' (kv,(key,x)))):=by
   intro w1 v' w2 h1 hsz hO1 hg2;rw [←NB.out]
   have hg3:Grew w1 w2 43 2 m1.ev v' (m1.L++[(kv,(key,x))]).length (kvsC (m1.L++[(kv,(key,x))])):=by
    rw [EV.out,Ze,h1.len]
    have e:kvsC (m1.L++[(kv,(key,x))])=kvsC m1.L++[kv,.int .u64 x]:=by rw [Xbm];rfl
    rw [e];exact hg2
   have hT:=h1.setEs hg3 (fun p hp=>by
    rcases Za.1 hp with hp | hp
    ·exact h1.keys p hp
    ·simp only [Zo] at hp;subst hp;exact KO.out.past hO1) (fun y hy=>Ye (MM.out y hy) hsz)
   refine ⟨?_,?_⟩
   ·have:=(hg3.only.blk h1.blk (fun hm=>Xaj h1.ents h1.blk (by decide) (by simpa using hm))).cell 3
    rw [this]
    simp [EV.out]
   ·have e:(m1.L++[(kv,(key,x))]).map (·.2)=m1.n.es++[(key,x)]:=by rw [Zs,h1.es];rfl
    rw [e] at hT;exact hT
  have FZE:Hid (∀ w1 v' w2,NodeAt w1 M m1→Grew w1 w2 43 2 (.slice eo m1.n.es.length ec) v' (m1.n.es.length+1) (kvsC m1.L++[kv,.int .u64 x])→w2.frozen? ⟨m.nb,3,none⟩=false):=by
   intro w1 v' w2 h1 hg2;rw [←NB.out];exact (hg2.only.blk h1.blk (fun hm=>Xaj h1.ents h1.blk (by decide) (by rw [EV.out];simpa using hm))).frozen 3
  have UNX:Hid (∀ w1 c',Xav w1 g (4+(8+kl)) c b→Calls prog 99 #[.slice (some ⟨g,4,none⟩) 8 c'] w1 fun e w'=>e=.returned (.int .u64 (x:Nat))∧w1=w'):=fun w1 c' h1=>by
   have hp:=h1.part (a:=4) (k:=8) (by omega);rw [B8.out] at hp;have:=Xdl (w:=w1) g 4 c' (le x 8) (by rw [Xay];omega) hp
   rw [Xay,H.unle_le x 8 (by have:=XN.out;omega)] at this;exact this
  obtain ⟨ke,hke⟩:∃ ke,m1.n.es.length=ke:=⟨_,rfl⟩;rw [hke] at e3 OWN ENL FZE EV hecap
  have hke2:ke≤1000000:=by rw [←hke];exact ESL.out
  have HOB:Only [] wc (wc.drew.alloc (.cells [kv,.int .u64 x].toArray 43)):=(Only.refl _ _).drew.alloc _;have OB:=Th HOB;have z1:m.nb<wc.heap.size:=NB.out ▸ NN.out.blk.lt
  have z2:¬m.nb=wc.heap.size:=by omega
  have NEWE:Hid (0<1→∃ ad,some (⟨wc.heap.size,0,none⟩:Addr)=some ad∧∀ j u,[kv,Value.int .u64 x][j]?=some u→(wc.drew.alloc (.cells [kv,.int .u64 x].toArray 43)).cell? (ad.add j)=some u):=fun _=>⟨_,rfl,fun j u hu=>by rw [Xah,Yd];exact ((Blk.new [kv,.int .u64 x] 43 wc.drew).cell j).trans hu⟩
  have ONEE:Hid (∀ u∈[kv,Value.int .u64 x],u.oneCell'=true):=by
   intro u hu;simp only [Zg,Xt,or_false] at hu
   rcases hu with rfl | rfl
   ·rw [KV0.out];rfl
   ·rfl
  clear hev hke HOB;rw [KV0.out] at NEWE ONEE OB ENL FZE
  have wr8:(8:Int)≤((c-4):Nat):=by omega
  have wr9:8≤(c-4):=by omega
  have wr10:((8+kl:Nat):Int)≤((c-4):Nat):=by omega
  have wr11:8+kl≤(c-4):=by omega
  refine wp_region_held_drew (S:=fun w'=>Xav w' g (4+(8+kl)) c b) (by kernel_rfl) (CC.out.past ((Only.refl [] wc).drew)) (fun hH=>?_)
  refine tkA 0 43 (.pointer (some ⟨m.nb,0,none⟩)) hH ?_
  refine tkA 1 44 (.pointer (some ⟨m.nb,0,none⟩)) hH ?_
  refine tkA 2 45 (.pointer (some ⟨m.nb,0,none⟩)) hH ?_
  refine tkA 3 46 (.pointer (some ⟨m.nb,3,none⟩)) hH ?_
  refine tkA 5 48 (.slice (some ⟨g,4,none⟩) (8+kl) (c-4)) hH ?_
  refine tkA 6 49 (.slice (some ⟨g,4,none⟩) (8+kl) (c-4)) hH ?_
  refine tkA 7 50 (.int .i64 ((8+kl):Nat)) hH ?_
  refine tkA 8 51 (.slice (some ⟨g,4,none⟩) (8+kl) (c-4)) hH ?_
  refine tkA 9 52 (.int .i64 ((8+kl):Nat)) hH ?_
  refine Xaq 10 53 (.slice (some ⟨g,o1,none⟩) kl kl) rfl rfl (by kernel_rfl) (by kernel_rfl) (by kernel_rfl) (fun _ _ _ h=>h) (Or.inl ⟨by rfl,fun w1 hw1=>by have hO:=O1.out;by_cases h0:kl=0 <;> first | (subst h0;rw [if_pos rfl] at hO;rw [hO];go_simp;done) | (rw [if_neg h0] at hO;rw [hO];go_simp;rw [if_pos ⟨by omega,by omega⟩,if_pos ⟨by omega,by omega⟩,if_pos (by omega),if_neg (by omega),show (8+(kl:Int)).toNat-8=kl by omega])⟩) hH ?_
  (try simp only [Act.put,qSa,qSz,qSs])
  refine tkA 11 54 (.slice (some ⟨g,4,none⟩) (8+kl) (c-4)) hH ?_
  refine tkA 12 55 (.slice (some ⟨g,4,none⟩) 8 (c-4)) hH ?_
  refine Xik 13 56 (.int .u64 x) rfl rfl (by kernel_rfl) (by kernel_rfl) (by kernel_rfl) (fun _ _ _ h=>h) ⟨by rfl,fun w1 hw1=>by unfold Oper.quietAt;go_simp;exact ((UNX.out _ _ hw1).mono fun e w2 ⟨h1,h2⟩=>⟨h1,h2.symm⟩)⟩ hH ?_
  (try simp only [Act.put,qSa,qSz,qSs])
  refine tkA 14 57 (.agg #[.slice (some ⟨g,o1,none⟩) kl kl,.int .u64 x]) hH ?_
  refine Xht 4 15 rfl rfl (by kernel_rfl) (by rfl) (by rfl) (fun K hK=>?_) (fun K hK=>?_)
  ·go_wp2_with fail
   refine hK.out _ _ hH ?_
   clear hK K
   (try simp only [Act.put,qSa,qSz,qSs])
   refine oneA 15 fun K hK=>?_
   go_wp2_with fail
   refine hK.out _ _ (CC.out.past OB.out) ?_
   clear hK K
   (try simp only [Act.put,qSa,qSz,qSs])
   refine oneA 16 fun K hK=>?_
   refine Xbl 59 rfl (.tmp 47) (.tmp 58) 48 rfl 43 underlying48 (info_parts Xbq) rfl (by decide) (.slice eo ke ec) ke (kvsC m1.L) rfl (OWN.out _ OB.out) (some ⟨wc.heap.size,0,none⟩) 1 1 rfl [.slice (some ⟨g,o1,none⟩) kl kl,.int .u64 x] rfl NEWE.out ONEE.out (by omega) (by decide) ?_
   intro v' w2 hg2;obtain ⟨va,vc,rfl⟩:=hg2.shape;obtain ⟨k4,hT⟩:=ENL.out _ _ w2 (NN.out.past OB.out) OB.out.size OB.out hg2;have kf:w2.frozen? ⟨m.nb,3,none⟩=false:=FZE.out _ _ w2 (NN.out.past OB.out) hg2;have hC2:Xav w2 g (4+(8+kl)) c b:=(CC.out.past OB.out).later hg2.only (fun hm=>GG.out (by simp only [MNd.blocks,EV.out];simp only [Zk] at hm;simp [hm]))
   refine hK.out _ _ hC2 ?_
   clear hK K hH
   (try simp only [Act.put,qSa,qSz,qSs])
   refine tkA 17 60 (.pointer (some ⟨m.nb,0,none⟩)) hC2 ?_
   refine tkA 18 61 (.pointer (some ⟨m.nb,3,none⟩)) hC2 ?_
   refine oneA 19 fun K hK=>?_
   go_wp2_with fail
   have hC3:Xav (w2.setCell ⟨m.nb,3,none⟩ (.slice va (ke+1) vc)) g (4+(8+kl)) c b:=(CC.out.past OB.out).later hT.only GG.out
   refine hK.out _ _ hC3 ?_
   clear hK K
   (try simp only [Act.put,qSa,qSz,qSs])
   refine wpAnyH_done (by kernel_rfl) ?_ _;have TT:=Th (Turn.ahead OB.out hT);clear hg2 hT k4 kf hC2 hC3
   go_wp2_with fail
   go_ret;exact ⟨v',_,_,rfl,by rw [HM1.out];exact TT1.out.trans TT.out⟩
  ·go_wp2_with fail
   refine hK.out _ _ (CC.out.past OB.out) ?_
   clear hK K
   (try simp only [Act.put,qSa,qSz,qSs])
   refine oneA 4 fun K hK=>?_
   go_wp2_with fail
   refine hK.out _ _ (CC.out.past OB.out) ?_
   clear hK K
   (try simp only [Act.put,qSa,qSz,qSs])
   refine oneA 16 fun K hK=>?_
   refine Xbl 59 rfl (.tmp 47) (.tmp 58) 48 rfl 43 underlying48 (info_parts Xbq) rfl (by decide) (.slice eo ke ec) ke (kvsC m1.L) rfl (OWN.out _ OB.out) (some ⟨wc.heap.size,0,none⟩) 1 1 rfl [.slice (some ⟨g,o1,none⟩) kl kl,.int .u64 x] rfl NEWE.out ONEE.out (by omega) (by decide) ?_
   intro v' w2 hg2;obtain ⟨va,vc,rfl⟩:=hg2.shape;obtain ⟨k4,hT⟩:=ENL.out _ _ w2 (NN.out.past OB.out) OB.out.size OB.out hg2;have kf:w2.frozen? ⟨m.nb,3,none⟩=false:=FZE.out _ _ w2 (NN.out.past OB.out) hg2;have hC2:Xav w2 g (4+(8+kl)) c b:=(CC.out.past OB.out).later hg2.only (fun hm=>GG.out (by simp only [MNd.blocks,EV.out];simp only [Zk] at hm;simp [hm]))
   refine hK.out _ _ hC2 ?_
   clear hK K hH
   (try simp only [Act.put,qSa,qSz,qSs])
   refine tkA 17 60 (.pointer (some ⟨m.nb,0,none⟩)) hC2 ?_
   refine tkA 18 61 (.pointer (some ⟨m.nb,3,none⟩)) hC2 ?_
   refine oneA 19 fun K hK=>?_
   go_wp2_with fail
   have hC3:Xav (w2.setCell ⟨m.nb,3,none⟩ (.slice va (ke+1) vc)) g (4+(8+kl)) c b:=(CC.out.past OB.out).later hT.only GG.out
   refine hK.out _ _ hC3 ?_
   clear hK K
   (try simp only [Act.put,qSa,qSz,qSs])
   refine wpAnyH_done (by kernel_rfl) ?_ _;have TT:=Th (Turn.ahead OB.out hT);clear hg2 hT k4 kf hC2 hC3
   go_wp2_with fail
   go_ret;exact ⟨v',_,_,rfl,by rw [HM1.out];exact TT1.out.trans TT.out⟩
end T
namespace T
open Go Go.RowKit D B C G P H Tryz
structure ReadRes (w:World) (p:Nat) (M:List Nat) (u:List Bool) (pg:Nat→List UInt8) (k:Nat) (root:Bool) (n:Nd) (m:MNd) (M':List Nat) (w':World):Prop where
 at_:NodeAt w' M' m
 n:m.n=n
 root:m.root=root
 new:∀ x∈m.blocks,w.heap.size≤x
 pool:PoolV w' p M' u pg (k+2)
 step:Step M M' w w'
def Xir (nb id:Nat) (root leaf:Bool):MNd:=⟨nb,root,⟨(id:Int),leaf,[],[]⟩,.slice none 0 0,.slice none 0 0,[]⟩
theorem Xgf {w:World} {M:List Nat} {nb id:Nat} {root leaf:Bool} (h:Blk w nb [.int .i64 id,.bool root,.bool leaf,.slice none 0 0,.slice none 0 0] 77) (hM:nb∉M):NodeAt w M (Xir nb id root leaf) where
 blk:=h
 es:=rfl
 ents:=⟨rfl,.inl ⟨rfl,rfl⟩⟩
 kids:=⟨rfl,.inl ⟨rfl,rfl⟩⟩
 keys:=fun p hp=>by cases hp
 off:=fun x hx=>by simp [MNd.blocks,Xir,Value.ownBlock] at hx;subst hx;exact hM
def partN (n:Nd) (j:Nat):Nd:=if n.leaf then ⟨n.id,n.leaf,n.es.take j,[]⟩ else ⟨n.id,n.leaf,n.es.take (j-1),n.cs.take j⟩
theorem partN_leaf (n:Nd) (j:Nat):(partN n j).leaf=n.leaf:=by unfold partN;split <;> rfl
theorem partN_zero (n:Nd):partN n 0=⟨n.id,n.leaf,[],[]⟩:=by unfold partN;split <;> simp
theorem partN_all {n:Nd} (hC:Kids n):partN n (Xcc n).length=n:=by
 have h:=hC.count;rw [Xjl];unfold partN headN;obtain ⟨i,l,E,C⟩:=n;cases l
 ·simp only [Bool.false_eq_true,if_false] at h ⊢
  rw [show 1+E.length-1=E.length by omega,We,Ya (by omega)]
 ·simp only [if_true] at h ⊢
  rw [Yd,We,Xd h]
theorem cellN_leaf {n:Nd} (hl:n.leaf=true) {j:Nat} {b:List UInt8} (h:(Xcc n)[j]?=some b):∃ hj:j<n.es.length,b=le n.es[j].2 8++n.es[j].1:=by
 unfold Xcc at h;rw [hl] at h;simp only [if_true,Ym,Zr] at h
 rcases Yv j n.es.length with hj | hj
 ·refine ⟨hj,?_⟩
  rw [List.getElem?_range hj] at h;simp only [Xe,Zw] at h
  have hg:n.es.getD j ([],0)=n.es[j]:=by rw [Zf,Zc hj];rfl
  rw [←h];unfold cellN;rw [hl,hg];rfl
 ·rw [Xb (by simpa using hj)] at h
  cases h
theorem cellN_head {n:Nd} (hl:n.leaf=false) {b:List UInt8} (h:(Xcc n)[0]?=some b):b=le (n.cs.getD 0 0).toNat 4:=by
 unfold Xcc at h;rw [hl] at h;simp at h;exact h.symm
theorem cellN_node {n:Nd} (hl:n.leaf=false) {j:Nat} {b:List UInt8} (h:(Xcc n)[j+1]?=some b):∃ hj:j<n.es.length,b=le (n.cs.getD (j+1) 0).toNat 4++(le n.es[j].2 8++n.es[j].1):=by
 unfold Xcc at h;rw [hl] at h;simp only [Bool.false_eq_true,if_false,Vd,Zd,Zr] at h
 rcases Yv j n.es.length with hj | hj
 ·refine ⟨hj,?_⟩
  rw [List.getElem?_range hj] at h;simp only [Xe,Zw] at h;rw [←h];unfold cellN;rw [hl,Zf (l:=n.es),Zc hj];simp
 ·rw [Xb (by simpa using hj)] at h
  cases h
theorem takes_any {w:World} {M:List Nat} {m:MNd} {n:Nd} {g c j:Nat} {b:List UInt8} (h:NodeAt w M m) (hM:∀ x∈M,x<w.heap.size) (hm:m.n=partN n j) (hK:Keys n.es) (hV:∀ e∈n.es,e.2<18446744073709551616) (hC:Kids n) (hj:(Xcc n)[j]?=some b) (hl:(Xcc n).length≤125)
  (hc:Xav w g b.length c b) (hg:g∉m.blocks) (hgM:g∉M) :
  Calls prog 71 #[.pointer (some ⟨m.nb,0,none⟩),.slice (some ⟨g,0,none⟩) b.length c,.int .i64 j] w fun e w'=>∃ m',e=.returned (.bool true)∧Turn w w' M m m'∧m'.n=partN n (j+1):=by
 have hjl:=(Zh.1 hj).1;have hcnt:=Xjl n
 have hml:m.n.leaf=n.leaf:=by rw [hm,partN_leaf]
 have hesl:m.n.es.length≤1000000:=by
  rw [hm];unfold partN
  split
  ·simp only [Zj];omega
  ·simp only [Zj];omega
 have hcsl:m.n.cs.length≤1000000:=by
  rw [hm];unfold partN
  split
  ·simp
  ·simp only [Zj];omega
 cases hleaf:n.leaf
 ·rw [hleaf] at hml
  have hcc:n.cs.length=n.es.length+1:=by have:=hC.count;rw [hleaf] at this;exact this
  rcases j with _ | j
  ·have hb:=cellN_head hleaf hj
   obtain ⟨h0,h1⟩:=hC.small n.cs[0] (Yx (by omega))
   have hgd:n.cs.getD 0 0=n.cs[0]:=by rw [Zf,Zc (by omega)];rfl
   rw [hgd] at hb
   have hbl:b.length=4:=by rw [hb,Xay]
   refine (takes_head (ch:=n.cs[0].toNat) h hM hml hc (by rw [hb,Ya (by rw [Xay];exact Zq _)]) (by omega) hg hbl hcsl).mono ?_
   rintro e w' ⟨v',rfl,hT⟩;refine ⟨_,rfl,hT,?_⟩;simp only [MNd.addC,hm];unfold partN;rw [hleaf];simp only [Bool.false_eq_true,if_false,Wc,Yd,Ym,Wd];rw [show (0:Nat)-1=0 by rfl,Wc,Int.toNat_of_nonneg h0];congr 1
   rw [Xk (by omega)];rfl
  ·obtain ⟨hje,hb⟩:=cellN_node hleaf hj
   obtain ⟨h0,h1⟩:=hC.small n.cs[j+1] (Yx (by omega))
   have hgd:n.cs.getD (j+1) 0=n.cs[j+1]:=by rw [Zf,Zc (by omega)];rfl
   rw [hgd] at hb
   have hbl:b.length=4+(8+n.es[j].1.length):=by rw [hb];simp only [Ze,Xay]
   have hkk:=hK _ (Yx hje)
   refine (takes_entry (ch:=n.cs[j+1].toNat) (x:=n.es[j].2) (key:=n.es[j].1) (s:=j+1) h hM hml hc (by rw [hb,Wx (by rw [Xay])]) (by rw [hb,Wy (by rw [Xay])]) (by omega) hg hgM hbl rfl hkk.1 (hV _ (Yx hje)) hesl hcsl (by omega) (by omega)).mono ?_
   rintro e w' ⟨v',v'',kv,rfl,hT⟩;refine ⟨_,rfl,hT,?_⟩;simp only [MNd.addC,MNd.addE,hm];unfold partN;rw [hleaf];simp only [Bool.false_eq_true,if_false];rw [show j+1-1=j by omega,show j+1+1-1=j+1 by omega,Int.toNat_of_nonneg h0];congr 1
   ·rw [Xk hje]
   ·rw [Xk (i:=j+1) (by omega)]
 ·rw [hleaf] at hml
  obtain ⟨hje,hb⟩:=cellN_leaf hleaf hj
  have hbl:b.length=8+n.es[j].1.length:=by rw [hb];simp only [Ze,Xay]
  have hkk:=hK _ (Yx hje)
  refine (takes_leaf (x:=n.es[j].2) (key:=n.es[j].1) (s:=j) h hM hml hc (by rw [Xp];exact hb) hg hgM hbl rfl hkk.1 (hV _ (Yx hje)) hesl).mono ?_
  rintro e w' ⟨v',kv,rfl,hT⟩;refine ⟨_,rfl,hT,?_⟩;simp only [MNd.addE,hm];unfold partN;rw [hleaf];simp only [if_true];congr 1;rw [Xk hje]
theorem Xfh {w:World} {p k id:Nat} {M:List Nat} {u:List Bool} {pg:Nat→List UInt8} {root:Bool} {n:Nd} (hP:PoolV w p M u pg k) (hk:k≤1000000) (hid:n.id=(id:Nat)) (hu:u.getD id false=true)
  (hN:Xel root n (pg id)) (hK:Keys n.es) (hC:Kids n) (hf:fitsP n.leaf n.es=true) :
  Calls prog 38 #[.pointer (some ⟨p,0,none⟩),.int .i64 id] w fun e w'=>∃ m M',e=.returned (.tuple #[.pointer (some ⟨m.nb,0,none⟩),.int .i64 0])∧ReadRes w p M u pg k root n m M' w':=by
 have GET:=Th (pool_get hP hk hu)
 have hcount:(Xcc n).length≤125:=by
  rw [Xcf] at hf;have:=Xdo n n.es.length (Zq _);rw [We,Xjk] at this;unfold weigh at this;omega
 have KND:Hid (∀ w1 v,Xbs w1 v (pg id)→Calls prog 68 #[v] w1 fun e w'=>e=.returned (.int .u8 (kindP root n.leaf:Nat))∧Only [] w1 w'):=fun w1 v h=>by
  have:=kind_any h;rw [kind_ok hN.pg,hN.kind] at this;exact this
 have SLT:Hid (∀ w1 v,Xbs w1 v (pg id)→Calls prog 69 #[v] w1 fun e w'=>e=.returned (.int .i64 ((Xcc n).length:Nat))∧Only [] w1 w'):=fun w1 v h=>by
  have:=slotsf_any h;rw [slots_ok hN.pg,hN.count] at this;exact this
 have PGT:Hid (∀ w1 v (j:Nat) b,Xbs w1 v (pg id)→(Xcc n)[j]?=some b→Calls prog 70 #[v,.int .i64 j] w1 fun e w'=>∃ g c,e=.returned (.tuple #[.slice (some ⟨g,0,none⟩) b.length c,.int .i64 0])∧Xav w' g b.length c b∧w1.heap.size≤g∧Only [] w1 w'):=fun w1 v j b h hj=>by
  refine (page_cell h hN.pg (hN.cells j b hj)).mono ?_
  rintro e w' ⟨g,c,rfl,hr,hc,hg,hO⟩;exact ⟨g,c,rfl,Xav.row hr rfl hc,hg,hO⟩
 have LT:=Th hP.lt
 have TK:Hid (∀ w1 M1 m1 g c j b,NodeAt w1 M1 m1→(∀ x∈M1,x<w1.heap.size)→m1.n=partN n j→(Xcc n)[j]?=some b→Xav w1 g b.length c b→g∉m1.blocks→g∉M1 →
   Calls prog 71 #[.pointer (some ⟨m1.nb,0,none⟩),.slice (some ⟨g,0,none⟩) b.length c,.int .i64 j] w1 fun e w'=>∃ m',e=.returned (.bool true)∧Turn w1 w' M1 m1 m'∧m'.n=partN n (j+1)) :=
  fun w1 M1 m1 g c j b h1 h2 h3 h4 h5 h6 h7=>takes_any h1 h2 h3 hK (fun e he=>(hK e he).2) hC h4 hcount h5 h6 h7
 have PA:=Th (partN_all hC);have PZ:=Th (partN_zero n);have CNT:=Th hC.count
 have NOE:Hid (∀ j,j<(Xcc n).length→∃ b,(Xcc n)[j]?=some b):=fun j hj=>⟨_,Zc hj⟩
 clear hP hN hK hC hf hu;obtain ⟨N,hNN⟩:∃ N,(Xcc n).length=N:=⟨_,rfl⟩;rw [hNN] at SLT PA NOE hcount;clear hNN
 go_enter func38,ntmps38
 go_upto_block 0 with (first
  | (go_at_call 67;refine GET.out.mono ?_;rintro e w1 ⟨gb,c,M',rfl,hb1,hg1,hn1,hP1,hS1⟩;have B1:=Th hb1;have G1:=Th hg1;have N1:=Th hn1;have P1:=Th hP1;have S1:=Th hS1;clear hb1 hg1 hn1 hP1 hS1)
  | (go_at_call 68;refine (KND.out _ _ (B1.out.past ((Only.refl [] _).alloc _)).c).mono ?_;rintro e w2 ⟨rfl,hO2⟩;have O2:=Th hO2;clear hO2))
 have NX:Hid (NodeAt w2 M' (Xir w1.heap.size id false false)):=(Xgf (Blk.new' _ _ w1 rfl) (fun hm=>Nat.lt_irrefl _ (P1.out.lt _ hm))).past O2.out;have O12:Hid (Only [] w1 w2):=((Only.refl [] w1).alloc _).trans O2.out (by simp);obtain ⟨kk,hkk⟩:∃ kk,kindP root n.leaf=kk:=⟨_,rfl⟩;rw [hkk];have KK:=Th hkk;clear hkk
 go_cut [] from 25 to 42 (fun wx=>NodeAt wx M' (Xir w1.heap.size id root n.leaf)∧Only [] w1 wx)
 case first =>
  have hb:=NX.out.blk;have HB:Hid (Blk w2 w1.heap.size [.int .i64 id,.bool false,.bool false,.slice none 0 0,.slice none 0 0] 77):=hb
  have NM:Hid (w1.heap.size∉M'):=fun hm=>Nat.lt_irrefl _ (P1.out.lt _ hm)
  have d1:=HB.out.cell 1;have d2:=HB.out.cell 2;have f1:=HB.out.frozen 1;have f2:=HB.out.frozen 2;simp only [Zd,Zb] at d1 d2
  have OS1:∀ v,Only [] w1 (w2.setCell ⟨w1.heap.size,1,none⟩ v):=fun v=>O12.out.setCell (.inr (Zq _)) _
  have OS2:∀ v,Only [] w1 (w2.setCell ⟨w1.heap.size,2,none⟩ v):=fun v=>O12.out.setCell (.inr (Zq _)) _
  have OS3:∀ v v',Only [] w1 ((w2.setCell ⟨w1.heap.size,1,none⟩ v).setCell ⟨w1.heap.size,2,none⟩ v'):=fun v v'=>(OS1 v).setCell (.inr (Zq _)) _
  have S1':=Th OS1;have S2':=Th OS2;have S3':=Th OS3;clear hb OS1 OS2 OS3
  cases hr:root <;> cases hl:n.leaf
  ·have h3:36=kk:=by have h:=KK.out;rw [hr,hl] at h;exact h
   subst h3
   go_wp2_with fail
   go_meet
   case rel=>rw [hr,hl];exact ⟨Xgf HB.out NM.out,O12.out⟩
  ·have h3:35=kk:=by have h:=KK.out;rw [hr,hl] at h;exact h
   subst h3
   go_wp2_with fail
   go_meet
   case rel=>rw [hr,hl];exact ⟨Xgf (HB.out.set 2 (.bool true)) NM.out,S2'.out _⟩
  ·have h3:34=kk:=by have h:=KK.out;rw [hr,hl] at h;exact h
   subst h3
   go_wp2_with fail
   go_meet
   case rel=>rw [hr,hl];exact ⟨Xgf (HB.out.set 1 (.bool true)) NM.out,S1'.out _⟩
  ·have h3:33=kk:=by have h:=KK.out;rw [hr,hl] at h;exact h
   subst h3
   go_wp2_with fail
   go_meet
   case rel=>rw [hr,hl];exact ⟨Xgf ((HB.out.set 1 (.bool true)).set 2 (.bool true)) NM.out,S3'.out _ _⟩
 case rest =>
  obtain ⟨hN0,hO0⟩:=hcut;have N0:=Th hN0;have O0:=Th hO0;clear hN0 hO0
  go_wp2_with (go_at_call 69;refine (SLT.out _ _ (B1.out.past O0.out).c).mono ?_;rintro e w3 ⟨rfl,hO3⟩;have O3:=Th (O0.out.trans hO3 (by simp));have N3:=Th (N0.out.past hO3);clear hO3)
  go_loopg [45] N (fun gk s45 wr=>∃ (j:Nat) (m1:MNd),gk=N-j∧j≤N∧s45=.int .i64 j∧NodeAt wr M' m1∧m1.n=partN n j∧m1.root=root∧m1.nb=w1.heap.size∧(∀ x∈m1.blocks,w1.heap.size≤x)∧Only [] w1 wr)
  case atStart=>exact ⟨0,Xir w1.heap.size id root n.leaf,rfl,Yc _,rfl,N3.out,by rw [PZ.out,hid];rfl,rfl,rfl,fun x hx=>by simp [MNd.blocks,Xir,Value.ownBlock] at hx;omega,O3.out⟩
  case round =>
   obtain ⟨j,m1,hgk,hj,rfl,hN1,hmn,hmr,hmb,hnew,hO⟩:=hrel;have HGK:=Th hgk;have NJ:=Th hN1;have MN:=Th hmn;have MR:=Th hmr;have MB:=Th hmb;have NEW:=Th hnew;have OJ:=Th hO;clear hgk hN1 hmn hmr hmb hnew hO
   by_cases hlt:j<N
   ·obtain ⟨b,hb⟩:=NOE.out j hlt
    have HB:=Th hb
    have hlt':(j:Int)<N:=by omega
    have hj0:(0:Int)≤j:=by omega
    clear hb
    go_wp2_with (first
     | (go_at_call 70;refine (PGT.out _ _ _ _ (B1.out.past OJ.out).c HB.out).mono ?_;rintro e w4 ⟨g4,c4,rfl,hc4,hg4,hO4⟩;have C4:=Th hc4;have N4:=Th (NJ.out.past hO4);have O4:=Th (OJ.out.trans hO4 (by simp));have G4:Hid (g4∉m1.blocks∧g4∉M'):=⟨fun hm=>by have:=NJ.out.lt _ hm;omega,fun hm=>by have:=P1.out.lt _ hm;have:=OJ.out.size;omega⟩;have LT4:Hid (∀ x∈M',x<w4.heap.size):=fun x hx=>Ye (P1.out.lt x hx) O4.out.size;have TK4:=Th (TK.out w4 M' m1 g4 c4 j b N4.out LT4.out MN.out HB.out C4.out G4.out.1 G4.out.2);(have TK4:=Th (MB.out ▸ TK4.out));clear hc4 hg4 hO4)
     | (go_at_call 71;refine TK4.out.mono ?_;rintro e w5 ⟨m2,rfl,hT5,hn5⟩;have T5:=Th hT5;have MN5:=Th hn5;clear hT5 hn5))
    go_roundg (N-(j+1))
    case measure=>have:=HGK.out;omega
    case rel=>exact ⟨j+1,m2,rfl,by omega,by go_num,T5.out.at_,MN5.out,T5.out.root.trans MR.out,T5.out.nb.trans MB.out,fun x hx=>by
     rcases T5.out.new x hx with h9 | h9
     ·exact NEW.out x h9
     ·have:=O4.out.size;omega,O4.out.trans T5.out.only (fun x hx=>.inr (NEW.out x hx))⟩
   ·obtain rfl:j=N:=by omega
    have hge:¬(j:Int)<j:=by omega
    have c2:=NJ.out.blk.cell 2;have c4:=NJ.out.blk.cell 4;simp only [Zd,Zb] at c2 c4;have MNA:Hid (m1.n=n):=MN.out.trans PA.out;rw [MB.out,MNA.out] at c2;rw [MB.out] at c4;obtain ⟨co,cc,hcv,_⟩:=NJ.out.crow;rw [hcv,MNA.out] at c4;have cnt:=CNT.out;have RES:Hid (ReadRes w p M u pg k root n m1 M' wr):=⟨NJ.out,MNA.out,MR.out,fun x hx=>Zp S1.out.1.size (NEW.out x hx),P1.out.past OJ.out,Step.then S1.out OJ.out⟩;clear hcv;cases hl:n.leaf
    ·rw [hl] at c2 cnt
     simp only [Bool.false_eq_true,if_false] at cnt;obtain ⟨q,hq⟩:∃ q,n.cs.length=q:=⟨_,rfl⟩;rw [hq] at c4 cnt
     have hq0:¬(q:Int)=0:=by omega
     have hq1:((q:Int) == 0)=false:=beq_eq_false_iff_ne.2 hq0;clear cnt hq
     go_wp2_with fail
     go_ret2;exact ⟨m1,by rw [MB.out];rfl,M',RES.out⟩
    ·rw [hl] at c2
     clear cnt
     go_wp2_with fail
     go_ret2;exact ⟨m1,by rw [MB.out];rfl,M',RES.out⟩
end T
end Go.Proofs.YtiijokopcgnokaaGreat
