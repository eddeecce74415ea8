import Derived.Test.YtiijokopcgnokaaGreatWTnQ
import Derived.Test.YtiijokopcgnokaaGreatWSlAJ
set_option maxRecDepth 100000
set_option maxHeartbeats 4000000
set_option linter.unusedSimpArgs false
set_option linter.unusedVariables false
namespace Go.Proofs.YtiijokopcgnokaaGreat
namespace T
open Go Go.RowKit D B C G P H Tryz
theorem Xdh {w:World} {M:List Nat} {L:List KV} (h:∀ p∈L,KeyOk w M p):∀ v∈kvsC L,v.oneCell'=true:=by
 intro v hv;unfold kvsC at hv;obtain ⟨p,hp,hv⟩:=Yl.1 hv;obtain ⟨ao,cap,he,_⟩:=(h p hp).bytes;simp only [kvC,Zg,Xt,or_false] at hv
 rcases hv with rfl | rfl
 ·rw [he];rfl
 ·rfl
theorem Xkb (l:List Int):∀ v∈intsC l,v.oneCell'=true:=by
 intro v hv;obtain ⟨x,_,rfl⟩:=Zi.1 hv;rfl
theorem Xjc {w w':World} {M:List Nat} {m:MNd} {nb:Nat} {root leaf:Bool} {id:Int} {v cv:Value} {L:List KV} {C:List Int} (hm:NodeAt w M m) (hO:Only [] w w') (hb:Blk w' nb [.int .i64 id,.bool root,.bool leaf,v,cv] 77)
  (hL:∀ p∈L,p∈m.L) (hv:w'.ownsRow 0 43 2 v L.length (kvsC L)) (hcv:w'.ownsRow 0 3 1 cv C.length (intsC C)) (hM:∀ x∈M,x<w.heap.size) (hnb:w.heap.size≤nb) (hvn:∀ k,v.ownBlock=some k→w.heap.size≤k) (hcn:∀ k,cv.ownBlock=some k→w.heap.size≤k) :
  NodeAt w' M ⟨nb,root,⟨id,leaf,L.map (·.2),C⟩,v,cv,L⟩∧∀ x∈(MNd.mk nb root ⟨id,leaf,L.map (·.2),C⟩ v cv L).blocks,w.heap.size≤x:=by
 have hbl:∀ x∈(MNd.mk nb root ⟨id,leaf,L.map (·.2),C⟩ v cv L).blocks,w.heap.size≤x:=fun x hx=>by
  simp only [MNd.blocks,Zg,Za,Zk] at hx
  rcases hx with rfl | hx | hx
  ·exact hnb
  ·exact hvn x hx
  ·exact hcn x hx
 exact ⟨⟨hb,rfl,hv,hcv,fun p hp=>(hm.keys p (hL p hp)).past hO,fun x hx hxm=>by have:=hbl x hx;have:=hM x hxm;omega⟩,hbl⟩
structure CutRes (w:World) (M:List Nat) (m:MNd) (i:Nat) (m1 m2:MNd) (w':World):Prop where
 only:Only [] w w'
 at1:NodeAt w' M m1
 at2:NodeAt w' M m2
 new1:∀ x∈m1.blocks,w.heap.size≤x
 new2:∀ x∈m2.blocks,w.heap.size≤x
 apart:Apart m1 m2
 root1:m1.root=m.root
 root2:m2.root=false
 n1:m1.n=⟨m.n.id,m.n.leaf,m.n.es.take i,Xgr m.n.leaf i m.n.cs⟩
 n2:m2.n=⟨0,m.n.leaf,restE m.n.leaf i m.n.es,restC m.n.leaf i m.n.cs⟩
theorem cut_any {w:World} {M:List Nat} {m:MNd} {i:Nat} (h:NodeAt w M m) (hM:∀ x∈M,x<w.heap.size) (hK:m.n.cs.length=if m.n.leaf then 0 else m.n.es.length+1) (h1:1≤i) (h2:i<m.n.es.length) (hlen:m.n.es.length≤1000000) :
  Calls prog 92 #[.pointer (some ⟨m.nb,0,none⟩),.int .i64 i] w fun e w'=>∃ m1 m2,e=.returned (.tuple #[.pointer (some ⟨m1.nb,0,none⟩),.pointer (some ⟨m2.nb,0,none⟩)])∧CutRes w M m i m1 m2 w':=by
 have c0:=h.blk.cell 0;have c1:=h.blk.cell 1;have c2:=h.blk.cell 2;have c3:=h.blk.cell 3;simp only [Zd,Zb] at c0 c1 c2 c3;obtain ⟨ao,cap,hev,hcap,hrow⟩:=h.row;obtain ⟨g,hg,hcell⟩:=hrow (by omega);subst hg
 have hsrc:∀ a k,a+k≤m.n.es.length→∀ w1,Only [] w w1→∀ j v,(kvsC ((m.L.drop a).take k))[j]?=some v→w1.cell? ((⟨g,a*2,none⟩:Addr).add j)=some v:=fun a k hak w1 hO j v hj=>by
  rw [Xah]
  refine hO.cell ?_ (by simp)
  obtain ⟨ao',cap',h1',_,h3'⟩:=(RowOn.of h.ents).shape;rw [hev] at h1';simp only [Value.slice.injEq] at h1';obtain ⟨g',hg',hc'⟩:=h3' (by rw [h.len];omega)
  rw [←h1'.1] at hg';simp only [Zw,Addr.mk.injEq,and_true] at hg';subst hg';rw [Xed,Xfq] at hj;have hj2:=Zh.1 hj;obtain ⟨hj3,_⟩:=hj2;rw [Zj,Zy,Xcu,h.len] at hj3;rw [Yq,if_pos (by omega),Xh] at hj;rw [hc' _ (by rw [h.len];omega)]
  exact hj
 have CLA:Hid (∀ w1,Only [] w w1→Calls prog 111 #[.slice (some ⟨g,0,none⟩) i cap] w1 fun e w'=>∃ v',e=.returned v'∧I.OwnN w1 w' v' i (kvsC (m.L.take i))):=fun w1 hO =>
  I.slClone_any (by rw [Xcu,Zj,h.len];omega) (fun _=>⟨_,rfl,fun j v hj=>by have:=hsrc 0 i (by omega) w1 hO j v (by rw [Xp];exact hj);rw [Nat.zero_mul] at this;exact this⟩) (Xdh fun p hp=>h.keys p (Yn hp)) (by omega)
 have CLB:Hid (∀ w1 c',Only [] w w1→Calls prog 111 #[.slice (some ⟨g,i*2,none⟩) (m.n.es.length-i) c'] w1 fun e w'=>∃ v',e=.returned v'∧I.OwnN w1 w' v' (m.n.es.length-i) (kvsC (m.L.drop i))):=fun w1 c' hO =>
  I.slClone_any (by rw [Xcu,Zy,h.len]) (fun _=>⟨_,rfl,fun j v hj=>hsrc i (m.n.es.length-i) (by omega) w1 hO j v (by rw [Ya (by rw [Zy,h.len];omega)];exact hj)⟩) (Xdh fun p hp=>h.keys p (Ys hp)) (by omega)
 have CLE:Hid (∀ w1 (a:Addr) c',(a=⟨g,(i+1)*2,none⟩∨m.n.es.length=i+1)→Only [] w w1→Calls prog 111 #[.slice (some a) (m.n.es.length-(i+1)) c'] w1 fun e w'=>∃ v',e=.returned v'∧I.OwnN w1 w' v' (m.n.es.length-(i+1)) (kvsC (m.L.drop (i+1)))):=fun w1 a c' ha hO =>
  I.slClone_any (by rw [Xcu,Zy,h.len]) (fun h0=>by
   rcases ha with rfl | ha
   ·exact ⟨_,rfl,fun j v hj=>hsrc (i+1) (m.n.es.length-(i+1)) (by omega) w1 hO j v (by rw [Ya (by rw [Zy,h.len];omega)];exact hj)⟩
   ·omega) (Xdh fun p hp=>h.keys p (Ys hp)) (by omega)
 have CCH:Hid (m.n.leaf=false→∃ cg cc,m.cv=.slice (some ⟨cg,0,none⟩) (m.n.es.length+1) cc∧m.n.es.length+1≤cc ∧
   (∀ w1 c',Only [] w w1→Calls prog 112 #[.slice (some ⟨cg,0,none⟩) (i+1) c'] w1 fun e w'=>∃ v',e=.returned v'∧IJ.OwnN w1 w' v' (i+1) (intsC (m.n.cs.take (i+1)))) ∧
   (∀ w1 c',Only [] w w1→Calls prog 112 #[.slice (some ⟨cg,i+1,none⟩) (m.n.es.length-i) c'] w1 fun e w'=>∃ v',e=.returned v'∧IJ.OwnN w1 w' v' (m.n.es.length-i) (intsC (m.n.cs.drop (i+1))))):=by
  intro hl
  have hcl:m.n.cs.length=m.n.es.length+1:=by rw [hl] at hK;exact hK
  obtain ⟨co,cc,hcv,hcc,hcrow⟩:=h.crow;obtain ⟨cg,hcg,hcrow2⟩:=hcrow (by omega);subst hcg;rw [hcl] at hcv hcc;refine ⟨cg,cc,hcv,hcc,fun w1 c' hO=>?_,fun w1 c' hO=>?_⟩
  ·refine IJ.slClone_any (by simp [intsC];omega) (fun _=>⟨_,rfl,fun j v hj=>?_⟩) (Xkb _) (by omega)
   rw [Xah,Yd]
   refine hO.cell ?_ (by simp)
   simp only [intsC,Zr] at hj
   cases hq:(m.n.cs.take (i+1))[j]? with
   | none=>rw [hq] at hj;cases hj
   | some q =>
    rw [hq] at hj;simp only [Xe,Zw] at hj;rw [←hj];rw [Yq] at hq;split at hq
    ·exact hcrow2 j q hq
    ·cases hq
  ·refine IJ.slClone_any (by simp [intsC];omega) (fun _=>⟨_,rfl,fun j v hj=>?_⟩) (Xkb _) (by omega)
   rw [Xah]
   refine hO.cell ?_ (by simp)
   simp only [intsC,Zr] at hj
   cases hq:(m.n.cs.drop (i+1))[j]? with
   | none=>rw [hq] at hj;cases hj
   | some q =>
    rw [hq] at hj;simp only [Xe,Zw] at hj;rw [←hj];rw [Xh] at hq;exact hcrow2 _ q hq
 have c4:=h.blk.cell 4;simp only [Zd,Zb] at c4;have HN:=Th h;have HM:=Th hM;have LEN:=Th h.len;rw [hev] at c3;obtain ⟨lf,hlf⟩:∃ lf,m.n.leaf=lf:=⟨_,rfl⟩;rw [hlf] at c2;have LF:=Th hlf;have KK:=Th hK;clear hev hrow hcell hsrc
 have hi0:(0:Int)≤i:=by omega
 have hi1:(i:Int)≤m.n.es.length:=by omega
 have hi2:i≤cap:=by omega
 have hi3:(i:Int)≤cap:=by omega
 have hi4:¬cap=i:=by omega
 obtain ⟨ne,hne⟩:∃ ne,m.n.es.length=ne:=⟨_,rfl⟩;rw [hne] at c3 CLB CLE CCH hcap hi1 LEN h2 hlen;have NE:=Th hne;obtain ⟨idv,hidv⟩:∃ idv,m.n.id=idv:=⟨_,rfl⟩;rw [hidv] at c0;obtain ⟨rt,hrt⟩:∃ rt,m.root=rt:=⟨_,rfl⟩;rw [hrt] at c1;have IDV:=Th hidv;have RT:=Th hrt;clear h hM hne hidv hrt hlf hK
 go_enter func92,ntmps92
 go_wp2_with fail
 refine wp_region_held_drew (S:=fun w'=>Only [] w w') (by kernel_rfl) (Only.refl _ _).drew (fun hH=>?_)
 refine tkA 0 6 (.pointer (some ⟨m.nb,0,none⟩)) hH ?_
 refine tkA 1 7 (.pointer (some ⟨m.nb,0,none⟩)) hH ?_
 refine tkA 2 8 (.pointer (some ⟨m.nb,0,none⟩)) hH ?_
 refine Xaq 3 9 (.int .i64 idv) rfl rfl (by kernel_rfl) (by kernel_rfl) (by kernel_rfl) (fun _ _ _ h=>h) (Or.inl ⟨by rfl,fun w1 hw1=>by have hw2:=hw1.cell c0 (by simp);go_simp⟩) hH ?_
 (try simp only [Act.put,qSa,qSz,qSs])
 refine tkA 4 10 (.pointer (some ⟨m.nb,0,none⟩)) hH ?_
 refine tkA 5 11 (.pointer (some ⟨m.nb,0,none⟩)) hH ?_
 refine tkA 6 12 (.pointer (some ⟨m.nb,1,none⟩)) hH ?_
 refine Xaq 7 13 (.bool rt) rfl rfl (by kernel_rfl) (by kernel_rfl) (by kernel_rfl) (fun _ _ _ h=>h) (Or.inl ⟨by rfl,fun w1 hw1=>by have hw2:=hw1.cell c1 (by simp);go_simp⟩) hH ?_
 (try simp only [Act.put,qSa,qSz,qSs])
 refine tkA 8 14 (.pointer (some ⟨m.nb,0,none⟩)) hH ?_
 refine tkA 9 15 (.pointer (some ⟨m.nb,0,none⟩)) hH ?_
 refine tkA 10 16 (.pointer (some ⟨m.nb,2,none⟩)) hH ?_
 refine Xaq 11 17 (.bool lf) rfl rfl (by kernel_rfl) (by kernel_rfl) (by kernel_rfl) (fun _ _ _ h=>h) (Or.inl ⟨by rfl,fun w1 hw1=>by have hw2:=hw1.cell c2 (by simp);go_simp⟩) hH ?_
 (try simp only [Act.put,qSa,qSz,qSs])
 refine tkA 12 18 (.pointer (some ⟨m.nb,0,none⟩)) hH ?_
 refine tkA 13 19 (.pointer (some ⟨m.nb,0,none⟩)) hH ?_
 refine tkA 14 20 (.pointer (some ⟨m.nb,3,none⟩)) hH ?_
 refine Xaq 15 21 (.slice (some ⟨g,0,none⟩) ne cap) rfl rfl (by kernel_rfl) (by kernel_rfl) (by kernel_rfl) (fun _ _ _ h=>h) (Or.inl ⟨by rfl,fun w1 hw1=>by have hw2:=hw1.cell c3 (by simp);go_simp⟩) hH ?_
 (try simp only [Act.put,qSa,qSz,qSs])
 refine tkA 16 22 (.int .i64 i) hH ?_
 refine tkA 17 23 (.slice (some ⟨g,0,none⟩) i cap) hH ?_
 refine oneA 18 fun K hK=>?_
 go_wp2_with (go_at_call 111;refine (CLA.out _ ((Only.refl _ _).drew)).mono ?_;rintro e w1 ⟨v1,rfl,ho1⟩)
 obtain ⟨a1,k1,rfl⟩:=Xac ho1.own;have hO1:Only [] w w1:=((Only.refl [] w).drew).trans ho1.only (by simp)
 refine hK.out _ _ hO1 ?_
 clear hK K hH
 (try simp only [Act.put,qSa,qSz,qSs])
 refine tkA 19 25 (.agg #[.int .i64 idv,.bool rt,.bool lf,.slice a1 i k1,.slice none 0 0]) hO1 ?_
 have hB1:=Blk.new [.int .i64 idv,.bool rt,.bool lf,.slice a1 i k1,.slice none 0 0] 77 w1;have hO2:Only [] w (w1.alloc (.cells #[.int .i64 idv,.bool rt,.bool lf,.slice a1 i k1,.slice none 0 0] 77)):=hO1.alloc _
 refine oneA 20 fun K hK=>?_
 go_wp2_with fail
 refine hK.out _ _ hO2 ?_
 clear hK K
 (try simp only [Act.put,qSa,qSz,qSs])
 refine tkA 21 4 (.pointer (some ⟨w1.heap.size,0,none⟩)) hO2 ?_
 refine wpAnyH_done (by kernel_rfl) ?_ _;have OW1:=Th ho1;obtain ⟨b1,hb1⟩:∃ b1,w1.heap.size=b1:=⟨_,rfl⟩
 have B1S:Hid (w.heap.size≤b1):=by show _≤_;rw [←hb1];exact hO1.size
 obtain ⟨w2,hw2⟩:∃ w2,w1.alloc (.cells #[.int .i64 idv,.bool rt,.bool lf,.slice a1 i k1,.slice none 0 0] 77)=w2:=⟨_,rfl⟩
 have OWN1:Hid (w2.ownsRow 0 43 2 (.slice a1 i k1) i (kvsC (m.L.take i))):=by show World.ownsRow _ _ _ _ _ _ _;rw [←hw2];exact Xad ho1.own ((Only.refl _ _).alloc _)
 have NEW1:Hid (∀ k,(Value.slice a1 i k1).ownBlock=some k→w.heap.size≤k∧k<b1):=fun k hk=>⟨ho1.new k hk,by rw [←hb1];exact Xbk ho1.own hk⟩
 rw [hb1] at hB1
 have hB1':Blk w2 b1 [.int .i64 idv,.bool rt,.bool lf,.slice a1 i k1,.slice none 0 0] 77:=by rw [←hw2];exact hB1
 have hO2':Only [] w w2:=by rw [←hw2];exact hO2
 have SZ2:Hid (b1<w2.heap.size):=hB1'.lt;rw [hw2,hb1];have B1:=Th hB1';have O2:=Th hO2';clear hB1 hO2 hB1' hO2' hw2 hb1 ho1 hO1 c0 c1;cases lf
 ·obtain ⟨cg,cc,hcv,hcc,hclc,hcld⟩:=CCH.out LF.out
  have CLC:=Th hclc;have CLD:=Th hcld;rw [hcv] at c4;have d2:=O2.out.cell c2 (by simp);have BR:Hid (Blk (w2.alloc (.cells #[.int .i64 0,.bool false,.bool false,.slice none 0 0,.slice none 0 0] 77)) w2.heap.size [.int .i64 0,.bool false,.bool false,.slice none 0 0,.slice none 0 0] 77):=Blk.new [.int .i64 0,.bool false,.bool false,.slice none 0 0,.slice none 0 0] 77 w2;have O3:Hid (Only [] w2 (w2.alloc (.cells #[.int .i64 0,.bool false,.bool false,.slice none 0 0,.slice none 0 0] 77))):=(Only.refl _ _).alloc _;have O3w:Hid (Only [] w (w2.alloc (.cells #[.int .i64 0,.bool false,.bool false,.slice none 0 0,.slice none 0 0] 77))):=O2.out.trans O3.out (by simp)
  have d4':=O3w.out.cell c4 (by simp);have d2':=O3w.out.cell c2 (by simp)
  have hj1:(i:Int)+1≤(ne:Int)+1:=by omega
  have hj2:(i:Int)+1≤cc:=by omega
  have hj3:(0:Int)≤(i:Int)+1:=by omega
  have hj4:i+1≤cc:=by omega
  clear hcv hclc hcld c2 CCH
  go_upto_region 7 with (go_at_call 112;refine (CLC.out _ _ O3w.out).mono ?_;rintro e w4 ⟨v2,rfl,ho2⟩;obtain ⟨a2,k2,rfl⟩:=Xac ho2.own;have OW2:=Th ho2;have B14:=Th ((O3.out.trans ho2.only (by simp)).blk B1.out (by simp));have e3:=B14.out.cell 4;have f3:=B14.out.frozen 4;simp only [Zd,Zb] at e3;clear ho2)
  obtain ⟨w5,hw5⟩:∃ w5,w4.setCell ⟨b1,4,none⟩ (.slice a2 (i+1) k2)=w5:=⟨_,rfl⟩;have hO24:Only [] w2 w4:=O3.out.trans OW2.out.only (by simp)
  have hO45:Only [b1] w4 w5:=by rw [←hw5];exact Xbe _ _ _ _
  have O5:Hid (Only [] w w5):=(O2.out.trans hO24 (by simp)).trans hO45 (fun x hx=>by simp at hx;subst hx;exact .inr B1S.out)
  have B15:Hid (Blk w5 b1 [.int .i64 idv,.bool rt,.bool false,.slice a1 i k1,.slice a2 (i+1) k2] 77):=by show Blk _ _ _ _;rw [←hw5];exact B14.out.set 4 _
  have BR5:Hid (Blk w5 w2.heap.size [.int .i64 0,.bool false,.bool false,.slice none 0 0,.slice none 0 0] 77):=hO45.blk (OW2.out.only.blk BR.out (by simp)) (by simp;have:=SZ2.out;omega);have E15:Hid (w5.ownsRow 0 43 2 (.slice a1 i k1) i (kvsC (m.L.take i))):=Xab (Xad OWN1.out hO24) hO45 (fun k hk hm=>by simp at hm;have:=NEW1.out k hk;omega)
  have hnc:∀ k,(Value.slice a2 (i+1) k2).ownBlock=some k→w2.heap.size<k:=fun k hk=>by
   have h1':=OW2.out.new k hk;have h2':w2.heap.size<(w2.alloc (.cells #[.int .i64 0,.bool false,.bool false,.slice none 0 0,.slice none 0 0] 77)).heap.size:=BR.out.lt;omega
  have C15:Hid (w5.ownsRow 0 3 1 (.slice a2 (i+1) k2) (i+1) (intsC (m.n.cs.take (i+1)))):=Xab OW2.out.own hO45 (fun k hk hm=>by simp at hm;have:=hnc k hk;have:=SZ2.out;omega);have BBN:Hid (w.heap.size≤w2.heap.size):=O2.out.size
  have FIN:Hid (∀ w7 vP vI,Only [] w5 w7→w7.ownsRow 0 43 2 vP (ne-(i+1)) (kvsC (m.L.drop (i+1)))→w7.ownsRow 0 3 1 vI (ne-i) (intsC (m.n.cs.drop (i+1)))→(∀ k,vP.ownBlock=some k→w5.heap.size≤k)→(∀ k,vI.ownBlock=some k→w5.heap.size≤k) →
    CutRes w M m i ⟨b1,rt,⟨idv,false,(m.L.take i).map (·.2),m.n.cs.take (i+1)⟩,.slice a1 i k1,.slice a2 (i+1) k2,m.L.take i⟩ ⟨w2.heap.size,false,⟨0,false,(m.L.drop (i+1)).map (·.2),m.n.cs.drop (i+1)⟩,vP,vI,m.L.drop (i+1)⟩ ((w7.setCell ⟨w2.heap.size,3,none⟩ vP).setCell ⟨w2.heap.size,4,none⟩ vI)):=by
   intro w7 vP vI h57 hP hI hnP hnI
   have hcl:m.n.cs.length=ne+1:=by have h9:=KK.out;rw [LF.out,NE.out] at h9;exact h9
   have hS:Only [w2.heap.size] w7 ((w7.setCell ⟨w2.heap.size,3,none⟩ vP).setCell ⟨w2.heap.size,4,none⟩ vI):=(Xbe w7 w2.heap.size 3 vP).trans (Xbe _ _ _ _) (fun x hx=>.inl hx);have hO9:Only [] w ((w7.setCell ⟨w2.heap.size,3,none⟩ vP).setCell ⟨w2.heap.size,4,none⟩ vI):=(O5.out.trans h57 (by simp)).trans hS (fun x hx=>by simp at hx;subst hx;exact .inr BBN.out)
   have hs5:w2.heap.size<w5.heap.size:=BR5.out.lt
   have hne12:b1≠w2.heap.size:=by have:=SZ2.out;omega
   have hb2:Blk ((w7.setCell ⟨w2.heap.size,3,none⟩ vP).setCell ⟨w2.heap.size,4,none⟩ vI) w2.heap.size [.int .i64 0,.bool false,.bool false,vP,vI] 77:=((h57.blk BR5.out (by simp)).set 3 vP).set 4 vI;have hb1:=hS.blk (h57.blk B15.out (by simp)) (by simp;exact hne12)
   have hl1:(m.L.take i).length=i:=by rw [Zj,LEN.out];omega
   have hl2:(m.L.drop (i+1)).length=ne-(i+1):=by rw [Zy,LEN.out]
   have hc1:(m.n.cs.take (i+1)).length=i+1:=by rw [Zj,hcl];omega
   have hc2:(m.n.cs.drop (i+1)).length=ne-i:=by rw [Zy,hcl];omega
   have hv1:=Xab (Xad E15.out h57) hS (fun k hk hm=>by simp at hm;have:=NEW1.out k hk;have:=SZ2.out;omega);have hv2:=Xab hP hS (fun k hk hm=>by simp at hm;have:=hnP k hk;omega)
   have hw1:=Xab (Xad C15.out h57) hS (fun k hk hm=>by simp at hm;have:=hnc k hk;omega);have hw2:=Xab hI hS (fun k hk hm=>by simp at hm;have:=hnI k hk;omega)
   obtain ⟨n1,n1b⟩:=Xjc (L:=m.L.take i) (C:=m.n.cs.take (i+1)) HN.out hO9 hb1 (fun p hp=>Yn hp) (by rw [hl1];exact hv1) (by rw [hc1];exact hw1) HM.out B1S.out (fun k hk=>(NEW1.out k hk).1) (fun k hk=>by have:=hnc k hk;have:=BBN.out;omega);obtain ⟨n2,n2b⟩:=Xjc (L:=m.L.drop (i+1)) (C:=m.n.cs.drop (i+1)) HN.out hO9 hb2 (fun p hp=>Ys hp) (by rw [hl2];exact hv2) (by rw [hc2];exact hw2) HM.out BBN.out (fun k hk=>by have:=hnP k hk;have:=O5.out.size;omega) (fun k hk=>by have:=hnI k hk;have:=O5.out.size;omega)
   refine ⟨hO9,n1,n2,n1b,n2b,fun y hy hy2=>?_,RT.out.symm,rfl,?_,?_⟩
   ·have hlt:y<w5.heap.size∧y≠w2.heap.size:=by
     simp only [MNd.blocks,Zg,Za,Zk] at hy
     rcases hy with rfl | hy | hy
     ·exact ⟨B15.out.lt,hne12⟩
     ·exact ⟨Xbk E15.out hy,by have:=NEW1.out _ hy;have:=SZ2.out;omega⟩
     ·exact ⟨Xbk C15.out hy,by have:=hnc _ hy;omega⟩
    simp only [MNd.blocks,Zg,Za,Zk] at hy2
    rcases hy2 with hy2 | hy2 | hy2
    ·exact hlt.2 hy2
    ·have:=hnP _ hy2;omega
    ·have:=hnI _ hy2;omega
   ·rw [Xx,HN.out.es,IDV.out,LF.out];rfl
   ·rw [Wk,HN.out.es,LF.out];rfl
  have IW:Hid (IntKind.i64.wrap ((i:Int)+1)=(i:Int)+1):=by show _=_;rw [Yi];omega
  obtain ⟨oo,hoo⟩:∃ oo,oo=if cap=i+1 then 0 else (i+1)*2:=⟨_,rfl⟩
  have OO:=Th hoo
  have OA:Hid ((⟨g,oo,none⟩:Addr)=⟨g,(i+1)*2,none⟩∨ne=i+1):=by
   show _∨_
   by_cases hc:cap=i+1
   ·right;omega
   ·left;rw [hoo,if_neg hc]
  have hk1:(i:Int)+1≤ne:=by omega
  have hk2:(i:Int)+1≤cap:=by omega
  have hk3:¬((i:Int)+1<0):=by omega
  have hk4:¬cc=i+1:=by omega
  have hk5:i+1≤ne:=by omega
  rw [hw5];clear hw5 hnc hoo hO24 hO45 d2 d4' d2' e3 f3;refine wp_region_held_drew (S:=fun w'=>Only [] w w') (by kernel_rfl) O5.out.drew (fun hH=>?_)
  refine tkA 0 60 (.pointer (some ⟨w2.heap.size,0,none⟩)) hH ?_
  refine tkA 1 61 (.pointer (some ⟨w2.heap.size,0,none⟩)) hH ?_
  refine tkA 2 62 (.pointer (some ⟨m.nb,0,none⟩)) hH ?_
  refine tkA 3 63 (.pointer (some ⟨m.nb,0,none⟩)) hH ?_
  refine tkA 4 64 (.pointer (some ⟨m.nb,3,none⟩)) hH ?_
  refine Xaq 5 65 (.slice (some ⟨g,0,none⟩) ne cap) rfl rfl (by kernel_rfl) (by kernel_rfl) (by kernel_rfl) (fun _ _ _ h=>h) (Or.inl ⟨by rfl,fun w1 hw1=>by have hw2:=hw1.cell c3 (by simp);go_simp⟩) hH ?_
  (try simp only [Act.put,qSa,qSz,qSs])
  refine tkA 6 66 (.int .i64 i) hH ?_
  refine Xaq 7 67 (.int .i64 ((i:Int)+1)) rfl rfl (by kernel_rfl) (by kernel_rfl) (by kernel_rfl) (fun _ _ _ h=>h) (Or.inl ⟨by rfl,fun w1 hw1=>by go_simp;exact IW.out⟩) hH ?_
  (try simp only [Act.put,qSa,qSz,qSs])
  refine Xaq 8 68 (.slice (some ⟨g,oo,none⟩) (ne-(i+1)) (cap-(i+1))) rfl rfl (by kernel_rfl) (by kernel_rfl) (by kernel_rfl) (fun _ _ _ h=>h) (Or.inl ⟨by rfl,fun w1 hw1=>by have hO:=OO.out;by_cases h0:cap=i+1 <;> first | (rw [if_pos h0] at hO;rw [hO];go_simp;done) | (rw [if_neg h0] at hO;rw [hO];go_simp;done)⟩) hH ?_
  (try simp only [Act.put,qSa,qSz,qSs])
  refine tkA 10 70 (.pointer (some ⟨m.nb,0,none⟩)) hH ?_
  refine tkA 11 71 (.pointer (some ⟨m.nb,0,none⟩)) hH ?_
  refine tkA 12 72 (.pointer (some ⟨m.nb,4,none⟩)) hH ?_
  refine Xaq 13 73 (.slice (some ⟨cg,0,none⟩) (ne+1) cc) rfl rfl (by kernel_rfl) (by kernel_rfl) (by kernel_rfl) (fun _ _ _ h=>h) (Or.inl ⟨by rfl,fun w1 hw1=>by have hw2:=hw1.cell c4 (by simp);go_simp⟩) hH ?_
  (try simp only [Act.put,qSa,qSz,qSs])
  refine tkA 14 74 (.int .i64 i) hH ?_
  refine Xaq 15 75 (.int .i64 ((i:Int)+1)) rfl rfl (by kernel_rfl) (by kernel_rfl) (by kernel_rfl) (fun _ _ _ h=>h) (Or.inl ⟨by rfl,fun w1 hw1=>by go_simp;exact IW.out⟩) hH ?_
  (try simp only [Act.put,qSa,qSz,qSs])
  refine tkA 16 76 (.slice (some ⟨cg,i+1,none⟩) (ne-i) (cc-(i+1))) hH ?_
  clear hH
  refine oneA 9 fun K hK=>?_
  go_wp2_with (go_at_call 111;refine (CLE.out _ _ _ OA.out O5.out.drew).mono ?_;rintro e w6 ⟨vP,rfl,hoP⟩)
  obtain ⟨aP,kP,rfl⟩:=Xac hoP.own;have h6:Only [] w w6:=(O5.out.drew).trans hoP.only (by simp)
  refine hK.out _ _ h6 ?_
  clear hK K
  (try simp only [Act.put,qSa,qSz,qSs])
  refine oneA 17 fun K hK=>?_
  go_wp2_with (go_at_call 112;refine (CLD.out _ _ h6).mono ?_;rintro e w7 ⟨vI,rfl,hoI⟩)
  obtain ⟨aI,kI,rfl⟩:=Xac hoI.own;have h7:Only [] w w7:=(h6).trans hoI.only (by simp)
  refine hK.out _ _ h7 ?_
  clear hK K
  (try simp only [Act.put,qSa,qSz,qSs])
  have hP7:=Xad hoP.own hoI.only;have hI7:=hoI.own;have h57:Only [] w5 w7:=(((Only.refl [] w5).drew).trans hoP.only (by simp)).trans hoI.only (by simp)
  have hnP:∀ k,(Value.slice aP (ne-(i+1)) kP).ownBlock=some k→w5.heap.size≤k:=fun k hk=>hoP.new k hk
  have hnI:∀ k,(Value.slice aI (ne-i) kI).ownBlock=some k→w5.heap.size≤k:=fun k hk=>Zp (((Only.refl [] w5).drew).trans hoP.only (by simp)).size (hoI.new k hk)
  have FF:=Th (FIN.out w7 _ _ h57 hP7 hI7 hnP hnI);have BU:=h57.blk BR5.out (by simp);have u3:=BU.cell 3;have uf3:=BU.frozen 3;simp only [Zd,Zb] at u3;have BV:=BU.set 3 (.slice aP (ne-(i+1)) kP);have u4:=BV.cell 4;have uf4:=BV.frozen 4;have h8:Only [] w (w7.setCell ⟨w2.heap.size,3,none⟩ (.slice aP (ne-(i+1)) kP)):=h7.setCell (.inr BBN.out) _;have h9:Only [] w ((w7.setCell ⟨w2.heap.size,3,none⟩ (.slice aP (ne-(i+1)) kP)).setCell ⟨w2.heap.size,4,none⟩ (.slice aI (ne-i) kI)):=h8.setCell (.inr BBN.out) _;clear hoP hoI hP7 hI7 hnP hnI BU BV
  refine tkA 18 78 (.pointer (some ⟨w2.heap.size,0,none⟩)) h7 ?_
  refine tkA 19 79 (.pointer (some ⟨w2.heap.size,3,none⟩)) h7 ?_
  refine oneA 20 fun K hK=>?_
  go_wp2_with fail
  refine hK.out _ _ h8 ?_
  clear hK K
  (try simp only [Act.put,qSa,qSz,qSs])
  refine tkA 21 80 (.pointer (some ⟨w2.heap.size,0,none⟩)) h8 ?_
  refine tkA 22 81 (.pointer (some ⟨w2.heap.size,4,none⟩)) h8 ?_
  refine oneA 23 fun K hK=>?_
  go_wp2_with fail
  refine hK.out _ _ h9 ?_
  clear hK K
  (try simp only [Act.put,qSa,qSz,qSs])
  refine wpAnyH_done (by kernel_rfl) ?_ _;clear u3 uf3 u4 uf4
  go_wp2_with fail
  go_ret2;exact ⟨_,_,rfl,FF.out⟩
 ·have hc0:m.n.cs=[]:=Xd (by have h:=KK.out;rw [LF.out] at h;exact h)
  have HCS:=Th hc0;have d2:=O2.out.cell c2 (by simp);have d3:=O2.out.cell c3 (by simp);have BR:Hid (Blk (w2.alloc (.cells #[.int .i64 0,.bool false,.bool true,.slice none 0 0,.slice none 0 0] 77)) w2.heap.size [.int .i64 0,.bool false,.bool true,.slice none 0 0,.slice none 0 0] 77):=Blk.new [.int .i64 0,.bool false,.bool true,.slice none 0 0,.slice none 0 0] 77 w2;have O3:Hid (Only [] w2 (w2.alloc (.cells #[.int .i64 0,.bool false,.bool true,.slice none 0 0,.slice none 0 0] 77))):=(Only.refl _ _).alloc _;have O3w:Hid (Only [] w (w2.alloc (.cells #[.int .i64 0,.bool false,.bool true,.slice none 0 0,.slice none 0 0] 77))):=O2.out.trans O3.out (by simp)
  have d3':=O3w.out.cell c3 (by simp);have d2':=O3w.out.cell c2 (by simp);clear c2 c3 hc0
  go_wp2_with (go_at_call 111;refine (CLB.out _ _ O3w.out).mono ?_;rintro e w4 ⟨v2,rfl,ho2⟩;obtain ⟨a2,k2,rfl⟩:=Xac ho2.own;have OW2:=Th ho2;have BR4:=Th (ho2.only.blk BR.out (by simp));have e3:=BR4.out.cell 3;have f3:=BR4.out.frozen 3;simp only [Zd,Zb] at e3;clear ho2)
  go_ret2;have hO4:Only [] w w4:=O3w.out.trans OW2.out.only (by simp);have hO5:Only [] w (w4.setCell ⟨w2.heap.size,3,none⟩ (.slice a2 (ne-i) k2)):=hO4.setCell (.inr (by have:=O2.out.size;show w.heap.size≤w2.heap.size;omega)) _
  have hO45:Only [w2.heap.size] w4 (w4.setCell ⟨w2.heap.size,3,none⟩ (.slice a2 (ne-i) k2)):=Xbe _ _ _ _;have hb2:=BR4.out.set 3 (.slice a2 (ne-i) k2);have hO24:Only [] w2 w4:=O3.out.trans OW2.out.only (by simp);have hb1:Blk (w4.setCell ⟨w2.heap.size,3,none⟩ (.slice a2 (ne-i) k2)) b1 [.int .i64 idv,.bool rt,.bool true,.slice a1 i k1,.slice none 0 0] 77:=hO45.blk (hO24.blk B1.out (by simp)) (by simp;have:=SZ2.out;omega)
  have hl1:(m.L.take i).length=i:=by rw [Zj,LEN.out];omega
  have hl2:(m.L.drop i).length=ne-i:=by rw [Zy,LEN.out]
  have hv1:(w4.setCell ⟨w2.heap.size,3,none⟩ (.slice a2 (ne-i) k2)).ownsRow 0 43 2 (.slice a1 i k1) (m.L.take i).length (kvsC (m.L.take i)):=by
   rw [hl1];exact Xab (Xad OWN1.out hO24) hO45 (fun k hk hm=>by simp at hm;have:=NEW1.out k hk;have:=SZ2.out;omega)
  have hv2:(w4.setCell ⟨w2.heap.size,3,none⟩ (.slice a2 (ne-i) k2)).ownsRow 0 43 2 (.slice a2 (ne-i) k2) (m.L.drop i).length (kvsC (m.L.drop i)):=by
   rw [hl2]
   exact Xab OW2.out.own hO45 (fun k hk hm=>by
    simp at hm;subst hm
    exact Xaj OW2.out.own BR4.out (by decide) hk)
  have hnil:(w4.setCell ⟨w2.heap.size,3,none⟩ (.slice a2 (ne-i) k2)).ownsRow 0 3 1 (.slice none 0 0) ([]:List Int).length (intsC []):=⟨rfl,.inl ⟨rfl,rfl⟩⟩;obtain ⟨n1,n1b⟩:=Xjc HN.out hO5 hb1 (fun p hp=>Yn hp) hv1 hnil HM.out B1S.out (fun k hk=>(NEW1.out k hk).1) (fun k hk=>by simp [Value.ownBlock] at hk);obtain ⟨n2,n2b⟩:=Xjc HN.out hO5 hb2 (fun p hp=>Ys hp) hv2 hnil HM.out (by have:=O2.out.size;omega) (fun k hk=>by have:=OW2.out.new k hk;have:=O3w.out.size;omega) (fun k hk=>by simp [Value.ownBlock] at hk)
  refine ⟨_,_,rfl,hO5,n1,n2,n1b,n2b,fun y hy hy2=>?_,RT.out.symm,rfl,?_,?_⟩
  ·simp only [MNd.blocks,Zg,Za,Zk,Value.ownBlock,Option.toList_none,Xt,or_false] at hy hy2
   have hs:=SZ2.out;have hs3:w2.heap.size<(w2.alloc (.cells #[.int .i64 0,.bool false,.bool true,.slice none 0 0,.slice none 0 0] 77)).heap.size:=BR.out.lt
   rcases hy with rfl | hy
   ·rcases hy2 with hy2 | hy2
    ·omega
    ·have:=OW2.out.new _ hy2;omega
   ·have h9:=NEW1.out _ hy
    rcases hy2 with hy2 | hy2
    ·omega
    ·have:=OW2.out.new _ hy2;omega
  ·rw [Xx,HN.out.es,IDV.out,LF.out,HCS.out];rfl
  ·rw [Wk,HN.out.es,LF.out,HCS.out];rfl
end T
namespace T
open Go Go.RowKit D B C G P H Tryz
theorem apart_any {w:World} {M:List Nat} {m:MNd} (h:NodeAt w M m) (hM:∀ x∈M,x<w.heap.size) (hK:m.n.cs.length=if m.n.leaf then 0 else m.n.es.length+1) (hk:Keys m.n.es) (hlen:m.n.es.length≤1000000) (h1:1≤m.n.es.length) :
    Calls prog 91 #[.pointer (some ⟨m.nb,0,none⟩)] w fun e w'=>e=.returned (.int .i64 (Xgp m.n.leaf m.n.es:Nat))∧Only [] w w':=by
  have c3:=h.blk.cell 3;simp only [Zd,Zb] at c3;obtain ⟨ao,cap,hev,hcap,_⟩:=h.row;rw [hev] at c3;obtain ⟨R,hR⟩:∃ R,Xgp m.n.leaf m.n.es=R:=⟨_,rfl⟩;have HR:Hid (Xda m.n.leaf m.n.es (m.n.es.length-1) 1 0 (-1) 1=R):=hR
  have CUT:Hid (∀ w1 i,Only [] w w1→1≤i→i<m.n.es.length→Calls prog 92 #[.pointer (some ⟨m.nb,0,none⟩),.int .i64 i] w1 fun e w'=>∃ b1 b2,e=.returned (.tuple #[.pointer (some ⟨b1,0,none⟩),.pointer (some ⟨b2,0,none⟩)])∧Only [] w1 w' ∧
      Calls prog 35 #[.pointer (some ⟨b1,0,none⟩)] w' (fun e w2=>e=.returned (.bool (fitsP m.n.leaf (m.n.es.take i)))∧w'=w2)∧Calls prog 35 #[.pointer (some ⟨b2,0,none⟩)] w' (fun e w2=>e=.returned (.bool (fitsP m.n.leaf (restE m.n.leaf i m.n.es)))∧w'=w2) ∧
      Calls prog 62 #[.pointer (some ⟨b1,0,none⟩)] w' (fun e w2=>e=.returned (.int .i64 (sizeP m.n.leaf (m.n.es.take i):Nat))∧w'=w2)∧Calls prog 62 #[.pointer (some ⟨b2,0,none⟩)] w' (fun e w2=>e=.returned (.int .i64 (sizeP m.n.leaf (restE m.n.leaf i m.n.es):Nat))∧w'=w2)):=by
    intro w1 i hO h2 h3
    refine (cut_any (h.past hO) (fun x hx=>Ye (hM x hx) hO.size) hK h2 h3 hlen).mono ?_
    rintro e w' ⟨m1,m2,rfl,hC⟩
    have k1:Keys (m.n.es.take i):=hk.sub fun e he=>Yn he
    have k2:Keys (restE m.n.leaf i m.n.es):=hk.rest i
    have l1:(m.n.es.take i).length≤1000000:=by rw [Zj];omega
    have l2:(restE m.n.leaf i m.n.es).length≤1000000:=by have:=Xdj (leaf:=m.n.leaf) h2 h3;omega
    have f1:=Xdr hC.at1 (by rw [hC.n1];exact k1) (by rw [hC.n1];exact l1);have f2:=Xdr hC.at2 (by rw [hC.n2];exact k2) (by rw [hC.n2];exact l2)
    have s1:=Xnp hC.at1 (by rw [hC.n1];exact k1) (by rw [hC.n1];exact l1);have s2:=Xnp hC.at2 (by rw [hC.n2];exact k2) (by rw [hC.n2];exact l2)
    rw [hC.n1] at f1 s1;rw [hC.n2] at f2 s2;exact ⟨m1.nb,m2.nb,rfl,hC.only,f1,f2,s1,s2⟩
  have SB:Hid (∀ i,sizeP m.n.leaf (m.n.es.take i)≤400000000∧sizeP m.n.leaf (restE m.n.leaf i m.n.es)≤400000000):=fun i=>by
    have h1:=Xnq (leaf:=m.n.leaf) (hk.sub fun e he=>Yn he:Keys (m.n.es.take i));have h2:=Xnq (leaf:=m.n.leaf) (hk.rest (leaf:=m.n.leaf) i);rw [Zj] at h1
    have h3:(restE m.n.leaf i m.n.es).length≤m.n.es.length:=by unfold restE;split <;> rw [Zy] <;> omega
    omega
  have STEP:Hid (∀ i k best off last,Xda m.n.leaf m.n.es (k+1) i best off last=if fitsP m.n.leaf (m.n.es.take i) then
      (if Xhx m.n.leaf m.n.es i off then Xda m.n.leaf m.n.es k (i+1) i (distP (sizeP m.n.leaf (m.n.es.take i)) (sizeP m.n.leaf (restE m.n.leaf i m.n.es))) i
       else Xda m.n.leaf m.n.es k (i+1) best off i) else if off<0 then last else best):=fun i k best off last=>rfl
  have LAST:Hid (∀ i best off last,Xda m.n.leaf m.n.es 0 i best off last=if off<0 then last else best):=fun i best off last=>rfl
  have BET:Hid (∀ i off,Xhx m.n.leaf m.n.es i off=(fitsP m.n.leaf (restE m.n.leaf i m.n.es) && (decide (off<0) || decide (distP (sizeP m.n.leaf (m.n.es.take i)) (sizeP m.n.leaf (restE m.n.leaf i m.n.es))<off)))):=fun i off=>rfl
  rw [hR];clear h hM hK hk hev hR;generalize m.n.es=E at *;generalize m.n.leaf=lf at *;obtain ⟨ne,hne⟩:∃ ne,E.length=ne:=⟨_,rfl⟩;rw [hne] at c3 HR CUT hcap hlen h1;clear hne
  go_enter func91,ntmps91
  go_wp2_with fail
  go_loopg [3,4,5,6] (ne-1) (fun gk s3 s4 s5 s6 wr=>∃ (i best last:Nat) (off:Int),gk=ne-i∧1≤i∧i≤ne∧s6=.int .i64 i∧s3=.int .i64 best∧s4=.int .i64 off∧s5=.int .i64 last ∧ -1≤off∧off≤400000000∧Xda lf E (ne-i) i best off last=R∧Only [] w wr)
  case atStart=>exact ⟨1,0,1,-1,rfl,Zq _,h1,rfl,rfl,rfl,rfl,by omega,by omega,HR.out,Only.refl _ _⟩
  case round =>
    obtain ⟨i,best,last,off,hgk,hi1,hi2,rfl,rfl,rfl,rfl,ho1,ho2,hgo,hO⟩:=hrel;have HGK:=Th hgk;have GO:=Th hgo;have OO:=Th hO;have e3:=hO.cell c3 (by simp);clear hgk hgo hO
    have hi0:(0:Int)≤i:=by omega
    by_cases hlt:i<ne
    · have hlt':(i:Int)<ne:=by omega
      obtain ⟨k,hk⟩:∃ k,ne-i=k+1:=⟨ne-i-1,by omega⟩
      have GO2:Hid (Xda lf E (k+1) i best off last=R):=by have h:=GO.out;rw [hk] at h;exact h
      have KE:Hid (ne-(i+1)=k):=by show _=_;omega
      have CU:=Th (CUT.out _ i OO.out hi1 hlt);have hsb:=SB.out i;have ST:=Th (STEP.out i k best off last);have BT:=Th (BET.out i off);clear hk;generalize sizeP lf (E.take i)=s1 at *;generalize sizeP lf (restE lf i E)=s2 at *;generalize fitsP lf (E.take i)=f1 at *;generalize fitsP lf (restE lf i E)=f2 at *;generalize Xhx lf E i off=bt at *;obtain ⟨dd,hdd⟩:∃ dd,distP s1 s2=dd:=⟨_,rfl⟩
      have DD:Hid (max (s1:Int) (s2:Int)-min (s1:Int) (s2:Int)=dd):=by show _=_;rw [←hdd];unfold distP;omega
      have hdd1:0≤dd∧dd≤400000000:=by rw [←hdd];unfold distP;omega
      rw [hdd] at ST BT;clear hdd;cases f1
      · have hRR:(if off<0 then last else best)=R:=by rw [←GO2.out,ST.out];rfl
        by_cases hoff:off<0
        · rw [if_pos hoff] at hRR
          subst hRR
          go_wp2_with (first
            | (go_at_call 92;refine CU.out.mono ?_;rintro e w2 ⟨b1,b2,rfl,hO2,hf1,hf2,hs1,hs2⟩;have F1:=Th hf1;have O2:=Th hO2;clear hf1 hf2 hs1 hs2 hO2)
            | (go_at_call 35;refine F1.out.mono ?_;rintro e w3 ⟨rfl,rfl⟩))
          go_ret;exact ⟨rfl,OO.out.trans O2.out (by simp)⟩
        · rw [if_neg hoff] at hRR
          subst hRR
          go_wp2_with (first
            | (go_at_call 92;refine CU.out.mono ?_;rintro e w2 ⟨b1,b2,rfl,hO2,hf1,hf2,hs1,hs2⟩;have F1:=Th hf1;have O2:=Th hO2;clear hf1 hf2 hs1 hs2 hO2)
            | (go_at_call 35;refine F1.out.mono ?_;rintro e w3 ⟨rfl,rfl⟩))
          go_ret;exact ⟨rfl,OO.out.trans O2.out (by simp)⟩
      · cases f2
        · have BB:Hid (bt=false):=by show _=_;rw [BT.out];rfl
          have hb:=BB.out;subst hb
          go_wp2_with (first
            | (go_at_call 92;refine CU.out.mono ?_;rintro e w2 ⟨b1,b2,rfl,hO2,hf1,hf2,hs1,hs2⟩;have F1:=Th hf1;have F2:=Th hf2;have S1:=Th hs1;have S2:=Th hs2;have O2:=Th hO2;clear hf1 hf2 hs1 hs2 hO2)
            | (go_at_call_of 35 (Value.pointer (some ⟨b1,0,none⟩));refine F1.out.mono ?_;rintro e w3 ⟨rfl,rfl⟩)
            | (go_at_call_of 35 (Value.pointer (some ⟨b2,0,none⟩));refine F2.out.mono ?_;rintro e w3 ⟨rfl,rfl⟩)
            | (go_at_call_of 62 (Value.pointer (some ⟨b1,0,none⟩));refine S1.out.mono ?_;rintro e w3 ⟨rfl,rfl⟩)
            | (go_at_call_of 62 (Value.pointer (some ⟨b2,0,none⟩));refine S2.out.mono ?_;rintro e w3 ⟨rfl,rfl⟩))
          go_roundg (ne-(i+1))
          case measure=>have:=HGK.out;omega
          case rel=>exact ⟨i+1,best,i,off,rfl,by omega,by omega,by go_num,rfl,rfl,rfl,by omega,by omega,by rw [KE.out,←GO2.out,ST.out];rfl,OO.out.trans O2.out (by simp)⟩
        · by_cases hoff:off<0
          · have BB:Hid (bt=true):=by show _=_;rw [BT.out,decide_eq_true hoff];rfl
            have hb:=BB.out;subst hb
            go_wp2_with (first
              | (go_at_call 92;refine CU.out.mono ?_;rintro e w2 ⟨b1,b2,rfl,hO2,hf1,hf2,hs1,hs2⟩;have F1:=Th hf1;have F2:=Th hf2;have S1:=Th hs1;have S2:=Th hs2;have O2:=Th hO2;clear hf1 hf2 hs1 hs2 hO2)
              | (go_at_call_of 35 (Value.pointer (some ⟨b1,0,none⟩));refine F1.out.mono ?_;rintro e w3 ⟨rfl,rfl⟩)
              | (go_at_call_of 35 (Value.pointer (some ⟨b2,0,none⟩));refine F2.out.mono ?_;rintro e w3 ⟨rfl,rfl⟩)
              | (go_at_call_of 62 (Value.pointer (some ⟨b1,0,none⟩));refine S1.out.mono ?_;rintro e w3 ⟨rfl,rfl⟩)
              | (go_at_call_of 62 (Value.pointer (some ⟨b2,0,none⟩));refine S2.out.mono ?_;rintro e w3 ⟨rfl,rfl⟩))
            go_roundg (ne-(i+1))
            case measure=>have:=HGK.out;omega
            case rel=>exact ⟨i+1,i,i,dd,rfl,by omega,by omega,by go_num,rfl,by rw [←DD.out],rfl,by omega,by omega,by rw [KE.out,←GO2.out,ST.out];rfl,OO.out.trans O2.out (by simp)⟩
          · by_cases hdl:dd<off
            · have BB:Hid (bt=true):=by show _=_;rw [BT.out,decide_eq_true hdl];simp
              have hb:=BB.out;subst hb
              have hdl2:max (s1:Int) (s2:Int)-min (s1:Int) (s2:Int)<off:=by rw [DD.out];exact hdl
              go_wp2_with (first
                | (go_at_call 92;refine CU.out.mono ?_;rintro e w2 ⟨b1,b2,rfl,hO2,hf1,hf2,hs1,hs2⟩;have F1:=Th hf1;have F2:=Th hf2;have S1:=Th hs1;have S2:=Th hs2;have O2:=Th hO2;clear hf1 hf2 hs1 hs2 hO2)
                | (go_at_call_of 35 (Value.pointer (some ⟨b1,0,none⟩));refine F1.out.mono ?_;rintro e w3 ⟨rfl,rfl⟩)
                | (go_at_call_of 35 (Value.pointer (some ⟨b2,0,none⟩));refine F2.out.mono ?_;rintro e w3 ⟨rfl,rfl⟩)
                | (go_at_call_of 62 (Value.pointer (some ⟨b1,0,none⟩));refine S1.out.mono ?_;rintro e w3 ⟨rfl,rfl⟩)
                | (go_at_call_of 62 (Value.pointer (some ⟨b2,0,none⟩));refine S2.out.mono ?_;rintro e w3 ⟨rfl,rfl⟩))
              go_roundg (ne-(i+1))
              case measure=>have:=HGK.out;omega
              case rel=>exact ⟨i+1,i,i,dd,rfl,by omega,by omega,by go_num,rfl,by rw [←DD.out],rfl,by omega,by omega,by rw [KE.out,←GO2.out,ST.out];rfl,OO.out.trans O2.out (by simp)⟩
            · have BB:Hid (bt=false):=by show _=_;rw [BT.out,decide_eq_false hoff,decide_eq_false hdl];rfl
              have hb:=BB.out;subst hb
              have hdl2:¬max (s1:Int) (s2:Int)-min (s1:Int) (s2:Int)<off:=by rw [DD.out];exact hdl
              go_wp2_with (first
                | (go_at_call 92;refine CU.out.mono ?_;rintro e w2 ⟨b1,b2,rfl,hO2,hf1,hf2,hs1,hs2⟩;have F1:=Th hf1;have F2:=Th hf2;have S1:=Th hs1;have S2:=Th hs2;have O2:=Th hO2;clear hf1 hf2 hs1 hs2 hO2)
                | (go_at_call_of 35 (Value.pointer (some ⟨b1,0,none⟩));refine F1.out.mono ?_;rintro e w3 ⟨rfl,rfl⟩)
                | (go_at_call_of 35 (Value.pointer (some ⟨b2,0,none⟩));refine F2.out.mono ?_;rintro e w3 ⟨rfl,rfl⟩)
                | (go_at_call_of 62 (Value.pointer (some ⟨b1,0,none⟩));refine S1.out.mono ?_;rintro e w3 ⟨rfl,rfl⟩)
                | (go_at_call_of 62 (Value.pointer (some ⟨b2,0,none⟩));refine S2.out.mono ?_;rintro e w3 ⟨rfl,rfl⟩))
              go_roundg (ne-(i+1))
              case measure=>have:=HGK.out;omega
              case rel=>exact ⟨i+1,best,i,off,rfl,by omega,by omega,by go_num,rfl,rfl,rfl,by omega,by omega,by rw [KE.out,←GO2.out,ST.out];rfl,OO.out.trans O2.out (by simp)⟩
    · obtain rfl:i=ne:=by omega
      have hRR:(if off<0 then last else best)=R:=by have h:=GO.out;rw [Wd,LAST.out] at h;exact h
      have hge:¬(i:Int)<i:=by omega
      by_cases hoff:off<0
      · rw [if_pos hoff] at hRR
        subst hRR
        go_wp2_with fail
        go_ret;exact ⟨rfl,OO.out⟩
      · rw [if_neg hoff] at hRR
        subst hRR
        go_wp2_with fail
        go_ret;exact ⟨rfl,OO.out⟩
end T
namespace T
open Go Go.RowKit D B C G P H Tryz
structure GrowAt (w:World) (M:List Nat) (base gb:Nat) (fv:Value) (F:List MNd):Prop where
 blk:Blk w gb [fv] 89
 row:PtrRow w M base fv F
theorem GrowAt.past {w w':World} {M:List Nat} {base gb:Nat} {fv:Value} {F:List MNd} (h:GrowAt w M base gb fv F) (hO:Only [] w w'):GrowAt w' M base gb fv F:=⟨hO.blk h.blk (by simp),h.row.past hO⟩
def growX (gb:Nat) (fv:Value):List Nat:=gb :: fv.ownBlock.toList
theorem Xcr {w:World} {M:List Nat} {base gb:Nat} {fv:Value} {F:List MNd} (h:GrowAt w M base gb fv F):∀ x∈growX gb fv,∀ cs t,Blk w x cs t→t=89∨t=75:=fun x hx cs t hb=>by
 simp only [growX,Zg,Zk] at hx
 rcases hx with rfl | hx
 ·exact .inl (hb.inj h.blk).2
 ·obtain ⟨cs',hb'⟩:=Xag h.row.own hx
  exact .inr (hb.inj hb').2
def Xhg (nb n:Nat) (leaf:Bool):MNd:=⟨nb,false,⟨-1-(n:Int),leaf,[],[]⟩,.slice none 0 0,.slice none 0 0,[]⟩
theorem Xmr {w:World} {M:List Nat} {nb n:Nat} {leaf:Bool} (h:Blk w nb [.int .i64 (-1-(n:Int)),.bool false,.bool leaf,.slice none 0 0,.slice none 0 0] 77) (hM:nb∉M):NodeAt w M (Xhg nb n leaf) where
 blk:=h
 es:=rfl
 ents:=⟨rfl,.inl ⟨rfl,rfl⟩⟩
 kids:=⟨rfl,.inl ⟨rfl,rfl⟩⟩
 keys:=fun p hp=>by cases hp
 off:=fun x hx=>by simp [MNd.blocks,Xhg,Value.ownBlock] at hx;subst hx;exact hM
theorem adds_any {w:World} {M:List Nat} {base gb:Nat} {fv:Value} {F:List MNd} {leaf:Bool} (h:GrowAt w M base gb fv F) (hM:∀ x∈M,x<w.heap.size) (hb:base≤w.heap.size) (hl:F.length≤1000000) :
  Calls prog 63 #[.pointer (some ⟨gb,0,none⟩),.bool leaf] w fun e w'=>∃ nb fv',e=.returned (.pointer (some ⟨nb,0,none⟩))∧w.heap.size≤nb∧NodeAt w' M (Xhg nb F.length leaf)∧GrowAt w' M base gb fv' (F++[Xhg nb F.length leaf]) ∧
   (∀ k,fv'.ownBlock=some k→fv.ownBlock=some k∨w.heap.size≤k)∧Only (growX gb fv) w w'∧(∀ k,fv'.ownBlock=some k→k≠nb):=by
 have c0:=h.blk.cell 0;simp only [Zb] at c0;obtain ⟨ao,oc,hfv⟩:=Xac h.row.own;subst hfv;have HH:=Th h;have HM:=Th hM;have HB:=Th hb;obtain ⟨nf,hnf⟩:∃ nf,F.length=nf:=⟨_,rfl⟩;have NF:=Th hnf;rw [hnf] at c0 hl;have B1:Hid (Blk (w.alloc (.cells #[.int .i64 (-1-(nf:Int)),.bool false,.bool leaf,.slice none 0 0,.slice none 0 0] 77)) w.heap.size [.int .i64 (-1-(nf:Int)),.bool false,.bool leaf,.slice none 0 0,.slice none 0 0] 77):=Blk.new [.int .i64 (-1-(nf:Int)),.bool false,.bool leaf,.slice none 0 0,.slice none 0 0] 77 w;have O1:Hid (Only [] w (w.alloc (.cells #[.int .i64 (-1-(nf:Int)),.bool false,.bool leaf,.slice none 0 0,.slice none 0 0] 77))):=(Only.refl _ _).alloc _
 have d0:=O1.out.cell c0 (by simp);have O2:Hid (Only [] w ((w.alloc (.cells #[.int .i64 (-1-(nf:Int)),.bool false,.bool leaf,.slice none 0 0,.slice none 0 0] 77)).alloc (.cells #[.pointer (some ⟨w.heap.size,0,none⟩)] 75))):=O1.out.alloc _
 have OWN:Hid (((w.alloc (.cells #[.int .i64 (-1-(nf:Int)),.bool false,.bool leaf,.slice none 0 0,.slice none 0 0] 77)).alloc (.cells #[.pointer (some ⟨w.heap.size,0,none⟩)] 75)).ownsRow 0 75 1 (.slice ao nf oc) nf (F.map ptrN)):=by
  have h1:=Xad h.row.own O2.out;rw [hnf] at h1;exact h1
 have SRC:Hid (0<1→∃ ad,some (⟨w.heap.size+1,0,none⟩:Addr)=some ad∧∀ j u,[Value.pointer (some ⟨w.heap.size,0,none⟩)][j]?=some u→((w.alloc (.cells #[.int .i64 (-1-(nf:Int)),.bool false,.bool leaf,.slice none 0 0,.slice none 0 0] 77)).alloc (.cells #[.pointer (some ⟨w.heap.size,0,none⟩)] 75)).cell? (ad.add j)=some u):=fun _=>⟨_,rfl,fun j u hu=>by
  rw [Xah,Yd]
  exact ((Blk.new' (n:=w.heap.size+1) [Value.pointer (some ⟨w.heap.size,0,none⟩)].toArray 75 (w.alloc (.cells #[.int .i64 (-1-(nf:Int)),.bool false,.bool leaf,.slice none 0 0,.slice none 0 0] 77)) (by simp)).cell j).trans hu⟩
 have hw64:IntKind.i64.wrap (-1-(nf:Int)) = -1-(nf:Int):=by rw [Yi];omega
 clear h hM hb hnf
 go_enter func63,ntmps63
 go_wp2_with (at_builtin;refine Xap rfl (.tmp 19) (.tmp 21) 81 rfl 75 underlying81 (info_parts Xcg) rfl (by decide) (.slice ao nf oc) nf (F.map ptrN) rfl OWN.out (some ⟨w.heap.size+1,0,none⟩) 1 1 rfl [.pointer (some ⟨w.heap.size,0,none⟩)] rfl SRC.out (by intro u hu;simp at hu;subst hu;rfl) (by omega) (by decide) ?_;intro v' w3 hg3;have G3:=Th hg3;have BG3:=Th (hg3.only.blk (O2.out.blk HH.out.blk (by simp)) (fun hm=>by obtain ⟨cs',hb'⟩:=Xag OWN.out (by simpa using hm);exact absurd (hb'.inj (O2.out.blk HH.out.blk (by simp))).2 (by decide)));have e0:=BG3.out.cell 0;have f0:=BG3.out.frozen 0;simp only [Zb] at e0;obtain ⟨va,vc,rfl⟩:=hg3.shape;clear hg3)
 go_ret;have hnf:=NF.out;subst hnf;have g3:=G3.out;have hh:=HH.out
 have hsz:w.heap.size+2≤w3.heap.size:=by have:=g3.only.size;simp at this;omega
 have hO3:Only [gb] w3 (w3.setCell ⟨gb,0,none⟩ (.slice va (F.length+1) vc)):=Xbe _ _ _ _;have hgb:gb<w.heap.size:=hh.blk.lt;have BNA:Blk ((w.alloc (.cells #[.int .i64 (-1-(F.length:Int)),.bool false,.bool leaf,.slice none 0 0,.slice none 0 0] 77)).alloc (.cells #[.pointer (some ⟨w.heap.size,0,none⟩)] 75)) w.heap.size [.int .i64 (-1-(F.length:Int)),.bool false,.bool leaf,.slice none 0 0,.slice none 0 0] 77:=B1.out.alloc _;have BN:=hO3.blk (g3.only.blk BNA (fun hm=>Xaj OWN.out BNA (by decide) (by simpa using hm))) (by simp;omega)
 have hlies:∀ k,(Value.slice va (F.length+1) vc).ownBlock=some k→(Value.slice ao F.length oc).ownBlock=some k∨w.heap.size+2≤k:=fun k hk=>(g3.lies k hk).imp id (fun h=>by simp at h;omega)
 refine ⟨_,_,rfl,Zq _,Xmr BN (fun hm=>by have:=HM.out _ hm;omega),⟨BG3.out.set 0 _,?_,fun k hk=>?_⟩,fun k hk=>(hlies k hk).imp id (fun h=>by omega),?_,fun k hk=>?_⟩
 ·have h1:=Xab g3.own hO3 (fun k hk hm=>by
   simp at hm;subst hm
   exact Xaj g3.own BG3.out (by decide) hk)
  simpa [ptrN,Xhg] using h1
 ·rcases hlies k hk with h1 | h1
  ·exact hh.row.off k h1
  ·exact ⟨fun hm=>by have:=HM.out _ hm;omega,by have:=HB.out;omega⟩
 ·refine ((O2.out.mono (M':=growX gb (.slice ao F.length oc)) (by simp)).trans g3.only (fun x hx=>.inl (by simp only [growX,Zg];exact .inr hx))).trans hO3 (fun x hx=>.inl (by simp at hx;subst hx;simp [growX]))
 ·rcases hlies k hk with h1 | h1
  ·have:=Xbk hh.row.own h1;omega
  ·omega
end T
end Go.Proofs.YtiijokopcgnokaaGreat
