import Derived.Test.YtiijokopcgnokaaGreatWTnF
import Derived.Test.YtiijokopcgnokaaGreatWJumpBack
set_option maxRecDepth 100000
set_option maxHeartbeats 4000000
set_option linter.unusedSimpArgs false
set_option linter.unusedVariables false
namespace Go.Proofs.YtiijokopcgnokaaGreat
namespace T
open Go Go.RowKit D B C G P H Tryz
theorem Xgv {w w':World} {M:List Nat} {v:Value} {k:List UInt8} {x:Nat} (h:B.Own w w' v k) (hM:∀ y∈M,y<w.heap.size) (hx:x<18446744073709551616):KeyOk w' M (v,(k,x)):=by
 obtain ⟨hr,hn,hO⟩:=h;refine ⟨hr.at,fun ao n c e=>?_,fun g hg=>⟨fun hm=>?_,Xag hr hg⟩,hx⟩
 ·simp only at e
  subst e
  rcases hr.2 with ⟨he,_⟩ | ⟨g,cap,cur,he,_,_,hc,_⟩
  ·simp only [Value.slice.injEq] at he;omega
  ·simp only [Value.slice.injEq] at he;omega
 ·have h1:=hn g hg
  have h2:=hM g hm;omega
theorem Xhz {w:World} {v:Value} {l:List UInt8} (h:Xae w v l) (hl:300<l.length) (x:Nat) :
  Calls prog 30 #[v,.int .u64 x] w fun e w'=>e=.returned (.tuple #[.agg #[.slice none 0 0,.int .u64 0],.int .i64 80])∧Only [] w w':=by
 have IC:Hid ((prog.info? 43).map (·.size)=some 2):=Xbh;have UC:=underlying43;obtain ⟨ao,cap,rfl,_⟩:=h
 have hl':(300:Int)<l.length:=by omega
 go_enter func30,ntmps30
 go_wp2_with fail
 refine bodyPost_ret (Xat rfl _ _ w.heap.size [.slice none 0 0,.int .u64 0] _ rfl (Blk.new _ _ w) UC rfl IC.out) rfl ?_
 exact ⟨rfl,(Only.refl _ _).alloc _⟩
theorem Xju {w:World} {M:List Nat} {v:Value} {l:List UInt8} (h:Xae w v l) (hl:l.length≤300) {x:Nat} (hx:x<18446744073709551616) (hM:∀ y∈M,y<w.heap.size) :
  Calls prog 30 #[v,.int .u64 x] w fun e w'=>∃ v',e=.returned (.tuple #[.agg #[v',.int .u64 x],.int .i64 0])∧KeyOk w' M (v',(l,x))∧Only [] w w':=by
 have IC:Hid ((prog.info? 43).map (·.size)=some 2):=Xbh;have UC:=underlying43;have O0:Hid (Only [] w (w.alloc (.cells #[.slice none 0 0,.int .u64 0] 43))):=(Only.refl _ _).alloc _;have CL:=Th (Xcj (Xam h O0.out) (by omega));have HX:=Th hx
 have HM:Hid (∀ y∈M,y<(w.alloc (.cells #[.slice none 0 0,.int .u64 0] 43)).heap.size):=fun y hy=>Ye (hM y hy) O0.out.size
 have BX:Hid (Blk (w.alloc (.cells #[.slice none 0 0,.int .u64 0] 43)) w.heap.size [.slice none 0 0,.int .u64 0] 43):=Blk.new [.slice none 0 0,.int .u64 0] 43 w;obtain ⟨ao,cap,hv,_⟩:=id h;subst hv
 have hl':¬(300:Int)<l.length:=by omega
 clear h hM hx
 go_enter func30,ntmps30
 go_wp2_with (first
  | (go_at_call 41;refine CL.out.mono ?_;rintro e w1 ⟨v',rfl,ho1⟩;obtain ⟨a1,c1,rfl⟩:=Xac ho1.1;have K1:=Th (Xgv ho1 HM.out HX.out);have O1:=Th ho1.2.2;have B1:=Th (ho1.2.2.blk BX.out (by simp));clear ho1)
  | (refine Xak rfl 43 (.tmp 4) (.tmp 13) rfl w.heap.size [.slice a1 l.length c1,.int .u64 x] rfl rfl B1.out rfl IC.out (by intro u hu;simp at hu;rcases hu with rfl | rfl <;> rfl) ?_;intro w4 hb4 hO4;have B4:=Th hb4;have O4:=Th hO4;have OFF4:Hid (Off 5 w1 [w.heap.size]):=Off.one B1.out (by decide);have K4:=Th (K1.out.later hO4 OFF4.out);clear hb4 hO4))
 (try simp only [Exit.inBlock,Exit.then])
 refine bodyPost_ret (Xat rfl _ _ w.heap.size [.slice a1 l.length c1,.int .u64 x] _ rfl B4.out UC rfl IC.out) rfl ?_
 exact ⟨_,rfl,K4.out,(O0.out.trans O1.out (by simp)).trans O4.out (fun y hy=>by simp at hy;subst hy;exact .inr (Zq _))⟩
theorem Xcg : (prog.info? 75).map (fun i=>(i.zero,i.size,i.bytes))=some (some (.pointer none),1,8):=by kernel_rfl
def Xax (w:World) (tb p root:Nat):Prop:=Blk w tb [.pointer (some ⟨p,0,none⟩),.int .i64 root] 74
structure InPages (u:List Bool) (pg:Nat→List UInt8) (root:Nat) {H:Nat} (T:Tr H):Prop where
 top:T.id=(root:Nat)
 page:∀ n∈nodes H T,∃ id:Nat,n.id=(id:Nat)∧u.getD id false=true∧Xel (decide (id=root)) n (pg id)
 fit:∀ n∈nodes H T,fitsP n.leaf n.es=true∧Keys n.es
 kids:∀ n∈nodes H T,Kids n
 wf:Wf H T
 ris:Ris (seq H T)
 once:((nodes H T).map (·.id)).Nodup
def Apart (m1 m2:MNd):Prop:=∀ x∈m1.blocks,x∉m2.blocks
theorem Apart.symm {m1 m2:MNd} (h:Apart m1 m2):Apart m2 m1:=fun x hx hy=>h x hy hx
structure Nodes (w:World) (M:List Nat) (base:Nat) (ms:List MNd):Prop where
 at_:∀ m∈ms,NodeAt w M m
 new:∀ m∈ms,∀ x∈m.blocks,base≤x
 apart:ms.Pairwise Apart
theorem Nodes.nil (w:World) (M:List Nat) (base:Nat):Nodes w M base []:=⟨fun m h=>absurd h (by simp),fun m h=>absurd h (by simp),List.Pairwise.nil⟩
theorem Nodes.past {w w':World} {M:List Nat} {base:Nat} {ms:List MNd} (h:Nodes w M base ms) (hO:Only [] w w'):Nodes w' M base ms:=⟨fun m hm=>(h.at_ m hm).past hO,h.new,h.apart⟩
theorem Nodes.step {w w':World} {M M':List Nat} {base:Nat} {ms:List MNd} (h:Nodes w M base ms) (hS:Step M M' w w'):Nodes w' M' base ms:=⟨fun m hm=>(h.at_ m hm).step hS,h.new,h.apart⟩
theorem Nodes.snoc {w:World} {M:List Nat} {base b1:Nat} {ms:List MNd} {m:MNd} (h:Nodes w M base ms) (hm:NodeAt w M m) (hn:∀ x∈m.blocks,b1≤x) (hb:base≤b1) (ho:∀ m∈ms,∀ x∈m.blocks,x<b1):Nodes w M base (ms++[m]):=by
 refine ⟨fun m' hm'=>?_,fun m' hm' x hx=>?_,Zn.2 ⟨h.apart,Xs _ _,fun a ha b hb x hx hy=>?_⟩⟩
 ·rcases Za.1 hm' with h1 | h1
  ·exact h.at_ m' h1
  ·rw [Zo.1 h1];exact hm
 ·rcases Za.1 hm' with h1 | h1
  ·exact h.new m' h1 x hx
  ·rw [Zo.1 h1] at hx;exact Zp hb (hn x hx)
 ·rw [Zo.1 hb] at hy
  have:=hn x hy;have:=ho a ha x hx;omega
def ptrN (m:MNd):Value:=.pointer (some ⟨m.nb,0,none⟩)
structure PtrRow (w:World) (M:List Nat) (base:Nat) (v:Value) (ms:List MNd):Prop where
 own:w.ownsRow 0 75 1 v ms.length (ms.map ptrN)
 off:∀ k,v.ownBlock=some k→k∉M∧base≤k
theorem PtrRow.past {w w':World} {M:List Nat} {base:Nat} {v:Value} {ms:List MNd} (h:PtrRow w M base v ms) (hO:Only [] w w'):PtrRow w' M base v ms:=⟨Xad h.own hO,h.off⟩
theorem PtrRow.step {w w':World} {M M':List Nat} {base:Nat} {v:Value} {ms:List MNd} (h:PtrRow w M base v ms) (hS:Step M M' w w'):PtrRow w' M' base v ms :=
 ⟨Xab h.own hS.1 (fun k hk=>(h.off k hk).1),fun k hk=>⟨P.Step.keep hS (Xbk h.own hk) (h.off k hk).1,(h.off k hk).2⟩⟩
theorem Xfg {H:Nat}:∀ {h:Nat} (c:Ctx H h) (i:Int),(path c i).length+h=H
 | _,.nil,_=>by simp [path]
 | h,.cons f c,i=>by
  have:=Xfg c f.id;simp only [path,Ze,Zt];omega
structure WayIs {H:Nat} (T:Tr H) (x:Pr) (root:Nat) (ms:List MNd) (c:Ctx H 0) (i:Int) (E:List Pr):Prop where
 plug:plug c (.leaf i E)=T
 good:Good c
 sep:Sep c x
 ns:ms.map (·.n)=path c i++[⟨i,true,E,[]⟩]
 roots:∀ m∈ms,m.root=decide (m.n.id=(root:Nat))
structure WaySo {H h:Nat} (T:Tr H) (x:Pr) (root:Nat) (ms:List MNd) (c:Ctx H h) (t:Tr h):Prop where
 plug:plug c t=T
 good:Good c
 wf:Wf h t
 sep:Sep c x
 ns:ms.map (·.n)=path c t.id
 roots:∀ m∈ms,m.root=decide (m.n.id=(root:Nat))
structure WayM (w:World) (p:Nat) (M:List Nat) (u:List Bool) (pg:Nat→List UInt8) (k tb bx root:Nat) (xv:Value) (x:Pr) (ms:List MNd) (ov:Value) (M':List Nat) (w':World):Prop where
 nodes:Nodes w' M' w.heap.size ms
 row:PtrRow w' M' w.heap.size ov ms
 pool:PoolV w' p M' u pg (k+2*ms.length)
 step:Step M M' w w'
 tree:Xax w' tb p root
 box:Blk w' bx [xv,.int .u64 x.2] 43
 key:KeyOk w' M' (xv,x)
 tbM:tb∉M'
 bxM:bx∉M'
structure WayJ {H h:Nat} (w:World) (p:Nat) (M:List Nat) (u:List Bool) (pg:Nat→List UInt8) (k tb bx root:Nat) (T:Tr H) (xv:Value) (x:Pr) (ms:List MNd) (c:Ctx H h) (t:Tr h) (ov:Value) (M':List Nat) (w':World):Prop where
 way:WaySo T x root ms c t
 mem:WayM w p M u pg k tb bx root xv x ms ov M' w'
theorem NodeAt.kind {w:World} {M:List Nat} {m:MNd} (h:NodeAt w M m) {x:Nat} (hx:x∈m.blocks) {cs:List Value} {t:TypeId} (hb:Blk w x cs t):t=77∨t=43∨t=3:=by
 simp only [MNd.blocks,Zg,Za,Zk] at hx
 rcases hx with rfl | hx | hx
 ·exact .inl (hb.inj h.blk).2
 ·obtain ⟨cs',hb'⟩:=Xag h.ents hx
  exact .inr (.inl (hb.inj hb').2)
 ·obtain ⟨cs',hb'⟩:=Xag h.kids hx
  exact .inr (.inr (hb.inj hb').2)
theorem Nodes.off {w w':World} {M X:List Nat} {base:Nat} {ms:List MNd} (h:Nodes w M base ms) (hO:Only X w w') (hX:∀ x∈X,∀ cs t,Blk w x cs t→t≠77∧t≠43∧t≠3∧t≠5):Nodes w' M base ms :=
 ⟨fun m hm=>(h.at_ m hm).later hO (fun x hx cs hb=>(hX x hx cs _ hb).2.2.2 rfl) (fun x hx hm'=>by
  have hlt:=(h.at_ m hm).lt x hx;simp only [MNd.blocks,Zg,Za,Zk] at hx
  rcases hx with rfl | hx | hx
  ·exact (hX _ hm' _ _ (h.at_ m hm).blk).1 rfl
  ·obtain ⟨cs',hb'⟩:=Xag (h.at_ m hm).ents hx
   exact (hX _ hm' _ _ hb').2.1 rfl
  ·obtain ⟨cs',hb'⟩:=Xag (h.at_ m hm).kids hx
   exact (hX _ hm' _ _ hb').2.2.1 rfl),h.new,h.apart⟩
theorem WayM.next {w:World} {p k tb bx root oc:Nat} {M M' M1:List Nat} {u:List Bool} {pg:Nat→List UInt8} {xv:Value} {x:Pr} {ms:List MNd} {ao:Option Addr} {w' w1 w2:World} {v':Value} {rt:Bool} {n:Nd} {m:MNd}
  (h:WayM w p M u pg k tb bx root xv x ms (.slice ao ms.length oc) M' w') (hR:ReadRes w' p M' u pg (k+2*ms.length) rt n m M1 w1)
  (hg:Grew (w1.alloc (.cells #[ptrN m] 75)) w2 75 1 (.slice ao ms.length oc) v' (ms.length+1) (ms.map ptrN++[ptrN m])):WayM w p M u pg k tb bx root xv x (ms++[m]) v' M1 w2:=by
 have hA:Only [] w1 (w1.alloc (.cells #[ptrN m] 75)):=(Only.refl _ _).alloc _;have hrow:=(h.row.step hR.step).past hA;have htb:=P.Step.keep hR.step h.tree.lt h.tbM;have hbx:=P.Step.keep hR.step h.box.lt h.bxM;have hT:Xax (w1.alloc (.cells #[ptrN m] 75)) tb p root:=hA.blk (hR.step.1.blk h.tree h.tbM) (by simp);have hB:Blk (w1.alloc (.cells #[ptrN m] 75)) bx [xv,.int .u64 x.2] 43:=hA.blk (hR.step.1.blk h.box h.bxM) (by simp)
 have hX:∀ y∈(Value.slice ao ms.length oc).ownBlock.toList,∀ cs t,Blk (w1.alloc (.cells #[ptrN m] 75)) y cs t→t=75:=fun y hy cs t hb=>by
  obtain ⟨cs',hb'⟩:=Xag hrow.own (by simpa using hy);exact (hb.inj hb').2
 have hns:Nodes (w1.alloc (.cells #[ptrN m] 75)) M1 w.heap.size (ms++[m]):=by
  refine ((h.nodes.step hR.step).snoc hR.at_ hR.new (by have:=h.step.1.size;omega) (fun m' hm' x hx=>(h.nodes.at_ m' hm').lt x hx)).past hA
 have hP:=(hR.pool.past hA).later hg.only (fun y hy cs hb=>absurd (hX y hy _ _ hb) (by decide)) (fun y hy hy'=>(hrow.off y (by simpa using hy')).1 hy)
 have hlen:(ms++[m]).length=ms.length+1:=by simp
 refine ⟨hns.off hg.only (fun y hy cs t hb=>by rw [hX y hy _ _ hb];decide),⟨by rw [hlen,Zs];exact hg.own,fun y hy=>?_⟩,by rw [hlen];exact hP.more (by omega),?_,hg.only.blk hT (fun hm=>absurd (hX _ hm _ _ hT) (by decide)),hg.only.blk hB (fun hm=>absurd (hX _ hm _ _ hB) (by decide)),((h.key.step hR.step).past hA).later hg.only (fun y hy cs hb=>absurd (hX y hy _ _ hb) (by decide)),htb,hbx⟩
 ·rcases hg.lies y hy with h1 | h1
  ·exact hrow.off y h1
  ·have h2:=hA.size
   have h3:=hR.step.1.size;have h4:=h.step.1.size;exact ⟨fun hm=>by have:=hR.pool.lt y hm;omega,by omega⟩
 ·have hS:=h.step.trans hR.step
  refine ⟨(hS.1.trans hA (by simp)).trans hg.only (fun y hy=>.inr (hrow.off y (by simpa using hy)).2),hS.2⟩
theorem way_any {w:World} {p k tb root H:Nat} {M:List Nat} {u:List Bool} {pg:Nat→List UInt8} {T:Tr H} {xv:Value} {x:Pr} (hP:PoolV w p M u pg k) (hk:k+2*H≤999000) (hT:Xax w tb p root) (htb:tb∉M) (hI:InPages u pg root T) (hx:KeyOk w M (xv,x)) (hH:H≤1000) :
  Calls prog 31 #[.pointer (some ⟨tb,0,none⟩),.agg #[xv,.int .u64 x.2]] w fun e w'=>∃ ms c i E ov M',e=.returned (.tuple #[ov,.int .i64 0])∧WayIs T x root ms c i E∧Nodes w' M' w.heap.size ms∧PtrRow w' M' w.heap.size ov ms∧PoolV w' p M' u pg (k+2*(H+1))∧Step M M' w w':=by
 obtain ⟨xa,xn,hxv,_⟩:=id hx.bytes;simp only at hxv;have B0:Hid (Blk (w.alloc (.cells #[xv,.int .u64 x.2] 43)) w.heap.size [xv,.int .u64 x.2] 43):=Blk.new [xv,.int .u64 x.2] 43 w;have O0:Hid (Only [] w (w.alloc (.cells #[xv,.int .u64 x.2] 43))):=(Only.refl _ _).alloc _
 have START:Hid (WayJ w p M u pg k tb w.heap.size root T xv x [] (.nil:Ctx H H) T (.slice none 0 0) M (w.alloc (.cells #[xv,.int .u64 x.2] 43))) :=
  ⟨⟨rfl,trivial,hI.wf,⟨fun g hg=>(by cases hg),fun g hg=>(by cases hg)⟩,rfl,fun m hm=>(by cases hm)⟩,⟨Nodes.nil _ _ _,⟨⟨rfl,.inl ⟨rfl,rfl⟩⟩,fun k hk=>(by cases hk)⟩,hP.past O0.out,Step.then (Step.refl M w) O0.out,O0.out.blk hT (by simp),B0.out,hx.past O0.out,htb,fun hm=>Nat.lt_irrefl _ (hP.lt _ hm)⟩⟩
 have TOP:=Th hI.top;have II:=Th hI;have IC:=Xbh;rw [hxv] at START B0 O0 ⊢;clear hP hT hx
 go_enter func31,ntmps31
 go_wp2_with fail
 refine Xnx 0 (fun n a' w'=>∃ (h:Nat) (c:Ctx H h) (t:Tr h) (ms:List MNd) (ov:Value) (M':List Nat) (bx:Nat) (ri:Int) (u8 u9 u10 u11 u12 u13 u14 u15 u16 u17 u18 u19 u20 u21 u22 u23 u24 u25 u26 u27 u28 u29 u30 u31 u32 u33 u34 u35 u36 u37 u38 u39 u40 u41 u42 u43 u44:Value),n=h∧bx=w.heap.size∧ri=t.id∧a'={ tmps:=#[.pointer (some ⟨tb,0,none⟩),.agg #[.slice xa x.1.length xn,.int .u64 x.2],undef,.pointer (some ⟨bx,0,none⟩),.slice none 0 0,.int .i64 0,ov,.int .i64 ri,u8,u9,u10,u11,u12,u13,u14,u15,u16,u17,u18,u19,u20,u21,u22,u23,u24,u25,u26,u27,u28,u29,u30,u31,u32,u33,u34,u35,u36,u37,u38,u39,u40,u41,u42,u43,u44],defers:=[] }∧WayJ w p M u pg k tb bx root T (.slice xa x.1.length xn) x ms c t ov M' w') rfl ?pass ?first
 case first =>
  intro BODY;have HB:=Th BODY;have s0:=START.out.mem.tree.cell 0;have s1:=START.out.mem.tree.cell 1;simp only [Zd,Zb] at s0 s1;clear BODY
  go_wp2_with fail
  go_step3
  rename_i hK
  refine hK _ _ ?_
  exact HB.out H _ _ ⟨H,.nil,T,[],_,M,w.heap.size,_,_,_,_,_,_,_,_,_,_,_,_,_,_,_,_,_,_,_,_,_,_,_,_,_,_,_,_,_,_,_,_,_,_,_,_,_,_,rfl,rfl,TOP.out.symm,rfl,START.out⟩
 case pass =>
  rintro n a' w' ⟨h,c,t,ms,ov,M',bx,ri,u8,u9,u10,u11,u12,u13,u14,u15,u16,u17,u18,u19,u20,u21,u22,u23,u24,u25,u26,u27,u28,u29,u30,u31,u32,u33,u34,u35,u36,u37,u38,u39,u40,u41,u42,u43,u44,rfl,hbx,hri,rfl,hJ⟩;dsimp only;have JJ:=Th hJ;have q0:=hJ.mem.tree.cell 0;simp only [Zd,Zb] at q0
  have hlen:ms.length+n=H:=by have h1:=Xfg c t.id;have h2:=congrArg List.length hJ.way.ns;rw [Zl] at h2;omega
  have hmem:t.top∈nodes H T:=by
   rw [←hJ.way.plug];exact (Xbb c t).mem_iff.2 (Yb _ (Yk _ (by simp [nodes])))
  obtain ⟨id,hid,hu,hpg⟩:=II.out.page t.top hmem
  have htid:t.id=(id:Nat):=by rw [←Tr.top_id];exact hid
  have RD:=Th (Xfh hJ.mem.pool (by omega) hid hu hpg (II.out.fit _ hmem).2 (II.out.kids _ hmem) (II.out.fit _ hmem).1);have KS:=Th (II.out.kids _ hmem);have FT:=Th (II.out.fit _ hmem);have HLEN:=Th hlen;obtain ⟨ao,oc,hov⟩:=Xac hJ.mem.row.own;subst hov;have TID:=Th htid;have BXE:=Th hbx;have hri2:ri=(id:Nat):=hri.trans htid;subst hri2;clear hJ hlen hmem hid hu hpg htid hri hbx
  have hd:ms.length≤1000:=by have:=HLEN.out;omega
  have OWNP:Hid (∀ w1 m M1,ReadRes w' p M' u pg (k+2*ms.length) (decide (id=root)) t.top m M1 w1→(w1.alloc (.cells #[ptrN m] 75)).ownsRow 0 75 1 (.slice ao ms.length oc) ms.length (ms.map ptrN)):=fun w1 m M1 h=>Xad (JJ.out.mem.row.step h.step).own ((Only.refl _ _).alloc _)
  rcases n with _ | n
  ·obtain ⟨i,E,ht⟩:=Tr.is_leaf t
   have LF:Hid (t.top.leaf=true):=by show _=_;rw [ht];rfl
   have HT:=Th ht;clear ht
   have NXT:Hid (∀ w1 m M1 w2 v',ReadRes w' p M' u pg (k+2*ms.length) (decide (id=root)) t.top m M1 w1→Grew (w1.alloc (.cells #[ptrN m] 75)) w2 75 1 (.slice ao ms.length oc) v' (ms.length+1) (ms.map ptrN++[ptrN m])→WayM w p M u pg k tb bx root (.slice xa x.1.length xn) x (ms++[m]) v' M1 w2∧w2.cell? ⟨m.nb,2,none⟩=some (.bool true)):=fun w1 m M1 w2 v' hR hg=>by
    have hW:=JJ.out.mem.next hR hg;refine ⟨hW,?_⟩;have h2:=(hW.nodes.at_ m (by simp)).blk.cell 2;simp only [Zd,Zb] at h2;rw [h2,hR.n,LF.out]
   go_wp2_with (first
    | (go_at_call 38;refine RD.out.mono ?_;rintro e w1 ⟨m,M1,rfl,hR⟩;have R1:=Th hR;clear hR)
    | (at_builtin;refine Xap rfl (.tmp 26) (.tmp 28) 81 rfl 75 underlying81 (info_parts Xcg) rfl (by decide) (.slice ao ms.length oc) ms.length (ms.map ptrN) rfl (OWNP.out _ _ _ R1.out) (some ⟨w1.heap.size,0,none⟩) 1 1 rfl [ptrN m] rfl (fun _=>⟨_,rfl,fun j u hu=>by rw [Xah,Yd];exact ((Blk.new [ptrN m] 75 w1).cell j).trans hu⟩) (by intro u hu;simp at hu;subst hu;rfl) (by omega) (by decide) ?_;intro v' w2 hg2;obtain ⟨hWN,d2⟩:=NXT.out _ _ _ _ _ R1.out hg2;have WN:=Th hWN;clear hWN hg2))
   simp only [Exit.jump];go_ret2;have hway:=JJ.out.way;have hrn:=R1.out.n
   have hl1:ms.length=H:=by have:=HLEN.out;omega
   have hp9:=WN.out.pool;rw [Ze,Zt,hl1] at hp9;refine ⟨ms++[m],c,i,E,_,M1,rfl,⟨by rw [←HT.out];exact hway.plug,hway.good,hway.sep,?_,fun m' hm'=>?_⟩,WN.out.nodes,WN.out.row,hp9,WN.out.step⟩
   ·rw [Zs,hway.ns]
    simp only [Zx,Wu]
    rw [hrn,HT.out];rfl
   ·rcases Za.1 hm' with h9 | h9
    ·exact hway.roots m' h9
    ·rw [Zo.1 h9,R1.out.root,hrn,Tr.top_id,TID.out]
     exact decide_eq_decide.2 (by omega)
  ·obtain ⟨i,E,K,ht⟩:=Tr.is_node t
   have hway:=JJ.out.way
   have hrt:Ris (seq (n+1) t):=by
    have h1:=II.out.ris;rw [←hway.plug,Xco c t hway.good] at h1;exact (Zn.1 (Zn.1 h1).1).2.1
   have hwf:=hway.wf;rw [ht] at hrt hwf;obtain ⟨f,t',hK,hf,hgood,hwf',hsep⟩:=down_step c hway.good hwf hrt hway.sep;have hup:=Xpv hwf hrt
   have LF:Hid (t.top=⟨i,false,E,K.map Tr.id⟩):=by show _=_;rw [ht];rfl
   have HT:=Th ht;have HF:=Th hf;have HGD:=Th hgood;have HWF:=Th hwf';have HSEP:=Th hsep;have HUP:=Th hup
   have HKC:Hid ((K.map Tr.id)[Xao E x]?=some t'.id):=by show _=_;rw [Zr,hK];rfl
   have HEL:Hid (E.length≤1000000):=by
    have h1:=(FT.out).1;rw [LF.out,Xcf] at h1;have h2:=Xde false E 0
    have:∀ E:List Pr,E.length*16≤sumE false E:=by
     intro E
     induction E with
     | nil=>simp [sumE]
     | cons e E ih=>simp only [sumE,wE,Zz];simp;omega
    have:=this E;simp only [baseE] at h1;show E.length≤1000000;simp at h1;omega
   clear hway hrt hwf hK hf hgood hwf' hsep hup ht
   have NXT:Hid (∀ w1 m M1 w2 v',ReadRes w' p M' u pg (k+2*ms.length) (decide (id=root)) t.top m M1 w1→Grew (w1.alloc (.cells #[ptrN m] 75)) w2 75 1 (.slice ao ms.length oc) v' (ms.length+1) (ms.map ptrN++[ptrN m])→WayM w p M u pg k tb bx root (.slice xa x.1.length xn) x (ms++[m]) v' M1 w2∧w2.cell? ⟨m.nb,2,none⟩=some (.bool false)):=fun w1 m M1 w2 v' hR hg=>by
    have hW:=JJ.out.mem.next hR hg;refine ⟨hW,?_⟩;have h2:=(hW.nodes.at_ m (by simp)).blk.cell 2;simp only [Zd,Zb] at h2;rw [h2,hR.n,LF.out]
   go_wp2_with (first
    | (go_at_call 38;refine RD.out.mono ?_;rintro e w1 ⟨m,M1,rfl,hR⟩;have R1:=Th hR;clear hR)
    | (at_builtin;refine Xap rfl (.tmp 26) (.tmp 28) 81 rfl 75 underlying81 (info_parts Xcg) rfl (by decide) (.slice ao ms.length oc) ms.length (ms.map ptrN) rfl (OWNP.out _ _ _ R1.out) (some ⟨w1.heap.size,0,none⟩) 1 1 rfl [ptrN m] rfl (fun _=>⟨_,rfl,fun j u hu=>by rw [Xah,Yd];exact ((Blk.new [ptrN m] 75 w1).cell j).trans hu⟩) (by intro u hu;simp at hu;subst hu;rfl) (by omega) (by decide) ?_;intro v' w2 hg2;obtain ⟨hWN,d2⟩:=NXT.out _ _ _ _ _ R1.out hg2;have WN:=Th hWN;clear hWN hg2))
   have MN:=Th (WN.out.nodes.at_ m (by simp));have hrn:=R1.out.n;rw [LF.out] at hrn;have HRN:=Th hrn;obtain ⟨co,cc,hcv,hcc,hcrow⟩:=MN.out.crow;have d4:=MN.out.blk.cell 4;simp only [Zd,Zb] at d4;rw [hcv,HRN.out] at d4;rw [HRN.out] at hcc hcrow;have hcl:=(Zh.1 HKC.out).1;obtain ⟨cg,hcg,hcrow2⟩:=hcrow (by simp only;omega)
   subst hcg;have e1:=hcrow2 _ _ HKC.out;simp only at d4 hcc e1;have b0:=WN.out.box.cell 0;have b1:=WN.out.box.cell 1;simp only [Zd,Zb] at b0 b1
   have CHD:Hid (∀ y:Later w2,Calls prog 43 #[.pointer (some ⟨m.nb,0,none⟩),.agg #[.slice xa x.1.length xn,.int .u64 x.2]] y.v fun e w'=>e=.returned (.int .i64 (Xao E x:Nat))∧∃ z:Later w2,w'=z.v):=fun y=>Calls.later (fun w9 hO=>by
    have:=Xjo (q:=(.slice xa x.1.length xn,x)) (MN.out.past hO) (Xam WN.out.key.bytes hO) (by rw [HRN.out];exact HUP.out.weak) (by rw [HRN.out];exact HEL.out);rw [HRN.out] at this
    exact this) y
   have l0:∀ y:Later w2,y.v.cell? ⟨bx,0,none⟩=some (.slice xa x.1.length xn):=fun y=>y.cell b0
   have l1:∀ y:Later w2,y.v.cell? ⟨bx,1,none⟩=some (.int .u64 x.2):=fun y=>y.cell b1
   have l4:∀ y:Later w2,y.v.cell? ⟨m.nb,4,none⟩=some (.slice (some ⟨cg,0,none⟩) (K.map Tr.id).length cc):=fun y=>y.cell d4
   have l5:∀ y:Later w2,y.v.cell? ⟨cg,Xao E x,none⟩=some (.int .i64 t'.id):=fun y=>y.cell e1
   obtain ⟨ci,hci⟩:∃ ci,Xao E x=ci:=⟨_,rfl⟩;obtain ⟨cn,hcn⟩:∃ cn,(K.map Tr.id).length=cn:=⟨_,rfl⟩;rw [hci] at l5 CHD hcl;rw [hcn] at l4 hcl
   have hc0:(0:Int)≤ci:=by omega
   have hc1:(ci:Int)<cn:=by omega
   clear hcv hcc hcrow hcrow2 d4 e1 b0 b1 d2 hrn
   refine Xaa (Only.refl _ _) (by kernel_rfl) (by kernel_rfl) ?_
   repeat (go_big_quiet_step ((go_at_call 43;exact CHD.out _)))
   refine wpQuiet_nil ?_
   rintro _ ⟨xq,rfl⟩;obtain ⟨wq,hwq⟩:=xq;have HQ:=Th hwq;clear l0 l1 l4 l5
   go_wp2_with fail
   go_step3
   simp only [Exit.jump,Exit.then];have hway:=JJ.out.way;have hM:=WN.out;refine ⟨rfl,n,Nat.lt_succ_self _,n,.cons f c,t',ms++[m],v',M1,bx,t'.id,_,_,_,_,_,_,_,_,_,_,_,_,_,_,_,_,_,_,_,_,_,_,_,_,_,_,_,_,_,_,_,_,_,_,_,_,_,rfl,BXE.out,rfl,rfl,⟨⟨?_,HGD.out,HWF.out,HSEP.out,?_,fun m' hm'=>?_⟩,?_⟩⟩
   ·show plug c (f.tree t')=T
    rw [HF.out,←HT.out];exact hway.plug
   ·rw [Zs,hway.ns]
    simp only [path,Zx,Wu]
    have hfid:f.id=t.id:=by
     have h9:=congrArg Tr.id HF.out;rw [←HT.out] at h9;exact h9
    have hfn:f.nd t'.id=m.n:=by rw [←Fr.top,HF.out,HRN.out];rfl
    rw [hfid,hfn]
   ·rcases Za.1 hm' with h9 | h9
    ·exact hway.roots m' h9
    ·rw [Zo.1 h9,R1.out.root,R1.out.n,Tr.top_id,TID.out]
     exact decide_eq_decide.2 (by omega)
   ·exact ⟨hM.nodes.past HQ.out,hM.row.past HQ.out,hM.pool.past HQ.out,Step.then hM.step HQ.out,HQ.out.blk hM.tree (by simp),HQ.out.blk hM.box (by simp),hM.key.past HQ.out,hM.tbM,hM.bxM⟩
end T
namespace P
open Go Go.RowKit Go.Proofs.YtiijokopcgnokaaGreat D B Tryz
theorem PoolV.release {w:World} {p k:Nat} {M:List Nat} {u:List Bool} {pg:Nat→List UInt8} (h:PoolV w p M u pg k) {id:Nat} (hi:u.getD id false=true):Calls prog 95 #[.pointer (some ⟨p,0,none⟩),.int .i64 id] w fun e w'=>∃ M',e=.returned (.int .i64 0)∧PoolV w' p M' (u.set id false) pg k∧Step M M' w w':=by
 obtain ⟨d,S,h,h1,h2,rfl,h4⟩:=h;have hf:=h.fine
 refine (h.release_yes id (PS.is_nat.2 ⟨Xgc hi,hi⟩)).mono ?_
 rintro e w' ⟨rfl,M',hP,hS⟩;refine ⟨M',rfl,⟨d,_,hP,fun f hf=>h1 f (Yp.1 hf).1,h2,rfl,fun j hj=>?_⟩,hS⟩
 have hne:j≠id:=fun e=>by
  subst e;rw [Zf,Yr (Xgc hi)] at hj;simp at hj
 rw [getD_set_ne _ _ _ _ _ (fun e=>hne e.symm)] at hj;rw [←h4 j hj]
 by_cases hg:∃ g∈S.held,g.id=j
 ·obtain ⟨g,hg,rfl⟩:=hg
  rw [PS.page_in hf.once hg]
  refine PS.page_in (S:=S.release id) ?_ (Yp.2 ⟨hg,by simpa using hne⟩)
  have:((S.release id).held.map (·.id)).Sublist (S.held.map (·.id)):=List.Sublist.map _ List.filter_sublist;exact this.nodup hf.once
 ·have hno:∀ g∈S.held,g.id≠j:=fun g h1 h2=>hg ⟨g,h1,h2⟩
  rw [PS.page_out hno];exact PS.page_out (S:=S.release id) (fun g h1=>hno g (Yp.1 h1).1)
end P
namespace T
open Go Go.RowKit D B C G P H Tryz
theorem lenE_few : ∀ {E:List Pr},Keys E→lenE E≤300*E.length
 | [],_=>by simp [lenE]
 | e :: E,h=>by
  have:=lenE_few (E:=E) (h.sub fun x hx=>Yg _ hx);have h1:=(h e (by simp)).1
  simp only [lenE,Zx,List.sum_cons,Zz] at *;omega
theorem most_any {w:World} {v:Value} {L:List KV} (h:PrsAt w v L) (hk:Keys (L.map (·.2))) (hl:L.length≤1000000) :
  Calls prog 100 #[v] w fun e w'=>e=.returned (.int .i64 (mostP (L.map (·.2)):Nat))∧Only [] w w':=by
 obtain ⟨⟨ao,cap,rfl,hcap,hrow⟩,hkeys⟩:=h
 have ROW:Hid (∀ i,i<L.length→∃ g o a k q,ao=some ⟨g,o,none⟩∧L[i]?=some (.slice a q.1.length k,q)∧w.cell? ⟨g,o+i*2,none⟩=some (.slice a q.1.length k)∧w.cell? ⟨g,o+i*2+1,none⟩=some (.int .u64 q.2)):=fun i hi=>by
  obtain ⟨g,o,rfl,hc⟩:=hrow (by omega);have hp:=Zc hi;obtain ⟨c1,c2⟩:=hc i _ hp;obtain ⟨a1,k1,e1,_⟩:=id (hkeys _ (Yx hi));rw [e1] at c1;exact ⟨g,o,a1,k1,L[i].2,rfl,by rw [hp,←e1],c1,c2⟩
 have LB:Hid (∀ i,lenE ((L.map (·.2)).take i)≤300*L.length):=fun i=>by
  have:=lenE_few (E:=(L.map (·.2)).take i) (hk.sub fun e he=>Yn he);rw [Zj,Zl] at this;omega
 have LS:Hid (∀ i q a k n,L[i]?=some (.slice a n k,q)→lenE ((L.map (·.2)).take (i+1))=lenE ((L.map (·.2)).take i)+q.1.length):=fun i q a k n hq=>by
  rw [Xg,Zr,hq,Xcd]
  simp [lenE]
 have MP:Hid (mostP (L.map (·.2))=if L.length=0 then 1 else 4+lenE (L.map (·.2)) / 100+L.length / 4):=by show _=_;unfold mostP;rw [Zl]
 have LT:Hid (lenE ((L.map (·.2)).take L.length)=lenE (L.map (·.2))):=by show _=_;rw [Ya (by simp)]
 have UC:=underlying43;clear hrow hkeys hk;generalize lenE (L.map (·.2))=tot at *;obtain ⟨n,hn⟩:∃ n,L.length=n:=⟨_,rfl⟩;rw [hn] at hcap hl ROW LB MP LT;rw [hn];clear hn;generalize mostP (L.map (·.2))=R at *
 cases n with
 | zero =>
  have hR:R=1:=MP.out;subst hR
  go_enter func100,ntmps100
  go_wp2_with fail
  go_ret;exact ⟨rfl,Only.refl _ _⟩
 | succ n0 =>
  obtain ⟨n,hn⟩:∃ n,n0+1=n:=⟨_,rfl⟩
  have MP2:Hid (R=4+tot / 100+n / 4):=by show _=_;have:=MP.out;rw [if_neg (by omega)] at this;rw [←hn];exact this
  rw [hn] at hcap hl ROW LB LT;rw [hn]
  have hn0:¬(n:Int)=0:=by omega
  have hn1:n≠0:=by omega
  clear MP hn
  go_enter func100,ntmps100
  go_wp2_with fail
  go_loopg [11,3] n (fun gk s11 s3 wr=>∃ i:Nat,gk=n-i∧i≤n∧s11=.int .i64 i∧s3=.int .i64 (lenE ((L.map (·.2)).take i):Nat)∧Only [] w wr)
  case atStart=>exact ⟨0,rfl,Yc _,rfl,rfl,Only.refl _ _⟩
  case round =>
   obtain ⟨i,hgk,hi,rfl,rfl,hO⟩:=hrel;have HGK:=Th hgk;have OO:=Th hO
   have hi0:(0:Int)≤i:=by omega
   have hlb:=LB.out i;have hlb2:=LB.out (i+1)
   by_cases hlt:i<n
   ·have hlt':(i:Int)<n:=by omega
    obtain ⟨g,o,a,k,q,rfl,hq,x1,x2⟩:=ROW.out i hlt;have e1:=hO.cell x1 (by simp);have e2:=hO.cell x2 (by simp);have LI:=Th (LS.out i q a k _ hq);rw [LI.out] at hlb2;generalize lenE ((L.map (·.2)).take i)=t at *;generalize q.1.length=ql at *;clear x1 x2 hq hgk hO
    go_wp2_with fail
    go_roundg (n-(i+1))
    case measure=>have:=HGK.out;omega
    case rel=>exact ⟨i+1,rfl,by omega,by go_num,by rw [LI.out];push_cast;go_num,OO.out.trans (M':=[]) ((Only.refl _ _).alloc _) (by simp)⟩
   ·have hin:i=n:=by omega
    subst hin;rw [LT.out] at *
    have hnlt:¬(i:Int)<i:=by omega
    clear hgk hO
    go_wp2_with fail
    go_ret;exact ⟨by rw [show ((R:Nat):Int)=4+(tot:Int) / 100+(i:Int) / 4 by have:=MP2.out;omega];rfl,OO.out⟩
def Xai : Nat→List Bool→List Nat
 | 0,_=>[]
 | n+1,u=>Xal u :: Xai n (u.set (Xal u) true)
def Xbv (u:List Bool) (l:List Nat):List Bool:=l.foldl (fun u i=>u.set i true) u
theorem Xfp {u:List Bool} (h:0<u.count false):Xal u<u.length:=by
 unfold Xal;rw [List.findIdx_lt_length];exact ⟨false,List.count_pos_iff.1 h,rfl⟩
theorem count_set {u:List Bool} (h:0<u.count false):(u.set (Xal u) true).count false+1=u.count false:=by
 have hl:=Xfp h;have hf:=(Xck hl).1;rw [Zf,Zc hl] at hf;simp only [Option.getD_some] at hf;rw [List.count_set (h:=hl),hf];simp;omega
theorem Xmf : ∀ (l:List Nat) (u:List Bool),(Xbv u l).length=u.length
 | [],u=>rfl
 | i :: l,u=>by show (Xbv (u.set i true) l).length=_;rw [Xmf l,Yz]
theorem Xdy : ∀ (l:List Nat) (u:List Bool) (j:Nat),(∀ i∈l,i<u.length)→((Xbv u l).getD j false=true↔u.getD j false=true∨j∈l)
 | [],u,j,_=>by simp [Xbv]
 | i :: l,u,j,h=>by
  show (Xbv (u.set i true) l).getD j false=true↔_;rw [Xdy l _ j (fun x hx=>by rw [Yz];exact h x (by simp [hx]))]
  by_cases e:i=j
  ·subst e
   rw [Zf,Yr (h i (by simp))];simp
  ·rw [P.getD_set_ne _ _ _ _ _ e,Zg]
   constructor
   ·rintro (h | h)
    ·exact .inl h
    ·exact .inr (.inr h)
   ·rintro (h | h | h)
    ·exact .inl h
    ·exact absurd h.symm e
    ·exact .inr h
theorem Xer : ∀ (n:Nat) (u:List Bool),(Xai n u).length=n
 | 0,_=>rfl
 | n+1,u=>by simp [Xai,Xer n]
theorem Xhp : ∀ (n:Nat) (u:List Bool),Xai (n+1) u=Xai n u++[Xal (Xbv u (Xai n u))]
 | 0,u=>rfl
 | n+1,u=>by
  show Xal u :: Xai (n+1) (u.set (Xal u) true)=_;rw [Xhp n];rfl
theorem useAll_snoc (u:List Bool) (l:List Nat) (i:Nat):Xbv u (l++[i])=(Xbv u l).set i true:=by unfold Xbv;rw [List.foldl_append];rfl
theorem Xgs : ∀ (n:Nat) (u:List Bool),n≤u.count false→(Xbv u (Xai n u)).count false+n=u.count false
 | 0,u,_=>rfl
 | n+1,u,h=>by
  have h1:=count_set (u:=u) (by omega);have:=Xgs n (u.set (Xal u) true) (by omega);show (Xbv (u.set (Xal u) true) (Xai n (u.set (Xal u) true))).count false+(n+1)=_;omega
theorem Xha : ∀ (n:Nat) (u:List Bool),n≤u.count false→(Xai n u).Nodup∧∀ i∈Xai n u,i<u.length∧u.getD i false=false
 | 0,u,_=>⟨List.nodup_nil,fun i hi=>by cases hi⟩
 | n+1,u,h=>by
  have h1:=count_set (u:=u) (by omega);have hl:=Xfp (u:=u) (by omega);obtain ⟨h2,h3⟩:=Xha n (u.set (Xal u) true) (by omega);refine ⟨Xn.2 ⟨fun hm=>?_,h2⟩,fun i hi=>?_⟩
  ·have:=(h3 _ hm).2
   rw [Zf,Yr hl] at this;simp at this
  ·rcases Zg.1 hi with e | hi
   ·rw [e];exact ⟨hl,(Xck hl).1⟩
   ·obtain ⟨a,b⟩:=h3 i hi
    rw [Yz] at a;refine ⟨a,?_⟩
    by_cases e:Xal u=i
    ·rw [←e];exact (Xck hl).1
    ·rw [P.getD_set_ne _ _ _ _ _ e] at b
     exact b
def natsI (l:List Nat):List Int:=l.map fun (i:Nat)=>(i:Int)
structure AllocJ (w:World) (p:Nat) (M:List Nat) (u:List Bool) (pg:Nat→List UInt8) (k i:Nat) (ov:Value) (M':List Nat) (pg':Nat→List UInt8) (w':World):Prop where
 pool:PoolV w' p M' (Xbv u (Xai i u)) pg' (k+2*i)
 same:∀ j,u.getD j false=true→pg' j=pg j
 own:w'.ownsRow 0 3 1 ov i (intsC (natsI (Xai i u)))
 off:∀ k,ov.ownBlock=some k→w.heap.size≤k∧k∉M'
 step:Step M M' w w'
theorem allocs_any {w:World} {p k tb root n:Nat} {M:List Nat} {u:List Bool} {pg:Nat→List UInt8} (hP:PoolV w p M u pg k) (hT:Xax w tb p root) (htb:tb∉M) (hk:k+2*n≤1000000) (hf:n≤u.count false) :
  Calls prog 66 #[.pointer (some ⟨tb,0,none⟩),.int .i64 n] w fun e w'=>∃ ov M' pg',e=.returned (.tuple #[ov,.int .i64 0])∧AllocJ w p M u pg k n ov M' pg' w':=by
 have t0:=hT.cell 0;simp only [Zd,Zb] at t0;have HP:=Th hP;have HF:=Th hf;clear hP hf
 go_enter func66,ntmps66
 go_wp2_with fail
 go_loopg [12,6] n (fun gk s12 s6 wr=>∃ (i:Nat) (ao:Option Addr) (oc:Nat) (M':List Nat) (pg':Nat→List UInt8),gk=n-i∧i≤n∧s12=.int .i64 i∧s6=.slice ao i oc∧AllocJ w p M u pg k i (.slice ao i oc) M' pg' wr)
 case atStart=>exact ⟨0,none,0,M,pg,rfl,Yc _,rfl,rfl,HP.out,fun j hj=>rfl,⟨rfl,.inl ⟨rfl,rfl⟩⟩,fun k hk=>by simp [Value.ownBlock] at hk,Step.refl _ _⟩
 case round =>
  obtain ⟨i,ao,oc,M',pg',hgk,hi,rfl,rfl,hJ⟩:=hrel;have HGK:=Th hgk;have HJ:=Th hJ;clear hgk hJ
  have hi0:(0:Int)≤i:=by omega
  by_cases hlt:i<n
  ·have hlt':(i:Int)<n:=by omega
   have t0':=HJ.out.step.1.cell t0 htb;have hcnt:=Xgs i u (by have:=HF.out;omega)
   have hfl:Xal (Xbv u (Xai i u))<(Xbv u (Xai i u)).length:=Xfp (by have:=HF.out;omega);have AL:=Th (HJ.out.pool.alloc (by omega) hfl);have HFL:=Th hfl;obtain ⟨id,hid⟩:∃ id,Xal (Xbv u (Xai i u))=id:=⟨_,rfl⟩
   have SN:Hid (Xai (i+1) u=Xai i u++[id]∧Xbv u (Xai (i+1) u)=(Xbv u (Xai i u)).set id true):=by
    show _∧_;rw [Xhp,hid,useAll_snoc];exact ⟨rfl,rfl⟩
   rw [hid] at AL
   have FRE:Hid (u.getD id false=false):=by
    show _=_;have h1:=(Xck hfl).1;rw [hid] at h1;cases hu:u.getD id false
    ·rfl
    ·have:=(Xdy (Xai i u) u id (fun x hx=>((Xha i u (by have:=HF.out;omega)).2 x hx).1)).2 (.inl hu)
     rw [this] at h1;cases h1
   clear hcnt hfl hid HFL
   go_wp2_with (first
    | (go_at_call 28;refine AL.out.mono ?_;rintro e w3 ⟨M3,rfl,hP3,hS3⟩;have P3:=Th hP3;have S3:=Th hS3;have OWN:Hid ((w3.alloc (.cells [.int .i64 (id:Int)].toArray 3)).ownsRow 0 3 1 (.slice ao i oc) i (intsC (natsI (Xai i u)))):=Xad (Xab HJ.out.own hS3.1 (fun k hk=>(HJ.out.off k hk).2)) ((Only.refl _ _).alloc _);clear hP3 hS3)
    | (at_builtin;refine Xap rfl (.tmp 38) (.tmp 40) 52 rfl 3 underlying52 (info_parts Xcl) rfl (by decide) (.slice ao i oc) i (intsC (natsI (Xai i u))) rfl OWN.out (some ⟨w3.heap.size,0,none⟩) 1 1 rfl [.int .i64 (id:Int)] rfl (fun _=>⟨_,rfl,fun j u hu=>by rw [Xah,Yd];exact ((Blk.new [.int .i64 (id:Int)] 3 w3).cell j).trans hu⟩) (by intro u hu;simp at hu;subst hu;rfl) (by omega) (by decide) ?_;intro v' w4 hg4;obtain ⟨va,vc,rfl⟩:=hg4.shape;have G4:=Th hg4;clear hg4))
   go_roundg (n-(i+1))
   case measure=>have:=HGK.out;omega
   case rel =>
    refine ⟨i+1,va,vc,M3,upd pg' id zeros,rfl,by omega,by go_num,rfl,?_⟩;have hj:=HJ.out
    have hoff:∀ k,(Value.slice ao i oc).ownBlock=some k→k∉M3:=fun k hk hm=>P.Step.keep S3.out (Xbk hj.own hk) (hj.off k hk).2 hm
    have h34:Only (Value.slice ao i oc).ownBlock.toList w3 w4:=by
     have:=G4.out.only;exact (((Only.refl [] w3).alloc _).mono (M':=(Value.slice ao i oc).ownBlock.toList) (by simp)).trans this (fun x hx=>.inl hx)
    have hsec:NoSec w3 (Value.slice ao i oc).ownBlock.toList:=by
     intro x hx cs hb;obtain ⟨cs',hb'⟩:=Xag (Xab hj.own S3.out.1 (fun k hk=>(hj.off k hk).2)) (by simpa using hx);exact absurd (hb.inj hb').2 (by decide)
    have hst:=hj.step.trans S3.out;refine ⟨?_,?_,?_,?_,?_⟩
    ·rw [SN.out.2]
     exact (P3.out.later h34 hsec (fun x hx hm=>hoff x (by simpa using hm) hx)).more (by omega)
    ·intro j hj2
     rw [Xiw (fun e=>by subst e;rw [FRE.out] at hj2;cases hj2)];exact hj.same j hj2
    ·rw [SN.out.1]
     have:=G4.out.own
     simpa [natsI,intsC] using this
    ·intro k hk
     rcases G4.out.lies k hk with h | h
     ·exact ⟨(hj.off k h).1,hoff k h⟩
     ·have h1:=S3.out.1.size
      have h2:=hj.step.1.size;simp at h;exact ⟨by omega,fun hm=>by have:=P3.out.lt k hm;omega⟩
    ·exact ⟨hst.1.trans h34 (fun x hx=>.inr (hj.off x (by simpa using hx)).1),hst.2⟩
  ·have hin:i=n:=by omega
   subst hin
   have hnlt:¬(i:Int)<i:=by omega
   go_wp2_with fail
   go_ret2;exact ⟨_,rfl,M',pg',HJ.out⟩
end T
end Go.Proofs.YtiijokopcgnokaaGreat
