import Derived.Test.YtiijokopcgnokaaGreatWToB
set_option maxRecDepth 100000
set_option maxHeartbeats 4000000
set_option linter.unusedSimpArgs false
set_option linter.unusedVariables false
namespace Go.Proofs.YtiijokopcgnokaaGreat
namespace T
open Go Go.RowKit D B C G P H Tryz
theorem WayIs.last {H:Nat} {T:Tr H} {x:Pr} {root:Nat} {ms:List MNd} {c:Ctx H 0} {i:Int} {E:List Pr} (h:WayIs T x root ms c i E):∃ ms0 ml,ms=ms0++[ml]∧ms0.map (·.n)=path c i∧ml.n=⟨i,true,E,[]⟩:=snoc_of h.ns
structure LeafOf (u:List Bool) (pg:Nat→List UInt8) (root:Nat) {H:Nat} (T:Tr H) (c:Ctx H 0) (i:Int) (E:List Pr):Prop where
 up:Up E
 fit:fitsP true E=true
 keys:Keys E
 page:∃ id:Nat,i=(id:Nat)∧u.getD id false=true
theorem WayIs.leaf {H:Nat} {T:Tr H} {x:Pr} {root:Nat} {ms:List MNd} {c:Ctx H 0} {i:Int} {E:List Pr} {u:List Bool} {pg:Nat→List UInt8} (h:WayIs T x root ms c i E) (hI:InPages u pg root T):LeafOf u pg root T c i E:=by
 have hp:=Xbb c (.leaf i E);rw [h.plug,Tr.leaf_id,Xan] at hp;have hm:(⟨i,true,E,[]⟩:Nd)∈nodes H T:=hp.mem_iff.2 (by simp);obtain ⟨f1,f2⟩:=hI.fit _ hm;obtain ⟨id,e,hu,_⟩:=hI.page _ hm;refine ⟨?_,f1,f2,id,e,hu⟩;have hr:=hI.ris;rw [←h.plug,Xco c _ h.good,Xcn] at hr;unfold Ris at hr;have h1:=(Zn.1 (Zn.1 hr).1).2.1;exact ris_en h1
theorem hasT_any {w:World} {p k tb root H x:Nat} {M:List Nat} {u:List Bool} {pg:Nat→List UInt8} {T:Tr H} {kv:Value} {l:List UInt8} (hP:PoolV w p M u pg k) (hT:Xax w tb p root) (htb:tb∉M) (hI:InPages u pg root T) (hk:k+2*H≤990000) (hH:H≤1000) (hb:Xae w kv l) (hl:l.length≤300) (hx:x<18446744073709551616) :
  Calls prog 13 #[.pointer (some ⟨tb,0,none⟩),kv,.int .u64 x] w fun e w'=>∃ M',e=.returned (.tuple #[.bool (has (entsT T) (l,x)),.int .i64 0])∧PoolV w' p M' u pg (k+2*(H+1))∧Step M M' w w':=by
 have EN:=Th (Xju hb hl hx hP.lt);obtain ⟨ka,kc,hkv,_⟩:=id hb;subst hkv
 have WAY:Hid (∀ w1 xv,Only [] w w1→KeyOk w1 M (xv,(l,x))→Calls prog 31 #[.pointer (some ⟨tb,0,none⟩),.agg #[xv,.int .u64 x]] w1 fun e w'=>∃ ms c i E ov M',e=.returned (.tuple #[ov,.int .i64 0])∧WayIs T (l,x) root ms c i E∧Nodes w' M' w1.heap.size ms∧PtrRow w' M' w1.heap.size ov ms∧PoolV w' p M' u pg (k+2*(H+1))∧Step M M' w1 w'):=fun w1 xv hO hx1 =>
  way_any (hP.past hO) (by omega) (hO.blk hT (by simp)) htb hI hx1 hH
 have HI:=Th hI;have HPL:=Th hP.lt;have IC:=Xbh;clear hP hT htb hI hb
 go_enter func13,ntmps13
 go_upto_region 2 with (go_at_call 30;refine EN.out.mono ?_;rintro e w1 ⟨v',rfl,hk1,ho1⟩;obtain ⟨qa,qk,hqv,_⟩:=id hk1.bytes;dsimp only at hqv;obtain rfl:v'=_:=hqv;have K1:=Th hk1;have O1:=Th ho1;clear hk1 ho1)
 obtain ⟨w2,hw2⟩:∃ w2,w1.alloc (.cells #[.slice qa l.length qk,.int .u64 x] 43)=w2:=⟨_,rfl⟩
 have O2:Hid (Only [] w1 w2):=by show Only _ _ _;rw [←hw2];exact (Only.refl _ _).alloc _
 have BX:Hid (Blk w2 w1.heap.size [.slice qa l.length qk,.int .u64 x] 43):=by show Blk _ _ _ _;rw [←hw2];exact Blk.new [.slice qa l.length qk,.int .u64 x] 43 w1
 obtain ⟨bx,hbx⟩:∃ bx,w1.heap.size=bx:=⟨_,rfl⟩;rw [hbx] at BX;rw [hw2,hbx];have x0:=BX.out.cell 0;have x1:=BX.out.cell 1;simp only [Zd,Zb] at x0 x1;have WA:=Th (WAY.out w2 _ (O1.out.trans O2.out (by simp)) (K1.out.past O2.out));have HBX:=Th hbx;clear hw2 hbx
 go_upto_region 7 with (go_at_call 31;refine WA.out.mono ?_;rintro e w3 ⟨ms,c,i,E,ov,M3,rfl,hw,hn3,hr3,hp3,hs3⟩;have W3:=Th hw;have N3:=Th hn3;have R3:=Th hr3;have P3:=Th hp3;have S3:=Th hs3;clear hw hn3 hr3 hp3 hs3)
 obtain ⟨ms0,ml,hms,hms0,hml⟩:=W3.out.last;subst hms;have LF:=Th (W3.out.leaf HI.out);obtain ⟨rg,rc,hrv,hrc,hrcell⟩:=R3.out.get (i:=ms0.length) (m:=ml) (by simp);subst hrv;rw [Ze,Zt] at hrc;rw [Ze,Zt];obtain ⟨nm,hnm⟩:∃ nm,ms0.length=nm:=⟨_,rfl⟩
 have hnmb:nm≤1000:=by
  have h1:=congrArg List.length hms0;rw [Zl] at h1;have h2:=Xfg c i;omega
 rw [hnm] at hrc hrcell;rw [hnm];have ML:=Th hml;have A3:=Th (N3.out.at_ ml (by simp));have b3:=A3.out.blk.cell 3;simp only [Zd,Zb] at b3;obtain ⟨ea,ec,hev⟩:=Xac A3.out.ents;rw [hev] at b3;have EV:=Th hev
 have BSF:Hid (∀ w4,Only [] w3 w4→Calls prog 32 #[.slice ea ml.L.length ec,.agg #[.slice qa l.length qk,.int .u64 x],.func (.func 33) #[] #[]] w4 fun e w'=>e=.returned (.tuple #[.int .i64 (low E (l,x):Nat),.bool (has E (l,x))])∧Only [] w4 w'):=fun w4 hO=>by
  have hq:=((K1.out.past O2.out).step S3.out).past hO;have h1:=Xjj (q:=(.slice qa l.length qk,(l,x))) (A3.out.past hO).prs hq.bytes (by rw [A3.out.es,ML.out];exact LF.out.up.weak) (by rw [A3.out.len,ML.out];have:=Xca LF.out.fit;simp only;omega)
  rw [A3.out.es,ML.out,EV.out] at h1;exact h1
 have HAS:Hid (has (entsT T) (l,x)=has E (l,x)):=by
  show _=_;have hr:=HI.out.ris;rw [←W3.out.plug] at hr ⊢;exact Xhh W3.out.good W3.out.sep hr LF.out.up
 have hbxM:bx∉M:=fun hm=>by
  have h1:=HPL.out bx hm;have h2:=O1.out.size;have h3:=HBX.out;omega
 have y0:=S3.out.1.cell x0 hbxM;have y1:=S3.out.1.cell x1 hbxM;obtain ⟨el,hel⟩:∃ el,ml.L.length=el:=⟨_,rfl⟩;rw [hel] at b3 BSF;obtain ⟨lo,hlo⟩:∃ lo,low E (l,x)=lo:=⟨_,rfl⟩;obtain ⟨hb,hhb⟩:∃ hb,has E (l,x)=hb:=⟨_,rfl⟩;rw [hlo,hhb] at BSF;rw [hhb] at HAS
 have BSL:Hid (∀ y:Later w3,Calls prog 32 #[.slice ea el ec,.agg #[.slice qa l.length qk,.int .u64 x],.func (.func 33) #[] #[]] y.v fun e w'=>e=.returned (.tuple #[.int .i64 (lo:Nat),.bool hb])∧∃ z:Later w3,w'=z.v):=fun y=>Calls.later (fun w1 hO=>BSF.out w1 hO) y
 have l0:∀ y:Later w3,y.v.cell? ⟨bx,0,none⟩=some (.slice qa l.length qk):=fun y=>y.cell y0
 have l1:∀ y:Later w3,y.v.cell? ⟨bx,1,none⟩=some (.int .u64 x):=fun y=>y.cell y1
 have l2:∀ y:Later w3,y.v.cell? ⟨ml.nb,3,none⟩=some (.slice ea el ec):=fun y=>y.cell b3
 have l3:∀ y:Later w3,y.v.cell? ⟨rg,nm,none⟩=some (.pointer (some ⟨ml.nb,0,none⟩)):=fun y=>y.cell hrcell
 have hw1:IntKind.i64.wrap (nm:Int)=nm:=by rw [Yi];omega
 have hw2:IntKind.i64.wrap ((nm:Int)+1-1)=nm:=by rw [Yi];omega
 clear hnm hms0 hml hev hel hlo hhb y0 y1 b3 hrcell x0 x1
 refine Xaa (Only.refl _ _) (by kernel_rfl) (by kernel_rfl) ?_
 repeat (go_big_quiet_step ((go_at_call 32;exact BSL.out _)))
 refine wpQuiet_nil ?_
 rintro _ ⟨xq,rfl⟩
 go_wp2_with fail
 go_ret2;exact ⟨M3,by rw [HAS.out];rfl,P3.out.past xq.h,(Step.ahead (O1.out.trans O2.out (by simp)) S3.out).then xq.h⟩
end T
namespace T
open Go Go.RowKit D B C G P H Tryz
theorem Xqa {u:List Bool} {pg:Nat→List UInt8} {root H:Nat} {c:Ctx H 0} {i:Int} {E:List Pr} (hI:InPages u pg root (plug c (.leaf i E))) (j:Nat) (n:Nd) (E2:List Pr) (hn:(path c i++[⟨i,true,E2,[]⟩])[j]?=some n):n.id=(root:Nat)↔j=0:=by
 have hp:=Xbb c (.leaf i E);rw [Tr.leaf_id,Xan] at hp;have honce:=hI.once;rw [(hp.map (·.id)).nodup_iff,Zs] at honce;have h1:=(Xi.1 honce).1
 have e:((path c i++[(⟨i,true,E,[]⟩:Nd)]).map fun n:Nd=>n.id)=((path c i++[(⟨i,true,E2,[]⟩:Nd)]).map fun n:Nd=>n.id):=by simp
 rw [e] at h1;have hh:=Xph c (.leaf i E2);rw [Tr.leaf_id,Tr.leaf_top,Xnj c (.leaf i E2) (.leaf i E) rfl,hI.top] at hh
 have h0:((path c i++[(⟨i,true,E2,[]⟩:Nd)]).map fun n:Nd=>n.id)[0]?=some (root:Int):=by rw [Zr];exact hh
 have hj:((path c i++[(⟨i,true,E2,[]⟩:Nd)]).map fun n:Nd=>n.id)[j]?=some n.id:=by rw [Zr,hn];rfl
 constructor
 ·intro h
  rw [h] at hj;have hl:=(Zh.1 hj).1;exact (List.getElem?_inj hl h1).1 (hj.trans h0.symm)
 ·intro h
  subst h;rw [h0] at hj;exact (Option.some.inj hj).symm
theorem grows_ok {u:List Bool} {pg:Nat→List UInt8} {root H H':Nat} {c:Ctx H 0} {i:Int} {E E':List Pr} {W' F':List Nd} {t':Tr H'} {ws Fm:List MNd} (hI:InPages u pg root (plug c (.leaf i E))) (hg:Good c) (hR:Res c (.leaf i E') [] W' F' t')
  (hns:ws.map (·.n)=W'.reverse) (hfs:Fm.map (·.n)=F') (hroots:∀ (j:Nat) (m:MNd),ws[j]?=some m→m.root=decide (j=0)) (hfr:∀ m∈Fm,m.root=false) (hcount:F'.length≤u.count false) (hul:u.length≤65536) :
  (∀ m∈ws++Fm,∀ x∈m.n.id :: m.n.cs,(0≤x)∨∃ j,j<Fm.length∧x = -1-(j:Int))∧(∀ m∈ws++Fm,m.n.cs.length≤1000000) ∧
  Writable (Xbv u (Xai Fm.length u)) ((ws++Fm).map (renM (ren (Xai Fm.length u) fun x=>x))) ∧
  (∀ pgA pg1,(∀ j,u.getD j false=true→pgA j=pg j)→Wrote pgA pg1 ((ws++Fm).map (renM (ren (Xai Fm.length u) fun x=>x)))→InPages (Xbv u (Xai Fm.length u)) pg1 root (mapT (ren (Xai Fm.length u) fun x=>x) t')) ∧
  ((nodes H' (mapT (ren (Xai Fm.length u) fun x=>x) t')).map (·.id)).Perm ((nodes H (plug c (.leaf i E))).map (·.id)++natsI (Xai Fm.length u)) ∧
  (∀ m∈(ws++Fm).map (renM (ren (Xai Fm.length u) fun x=>x)),m.n.id∈(nodes H' (mapT (ren (Xai Fm.length u) fun x=>x) t')).map (·.id)) ∧
  (∀ j∈Xai Fm.length u,j<u.length∧u.getD j false=false):=by
 have hFl:Fm.length=F'.length:=by rw [←hfs,Zl]
 have hlen:(Xai Fm.length u).length=F'.length:=by rw [Xer,hFl]
 obtain ⟨hnd,hfree⟩:=Xha Fm.length u (by omega);obtain ⟨s1,s2,s3,s4,s5,s6,s7,s8,s9⟩:=split_in hI hg hR hlen hnd hfree hul;generalize Xai Fm.length u=nums at *
 have hmem:∀ m∈ws++Fm,m.n∈W'++F':=fun m hm=>by
  rcases Za.1 hm with h | h
  ·have:m.n∈W'.reverse:=by rw [←hns];exact Zi.2 ⟨m,h,rfl⟩
   exact Yb _ (List.mem_reverse.1 this)
  ·have:m.n∈F':=by rw [←hfs];exact Zi.2 ⟨m,h,rfl⟩
   exact Yk _ this
 have hmap:(((ws++Fm).map (renM (ren nums fun x=>x))).map (·.n)).Perm ((W'++F').map (mapN (ren nums fun x=>x))):=by
  have e:((ws++Fm).map (renM (ren nums fun x=>x))).map (·.n)=(W'.reverse++F').map (mapN (ren nums fun x=>x)):=by
   rw [←hns,←hfs,←Zs,Yw,Yw];rfl
  rw [e];exact ((List.reverse_perm W').append_right F').map _
 refine ⟨fun m hm x hx=>by rw [hFl];exact s1 m.n (hmem m hm) x hx,fun m hm=>Zp (s9 m.n (hmem m hm)) (by omega),⟨fun m hm=>?_,?_⟩,fun pgA pg1 hA hw=>s4 pg1 (fun n hn id hid=>?_) (fun x hx hne=>?_),s8,fun m hm=>?_,hfree⟩
 ·exact s2 m.n (hmap.mem_iff.1 (Zi.2 ⟨m,hm,rfl⟩))
 ·have:=(hmap.map (·.id)).nodup_iff.2 s3
  rw [Yw] at this;exact this
 ·obtain ⟨m,hm,rfl⟩:=Zi.1 (hmap.mem_iff.2 hn)
  have h1:=hw.done m hm id hid;obtain ⟨m0,hm0,rfl⟩:=Zi.1 hm
  have h2:(renM (ren nums fun x=>x) m0).root=decide (id=root):=by
   show m0.root=_;have hid2:ren nums (fun x=>x) m0.n.id=(id:Int):=hid
   have hrootu:u.getD root false=true:=by
    have h3:(plug c (.leaf i E)).top∈nodes H (plug c (.leaf i E)):=by simp [nodes]
    obtain ⟨r,e,hr,_⟩:=hI.page _ h3;rw [Tr.top_id,hI.top] at e
    obtain rfl:root=r:=by omega
    exact hr
   rcases Za.1 hm0 with h | h
   ·obtain ⟨j,hj⟩:=Xr.1 h
    rw [hroots j m0 hj]
    have h4:(W'.reverse)[j]?=some m0.n:=by rw [←hns,Zr,hj];rfl
    have h5:((W'.map (·.id)).reverse)[j]?=some m0.n.id:=by rw [←List.map_reverse,Zr,h4];rfl
    rw [s6,List.reverse_cons,←List.map_reverse,List.reverse_reverse] at h5
    have h6:∃ n,(path c i++[(⟨i,true,E,[]⟩:Nd)])[j]?=some n∧n.id=m0.n.id:=by
     have h7:((path c i++[(⟨i,true,E,[]⟩:Nd)]).map fun n:Nd=>n.id)[j]?=some m0.n.id:=by simpa using h5
     rw [Zr] at h7;exact Xz.1 h7
    obtain ⟨n,h8,h9⟩:=h6;have h10:=Xqa hI j n E h8
    have hpos:0≤m0.n.id:=by
     have h11:n∈nodes H (plug c (.leaf i E)):=by
      have hp:=Xbb c (.leaf i E);rw [Tr.leaf_id,Xan] at hp;exact hp.mem_iff.2 (Yb _ (Zm h8))
     obtain ⟨r,e,_⟩:=hI.page _ h11;omega
    rw [Xeg _ _ hpos] at hid2;refine decide_eq_decide.2 ⟨fun e=>?_,fun e=>?_⟩
    ·have:=h10.2 e;omega
    ·exact h10.1 (by omega)
   ·rw [hfr m0 h]
    have h3:m0.n∈F':=by rw [←hfs];exact Zi.2 ⟨m0,h,rfl⟩
    have h4:m0.n.id∈ids 0 F'.length:=by rw [←s7];exact Zi.2 ⟨m0.n,h3,rfl⟩
    obtain ⟨j,hj,e⟩:=Xie h4;rw [e,Yd,Xfy] at hid2
    have h5:nums.getD j 0∈nums:=by
     rw [Zf,Zc (by omega)];exact Yx _
    refine (decide_eq_false fun e2=>?_).symm;have h6:=(hfree _ h5).2;rw [show nums.getD j 0=root by omega,hrootu] at h6;cases h6
  rw [h2] at h1;exact h1
 ·rw [hw.same x (fun m hm e=>?_),hA x hx]
  exact hne m.n (hmap.mem_iff.1 (Zi.2 ⟨m,hm,rfl⟩)) e
 ·exact (s5.map (·.id)).mem_iff.2 (by rw [Zs];exact Yb _ (Zi.2 ⟨m.n,hmap.mem_iff.1 (Zi.2 ⟨m,hm,rfl⟩),rfl⟩))
end T
namespace T
open Go Go.RowKit D B C G P H Tryz
theorem insert_long {w:World} {tb x:Nat} {kv:Value} {l:List UInt8} (hb:Xae w kv l) (hl:300<l.length) :
  Calls prog 11 #[.pointer (some ⟨tb,0,none⟩),kv,.int .u64 x] w fun e w'=>e=.returned (.int .i64 80)∧Only [] w w':=by
 have EN:=Th (Xhz hb hl x);obtain ⟨ka,kc,hkv,_⟩:=id hb;subst hkv;clear hb hl
 go_enter func11,ntmps11
 go_wp2_with (go_at_call 30;refine EN.out.mono ?_;rintro e w1 ⟨rfl,ho1⟩;have O1:=Th ho1;clear ho1)
 go_ret;refine ⟨by rfl,O1.out.trans (M':=[]) ((Only.refl _ _).alloc _) (by simp)⟩
structure OpRes (w w':World) (p:Nat) (M:List Nat) (u:List Bool) (pg:Nat→List UInt8) (k' root:Nat) {H:Nat} (T:Tr H) (l':List Pr) (M':List Nat) (u':List Bool) (pg':Nat→List UInt8) {H':Nat} (T':Tr H'):Prop where
 pool:PoolV w' p M' u' pg' k'
 tree:InPages u' pg' root T'
 ents:entsT T'=l'
 few:(nodes H' T').length≤mostP l'
 len:u'.length=u.length
 used:∀ j:Nat,u'.getD j false=true↔(u.getD j false=true∧∀ n∈nodes H T,n.id≠(j:Nat))∨∃ n∈nodes H' T',n.id=(j:Nat)
 same:∀ j:Nat,u.getD j false=true→(∀ n∈nodes H T,n.id≠(j:Nat))→pg' j=pg j
 fresh:∀ j:Nat,(∃ n∈nodes H' T',n.id=(j:Nat))→(∃ n∈nodes H T,n.id=(j:Nat))∨u.getD j false=false
 kept:∀ Q:Pr→Prop,AllQ Q (nodes H T)→(∀ e∈l',Q e)→AllQ Q (nodes H' T')
 step:Step M M' w w'
theorem Nodes.turnN {w w':World} {M:List Nat} {base:Nat} {A B:List MNd} {m m':MNd} (h:Nodes w M base (A++m :: B)) (hT:Turn w w' M m m') (hb:base≤w.heap.size):Nodes w' M base (A++m' :: B):=by
 have hm:=h.at_ m (by simp);have hpw:=Zn.1 h.apart;have hpc:=Yh.1 hpw.2.1
 have hoth:∀ x,x∈A∨x∈B→NodeAt w' M x∧Apart m' x:=fun x hx=>hT.other hm (h.at_ x (by rcases hx with hx | hx <;> simp [hx])) (by
  rcases hx with hx | hx
  ·exact (hpw.2.2 x hx m (by simp)).symm
  ·exact hpc.1 x hx)
 have hin:∀ x∈A++m' :: B,x=m'∨x∈A∨x∈B:=fun x hx=>by
  rcases Za.1 hx with h1 | h1
  ·exact .inr (.inl h1)
  ·rcases Zg.1 h1 with h2 | h2
   ·exact .inl h2
   ·exact .inr (.inr h2)
 refine ⟨fun x hx=>?_,fun x hx y hy=>?_,Zn.2 ⟨hpw.1,Yh.2 ⟨fun x hx=>(hoth x (.inr hx)).2,hpc.2⟩,fun x hx y hy=>?_⟩⟩
 ·rcases hin x hx with h1 | h1
  ·rw [h1];exact hT.at_
  ·exact (hoth x h1).1
 ·rcases hin x hx with h1 | h1
  ·rw [h1] at hy
   rcases hT.new y hy with h2 | h2
   ·exact h.new m (by simp) y h2
   ·omega
  ·exact h.new x (by rcases h1 with h1 | h1 <;> simp [h1]) y hy
 ·rcases Zg.1 hy with h2 | h2
  ·rw [h2];exact (hoth x (.inl hx)).2.symm
  ·exact hpw.2.2 x hx y (by simp [h2])
theorem Xpi {w w':World} {p k:Nat} {M:List Nat} {u:List Bool} {pg:Nat→List UInt8} {m m':MNd} (h:PoolV w p M u pg k) (hT:Turn w w' M m m') (hm:NodeAt w M m):PoolV w' p M u pg k :=
 h.later hT.only (fun x hx cs hb=>hm.no hb (by decide) hx) (fun x hx hx2=>hm.off x hx2 hx)
theorem Xfu {l:List Pr} {x:Pr}:mostP l≤mostP (insP l x):=by
 have h1:(insP l x).length=l.length+1:=by
  have:=Xet l x;unfold insP
  simp only [Ze,Zz,Zj,Zy];omega
 have h2:lenE l≤lenE (insP l x):=by
  have e:lenE l=lenE (l.take (low l x))+lenE (l.drop (low l x)):=by rw [←Xcd,Yf]
  unfold insP;rw [Xcd,e];simp only [lenE,Zx,List.sum_cons];omega
 unfold mostP;rw [h1,if_neg (show ¬l.length+1=0 by omega)]
 split <;> omega
theorem Xlo {w:World} {p k tb root H x:Nat} {M:List Nat} {u:List Bool} {pg:Nat→List UInt8} {T:Tr H} {kv:Value} {l:List UInt8} {hb0:Bool} {F0:Nat} (hP:PoolV w p M u pg k) (hT:Xax w tb p root) (htb:tb∉M) (hI:InPages u pg root T) (hk:k+8*(nodes H T).length+8*F0≤900000) (hb:Xae w kv l) (hl:l.length≤300) (hx:x<18446744073709551616)
  (hH:H≤1000) (hF:F0≤60000) (he:(entsT T).length≤99000) (hmost:(nodes H T).length≤mostP (entsT T)) (hhas:has (entsT T) (l,x)=hb0)
  (hroom:∀ (c:Ctx H 0) (i:Int) (E:List Pr) (W' F':List Nd),plug c (.leaf i E)=T→Good c→Splits ⟨i,true,insP E (l,x),[]⟩ (path c i).reverse [] W' F'→F'.length≤u.count false∧F'.length≤F0) :
  Calls prog 11 #[.pointer (some ⟨tb,0,none⟩),kv,.int .u64 x] w fun e w' =>
   (hb0=true∧∃ M',e=.returned (.int .i64 81)∧PoolV w' p M' u pg (k+2*(H+1))∧Step M M' w w') ∨
   (hb0=false∧∃ M' u' pg' H' T',e=.returned (.int .i64 0)∧OpRes w w' p M u pg (k+6*(nodes H T).length+6*F0+2*(nodes H' T').length) root T (insP (entsT T) (l,x)) M' u' pg' (H':=H') T'):=by
 have EN:=Th (Xju hb hl hx hP.lt);obtain ⟨ka,kc,hkv,_⟩:=id hb;subst hkv;have hN1:=Xct hI.wf
 have WAY:Hid (∀ w1 xv,Only [] w w1→KeyOk w1 M (xv,(l,x))→Calls prog 31 #[.pointer (some ⟨tb,0,none⟩),.agg #[xv,.int .u64 x]] w1 fun e w'=>∃ ms c i E ov M',e=.returned (.tuple #[ov,.int .i64 0])∧WayIs T (l,x) root ms c i E∧Nodes w' M' w1.heap.size ms∧PtrRow w' M' w1.heap.size ov ms∧PoolV w' p M' u pg (k+2*(H+1))∧Step M M' w1 w'):=fun w1 xv hO hx1 =>
  way_any (hP.past hO) (by omega) (hO.blk hT (by simp)) htb hI hx1 hH
 have HI:=Th hI;have HT:=Th hT;have HTB:=Th htb;have HPL:=Th hP.lt;have HK:=Th hk;have HF:=Th hF;have HE:=Th he;have HM:=Th hmost;have HHAS:=Th hhas;have HRM:=Th hroom;have HN1:=Th hN1;have USZ:=Th hP.size;have IC:=Xbh;clear hP hT htb hI hb hk hF he hmost hhas hroom hN1
 go_enter func11,ntmps11
 go_upto_region 2 with (go_at_call 30;refine EN.out.mono ?_;rintro e w1 ⟨v',rfl,hk1,ho1⟩;obtain ⟨qa,qk,hqv,_⟩:=id hk1.bytes;dsimp only at hqv;obtain rfl:v'=_:=hqv;have K1:=Th hk1;have O1:=Th ho1;clear hk1 ho1)
 obtain ⟨w2,hw2⟩:∃ w2,w1.alloc (.cells #[.slice qa l.length qk,.int .u64 x] 43)=w2:=⟨_,rfl⟩
 have O2:Hid (Only [] w1 w2):=by show Only _ _ _;rw [←hw2];exact (Only.refl _ _).alloc _
 have BX:Hid (Blk w2 w1.heap.size [.slice qa l.length qk,.int .u64 x] 43):=by show Blk _ _ _ _;rw [←hw2];exact Blk.new [.slice qa l.length qk,.int .u64 x] 43 w1
 obtain ⟨bx,hbx⟩:∃ bx,w1.heap.size=bx:=⟨_,rfl⟩;rw [hbx] at BX;rw [hw2,hbx];have x0:=BX.out.cell 0;have x1:=BX.out.cell 1;simp only [Zd,Zb] at x0 x1;have O12:=Th (O1.out.trans O2.out (by simp));have WA:=Th (WAY.out w2 _ O12.out (K1.out.past O2.out));have HBX:=Th hbx;clear hw2 hbx
 go_upto_region 7 with (go_at_call 31;refine WA.out.mono ?_;rintro e w3 ⟨ms,c,i,E,ov,M3,rfl,hw,hn3,hr3,hp3,hs3⟩;have W3:=Th hw;have N3:=Th hn3;have R3:=Th hr3;have P3:=Th hp3;have S3:=Th hs3;clear hw hn3 hr3 hp3 hs3)
 obtain ⟨ms0,ml,hms,hms0,hml⟩:=W3.out.last;subst hms;have LF:=Th (W3.out.leaf HI.out);obtain ⟨rg,rc,hrv,hrc,hrcell⟩:=R3.out.get (i:=ms0.length) (m:=ml) (by simp);subst hrv;rw [Ze,Zt] at hrc;rw [Ze,Zt];obtain ⟨nm,hnm⟩:∃ nm,ms0.length=nm:=⟨_,rfl⟩
 have hnmH:nm=H:=by
  have h1:=congrArg List.length hms0;rw [Zl] at h1;have h2:=Xfg c i;omega
 subst hnmH;rw [hnm] at hrc hrcell;rw [hnm];have NM:=Th hnm;have MS0:=Th hms0;have ML:=Th hml;have A3:=Th (N3.out.at_ ml (by simp));have b3:=A3.out.blk.cell 3;simp only [Zd,Zb] at b3;obtain ⟨ea,ec,hev⟩:=Xac A3.out.ents;rw [hev] at b3;have EV0:=Th hev
 have BSF:Hid (∀ w4,Only [] w3 w4→Calls prog 32 #[.slice ea ml.L.length ec,.agg #[.slice qa l.length qk,.int .u64 x],.func (.func 33) #[] #[]] w4 fun e w'=>e=.returned (.tuple #[.int .i64 (low E (l,x):Nat),.bool (has E (l,x))])∧Only [] w4 w'):=fun w4 hO=>by
  have hq:=((K1.out.past O2.out).step S3.out).past hO;have h1:=Xjj (q:=(.slice qa l.length qk,(l,x))) (A3.out.past hO).prs hq.bytes (by rw [A3.out.es,ML.out];exact LF.out.up.weak) (by rw [A3.out.len,ML.out];have:=Xca LF.out.fit;simp only;omega)
  rw [A3.out.es,ML.out,EV0.out] at h1;exact h1
 have HAS:Hid (has E (l,x)=hb0):=by
  show _=_;have hr:=HI.out.ris;have h1:=HHAS.out;rw [←W3.out.plug] at hr h1;rw [←Xhh W3.out.good W3.out.sep hr LF.out.up];exact h1
 have hbxM:bx∉M:=fun hm=>by
  have h1:=HPL.out bx hm;have h2:=O1.out.size;have h3:=HBX.out;omega
 have y0:=S3.out.1.cell x0 hbxM;have y1:=S3.out.1.cell x1 hbxM;have Y0:=Th y0;have Y1:=Th y1;obtain ⟨el,hel⟩:∃ el,ml.L.length=el:=⟨_,rfl⟩
 have hel2:E.length=el:=by rw [←hel,A3.out.len,ML.out]
 have helb:el≤50:=by rw [←hel2];exact Xca LF.out.fit
 rw [hel] at b3 BSF hev;have EV:=Th hev;have EL:=Th hel2;have LLE:=Th hel;have B3:=Th b3;obtain ⟨lo,hlo⟩:∃ lo,low E (l,x)=lo:=⟨_,rfl⟩
 have hlob:lo≤el:=by rw [←hlo,←hel2];exact Xet _ _
 have LO:=Th hlo;rw [hlo,HAS.out] at BSF
 have BSL:Hid (∀ y:Later w3,Calls prog 32 #[.slice ea el ec,.agg #[.slice qa l.length qk,.int .u64 x],.func (.func 33) #[] #[]] y.v fun e w'=>e=.returned (.tuple #[.int .i64 (lo:Nat),.bool hb0])∧∃ z:Later w3,w'=z.v):=fun y=>Calls.later (fun w1 hO=>BSF.out w1 hO) y
 have l0:∀ y:Later w3,y.v.cell? ⟨bx,0,none⟩=some (.slice qa l.length qk):=fun y=>y.cell y0
 have l1:∀ y:Later w3,y.v.cell? ⟨bx,1,none⟩=some (.int .u64 x):=fun y=>y.cell y1
 have l2:∀ y:Later w3,y.v.cell? ⟨ml.nb,3,none⟩=some (.slice ea el ec):=fun y=>y.cell b3
 have hw1:IntKind.i64.wrap (nm:Int)=nm:=by rw [Yi];omega
 clear hnm hms0 hml hev hel hlo y0 y1 b3 x0 x1 hel2 hbxM
 go_upto_region 8 with fail
 clear hrcell hw1
 refine Xaa (Only.refl _ _) (by kernel_rfl) (by kernel_rfl) ?_
 repeat (go_big_quiet_step ((go_at_call 32;exact BSL.out _)))
 refine wpQuiet_nil ?_
 rintro _ ⟨xq,rfl⟩;obtain ⟨w4,O4,hw4⟩:∃ w4,Hid (Only [] w3 w4)∧xq.v=w4:=⟨xq.v,Th xq.h,rfl⟩;rw [hw4];clear hw4 l0 l1 l2 BSL BSF
 cases hb0 with
 | true =>
  go_wp2_with fail
  go_ret;exact ⟨rfl,M3,P3.out.past O4.out,(Step.ahead O12.out S3.out).then O4.out⟩
 | false =>
  go_upto_region 11 with fail
  have S4:Hid (Step M M3 w2 w4):=S3.out.then O4.out
  have P4:Hid (PoolV w4 p M3 u pg (k+2*(nm+1))):=P3.out.past O4.out;have N4:Hid (Nodes w4 M3 w2.heap.size (ms0++[ml])):=N3.out.past O4.out
  have R4:Hid (PtrRow w4 M3 w2.heap.size (.slice (some ⟨rg,0,none⟩) (nm+1) rc) (ms0++[ml])):=by
   show PtrRow _ _ _ _ _;have:=R3.out.past O4.out;rw [Ze,Zt,NM.out] at this;exact this
  have A4:Hid (NodeAt w4 M3 ml):=A3.out.past O4.out;have K4:Hid (KeyOk w4 M3 (.slice qa l.length qk,(l,x))):=((K1.out.past O2.out).step S3.out).past O4.out;have y0:=O4.out.cell Y0.out (by simp);have y1:=O4.out.cell Y1.out (by simp);have b3:=O4.out.cell B3.out (by simp)
  have OE4:Hid (w4.ownsRow 0 43 2 (.slice ea el ec) el (kvsC ml.L)):=by show World.ownsRow _ _ _ _ _ _ _;have:=A4.out.ents;rw [EV.out,LLE.out] at this;exact this
  clear A3 P3 N3 R3;refine Xbw [(11,fun w'=>w'.cell? ⟨ml.nb,3,none⟩=some (.slice ea el ec)),(7,fun w'=>w'.cell? ⟨bx,0,none⟩=some (.slice qa l.length qk)∧w'.cell? ⟨bx,1,none⟩=some (.int .u64 x))] (by kernel_rfl) (by simp;exact ⟨((Only.refl [] _).drew).cell b3 (by simp),((Only.refl [] _).drew).cell y0 (by simp),((Only.refl [] _).drew).cell y1 (by simp)⟩) (fun hHeld=>?_)
  refine wkA 0 48 (.pointer (some ⟨ml.nb,0,none⟩)) hHeld fun hHeld=>?_
  refine wkA 1 49 (.pointer (some ⟨ml.nb,0,none⟩)) hHeld fun hHeld=>?_
  refine wkA 2 50 (.pointer (some ⟨ml.nb,0,none⟩)) hHeld fun hHeld=>?_
  refine wkA 3 51 (.pointer (some ⟨ml.nb,3,none⟩)) hHeld fun hHeld=>?_
  refine Xbc 4 52 (.slice ea el ec) 0 11 rfl rfl rfl (by kernel_rfl) (by kernel_rfl) (by kernel_rfl) (by kernel_rfl) (by rfl) (by kernel_rfl) (fun _ _ _ h=>h) (Or.inl ⟨by rfl,fun w1 hw1=>by go_simp⟩) hHeld (fun hHeld=>?_)
  (try simp only [Act.put,qSa,qSz,qSs])
  refine wkA 5 53 (.int .i64 lo) hHeld fun hHeld=>?_
  refine Xbc 6 54 (.agg #[.slice qa l.length qk,.int .u64 x]) 1 7 rfl rfl rfl (by kernel_rfl) (by kernel_rfl) (by kernel_rfl) (by kernel_rfl) (by rfl) (by kernel_rfl) (fun _ _ _ h=>h) (Or.inl ⟨by rfl,fun w1 hw1=>by obtain ⟨hc2,hc3⟩:=hw1;go_simp⟩) hHeld (fun hHeld=>?_)
  (try simp only [Act.put,qSa,qSz,qSs])
  refine woneA 7 fun K hK=>?_
  go_wp2_with fail
  obtain ⟨w5,hw5⟩:∃ w5,(w4.alloc (.cells #[.slice qa l.length qk,.int .u64 x] 43)).drew=w5:=⟨_,rfl⟩
  have O5:Hid (Only [] w4 w5):=by show Only _ _ _;rw [←hw5];exact ((Only.refl _ _).alloc _).drew
  have NB5:Hid (Blk w5 w4.heap.size [.slice qa l.length qk,.int .u64 x] 43):=by show Blk _ _ _ _;rw [←hw5];exact Blk.new [.slice qa l.length qk,.int .u64 x] 43 w4
  rw [hw5];have b35:=O5.out.cell b3 (by simp);refine hK.out _ _ (held2 (.inr b35) (.inl (by rfl))) (fun hHeld=>?_);clear hK K hw5 y0 y1 b3
  (try simp only [Act.put,qSa,qSz,qSs])
  have INS:Hid (Calls prog 34 #[.slice ea el ec,.int .i64 lo,.slice (some ⟨w4.heap.size,0,none⟩) 1 1] w5 fun e w'=>∃ v',e=.returned v'∧Grew w5 w' 43 2 (.slice ea el ec) v' (el+1) ((kvsC ml.L).take (lo*2)++kvC (.slice qa l.length qk,(l,x))++(kvsC ml.L).drop (lo*2))) :=
   I.slInsert_any (Xad OE4.out O5.out) NB5.out rfl (fun k' hk' e=>by have:=Xbk OE4.out hk';omega) hlob (Xdh A4.out.keys) (by intro u hu;simp [kvC] at hu;rcases hu with rfl | rfl <;> rfl) (by omega)
  refine woneA 8 fun K hK=>?_
  go_wp2_with (go_at_call 34;refine INS.out.mono ?_;rintro e w6 ⟨v',rfl,hg6⟩)
  obtain ⟨va6,vc6,rfl⟩:=hg6.shape
  have hLN:ml.n.es.length=el:=by rw [ML.out];exact EL.out
  obtain ⟨k4,kf,hT6⟩:=Xka (q:=(.slice qa l.length qk,(l,x))) (c:=lo) (A4.out.past O5.out) (fun x hx=>by have:=P4.out.lt x hx;have:=O5.out.size;omega) (K4.out.past O5.out) (by rw [hLN];exact EV.out) (by rw [hLN];exact hlob) (by rw [hLN];exact hg6);rw [hLN] at k4;refine hK.out _ _ (held2 (.inr k4) (.inl (by rfl))) (fun hHeld=>?_);clear hK K
  (try simp only [Act.put,qSa,qSz,qSs])
  refine wkA 9 57 (.pointer (some ⟨ml.nb,0,none⟩)) hHeld fun hHeld=>?_
  refine wkA 10 58 (.pointer (some ⟨ml.nb,3,none⟩)) hHeld fun hHeld=>?_
  refine woneA 11 fun K hK=>?_
  go_wp2_with fail
  refine hK.out _ _ (held2 (.inl (by rfl)) (.inl (by rfl))) (fun hHeld=>?_);clear hK K hHeld
  (try simp only [Act.put,qSa,qSz,qSs])
  refine wdone (by kernel_rfl) ?_ _;obtain ⟨m7,hm7⟩:∃ m7,ml.insE (.slice va6 (el+1) vc6) lo (.slice qa l.length qk,(l,x))=m7:=⟨_,rfl⟩;obtain ⟨w7,hw7⟩:∃ w7,w6.setCell ⟨ml.nb,3,none⟩ (.slice va6 (el+1) vc6)=w7:=⟨_,rfl⟩;rw [hm7,hw7] at hT6;rw [hw7];have T7:=Th (Turn.ahead O5.out hT6)
  have N7:Hid (m7.nb=ml.nb∧m7.root=ml.root∧m7.n=⟨i,true,insP E (l,x),[]⟩):=by
   show _∧_∧_;rw [←hm7];refine ⟨rfl,rfl,?_⟩;rw [MNd.insE,ML.out];simp only [insP,LO.out]
  have NS7:Hid (Nodes w7 M3 w2.heap.size (ms0++[m7])):=N4.out.turnN T7.out (by have h1:=S3.out.1.size;have h2:=O4.out.size;omega);have R7:Hid (PtrRow w7 M3 w2.heap.size (.slice (some ⟨rg,0,none⟩) (nm+1) rc) (ms0++[m7])):=(R4.out.turn T7.out A4.out).congr (by simp [ptrN,N7.out.1]);have P7:Hid (PoolV w7 p M3 u pg (k+2*(nm+1))):=Xpi P4.out T7.out A4.out
  have HKE:Hid (Keys (insP E (l,x))):=fun e he=>by
   rcases Xdt.1 he with h | h
   ·rw [h];exact ⟨hl,hx⟩
   ·exact LF.out.keys e h
  have LN7:Hid ((insP E (l,x)).length=el+1):=by
   show _=_;have h1:=Xet E (l,x);rw [←EL.out];unfold insP
   simp only [Ze,Zz,Zj,Zy];omega
  have A7:=Th (NS7.out.at_ m7 (by simp));have FT:=Th (Xdr A7.out (by rw [N7.out.2.2];exact HKE.out) (by rw [N7.out.2.2];simp only;rw [LN7.out];omega))
  rw [N7.out.1] at FT
  have hn7:m7.n.leaf=true∧m7.n.es=insP E (l,x):=by rw [N7.out.2.2];exact ⟨rfl,rfl⟩
  rw [hn7.1,hn7.2] at FT;have EI:=Th (ents_insert (i:=i) (j:=i) W3.out.good W3.out.sep (by rw [W3.out.plug];exact HI.out.ris) LF.out.up HAS.out)
  have OW7:Hid (Only (M++ml.blocks) w w7):=by
   show Only _ _ _;have h1:=(Step.ahead O12.out S4.out).1;exact (h1.mono (fun x hx=>.inl (Yb _ hx))).trans T7.out.only (fun x hx=>.inl (Yk _ hx))
  have MLN:Hid (∀ x∈ml.blocks,w2.heap.size≤x):=N4.out.new ml (by simp)
  have T7T:Hid (Xax w7 tb p root):=OW7.out.blk HT.out (fun hm=>by
   rcases Za.1 hm with h | h
   ·exact HTB.out h
   ·have h1:=MLN.out tb h;have h2:=HT.out.lt;have h3:=O12.out.size;omega)
  have TB3:Hid (tb∉M3):=P.Step.keep (Step.ahead O12.out S4.out) HT.out.lt HTB.out;have t0:=T7T.out.cell 0;simp only [Zb] at t0;clear hT6 hg6 k4 kf b35 hm7 hw7 hn7 hLN hlob
  by_cases hf:fitsP true (insP E (l,x))=true
  ·rw [hf] at FT
   have HFT:=Th hf;clear hf;obtain ⟨id,hid,hui⟩:=LF.out.page;have HID:=Th hid;have WR:=Th (Xhv (id:=id) P7.out (by have:=HK.out;have:=HN1.out;omega) A7.out (by rw [N7.out.2.2];exact hid) hui (by rw [N7.out.2.2];exact HKE.out) (by rw [N7.out.2.2];exact ⟨rfl,by simp⟩) (by rw [N7.out.2.2];exact HFT.out))
   rw [N7.out.1] at WR;clear hid hui
   go_wp2_with (first
    | (go_at_call 35;refine FT.out.mono ?_;rintro e w8 ⟨rfl,rfl⟩)
    | (go_at_call 29;refine WR.out.mono ?_;rintro e w8 ⟨M8,q8,rfl,hq8,hP8,hS8⟩;have Q8:=Th hq8;have P8:=Th hP8;have S8:=Th hS8;clear hq8 hP8 hS8))
   go_ret;have hT:=W3.out.plug
   have hin:InPages u pg root (plug c (.leaf i E)):=by rw [hT];exact HI.out
   have hrt:m7.root=decide (id=root):=by
    rw [N7.out.2.1,W3.out.roots ml (by simp),ML.out];show decide (i=(root:Int))=_
    refine decide_eq_decide.2 ?_
    have:=HID.out;omega
   have hq:Xel (decide (id=root)) ⟨i,true,insP E (l,x),[]⟩ (upd pg id q8 id):=by
    rw [Xjh,←hrt,←N7.out.2.2];exact Q8.out
   have hnew:=leaf_in (pg1:=upd pg id q8) hin W3.out.good HID.out HFT.out HKE.out EI.out.1 hq (fun y hy=>Xiw hy);have hp1:=Xbb c (.leaf i E);have hp2:=Xbb c (.leaf i (insP E (l,x)));rw [Tr.leaf_id,Xan] at hp1 hp2;rw [hT] at hp1
   have hids:((nodes nm (plug c (.leaf i (insP E (l,x))))).map (·.id)).Perm ((nodes nm T).map (·.id)):=by
    refine (hp2.map (·.id)).trans (List.Perm.trans (List.Perm.of_eq ?_) (hp1.map (·.id)).symm);simp
   have hex:∀ j:Nat,(∃ n∈nodes nm (plug c (.leaf i (insP E (l,x)))),n.id=(j:Nat))↔∃ n∈nodes nm T,n.id=(j:Nat):=fun j=>by
    constructor
    ·rintro ⟨n,hn,e⟩
     obtain ⟨m,hm,e2⟩:=Zi.1 (hids.mem_iff.1 (Zi.2 ⟨n,hn,rfl⟩));exact ⟨m,hm,by rw [e2,e]⟩
    ·rintro ⟨n,hn,e⟩
     obtain ⟨m,hm,e2⟩:=Zi.1 (hids.mem_iff.2 (Zi.2 ⟨n,hn,rfl⟩));exact ⟨m,hm,by rw [e2,e]⟩
   have hlen:(nodes nm (plug c (.leaf i (insP E (l,x))))).length=(nodes nm T).length:=by have:=hids.length_eq;simpa using this
   refine ⟨rfl,M8,u,upd pg id q8,nm,plug c (.leaf i (insP E (l,x))),P8.out.more (by have:=HN1.out;omega),hnew,?_,?_,rfl,fun j=>?_,fun j hj hne=>?_,fun j hj=>.inl ((hex j).1 hj),fun Q hQ hl' n hn=>?_,?_,fun y hy=>?_⟩
   ·rw [EI.out.2,hT]
   ·rw [hlen]
    exact Zp HM.out Xfu
   ·rw [hex]
    constructor
    ·intro hu
     by_cases hx:∃ n∈nodes nm T,n.id=(j:Nat)
     ·exact .inr hx
     ·exact .inl ⟨hu,fun n hn e=>hx ⟨n,hn,e⟩⟩
    ·rintro (⟨h,_⟩ | ⟨n,hn,e⟩)
     ·exact h
     ·obtain ⟨id2,h2,h3,_⟩:=HI.out.page n hn
      obtain rfl:id2=j:=by omega
      exact h3
   ·refine Xiw (fun e=>?_)
    subst e;exact hne ⟨i,true,E,[]⟩ (hp1.mem_iff.2 (by simp)) HID.out
   ·rcases Za.1 (hp2.mem_iff.1 hn) with h | h
    ·rcases Za.1 h with h | h
     ·exact hQ n (hp1.mem_iff.2 (by simp [h]))
     ·rw [Zo] at h
      subst h;intro e he
      rcases Xdt.1 he with h9 | h9
      ·rw [h9];exact hl' _ (Xdt.2 (.inl rfl))
      ·exact hQ ⟨i,true,E,[]⟩ (hp1.mem_iff.2 (by simp)) e h9
    ·exact hQ n (hp1.mem_iff.2 (by simp [h]))
   ·refine (OW7.out.trans S8.out.1 (fun y hy=>?_)).mono (fun y hy=>?_)
    ·rcases (Step.ahead O12.out S4.out).2 y hy with h | h
     ·exact .inl (Yb _ h)
     ·exact .inr h
    ·rcases Za.1 hy with h | h
     ·exact .inl h
     ·exact .inr (Zp O12.out.size (MLN.out y h))
   ·rcases S8.out.2 y hy with h | h
    ·exact (Step.ahead O12.out S4.out).2 y h
    ·exact .inr (Zp OW7.out.size h)
  ·rw [Bool.not_eq_true] at hf
   rw [hf] at FT;have HFT:=Th hf;clear hf
   go_upto_region 15 with (go_at_call 35;refine FT.out.mono ?_;rintro e w8 ⟨rfl,rfl⟩)
   obtain ⟨wg,hwg⟩:∃ wg,w7.alloc (.cells #[.slice none 0 0] 89)=wg:=⟨_,rfl⟩
   have OG:Hid (Only [] w7 wg):=by show Only _ _ _;rw [←hwg];exact (Only.refl _ _).alloc _
   have BG:Hid (Blk wg w7.heap.size [.slice none 0 0] 89):=by show Blk _ _ _ _;rw [←hwg];exact Blk.new [.slice none 0 0] 89 w7
   rw [hwg];obtain ⟨gb,hgb⟩:∃ gb,w7.heap.size=gb:=⟨_,rfl⟩;rw [hgb] at BG;rw [hgb];have GBE:=Th hgb;have hT:=W3.out.plug
   have hin:InPages u pg root (plug c (.leaf i E)):=by rw [hT];exact HI.out
   have HIN:=Th hin
   obtain ⟨W',F',H',t',hsp,hres⟩:=Xkr c (.leaf i (insP E (l,x))) [] W3.out.good trivial EI.out.1 HKE.out (fun y hy=>by
    have hp:=Xbb c (.leaf i E);rw [Tr.leaf_id,Xan] at hp
    exact hin.fit y (hp.mem_iff.2 (Yb _ (Yb _ hy))))
   rw [Tr.leaf_top,Tr.leaf_id] at hsp;have hrm:=HRM.out c i E W' F' hT W3.out.good hsp;have HSP:=Th hsp;have HRES:=Th hres;have HRC:=Th hrm
   have hrow:∃ cur cap,Blk w7 rg cur 75∧nm+1≤cap∧cap≤cur.length∧rc=cap∧cur.take (nm+1)=(ms0++[m7]).map ptrN:=by
    have h1:=R7.out.own;rw [Ze,Zt,NM.out] at h1
    rcases (RowOn.of h1).2 with ⟨h2,_⟩ | ⟨g,cap,cur,h2,h3,h4,h5,h6⟩
    ·cases h2
    ·simp only [Value.slice.injEq,Zw,Addr.mk.injEq,and_true,true_and] at h2
     obtain ⟨rfl,rfl⟩:=h2;exact ⟨cur,rc,h3,h4,by omega,rfl,by rw [Wi] at h6;exact h6⟩
   obtain ⟨rcs,rcap,hrb,hrcap,hrcl,rfl,htake⟩:=hrow;have HTK:=Th htake;have HRCL:=Th hrcl
   have SA:Hid (SplAt wg M3 w2.heap.size gb (.slice none 0 0) rg rcs (ms0++[m7]) []):=by
    refine ⟨by rw [Xj];exact NS7.out.past OG.out,⟨BG.out,⟨⟨rfl,.inl ⟨rfl,rfl⟩⟩,fun k hk=>(by cases hk)⟩⟩,OG.out.blk hrb (by simp),fun j m hm=>?_,by simp [Value.ownBlock]⟩;have hj:=(Zh.1 hm).1
    have h1:((ms0++[m7]).map ptrN)[j]?=some (ptrN m):=by rw [Zr,hm];rfl
    rw [←htake,Yq] at h1;split at h1
    ·exact h1
    ·cases h1
   have hpathn:(ms0++[m7]).map (·.n)=path c i++[⟨i,true,insP E (l,x),[]⟩]:=by rw [Zs,MS0.out,Zx,Wu,N7.out.2.2]
   have hpin:∀ y∈path c i,y∈nodes nm (plug c (.leaf i E)):=fun y hy=>by
    have hp:=Xbb c (.leaf i E);rw [Tr.leaf_id,Xan] at hp;exact hp.mem_iff.2 (Yb _ (Yb _ hy))
   have hrts:∀ (j:Nat) (f:MNd),(ms0++[m7])[j]?=some f→f.root=decide (j=0):=fun j f hf=>by
    have h1:(path c i++[(⟨i,true,insP E (l,x),[]⟩:Nd)])[j]?=some f.n:=by rw [←hpathn,Zr,hf];rfl
    have h2:=Xqa hin j f.n _ h1
    have h3:f.root=decide (f.n.id=(root:Int)):=by
     rcases Za.1 (Zm hf) with h | h
     ·exact W3.out.roots f (by simp [h])
     ·rw [Zo.1 h,N7.out.2.1,W3.out.roots ml (by simp),ML.out,N7.out.2.2]
    rw [h3];exact decide_eq_decide.2 h2
   have HRTS:=Th hrts
   have SPC:=Th (splits_any HSP.out (w:=wg) (M:=M3) (base:=w2.heap.size) (gb:=gb) (fv:=.slice none 0 0) (rb:=rg) (cap:=rc) (rcs:=rcs) (ms:=ms0) (Fm:=[]) (m:=m7) N7.out.2.2 (by rw [List.reverse_reverse];exact MS0.out) rfl SA.out (fun y hy=>by have:=P7.out.lt y hy;have:=OG.out.size;omega) (by have h1:=S4.out.1.size;have h2:=T7.out.only.size;have h3:=OG.out.size;omega)
    ⟨rfl,HKE.out,by simp only;rw [LN7.out,List.length_reverse];have h1:=Xfg c i;omega,fun y hy=>by
     have hy':=List.mem_reverse.1 hy;have h1:=hin.fit y (hpin y hy');have h2:=Xkh c i y hy';have h3:=Xdb hin.wf (hpin y hy');rw [h2] at h1 h3;have h4:=path_up c (.leaf i E) W3.out.good trivial hin.ris y hy'
     exact ⟨h2,by simpa using h3,h1.2,h4.weak,fits_few h1.1⟩⟩ hrts (fun f hf=>(by cases hf)) (by rw [NM.out];exact hrcap) (by have h1:=HRC.out.2;have h2:=HF.out;omega))
   unfold Xcm at SPC;rw [Ze,Zt,NM.out] at SPC;have TG:Hid (Xax wg tb p root):=OG.out.blk T7T.out (by simp);have PG:Hid (PoolV wg p M3 u pg (k+2*(nm+1))):=P7.out.past OG.out;clear hsp hres hrm hwg hgb hrb htake hrcl hpathn hpin hrts hin hT
   go_upto_region 16 with (go_at_call 36;refine SPC.out.mono ?_;rintro e w9 ⟨ws',Fm,fv',rfl,hr9⟩;have R9:=Th hr9;clear hr9)
   have hXk:=Xcr SA.out.grow;have NOG:=SA.out.nodes.off';have X9:Hid (Only ((ms0++[m7]).flatMap MNd.blocks++growX gb (.slice none 0 0)) wg w9):=R9.out.only
   have P9:Hid (PoolV w9 p M3 u pg (k+2*(nm+1))):=PG.out.later X9.out (fun y hy cs hb=>by
    rcases Za.1 hy with h | h
    ·exact NOG.1 y (by rw [Xj];exact h) cs hb
    ·rcases hXk y h cs _ hb with h2 | h2 <;> exact absurd h2 (by decide)) (fun y hy hx=>by
    rcases Za.1 hx with h | h
    ·exact NOG.2 y hy (by rw [Xj];exact h)
    ·simp [growX,Value.ownBlock] at h
     subst h;have h1:=P7.out.lt _ hy;have h2:=GBE.out
     omega)
   have TBX:Hid (tb∉(ms0++[m7]).flatMap MNd.blocks++growX gb (.slice none 0 0)):=fun hm=>by
    rcases Za.1 hm with h | h
    ·obtain ⟨y,hy,hxy⟩:=Yl.1 h
     exact ((NS7.out.past OG.out).at_ y hy).no TG.out (by decide) hxy
    ·rcases hXk tb h _ _ TG.out with h2 | h2 <;> exact absurd h2 (by decide)
   have T9:Hid (Xax w9 tb p root):=X9.out.blk TG.out TBX.out
   have hwl:ws'.length=nm+1:=by have:=congrArg List.length R9.out.nbs;simpa [NM.out] using this
   have hfl:Fm.length=F'.length:=by have:=congrArg List.length R9.out.fs;simpa using this
   have WL:=Th hwl;have FLN:=Th hfl
   have GO9:=Th (grows_ok HIN.out W3.out.good HRES.out R9.out.ns R9.out.fs (fun j m hm=>by
    have h1:=congrArg (·[j]?) R9.out.roots;simp only [Zr,hm,Xe] at h1;obtain ⟨m0,h2,h3⟩:=Xz.1 h1.symm
    rw [←h3];exact HRTS.out j m0 h2) R9.out.froot HRC.out.1 USZ.out)
   have RW9:Hid (PtrOn w9 M3 w2.heap.size (.slice (some ⟨rg,0,none⟩) (nm+1) rc) ws'):=by
    show PtrOn _ _ _ _ _;refine ⟨?_,R7.out.off⟩
    have hpp:ws'.map ptrN=(ms0++[m7]).map ptrN:=by
     have h1:=congrArg (List.map fun b:Nat=>Value.pointer (some ⟨b,0,none⟩)) R9.out.nbs;rw [Yw,Yw] at h1;exact h1
    refine ⟨by rw [Zl,Wi],.inr ⟨rg,rc,rcs,by rw [hwl],R9.out.at_.row,by rw [hwl];exact hrcap,by rw [Wi];exact HRCL.out,by rw [hwl,Wi,hpp];exact HTK.out⟩⟩
   have FG9:=R9.out.at_.grow.blk.cell 0;simp only [Zb] at FG9;obtain ⟨fa,fc,hfv⟩:=Xac R9.out.at_.grow.row.own;subst hfv;have t0':=T9.out.cell 0;have hF:=HRC.out;have hT1:=GO9.out.2.2.2.2.1
   have hT1l:(nodes H' (mapT (ren (Xai Fm.length u) fun x=>x) t')).length=(nodes nm T).length+F'.length:=by
    have h1:=hT1.length_eq;rw [Ze,Zl,Zl,W3.out.plug] at h1;simp only [natsI,Zl,Xer] at h1;omega
   have T1L:=Th hT1l
   have E1:Hid (entsT (mapT (ren (Xai Fm.length u) fun x=>x) t')=insP (entsT T) (l,x)):=by
    show ents (seq _ _)=_;rw [Xhl,HRES.out.2.2.1];have h1:=EI.out.2;rw [W3.out.plug] at h1;exact h1
   have E1L:Hid ((insP (entsT T) (l,x)).length=(entsT T).length+1):=by
    show _=_;have h1:=Xet (entsT T) (l,x);unfold insP
    simp only [Ze,Zz,Zj,Zy];omega
   have GR:=Th (grows_any (T1:=mapT (ren (Xai Fm.length u) fun x=>x) t') P9.out T9.out TB3.out (by have h1:=S4.out.1.size;have h2:=T7.out.only.size;have h3:=OG.out.size;have h4:=X9.out.size;omega) R9.out.at_.nodes RW9.out R9.out.at_.grow.row (by omega) (by rw [hwl];omega) (by have:=HF.out;omega) GO9.out.1 GO9.out.2.1 GO9.out.2.2.1 GO9.out.2.2.2.1
    (by have h1:=HK.out;have h2:=HN1.out;rw [hT1l,hwl,hfl];omega) (by rw [E1.out,E1L.out];have:=HE.out;omega))
   clear hT1 hT1l hF hXk NOG hwl hfl
   go_wp2_with (go_at_call 37;refine GR.out.mono ?_;rintro e w11 ⟨rfl,M11,u11,pg11,H11,T11,pgA,pg1,M10,w10,hsame,hwr,htd,hox,hm10⟩;have SM:=Th hsame;have WT:=Th hwr;have TD:=Th htd;have OX:=Th hox;have M10E:=Th hm10;clear hsame hwr htd hox hm10)
   go_ret;have td:=TD.out;have hids:=GO9.out.2.2.2.2.1;rw [W3.out.plug] at hids;have hfr:=GO9.out.2.2.2.2.2.2
   have hexT:∀ j:Nat,(∃ n∈nodes H' (mapT (ren (Xai Fm.length u) fun x=>x) t'),n.id=(j:Nat))↔(∃ n∈nodes nm T,n.id=(j:Nat))∨j∈Xai Fm.length u:=fun j=>by
    constructor
    ·rintro ⟨n,hn,e⟩
     rcases Za.1 (hids.mem_iff.1 (Zi.2 ⟨n,hn,rfl⟩)) with h | h
     ·obtain ⟨m,hm,e2⟩:=Zi.1 h
      exact .inl ⟨m,hm,by rw [e2,e]⟩
     ·obtain ⟨a,ha,e2⟩:=Zi.1 h
      obtain rfl:a=j:=by omega
      exact .inr ha
    ·rintro (⟨m,hm,e⟩ | h)
     ·obtain ⟨n,hn,e2⟩:=Zi.1 (hids.mem_iff.2 (Yb _ (Zi.2 ⟨m,hm,rfl⟩)))
      exact ⟨n,hn,by rw [e2,e]⟩
     ·obtain ⟨n,hn,e2⟩:=Zi.1 (hids.mem_iff.2 (Yk _ (Zi.2 ⟨j,h,rfl⟩)))
      exact ⟨n,hn,e2⟩
   refine ⟨rfl,M11,u11,pg11,H11,T11,?_,td.tree,by rw [td.ents,E1.out],by have:=td.few;rw [E1.out] at this;exact this,?_,fun j=>?_,fun j hj hne=>?_,fun j hj=>((hexT j).1 (td.mine j hj)).imp (fun h=>h) (fun h=>(hfr j h).2),fun Q hQ hl'=>td.kept Q ?_,?_,?_⟩
   ·refine td.pool.more ?_
    have h1:=T1L.out;have h2:=HN1.out;have h3:=HRC.out.2;have h4:=FLN.out;have h5:=WL.out;omega
   ·rw [td.len,Xmf]
   ·rw [td.used]
    constructor
    ·rintro (⟨h1,h2⟩ | h)
     ·refine .inl ⟨?_,fun n hn e=>?_⟩
      ·rcases (Xdy _ _ _ (fun x hx=>(hfr x hx).1)).1 h1 with h3 | h3
       ·exact h3
       ·obtain ⟨n,hn,e⟩:=(hexT j).2 (.inr h3)
        exact absurd e (h2 n hn)
      ·obtain ⟨n2,hn2,e2⟩:=(hexT j).2 (.inl ⟨n,hn,e⟩)
       exact h2 n2 hn2 e2
     ·exact .inr h
    ·rintro (⟨h1,h2⟩ | h)
     ·refine .inl ⟨(Xdy _ _ _ (fun x hx=>(hfr x hx).1)).2 (.inl h1),fun n hn e=>?_⟩
      rcases (hexT j).1 ⟨n,hn,e⟩ with ⟨m,hm,e2⟩ | h3
      ·exact h2 m hm e2
      ·have:=(hfr j h3).2
       rw [h1] at this;cases this
     ·exact .inr h
   ·have hno:∀ n∈nodes H' (mapT (ren (Xai Fm.length u) fun x=>x) t'),n.id≠(j:Nat):=fun n hn e=>by
     rcases (hexT j).1 ⟨n,hn,e⟩ with ⟨m,hm,e2⟩ | h3
     ·exact hne m hm e2
     ·have:=(hfr j h3).2
      rw [hj] at this;cases this
    rw [td.same j hno,WT.out.same j (fun m hm e=>?_),SM.out j hj];obtain ⟨n,hn,e2⟩:=Zi.1 (GO9.out.2.2.2.2.2.1 m hm);exact hno n hn (by rw [e2,e])
   ·have hp1:=Xbb c (.leaf i E)
    rw [Tr.leaf_id,Xan,W3.out.plug] at hp1
    have hI2:∀ e∈insP E (l,x),Q e:=fun e he=>by
     rcases Xdt.1 he with h9 | h9
     ·rw [h9];exact hl' _ (Xdt.2 (.inl rfl))
     ·exact hQ ⟨i,true,E,[]⟩ (hp1.mem_iff.2 (by simp)) e h9
    have hsm:=splits_mem HSP.out hI2 (fun n hn=>hQ n (hp1.mem_iff.2 (by simp [List.mem_reverse.1 hn]))) (fun n hn=>by cases hn);obtain ⟨_,_,_,_,G,hG,_,hpm,_⟩:=HRES.out;rw [Ym] at hG;subst hG;intro n hn;rw [Xdc] at hn;obtain ⟨m,hm,rfl⟩:=Zi.1 hn;show ∀ e∈m.es,Q e
    rcases Za.1 (hpm.mem_iff.1 hm) with h | h
    ·rcases Za.1 h with h | h
     ·exact hsm m h
     ·cases h
    ·exact hQ m (hp1.mem_iff.2 (by simp [h]))
   ·obtain ⟨X,hX,hOX⟩:=OX.out
    have hw2:=O12.out.size;have hM3:∀ y∈M3,y∈M∨w.heap.size≤y:=(Step.ahead O12.out S4.out).2
    have h17:Only M w w7:=OW7.out.mono (fun y hy=>by
     rcases Za.1 hy with h | h
     ·exact .inl h
     ·exact .inr (Zp hw2 (MLN.out y h)))
    have h19:Only M w w9:=(h17.trans OG.out (by simp)).trans X9.out (fun y hy=>by
     right
     rcases Za.1 hy with h | h
     ·obtain ⟨z,hz,hyz⟩:=Yl.1 h
      exact Zp hw2 (NS7.out.new z hz y hyz)
     ·simp [growX,Value.ownBlock] at h
      have h1:=GBE.out;have h2:=h17.size
      omega)
    have h110:Only M w w10:=h19.trans hOX (fun y hy=>by
     rcases Za.1 hy with h | h
     ·exact hM3 y h
     ·exact .inr (Zp hw2 (hX y h)))
    exact h110.trans td.step.1 (fun y hy=>by
     rcases M10E.out y hy with h | h
     ·exact hM3 y h
     ·exact .inr (Zp h19.size h))
   ·intro y hy
    have hM3:∀ y∈M3,y∈M∨w.heap.size≤y:=(Step.ahead O12.out S4.out).2
    have h79:w.heap.size≤w9.heap.size:=by have h1:=OW7.out.size;have h2:=OG.out.size;have h3:=X9.out.size;omega
    rcases td.step.2 y hy with h | h
    ·rcases M10E.out y h with h | h
     ·exact hM3 y h
     ·exact .inr (by omega)
    ·obtain ⟨X,hX,hOX⟩:=OX.out
     have:=hOX.size;exact .inr (by omega)
end T
end Go.Proofs.YtiijokopcgnokaaGreat
