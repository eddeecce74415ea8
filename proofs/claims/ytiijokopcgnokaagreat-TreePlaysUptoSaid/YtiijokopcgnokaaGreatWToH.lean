import Derived.Test.YtiijokopcgnokaaGreatWToE
set_option maxRecDepth 100000
set_option maxHeartbeats 4000000
set_option linter.unusedSimpArgs false
set_option linter.unusedVariables false
namespace Go.Proofs.YtiijokopcgnokaaGreat
namespace T
open Go Go.RowKit D B C G P H Tryz
structure NewRes (w w':World) (p:Nat) (M:List Nat) (u:List Bool) (pg:Nat→List UInt8) (k id tb:Nat) (M':List Nat) (pg':Nat→List UInt8):Prop where
 tree:Xax w' tb p id
 mine:w.heap.size≤tb∧tb∉M'
 pool:PoolV w' p M' (u.set id true) pg' (k+4)
 pages:InPages (u.set id true) pg' id (Tr.leaf (id:Int) [])
 same:∀ j,j≠id→pg' j=pg j
 step:Step M M' w w'
theorem tnew_any {w:World} {p k:Nat} {M:List Nat} {u:List Bool} {pg:Nat→List UInt8} (hP:PoolV w p M u pg k) (hk:k+10≤1000000) (hfu:Xal u<u.length) :
  Calls prog 9 #[.pointer (some ⟨p,0,none⟩)] w fun e w'=>∃ tb M' pg',e=.returned (.tuple #[.pointer (some ⟨tb,0,none⟩),.int .i64 0])∧NewRes w w' p M u pg k (Xal u) tb M' pg':=by
 have AL:=Th (hP.alloc (by omega) hfu);have USZ:=Th hP.size;obtain ⟨id,hid⟩:∃ id,Xal u=id:=⟨_,rfl⟩;rw [hid] at AL hfu;rw [hid];have HFU:=Th hfu;clear hP hid hfu
 go_enter func9,ntmps9
 go_upto_region 4 with (go_at_call 28;refine AL.out.mono ?_;rintro e w1 ⟨M1,rfl,hP1,hS1⟩;have P1:=Th hP1;have S1:=Th hS1;clear hP1 hS1)
 obtain ⟨wb,hwb⟩:∃ wb,(w1.alloc (.cells #[.pointer (some ⟨p,0,none⟩),.int .i64 id] 74)).alloc (.cells #[.int .i64 id,.bool true,.bool true,.slice none 0 0,.slice none 0 0] 77)=wb:=⟨_,rfl⟩
 have OB:Hid (Only [] w1 wb):=by show Only _ _ _;rw [←hwb];exact ((Only.refl _ _).alloc _).alloc _
 have TB:Hid (Xax wb w1.heap.size p id):=by show Blk _ _ _ _;rw [←hwb];exact (Blk.new [.pointer (some ⟨p,0,none⟩),.int .i64 id] 74 w1).alloc _
 have NB:Hid (Blk wb (w1.heap.size+1) [.int .i64 id,.bool true,.bool true,.slice none 0 0,.slice none 0 0] 77):=by
  show Blk _ _ _ _;rw [←hwb];exact Blk.new' #[.int .i64 id,.bool true,.bool true,.slice none 0 0,.slice none 0 0] 77 _ (by simp)
 have PB:Hid (PoolV wb p M1 (u.set id true) (upd pg id zeros) (k+2)):=P1.out.past OB.out;have A0:Hid (NodeAt wb M1 (Xir (w1.heap.size+1) id true true)):=Xgf NB.out (fun hm=>by have:=P1.out.lt _ hm;omega)
 have hus:(u.set id true).getD id false=true:=P.getD_set_self _ _ _ _ HFU.out;have WR:=Th (Xhv (id:=id) PB.out (by omega) A0.out rfl hus (fun e he=>by cases he) ⟨rfl,by simp [Xir]⟩ rfl);have HUS:=Th hus
 have WRW:Hid (Calls prog 29 #[.pointer (some ⟨w1.heap.size+1,0,none⟩),.pointer (some ⟨p,0,none⟩)] ((w1.alloc (.cells #[.pointer (some ⟨p,0,none⟩),.int .i64 id] 74)).alloc (.cells #[.int .i64 id,.bool true,.bool true,.slice none 0 0,.slice none 0 0] 77)) fun e w'=>∃ M' q,e=.returned (.int .i64 0)∧Xel true ⟨(id:Int),true,[],[]⟩ q∧PoolV w' p M' (u.set id true) (upd (upd pg id zeros) id q) (k+2+2)∧Step M1 M' wb w'):=by
  show Calls _ _ _ _ _
  rw [hwb];exact WR.out
 clear hus hwb
 go_wp2_with (go_at_call 29;refine WRW.out.mono ?_;rintro e w5 ⟨M5,q,rfl,hq5,hP5,hS5⟩;have Q5:=Th hq5;have P5:=Th hP5;have S5:=Th hS5;clear hq5 hP5 hS5)
 go_ret2;have hsz:=S1.out.1.size
 have htb:w1.heap.size∉M1:=fun hm=>Nat.lt_irrefl _ (P1.out.lt _ hm)
 have hr:Ris (seq 0 (Tr.leaf (id:Int) [])):=by rw [Xcn];exact List.Pairwise.nil
 refine ⟨w1.heap.size,M5,_,rfl,S5.out.1.blk TB.out htb,⟨hsz,P.Step.keep S5.out TB.out.lt htb⟩,P5.out,⟨rfl,fun n hn=>?_,fun n hn=>?_,fun n hn=>?_,trivial,hr,?_⟩,fun j hj=>by rw [Xiw hj,Xiw hj],S1.out.trans (Step.ahead OB.out S5.out)⟩
 ·rw [Xan,Zo] at hn
  rw [hn];exact ⟨id,rfl,HUS.out,by rw [Xjh];simpa using Q5.out⟩
 ·rw [Xan,Zo] at hn
  rw [hn];exact ⟨rfl,fun e he=>by cases he⟩
 ·rw [Xan,Zo] at hn
  rw [hn];exact ⟨rfl,by simp⟩
 ·rw [Xan];simp
theorem Xhs {w:World} {tb p root:Nat} (hT:Xax w tb p root):Calls prog 10 #[.pointer (some ⟨tb,0,none⟩)] w fun e w'=>e=.returned (.int .i64 root)∧w=w':=by
 have t1:=hT.cell 1;simp only [Zd,Zb] at t1;clear hT
 go_enter func10,ntmps10
 go_wp2_with fail
 go_ret;exact ⟨rfl,rfl⟩
theorem topen_any {w:World} {p k root H:Nat} {M:List Nat} {u:List Bool} {pg:Nat→List UInt8} {T:Tr H} (hP:PoolV w p M u pg k) (hk:k≤1000000) (hI:InPages u pg root T) :
  Calls prog 12 #[.pointer (some ⟨p,0,none⟩),.int .i64 root] w fun e w'=>∃ tb M',e=.returned (.tuple #[.pointer (some ⟨tb,0,none⟩),.int .i64 0])∧Xax w' tb p root∧tb∉M'∧w.heap.size≤tb∧PoolV w' p M' u pg (k+2)∧Step M M' w w':=by
 have htop:T.top∈nodes H T:=by simp [nodes]
 have hid:T.top.id=(root:Nat):=by rw [Tr.top_id,hI.top]
 obtain ⟨id,h1,h2,h3⟩:=hI.page _ htop
 obtain rfl:root=id:=by omega
 rw [decide_eq_true rfl] at h3;have RD:=Th (Xfh hP hk hid h2 h3 (hI.fit _ htop).2 (hI.kids _ htop) (hI.fit _ htop).1);clear hP hI htop hid h1 h2 h3
 go_enter func12,ntmps12
 go_upto_region 2 with (go_at_call 38;refine RD.out.mono ?_;rintro e w1 ⟨m,M1,rfl,hR⟩;have R1:=Th hR;clear hR)
 have c1:=R1.out.at_.blk.cell 1;simp only [Zd,Zb] at c1;rw [R1.out.root] at c1
 have NE:w1.heap.size∉M1:=fun hm=>Nat.lt_irrefl _ (R1.out.pool.lt _ hm)
 have NEH:=Th NE;clear NE
 go_wp2_with fail
 go_ret2;have hO:Only [] w1 (w1.alloc (.cells #[.pointer (some ⟨p,0,none⟩),.int .i64 root] 74)):=(Only.refl _ _).alloc _;exact ⟨w1.heap.size,M1,rfl,Blk.new [.pointer (some ⟨p,0,none⟩),.int .i64 root] 74 w1,NEH.out,R1.out.step.1.size,R1.out.pool.past hO,R1.out.step.then hO⟩
structure CurAt (w:World) (M:List Nat) (cb tb:Nat) (kv:Value) (last:Pr) (begun:Bool):Prop where
 blk:Blk w cb [.pointer (some ⟨tb,0,none⟩),kv,.int .u64 last.2,.bool begun] 98
 key:KeyOk w M (kv,last)
 off:cb∉M
theorem seek_any {w:World} {tb:Nat} {M:List Nat} {kv:Value} {l:List UInt8} (hb:Xae w kv l) (hl:l.length≤1000000) (hM:∀ y∈M,y<w.heap.size) :
  Calls prog 15 #[.pointer (some ⟨tb,0,none⟩),kv] w fun e w'=>∃ cb v',e=.returned (.pointer (some ⟨cb,0,none⟩))∧CurAt w' M cb tb v' (l,0) false∧w.heap.size≤cb∧Only [] w w':=by
 have CL:=Th (Xcj hb (by omega));obtain ⟨ka,kc,hkv,_⟩:=id hb;subst hkv;have HM:=Th hM;clear hb hM
 go_enter func15,ntmps15
 go_wp2_with (go_at_call 41;refine CL.out.mono ?_;rintro e w1 ⟨v',rfl,ho1⟩;obtain ⟨a1,c1,rfl⟩:=Xac ho1.1;have OW1:=Th ho1;clear ho1)
 go_ret;have hO:Only [] w1 (w1.alloc (.cells #[.pointer (some ⟨tb,0,none⟩),.slice a1 l.length c1,.int .u64 0,.bool false] 98)):=(Only.refl _ _).alloc _;have hsz:=OW1.out.2.2.size;refine ⟨w1.heap.size,.slice a1 l.length c1,rfl,⟨Blk.new [.pointer (some ⟨tb,0,none⟩),.slice a1 l.length c1,.int .u64 0,.bool false] 98 w1,(Xgv OW1.out HM.out (by decide:(0:Nat)<18446744073709551616)).past hO,fun hm=>by have:=HM.out _ hm;omega⟩,hsz,OW1.out.2.2.trans hO (by simp)⟩
end T
namespace T
open Go Go.RowKit D B C G P H Tryz
structure Boxes (w:World) (M:List Nat) (cb cbx fbx obx lbx:Nat) (f:Bool) (ov:Value) (on:Nat):Prop where
 c:Blk w cbx [.pointer (some ⟨cb,0,none⟩)] 40
 f:Blk w fbx [.bool f] 4
 o:Blk w obx [ov,.int .u64 on] 43
 l:Blk w lbx [.func (.func 42) #[] #[.pointer (some ⟨cbx,0,none⟩),.pointer (some ⟨fbx,0,none⟩),.pointer (some ⟨obx,0,none⟩),.pointer (some ⟨lbx,0,none⟩)]] 99
 off:cbx∉M∧fbx∉M∧obx∉M∧lbx∉M
theorem Boxes.step {w w':World} {M M':List Nat} {cb cbx fbx obx lbx:Nat} {f:Bool} {ov:Value} {on:Nat} (h:Boxes w M cb cbx fbx obx lbx f ov on) (hS:Step M M' w w'):Boxes w' M' cb cbx fbx obx lbx f ov on :=
 ⟨hS.1.blk h.c h.off.1,hS.1.blk h.f h.off.2.1,hS.1.blk h.o h.off.2.2.1,hS.1.blk h.l h.off.2.2.2,P.Step.keep hS h.c.lt h.off.1,P.Step.keep hS h.f.lt h.off.2.1,P.Step.keep hS h.o.lt h.off.2.2.1,P.Step.keep hS h.l.lt h.off.2.2.2⟩
theorem CurAt.step {w w':World} {M M':List Nat} {cb tb:Nat} {kv:Value} {last:Pr} {begun:Bool} (h:CurAt w M cb tb kv last begun) (hS:Step M M' w w'):CurAt w' M' cb tb kv last begun :=
 ⟨hS.1.blk h.blk h.off,h.key.step hS,P.Step.keep hS h.blk.lt h.off⟩
structure LookRes (w w':World) (p:Nat) (M:List Nat) (u:List Bool) (pg:Nat→List UInt8) (k' cb cbx fbx obx lbx:Nat) (r:Option Pr) (M':List Nat) (ov':Value) (on':Nat):Prop where
 pool:PoolV w' p M' u pg k'
 boxes:Boxes w' M' cb cbx fbx obx lbx r.isSome ov' on'
 out:∀ e,r=some e→on'=e.2∧KeyOk w' M' (ov',e)
 only:Only (M++[fbx,obx]) w w'
 mine:∀ x∈M',x∈M∨w.heap.size≤x
theorem look_end {w w2 w3:World} {p k' cb cbx fbx obx lbx on on':Nat} {M M1:List Nat} {u:List Bool} {pg:Nat→List UInt8} {f:Bool} {ov ov':Value} {r:Option Pr} (hS:Step M M1 w w2) (hP:PoolV w2 p M1 u pg k') (hB:Boxes w2 M1 cb cbx fbx obx lbx f ov on) (hO:Only [fbx,obx] w2 w3) (hf:Blk w3 fbx [.bool r.isSome] 4) (ho:Blk w3 obx [ov',.int .u64 on'] 43)
  (hout:∀ e,r=some e→on'=e.2∧KeyOk w2 M1 (ov',e)):LookRes w w3 p M u pg k' cb cbx fbx obx lbx r M1 ov' on':=by
 have hX:∀ x∈[fbx,obx],∃ cs t,Blk w2 x cs t∧(t=4∨t=43):=fun x hx=>by
  simp at hx
  rcases hx with rfl | rfl
  ·exact ⟨_,_,hB.f,.inl rfl⟩
  ·exact ⟨_,_,hB.o,.inr rfl⟩
 have hno:∀ {x cs t},Blk w2 x cs t→t≠4→t≠43→x∉[fbx,obx]:=fun {x cs t} hb h1 h2 hm=>by
  obtain ⟨cs',t',hb',ht⟩:=hX x hm;have:=(hb.inj hb').2
  rcases ht with h | h
  ·exact h1 (this.trans h)
  ·exact h2 (this.trans h)
 refine ⟨hP.later hO (fun x hx cs hb=>?_) (fun x hx hm=>?_),⟨hO.blk hB.c (hno hB.c (by decide) (by decide)),hf,ho,hO.blk hB.l (hno hB.l (by decide) (by decide)),hB.off⟩,fun e he=>?_,?_,hS.2⟩
 ·obtain ⟨cs',t',hb',ht⟩:=hX x hx
  have:=(hb.inj hb').2
  rcases ht with h | h <;> exact absurd (this.trans h) (by decide)
 ·simp at hm
  rcases hm with rfl | rfl
  ·exact hB.off.2.1 hx
  ·exact hB.off.2.2.1 hx
 ·obtain ⟨h1,h2⟩:=hout e he
  refine ⟨h1,h2.later hO (fun x hx cs hb=>?_)⟩;obtain ⟨cs',t',hb',ht⟩:=hX x hx;have:=(hb.inj hb').2
  rcases ht with h | h <;> exact absurd (this.trans h) (by decide)
 ·exact (hS.1.mono (fun x hx=>.inl (Yb _ hx))).trans hO (fun x hx=>.inl (Yk _ hx))
def LookP (p tb root cb cbx fbx obx lbx:Nat) (kv:Value) (last:Pr) (begun:Bool) (u:List Bool) (pg:Nat→List UInt8) {h:Nat} (t:Tr h):Prop :=
 ∀ {w:World} {M:List Nat} {k:Nat} {f:Bool} {ov:Value} {on:Nat},PoolV w p M u pg k→k+2*(nodes h t).length≤1000000→Xax w tb p root→tb∉M→Xgu u pg root (nodes h t)→Wf h t→Ris (seq h t)→CurAt w M cb tb kv last begun→Boxes w M cb cbx fbx obx lbx f ov on →
  Calls prog 42 #[.int .i64 t.id,.pointer (some ⟨cbx,0,none⟩),.pointer (some ⟨fbx,0,none⟩),.pointer (some ⟨obx,0,none⟩),.pointer (some ⟨lbx,0,none⟩)] w fun e w'=>∃ M' ov' on',e=.returned (.int .i64 0)∧LookRes w w' p M u pg (k+2*(nodes h t).length) cb cbx fbx obx lbx (nextP (entsT t) last begun) M' ov' on'
theorem look_leaf {p tb root cb cbx fbx obx lbx:Nat} {kv:Value} {last:Pr} {begun:Bool} {u:List Bool} {pg:Nat→List UInt8} (i:Int) (E:List Pr):LookP p tb root cb cbx fbx obx lbx kv last begun u pg (.leaf i E):=by
 intro w M k f ov on hP hk hT htb hpg hw hr hC hB;rw [Xan] at *;rw [Xdv] at *;rw [Xcn] at hr;have hup:=ris_en hr;obtain ⟨⟨pid,hid,hu,hn⟩,hf,hkk,hki⟩:=hpg _ (Xw _);have RD:=Th (Xfh hP (by omega) hid hu hn hkk hki hf);have hie:i=(pid:Nat):=hid;subst hie;rw [Tr.leaf_id];have hx0:=hB.c.cell 0;have t0:=hT.cell 0;have k0:=hC.blk.cell 0;simp only [Zb] at hx0 t0 k0;obtain ⟨qa,qk,hqv,_⟩:=id hC.key.bytes;dsimp only at hqv;subst hqv;have HC:=Th hC;have HB:=Th hB;have UP:=Th hup;have FIT:=Th hf;have HTB:=Th htb;clear hP hT hpg hw hr hC hB hup hf hkk hki hn hid hu htb
 go_enter func42,ntmps42
 go_upto_region 5 with (go_at_call 38;refine RD.out.mono ?_;rintro e w1 ⟨m,M1,rfl,hR⟩;have R1:=Th hR;clear hR;have q2:=R1.out.at_.blk.cell 2;simp only [Zd,Zb] at q2;rw [R1.out.n] at q2;simp only at q2)
 have B1:=Th (HB.out.step R1.out.step);have C1:=Th (HC.out.step R1.out.step);have A1:=Th R1.out.at_;have b3:=A1.out.blk.cell 3;simp only [Zd,Zb] at b3;obtain ⟨ea,ec,hev,hec,herow⟩:=A1.out.row
 have hes:m.n.es=E:=by rw [R1.out.n]
 rw [hes] at hev hec herow;rw [hev] at b3;have ES:=Th hes;have EV:=Th hev;have hx1:=B1.out.c.cell 0;have k1:=C1.out.blk.cell 1;have k2:=C1.out.blk.cell 2;have k3:=C1.out.blk.cell 3;simp only [Zd,Zb] at hx1 k1 k2 k3;obtain ⟨el,hel⟩:∃ el,E.length=el:=⟨_,rfl⟩
 have helb:el≤50:=by rw [←hel];exact Xca FIT.out
 have EL:=Th hel
 have BSF:Hid (∀ w2,Only [] w1 w2→Calls prog 32 #[.slice ea el ec,.agg #[.slice qa last.1.length qk,.int .u64 last.2],.func (.func 33) #[] #[]] w2 fun e w'=>e=.returned (.tuple #[.int .i64 (low E last:Nat),.bool (has E last)])∧Only [] w2 w'):=fun w2 hO=>by
  have h1:=Xjj (q:=(.slice qa last.1.length qk,last)) (A1.out.past hO).prs (C1.out.key.past hO).bytes (by rw [A1.out.es,ES.out];exact UP.out.weak) (by rw [A1.out.len,ES.out,EL.out];omega);rw [A1.out.es,ES.out,EV.out,EL.out] at h1;exact h1
 have HN:Hid (nextP E last begun=E[curI E last begun]?):=next_leaf UP.out last begun;have CI:Hid (curI E last begun=if has E last && begun then low E last+1 else low E last):=rfl
 have hlo:low E last≤el:=by rw [←hel];exact Xet _ _
 rw [hel] at b3 hec herow;have HROW:=Th herow;obtain ⟨lo,hloe⟩:∃ lo,low E last=lo:=⟨_,rfl⟩;obtain ⟨hb,hhb⟩:∃ hb,has E last=hb:=⟨_,rfl⟩;obtain ⟨ci,hci⟩:∃ ci,curI E last begun=ci:=⟨_,rfl⟩;rw [hloe,hhb] at BSF CI;rw [hci] at CI HN;rw [hloe] at hlo;obtain ⟨n2,hn2⟩:∃ n2,last.1.length=n2:=⟨_,rfl⟩;obtain ⟨x2,hx2⟩:∃ x2,last.2=x2:=⟨_,rfl⟩;rw [hn2,hx2] at BSF;rw [hn2] at k1;rw [hx2] at k2
 have BSL:Hid (∀ y:Later w1,Calls prog 32 #[.slice ea el ec,.agg #[.slice qa n2 qk,.int .u64 x2],.func (.func 33) #[] #[]] y.v fun e w'=>e=.returned (.tuple #[.int .i64 (lo:Nat),.bool hb])∧∃ z:Later w1,w'=z.v):=fun y=>Calls.later (fun w1 hO=>BSF.out w1 hO) y
 have l0:∀ y:Later w1,y.v.cell? ⟨cbx,0,none⟩=some (.pointer (some ⟨cb,0,none⟩)):=fun y=>y.cell hx1
 have l1:∀ y:Later w1,y.v.cell? ⟨cb,1,none⟩=some (.slice qa n2 qk):=fun y=>y.cell k1
 have l2:∀ y:Later w1,y.v.cell? ⟨cb,2,none⟩=some (.int .u64 x2):=fun y=>y.cell k2
 have l3:∀ y:Later w1,y.v.cell? ⟨m.nb,3,none⟩=some (.slice ea el ec):=fun y=>y.cell b3
 clear hes hev hel hloe hhb hci hn2 hx2 herow hx0 t0 k0 q2
 refine Xaa (Only.refl _ _) (by kernel_rfl) (by kernel_rfl) ?_
 repeat (go_big_quiet_step ((go_at_call 32;exact BSL.out _)))
 refine wpQuiet_nil ?_
 rintro _ ⟨xq,rfl⟩;obtain ⟨w2,O2,hw2⟩:∃ w2,Hid (Only [] w1 w2)∧xq.v=w2:=⟨xq.v,Th xq.h,rfl⟩;rw [hw2];have d1:=O2.out.cell hx1 (by simp);have d3:=O2.out.cell k3 (by simp);have e3:=O2.out.cell b3 (by simp);clear hw2 l0 l1 l2 l3 BSL BSF k1 k2 k3 b3 hx1;have B2:=Th (B1.out.step ((Step.refl M1 w1).then O2.out));have A2:=Th (A1.out.past O2.out);have P2:=Th (R1.out.pool.past O2.out);have f0:=B2.out.f.cell 0;have fz:=B2.out.f.frozen 0;simp only [Zb] at f0
 go_upto_region 6 with fail
 go_cut [51] from 45 to 51 (fun s51 wx=>s51=.bool (hb && begun)∧wx=w2)
 case first =>
  cases hb <;> cases begun <;> (go_wp2_with fail;go_meet;case rel=>exact ⟨rfl,rfl⟩)
 case rest =>
  obtain ⟨rfl,hwx⟩:=hcut;obtain rfl:w2=_:=hwx.symm;obtain ⟨bb,hbb⟩:∃ bb,(hb && begun)=bb:=⟨_,rfl⟩;rw [hbb] at CI;rw [hbb];clear hbb d1 d3
  go_upto_if 51 with fail
  go_cut [9] from 52 to 53 (fun s9 wx=>s9=.int .i64 ci∧wx=w2)
  case first =>
   cases bb with
   | false =>
    have h1:ci=lo:=by rw [CI.out];simp
    subst h1
    go_wp2_with fail
    go_meet
    case rel=>exact ⟨rfl,rfl⟩
   | true =>
    have h1:Hid (ci=lo+1):=by show _=_;rw [CI.out];simp
    clear CI
    go_wp2_with fail
    go_meet
    case rel=>exact ⟨by rw [h1.out];rfl,rfl⟩
  case rest =>
   obtain ⟨rfl,hwx⟩:=hcut;obtain rfl:w2=_:=hwx.symm
   have hci:ci≤el+1:=by rw [CI.out];split <;> omega
   clear CI
   by_cases hlt:ci<el
   ·have hlt':(ci:Int)<el:=by omega
    obtain ⟨e,he⟩:∃ e,E[ci]?=some e:=⟨_,Zc (by rw [EL.out];exact hlt)⟩;obtain ⟨kve,hkv⟩:=A2.out.kv (i:=ci) (e:=e) (by rw [ES.out];exact he)
    obtain ⟨eg,rfl,hcell⟩:=HROW.out (by omega);obtain ⟨g1,g2⟩:=hcell ci _ hkv;obtain ⟨oa,ok,hov,_⟩:=id (A1.out.keys _ (Zm hkv)).bytes;dsimp only at hov g1 g2;subst hov;have g1':=O2.out.cell g1 (by simp);have g2':=O2.out.cell g2 (by simp)
    have hegf:eg≠fbx:=fun h=>by
     have h1:=A2.out.ents;rw [EV.out] at h1;obtain ⟨cs,hb2⟩:=Xag h1 (k:=eg) rfl;exact absurd ((h ▸ hb2).inj B2.out.f).2 (by decide)
    have OF:Hid (Only [fbx] w2 (w2.setCell ⟨fbx,0,none⟩ (.bool true))):=Xbe _ _ _ _;have g1f:=OF.out.cell g1' (by simpa using hegf);have g2f:=OF.out.cell g2' (by simpa using hegf)
    have hnf:m.nb≠fbx:=fun h=>absurd ((h ▸ A2.out.blk).inj B2.out.f).2 (by decide)
    have e3f:=OF.out.cell e3 (by simpa using hnf);have hob:Blk (w2.setCell ⟨fbx,0,none⟩ (.bool true)) obx [ov,.int .u64 on] 43:=OF.out.blk B2.out.o (by simp;intro h;exact absurd ((h ▸ B2.out.o).inj B2.out.f).2 (by decide))
    have o0:=hob.cell 0;have o1:=hob.cell 1;have oz0:=hob.frozen 0;have oz1:=hob.frozen 1;simp only [Zd,Zb] at o0 o1;have OB:=Th hob;have HE:=Th he;have HKV:=Th hkv;clear he hkv hcell hob g1 g2 hegf hnf;have hdl:decide ((ci:Int)<el)=true:=decide_eq_true hlt'
    go_wp2_with fail
    go_ret;have hfb:Blk (w2.setCell ⟨fbx,0,none⟩ (.bool true)) fbx [.bool true] 4:=B2.out.f.set 0 (.bool true);have hO3:Only [fbx,obx] w2 (((w2.setCell ⟨fbx,0,none⟩ (.bool true)).setCell ⟨obx,0,none⟩ (.slice oa e.1.length ok)).setCell ⟨obx,1,none⟩ (.int .u64 e.2)):=(((Only.refl _ _).setCell (.inl (by simp)) _).setCell (.inl (by simp)) _).setCell (.inl (by simp)) _
    have hne:fbx≠obx:=fun h=>absurd ((h ▸ B2.out.f).inj B2.out.o).2 (by decide)
    have hN:=HN.out;rw [HE.out] at hN;refine ⟨rfl,M1,.slice oa e.1.length ok,e.2,?_⟩;rw [hN]
    exact look_end (R1.out.step.then O2.out) P2.out B2.out hO3 ((hfb.far _ hne).far _ hne) ((OB.out.set 0 _).set 1 _) (fun e' he'=>by
     obtain rfl:=Option.some.inj he'
     exact ⟨rfl,(A2.out.keys _ (Zm HKV.out))⟩)
   ·have hlt':¬(ci:Int)<el:=by omega
    have hdl:decide ((ci:Int)<el)=false:=decide_eq_false hlt'
    go_wp2_with fail
    go_ret;have hfb:Blk (w2.setCell ⟨fbx,0,none⟩ (.bool false)) fbx [.bool false] 4:=B2.out.f.set 0 (.bool false)
    have hne:fbx≠obx:=fun h=>absurd ((h ▸ B2.out.f).inj B2.out.o).2 (by decide)
    have hN:=HN.out;rw [Xb (by rw [EL.out];omega)] at hN
    refine ⟨rfl,M1,ov,on,?_⟩;rw [hN];exact look_end (R1.out.step.then O2.out) P2.out B2.out ((Only.refl _ _).setCell (.inl (by simp)) _) hfb (B2.out.o.far _ (fun h=>hne h.symm)) (fun e' he'=>by cases he')
end T
namespace T
open Go Go.RowKit D B C G P H Tryz
theorem Xke {h:Nat} {last:Pr} {begun:Bool}:∀ {L:List (Tr h)},(∀ t∈L,nextP (entsT t) last begun=none)→nextP (L.flatMap entsT) last begun=none
 | [],_=>rfl
 | t :: L,hL=>by
  rw [Yu,Xgx,hL t (by simp),Xke fun x hx=>hL x (by simp [hx])];rfl
theorem next_found {h:Nat} {last:Pr} {begun:Bool} {K:List (Tr h)} {j:Nat} {t:Tr h} {e:Pr} (ht:K[j]?=some t) (hb:∀ i x,i<j→K[i]?=some x→nextP (entsT x) last begun=none) (he:nextP (entsT t) last begun=some e):nextP (K.flatMap entsT) last begun=some e:=by
 have h1:=Yf j K;rw [Xdg ht] at h1;rw [←h1,Wg,Yu,Xgx,Xgx,Xke (fun x hx=>?_),he]
 ·rfl
 ·obtain ⟨i,hi⟩:=Xr.1 hx
  have hl:=(Zh.1 hi).1;rw [Zj] at hl;rw [Yq,if_pos (by omega)] at hi;exact hb i x (by omega) hi
theorem ris_kid {h:Nat} {i:Int} {E:List Pr} {K:List (Tr h)} (hw:Wf (h+1) (.node i E K)) (hr:Ris (seq (h+1) (.node i E K))) {j:Nat} {t:Tr h} (ht:K[j]?=some t):Ris (seq h t):=by
 rw [Xce] at hw;have hj:=(Zh.1 ht).1;rw [Xcb] at hr;have h1:=Xfk (E.take j) (E.drop j) (seq h t) ((K.map (seq h)).take j) ((K.map (seq h)).drop (j+1)) (by rw [Zj,Zj,Zl];omega) (by rw [Zy,Zy,Zl];omega)
 have h2:(K.map (seq h)).take j++seq h t :: (K.map (seq h)).drop (j+1)=K.map (seq h):=by
  rw [←Xdg (l:=K.map (seq h)) (i:=j) (x:=seq h t) (by rw [Zr,ht];rfl),Yf]
 rw [Yf,h2] at h1;rw [h1] at hr;exact (Zn.1 (Zn.1 hr).1).2.1
structure LookJ (w w':World) (p:Nat) (M:List Nat) (u:List Bool) (pg:Nat→List UInt8) (k' cb cbx fbx obx lbx:Nat) (M':List Nat) (f:Bool) (ov:Value) (on:Nat):Prop where
 pool:PoolV w' p M' u pg k'
 boxes:Boxes w' M' cb cbx fbx obx lbx f ov on
 only:Only (M++[fbx,obx]) w w'
 mine:∀ x∈M',x∈M∨w.heap.size≤x
theorem LookJ.fin {w w2 w3:World} {p k' k'' cb cbx fbx obx lbx on:Nat} {M M1 M':List Nat} {u:List Bool} {pg:Nat→List UInt8} {f:Bool} {ov:Value} {r:Option Pr} (hJ:LookJ w2 w3 p M1 u pg k' cb cbx fbx obx lbx M' f ov on) (hS:Step M M1 w w2) (hf:f=r.isSome) (hout:∀ e,r=some e→on=e.2∧KeyOk w3 M' (ov,e)) (hk:k'≤k''):LookRes w w3 p M u pg k'' cb cbx fbx obx lbx r M' ov on:=by
 subst hf;refine ⟨hJ.pool.more hk,hJ.boxes,hout,(hS.1.mono (fun x hx=>.inl (Yb _ hx))).trans hJ.only (fun x hx=>?_),fun x hx=>?_⟩
 ·rcases Za.1 hx with h1 | h1
  ·rcases hS.2 x h1 with h2 | h2
   ·exact .inl (Yb _ h2)
   ·exact .inr h2
  ·exact .inl (Yk _ h1)
 ·rcases hJ.mine x hx with h1 | h1
  ·exact hS.2 x h1
  ·exact .inr (Zp hS.1.size h1)
theorem look_node {p tb root cb cbx fbx obx lbx h:Nat} {kv:Value} {last:Pr} {begun:Bool} {u:List Bool} {pg:Nat→List UInt8} (i:Int) (E:List Pr) (K:List (Tr h)) (hrec:∀ t∈K,LookP p tb root cb cbx fbx obx lbx kv last begun u pg t):LookP p tb root cb cbx fbx obx lbx kv last begun u pg (.node i E K):=by
 intro w M k f ov on hP hk hT htb hpg hw hr hC hB;have hns:nodes (h+1) (.node i E K)=⟨i,false,E,K.map Tr.id⟩ :: K.flatMap (nodes h):=Xbr i E K;have hwf:=(Xce i E K).1 hw;rw [hns] at hk hpg ⊢;rw [Xgg hwf.1];obtain ⟨⟨pid,hid,hu,hn⟩,hf,hkk,hki⟩:=hpg _ (List.mem_cons_self ..);simp only [Zz] at hk;rw [Zz];have RD:=Th (Xfh hP (by omega) hid hu hn hkk hki hf);have hie:i=(pid:Nat):=hid;subst hie;rw [Tr.node_id];have hx0:=hB.c.cell 0;have t0:=hT.cell 0;have k0:=hC.blk.cell 0;simp only [Zb] at hx0 t0 k0;obtain ⟨qa,qk,hqv,_⟩:=id hC.key.bytes;dsimp only at hqv
 subst hqv;have HC:=Th hC;have HB:=Th hB;have HT:=Th hT;have HTB:=Th htb;have HW:=Th hw;have HR:=Th hr;have HWF:=Th hwf;have HK:=Th hk;have HPG:=Th hpg;have HREC:=Th hrec;have UPE:=Th (Xpv hw hr);have FIT:=Th hf;obtain ⟨kn,hkn⟩:∃ kn,K.length=kn:=⟨_,rfl⟩;have KN:=Th hkn
 have hct:Xao E last<kn:=by have h1:=Xex E last;have h2:=hwf.1;omega
 have hknb:kn≤60:=by have h1:=Xca hf;have h2:=hwf.1;simp only at h1;omega
 obtain ⟨ct,hcte⟩:∃ ct,Xao E last=ct:=⟨_,rfl⟩;rw [hcte] at hct;have CT:=Th hcte;clear hP hT htb hpg hw hr hC hB hf hkk hki hn hid hu hk hrec hns hwf hkn hcte
 go_enter func42,ntmps42
 go_upto_region 12 with (go_at_call 38;refine RD.out.mono ?_;rintro e w1 ⟨m,M1,rfl,hR⟩;have R1:=Th hR;clear hR;have q2:=R1.out.at_.blk.cell 2;simp only [Zd,Zb] at q2;rw [R1.out.n] at q2;simp only at q2)
 have B1:=Th (HB.out.step R1.out.step);have C1:=Th (HC.out.step R1.out.step);have A1:=Th R1.out.at_;have b4:=A1.out.blk.cell 4;simp only [Zd,Zb] at b4;obtain ⟨ca,cc,hcv,hcc,hcrow⟩:=A1.out.crow
 have hcs:m.n.cs=K.map Tr.id:=by rw [R1.out.n]
 have hes:m.n.es=E:=by rw [R1.out.n]
 rw [hcs,Zl,KN.out] at hcv hcc hcrow;rw [hcv] at b4;obtain ⟨cg,rfl,hcell⟩:=hcrow (by omega);have ES:=Th hes;have hx1:=B1.out.c.cell 0;have k1:=C1.out.blk.cell 1;have k2:=C1.out.blk.cell 2;simp only [Zd,Zb] at hx1 k1 k2
 have CEL:Hid (∀ (j:Nat) (t:Tr h),K[j]?=some t→w1.cell? ⟨cg,j,none⟩=some (.int .i64 t.id)):=fun j t ht=>hcell j t.id (by rw [Zr,ht];rfl)
 have CGB:Hid (cg∈m.blocks):=by show _∈_;simp [MNd.blocks,hcv,Value.ownBlock]
 have CHD:Hid (∀ w2,Only [] w1 w2→Calls prog 43 #[.pointer (some ⟨m.nb,0,none⟩),.agg #[.slice qa last.1.length qk,.int .u64 last.2]] w2 fun e w'=>e=.returned (.int .i64 (ct:Nat))∧Only [] w2 w'):=fun w2 hO=>by
  have h1:=Xjo (q:=(.slice qa last.1.length qk,last)) (A1.out.past hO) (C1.out.key.past hO).bytes (by rw [ES.out];exact UPE.out.weak) (by rw [ES.out];have:E.length≤50:=Xca FIT.out;omega);rw [ES.out,CT.out] at h1;exact h1
 obtain ⟨n2,hn2⟩:∃ n2,last.1.length=n2:=⟨_,rfl⟩;obtain ⟨x2,hx2⟩:∃ x2,last.2=x2:=⟨_,rfl⟩;rw [hn2,hx2] at CHD;rw [hn2] at k1;rw [hx2] at k2
 have CHL:Hid (∀ y:Later w1,Calls prog 43 #[.pointer (some ⟨m.nb,0,none⟩),.agg #[.slice qa n2 qk,.int .u64 x2]] y.v fun e w'=>e=.returned (.int .i64 (ct:Nat))∧∃ z:Later w1,w'=z.v):=fun y=>Calls.later (fun w1 hO=>CHD.out w1 hO) y
 have l0:∀ y:Later w1,y.v.cell? ⟨cbx,0,none⟩=some (.pointer (some ⟨cb,0,none⟩)):=fun y=>y.cell hx1
 have l1:∀ y:Later w1,y.v.cell? ⟨cb,1,none⟩=some (.slice qa n2 qk):=fun y=>y.cell k1
 have l2:∀ y:Later w1,y.v.cell? ⟨cb,2,none⟩=some (.int .u64 x2):=fun y=>y.cell k2
 have l3:∀ y:Later w1,y.v.cell? ⟨m.nb,4,none⟩=some (.slice (some ⟨cg,0,none⟩) kn cc):=fun y=>y.cell b4
 have hs1:(ct:Int)≤kn:=by omega
 have hs2:ct≤kn:=by omega
 have hs3:¬cc-ct=0:=by omega
 have hs4:kn-ct≤cc-ct:=by omega
 clear hes hcs hcv hcell hn2 hx2 hx0 t0 k0 q2 hcrow
 refine Xaa (Only.refl _ _) (by kernel_rfl) (by kernel_rfl) ?_
 repeat (go_big_quiet_step ((go_at_call 43;exact CHL.out _)))
 refine wpQuiet_nil ?_
 rintro _ ⟨xq,rfl⟩;obtain ⟨w2,O2,hw2⟩:∃ w2,Hid (Only [] w1 w2)∧xq.v=w2:=⟨xq.v,Th xq.h,rfl⟩;rw [hw2];clear hw2 l0 l1 l2 l3 CHL CHD k1 k2 b4 hx1;have S2:=Th (R1.out.step.then O2.out);have B2:=Th (B1.out.step ((Step.refl M1 w1).then O2.out));have P2:=Th (R1.out.pool.past O2.out);have N2:=Th (A1.out.past O2.out);obtain ⟨nl,hnl⟩:∃ nl,kn-ct=nl:=⟨_,rfl⟩;have NL:=Th hnl;rw [hnl]
 have hnlb:nl≤60:=by omega
 have CGX:Hid (cg∉M1++[fbx,obx]):=fun hm=>by
  rcases Za.1 hm with h1 | h1
  ·exact N2.out.off _ CGB.out h1
  ·simp at h1
   rcases h1 with h1 | h1
   ·exact N2.out.no B2.out.f (by decide) (h1 ▸ CGB.out)
   ·have hn:=R1.out.new _ CGB.out
    have:=HB.out.o.lt;omega
 have HCT:=Th hct;clear hnl hs1 hs2 hs3 hs4 hct hcc
 go_wp2_with fail
 go_loopg [81] nl (fun gk s81 wr=>∃ (j:Nat) (M':List Nat) (f':Bool) (ov':Value) (on':Nat),gk=nl-j∧j≤nl∧s81=.int .i64 j∧LookJ w2 wr p M1 u pg (k+2+2*((K.take (ct+j)).flatMap (nodes h)).length) cb cbx fbx obx lbx M' f' ov' on'∧(0<j→f'=false)∧∀ i x,i<ct+j→K[i]?=some x→nextP (entsT x) last begun=none)
 case atStart =>
  refine ⟨0,M1,f,ov,on,rfl,Yc _,rfl,⟨P2.out.more (by omega),B2.out,Only.refl _ _,fun x hx=>.inl hx⟩,fun h=>by omega,fun i x hi hx=>?_⟩;have h1:=next_skip HW.out HR.out last begun (j:=i) (t:=x) (by rw [CT.out];omega) hx
  exact h1
 case round =>
  obtain ⟨j,M',f',ov',on',hgk,hj,rfl,hJ,hf0,hnone⟩:=hrel;have HGK:=Th hgk;have LJ:=Th hJ;have HF0:=Th hf0;have HNO:=Th hnone
  have hj0:(0:Int)≤j:=by omega
  clear hgk hJ hf0 hnone
  by_cases hlt:j<nl
  ·have hlt':(j:Int)<nl:=by omega
   have hcj:ct+j<kn:=by have:=NL.out;have:=HCT.out;omega
   obtain ⟨t,ht⟩:∃ t,K[ct+j]?=some t:=⟨_,Zc (by rw [KN.out];exact hcj)⟩;have hmem:=Zm ht;have x1:=LJ.out.only.cell (O2.out.cell (CEL.out _ t ht) (by simp)) CGX.out;have hl1:=Xhe (nodes h) K (ct+j) t ht
   have T2:Xax wr tb p root∧tb∉M':=by
    have h2:Xax w2 tb p root:=S2.out.1.blk HT.out HTB.out;have h3:=P.Step.keep S2.out HT.out.lt HTB.out;refine ⟨LJ.out.only.blk h2 (fun hm=>?_),fun hm=>?_⟩
    ·rcases Za.1 hm with h4 | h4
     ·exact h3 h4
     ·simp at h4
      rcases h4 with h4 | h4
      ·exact absurd ((h4 ▸ h2).inj B2.out.f).2 (by decide)
      ·exact absurd ((h4 ▸ h2).inj B2.out.o).2 (by decide)
    ·rcases LJ.out.mine tb hm with h4 | h4
     ·exact h3 h4
     ·have:=h2.lt;omega
   have C2:CurAt wr M' cb tb (.slice qa last.1.length qk) last begun:=by
    have h2:=C1.out.step ((Step.refl M1 w1).then O2.out);refine ⟨LJ.out.only.blk h2.blk (fun hm=>?_),⟨?_,h2.key.cap,fun g hg=>?_,h2.key.num⟩,fun hm=>?_⟩
    ·rcases Za.1 hm with h4 | h4
     ·exact h2.off h4
     ·simp at h4
      rcases h4 with h4 | h4
      ·exact absurd ((h4 ▸ h2.blk).inj B2.out.f).2 (by decide)
      ·exact absurd ((h4 ▸ h2.blk).inj B2.out.o).2 (by decide)
    ·refine Xcp h2.key.bytes LJ.out.only (fun g hg hm=>?_)
     obtain ⟨h5,cs,hb⟩:=h2.key.blk g hg
     rcases Za.1 hm with h4 | h4
     ·exact h5 h4
     ·simp at h4
      rcases h4 with h4 | h4
      ·exact absurd ((h4 ▸ hb).inj B2.out.f).2 (by decide)
      ·exact absurd ((h4 ▸ hb).inj B2.out.o).2 (by decide)
    ·obtain ⟨h5,cs,hb⟩:=h2.key.blk g hg
     refine ⟨fun hm=>?_,cs,LJ.out.only.blk hb (fun hm=>?_)⟩
     ·rcases LJ.out.mine g hm with h4 | h4
      ·exact h5 h4
      ·have:=hb.lt;omega
     ·rcases Za.1 hm with h4 | h4
      ·exact h5 h4
      ·simp at h4
       rcases h4 with h4 | h4
       ·exact absurd ((h4 ▸ hb).inj B2.out.f).2 (by decide)
       ·exact absurd ((h4 ▸ hb).inj B2.out.o).2 (by decide)
    ·rcases LJ.out.mine cb hm with h4 | h4
     ·exact h2.off h4
     ·have:=h2.blk.lt;omega
   have LK:=Th (HREC.out t hmem LJ.out.pool (by have:=HK.out;omega) T2.1 T2.2 (HPG.out.sub (fun n hn=>Yg _ (Yl.2 ⟨t,hmem,hn⟩))) (HWF.out.2 t hmem) (ris_kid HW.out HR.out ht) C2 LJ.out.boxes);have y0:=LJ.out.boxes.l.cell 0;simp only [Zb] at y0;have HTJ:=Th ht;clear hmem hl1 ht T2 C2
   go_upto_region 16 with (go_at_call 42;refine LK.out.mono ?_;rintro e w4 ⟨M4,ov4,on4,rfl,hl4⟩;have L4:=Th hl4;clear hl4)
   have f0:=L4.out.boxes.f.cell 0;simp only [Zb] at f0
   have J4:Hid (LookJ w2 w4 p M1 u pg (k+2+2*((K.take (ct+(j+1))).flatMap (nodes h)).length) cb cbx fbx obx lbx M4 (nextP (entsT t) last begun).isSome ov4 on4):=by
    show LookJ _ _ _ _ _ _ _ _ _ _ _ _ _ _ _ _;have hl:=congrArg List.length (Xhf (nodes h) K (ct+j) t HTJ.out);rw [Ze] at hl;refine ⟨L4.out.pool.more (by rw [show ct+(j+1)=ct+j+1 by omega,hl];omega),L4.out.boxes,LJ.out.only.trans L4.out.only (fun x hx=>?_),fun x hx=>?_⟩
    ·rcases Za.1 hx with h1 | h1
     ·rcases LJ.out.mine x h1 with h2 | h2
      ·exact .inl (Yb _ h2)
      ·exact .inr h2
     ·exact .inl (Yk _ h1)
    ·rcases L4.out.mine x hx with h1 | h1
     ·exact LJ.out.mine x h1
     ·exact .inr (Zp LJ.out.only.size h1)
   have OUT4:=Th L4.out.out;obtain ⟨r,hr⟩:∃ r,nextP (entsT t) last begun=r:=⟨_,rfl⟩;rw [hr] at f0 J4 OUT4;have RR:=Th hr;clear hr L4
   cases r with
   | none =>
    simp only [Option.isSome_none] at f0
    go_wp2_with fail
    go_roundg (nl-(j+1))
    case measure=>have:=HGK.out;omega
    case rel =>
     refine ⟨j+1,M4,false,ov4,on4,rfl,by omega,by go_num,J4.out,fun _=>rfl,fun i x hi hx=>?_⟩
     by_cases hi2:i<ct+j
     ·exact HNO.out i x hi2 hx
     ·obtain rfl:i=ct+j:=by omega
      rw [HTJ.out] at hx;obtain rfl:=Option.some.inj hx;exact RR.out
   | some e =>
    simp only [Option.isSome_some] at f0
    go_wp2_with fail
    go_ret;have hne:nextP (K.flatMap entsT) last begun=some e:=next_found HTJ.out (fun i x hi hx=>HNO.out i x hi hx) RR.out
    have hl:((K.take (ct+(j+1))).flatMap (nodes h)).length≤(K.flatMap (nodes h)).length:=by
     conv=>rhs;rw [←Yf (ct+(j+1)) K,Wg,Ze]
     omega
    refine ⟨M4,ov4,on4,rfl,?_⟩;rw [hne];exact J4.out.fin S2.out rfl OUT4.out (by omega)
  ·have hin:j=nl:=by omega
   subst hin
   have hnlt:¬(j:Int)<j:=by omega
   go_wp2_with fail
   go_ret
   have hall:nextP (K.flatMap entsT) last begun=none:=Xke (fun t ht=>by
    obtain ⟨i,hi⟩:=Xr.1 ht;have h1:=(Zh.1 hi).1
    exact HNO.out i t (by have h2:=KN.out;have h3:=NL.out;omega) hi)
   have hf1:=HF0.out (by have h2:=HCT.out;have h3:=NL.out;omega)
   have hl:((K.take (ct+j)).flatMap (nodes h)).length≤(K.flatMap (nodes h)).length:=by
    conv=>rhs;rw [←Yf (ct+j) K,Wg,Ze]
    omega
   have hk2:k+2+2*((K.take (ct+j)).flatMap (nodes h)).length≤k+2*((K.flatMap (nodes h)).length+1):=by omega
   have hfin:=LJ.out.fin S2.out (r:=none) (by rw [hf1];rfl) (fun e he=>by cases he) hk2;rw [←hall,List.length_flatMap] at hfin;exact ⟨rfl,M',ov',on',hfin⟩
theorem look_any {p tb root cb cbx fbx obx lbx:Nat} {kv:Value} {last:Pr} {begun:Bool} {u:List Bool} {pg:Nat→List UInt8}:∀ {h:Nat} (t:Tr h),LookP p tb root cb cbx fbx obx lbx kv last begun u pg t
 | 0,t=>by
  obtain ⟨i,E,rfl⟩:=Tr.is_leaf t;exact look_leaf i E
 | h+1,t=>by
  obtain ⟨i,E,K,rfl⟩:=Tr.is_node t;exact look_node i E K (fun t _=>look_any t)
end T
end Go.Proofs.YtiijokopcgnokaaGreat
