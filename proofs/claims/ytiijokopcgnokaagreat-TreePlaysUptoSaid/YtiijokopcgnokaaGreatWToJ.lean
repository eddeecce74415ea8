import Derived.Laws.EntriesVeiled
import Derived.RegionTactic
import Derived.ChangeAlike
import Derived.Test.YtiijokopcgnokaaGreatWToH
set_option linter.unusedSimpArgs false
set_option linter.unusedVariables false
namespace Go.Proofs.YtiijokopcgnokaaGreat
namespace T
open Go Go.RowKit D B C G P H
theorem Xeq {P:Program} {fn:Func} {p u x:Tmp} {ty:TypeId} (h:fn.results = #[.cell p ty,.tmp u,.tmp x]) (tmps:Array Value) (w:World) (g:Nat) (cs:List Value) {t:TypeId} (d:TypeDesc)
  (hp:tmps.getD p undef=.pointer (some ⟨g,0,none⟩)) (hg:Blk w g cs t)
  (hu:P.underlying ty=some d) (hd:(match d with | .struct _ | .array _ _=>true | _=>false)=true) (hi:(P.info? ty).map (·.size)=some cs.length) :
  (results fn tmps).run P w=.ok (.tuple #[.agg cs.toArray,tmps.getD u undef,tmps.getD x undef]) w:=by
 have h1:(results fn tmps).run P w=((asAddr (tmps.getD p undef)).run P w).andThen fun a w₁=>((loadVar ty a).run P w₁).andThen fun v w₂=>.ok (.tuple #[v,tmps.getD u undef,tmps.getD x undef]) w₂:=by
  simp only [results,h]
  simp [Sem.run_bind,Result.andThen]
 rw [h1,hp]
 simp [asAddr,run_loadVar_row w g t ty cs.toArray (0,0) d hg hu hd (by simpa using hi),Result.andThen]
theorem KeyOk.over {w w':World} {M M' X:List Nat} {q:KV} (h:KeyOk w M q) (hO:Only (M++X) w w') (hX:∀ g,q.1.ownBlock=some g→g∉X) (hm:∀ x∈M',x∈M∨w.heap.size≤x):KeyOk w' M' q:=by
 have hn:∀ g,q.1.ownBlock=some g→g∉M++X:=fun g hg hm=>by
  rcases Za.1 hm with h1 | h1
  ·exact (h.blk g hg).1 h1
  ·exact hX g hg h1
 refine ⟨Xcp h.bytes hO hn,h.cap,fun g hg=>?_,h.num⟩;obtain ⟨h1,cs,hb⟩:=h.blk g hg;refine ⟨fun hm'=>?_,cs,hO.blk hb (hn g hg)⟩
 rcases hm g hm' with h2 | h2
 ·exact h1 h2
 ·have:=hb.lt;omega
theorem CurAt.over {w w':World} {M M' X:List Nat} {cb tb:Nat} {kv:Value} {last:Pr} {begun:Bool} (h:CurAt w M cb tb kv last begun) (hO:Only (M++X) w w') (hX:∀ g,kv.ownBlock=some g→g∉X) (hc:cb∉X) (hm:∀ x∈M',x∈M∨w.heap.size≤x):CurAt w' M' cb tb kv last begun:=by
 refine ⟨hO.blk h.blk (fun h1=>?_),h.key.over hO hX hm,fun h1=>?_⟩
 ·rcases Za.1 h1 with h2 | h2
  ·exact h.off h2
  ·exact hc h2
 ·rcases hm _ h1 with h2 | h2
  ·exact h.off h2
  ·have:=h.blk.lt;omega
theorem next_world (w:World) (cb:Nat):∀ wA,(((((w.alloc (.cells #[.pointer (some ⟨cb,0,none⟩)] 40)).alloc (.cells #[.slice none 0 0,.int .u64 0] 43)).alloc (.cells #[.slice none 0 0,.int .u64 0] 43)).alloc (.cells #[.bool false] 4)).alloc (.cells #[.func (.func 42) #[] #[.pointer (some ⟨w.heap.size,0,none⟩),.pointer (some ⟨w.heap.size+1+1+1,0,none⟩),.pointer (some ⟨w.heap.size+1+1,0,none⟩),.pointer (some ⟨w.heap.size+1+1+1+1,0,none⟩)]] 99))=wA →
  Only [] w wA∧Blk wA w.heap.size [.pointer (some ⟨cb,0,none⟩)] 40∧Blk wA (w.heap.size+1) [.slice none 0 0,.int .u64 0] 43∧Blk wA (w.heap.size+1+1) [.slice none 0 0,.int .u64 0] 43∧Blk wA (w.heap.size+1+1+1) [.bool false] 4 ∧
  Blk wA (w.heap.size+1+1+1+1) [.func (.func 42) #[] #[.pointer (some ⟨w.heap.size,0,none⟩),.pointer (some ⟨w.heap.size+1+1+1,0,none⟩),.pointer (some ⟨w.heap.size+1+1,0,none⟩),.pointer (some ⟨w.heap.size+1+1+1+1,0,none⟩)]] 99:=by
 rintro _ rfl;refine ⟨(((((Only.refl _ _).alloc _).alloc _).alloc _).alloc _).alloc _,?_,?_,?_,?_,?_⟩
 ·exact ((((Blk.new' #[.pointer (some ⟨cb,0,none⟩)] 40 w (n:=w.heap.size) rfl).alloc _).alloc _).alloc _).alloc _
 ·exact (((Blk.new' #[.slice none 0 0,.int .u64 0] 43 _ (n:=w.heap.size+1) (by simp)).alloc _).alloc _).alloc _
 ·exact ((Blk.new' #[.slice none 0 0,.int .u64 0] 43 _ (n:=w.heap.size+1+1) (by simp)).alloc _).alloc _
 ·exact (Blk.new' #[.bool false] 4 _ (n:=w.heap.size+1+1+1) (by simp)).alloc _
 ·exact Blk.new' #[.func (.func 42) #[] #[.pointer (some ⟨w.heap.size,0,none⟩),.pointer (some ⟨w.heap.size+1+1+1,0,none⟩),.pointer (some ⟨w.heap.size+1+1,0,none⟩),.pointer (some ⟨w.heap.size+1+1+1+1,0,none⟩)]] 99 _ (n:=w.heap.size+1+1+1+1) (by simp)
set_option maxRecDepth 100000 in
set_option maxHeartbeats 4000000 in
theorem next_any {w:World} {p k tb root cb H:Nat} {M:List Nat} {u:List Bool} {pg:Nat→List UInt8} {T:Tr H} {kv:Value} {last:Pr} {begun:Bool} (hP:PoolV w p M u pg k) (hT:Xax w tb p root) (htb:tb∉M) (hI:InPages u pg root T) (hk:k+2*(nodes H T).length≤1000000) (hC:CurAt w M cb tb kv last begun) :
  Calls Tryz.prog 16 #[.pointer (some ⟨cb,0,none⟩)] w fun e w'=>∃ M',
   (nextP (entsT T) last begun=none∧e=.returned (.tuple #[.agg #[.slice none 0 0,.int .u64 0],.bool false,.int .i64 0])∧PoolV w' p M' u pg (k+2*(nodes H T).length)∧CurAt w' M' cb tb kv last begun∧Step M M' w w') ∨
   (∃ x kv' rv,nextP (entsT T) last begun=some x∧e=.returned (.tuple #[.agg #[rv,.int .u64 x.2],.bool true,.int .i64 0])∧KeyOk w' M' (rv,x)∧(∀ g,rv.ownBlock=some g→w.heap.size≤g)∧PoolV w' p M' u pg (k+2*(nodes H T).length)∧CurAt w' M' cb tb kv' x true∧(∀ g,rv.ownBlock=some g→kv'.ownBlock≠some g)∧Only (M++[cb]) w w'∧∀ x∈M',x∈M∨w.heap.size≤x):=by
 have k0:=hC.blk.cell 0;have t1:=hT.cell 1;simp only [Zb,Zd] at k0 t1;have HP:=Th hP;have HT:=Th hT;have HTB:=Th htb;have HI:=Th hI;have HC:=Th hC;have HK:=Th hk;have B5:=Blk.new' #[.nilFunc] 99 ((((w.alloc (.cells #[.pointer (some ⟨cb,0,none⟩)] 40)).alloc (.cells #[.slice none 0 0,.int .u64 0] 43)).alloc (.cells #[.slice none 0 0,.int .u64 0] 43)).alloc (.cells #[.bool false] 4)) (n:=w.heap.size+1+1+1+1) (by simp);have n0:=B5.cell 0;have nz:=B5.frozen 0;simp only [Zb] at n0;clear hP hT htb hI hC hk
 go_enter Tryz.func16,Tryz.ntmps16
 go_upto_region 5 with fail
 clear n0 nz B5;generalize hwA:World.alloc (World.alloc (World.alloc (World.alloc (World.alloc w _) _) _) _) _=wA;obtain ⟨OA,BC,BR,BO,BF,BL⟩:=next_world w cb wA hwA;clear hwA;replace OA:=OA.drew;replace BC:=BC.drew;replace BR:=BR.drew;replace BO:=BO.drew;replace BF:=BF.drew;replace BL:=BL.drew;obtain ⟨wD,hwD⟩:∃ x,wA.drew=x:=⟨_,rfl⟩;rw [hwD] at OA BC BR BO BF BL;have HWD:=Th hwD;clear hwD;have NEW:Hid (w.heap.size≤w.heap.size+1):=Xy _;obtain ⟨lbx,hlb⟩:∃ x,w.heap.size+1+1+1+1=x:=⟨_,rfl⟩;obtain ⟨fbx,hfb⟩:∃ x,w.heap.size+1+1+1=x:=⟨_,rfl⟩
 obtain ⟨obx,hob⟩:∃ x,w.heap.size+1+1=x:=⟨_,rfl⟩;obtain ⟨rbx,hrb⟩:∃ x,w.heap.size+1=x:=⟨_,rfl⟩;obtain ⟨cbx,hcbx⟩:∃ x,w.heap.size=x:=⟨_,rfl⟩
 have HNE:Hid ((rbx≠obx∧rbx≠fbx)∧(cbx∉M∧rbx∉M∧obx∉M∧fbx∉M∧lbx∉M)∧(w.heap.size≤cbx∧w.heap.size≤rbx∧w.heap.size≤obx∧w.heap.size≤fbx∧w.heap.size≤lbx)):=by
  have hl:=HP.out.lt
  refine ⟨by omega,⟨fun hm=>?_,fun hm=>?_,fun hm=>?_,fun hm=>?_,fun hm=>?_⟩,by omega⟩ <;> (have:=hl _ hm;omega)
 rw [hlb] at BL;rw [hlb];rw [hfb] at BL BF;rw [hfb];rw [hob] at BL BO;rw [hob];rw [hrb] at BR;rw [hrb];rw [hcbx] at BL BC;rw [hcbx];clear hlb hfb hob hrb hcbx NEW;have OA:=Th OA;have BR:=Th BR;have CA:Hid (CurAt wD M cb tb kv last begun):=HC.out.step ((Step.refl M w).then OA.out);have PA:Hid (PoolV wD p M u pg k):=HP.out.past OA.out;have TA:Hid (Xax wD tb p root):=OA.out.blk HT.out (by simp);have hbx:Boxes wD M cb cbx fbx obx lbx false (.slice none 0 0) 0:=⟨BC,BF,BO,BL,HNE.out.2.1.1,HNE.out.2.1.2.2.2.1,HNE.out.2.1.2.2.1,HNE.out.2.1.2.2.2.2⟩;have hlk:=look_any T PA.out HK.out TA.out HTB.out HI.out.of HI.out.wf HI.out.ris CA.out hbx
 rw [HI.out.top] at hlk;have LK:=Th hlk;have BX:=Th hbx;have hca:=OA.out.cell k0 (by simp);have hta:=OA.out.cell t1 (by simp);have hcx:=BC.cell 0;have hlx:=BL.cell 0;simp only [Zb] at hcx hlx;clear hlk hbx BC BF BO BL k0 t1
 refine Xbf 8 (C:=fun w'=>w'=wD) (by kernel_rfl) (by kernel_rfl) HWD.out ?_
 simp only [Xv,Wc,Wh,Xp]
 repeat (go_big_quiet_step (fail))
 refine wpQuiet_nil ?_
 rintro _ rfl
 go_upto_region 6 with (go_at_call 42;refine LK.out.mono ?_;rintro e w1 ⟨M1,ov,on,rfl,hR⟩;have R1:=Th hR;clear hR)
 clear hca hta hcx hlx;have B1:=Th R1.out.boxes;have hfx:=B1.out.f.cell 0;have hcx:=B1.out.c.cell 0;simp only [Zb] at hfx hcx
 have hrb1:Blk w1 rbx [.slice none 0 0,.int .u64 0] 43:=R1.out.only.blk BR.out (fun hm=>by
  simp only [Za,Zg,Xt,or_false] at hm
  rcases hm with hm | hm | hm
  ·exact HNE.out.2.1.2.1 hm
  ·exact HNE.out.1.2 hm
  ·exact HNE.out.1.1 hm)
 have OW:Hid (Only (M++[fbx,obx]) w w1):=(OA.out.mono (by simp)).trans R1.out.only (fun x hx=>.inl hx);have RB1:=Th hrb1
 have hcu1:CurAt w1 M1 cb tb kv last begun:=CA.out.over R1.out.only (fun g hg hm=>by
   obtain ⟨_,cs,hb⟩:=CA.out.key.blk g hg;simp at hm
   rcases hm with rfl | rfl
   ·exact absurd (hb.inj BX.out.f).2 (by decide)
   ·exact absurd (hb.inj BX.out.o).2 (by decide)) (fun hm=>by
   simp at hm;have h1:=HC.out.blk.lt
   rcases hm with rfl | rfl
   ·have:=HNE.out.2.2.2.2.2.1;omega
   ·have:=HNE.out.2.2.2.2.1;omega) R1.out.mine
 have CU1:=Th hcu1
 have SM:Hid (∀ x∈M1,x∈M∨w.heap.size≤x):=fun x hx=>by
  rcases R1.out.mine x hx with h | h
  ·exact .inl h
  ·exact .inr (Zp OA.out.size h)
 have OS:Hid (Only M w w1):=OW.out.mono (fun x hx=>by
  simp only [Za,Zg,Xt,or_false] at hx
  rcases hx with h | rfl | rfl
  ·exact .inl h
  ·exact .inr HNE.out.2.2.2.2.2.1
  ·exact .inr HNE.out.2.2.2.2.1)
 have hsz1:w.heap.size≤w1.heap.size:=OW.out.size;have IC:Hid ((Tryz.prog.info? 43).map (·.size)=some 2):=Xbh;have UC:=Tryz.underlying43
 cases hN:nextP (entsT T) last begun with
 | none =>
  have HN:=Th hN;rw [hN] at hfx;simp only [Option.isSome_none] at hfx;clear hN
  go_upto_region 7 with fail
  go_wp2_with (refine Xak rfl 43 (.tmp 2) (.tmp 25) rfl rbx [.slice none 0 0,.int .u64 0] rfl rfl RB1.out rfl IC.out (by intro u hu;simp at hu;rcases hu with rfl | rfl <;> rfl) ?_;intro w4 hb4 hO4;have B4:=Th hb4;have O4:=Th hO4;clear hb4 hO4)
  (try simp only [Exit.inBlock,Exit.then])
  refine bodyPost_ret (Xeq rfl _ _ rbx [.slice none 0 0,.int .u64 0] _ rfl B4.out UC rfl IC.out) rfl ?_
  have hoff:∀ x∈[rbx],x∉M1:=fun x hx hm=>by
   simp at hx;subst hx
   rcases R1.out.mine _ hm with h | h
   ·exact HNE.out.2.1.2.1 h
   ·have:=BR.out.lt;omega
  refine ⟨M1,.inl ⟨HN.out,rfl,R1.out.pool.later O4.out (fun x hx cs hb=>?_) (fun x hx hm=>hoff x hm hx),⟨O4.out.blk CU1.out.blk (fun hm=>?_),CU1.out.key.later O4.out (Off.one RB1.out (by decide)),CU1.out.off⟩,⟨OS.out.trans O4.out (fun x hx=>?_),SM.out⟩⟩⟩
  ·simp at hx
   subst hx;exact absurd (hb.inj RB1.out).2 (by decide)
  ·simp at hm
   subst hm;exact absurd (CU1.out.blk.inj RB1.out).2 (by decide)
  ·simp at hx
   subst hx;exact .inr HNE.out.2.2.2.1
 | some x =>
  have HN:=Th hN;rw [hN] at hfx;simp only [Option.isSome_some] at hfx;obtain ⟨hon,hko⟩:=R1.out.out x hN;clear hN;have KO:=Th hko;subst hon;obtain ⟨oa,ok,hov,_⟩:=id hko.bytes;dsimp only at hov;subst hov;have o0:=B1.out.o.cell 0;have o1:=B1.out.o.cell 1;have k1:=CU1.out.blk.cell 1;have k2:=CU1.out.blk.cell 2;have k3:=CU1.out.blk.cell 3;have kz1:=CU1.out.blk.frozen 1;have kz2:=CU1.out.blk.frozen 2;have kz3:=CU1.out.blk.frozen 3;simp only [Zd,Zb] at o0 o1 k1 k2 k3;obtain ⟨xl,hxl⟩:∃ xl,x.1.length=xl:=⟨_,rfl⟩;have HXL:=Th hxl;rw [hxl] at o0
  have hne1:cbx≠cb:=fun h=>by have h1:=HC.out.blk.lt;have:=HNE.out.2.2.1;omega
  clear hko hxl hcu1 hrb1
  go_upto_region 8 with fail
  go_region
  obtain ⟨w2,hw2⟩:∃ w2,(((w1.setCell ⟨cb,1,none⟩ (.slice oa xl ok)).setCell ⟨cb,2,none⟩ (.int .u64 x.2)).setCell ⟨cb,3,none⟩ (.bool true)).drew=w2:=⟨_,rfl⟩
  have OC:Hid (Only [cb] w1 w2):=by show Only _ _ _;rw [←hw2];exact ((((Only.refl _ _).setCell (.inl (by simp)) _).setCell (.inl (by simp)) _).setCell (.inl (by simp)) _).drew
  have C2:Hid (Blk w2 cb [.pointer (some ⟨tb,0,none⟩),.slice oa xl ok,.int .u64 x.2,.bool true] 98):=by show Blk _ _ _ _;rw [←hw2];exact (((CU1.out.blk.set 1 _).set 2 _).set 3 _).drew
  rw [hw2];clear hw2
  have hne2:obx∉[cb]:=fun h=>by
   simp at h;subst h;exact absurd (CU1.out.blk.inj B1.out.o).2 (by decide)
  have hne3:rbx∉[cb]:=fun h=>by
   simp at h;subst h;exact absurd (CU1.out.blk.inj RB1.out).2 (by decide)
  have R2:Hid (Blk w2 rbx [.slice none 0 0,.int .u64 0] 43):=OC.out.blk RB1.out hne3
  have KO2:Hid (KeyOk w2 M1 (.slice oa xl ok,x)):=by
   have h:=KO.out.later OC.out (Off.one CU1.out.blk (by decide));rw [HXL.out] at h;exact h
  have OFFM:Hid (∀ x∈[cb],x∉M1):=fun x hx hm=>by simp at hx;subst hx;exact CU1.out.off hm
  have P2:Hid (PoolV w2 p M1 u pg (k+2*(nodes H T).length)):=R1.out.pool.later OC.out (fun x hx cs hb=>by
   simp at hx;subst hx
   exact absurd (hb.inj CU1.out.blk).2 (by decide)) (fun x hx hm=>OFFM.out x hm hx)
  have y0:=OC.out.cell o0 hne2;have y1:=OC.out.cell o1 hne2
  have HXLE:Hid (x.1.length≤1048576):=by
   show _≤_;have h1:=HI.out.keys x (List.mem_of_find?_eq_some HN.out);have:=h1.1;omega
  have CL:Hid (Calls Tryz.prog 41 #[.slice oa xl ok] w2.drew fun e w'=>∃ v',e=.returned v'∧B.Own w2.drew w' v' x.1):=Xcj (KO2.out.past (Only.refl [] w2).drew).bytes HXLE.out;clear o0 o1 k1 k2 k3 kz1 kz2 kz3 hfx hcx hne1
  go_upto_region 9 with fail
  refine Xbw [(2,fun w'=>w'.cell? ⟨obx,0,none⟩=some (.slice oa xl ok)),(6,fun w'=>w'.cell? ⟨obx,1,none⟩=some (.int .u64 x.2))] (by kernel_rfl) (by simp;exact ⟨((Only.refl [] _).drew).cell y0 (by simp),((Only.refl [] _).drew).cell y1 (by simp)⟩) (fun hHeld=>?_)
  refine wkA 0 34 (.pointer (some ⟨obx,0,none⟩)) hHeld fun hHeld=>?_
  refine Xbc 1 35 (.slice oa xl ok) 0 2 rfl rfl rfl (by kernel_rfl) (by kernel_rfl) (by kernel_rfl) (by kernel_rfl) (by rfl) (by kernel_rfl) (fun _ _ _ h=>h) (Or.inl ⟨by rfl,fun w1 hw1=>by go_simp⟩) hHeld (fun hHeld=>?_)
  (try simp only [Act.put,qSa,qSz,qSs])
  refine wkA 3 37 (.pointer (some ⟨obx,1,none⟩)) hHeld fun hHeld=>?_
  refine Xbc 4 38 (.int .u64 x.2) 1 6 rfl rfl rfl (by kernel_rfl) (by kernel_rfl) (by kernel_rfl) (by kernel_rfl) (by rfl) (by kernel_rfl) (fun _ _ _ h=>h) (Or.inl ⟨by rfl,fun w1 hw1=>by go_simp⟩) hHeld (fun hHeld=>?_)
  (try simp only [Act.put,qSa,qSz,qSs])
  refine woneA 2 fun K hK=>?_
  go_wp2_with (go_at_call 41;refine CL.out.mono ?_;rintro e w3 ⟨v',rfl,ho3⟩;obtain ⟨a3,c3,rfl⟩:=Xac ho3.1;have OW3:=Th ho3;clear ho3)
  have z1:w3.cell? ⟨obx,1,none⟩=some (.int .u64 x.2):=OW3.out.2.2.cell (((Only.refl [] _).drew).cell y1 (by simp)) (by simp);refine hK.out _ _ (held2 (.inl (by rfl)) (.inr z1)) (fun hHeld=>?_);clear hK K
  (try simp only [Act.put,qSa,qSz,qSs])
  refine wkA 5 39 (.agg #[.slice a3 x.1.length c3,.int .u64 x.2]) hHeld fun hHeld=>?_
  have R3:Hid (Blk w3 rbx [.slice none 0 0,.int .u64 0] 43):=OW3.out.2.2.blk R2.out (by simp)
  refine woneA 6 fun K hK=>?_
  have r0:=R3.out.cell 0;have r1:=R3.out.cell 1;have rz0:=R3.out.frozen 0;have rz1:=R3.out.frozen 1;simp only [Zd,Zb] at r0 r1
  go_wp2_with fail
  obtain ⟨w4,hw4⟩:∃ w4,((w3.setCell ⟨rbx,0,none⟩ (.slice a3 x.1.length c3)).setCell ⟨rbx,1,none⟩ (.int .u64 x.2))=w4:=⟨_,rfl⟩
  have O4:Hid (Only [rbx] w3 w4):=by show Only _ _ _;rw [←hw4];exact ((Only.refl _ _).setCell (.inl (by simp)) _).setCell (.inl (by simp)) _
  have B4:Hid (Blk w4 rbx [.slice a3 x.1.length c3,.int .u64 x.2] 43):=by show Blk _ _ _ _;rw [←hw4];exact (R3.out.set 0 _).set 1 _
  rw [hw4];clear hw4 r0 r1 rz0 rz1;refine hK.out _ _ (held2 (.inl (by rfl)) (.inl (by rfl))) (fun hHeld=>?_);clear hK K
  (try simp only [Act.put,qSa,qSz,qSs])
  refine wkA 7 3 (.bool true) hHeld fun hHeld=>?_
  refine wkA 8 4 (.int .i64 0) hHeld fun hHeld=>?_
  refine wdone (by kernel_rfl) ?_ _
  go_wp2_with fail
  (try simp only [Exit.inBlock,Exit.then])
  refine bodyPost_ret (Xeq rfl _ _ rbx [.slice a3 x.1.length c3,.int .u64 x.2] _ rfl B4.out UC rfl IC.out) rfl ?_
  have O23:Only [] w2 w3:=((Only.refl _ _).drew).trans OW3.out.2.2 (by simp);have hlt:∀ y∈M1,y<w2.drew.heap.size:=P2.out.lt;have hrr:Off 5 w3 [rbx]:=Off.one R3.out (by decide);refine ⟨M1,.inr ⟨x,.slice oa xl ok,.slice a3 x.1.length c3,HN.out,rfl,(Xgv OW3.out hlt KO2.out.num).later O4.out hrr,fun g hg=>?_,(P2.out.past O23).later O4.out (fun x hx cs hb=>?_) (fun x hx hm=>?_),⟨O4.out.blk (O23.blk C2.out (by simp)) (fun hm=>?_),(KO2.out.past O23).later O4.out hrr,CU1.out.off⟩,fun g hg he=>?_,?_,SM.out⟩⟩
  ·have h1:=OW3.out.2.1 g hg
   exact Zp (Zp hsz1 OC.out.size) h1
  ·simp at hx
   subst hx;exact absurd (hb.inj R3.out).2 (by decide)
  ·simp at hm
   subst hm
   rcases R1.out.mine _ hx with h | h
   ·exact HNE.out.2.1.2.1 h
   ·have:=BR.out.lt;omega
  ·simp at hm
   subst hm;exact absurd (C2.out.inj R2.out).2 (by decide)
  ·obtain ⟨_,cs,hb⟩:=KO2.out.blk g he
   have h1:=OW3.out.2.1 g hg;have h2:=hb.lt;exact absurd h1 (Nat.not_le_of_lt h2)
  ·refine ((OS.out.mono (fun x hx=>.inl (Yb _ hx))).trans (OC.out.trans O23 (by simp)) (fun x hx=>.inl (Yk _ hx))).trans O4.out (fun x hx=>?_)
   simp at hx;subst hx;exact .inr HNE.out.2.2.2.1
end T
namespace T
open Go Go.RowKit D B C G P H
theorem Xjs : ∀ {u:List Bool} {k:Nat} {L:List Nat},(∀ j,u.getD j false=true→j+k∈L)→u.count true≤L.length
 | [],_,_,_=>by simp
 | b :: t,k,L,h=>by
  have ht:∀ j,t.getD j false=true→j+(k+1)∈L:=fun j hj=>by
   have:=h (j+1) (by simpa using hj)
   rwa [show j+1+k=j+(k+1) by omega] at this
  cases b with
  | false =>
   have:=Xjs ht
   simpa [List.count_cons] using this
  | true =>
   have hk:k∈L:=by have:=h 0 (by simp);simpa using this
   have h1:=Xjs (u:=t) (k:=k+1) (L:=L.erase k) (fun j hj=>(List.mem_erase_of_ne (by omega)).2 (ht j hj));rw [List.length_erase_of_mem hk] at h1;have:=List.length_pos_of_mem hk
   rw [List.count_cons_self];omega
theorem Xoi : ∀ u:List Bool,u.length=u.count false+u.count true
 | []=>rfl
 | b :: t=>by
  have:=Xoi t
  cases b <;> simp [List.count_cons] <;> omega
theorem Xoo {u:List Bool} {L:List Nat} (h:∀ j,u.getD j false=true→j∈L):u.length≤u.count false+L.length:=by
 have h1:=Xjs (u:=u) (k:=0) (L:=L) (fun j hj=>by simpa using h j hj);have:=Xoi u;omega
theorem Xma {u:List Bool} {pg:Nat→List UInt8} {root H x:Nat} {T:Tr H} {l:List UInt8} (hI:InPages u pg root T) (hl:l.length≤300) (hx:x<18446744073709551616) {c:Ctx H 0} {i:Int} {E:List Pr} {W' F':List Nd} (hp:plug c (.leaf i E)=T) (hs:Splits ⟨i,true,insP E (l,x),[]⟩ (path c i).reverse [] W' F'):F'.length≤2*H+5:=by
 have hpm:=Xbb c (.leaf i E);rw [hp,Tr.leaf_id,Xan] at hpm;have hleaf:=hI.fit ⟨i,true,E,[]⟩ (hpm.mem_iff.2 (by simp))
 have hkE:Keys (insP E (l,x)):=fun e he=>by
  rcases Xdt.1 he with h | h
  ·rw [h];exact ⟨hl,hx⟩
  ·exact hleaf.2 e h
 have hsum:sumE true (insP E (l,x))≤814:=by
  have h1:=Xcf.1 hleaf.1;simp only at h1;unfold insP;rw [Xbn];have h2:=Xde true E (low E (l,x))
  have h3:wE true (l,x)≤312:=by unfold wE;simp;omega
  have h4:sumE true ((l,x) :: E.drop (low E (l,x)))=wE true (l,x)+sumE true (E.drop (low E (l,x))):=rfl;omega
 have h1:=Xpm hs hkE (by simpa using hsum) (fun y hy=>by
  have hy':y∈path c i:=List.mem_reverse.1 hy;have h2:=hI.fit y (hpm.mem_iff.2 (by simp [hy']));have h3:=Xkh c i y hy';rw [h3] at h2
  exact ⟨h3,h2.2,h2.1⟩)
 have h2:=Xfg c i;simp only [List.length_reverse,Wn] at h1;omega
structure TreeL (w:World) (p tb root:Nat) (M:List Nat) (u:List Bool) (pg:Nat→List UInt8) (E:List Pr) (S:List Nat):Prop where
 at_:Xax w tb p root
 off:tb∉M
 tree:∃ H,∃ T:Tr H,InPages u pg root T∧entsT T=E∧(nodes H T).length≤mostP E∧(nodes H T).map (·.id)=natsI S
structure OpL (u u':List Bool) (pg pg':Nat→List UInt8) (S S':List Nat):Prop where
 len:u'.length=u.length
 used:∀ j:Nat,u'.getD j false=true↔(u.getD j false=true∧j∉S)∨j∈S'
 same:∀ j:Nat,u.getD j false=true→j∉S→pg' j=pg j
 fresh:∀ j∈S',j∈S∨u.getD j false=false
theorem Xff {l:List Nd} {S:List Nat} (h:l.map (·.id)=natsI S) (j:Nat):(∃ n∈l,n.id=(j:Nat))↔j∈S:=by
 constructor
 ·rintro ⟨n,hn,e⟩
  have h1:(j:Int)∈l.map (·.id):=Zi.2 ⟨n,hn,e⟩;rw [h] at h1;obtain ⟨x,hx,e2⟩:=Zi.1 h1
  obtain rfl:x=j:=by omega
  exact hx
 ·intro hj
  have h1:(j:Int)∈natsI S:=Zi.2 ⟨j,hj,rfl⟩;rw [←h] at h1;obtain ⟨n,hn,e⟩:=Zi.1 h1;exact ⟨n,hn,e⟩
theorem TreeL.few {w:World} {p tb root:Nat} {M:List Nat} {u:List Bool} {pg:Nat→List UInt8} {E:List Pr} {S:List Nat} (h:TreeL w p tb root M u pg E S):S.length≤mostP E:=by
 obtain ⟨H,T,_,_,h3,h4⟩:=h.tree;have:=congrArg List.length h4;simp only [Zl,natsI] at this;omega
theorem TreeL.used {w:World} {p tb root:Nat} {M:List Nat} {u:List Bool} {pg:Nat→List UInt8} {E:List Pr} {S:List Nat} (h:TreeL w p tb root M u pg E S):∀ j∈S,u.getD j false=true:=fun j hj=>by
 obtain ⟨H,T,h1,_,_,h4⟩:=h.tree;obtain ⟨n,hn,e⟩:=(Xff h4 j).2 hj;obtain ⟨id,h5,h6,_⟩:=h1.page n hn
 obtain rfl:id=j:=by omega
 exact h6
theorem TreeL.step {w w':World} {p tb root:Nat} {M M':List Nat} {u:List Bool} {pg:Nat→List UInt8} {E:List Pr} {S:List Nat} (h:TreeL w p tb root M u pg E S) (hS:Step M M' w w'):TreeL w' p tb root M' u pg E S :=
 ⟨hS.1.blk h.at_ h.off,P.Step.keep hS h.at_.lt h.off,h.tree⟩
theorem TreeL.past {w w':World} {p tb root:Nat} {M:List Nat} {u:List Bool} {pg:Nat→List UInt8} {E:List Pr} {S:List Nat} (h:TreeL w p tb root M u pg E S) (hO:Only [] w w'):TreeL w' p tb root M u pg E S:=h.step ((Step.refl M w).then hO)
theorem OpL.none {u:List Bool} {pg:Nat→List UInt8} {S:List Nat} (h:∀ j∈S,u.getD j false=true):OpL u u pg pg S S :=
 ⟨rfl,fun j=>⟨fun hu=>by by_cases hj:j∈S;exact .inr hj;exact .inl ⟨hu,hj⟩,fun hu=>by rcases hu with hu | hu;exact hu.1;exact h j hu⟩,fun _ _ _=>rfl,fun _ h=>.inl h⟩
theorem InPages.ids {u:List Bool} {pg:Nat→List UInt8} {root H:Nat} {T:Tr H} (h:InPages u pg root T):∃ S,(nodes H T).map (·.id)=natsI S:=by
 obtain ⟨nums,h1,_⟩:=h.nums;exact ⟨_,h1⟩
theorem TreeL.insert {w:World} {p k tb root x m:Nat} {M:List Nat} {u:List Bool} {pg:Nat→List UInt8} {E:List Pr} {S:List Nat} {kv:Value} {l:List UInt8} (hP:PoolV w p M u pg k) (hT:TreeL w p tb root M u pg E S) (hb:Xae w kv l) (hl:l.length≤300) (hx:x<18446744073709551616)
  (hm:mostP (insP E (l,x))≤m) (hm2:m≤1000) (hfree:2*m+5≤u.count false) (hk:k+24*m+40≤900000) (hE:E.length≤99000) :
  Calls Tryz.prog 11 #[.pointer (some ⟨tb,0,none⟩),kv,.int .u64 x] w fun e w'=>∃ M' u' pg' S',e=.returned (.int .i64 (if has E (l,x) then 81 else 0))∧PoolV w' p M' u' pg' (k+(20*m+30))∧TreeL w' p tb root M' u' pg' (if has E (l,x) then E else insP E (l,x)) S'∧OpL u u' pg pg' S S'∧Step M M' w w':=by
 have hus:=hT.used;obtain ⟨H,T,h1,h2,h3,h4⟩:=hT.tree;have hN:(nodes H T).length≤m:=Zp h3 (Zp Xfu hm);have hH:=Xct h1.wf
 refine (Xlo (F0:=2*m+5) (hb0:=has E (l,x)) hP hT.at_ hT.off h1 (by omega) hb hl hx (by omega) (by omega) (by rw [h2];exact hE) (by rw [h2];exact h3) (by rw [h2]) (fun c i E' W' F' hp hg hs=>by
  have:=Xma h1 hl hx hp hs
  omega)).mono ?_
 rintro e w' (⟨hh,M',rfl,hP',hS'⟩ | ⟨hh,M',u',pg',H',T',rfl,hR⟩)
 ·rw [hh]
  exact ⟨M',u,pg,S,rfl,hP'.more (by omega),hT.step hS',OpL.none hus,hS'⟩
 ·rw [hh]
  obtain ⟨S',hS'⟩:=hR.tree.ids;have hfew:=hR.few;have hents:=hR.ents;rw [h2] at hfew hents;refine ⟨M',u',pg',S',rfl,hR.pool.more (by omega),⟨hR.step.1.blk hT.at_ hT.off,P.Step.keep hR.step hT.at_.lt hT.off,H',T',hR.tree,hents,hfew,hS'⟩,⟨hR.len,fun j=>?_,fun j hj hn=>?_,fun j hj=>?_⟩,hR.step⟩
  ·rw [hR.used j,Xff hS' j]
   refine or_congr (and_congr Iff.rfl ?_) Iff.rfl;rw [←Xff h4 j];exact ⟨fun h ⟨n,hn,e⟩=>h n hn e,fun h n hn e=>h ⟨n,hn,e⟩⟩
  ·exact hR.same j hj (fun n hn' e=>hn ((Xff h4 j).1 ⟨n,hn',e⟩))
  ·rcases hR.fresh j ((Xff hS' j).2 hj) with h | h
   ·exact .inl ((Xff h4 j).1 h)
   ·exact .inr h
end T
end Go.Proofs.YtiijokopcgnokaaGreat
