import Derived.Test.YtiijokopcgnokaaGreatWPageR
import Derived.Deep.RegionHeld3
set_option maxRecDepth 100000
set_option linter.unusedSimpArgs false
set_option linter.unusedVariables false
namespace Go.Proofs.YtiijokopcgnokaaGreat
namespace G
open Go Go.RowKit B C Tryz
theorem Xev : (prog.info? 5).map (·.size)=some 1:=by kernel_rfl
def Buf (w:World) (gb c:Nat) (p:List UInt8):Prop:=p.length=512∧w.ownsRow 0 5 1 (.slice (some ⟨gb,0,none⟩) 512 c) 512 (u8s p)
theorem Buf.row {w:World} {gb c:Nat} {p:List UInt8} (h:Buf w gb c p):Xau 5 w (.slice (some ⟨gb,0,none⟩) 512 c) p:=by
 have:=h.2;unfold Xau
 rw [h.1];exact this
theorem Buf.later {w w':World} {gb c:Nat} {p:List UInt8} {M:List Nat} (h:Buf w gb c p) (hO:Only M w w') (hg:gb∉M):Buf w' gb c p :=
 ⟨h.1,Xab h.2 hO (fun k hk hm=>by simp [Value.ownBlock] at hk;subst hk;exact hg hm)⟩
theorem Buf.past {w w':World} {gb c:Nat} {p:List UInt8} (h:Buf w gb c p) (hO:Only [] w w'):Buf w' gb c p:=h.later hO (by simp)
theorem Buf.cap {w:World} {gb c:Nat} {p:List UInt8} (h:Buf w gb c p):512≤c:=by
 rcases h.2.2 with ⟨h0,_⟩ | ⟨_,_,_,hv,_,_,h3,_⟩
 ·cases h0
 ·simp only [Value.slice.injEq] at hv
  rw [hv.2.2];exact h3
theorem Buf.at {w:World} {gb c:Nat} {p:List UInt8} (h:Buf w gb c p):Xae w (.slice (some ⟨gb,0,none⟩) 512 c) p:=h.row.at
theorem Buf.lt {w:World} {gb c:Nat} {p:List UInt8} (h:Buf w gb c p):gb<w.heap.size:=Xbk h.2 (by simp [Value.ownBlock])
theorem Buf.cell {w:World} {gb c:Nat} {p:List UInt8} (h:Buf w gb c p) {j:Nat} (hj:j<512):w.cell? ⟨gb,j,none⟩=some (.int .u8 (p.getD j 0).toNat):=by
 rw [h.2.cellAt j hj,Xej,Zc (by rw [h.1];exact hj),Zf,Zc (by rw [h.1];exact hj)];rfl
theorem splice_take {α:Type} (cur vs:List α) (o n:Nat) (h:o+vs.length≤n) (hn:n≤cur.length):(splice cur o vs).take n=splice (cur.take n) o vs:=by
 simp only [splice];rw [List.take_append,List.take_append,Wb,Wb,Ya (l:=vs) (by rw [Zj];omega),List.drop_take]
 simp only [Ze,Zj];rw [Nat.min_eq_right (by omega:o≤n),Yt (by omega:o≤n),Yt (by omega:o≤cur.length),Nat.sub_sub]
theorem u8s_over (p b:List UInt8) (at_:Nat):u8s (over p at_ b)=splice (u8s p) at_ (u8s b):=by
 unfold over splice;rw [Xew,Xew,u8s_take,u8s_drop,Xaf,Zu]
theorem grew_src {w w':World} {a:Option Addr} {n k:Nat} {l:List UInt8} (h:Grew w w' 5 1 (.slice none 0 0) (.slice a n k) n (u8s l)) (h0:0<n):∃ g,a=some ⟨g,0,none⟩∧∀ j v,(u8s l)[j]?=some v→w'.cell? ((⟨g,0,none⟩:Addr).add j)=some v:=by
 rcases h.own.2 with ⟨_,h1⟩ | ⟨g,cap,cur,hv,_,hh,h3,_,h5,h6⟩
 ·omega
 ·simp only [Value.slice.injEq] at hv
  refine ⟨g,hv.1,fun j v hj=>?_⟩
  have hb:Blk w' g cur.toList 5:=by unfold Blk;rw [Array.toArray_toList];exact hh
  refine hb.add_cell j v ?_
  rw [←h6,Yq] at hj;split at hj
  ·exact hj
  ·cases hj
theorem Buf.copied {w w':World} {gb c:Nat} {p b:List UInt8} {at_:Nat} (h:Buf w gb c p) {cur:List Value} (hb:Blk w gb cur 5) (hb':Blk w' gb (splice cur at_ (u8s b)) 5) (hl:at_+b.length≤512):Buf w' gb c (over p at_ b):=by
 obtain ⟨cur2,hb2,hl2,ht2,hle⟩:=Xdi h.2;obtain ⟨rfl,_⟩:=hb2.inj hb;refine ⟨by rw [Xeo (by rw [h.1];exact hl)];exact h.1,?_⟩
 have hp:=h.1;refine ⟨by rw [Xaf,Xeo (by rw [hp];exact hl),hp],.inr ⟨gb,c,(splice cur2 at_ (u8s b)).toArray,rfl,Yc _,hb',hle,?_,?_,?_⟩⟩
 ·rcases h.2.2 with ⟨h0,_⟩ | ⟨_,_,_,hv,_,_,_,h4,_⟩
  ·cases h0
  ·simp only [Value.slice.injEq] at hv
   rw [hv.2.2];exact h4
 ·simp [splice,Xaf];have:=h.cap;omega
 ·have hcap:=h.cap
  show (splice cur2 at_ (u8s b)).take (512*1)=_;rw [splice_take cur2 (u8s b) at_ (512*1) (by rw [Xaf];omega) (by omega),ht2,u8s_over]
theorem Xki {w:World} {gb c:Nat} {p:List UInt8} (h:Buf w gb c p) (at_ n:Nat) (ha:at_+2≤512) (hn:n<65536) :
  Calls prog 78 #[.slice (some ⟨gb,0,none⟩) 512 c,.int .i64 at_,.int .i64 n] w fun e w'=>e=.returned (.tuple #[])∧Buf w' gb c (put p at_ n)∧Only [gb] w w':=by
 have HH:=Th h;have hcap:=h.cap
 have L:Hid (∀ w1,Calls prog 54 #[.slice none 0 0,.int .u64 n,.int .i64 2] w1 fun e w'=>∃ a k,e=.returned (.slice a 2 k)∧Grew w1 w' 5 1 (.slice none 0 0) (.slice a 2 k) 2 (u8s (le n 2))):=fun w1=>by
  refine (Xgj (w:=w1) (v:=.slice none 0 0) (l:=[]) (m:=0) (m':=2) ⟨rfl,.inl ⟨rfl,rfl⟩⟩ rfl n (by omega) 2 (by omega) (by omega) rfl).mono ?_
  rintro e w' ⟨a,k,rfl,hg,_⟩;exact ⟨a,k,rfl,by simpa using hg⟩
 obtain ⟨cur,hb,hcl,hct,_⟩:=Xdi h.2;have HB:=Th hb
 have HCL:Hid (at_+(u8s (le n 2)).length≤cur.length):=by show _≤_;rw [Xaf,Xay];omega
 have HMN:Hid ((u8s (le n 2)).length=Nat.min 2 (512-at_)):=by
  show _=_;rw [Xaf,Xay];exact (Yt (by omega)).symm
 have ew:IntKind.u64.wrap (n:Int)=n:=by simp [IntKind.wrap,IntKind.signed,IntKind.bits];omega
 have a0:(0:Int)≤at_:=by omega
 have a1:(at_:Int)≤512:=by omega
 have a2:at_<c:=by omega
 have a3:(at_:Int)<c:=by omega
 have a4:(512:Int)≤c:=by omega
 have a5:¬c=at_:=by omega
 clear h hb hcl hct
 go_enter func78,ntmps78
 go_wp2_with fail
 go_region_held3 (fun _=>True) (trivial)
  (first
   | (go_at_call 54;refine (L.out _).mono ?_;rintro e w3 ⟨a3,k3,rfl,hg3⟩)
   | (refine Xns rfl (.tmp 8) (.tmp 11) 22 22 rfl 5 underlying22 Xev _ _ _ _ _ _ rfl rfl gb at_ cur 5 (by exact hg3.only.blk HB.out.drew (by simp [Value.ownBlock])) (u8s (le n 2)) HMN.out (by exact fun _=>⟨rfl,by obtain ⟨g3,rfl,hs3⟩:=grew_src hg3 (by omega);exact ⟨_,rfl,hs3⟩⟩) HCL.out (Xba _) ?_;intro w5 hb5 hO5))
 have O3:=Th (hg3.only);have O5:=Th hO5;have B5:=Th hb5;clear hg3 hO5 hb5
 go_end0
 refine ⟨rfl,HH.out.copied HB.out B5.out (by rw [Xay];omega),?_⟩;exact (((Only.refl [gb] w).drew).trans O3.out (by simp [Value.ownBlock])).trans O5.out (fun x hx=>.inl hx)
def setP (p:List UInt8) (i pl ln:Nat):List UInt8:=put (put p (10+4*i) pl) (12+4*i) ln
theorem set_any {w:World} {gb c:Nat} {p:List UInt8} (h:Buf w gb c p) (i pl ln:Nat) (hi:14+4*i≤512) (hp:pl<65536) (hn:ln<65536) :
  Calls prog 109 #[.slice (some ⟨gb,0,none⟩) 512 c,.int .i64 i,.agg #[.int .i64 pl,.int .i64 ln]] w fun e w'=>e=.returned (.tuple #[])∧Buf w' gb c (setP p i pl ln)∧Only [gb] w w':=by
 have HX:=Th (Blk.new [.int .i64 pl,.int .i64 ln] 160 w);have OX:Hid (Only [] w (w.alloc (.cells #[.int .i64 pl,.int .i64 ln] 160))):=(Only.refl _ _).alloc _;have HB:=Th (h.past OX.out);obtain ⟨q1,hq1⟩:∃ q,10+4*i=q:=⟨_,rfl⟩;obtain ⟨q2,hq2⟩:∃ q,12+4*i=q:=⟨_,rfl⟩
 have P1:Hid (∀ w1,Buf w1 gb c p→Calls prog 78 #[.slice (some ⟨gb,0,none⟩) 512 c,.int .i64 q1,.int .i64 pl] w1 fun e w'=>e=.returned (.tuple #[])∧Buf w' gb c (put p q1 pl)∧Only [gb] w1 w'):=fun w1 hb=>Xki hb q1 pl (by omega) hp
 have P2:Hid (∀ w1,Buf w1 gb c (put p q1 pl)→Calls prog 78 #[.slice (some ⟨gb,0,none⟩) 512 c,.int .i64 q2,.int .i64 ln] w1 fun e w'=>e=.returned (.tuple #[])∧Buf w' gb c (put (put p q1 pl) q2 ln)∧Only [gb] w1 w'):=fun w1 hb=>Xki hb q2 ln (by omega) hn
 have ES:Hid (setP p i pl ln=put (put p q1 pl) q2 ln):=by show _=_;rw [←hq1,←hq2];rfl
 have e1:(10:Int)+4*(i:Int)=q1:=by omega
 have e2:(q1:Int)+2=q2:=by omega
 have GNE:Hid (w.heap.size≠gb):=by show _≠_;have:=h.lt;omega
 have x0:=HX.out.cell 0;have x1:=HX.out.cell 1;simp only [Zd,Zb] at x0 x1;clear h hq1 hq2;rw [ES.out]
 go_enter func109,ntmps109
 go_wp2_with (first
  | (go_at_call_of 78 (Value.int .i64 (q1:Int));refine (P1.out _ HB.out).mono ?_;rintro e w1 ⟨rfl,hb1,hO1⟩;have B1:=Th hb1;have O1:=Th hO1;have y1:=(hO1.blk HX.out (by simpa using GNE.out)).cell 1;simp only [Zd,Zb] at y1;clear hb1 hO1)
  | (go_at_call 78;refine (P2.out _ B1.out).mono ?_;rintro e w2 ⟨rfl,hb2,hO2⟩;have B2:=Th hb2;have O2:=Th hO2;clear hb2 hO2))
 go_end0
 exact ⟨rfl,B2.out,((OX.out.mono (by simp)).trans O1.out (fun x hx=>.inl hx)).trans O2.out (fun x hx=>.inl hx)⟩
end G
namespace G
open Go Go.RowKit B C Tryz
theorem own_buf {w w':World} {v:Value} {p:List UInt8} (h:Own w w' v p) (hl:p.length=512):∃ gb c,v=.slice (some ⟨gb,0,none⟩) 512 c∧Buf w' gb c p∧w.heap.size≤gb∧Only [] w w':=by
 obtain ⟨h1,h2,h3⟩:=h;have h1':=h1;unfold Xau at h1';rw [hl] at h1'
 rcases h1'.2 with ⟨_,h0⟩ | ⟨g,cap,cur,hv,_⟩
 ·cases h0
 ·subst hv
  exact ⟨g,cap,rfl,⟨hl,h1'⟩,h2 g rfl,h3⟩
theorem Buf.tail {w:World} {gb c:Nat} {p:List UInt8} (h:Buf w gb c p) (k:Nat) (hk:k≤512):Xae w (.slice (some ⟨gb,k,none⟩) (512-k) (c-k)) (p.drop k):=by
 have hl:(p.drop k).length=512-k:=by rw [Zy,h.1]
 refine ⟨some ⟨gb,k,none⟩,c-k,by rw [hl],fun _=>⟨gb,k,rfl,fun j hj=>?_⟩⟩;rw [h.cell (by omega),Zf,Zf,Xh]
theorem Xij {w:World} {v:Value} {p:List UInt8} (h:Xae w v p) (hl:p.length=512) :
  Calls prog 79 #[v] w fun e w'=>∃ gb c,e=.returned (.slice (some ⟨gb,0,none⟩) 512 c)∧Buf w' gb c (Xaz p)∧w.heap.size≤gb∧Only [] w w':=by
 have CL:Hid (Calls prog 41 #[v] w fun e w'=>∃ gb c,e=.returned (.slice (some ⟨gb,0,none⟩) 512 c)∧Buf w' gb c p∧w.heap.size≤gb∧Only [] w w') :=
  (Xcj h (by omega)).mono fun e w' ⟨v',he,ho⟩=>by
   obtain ⟨gb,c,rfl,hb,hg,hO⟩:=own_buf ho hl;exact ⟨gb,c,he,hb,hg,hO⟩
 obtain ⟨ao,cap,rfl,hc⟩:=h;clear hc;have hsl:=sum_lt (p.drop 4)
 have SM:Hid (∀ w1 gb c,Buf w1 gb c p→Calls prog 106 #[.slice (some ⟨gb,4,none⟩) 508 (c-4)] w1 fun e w'=>e=.returned (.int .u32 (sum (p.drop 4):Nat))∧Only [] w1 w'):=fun w1 gb c hb=>fsum_any (hb.tail 4 (by omega)) (by rw [Zy];omega)
 have ES:Hid (over p 0 (le (sum (p.drop 4)) 4)=Xaz p):=by
  show _=_;unfold over Xaz;rw [Wc,Ym,Xay]
 generalize hss:sum (p.drop 4)=s at *;clear hss
 have L:Hid (∀ w1,Calls prog 54 #[.slice none 0 0,.int .u64 s,.int .i64 4] w1 fun e w'=>∃ a k,e=.returned (.slice a 4 k)∧Grew w1 w' 5 1 (.slice none 0 0) (.slice a 4 k) 4 (u8s (le s 4))):=fun w1=>by
  refine (Xgj (w:=w1) (v:=.slice none 0 0) (l:=[]) (m:=0) (m':=4) ⟨rfl,.inl ⟨rfl,rfl⟩⟩ rfl s (by omega) 4 (by omega) (by omega) rfl).mono ?_
  rintro e w' ⟨a,k,rfl,hg,_⟩;exact ⟨a,k,rfl,by simpa using hg⟩
 have ew:IntKind.u64.wrap (s:Int)=s:=by simp [IntKind.wrap,IntKind.signed,IntKind.bits];omega
 have HMN:Hid ((u8s (le s 4)).length=Nat.min 4 512):=by show _=_;rw [Xaf,Xay];rfl
 rw [hl] at CL ⊢
 go_enter func79,ntmps79
 go_wp2_with (first
  | (go_at_call 41;(go_loud (refine CL.out.mono ?_;rintro e w1 ⟨gb,c,rfl,hb1,hg1,hO1⟩;have B1:=Th hb1;have G1:=Th hg1;have O1:=Th hO1;have a4:=hb1.cap;have a5:¬c=4:=(by omega);have a6:4<c:=(by omega);have a7:4≤c:=(by omega);have a8:(4:Int)≤c:=(by omega);have a9:(512:Int)≤c:=(by omega);clear hb1 hg1 hO1)))
  | (go_at_call 106;refine (SM.out _ _ _ B1.out).mono ?_;rintro e w2 ⟨rfl,hO2⟩;have B2:=Th (B1.out.past hO2);have O2:=Th (O1.out.trans hO2 (by simp));clear hO2)
  | (go_at_call 54;refine (L.out _).mono ?_;rintro e w3 ⟨a3,k3,rfl,hg3⟩;have HG3:=Th hg3;have B3:=Th (B2.out.past (hg3.only.mono (by simp [Value.ownBlock])));have O3:=Th (O2.out.trans hg3.only (by simp [Value.ownBlock]));obtain ⟨cur,hcb,hcl,_,_⟩:=Xdi B3.out.2;have HCB:=Th hcb;have HCL:Hid (0+(u8s (le s 4)).length≤cur.length):=(by show _≤_;rw [Xaf,Xay];omega);clear hg3 hcb hcl)
  | (refine Xcx rfl (.tmp 6) (.tmp 11) 22 22 rfl 5 underlying22 Xev _ _ _ _ _ _ rfl rfl gb 0 cur 5 HCB.out (u8s (le s 4)) HMN.out (fun _=>⟨rfl,by obtain ⟨g3,rfl,hs3⟩:=grew_src HG3.out (by omega);exact ⟨_,rfl,hs3⟩⟩) HCL.out (Xba _) ?_;intro w5 hb5 hO5;have B5:=Th (B3.out.copied HCB.out hb5 (by rw [Xay];omega));have O5:=Th (O3.out.trans hO5 (fun x hx=>by simp at hx;subst hx;exact .inr G1.out));clear hb5 hO5))
 go_ret;exact ⟨gb,c,rfl,by rw [←ES.out];exact B5.out,G1.out,O5.out⟩
theorem make_u8s (n:Nat) (h:n≤1048576):∀ w:World,(Instr.makeSlice 22 (.int .i64 (n:Int)) (.int .i64 (n:Int))).run prog w =
  .ok (.slice (some ⟨w.heap.size,0,none⟩) n n) (w.alloc (.cells (u8s (List.replicate n 0)).toArray 5)):=by
 intro w;obtain ⟨i,hi,hz0,hz1,hz2⟩:=info_parts B.info_byte;have hr:=run_make (P:=prog) w 22 5 i (.int .u8 0) underlying22 hi hz0 .i64 .i64 n n (by omega) (by omega) (by rw [hz2];omega) (by omega)
 rw [hr];simp only [Value.cells,hz1,Wi,Xcv,Int.toNat_natCast,Xfj]
theorem new_any {w:World} (kind:UInt8) :
  Calls prog 51 #[.int .u8 kind.toNat] w fun e w'=>∃ gb c,e=.returned (.slice (some ⟨gb,0,none⟩) 512 c)∧Buf w' gb c (newP kind)∧w.heap.size≤gb∧Only [] w w':=by
 have mk0:=make_u8s 512 (by omega);obtain ⟨z,hz⟩:∃ z:List UInt8,List.replicate 512 0=z:=⟨_,rfl⟩
 have hzl:z.length=512:=by rw [←hz];simp
 have hz4:z[4]?=some 0:=by rw [←hz,Wp];rfl
 have EN:Hid (newP kind=Xaz (put (z.set 4 kind) 8 512)):=by show _=_;rw [←hz];rfl
 rw [hz] at mk0;clear hz;have mk:∀ w:World,(Instr.makeSlice 22 (.int .i64 512) (.int .i64 512)).run prog w=.ok (.slice (some ⟨w.heap.size,0,none⟩) 512 512) (w.alloc (.cells (u8s z).toArray 5)):=mk0;clear mk0;have hb0:Blk (w.alloc (.cells (u8s z).toArray 5)) w.heap.size (u8s z) 5:=Blk.new _ _ _;have c4:=hb0.cell 4;have f4:=hb0.frozen 4;rw [Xej,hz4] at c4;have c4:(w.alloc (.cells (u8s z).toArray 5)).cell? ⟨w.heap.size,4,none⟩=some (.int .u8 0):=c4
 have es:(u8s z).set 4 (.int .u8 kind.toNat)=u8s (z.set 4 kind):=by simp [u8s,List.map_set]
 have B1:Hid (Buf (w.alloc (.cells ((u8s z).set 4 (.int .u8 kind.toNat)).toArray 5)) w.heap.size 512 (z.set 4 kind)):=by
  refine ⟨by simpa using hzl,?_⟩
  have hl:(u8s (z.set 4 kind)).length=512:=by rw [Xaf];simpa using hzl
  have:=((Blk.new ((u8s z).set 4 (.int .u8 kind.toNat)) 5 w).to es).owns (by rw [hl];simp [maxLen]);rw [hl] at this;exact this
 have P2:Hid (∀ w1,Buf w1 w.heap.size 512 (z.set 4 kind)→Calls prog 78 #[.slice (some ⟨w.heap.size,0,none⟩) 512 512,.int .i64 8,.int .i64 512] w1 fun e w'=>e=.returned (.tuple #[])∧Buf w' w.heap.size 512 (put (z.set 4 kind) 8 512)∧Only [w.heap.size] w1 w'):=fun w1 hb=>Xki hb 8 512 (by omega) (by omega)
 have O1:Hid (Only [] w (w.alloc (.cells ((u8s z).set 4 (.int .u8 kind.toNat)).toArray 5))):=(Only.refl [] w).alloc _;rw [EN.out];clear hz4 es hb0
 go_enter func51,ntmps51
 go_wp2_with (first
  | (go_at_call 78;refine (P2.out _ B1.out).mono ?_;rintro e w2 ⟨rfl,hb2,hO2⟩;have B2:=Th hb2;have O2:=Th (O1.out.trans hO2 (fun x hx=>by simp at hx;subst hx;exact .inr (Zq _)));clear hb2 hO2)
  | (go_at_call 79;refine (Xij B2.out.at B2.out.1).mono ?_;rintro e w3 ⟨gb,c,rfl,hb3,hg3,hO3⟩;have B3:=Th hb3;have O3:=Th (O2.out.trans hO3 (by simp));have G3:=Th (Zp O2.out.size hg3);clear hb3 hO3 hg3))
 go_ret;exact ⟨gb,c,rfl,B3.out,G3.out,O3.out⟩
end G
namespace G
open Go Go.RowKit B C Tryz
theorem Xam {w w':World} {v:Value} {l:List UInt8} (h:Xae w v l) (hO:Only [] w w'):Xae w' v l:=by
 obtain ⟨ao,cap,rfl,hc⟩:=h;refine ⟨ao,cap,rfl,fun h0=>?_⟩;obtain ⟨b,o,rfl,hb⟩:=hc h0;exact ⟨b,o,rfl,fun j hj=>hO.cell (hb j hj) (by simp)⟩
def Xbs (w:World) (v:Value) (l:List UInt8):Prop:=Xae w v l∧∀ ao n cap,v=.slice ao n cap→n≤cap
theorem Xbs.past {w w':World} {v:Value} {l:List UInt8} (h:Xbs w v l) (hO:Only [] w w'):Xbs w' v l:=⟨Xam h.1 hO,h.2⟩
theorem Buf.c {w:World} {gb c:Nat} {p:List UInt8} (h:Buf w gb c p):Xbs w (.slice (some ⟨gb,0,none⟩) 512 c) p:=⟨h.at,fun ao n cap he=>by
 simp only [Value.slice.injEq] at he
 rw [←he.2.1,←he.2.2];exact h.cap⟩
noncomputable def errE (p:List UInt8):Nat:=if ok p=true then 0 else 40
theorem Xfo {p:List UInt8} (h:¬Pg p):errE p=40:=by unfold errE;rw [if_neg (by rw [Xfv];exact h)]
theorem Xll {p:List UInt8} (h:Pg p):errE p=0:=by unfold errE;rw [if_pos (Xfv.2 h)]
theorem cells_lt {p:List UInt8}:∀ x∈cells p,x.1<65536∧x.2<65536:=fun x hx=>by
 obtain ⟨i,_,rfl⟩:=Xiv hx;exact ⟨Xkv _ _,Xkv _ _⟩
structure PAt (w:World) (b o cap:Nat) (p:List UInt8):Prop where
 len:p.length=512
 cap:512≤cap
 cell:∀ j,j<512→w.cell? ⟨b,o+j,none⟩=some (.int .u8 (g p j))
theorem PAt.past {w w':World} {b o cap:Nat} {p:List UInt8} (h:PAt w b o cap p) (hO:Only [] w w'):PAt w' b o cap p:=⟨h.len,h.cap,fun j hj=>hO.cell (h.cell j hj) (by simp)⟩
theorem PAt.at {w:World} {b o cap:Nat} {p:List UInt8} (h:PAt w b o cap p):Xae w (.slice (some ⟨b,o,none⟩) 512 cap) p :=
 ⟨some ⟨b,o,none⟩,cap,by rw [h.len],fun _=>⟨b,o,rfl,fun j hj=>h.cell j (by rw [←h.len];exact hj)⟩⟩
theorem Xbs.page {w:World} {v:Value} {p:List UInt8} (h:Xbs w v p) (hl:p.length=512):∃ b o cap,v=.slice (some ⟨b,o,none⟩) 512 cap∧PAt w b o cap p:=by
 obtain ⟨⟨ao,cap,rfl,hc⟩,hcap⟩:=h;obtain ⟨b,o,rfl,hb⟩:=hc (by omega);have:=hcap _ _ _ rfl;rw [hl] at hb this;exact ⟨b,o,cap,by rw [hl],hl,this,hb⟩
theorem Buf.blk {w:World} {gb c:Nat} {p:List UInt8} (h:Buf w gb c p):∃ cur,Blk w gb cur 5∧cur.length=c∧cur.take 512=u8s p:=by
 obtain ⟨cur,h1,h2,h3,_⟩:=Xdi h.2;rw [Wi] at h2 h3;exact ⟨cur,h1,h2,h3⟩
end G
namespace G
open Go Go.RowKit B C Tryz
theorem cells_src {w:World} {b o:Nat} {l:List UInt8} (h:∀ j,j<l.length→w.cell? ⟨b,o+j,none⟩=some (.int .u8 (l.getD j 0).toNat)):∀ j v,(u8s l)[j]?=some v→w.cell? ((⟨b,o,none⟩:Addr).add j)=some v:=fun j v hj=>by
 have hl:j<l.length:=by
  rcases Yv j l.length with h1 | h1
  ·exact h1
  ·rw [Xb (by rw [Xaf];exact h1)] at hj;cases hj
 rw [Xah,h j hl,←hj,Xej,Zc hl,Zf,Zc hl];rfl
theorem lay_any {w:World} {gb c:Nat} {p b:List UInt8} {vb:Value} (h:Buf w gb c p) (hv:Xae w vb b) (i:Nat) (h1:1≤b.length) (hf:14+4*i+b.length≤bg p) (he:bg p≤512) :
  Calls prog 86 #[.slice (some ⟨gb,0,none⟩) 512 c,.int .i64 i,vb] w fun e w'=>e=.returned (.tuple #[])∧Buf w' gb c (layP p i b)∧Only [gb] w w':=by
 obtain ⟨ao,cap,rfl,hc⟩:=hv;obtain ⟨bb,o,rfl,hcells⟩:=hc (by omega);have HC:=Th hcells;have HB:=Th h;have hcap:=h.cap;obtain ⟨q,hq⟩:∃ q,bg p-b.length=q:=⟨_,rfl⟩;have WH:Hid (Calls prog 81 #[.slice (some ⟨gb,0,none⟩) 512 c] w fun e w'=>e=.returned (arr p)∧Only [] w w'):=Xgd h.at h.1
 have T8:Hid (∀ w1,Calls prog 97 #[arr p,.int .i64 8] w1 fun e w'=>e=.returned (.int .i64 (bg p:Nat))∧Only [] w1 w'):=fun w1=>Xfi h.1 8 (by omega)
 have PU:Hid (∀ w1,Buf w1 gb c (over p q b)→Calls prog 78 #[.slice (some ⟨gb,0,none⟩) 512 c,.int .i64 8,.int .i64 q] w1 fun e w'=>e=.returned (.tuple #[])∧Buf w' gb c (put (over p q b) 8 q)∧Only [gb] w1 w'):=fun w1 hb=>Xki hb 8 q (by omega) (by omega)
 have SE:Hid (∀ w1,Buf w1 gb c (put (over p q b) 8 q)→Calls prog 109 #[.slice (some ⟨gb,0,none⟩) 512 c,.int .i64 i,.agg #[.int .i64 q,.int .i64 b.length]] w1 fun e w'=>e=.returned (.tuple #[])∧Buf w' gb c (layP p i b)∧Only [gb] w1 w'):=fun w1 hb=>by
  have:=set_any hb i q b.length (by omega) (by omega) (by omega);unfold layP;rw [hq];exact this
 have HMN:Hid ((u8s b).length=Nat.min b.length (512-q)):=by
  show _=_;rw [Xaf];exact (Yt (by omega)).symm
 have HQ:Hid (q+(u8s b).length≤512):=by show _≤_;rw [Xaf];omega
 generalize layP p i b=r at *
 have e1:(bg p:Int)-b.length=q:=by omega
 have hbg:bg p≤512:=he;generalize bg p=bv at *;generalize hn:b.length=n at *
 have a0:(0:Int)≤q:=by omega
 have a1:(q:Int)≤512:=by omega
 have a2:q<c:=by omega
 have a3:(q:Int)<c:=by omega
 have a4:(512:Int)≤c:=by omega
 have a5:¬c=q:=by omega
 have HN:=Th hn;clear h hcells hc hn hq
 go_enter func86,ntmps86
 go_wp2_with (first
  | (go_at_call 81;refine WH.out.mono ?_;rintro e w1 ⟨rfl,hO1⟩;have O1:=Th hO1;clear hO1)
  | (go_at_call 97;refine (T8.out _).mono ?_;rintro e w2 ⟨rfl,hO2⟩;have O2:=Th (O1.out.trans hO2 (by simp));have B2:=Th (HB.out.past O2.out);obtain ⟨cur,hcb,hcl,_⟩:=B2.out.blk;have HCB:=Th hcb;have HCL:Hid (q+(u8s b).length≤cur.length):=(by show _≤_;have:=HQ.out;omega);clear hO2 hcb hcl)
  | (refine Xcx rfl (.tmp 15) (.tmp 16) 22 22 rfl 5 underlying22 Xev _ _ _ _ _ _ rfl rfl gb q cur 5 HCB.out (u8s b) HMN.out (fun _=>⟨rfl,_,rfl,cells_src (fun j hj=>O2.out.cell (HC.out j (by rw [←HN.out];exact hj)) (by simp))⟩) HCL.out (Xba _) ?_;intro w3 hb3 hO3;have B3:=Th (B2.out.copied HCB.out hb3 (by have:=HQ.out;rw [Xaf] at this;exact this));have O3:=Th ((O2.out.mono (by simp)).trans hO3 (fun x hx=>.inl hx));clear hb3 hO3)
  | (go_at_call 78;refine (PU.out _ B3.out).mono ?_;rintro e w4 ⟨rfl,hb4,hO4⟩;have B4:=Th hb4;have O4:=Th (O3.out.trans hO4 (fun x hx=>.inl hx));clear hb4 hO4)
  | (go_at_call 109;refine (SE.out _ B4.out).mono ?_;rintro e w5 ⟨rfl,hb5,hO5⟩;have B5:=Th hb5;have O5:=Th (O4.out.trans hO5 (fun x hx=>.inl hx));clear hb5 hO5))
 go_end0
 exact ⟨rfl,B5.out,O5.out⟩
end G
end Go.Proofs.YtiijokopcgnokaaGreat
