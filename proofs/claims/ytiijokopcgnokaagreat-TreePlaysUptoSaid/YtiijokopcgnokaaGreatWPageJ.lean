import Derived.Test.YtiijokopcgnokaaGreatWPageG
import Derived.Laws.ResultCell
import Derived.Deep.DeepCutAuto
set_option maxRecDepth 100000
set_option maxHeartbeats 4000000
set_option linter.unusedSimpArgs false
set_option linter.unusedVariables false
namespace Go.Proofs.YtiijokopcgnokaaGreat
namespace G
open Go Go.RowKit B C Tryz
theorem Xdp {w:World} {v:Value} {p:List UInt8} (h:Xbs w v p) {z:Nat} (hz:errE p=z):Calls prog 80 #[v] w fun e w'=>e=.returned (.int .i64 z)∧Only [] w w':=by
 rw [←hz];exact Xjn h
noncomputable def kindE (p:List UInt8):Nat:=if ok p=true then g p 4 else 0
noncomputable def slotsE (p:List UInt8):Nat:=if ok p=true then nS p else 0
section
variable {p : List UInt8}
theorem kind_ok (h:Pg p):kindE p=g p 4:=if_pos (Xfv.2 h)
theorem kind_no (h:¬Pg p):kindE p=0:=if_neg (by rw [Xfv];exact h)
theorem slots_ok (h:Pg p):slotsE p=nS p:=if_pos (Xfv.2 h)
theorem slots_no (h:¬Pg p):slotsE p=0:=if_neg (by rw [Xfv];exact h)
end
theorem kind_any {w:World} {v:Value} {p:List UInt8} (h:Xbs w v p):Calls prog 68 #[v] w fun e w'=>e=.returned (.int .u8 (kindE p:Nat))∧Only [] w w':=by
 by_cases hp:Pg p
 ·have CK:=Th (Xdp h (Xll hp))
  obtain ⟨b,o,cap,rfl,hpa⟩:=h.page hp.body.len;have HP:=Th hpa;have KE:=Th (kind_ok hp);rw [KE.out];clear h hp
  go_enter func68,ntmps68
  go_wp2_with (go_at_call 80;refine CK.out.mono ?_;rintro e w1 ⟨rfl,hO1⟩;have O1:=Th hO1;have c4:=(hpa.past hO1).cell 4 (by omega);clear hO1)
  go_ret;exact ⟨rfl,O1.out⟩
 ·have CK:=Th (Xdp h (Xfo hp))
  rw [kind_no hp];clear hp
  go_enter func68,ntmps68
  go_wp2_with (go_at_call 80;refine CK.out.mono ?_;rintro e w1 ⟨rfl,hO1⟩;have O1:=Th hO1;clear hO1)
  go_ret;exact ⟨rfl,O1.out⟩
theorem slotsf_any {w:World} {v:Value} {p:List UInt8} (h:Xbs w v p):Calls prog 69 #[v] w fun e w'=>e=.returned (.int .i64 (slotsE p:Nat))∧Only [] w w':=by
 have HB:=Th h
 by_cases hp:Pg p
 ·have CK:=Th (Xdp h (Xll hp))
  have hl:=hp.body.len
  have T6:Hid (∀ w1,Calls prog 97 #[arr p,.int .i64 6] w1 fun e w'=>e=.returned (.int .i64 (nS p:Nat))∧Only [] w1 w'):=fun w1=>Xfi hl 6 (by omega)
  rw [slots_ok hp];clear h hp
  go_enter func69,ntmps69
  go_wp2_with (first
   | (go_at_call 80;refine CK.out.mono ?_;rintro e w1 ⟨rfl,hO1⟩;have O1:=Th hO1;clear hO1)
   | (go_at_call 81;refine (Xgd (HB.out.past O1.out).1 hl).mono ?_;rintro e w2 ⟨rfl,hO2⟩;have O2:=Th (O1.out.trans hO2 (by simp));clear hO2)
   | (go_at_call 97;refine (T6.out _).mono ?_;rintro e w3 ⟨rfl,hO3⟩;have O3:=Th (O2.out.trans hO3 (by simp));clear hO3))
  go_ret;exact ⟨rfl,O3.out⟩
 ·have CK:=Th (Xdp h (Xfo hp))
  rw [slots_no hp];clear hp
  go_enter func69,ntmps69
  go_wp2_with (go_at_call 80;refine CK.out.mono ?_;rintro e w1 ⟨rfl,hO1⟩;have O1:=Th hO1;clear hO1)
  go_ret;exact ⟨rfl,O1.out⟩
theorem Xat {P:Program} {fn:Func} {p u:Tmp} {ty:TypeId} (h:fn.results = #[.cell p ty,.tmp u]) (tmps:Array Value) (w:World) (g:Nat) (cs:List Value) {t:TypeId} (d:TypeDesc)
  (hp:tmps.getD p undef=.pointer (some ⟨g,0,none⟩)) (hg:Blk w g cs t)
  (hu:P.underlying ty=some d) (hd:(match d with | .struct _ | .array _ _=>true | _=>false)=true) (hi:(P.info? ty).map (·.size)=some cs.length) :
  (results fn tmps).run P w=.ok (.tuple #[.agg cs.toArray,tmps.getD u undef]) w:=by
 rw [results_cell_tmp h,hp]
 simp [asAddr,run_loadVar_row w g t ty cs.toArray (0,0) d hg hu hd (by simpa using hi),Result.andThen]
theorem getE_no {p:List UInt8} (i:Int) (h:¬Pg p):getE p i=40:=by unfold getE;rw [if_pos (ok_no.2 h)]
theorem getE_bad {p:List UInt8} {i:Int} (h:Pg p) (h2:i<0∨(nS p:Int)≤i∨sP p i.toNat=0):getE p i=41:=by
 unfold getE;rw [if_neg (by rw [Xfv.2 h];simp),if_pos h2]
def atE (p:List UInt8) (i:Int) (e:Nat):Value:=if e=0 then .agg #[.int .i64 (sP p i.toNat:Nat),.int .i64 (sL p i.toNat:Nat)] else .agg #[.int .i64 0,.int .i64 0]
theorem at_any {w:World} {v:Value} {p:List UInt8} (h:Xbs w v p) (i:Int) (hi:-9223372036854775808≤i∧i≤9223372036854775807) :
  Calls prog 98 #[v,.int .i64 i] w fun e w'=>e=.returned (.tuple #[atE p i (getE p i),.int .i64 (getE p i:Nat)])∧Only [] w w':=by
 have OX:Hid (Only [] w (w.alloc (.cells #[.int .i64 0,.int .i64 0] 160))):=(Only.refl _ _).alloc _;have BX:=Th (Blk.new [.int .i64 0,.int .i64 0] 160 w);have HB:=Th (h.past OX.out);have UC:=underlying160
 have IC:Hid ((prog.info? 160).map (·.size)=some 2):=by show _=_;kernel_rfl
 have HZC:Hid (∀ v∈([.int .i64 0,.int .i64 0]:List Value),v.oneCell'=true):=by intro v hv;simp at hv;subst hv;rfl
 by_cases hp:Pg p
 case neg =>
  have CK:=Th (Xdp HB.out (Xfo hp));rw [getE_no i hp];clear h hp
  go_enter func98,ntmps98
  go_wp2_with (first
   | (go_at_call 80;refine CK.out.mono ?_;rintro e w1 ⟨rfl,hO1⟩;have O1:=Th (OX.out.trans hO1 (by simp));have B1:=Th (hO1.blk BX.out (by simp));clear hO1)
   | (refine Xak rfl 160 (.tmp 4) (.tmp 10) rfl w.heap.size [.int .i64 0,.int .i64 0] rfl rfl B1.out rfl IC.out HZC.out ?_;intro w2 hb2 hO2;have B2:=Th hb2;have O2:=Th (O1.out.trans hO2 (fun x hx=>by simp at hx;subst hx;exact .inr (Zq _)));clear hb2 hO2))
  (try simp only [Exit.inBlock,Exit.then])
  refine bodyPost_ret (Xat rfl _ _ w.heap.size [.int .i64 0,.int .i64 0] _ rfl B2.out UC rfl IC.out) rfl ?_
  exact ⟨rfl,O2.out⟩
 case pos =>
  have CK:=Th (Xdp HB.out (Xll hp));have hl:=hp.body.len;have hmost:=hp.body.most
  have WH:Hid (∀ w1,Xbs w1 v p→Calls prog 81 #[v] w1 fun e w'=>e=.returned (.agg (u8s p).toArray)∧Only [] w1 w'):=fun w1 h1=>Xgd h1.1 hl
  have SL:Hid (∀ w1,Calls prog 82 #[.agg (u8s p).toArray] w1 fun e w'=>∃ v,e=.returned v∧w'.ownsRow 0 160 2 v (nS p) (rowC (cells p))∧(∀ k,v.ownBlock=some k→w1.heap.size≤k)∧Only [] w1 w'):=fun w1=>Xkp hl (by omega)
  have GB:Hid ((i<0∨(nS p:Int)≤i∨sP p i.toNat=0)→getE p i=41):=getE_bad hp
  have CL:Hid (∀ k,k<nS p→(cells p)[k]?=some (sP p k,sL p k)):=fun k hk=>by rw [Zc (by rw [Xbx];exact hk),Xdz]
  have GO:Hid (∀ k:Nat,k<nS p→sP p k≠0→getE p (k:Int)=0):=fun k h1 h2=>getE_of hp h1 h2
  clear h hp;generalize nS p=n at *
  by_cases h1:i<0
  case pos =>
   rw [GB.out (.inl h1)];clear GB GO CL
   go_enter func98,ntmps98
   go_wp2_with (first
    | (go_at_call 80;refine CK.out.mono ?_;rintro e w1 ⟨rfl,hO1⟩;have O1:=Th (OX.out.trans hO1 (by simp));have B1:=Th (hO1.blk BX.out (by simp));have HB1:=Th (HB.out.past hO1);clear hO1)
    | (go_at_call 81;refine (WH.out _ HB1.out).mono ?_;rintro e w2 ⟨rfl,hO2⟩;have O2:=Th (O1.out.trans hO2 (by simp));have B2:=Th (hO2.blk B1.out (by simp));clear hO2)
    | (go_at_call 82;refine (SL.out _).mono ?_;rintro e w3 ⟨v3,rfl,hr3,hg3,hO3⟩;have O3:=Th (O2.out.trans hO3 (by simp));have B3:=Th (hO3.blk B2.out (by simp));obtain ⟨a3,c3,rfl⟩:=Xac hr3;clear hO3 hg3)
    | (refine Xak rfl 160 (.tmp 4) (.tmp 30) rfl w.heap.size [.int .i64 0,.int .i64 0] rfl rfl B3.out rfl IC.out HZC.out ?_;intro w4 hb4 hO4;have B4:=Th hb4;have O4:=Th (O3.out.trans hO4 (fun x hx=>by simp at hx;subst hx;exact .inr (Zq _)));clear hb4 hO4))
   (try simp only [Exit.inBlock,Exit.then])
   refine bodyPost_ret (Xat rfl _ _ w.heap.size [.int .i64 0,.int .i64 0] _ rfl B4.out UC rfl IC.out) rfl ?_
   exact ⟨rfl,O4.out⟩
  case neg =>
   by_cases h2:(n:Int)≤i
   case pos =>
    rw [GB.out (.inr (.inl h2))];clear GB GO CL
    go_enter func98,ntmps98
    go_wp2_with (first
     | (go_at_call 80;refine CK.out.mono ?_;rintro e w1 ⟨rfl,hO1⟩;have O1:=Th (OX.out.trans hO1 (by simp));have B1:=Th (hO1.blk BX.out (by simp));have HB1:=Th (HB.out.past hO1);clear hO1)
     | (go_at_call 81;refine (WH.out _ HB1.out).mono ?_;rintro e w2 ⟨rfl,hO2⟩;have O2:=Th (O1.out.trans hO2 (by simp));have B2:=Th (hO2.blk B1.out (by simp));clear hO2)
     | (go_at_call 82;refine (SL.out _).mono ?_;rintro e w3 ⟨v3,rfl,hr3,hg3,hO3⟩;have O3:=Th (O2.out.trans hO3 (by simp));have B3:=Th (hO3.blk B2.out (by simp));obtain ⟨a3,c3,rfl⟩:=Xac hr3;clear hO3 hg3)
     | (refine Xak rfl 160 (.tmp 4) (.tmp 30) rfl w.heap.size [.int .i64 0,.int .i64 0] rfl rfl B3.out rfl IC.out HZC.out ?_;intro w4 hb4 hO4;have B4:=Th hb4;have O4:=Th (O3.out.trans hO4 (fun x hx=>by simp at hx;subst hx;exact .inr (Zq _)));clear hb4 hO4))
    (try simp only [Exit.inBlock,Exit.then])
    refine bodyPost_ret (Xat rfl _ _ w.heap.size [.int .i64 0,.int .i64 0] _ rfl B4.out UC rfl IC.out) rfl ?_
    exact ⟨rfl,O4.out⟩
   case neg =>
    obtain ⟨k,rfl⟩:∃ k:Nat,i=k:=⟨i.toNat,by omega⟩
    have hk:k<n:=by omega
    have hk0:(0:Int)≤k:=by omega
    have hk1:(k:Int)<n:=by omega
    have CK2:=Th (CL.out k hk)
    have GB2:Hid (sP p k=0→getE p (k:Int)=41):=fun h=>GB.out (.inr (.inr (by simpa using h)))
    have GO2:=Th (GO.out k hk);have HK:=Th hk
    have AE:Hid (atE p (k:Int) 0=.agg #[.int .i64 (sP p k:Nat),.int .i64 (sL p k:Nat)]):=by show _=_;unfold atE;rw [if_pos rfl,Int.toNat_natCast]
    clear GB GO CL hk hi
    by_cases h3:sP p k=0
    case pos =>
     rw [GB2.out h3];rw [h3] at CK2;clear GB2 GO2 h3 AE
     go_enter func98,ntmps98
     go_wp2_with (first
      | (go_at_call 80;refine CK.out.mono ?_;rintro e w1 ⟨rfl,hO1⟩;have O1:=Th (OX.out.trans hO1 (by simp));have B1:=Th (hO1.blk BX.out (by simp));have HB1:=Th (HB.out.past hO1);clear hO1)
      | (go_at_call 81;refine (WH.out _ HB1.out).mono ?_;rintro e w2 ⟨rfl,hO2⟩;have O2:=Th (O1.out.trans hO2 (by simp));have B2:=Th (hO2.blk B1.out (by simp));clear hO2)
      | (go_at_call 82;refine (SL.out _).mono ?_;rintro e w3 ⟨v3,rfl,hr3,hg3,hO3⟩;have O3:=Th (O2.out.trans hO3 (by simp));have B3:=Th (hO3.blk B2.out (by simp));obtain ⟨g3,c3,rfl,_⟩:=Xcw hr3 (by have:=HK.out;omega);have y3:=Xeh hr3 HK.out CK2.out 0 _ rfl;rw [Wm] at y3;clear hr3 hO3 hg3)
      | (refine Xak rfl 160 (.tmp 4) (.tmp 30) rfl w.heap.size [.int .i64 0,.int .i64 0] rfl rfl B3.out rfl IC.out HZC.out ?_;intro w4 hb4 hO4;have B4:=Th hb4;have O4:=Th (O3.out.trans hO4 (fun x hx=>by simp at hx;subst hx;exact .inr (Zq _)));clear hb4 hO4))
     (try simp only [Exit.inBlock,Exit.then])
     refine bodyPost_ret (Xat rfl _ _ w.heap.size [.int .i64 0,.int .i64 0] _ rfl B4.out UC rfl IC.out) rfl ?_
     exact ⟨rfl,O4.out⟩
    case neg =>
     rw [GO2.out h3,AE.out];have h3B:((sP p k:Int) == 0)=false:=beq_eq_false_iff_ne.2 (by omega)
     have h3I:¬(sP p k:Int)=0:=by omega
     clear GB2 GO2 AE;generalize sP p k=a at *;generalize sL p k=b at *
     go_enter func98,ntmps98
     go_wp2_with (first
      | (go_at_call 80;refine CK.out.mono ?_;rintro e w1 ⟨rfl,hO1⟩;have O1:=Th (OX.out.trans hO1 (by simp));have B1:=Th (hO1.blk BX.out (by simp));have HB1:=Th (HB.out.past hO1);clear hO1)
      | (go_at_call 81;refine (WH.out _ HB1.out).mono ?_;rintro e w2 ⟨rfl,hO2⟩;have O2:=Th (O1.out.trans hO2 (by simp));have B2:=Th (hO2.blk B1.out (by simp));clear hO2)
      | (go_at_call 82;refine (SL.out _).mono ?_;rintro e w3 ⟨v3,rfl,hr3,hg3,hO3⟩;have O3:=Th (O2.out.trans hO3 (by simp));have B3:=Th (hO3.blk B2.out (by simp));obtain ⟨g3,c3,rfl,_⟩:=Xcw hr3 (by have:=HK.out;omega);have y3:=Xeh hr3 HK.out CK2.out 0 _ rfl;rw [Wm] at y3;have RNG:=Th (Xeh hr3 HK.out CK2.out);clear hr3 hO3 hg3)
      | (refine wpList_load_mid rfl 160 (.tmp 33) rfl g3 (k*2) rfl [.int .i64 a,.int .i64 b] _ RNG.out UC rfl IC.out ?_)
      | (refine Xak rfl 160 (.tmp 4) (.tmp 34) rfl w.heap.size [.int .i64 a,.int .i64 b] rfl rfl B3.out rfl IC.out (by intro v hv;simp at hv;rcases hv with rfl | rfl <;> rfl) ?_;intro w4 hb4 hO4;have B4:=Th hb4;have O4:=Th (O3.out.trans hO4 (fun x hx=>by simp at hx;subst hx;exact .inr (Zq _)));clear hb4 hO4))
     (try simp only [Exit.inBlock,Exit.then])
     refine bodyPost_ret (Xat rfl _ _ w.heap.size [.int .i64 a,.int .i64 b] _ rfl B4.out UC rfl IC.out) rfl ?_
     exact ⟨rfl,O4.out⟩
theorem at_yes {w:World} {v:Value} {p:List UInt8} (h:Xbs w v p) (hp:Pg p) {k:Nat} (hk:k<nS p) (h0:sP p k≠0) :
  Calls prog 98 #[v,.int .i64 k] w fun e w'=>e=.returned (.tuple #[.agg #[.int .i64 (sP p k:Nat),.int .i64 (sL p k:Nat)],.int .i64 0])∧Only [] w w':=by
 have hm:=hp.body.most;have:=at_any h k (by omega);rw [getE_of hp hk h0] at this;unfold atE at this;rw [if_pos rfl,Int.toNat_natCast] at this;exact this
theorem PAt.part {w:World} {b o cap:Nat} {p:List UInt8} (h:PAt w b o cap p) {a n:Nat} (ha:a+n≤512) (m:Nat):Xae w (.slice (some ⟨b,o+a,none⟩) n m) (cutP p a n):=by
 have hl:(cutP p a n).length=n:=cut_len (by rw [h.len];exact ha);refine ⟨some ⟨b,o+a,none⟩,m,by rw [hl],fun _=>⟨b,o+a,rfl,fun j hj=>?_⟩⟩;rw [hl] at hj;have e:((cutP p a n).getD j 0).toNat=g (cutP p a n) j:=rfl;rw [e,g_cut,if_pos hj,Va];exact h.cell (a+j) (by omega)
theorem get_yes {w:World} {v:Value} {p:List UInt8} (h:Xbs w v p) (hp:Pg p) {k:Nat} (hk:k<nS p) (h0:sP p k≠0) :
  Calls prog 70 #[v,.int .i64 k] w fun e w'=>∃ v',e=.returned (.tuple #[v',.int .i64 0])∧Own w w' v' (cutP p (sP p k) (sL p k)):=by
 obtain ⟨b,o,cap,rfl,hpa⟩:=h.page hp.body.len;have hcap:=hpa.cap;have HP:=Th hpa;have AT:=Th (at_yes h hp hk h0);obtain ⟨h1,h2⟩:=hp.body.core.in_ hk h0;have h3:=(hp.body.core.goodAt hk).2.1 h0
 have CN:Hid (∀ w1 m,PAt w1 b o cap p→Calls prog 41 #[.slice (some ⟨b,o+sP p k,none⟩) (sL p k) m] w1 fun e w'=>∃ v',e=.returned v'∧Own w1 w' v' (cutP p (sP p k) (sL p k))):=fun w1 m hw=>by
  have:=Xcj (hw.part (a:=sP p k) (n:=sL p k) (by omega) m) (by rw [cut_len (by rw [hpa.len];omega)];omega);exact this
 generalize cutP p (sP p k) (sL p k)=q at *;generalize sP p k=a at *;generalize sL p k=n at *;obtain ⟨f,hf⟩:∃ f,a+n=f:=⟨_,rfl⟩
 have e1:(a:Int)+n=f:=by omega
 have e2:f-a=n:=by omega
 have e3:¬f=a:=by omega
 have e4:(0:Int)≤a:=by omega
 have e5:(a:Int)≤f:=by omega
 have e6:(f:Int)≤512:=by omega
 have e7:(f:Int)≤cap:=by omega
 have e8:(0:Int)≤f:=by omega
 clear h hp hpa h1 h2 hk hf h0
 go_enter func70,ntmps70
 go_wp2_with (first
  | (go_at_call 98;refine AT.out.mono ?_;rintro e w1 ⟨rfl,hO1⟩;have O1:=Th (hO1.alloc (.cells #[.int .i64 a,.int .i64 n] 160));clear hO1)
  | (go_at_call 41;refine (CN.out _ _ (HP.out.past O1.out)).mono ?_;rintro e w2 ⟨v',rfl,ho⟩;have OW:=Th ho;clear ho))
 go_ret2;exact ⟨v',rfl,OW.out.1,fun x hx=>Zp O1.out.size (OW.out.2.1 x hx),O1.out.trans OW.out.2.2 (by simp)⟩
end G
namespace G
open Go Go.RowKit B C Tryz
theorem ins_max {p:List UInt8}:(freeS p<nS p→max (nS p) (freeS p+1)=nS p)∧(¬freeS p<nS p→freeS p=nS p∧max (nS p) (freeS p+1)=nS p+1):=by
 have:=Xfb p;exact ⟨fun h=>by omega,fun h=>⟨by omega,by omega⟩⟩
theorem insert_form {w:World} {v vb:Value} {p b:List UInt8} (h:Xbs w v p) (hv:Xae w vb b) (hb:¬Pg p∨b.length<1∨400<b.length) {z:Nat} (hz:insE p b=z) :
  Calls prog 53 #[v,vb] w fun e w'=>e=.returned (.tuple #[.slice none 0 0,.int .i64 0,.int .i64 z])∧Only [] w w':=by
 by_cases hp:Pg p
 case neg =>
  have CK:=Th (Xdp h (Xfo hp))
  obtain rfl:40=z:=by rw [←hz];unfold insE;rw [if_pos (ok_no.2 hp)]
  clear h hp hz hb
  go_enter func53,ntmps53
  go_wp2_with (go_at_call 80;refine CK.out.mono ?_;rintro e w1 ⟨rfl,hO1⟩;have O1:=Th hO1;clear hO1)
  go_ret3;exact ⟨rfl,O1.out⟩
 case pos =>
  have CK:=Th (Xdp h (Xll hp))
  have hb:b.length<1∨400<b.length:=by
   rcases hb with hb | hb
   ·exact absurd hp hb
   ·exact hb
  obtain rfl:43=z:=by rw [←hz];unfold insE;rw [if_neg (by rw [Xfv.2 hp];simp),if_pos hb]
  obtain ⟨ao,cap,rfl,hc⟩:=hv;clear h hp hz hc;generalize b.length=n at *
  by_cases h1:n<1
  ·have i1:(n:Int)<1:=by omega
   clear hb h1
   go_enter func53,ntmps53
   go_wp2_with (go_at_call 80;refine CK.out.mono ?_;rintro e w1 ⟨rfl,hO1⟩;have O1:=Th hO1;clear hO1)
   go_ret3;exact ⟨rfl,O1.out⟩
  ·have i1:¬(n:Int)<1:=by omega
   have i2:(n:Int) > 400:=by omega
   have i3:¬(n:Int)≤400:=by omega
   clear hb h1
   go_enter func53,ntmps53
   go_wp2_with (go_at_call 80;refine CK.out.mono ?_;rintro e w1 ⟨rfl,hO1⟩;have O1:=Th hO1;clear hO1)
   go_ret3;exact ⟨rfl,O1.out⟩
def InsRes (w:World) (p b:List UInt8) (e:Ending) (w':World):Prop :=
 ((freeB p<need p b∨freeS p=125)∧e=.returned (.tuple #[.slice none 0 0,.int .i64 0,.int .i64 42])∧Only [] w w') ∨
 (¬(freeB p<need p b∨freeS p=125)∧∃ gb c,e=.returned (.tuple #[.slice (some ⟨gb,0,none⟩) 512 c,.int .i64 (freeS p:Nat),.int .i64 0])∧Buf w' gb c (insP p b)∧w.heap.size≤gb∧Only [] w w')
theorem insert_ok {w:World} {v vb:Value} {p b:List UInt8} (h:Xbs w v p) (hv:Xae w vb b) (hp:Pg p) (hb1:1≤b.length) (hb2:b.length≤400) :
  Calls prog 53 #[v,vb] w (InsRes w p b):=by
 have CK:=Th (Xdp h (Xll hp));have hl:=hp.body.len;have hmost:=hp.body.most;have HB:=Th h;have HV:=Th hv
 have WH:Hid (∀ w1,Xbs w1 v p→Calls prog 81 #[v] w1 fun e w'=>e=.returned (.agg (u8s p).toArray)∧Only [] w1 w'):=fun w1 h1=>Xgd h1.1 hl
 have SL:Hid (∀ w1,Calls prog 82 #[.agg (u8s p).toArray] w1 fun e w'=>∃ v,e=.returned v∧w'.ownsRow 0 160 2 v (nS p) (rowC (cells p))∧(∀ k,v.ownBlock=some k→w1.heap.size≤k)∧Only [] w1 w'):=fun w1=>Xkp hl (by omega)
 have IX:Hid (∀ w1 v1,w1.ownsRow 0 160 2 v1 (nS p) (rowC (cells p))→Calls prog 83 #[v1,.func (.func 84) #[] #[]] w1 fun e w'=>e=.returned (.int .i64 (if freeS p<nS p then (freeS p:Int) else -1))∧Only [] w1 w'):=fun w1 v1 h1=>by
  have:=Xjz h1 (Xbx p) hmost;unfold idxF at this;rw [Xbx] at this;exact this
 have FR:Hid (∀ w1,Calls prog 85 #[.agg (u8s p).toArray] w1 fun e w'=>e=.returned (.int .i64 (freeB p:Nat))∧Only [] w1 w'):=fun w1=>free_any hl hp.body.fit
 have CN:Hid (∀ w1,Xbs w1 v p→Calls prog 41 #[v] w1 fun e w'=>∃ gb c,e=.returned (.slice (some ⟨gb,0,none⟩) 512 c)∧Buf w' gb c p∧w1.heap.size≤gb∧Only [] w1 w'):=fun w1 h1 =>
  (Xcj h1.1 (by omega)).mono fun e w' ⟨v',he,ho⟩=>by
   obtain ⟨gb,c,rfl,hb,hg,hO⟩:=own_buf ho hl;exact ⟨gb,c,he,hb,hg,hO⟩
 have HI:Hid ((prog.info? 154).map (·.size)=some (u8s p).length):=by show _=_;rw [Xfc,Xaf,hl]
 have HLZ:Hid ((u8s p).length=Tryz.zeroCells154.toList.length):=by show _=_;rw [Xaf,hl];kernel_rfl
 have EI:Hid (insP p b=Xaz (layP (put p 6 (max (nS p) (freeS p+1))) (freeS p) b)):=rfl
 have IW:Hid (¬(freeB p<need p b∨freeS p=125)→(put p 6 (max (nS p) (freeS p+1))).length=512∧14+4*freeS p+b.length≤bg (put p 6 (max (nS p) (freeS p+1)))∧bg (put p 6 (max (nS p) (freeS p+1)))≤512):=fun hx=>by
  simp only [not_or,Nat.not_lt] at hx;obtain ⟨hW,h0,hr⟩:=ins_wide hp hx.1 hx.2 hb1;have h1:=hW.core.fin;rw [hW.beg] at h1 ⊢;exact ⟨hW.core.len,by omega,h1⟩
 have PU:Hid (∀ w1 gb c,Buf w1 gb c p→Calls prog 78 #[.slice (some ⟨gb,0,none⟩) 512 c,.int .i64 6,.int .i64 (max (nS p) (freeS p+1):Nat)] w1 fun e w'=>e=.returned (.tuple #[])∧Buf w' gb c (put p 6 (max (nS p) (freeS p+1)))∧Only [gb] w1 w'):=fun w1 gb c h1=>Xki h1 6 _ (by omega) (by have:=Xfb p;omega)
 have LY:Hid (¬(freeB p<need p b∨freeS p=125)→∀ w1 gb c,Buf w1 gb c (put p 6 (max (nS p) (freeS p+1)))→Xae w1 vb b→Calls prog 86 #[.slice (some ⟨gb,0,none⟩) 512 c,.int .i64 (freeS p:Nat),vb] w1 fun e w'=>e=.returned (.tuple #[])∧Buf w' gb c (layP (put p 6 (max (nS p) (freeS p+1))) (freeS p) b)∧Only [gb] w1 w'):=fun hx w1 gb c h1 h2=>lay_any h1 h2 (freeS p) hb1 (IW.out hx).2.1 (IW.out hx).2.2
 have NE:Hid (need p b=if freeS p<nS p then b.length else b.length+4):=rfl;have MX:=Th (ins_max (p:=p));have HSL:=Th (Xfb p);obtain ⟨ao,cap,rfl,hc⟩:=hv;unfold InsRes;rw [EI.out];clear hc h hp EI;generalize layP (put p 6 (max (nS p) (freeS p+1))) (freeS p) b=p7 at *;generalize put p 6 (max (nS p) (freeS p+1))=p6 at *;generalize max (nS p) (freeS p+1)=M at *;generalize need p b=nd at *;generalize freeB p=f at *;generalize freeS p=s at *;generalize nS p=n at *;generalize b.length=bl at *;obtain ⟨ix,hix⟩:∃ ix:Int,(if s<n then (s:Int) else -1)=ix:=⟨_,rfl⟩
 rw [hix] at IX;have HIX:=Th hix
 have b1:¬(bl:Int)<1:=by omega
 have b2:¬(bl:Int) > 400:=by omega
 have b3:(bl:Int)≤400:=by omega
 have HBL:Hid (bl≤400):=hb2;clear hix hb1 hb2
 go_enter func53,ntmps53
 go_upto_if 34 with (first
  | (go_at_call 80;refine CK.out.mono ?_;rintro e w1 ⟨rfl,hO1⟩;have O1:=Th hO1;clear hO1)
  | (go_at_call 81;refine (WH.out _ (HB.out.past O1.out)).mono ?_;rintro e w2 ⟨rfl,hO2⟩;have O2:=Th (O1.out.trans hO2 (by simp));clear hO2)
  | (refine Xak rfl 154 (.tmp 7) (.tmp 26) rfl w2.heap.size (u8s p) rfl rfl (Blk.new' _ _ _ rfl) HLZ.out HI.out (Xba _) ?_;intro w3 hb3 hO3;have A3:=Th hb3;have O3:=Th ((O2.out.alloc _).trans hO3 (fun x hx=>.inr (by simp at hx;subst hx;exact O2.out.size)));clear hb3 hO3)
  | (refine Xbo rfl 154 (.tmp 7) rfl w2.heap.size rfl A3.out _ underlying154 rfl HI.out ?_)
  | (go_at_call 82;refine (SL.out _).mono ?_;rintro e w4 ⟨v4,rfl,hr4,hb4,hO4⟩;have R4:=Th hr4;have O4:=Th (O3.out.trans hO4 (by simp));have A4:=Th (hO4.blk A3.out (by simp));clear hr4 hb4 hO4)
  | (go_at_call 83;refine (IX.out _ _ R4.out).mono ?_;rintro e w5 ⟨rfl,hO5⟩;have O5:=Th (O4.out.trans hO5 (by simp));have A5:=Th (hO5.blk A4.out (by simp));clear hO5))
 obtain ⟨a4,c4,rfl⟩:=Xac R4.out;clear IX SL WH CK R4 A3 A4 HLZ
 go_cut [9,10] (fun s9 s10 wx=>s9=.int .i64 s∧s10=.int .i64 nd∧wx=w5)
 case first =>
  by_cases hf:s<n
  ·obtain rfl:(s:Int)=ix:=by rw [←HIX.out,if_pos hf]
   have i1:¬(s:Int)<0:=by omega
   go_wp2_with fail
   go_meet
   case rel=>exact ⟨rfl,by rw [NE.out,if_pos hf],rfl⟩
  ·obtain rfl:-1=ix:=by rw [←HIX.out,if_neg hf]
   go_wp2_with fail
   go_meet
   case rel=>exact ⟨by rw [(MX.out.2 hf).1],by rw [NE.out,if_neg hf];rfl,rfl⟩
 case rest =>
  obtain ⟨rfl,rfl,rfl⟩:=hcut
  by_cases hx:f<nd
  ·have i1:(nd:Int) > f:=by omega
   have i2:¬(nd:Int)≤f:=by omega
   go_wp2_with (first
    | (refine Xbo rfl 154 (.tmp 7) rfl w2.heap.size rfl A5.out _ underlying154 rfl HI.out ?_)
    | (go_at_call 85;refine (FR.out _).mono ?_;rintro e w6 ⟨rfl,hO6⟩;have O6:=Th (O5.out.trans hO6 (by simp));clear hO6))
   go_ret3;exact .inl ⟨.inl hx,rfl,O6.out⟩
  ·have i1:¬(nd:Int) > f:=by omega
   have i2:(nd:Int)≤f:=by omega
   by_cases hs:s=125
   ·subst hs
    go_wp2_with (first
     | (refine Xbo rfl 154 (.tmp 7) rfl w2.heap.size rfl A5.out _ underlying154 rfl HI.out ?_)
     | (go_at_call 85;refine (FR.out _).mono ?_;rintro e w6 ⟨rfl,hO6⟩;have O6:=Th (O5.out.trans hO6 (by simp));clear hO6))
    go_ret3
    first | exact .inl ⟨.inr rfl,rfl,O6.out⟩ | exact ⟨rfl,O6.out⟩
   ·have i3:¬(s:Int)=125:=by omega
    have i4:((s:Int) == 125)=false:=beq_eq_false_iff_ne.2 i3
    have HF:Hid (¬(f<nd∨s=125)):=fun h=>h.elim hx hs
    have LY6:=Th (LY.out HF.out);have IW6:=Th (IW.out HF.out)
    have MX':Hid (max (n:Int) (wrap64 ((s:Int)+1))=(M:Nat)):=by
     show _=_;have hsn:=HSL.out
     have hw:wrap64 ((s:Int)+1)=(s:Int)+1:=by unfold wrap64;omega
     rw [hw]
     by_cases hf:s<n
     ·have:=MX.out.1 hf;omega
     ·have:=MX.out.2 hf;omega
    clear LY IW MX NE HIX hx hs
    go_wp2_with (first
     | (refine Xbo rfl 154 (.tmp 7) rfl w2.heap.size rfl A5.out _ underlying154 rfl HI.out ?_)
     | (go_at_call 85;refine (FR.out _).mono ?_;rintro e w6 ⟨rfl,hO6⟩;have O6:=Th (O5.out.trans hO6 (by simp));clear hO6)
     | (go_at_call 41;refine (CN.out _ (HB.out.past O6.out)).mono ?_;rintro e w7 ⟨gb,c,rfl,hb7,hg7,hO7⟩;have B7:=Th hb7;have G7:=Th (Zp O6.out.size hg7);have O7:=Th (O6.out.trans hO7 (by simp));clear hb7 hg7 hO7)
     | (go_at_call 78;rw [MX'.out];refine (PU.out _ _ _ B7.out).mono ?_;rintro e w8 ⟨rfl,hb8,hO8⟩;have B8:=Th hb8;have O8:=Th (O7.out.trans hO8 (fun x hx=>by simp at hx;subst hx;exact .inr G7.out));clear hb8 hO8)
     | (go_at_call 86;refine (LY6.out _ _ _ B8.out (Xam HV.out O8.out)).mono ?_;rintro e w9 ⟨rfl,hb9,hO9⟩;have B9:=Th hb9;have O9:=Th (O8.out.trans hO9 (fun x hx=>by simp at hx;subst hx;exact .inr G7.out));clear hb9 hO9)
     | (go_at_call 79;refine (Xij B9.out.at B9.out.1).mono ?_;rintro e wA ⟨gb2,c2,rfl,hbA,hgA,hOA⟩;have BA:=Th hbA;have GA:=Th (Zp O9.out.size hgA);have OA:=Th (O9.out.trans hOA (by simp));clear hbA hgA hOA))
    go_ret3;exact .inr ⟨HF.out,gb2,c2,rfl,BA.out,GA.out,OA.out⟩
theorem Xlp {w:World} {v vb:Value} {p b:List UInt8} (h:Xbs w v p) (hv:Xae w vb b) (hz:insE p b=0) :
  Calls prog 53 #[v,vb] w fun e w'=>∃ gb c,e=.returned (.tuple #[.slice (some ⟨gb,0,none⟩) 512 c,.int .i64 (freeS p:Nat),.int .i64 0])∧Buf w' gb c (insP p b)∧w.heap.size≤gb∧Only [] w w':=by
 obtain ⟨hp,h1,h2,h3,h4⟩:=insE_ok hz
 refine (insert_ok h hv hp h1 h2).mono ?_
 rintro e w' (⟨hn,_⟩ | ⟨_,hr⟩)
 ·rcases hn with hn | hn
  ·omega
  ·exact absurd hn h4
 ·exact hr
end G
end Go.Proofs.YtiijokopcgnokaaGreat
