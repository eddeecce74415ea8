import Derived.Test.YtiijokopcgnokaaGreatWPageF
import Derived.Deep.DeepCutAuto
import Derived.Deep.CutBlock
set_option linter.unusedSimpArgs false
set_option linter.unusedVariables false
namespace Go.Proofs.YtiijokopcgnokaaGreat.G
open Go Go.RowKit B C Tryz
set_option maxRecDepth 100000 in
set_option maxHeartbeats 16000000 in
theorem Xjn {w:World} {v:Value} {p:List UInt8} (h:Xbs w v p) :
  Calls prog 80 #[v] w fun e w'=>e=.returned (.int .i64 (errE p:Nat))∧Only [] w w':=by
 by_cases hl:p.length=512
 ·obtain ⟨b,o,cap,rfl,hp⟩:=h.page hl
  have HP:=Th hp;have hcap:=hp.cap;clear h hp;have SE:=Th (Xij HP.out.at hl);have c5:=HP.out.cell 5 (by omega)
  by_cases hs:Xaz p=p
  ·have hsB:(Xaz p == p)=true:=beq_iff_eq.2 hs
   have EQ:Hid (∀ w1 gb c,Buf w1 gb c (Xaz p)→PAt w1 b o cap p→Calls prog 107 #[.slice (some ⟨gb,0,none⟩) 512 c,.slice (some ⟨b,o,none⟩) 512 cap] w1 fun e w'=>e=.returned (.bool true)∧w1=w'):=fun w1 gb c h1 h2=>by
    have:=Xok h1.at h2.at;rw [hsB] at this;exact this
   by_cases h5:g p 5=0
   ·have T6:Hid (∀ w4:World,∀ x:Later w4,Calls prog 97 #[.agg (u8s p).toArray,.int .i64 6] x.v fun e w'=>e=.returned (.int .i64 (nS p:Nat))∧∃ y:Later w4,w'=y.v):=fun (w4:World) x=>Calls.later (fun w1 _=>Xfi hl 6 (by omega)) x
    have T8:Hid (∀ w4:World,∀ x:Later w4,Calls prog 97 #[.agg (u8s p).toArray,.int .i64 8] x.v fun e w'=>e=.returned (.int .i64 (bg p:Nat))∧∃ y:Later w4,w'=y.v):=fun (w4:World) x=>Calls.later (fun w1 _=>Xfi hl 8 (by omega)) x
    have WH:Hid (∀ w1,PAt w1 b o cap p→Calls prog 81 #[.slice (some ⟨b,o,none⟩) 512 cap] w1 fun e w'=>e=.returned (.agg (u8s p).toArray)∧Only [] w1 w'):=fun w1 h1=>Xgd h1.at hl
    have SL:Hid (10+4*nS p≤512→∀ w1,Calls prog 82 #[.agg (u8s p).toArray] w1 fun e w'=>∃ v,e=.returned v∧w'.ownsRow 0 160 2 v (nS p) (rowC (cells p))∧(∀ k,v.ownBlock=some k→w1.heap.size≤k)∧Only [] w1 w'):=fun hn w1=>Xkp hl hn
    have LA:Hid (nS p≤125→bg p≤512→∀ w1 v1,w1.ownsRow 0 160 2 v1 (nS p) (rowC (cells p))→Calls prog 108 #[v1,.int .i64 (bg p:Nat)] w1 fun e w'=>e=.returned (.bool (laidB (cells p) (bg p)))∧Only [] w1 w'):=fun h1 h2 w1 v1 h3=>laid_any h3 (Xbx p) cells_lt h1 h2
    have LD:Hid (∀ (w4:World) (ga:Nat),Blk w4 ga (u8s p) 154→∀ x:Later w4,(Instr.loadAt 154 (.pointer (some ⟨ga,0,none⟩))).run prog x.v=.ok (.agg (u8s p).toArray) x.v):=fun w4 ga hb x=>Xlr hb hl x
    have HLZ:Hid ((u8s p).length=Tryz.zeroCells154.toList.length):=by show _=_;rw [Xaf,hl];kernel_rfl
    have HI:Hid ((prog.info? 154).map (·.size)=some (u8s p).length):=by show _=_;rw [Xfc,Xaf,hl]
    have CL:Hid (∀ k,k<nS p→(cells p)[k]?=some (sP p k,sL p k)):=fun k hk=>by rw [Zc (by rw [Xbx];exact hk),Xdz]
    have EE4:Hid (¬(nS p≤125∧10+4*nS p≤bg p∧bg p≤512)→errE p=40):=fun h=>Xfo fun hp=>h ⟨hp.body.most,hp.body.fit,hp.body.fin⟩
    have EE5:Hid (laidB (cells p) (bg p)=false→errE p=40):=fun h=>Xfo fun hp=>by
     rw [Bool.eq_false_iff] at h;exact h (Xhi.2 ⟨hp.body.good,hp.body.row⟩)
    have EE6:Hid (∀ m,nS p=m+1→sP p m=0→errE p=40):=fun m h1 h2=>Xfo fun hp=>by
     have:=hp.body.last (by omega);rw [h1] at this;exact this h2
    have EE7:Hid (∀ i,10+4*nS p≤i→i<bg p→g p i≠0→errE p=40):=fun i h1 h2 h3=>Xfo fun hp=>h3 (hp.body.gap i h1 h2)
    have EE0:Hid (nS p≤125→10+4*nS p≤bg p→bg p≤512→laidB (cells p) (bg p)=true→(0<nS p→sP p (nS p-1)≠0)→(∀ i,10+4*nS p≤i→i<bg p→g p i=0)→errE p=0):=fun h1 h2 h3 h4 h6 h7=>Xll ⟨⟨hl,h5,h1,h2,h3,(Xhi.1 h4).1,(Xhi.1 h4).2,h6,h7⟩,hs⟩
    rw [h5] at c5;have hnl:=Xkv p 6;have hbl:=Xkv p 8;have hnl:nS p<65536:=hnl;have hbl:bg p<65536:=hbl;generalize nS p=n at *;generalize bg p=bv at *;generalize laidB (cells p) bv=L at *;clear hs hsB h5
    go_enter func80,ntmps80
    go_wp2_with (first
     | (go_at_call 79;refine SE.out.mono ?_;rintro e w1 ⟨gb,c,rfl,hb1,hg1,hO1⟩;have B1:=Th hb1;have P1:=Th (HP.out.past hO1);have O1:=Th hO1;have y5:=hO1.cell c5 (by simp);clear hb1 hg1 hO1)
     | (go_at_call 107;refine (EQ.out _ _ _ B1.out P1.out).mono ?_;rintro e w2 ⟨rfl,rfl⟩)
     | (go_at_call 81;refine (WH.out _ P1.out).mono ?_;rintro e w3 ⟨rfl,hO3⟩;have O3:=Th (O1.out.trans hO3 (by simp));clear hO3)
     | (refine Xak rfl 154 (.tmp 3) (.tmp 26) rfl w3.heap.size (u8s p) rfl rfl (Blk.new' _ _ _ rfl) HLZ.out HI.out (Xba _) ?_;intro w4 hb4 hO4;have A4:=Th hb4;have O4:=Th ((O3.out.alloc _).trans hO4 (fun x hx=>.inr (by simp at hx;subst hx;exact O3.out.size)));clear hb4 hO4))
    refine Xaa (Only.refl _ _) (by kernel_rfl) (by kernel_rfl) ?_
    simp only [Act.put]
    repeat (first
     | (go_big_quiet_want;refine Xly 154 (.tmp 3) rfl (.agg (u8s p).toArray) (by rintro _ ⟨y,rfl⟩;exact LD.out _ _ A4.out y) ?_;go_big_quiet_on;simp only [Act.put,qSa,qSs,qSz])
     | go_big_quiet_step ((first | (go_at_call_of 97 (Value.int .i64 8);exact T8.out _ _) | (go_at_call 97;exact T6.out _ _))))
    refine wpQuiet_nil ?_
    rintro _ ⟨xq,rfl⟩;have O5:=Th (O4.out.trans xq.h (by simp));have B5:=Th (xq.h.blk A4.out (by simp));obtain ⟨q,hq⟩:∃ q,10+4*n=q:=⟨_,rfl⟩
    have hqI:(10:Int)+4*(n:Int)=q:=by omega
    by_cases hn1:n≤125
    case neg =>
     have EE:=Th (EE4.out (fun h=>hn1 h.1))
     have i1:(n:Int) > 125:=by omega
     have i2:¬(n:Int)≤125:=by omega
     go_wp2_with fail
     go_ret;exact ⟨by rw [EE.out];rfl,O5.out⟩
    have i1:¬(n:Int) > 125:=by omega
    have j1:(n:Int)≤125:=by omega
    by_cases hn2:q≤bv
    case neg =>
     have EE:=Th (EE4.out (fun h=>hn2 (by omega)))
     have i2:(q:Int) > bv:=by omega
     have j2:¬(q:Int)≤bv:=by omega
     go_wp2_with fail
     go_ret;exact ⟨by rw [EE.out];rfl,O5.out⟩
    have i2:¬(q:Int) > bv:=by omega
    have j2:(q:Int)≤bv:=by omega
    by_cases hn3:bv≤512
    case neg =>
     have EE:=Th (EE4.out (fun h=>hn3 h.2.2))
     have i3:(bv:Int) > 512:=by omega
     have j3:¬(bv:Int)≤512:=by omega
     go_wp2_with fail
     go_ret;exact ⟨by rw [EE.out];rfl,O5.out⟩
    have i3:¬(bv:Int) > 512:=by omega
    have j3:(bv:Int)≤512:=by omega
    have SL7:=Th (SL.out (by omega));have LA7:=Th (LA.out hn1 hn3);obtain ⟨N,hN⟩:∃ N,bv-q=N:=⟨_,rfl⟩
    have hNI:(bv:Int)-(q:Int)=N:=by omega
    have HQ:=Th hq
    have HX:Hid (L=true→(0<n→sP p (n-1)≠0)→(∀ i,q≤i→i<bv→g p i=0)→errE p=0):=fun hL h h2=>EE0.out hn1 (by omega) hn3 hL h (fun i h3 h4=>h2 i (by omega) h4)
    clear hq EE0
    go_upto_region 8 with (first
      | (refine Xbo rfl 154 (.tmp 3) rfl w3.heap.size rfl B5.out _ underlying154 rfl HI.out ?_)
      | (go_at_call 82;refine (SL7.out _).mono ?_;rintro e w6 ⟨v6,rfl,hr6,hb6,hO6⟩;have R6:=Th hr6;have O6:=Th (O5.out.trans hO6 (by simp));clear hr6 hb6 hO6))
    go_cut [62] (fun s62 wx=>∃ z:Bool,s62=.bool z∧Only [] w wx∧(z=true→errE p=40)∧(z=false→(∀ i,q≤i→i<bv→g p i=0)→errE p=0))
    case first =>
     cases L
     ·have EE:=Th (EE5.out rfl)
      go_wp2_with (go_at_call 108;refine (LA7.out _ _ R6.out).mono ?_;rintro e w7 ⟨rfl,hO7⟩;have O7:=Th (O6.out.trans hO7 (by simp));clear hO7)
      go_meet
      case rel=>exact ⟨true,rfl,O7.out,fun _=>EE.out,(fun h=>nomatch h)⟩
     ·by_cases hn0:0<n
      ·obtain ⟨m,hm⟩:∃ m,n=m+1:=⟨n-1,by omega⟩
       have i4:(n:Int) > 0:=by omega
       have i5:(n:Int)-1=m:=by omega
       have i6:(0:Int)≤m:=by omega
       have i7:(m:Int)<n:=by omega
       have HMN:Hid (m<n):=by show _<_;omega
       have CM:=Th (CL.out m (by omega));have E6:=Th (EE6.out m hm)
       have EM:Hid (n-1=m):=by show _=_;omega
       obtain ⟨g6,c6,rfl,hc6⟩:=Xcw R6.out hn0;have y6:=Xeh R6.out HMN.out CM.out 0 _ rfl;rw [Wm] at y6;clear hm
       by_cases ha:sP p m=0
       ·have EE:=Th (E6.out ha)
        rw [ha] at y6;clear ha
        go_wp2_with (first
         | (go_at_call 108;refine (LA7.out _ _ R6.out).mono ?_;rintro e w7 ⟨rfl,hO7⟩;have O7:=Th (O6.out.trans hO7 (by simp));have y7:=hO7.cell y6 (by simp);clear hO7))
        go_meet
        case rel=>exact ⟨true,rfl,O7.out,fun _=>EE.out,(fun h=>nomatch h)⟩
       ·have E0:=Th (HX.out rfl (fun _=>by rw [EM.out];exact ha))
        generalize sP p m=a at *
        have haI:¬(a:Int)=0:=by omega
        have haB:((a:Int) == 0)=false:=beq_eq_false_iff_ne.2 haI;clear ha
        go_wp2_with (first
         | (go_at_call 108;refine (LA7.out _ _ R6.out).mono ?_;rintro e w7 ⟨rfl,hO7⟩;have O7:=Th (O6.out.trans hO7 (by simp));have y7:=hO7.cell y6 (by simp);clear hO7))
        go_meet
        case rel=>exact ⟨false,rfl,O7.out,(fun h=>nomatch h),fun _=>E0.out⟩
      ·have i4:¬(n:Int) > 0:=by omega
       have E0:=Th (HX.out rfl (fun h=>absurd h hn0));clear hn0
       go_wp2_with (go_at_call 108;refine (LA7.out _ _ R6.out).mono ?_;rintro e w7 ⟨rfl,hO7⟩;have O7:=Th (O6.out.trans hO7 (by simp));clear hO7)
       go_meet
       case rel=>exact ⟨false,rfl,O7.out,(fun h=>nomatch h),fun _=>E0.out⟩
    case rest =>
     obtain ⟨z,rfl,hO7,hE4,hE0⟩:=hcut;have O7:=Th hO7
     have k0:(0:Int)≤q:=by omega
     have k1:(bv:Int)≤cap:=by omega
     have k2:(q:Int)≤cap:=by omega
     have hqc:q+N≤512:=by omega
     clear hO7 SL7 LA7 R6 O6 O5 HX EE4 EE5 EE6 B5 A4 T6 T8 WH SL LA LD HI HLZ CL SE EQ;cases z
     ·have E0:=Th (hE0 rfl)
      clear hE4 hE0
      by_cases hcq:q=cap
      ·exfalso
       have:=HQ.out;omega
      ·have k4:¬cap=q:=fun h=>hcq h.symm
       go_wp2_with fail
       go_loopg [8,70] N (fun gk s8 s70 wx=>∃ j:Nat,gk=N-j∧j≤N∧s70=.int .i64 j∧(∀ i,q≤i→i<q+j→g p i=0)∧Only [] w wx)
       case atStart=>exact ⟨0,rfl,Yc _,rfl,fun i h1 h2=>by omega,O7.out⟩
       case round =>
        obtain ⟨j,hgk,hj,rfl,hz,hO⟩:=hrel;have HGK:=Th hgk;have HZ:=Th hz;have OO:=Th hO;clear hgk hz hO
        by_cases hlt:j<N
        ·have hj0:(0:Int)≤j:=by omega
         have hj1:(j:Int)<N:=by omega
         have cj:=(HP.out.past OO.out).cell (q+j) (by omega);rw [←Va] at cj
         by_cases hx:g p (q+j)=0
         ·have HX:=Th hx
          rw [hx] at cj;clear hx
          go_wp2_with fail
          go_roundg (N-(j+1))
          case measure=>have:=HGK.out;omega
          case rel =>
           refine ⟨j+1,rfl,by omega,by go_num,fun i h1 h2=>?_,OO.out⟩
           by_cases hi:i=q+j
           ·rw [hi];exact HX.out
           ·exact HZ.out i h1 (by omega)
         ·have EE:=Th (EE7.out (q+j) (by have:=HQ.out;omega) (by omega) hx)
          have hxI:¬(g p (q+j):Int)=0:=by omega
          have hxB:((g p (q+j):Int) == 0)=false:=beq_eq_false_iff_ne.2 hxI;generalize g p (q+j)=z at *
          go_wp2_with fail
          go_ret;exact ⟨by rw [EE.out];rfl,OO.out⟩
        ·obtain rfl:j=N:=by omega
         have EE:=Th (E0.out (fun i h1 h2=>HZ.out i h1 (by omega)))
         go_wp2_with fail
         go_ret;exact ⟨by rw [EE.out];rfl,OO.out⟩
     ·have EE:=Th (hE4 rfl)
      clear hE4 hE0
      go_wp2_with fail
      go_ret;exact ⟨by rw [EE.out];rfl,O7.out⟩
   ·have h5I:¬(g p 5:Int)=0:=by omega
    have EE:Hid (errE p=40):=Xfo fun h=>h5 h.body.zero
    have EB:((g p 5:Int) == 0)=false:=beq_eq_false_iff_ne.2 h5I;generalize g p 5=z at *
    go_enter func80,ntmps80
    go_wp2_with (first
     | (go_at_call 79;refine SE.out.mono ?_;rintro e w1 ⟨gb,c,rfl,hb1,hg1,hO1⟩;have B1:=Th hb1;have P1:=Th (HP.out.past hO1);have O1:=Th hO1;have y5:=hO1.cell c5 (by simp);clear hb1 hg1 hO1)
     | (go_at_call 107;refine (EQ.out _ _ _ B1.out P1.out).mono ?_;rintro e w2 ⟨rfl,rfl⟩))
    go_ret;exact ⟨by rw [EE.out];rfl,O1.out⟩
  ·have hsB:(Xaz p == p)=false:=beq_eq_false_iff_ne.2 hs
   have EE:Hid (errE p=40):=Xfo fun h=>hs h.sums
   have EQ:Hid (∀ w1 gb c,Buf w1 gb c (Xaz p)→PAt w1 b o cap p→Calls prog 107 #[.slice (some ⟨gb,0,none⟩) 512 c,.slice (some ⟨b,o,none⟩) 512 cap] w1 fun e w'=>e=.returned (.bool false)∧w1=w'):=fun w1 gb c h1 h2=>by
    have:=Xok h1.at h2.at;rw [hsB] at this;exact this
   go_enter func80,ntmps80
   go_wp2_with (first
    | (go_at_call 79;refine SE.out.mono ?_;rintro e w1 ⟨gb,c,rfl,hb1,hg1,hO1⟩;have B1:=Th hb1;have P1:=Th (HP.out.past hO1);have O1:=Th hO1;clear hb1 hg1 hO1)
    | (go_at_call 107;refine (EQ.out _ _ _ B1.out P1.out).mono ?_;rintro e w2 ⟨rfl,rfl⟩))
   go_ret;exact ⟨by rw [EE.out];rfl,O1.out⟩
 ·obtain ⟨⟨ao,cap,rfl,hc⟩,hcap⟩:=h
  have EE:Hid (errE p=40):=Xfo fun h=>hl h.body.len
  have hlI:¬(p.length:Int)=512:=by omega
  clear hc hcap;generalize p.length=n at *
  go_enter func80,ntmps80
  go_wp2_with fail
  go_ret;exact ⟨by rw [EE.out];rfl,Only.refl _ _⟩
end Go.Proofs.YtiijokopcgnokaaGreat.G
