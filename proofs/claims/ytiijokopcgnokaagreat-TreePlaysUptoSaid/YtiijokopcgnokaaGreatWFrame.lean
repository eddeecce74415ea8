import Derived.Test.YtiijokopcgnokaaGreatWCrc
import Derived.Test.YtiijokopcgnokaaGreatWPlain
set_option maxRecDepth 100000
set_option maxHeartbeats 4000000
set_option linter.unusedSimpArgs false
set_option linter.unusedVariables false
namespace Go.Proofs.YtiijokopcgnokaaGreat.C
open Go Go.RowKit B Tryz
def tabTo (i:Nat):List Value:=(List.range 16).map fun j=>.int .u32 ((if j<i then steps 4 j else 0:Nat):Int)
theorem Xei (i:Nat):(tabTo i).length=16:=by simp [tabTo]
theorem Xga (i j:Nat) (h:j<16):(tabTo i)[j]?=some (.int .u32 ((if j<i then steps 4 j else 0:Nat):Int)):=by
 simp [tabTo,h]
theorem tabTo_set (i:Nat) (h:i<16):(tabTo i).set i (.int .u32 (steps 4 i))=tabTo (i+1):=by
 apply List.ext_getElem?
 intro j;rw [List.getElem?_set,Xei]
 by_cases hj:j<16
 ·rw [Xga _ _ hj,Xga _ _ hj]
  by_cases he:i=j
  ·subst he
   rw [if_pos rfl,if_pos h,if_pos (by omega)]
  ·rw [if_neg he]
   by_cases hlt:j<i
   ·rw [if_pos hlt,if_pos (by omega)]
   ·rw [if_neg hlt,if_neg (by omega)]
 ·rw [Xb (by rw [Xei];omega),Xb (by rw [Xei];omega),if_neg (by omega)]
theorem Xgi : (prog.info? 212).map (·.size)=some (tabTo 16).length:=by kernel_rfl
theorem table_any (w:World):Calls prog 137 #[] w fun e w'=>e=.returned (.agg (tabTo 16).toArray)∧Only [] w w':=by
 go_enter func137,ntmps137
 go_wp2_with fail
 go_loopg [5] 16 (fun gk s5 wx=>∃ i:Nat,gk=16-i∧i≤16∧s5=.int .i64 i∧Blk wx w.heap.size (tabTo 0) 212∧Blk wx (w.heap.size+1) (tabTo i) 212∧Only [] w wx)
 case atStart =>
  refine ⟨0,rfl,Yc _,rfl,?_,?_,?_⟩
  ·exact (Blk.new _ _ w).alloc _
  ·exact Blk.new' _ _ _ (by simp)
  ·exact ((Only.refl _ _).alloc _).alloc _
 case round =>
  obtain ⟨i,hgk,hi,rfl,hb0,hb1,hO⟩:=hrel;have HGK:=Th hgk;have B0:=Th hb0;have B1:=Th hb1;have OO:=Th hO;clear hgk hb0 hb1 hO
  by_cases hlt:i<16
  ·have hi0:(0:Int)≤i:=by omega
   have hi1:(i:Int)<16:=by omega
   go_wp2_with fail
   go_loopg [3,10] 4 (fun gk s3 s10 wy=>∃ k:Nat,gk=4-k∧k≤4∧s10=.int .i64 k∧s3=.int .u32 (steps k i)∧wy=wr)
   case atStart=>exact ⟨0,rfl,Yc _,rfl,rfl,rfl⟩
   case round =>
    obtain ⟨k,hgk,hk,rfl,rfl,rfl⟩:=hrel;have HGK2:=Th hgk;have hsl:=Xgn (r:=i) (by omega) k;have EN:Hid (steps (k+1) i=step1 (steps k i)):=rfl;clear hgk
    by_cases hk4:k<4
    ·have hk0:(0:Int)≤k:=by omega
     have hk1:(k:Int)<4:=by omega
     generalize steps k i=r at *;have ea:=Xmn r hsl;obtain ⟨q,hq⟩:∃ q,r / 2=q:=⟨_,rfl⟩
     have e2:(r:Int) / 2=(q:Int):=by omega
     obtain ⟨qx,hqx⟩:∃ qx,q ^^^ 3988292384=qx:=⟨_,rfl⟩
     have ex:bits .xor .u32 (q:Int) 3988292384=(qx:Int):=by rw [←hqx];exact Xem q 3988292384 (by omega) (by decide)
     rcases Nat.mod_two_eq_zero_or_one r with h2 | h2
     ·rw [h2] at ea
      have EV:Hid (q=step1 r):=by show _=_;unfold step1;rw [if_neg (by omega),hq]
      clear ex hqx hq
      go_wp2_with fail
      go_roundg (4-(k+1))
      case measure=>have:=HGK2.out;omega
      case rel=>exact ⟨k+1,rfl,by omega,by go_num,by rw [EN.out,←EV.out],rfl⟩
     ·rw [h2] at ea
      have EV:Hid (qx=step1 r):=by show _=_;unfold step1;rw [if_pos h2,hq,←hqx];rfl
      clear hqx hq
      go_wp2_with fail
      go_roundg (4-(k+1))
      case measure=>have:=HGK2.out;omega
      case rel =>
       refine ⟨k+1,rfl,by omega,by go_num,?_,rfl⟩;rw [EN.out,←EV.out]
    ·obtain rfl:k=4:=by omega
     have c1:=B1.out.cell i;rw [Xga _ _ hlt,if_neg (Nat.lt_irrefl _)] at c1;have f1:=B1.out.frozen i
     go_wp2_with fail
     go_roundg (16-(i+1))
     case measure=>have:=HGK.out;omega
     case rel =>
      exact ⟨i+1,rfl,by omega,by go_num,B0.out.far _ (by simp),(B1.out.set i _).to (tabTo_set i hlt),OO.out.setCell (.inr (by simp)) _⟩
  ·obtain rfl:i=16:=by omega
   go_wp2_with (first | (refine Xbo rfl 212 (.tmp 1) rfl (w.heap.size+1) rfl B1.out _ underlying212 rfl Xgi ?_) | (refine Xak rfl 212 (.tmp 0) (.tmp 25) rfl w.heap.size (tabTo 16) rfl rfl B0.out (by rw [Xei,Xei]) Xgi (by simp [tabTo,Value.oneCell']) ?_;intro w2 hb2 hO2;have B2:=Th hb2;have O2:=Th (OO.out.trans hO2 (by simp));clear hb2 hO2))
   (try simp only [Exit.inBlock,Exit.then])
   refine bodyPost_ret (results_cell_row rfl _ _ w.heap.size 212 (tabTo 16).toArray (0,0) _ rfl B2.out underlying212 rfl (by exact Xgi)) rfl ?_
   exact ⟨rfl,O2.out⟩
theorem Xoh (s:Nat) (hs:s<4294967296):bits .xor .u32 IntKind.u32.max (s:Int)=((4294967295-s:Nat):Int):=by
 have h2:(BitVec.ofInt 32 (s:Int)).toNat=s:=by
  rw [BitVec.ofInt_natCast,BitVec.toNat_ofNat];exact Nat.mod_eq_of_lt (by omega)
 show IntKind.u32.wrap ((BitVec.ofInt 32 IntKind.u32.max ^^^ BitVec.ofInt 32 (s:Int)).toNat:Int)=_;rw [show BitVec.ofInt 32 IntKind.u32.max=BitVec.allOnes 32 from rfl,BitVec.allOnes_xor,BitVec.toNat_not,h2,IntKind.wrap_u32];omega
theorem add_any {w:World} {v:Value} {l:List UInt8} (h:Xae w v l) (hl:l.length≤1048576) (s:Nat) (hs:s<4294967296) :
  Calls prog 127 #[.int .u32 s,v] w fun e w'=>e=.returned (.int .u32 ((4294967295-run (4294967295-s) l:Nat):Int))∧Only [] w w':=by
 obtain ⟨ao,cap,rfl,hc⟩:=h;have HC:=Th hc;have T:=Th (table_any w);clear hc;generalize hm:l.length=m at *;have HM:=Th hm;clear hm;obtain ⟨r0,hr0⟩:∃ r0,4294967295-s=r0:=⟨_,rfl⟩
 have hr0l:r0<4294967296:=by omega
 have ec:=Xoh s hs;rw [hr0] at ec ⊢;clear hr0
 go_enter func127,ntmps127
 go_wp2_with (first | (go_at_call 137;refine T.out.mono ?_;rintro e w1 ⟨rfl,hO1⟩;have O1:=Th hO1;clear hO1) | (refine Xak rfl 212 (.tmp 5) (.tmp 9) rfl w1.heap.size (tabTo 16) rfl rfl (Blk.new (tabTo 0) 212 w1) (by rw [Xei,Xei]) Xgi (by simp [tabTo,Value.oneCell']) ?_;intro w2 hb2 hO2;have B2:=Th hb2;have O2:=Th ((O1.out.alloc _).trans hO2 (fun x hx=>by simp at hx;subst hx;exact .inr O1.out.size));clear hb2 hO2))
 go_loopg [6,14] m (fun gk s6 s14 wx=>∃ k:Nat,gk=m-k∧k≤m∧s14=.int .i64 k∧s6=.int .u32 (run r0 (l.take k):Nat)∧wx=w2)
 case atStart =>
  exact ⟨0,rfl,Yc _,rfl,rfl,rfl⟩
 case round =>
  obtain ⟨k,hgk,hk,rfl,rfl,rfl⟩:=hrel;have HGK:=Th hgk;clear hgk
  by_cases hlt:k<m
  ·obtain ⟨b,o,rfl,hb⟩:=HC.out (by omega)
   have c1:=O2.out.cell (hb k hlt) (by simp)
   have hk0:(0:Int)≤k:=by omega
   have hk1:(k:Int)<m:=by omega
   have ER:Hid (run r0 (l.take (k+1))=byte (run r0 (l.take k)) (l.getD k 0)):=by
    show _=_
    rw [Xk (by rw [HM.out];exact hlt),run_snoc,Zf,Zc (by rw [HM.out];exact hlt)];rfl
   have hrl:=run_lt hr0l (l.take k);generalize run r0 (l.take k)=r at *;generalize l.getD k 0=x at *;have EB:=Th (byte_two r x);have hxl:=x.toNat_lt;have hx1:=Xle hrl x;have e1:=Xem r x.toNat hrl (by omega);generalize r ^^^ x.toNat=r1 at *;have N1:=Th (nibble r1);have e2:=Xgq r1 hx1;have hr2:=Xgn hx1 4;generalize steps 4 r1=r2 at *;have N2:=Th (nibble r2);have e3:=Xgq r2 hr2;have d1:∃ q i:Nat,r1 / 16=q∧r1 % 16=i∧(r1:Int) / 16=q∧i<16:=⟨r1 / 16,r1 % 16,rfl,rfl,rfl,by omega⟩;obtain ⟨q1,i1,hq1,hi1,f1,g1⟩:=d1;have d2:∃ q i:Nat,r2 / 16=q∧r2 % 16=i∧(r2:Int) / 16=q∧i<16:=⟨r2 / 16,r2 % 16,rfl,rfl,rfl,by omega⟩
   obtain ⟨q2,i2,hq2,hi2,f2,g2⟩:=d2;have t1:=B2.out.cell i1;rw [Xga _ _ g1,if_pos g1] at t1;have t2:=B2.out.cell i2;rw [Xga _ _ g2,if_pos g2] at t2;have n1:=N1.out;have n2:=N2.out;rw [hq1,hi1] at n1;rw [hq2,hi2] at n2;rw [hi1] at e2;rw [hi2] at e3;have sl1:=Xgn (r:=i1) (by omega) 4;have sl2:=Xgn (r:=i2) (by omega) 4;generalize steps 4 i1=v1 at *;generalize steps 4 i2=v2 at *;have e4:=Xem q1 v1 (by omega) sl1;have e5:=Xem q2 v2 (by omega) sl2;rw [n1] at e4;have HE5:=Th n2;generalize q2 ^^^ v2=r3 at *;clear hb N1 N2 n1 n2 hq1 hi1 hq2 hi2
   have g1i:(i1:Int)<16:=by omega
   have g2i:(i2:Int)<16:=by omega
   have g10:(0:Int)≤i1:=by omega
   have g20:(0:Int)≤i2:=by omega
   go_wp2_with fail
   go_roundg (m-(k+1))
   case measure=>have:=HGK.out;omega
   case rel=>exact ⟨k+1,rfl,by omega,by go_num,by rw [ER.out,←EB.out,←HE5.out],rfl⟩
  ·obtain rfl:k=m:=by omega
   rw [Ya (by rw [HM.out];exact Zq _)];have hrl:=run_lt hr0l l;obtain ⟨r,hr⟩:∃ r,run r0 l=r:=⟨_,rfl⟩;rw [hr] at hrl ⊢;have HR:=Th hr;clear hr;have ec:=Xoh r hrl
   go_wp2_with fail
   go_ret;rw [HR.out];exact ⟨rfl,O2.out⟩
theorem fsum_any {w:World} {v:Value} {l:List UInt8} (h:Xae w v l) (hl:l.length≤1048576) :
  Calls prog 106 #[v] w fun e w'=>e=.returned (.int .u32 (sum l:Nat))∧Only [] w w':=by
 have A:=add_any h hl 0 (by decide);have e:(4294967295-run (4294967295-0) l:Nat)=sum l:=rfl;rw [e] at A;obtain ⟨ao,cap,rfl,hc⟩:=h;clear hc;generalize sum l=s at *
 go_enter func106,ntmps106
 go_wp2_with (go_at_call 127;refine A.mono ?_;rintro e w1 ⟨rfl,hO1⟩;have O1:=Th hO1;clear hO1)
 go_ret;exact ⟨rfl,O1.out⟩
end Go.Proofs.YtiijokopcgnokaaGreat.C
