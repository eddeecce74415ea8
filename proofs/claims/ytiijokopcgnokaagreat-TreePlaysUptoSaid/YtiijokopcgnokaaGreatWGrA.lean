import Derived.Test.YtiijokopcgnokaaGreatWTnC
set_option maxRecDepth 100000
set_option maxHeartbeats 2000000
set_option linter.unusedSimpArgs false
set_option linter.unusedVariables false
namespace Go.Proofs.YtiijokopcgnokaaGreat.T
open Go Go.RowKit D B C G P H Tryz
theorem Xmy : ∀ l k:List UInt8,Op.bytesLess l k=decide (cmpB l k<0)
 | [],[]=>rfl
 | [],_ :: _=>rfl
 | _ :: _,[]=>rfl
 | a :: l,b :: k=>by
  have ih:=Xmy l k;unfold cmpB Op.bytesLess;rw [ih]
  by_cases h1:a.toNat<b.toNat
  ·have h2:a<b:=UInt8.lt_iff_toNat_lt.2 h1
   rw [if_pos h1]
   simp [h2]
  ·have h2:¬a<b:=fun h=>h1 (UInt8.lt_iff_toNat_lt.1 h)
   rw [if_neg h1]
   by_cases h3:b.toNat<a.toNat
   ·have h4:¬a=b:=fun e=>by subst e;omega
    rw [if_pos h3]
    simp [h2,h4]
   ·have h4:a=b:=UInt8.toNat_inj.1 (by omega)
    rw [if_neg h3]
    simp [h2,h4]
theorem Xnt (l:List UInt8):(⟨l.toArray⟩:ByteArray).toList=l:=by rw [Lib.toList_data]
def ltP (a b:Pr):Bool:=decide (ordP a b<0)
theorem lt_parts (p q:Pr):ltP p q=(Op.bytesLess (⟨p.1.toArray⟩:ByteArray).toList (⟨q.1.toArray⟩:ByteArray).toList || ((⟨p.1.toArray⟩:ByteArray).toList == (⟨q.1.toArray⟩:ByteArray).toList && decide ((p.2:Int)<q.2))):=by
 rw [Xnt,Xnt,Xmy];have h:=lt_iff (a:=p) (b:=q);unfold lt at h;unfold ltP
 by_cases h1:cmpB p.1 q.1<0
 ·rw [decide_eq_true (h.2 (.inl h1)),decide_eq_true h1];rfl
 ·rw [decide_eq_false h1,Bool.false_or]
  by_cases h2:p.1=q.1
  ·by_cases h3:p.2<q.2
   ·rw [decide_eq_true (h.2 (.inr ⟨h2,h3⟩)),decide_eq_true (show (p.2:Int)<q.2 by omega)]
    simp [h2]
   ·have h4:¬ordP p q<0:=fun h5=>by
     rcases h.1 h5 with h6 | h6
     ·exact h1 h6
     ·exact h3 h6.2
    rw [decide_eq_false h4,decide_eq_false (show ¬(p.2:Int)<q.2 by omega)];simp
  ·have h4:¬ordP p q<0:=fun h5=>by
    rcases h.1 h5 with h6 | h6
    ·exact h1 h6
    ·exact h2 h6.1
   rw [decide_eq_false h4]
   simp [h2]
theorem Xhj {w:World} {p q:KV} (h1:Xae w p.1 p.2.1) (h2:Xae w q.1 q.2.1) :
  Calls prog 45 #[.agg #[p.1,.int .u64 p.2.2],.agg #[q.1,.int .u64 q.2.2]] w fun e w'=>e=.returned (.bool (ltP p.2 q.2))∧Only [] w w':=by
 have LP:=Th (lt_parts p.2 q.2);obtain ⟨a1,k1,e1,_⟩:=id h1;obtain ⟨a2,k2,e2,_⟩:=id h2;have OA:Only [] w ((w.alloc (.cells #[.slice a1 p.2.1.length k1,.int .u64 p.2.2] 43)).alloc (.cells #[.slice a2 q.2.1.length k2,.int .u64 q.2.2] 43)):=((Only.refl _ _).alloc _).alloc _;have c1:=Xbt (Xam h1 OA);have c2:=Xbt (Xam h2 OA);rw [e1] at c1 ⊢;rw [e2] at c2 ⊢;have IC:=Xbh;clear h1 h2 e1 e2 OA
 go_enter func45,ntmps45
 go_wp2_with fail
 all_goals (
  go_ret;refine ⟨?_,((Only.refl _ _).alloc _).alloc _⟩;rw [LP.out]
  simp_all [Xnt])
theorem at_any {w:World} {v:Value} {L:List KV} {q:KV} {j:Nat} {b:Bool} (h:PrsAt w v L) (hq:Xae w q.1 q.2.1) (hU:Up (L.map (·.2))) (hl:L.length≤1000000) (hj:low (L.map (·.2)) q.2=j) (hb:has (L.map (·.2)) q.2=b) :
  Calls prog 19 #[v,.agg #[q.1,.int .u64 q.2.2]] w fun e w'=>e=.returned (.tuple #[.int .i64 (j:Nat),.bool b])∧Only [] w w':=by
 obtain ⟨⟨ao,cap,rfl,hcap,hrow⟩,hkeys⟩:=h;obtain ⟨a2,k2,e2,_⟩:=id hq
 have hjl:j≤L.length:=by rw [←hj];have:=Xet (L.map (·.2)) q.2;rwa [Zl] at this
 have ROW:Hid (∀ i,i<L.length→∃ g o,ao=some ⟨g,o,none⟩∧∃ a n k x,w.cell? ⟨g,o+i*2,none⟩=some (.slice a n k)∧w.cell? ⟨g,o+i*2+1,none⟩=some (.int .u64 x) ∧
   (∀ w1,Only [] w w1→Calls prog 45 #[.agg #[.slice a n k,.int .u64 x],.agg #[q.1,.int .u64 q.2.2]] w1 fun e w'=>e=.returned (.bool (decide (i<j)))∧Only [] w1 w') ∧
   (i=j→∀ w1,Only [] w w1→Calls prog 45 #[.agg #[q.1,.int .u64 q.2.2],.agg #[.slice a n k,.int .u64 x]] w1 fun e w'=>e=.returned (.bool (!b))∧Only [] w1 w')):=by
  intro i hi;obtain ⟨g,o,rfl,hc⟩:=hrow (by omega);have hp:=Zc hi;obtain ⟨c0,c1⟩:=hc i _ hp;have hby:=hkeys _ (Zm hp);obtain ⟨a,k,e1,_⟩:=id hby;rw [e1] at c0
  have hE:(L.map (·.2))[i]?=some L[i].2:=by rw [Zr,hp];rfl
  obtain ⟨hil,hEi⟩:=Zh.1 hE;refine ⟨g,o,rfl,a,_,k,_,c0,c1,fun w1 hO=>?_,fun hij w1 hO=>?_⟩
  ·have h1:=Xhj (w:=w1) (p:=L[i]) (q:=q) (Xam hby hO) (Xam hq hO)
   rw [e1] at h1
   have h2:ltP L[i].2 q.2=decide (i<j):=by
    unfold ltP
    refine decide_eq_decide.2 ?_
    constructor
    ·intro h3
     refine Nat.lt_of_not_le fun h4=>?_
     exact Xfs (x:=q.2) hU (by omega) hil (by rw [hEi];exact h3)
    ·intro h3
     have:=Xft (l:=L.map (·.2)) (x:=q.2) (i:=i) (by omega);rw [hEi] at this;exact this
   rw [h2] at h1;exact h1
  ·have h1:=Xhj (w:=w1) (p:=q) (q:=L[i]) (Xam hq hO) (Xam hby hO)
   rw [e1] at h1
   have h2:ltP q.2 L[i].2 = !b:=by
    have hn:¬lt L[i].2 q.2:=by
     have:=Xfs (x:=q.2) hU (i:=i) (by omega) hil
     rwa [hEi] at this
    unfold has at hb;rw [hj,←hij,hE] at hb;rw [←hb];unfold ltP
    rcases Xiu q.2 L[i].2 with h3 | h3 | h3
    ·rw [decide_eq_true (show ordP q.2 L[i].2<0 from h3)]
     have:¬L[i].2=q.2:=fun e=>lt_irrefl _ (e ▸ h3)
     simp [this]
    ·have h4:¬ordP q.2 L[i].2<0:=by rw [Xgl.2 h3];decide
     rw [decide_eq_false h4]
     simp [h3]
    ·exact absurd h3 hn
   rw [h2] at h1;exact h1
 have HB:Hid (j=L.length→b=false):=fun h1=>by
  rw [←hb];unfold has;rw [hj,h1,Xb (by rw [Zl];exact Zq _)]
  rfl
 obtain ⟨n,hn⟩:∃ n,L.length=n:=⟨_,rfl⟩;rw [hn] at ROW HB hcap hl hjl;rw [hn];obtain ⟨qn,hqn⟩:∃ qn,q.2.1.length=qn:=⟨_,rfl⟩;obtain ⟨qx,hqx⟩:∃ qx,q.2.2=qx:=⟨_,rfl⟩;rw [hqn] at e2;rw [e2,hqx] at ROW;rw [e2,hqx];have IC:=Xbh;have BX:=Blk.new [.slice a2 qn k2,.int .u64 qx] 43 w;obtain ⟨w0,hw0⟩:∃ w0,w.alloc (.cells #[.slice a2 qn k2,.int .u64 qx] 43)=w0:=⟨_,rfl⟩;have HW0:=Th hw0
 have O0:Hid (Only [] w w0):=by show Only _ _ _;rw [←hw0];exact (Only.refl _ _).alloc _
 rw [show w.alloc (.cells [.slice a2 qn k2,.int .u64 qx].toArray 43)=w0 from hw0] at BX;have BX:=Th BX;clear hrow hkeys hq hU hj hb hn hqn hqx e2 hw0
 go_enter func19,ntmps19
 go_wp2_with fail
 rw [HW0.out]
 go_loopg [6] n (fun gk s6 wr=>∃ i:Nat,gk=n-i∧i≤j∧s6=.int .i64 i∧Only [] w0 wr)
 case atStart=>exact ⟨0,rfl,Yc _,rfl,Only.refl _ _⟩
 case round =>
  obtain ⟨i,hgk,hij,rfl,hO⟩:=hrel;have HGK:=Th hgk;have OR:=Th hO;clear hgk hO;have x0:=(OR.out.blk BX.out (by simp)).cell 0;have x1:=(OR.out.blk BX.out (by simp)).cell 1;simp only [Zb,Zd] at x0 x1
  have l0:∀ y:Later wr,y.v.cell? ⟨w.heap.size,0,none⟩=some (.slice a2 qn k2):=fun y=>y.cell x0
  have l1:∀ y:Later wr,y.v.cell? ⟨w.heap.size,1,none⟩=some (.int .u64 qx):=fun y=>y.cell x1
  clear x0 x1
  by_cases hin:i<n
  ·have hin':(i:Int)<n:=by omega
   have hd:decide ((i:Int)<n)=true:=decide_eq_true hin';obtain ⟨g,o,rfl,a,m,k,x,c0,c1,hC,hD⟩:=ROW.out i hin;have OW:Only [] w wr:=O0.out.trans OR.out (by simp);have c0':=OW.cell c0 (by simp);have c1':=OW.cell c1 (by simp)
   have l2:∀ y:Later wr,y.v.cell? ⟨g,o+i*2,none⟩=some (.slice a m k):=fun y=>y.cell c0'
   have l3:∀ y:Later wr,y.v.cell? ⟨g,o+i*2+1,none⟩=some (.int .u64 x):=fun y=>y.cell c1'
   have CL:Hid (∀ y:Later wr,Calls prog 45 #[.agg #[.slice a m k,.int .u64 x],.agg #[.slice a2 qn k2,.int .u64 qx]] y.v fun e w'=>e=.returned (.bool (decide (i<j)))∧∃ z:Later wr,w'=z.v):=fun y=>Calls.later (fun w1 hO=>hC w1 (OW.trans hO (by simp))) y
   have CD:Hid (i=j→∀ y:Later wr,Calls prog 45 #[.agg #[.slice a2 qn k2,.int .u64 qx],.agg #[.slice a m k,.int .u64 x]] y.v fun e w'=>e=.returned (.bool (!b))∧∃ z:Later wr,w'=z.v):=fun hij y=>Calls.later (fun w1 hO=>hD hij w1 (OW.trans hO (by simp))) y
   have OWH:=Th OW;clear c0 c1 c0' c1' hC hD OW
   by_cases hlt:i<j
   ·have hdl:decide (i<j)=true:=decide_eq_true hlt
    rw [hdl] at CL;clear hdl CD
    go_upto_region 2 with fail
    refine Xaa (Only.refl _ _) (by kernel_rfl) (by kernel_rfl) ?_
    repeat (go_big_quiet_step ((go_at_call 45;exact CL.out _)))
    refine wpQuiet_nil ?_
    rintro _ ⟨xq,rfl⟩
    go_wp2_with fail
    go_roundg (n-(i+1))
    case measure=>have:=HGK.out;omega
    case rel=>exact ⟨i+1,rfl,by omega,by go_num,OR.out.trans xq.h (by simp)⟩
   ·have hij2:i=j:=by omega
    have hdl:decide (i<j)=false:=decide_eq_false hlt;rw [hdl] at CL;have HIJ:=Th hij2;clear hdl hij2 hlt hij
    go_upto_region 2 with fail
    refine Xaa (Only.refl _ _) (by kernel_rfl) (by kernel_rfl) ?_
    repeat (go_big_quiet_step ((go_at_call 45;exact CL.out _)))
    refine wpQuiet_nil ?_
    rintro _ ⟨xq,rfl⟩
    go_upto_region 4 with fail
    have CD2:=Th (CD.out HIJ.out)
    refine Xaa xq.h (by kernel_rfl) (by kernel_rfl) ?_
    repeat (go_big_quiet_step ((go_at_call 45;exact CD2.out _)))
    refine wpQuiet_nil ?_
    rintro _ ⟨xz,rfl⟩
    go_wp2_with fail
    go_ret2;exact ⟨by rw [HIJ.out];simp,OWH.out.trans xz.h (by simp)⟩
  ·have hinn:i=n:=by omega
   have hjn:j=n:=by omega
   have hd:decide ((i:Int)<n)=false:=decide_eq_false (by omega);have hb:=HB.out hjn;subst hb;have HIN:=Th (show i=j by omega);clear hinn hjn hij
   go_upto_region 2 with fail
   refine Xaa (Only.refl _ _) (by kernel_rfl) (by kernel_rfl) ?_
   repeat (go_big_quiet_step (fail))
   refine wpQuiet_nil ?_
   rintro _ ⟨xq,rfl⟩
   go_upto_region 4 with fail
   refine Xaa xq.h (by kernel_rfl) (by kernel_rfl) ?_
   repeat (go_big_quiet_step (fail))
   refine wpQuiet_nil ?_
   rintro _ ⟨xz,rfl⟩
   go_wp2_with fail
   go_ret2;exact ⟨by rw [HIN.out];rfl,(O0.out.trans OR.out (by simp)).trans xz.h (by simp)⟩
end Go.Proofs.YtiijokopcgnokaaGreat.T
