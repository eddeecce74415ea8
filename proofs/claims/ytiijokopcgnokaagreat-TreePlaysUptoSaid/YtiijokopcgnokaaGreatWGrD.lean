import Derived.Test.YtiijokopcgnokaaGreatWGrB
import Derived.Test.YtiijokopcgnokaaGreatWGrC
import Derived.Test.YtiijokopcgnokaaGreatWToH
set_option linter.unusedSimpArgs false
set_option linter.unusedVariables false
namespace Go.Proofs.YtiijokopcgnokaaGreat.T
open Go Go.RowKit D B C G P H
theorem lenE_take {E:List Pr} {i:Nat} {e:Pr} (h:E[i]?=some e):lenE (E.take (i+1))=lenE (E.take i)+e.1.length:=by
 rw [Xg,h]
 simp [lenE]
theorem lenE_takeLe (E:List Pr) (i:Nat):lenE (E.take i)≤lenE E:=by
 have:lenE E=lenE (E.take i)+lenE (E.drop i):=by rw [←Xcd,Yf]
 omega
set_option maxRecDepth 100000 in
set_option maxHeartbeats 4000000 in
theorem pagesL_any {w:World} {p k tb root H:Nat} {M:List Nat} {u:List Bool} {pg:Nat→List UInt8} {T:Tr H} {v:Value} {L:List KV} (hP:PoolV w p M u pg k) (hT:Xax w tb p root) (htb:tb∉M) (hI:InPages u pg root T) (hk:k+2*(nodes H T).length≤1000000) (he:(entsT T).length≤800000)
  (hv:PrsAt w v L) (hoff:∀ k,v.ownBlock=some k→k∉M) (hl:L.length≤100000) (hle:lenE (L.map (·.2))≤100000000) (hm:(nodes H T).length≤mostP (L.map (·.2))) (hm2:(nodes H T).length≤100000) :
  Calls Tryz.prog 20 #[.pointer (some ⟨p,0,none⟩),.pointer (some ⟨tb,0,none⟩),v] w fun e w'=>∃ M',e=.returned (.bool true)∧PoolV w' p M' u pg (k+2*(nodes H T).length)∧Step M M' w w':=by
 have PT:=Th (pagesT_any hP hT htb hI hk (by omega) he);have HU:=Th (fun (n:Nd) (hn:n∈nodes H T)=>hI.page n hn);have HTOP:Hid (∃ n∈nodes H T,n.id=(root:Nat)):=⟨T.top,by simp [nodes],by rw [Tr.top_id];exact hI.top⟩
 have HT:=Th hT;have HTB:=Th htb;have HPZ:=Th hP.size;obtain ⟨⟨ao,cap,rfl,hcap,hrow⟩,hkeys⟩:=hv
 have ROW:Hid (∀ i,i<L.length→∃ g o e,ao=some ⟨g,o,none⟩∧(L.map (·.2))[i]?=some e∧(∃ a k,w.cell? ⟨g,o+i*2,none⟩=some (.slice a e.1.length k))∧g∉M):=fun i hi=>by
  obtain ⟨g,o,rfl,hc⟩:=hrow (by omega);have hp:=Zc hi;obtain ⟨c0,_⟩:=hc i _ hp;obtain ⟨a,k2,e1,_⟩:=id (hkeys _ (Zm hp));rw [e1] at c0;exact ⟨g,o,L[i].2,rfl,by rw [Zr,hp];rfl,⟨a,k2,c0⟩,hoff g rfl⟩
 have LE:Hid (lenE (L.map (·.2))≤100000000):=hle
 have MST:Hid ((nodes H T).length≤if L.length=0 then 1 else 4+lenE (L.map (·.2)) / 100+L.length / 4):=by
  show _≤_;unfold mostP at hm;rw [Zl] at hm;exact hm
 have N1:Hid (1≤(nodes H T).length):=List.length_pos_of_mem (show T.top∈nodes H T by simp [nodes]);have N2:Hid ((nodes H T).length≤100000):=hm2;obtain ⟨l,hll⟩:∃ l,L.length=l:=⟨_,rfl⟩;rw [hll] at ROW MST hl hcap;rw [hll]
 have LL:Hid ((L.map (·.2)).length=l):=by show _=_;rw [Zl];exact hll
 clear hP hT htb hI hk he hrow hkeys hoff hle hm hm2 hll;generalize L.map (·.2)=E at *;generalize (nodes H T).length=N at *
 go_enter Tryz.func20,Tryz.ntmps20
 go_upto_region 5 with (go_at_call 46;refine PT.out.mono ?_;rintro e w1 ⟨v1,M1,S,rfl,hp1,hn1,hl1,hm1,hs1⟩;have P1:=Th hp1;have NR:=Th hn1;have SL:=Th hl1;have SM:=Th hm1;have S1:=Th hs1;clear hp1 hn1 hl1 hm1 hs1)
 obtain ⟨sg,sc,rfl,hscap,_⟩:=NR.out.form;rw [SL.out]
 have hls:(0:Int)≤l:=by omega
 go_wp2_with fail
 go_loopg [9,10] l (fun gk s9 s10 wr=>∃ i:Nat,gk=l-i∧i≤l∧s9=.int .i64 (lenE (E.take i):Nat)∧s10=.int .i64 i∧wr=w1)
 case atStart=>exact ⟨0,rfl,Yc _,rfl,rfl,rfl⟩
 case round =>
  obtain ⟨i,hgk,hi,rfl,rfl,hwr⟩:=hrel;obtain rfl:w1=_:=hwr.symm;have HGK:=Th hgk;clear hgk
  by_cases hlt:i<l
  ·have hlt':(i:Int)<l:=by omega
   obtain ⟨g,o,e,rfl,he,⟨a,k2,hc⟩,hgM⟩:=ROW.out i hlt;have hc1:=S1.out.1.cell hc hgM;have hle1:=lenE_take he;have hle2:=lenE_takeLe E (i+1);have hle3:=LE.out;have HL1:=Th hle1
   have hb1:lenE (E.take i)+e.1.length≤100000000:=by omega
   generalize lenE (E.take i)=z at *;generalize e.1.length=en at *;clear hle1 hle2 hle3 hc he
   go_wp2_with fail
   go_roundg (l-(i+1))
   case measure=>have:=HGK.out;omega
   case rel=>exact ⟨i+1,rfl,by omega,by rw [HL1.out];go_num,by go_num,rfl⟩
  ·have hil:i=l:=by omega
   subst hil
   have hnlt:¬(i:Int)<i:=by omega
   have EL:Hid (lenE (E.take i)=lenE E):=by show _=_;rw [Ya (by rw [LL.out];exact Zq _)]
   rw [EL.out];have US:=Th P1.out.usedRow;obtain ⟨z,hz⟩:∃ z,lenE E=z:=⟨_,rfl⟩;rw [hz] at MST LE;rw [hz];clear hz hlt hi EL
   go_upto_region 11 with (go_at_call 21;refine US.out.mono ?_;rintro e w2 ⟨uo,uc,rfl,hr2,hO2⟩;have R2:=Th hr2;have O2:=Th hO2;clear hr2 hO2)
   obtain ⟨un,hun⟩:∃ un,(usedN u).length=un:=⟨_,rfl⟩;have UN:=Th hun
   have UC:Hid (∀ (j x:Nat),(usedN u)[j]?=some x→∃ ug,uo=some ⟨ug,0,none⟩∧w2.cell? ⟨ug,j,none⟩=some (.int .i64 (x:Nat))):=fun j x hj=>by
    have hjl:=(Zh.1 hj).1;obtain ⟨ao2,cap2,he2,_,h3⟩:=(RowOn.of R2.out).shape;obtain ⟨ug,hug,hc⟩:=h3 (by omega);simp only [Value.slice.injEq] at he2;refine ⟨ug,by rw [he2.1,hug],?_⟩;rw [hc j (by omega)];unfold numsC
    rw [Zr,hj];rfl
   have SC:Hid (∀ (j s:Nat),S[j]?=some s→w2.cell? ⟨sg,j,none⟩=some (.int .i64 (s:Nat))):=fun j s hj=>by
    obtain ⟨g2,c2,he2,_,hc⟩:=NR.out.form;simp only [Value.slice.injEq,Zw,Addr.mk.injEq,and_true] at he2;rw [he2.1];exact O2.out.cell (hc j s hj) (by simp)
   have SU:Hid (∀ s∈S,s∈usedN u):=fun s hs=>by
    obtain ⟨n,hn,e⟩:=(SM.out s).1 hs;obtain ⟨id,e2,hu,_⟩:=HU.out n hn
    obtain rfl:s=id:=by omega
    exact usedN_mem.2 hu
   have hunb:un≤65536:=by
    have h1:=Xpw u;have h2:=HPZ.out;omega
   have RS:Hid (root∈S):=(SM.out root).2 HTOP.out
   have TR:Hid (∀ y:Later w2,Calls Tryz.prog 10 #[.pointer (some ⟨tb,0,none⟩)] y.v fun e w'=>e=.returned (.int .i64 root)∧∃ y':Later w2,w'=y'.v):=fun y=>by
    refine (Xhs (y.h.blk (O2.out.blk (S1.out.1.blk HT.out HTB.out) (by simp)) (by simp))).mono ?_
    rintro e w' ⟨rfl,rfl⟩;exact ⟨rfl,y,rfl⟩
   have hNb:N≤100000:=N2.out;rw [hun];clear hun hnlt hscap
   go_wp2_with fail
   go_loopg [11,13,14,15] N (fun gk s11 s13 s14 s15 wr=>∃ j:Nat,gk=N-j∧j≤N∧s11=.bool (decide (root∈S.take j))∧s13=.int .i64 j∧Only [] w2 wr)
   case atStart=>exact ⟨0,rfl,Yc _,rfl,rfl,Only.refl _ _⟩
   case round =>
    obtain ⟨j,hgk,hjN,rfl,rfl,hOR⟩:=hrel;have HGK2:=Th hgk;have OR:=Th hOR;clear hgk hOR
    have hj0:(0:Int)≤j:=by omega
    by_cases hlt:j<N
    ·have hlt':(j:Int)<N:=by omega
     obtain ⟨s,hs⟩:∃ s,S[j]?=some s:=⟨_,Zc (by rw [SL.out];exact hlt)⟩;have HS:=Th hs
     have STK:Hid (S.take (j+1)=S.take j++[s]):=by show _=_;rw [Xg,hs];rfl
     clear hs
     go_wp2_with fail
     obtain ⟨w4,rfl⟩:∃ w4,w4=wr:=⟨wr,rfl⟩
     go_loopg [14,15] un (fun gk s14 s15 wr=>∃ q:Nat,gk=un-q∧q≤un∧s14=.bool (decide (s∈(usedN u).take q))∧s15=.int .i64 q∧Only [] w2 wr)
     case atStart=>exact ⟨0,rfl,Yc _,rfl,rfl,OR.out⟩
     case round =>
      obtain ⟨q,hgk,hqn,rfl,rfl,hOR2⟩:=hrel;have HGK3:=Th hgk;have OR2:=Th hOR2;clear hgk hOR2
      have hq0:(0:Int)≤q:=by omega
      have sc:=OR2.out.cell (SC.out j s HS.out) (by simp)
      have l0:∀ y:Later wr,y.v.cell? ⟨sg,j,none⟩=some (.int .i64 s):=fun y=>y.cell sc
      by_cases hlq:q<un
      ·have hlq':(q:Int)<un:=by omega
       obtain ⟨x,hx⟩:∃ x,(usedN u)[q]?=some x:=⟨_,Zc (by rw [UN.out];exact hlq)⟩;obtain ⟨ug,rfl,hxc⟩:=UC.out q x hx;have xc:=OR2.out.cell hxc (by simp)
       have l1:∀ y:Later wr,y.v.cell? ⟨ug,q,none⟩=some (.int .i64 x):=fun y=>y.cell xc
       have UTK:Hid ((usedN u).take (q+1)=(usedN u).take q++[x]):=by show _=_;rw [Xg,hx];rfl
       clear hx hxc xc sc;obtain ⟨bf,hbf⟩:∃ bf,decide (s∈(usedN u).take q)=bf:=⟨_,rfl⟩;rw [hbf];have BF:=Th hbf;clear hbf
       have NX:Hid (decide (s∈(usedN u).take (q+1))=(bf || decide (x=s))):=by
        show _=_;rw [UTK.out,←BF.out]
        by_cases h1:s∈(usedN u).take q
        ·simp [h1]
        ·by_cases h2:x=s
         ·simp [h2]
         ·have h3:¬s=x:=fun e=>h2 e.symm
          simp [h1,h2,h3]
       go_upto_region 18 with fail
       cases bf with
       | true =>
        refine Xaa (Only.refl _ _) (by kernel_rfl) (by kernel_rfl) ?_
        repeat (go_big_quiet_step (fail))
        refine wpQuiet_nil ?_
        rintro _ ⟨xq,rfl⟩
        go_wp2_with fail
        go_roundg (un-(q+1))
        case measure=>have:=HGK3.out;omega
        case rel=>exact ⟨q+1,rfl,by omega,by rw [NX.out];rfl,by go_num,OR2.out.trans xq.h (by simp)⟩
       | false =>
        by_cases hxs:x=s
        ·have hd:((x:Int) == (s:Int))=true:=by simp [hxs]
         have hd2:(x == s)=true:=by simp [hxs]
         have HXS:=Th hxs;clear hxs
         refine Xaa (Only.refl _ _) (by kernel_rfl) (by kernel_rfl) ?_
         repeat (go_big_quiet_step (fail))
         refine wpQuiet_nil ?_
         rintro _ ⟨xq,rfl⟩
         go_wp2_with fail
         go_roundg (un-(q+1))
         case measure=>have:=HGK3.out;omega
         case rel=>exact ⟨q+1,rfl,by omega,by rw [NX.out,decide_eq_true HXS.out];rfl,by go_num,OR2.out.trans xq.h (by simp)⟩
        ·have hd:((x:Int) == (s:Int))=false:=by simp;omega
         have hd2:(x == s)=false:=by simp [hxs]
         have HXS:=Th hxs;clear hxs
         refine Xaa (Only.refl _ _) (by kernel_rfl) (by kernel_rfl) ?_
         repeat (go_big_quiet_step (fail))
         refine wpQuiet_nil ?_
         rintro _ ⟨xq,rfl⟩
         go_wp2_with fail
         go_roundg (un-(q+1))
         case measure=>have:=HGK3.out;omega
         case rel=>exact ⟨q+1,rfl,by omega,by rw [NX.out,decide_eq_false HXS.out];rfl,by go_num,OR2.out.trans xq.h (by simp)⟩
      ·have hqe:q=un:=by omega
       have hbf:decide (s∈(usedN u).take q)=true:=by
        rw [Ya (by rw [UN.out];omega)];exact decide_eq_true (SU.out s (Zm HS.out))
       rw [hbf]
       have hnlq:¬(q:Int)<un:=by omega
       clear hbf hqe hlq hqn l0
       go_upto_region 19 with fail
       go_cut [80] from 63 to 80 (fun s80 wx=>s80=.bool false∧Only [] w2 wx)
       case first =>
        by_cases hj:0<j
        ·obtain ⟨s0,hs0⟩:∃ s0,S[j-1]?=some s0:=⟨_,Zc (by rw [SL.out];omega)⟩
         have hlt0:s0<s:=by
          obtain ⟨h1,h2⟩:=Zh.1 hs0;obtain ⟨h3,h4⟩:=Zh.1 HS.out;rw [←h2,←h4];exact Yy.1 NR.out.ris (j-1) j h1 h3 (by omega)
         have sc0:=OR2.out.cell (SC.out (j-1) s0 hs0) (by simp)
         have l0:∀ y:Later wr,y.v.cell? ⟨sg,j,none⟩=some (.int .i64 s):=fun y=>y.cell sc
         have l1:∀ y:Later wr,y.v.cell? ⟨sg,j-1,none⟩=some (.int .i64 s0):=fun y=>y.cell sc0
         have hw:IntKind.i64.wrap ((j:Int)-1)=((j-1:Nat):Int):=by rw [Yi];omega
         have hjl:((j-1:Nat):Int)<N:=by omega
         have hd1:decide ((j:Int) > 0)=true:=decide_eq_true (by omega);have hd2:decide (0<j)=true:=decide_eq_true hj;have hd3:decide ((s0:Int)≥s)=false:=decide_eq_false (by omega);have hd4:decide (s≤s0)=false:=decide_eq_false (by omega)
         refine Xaa (Only.refl _ _) (by kernel_rfl) (by kernel_rfl) ?_
         repeat (go_big_quiet_step (fail))
         refine wpQuiet_nil ?_
         rintro _ ⟨xq,rfl⟩
         go_wp2_with fail
         go_meet
         case rel=>exact ⟨by first | rfl | simp,OR2.out.trans xq.h (by simp)⟩
        ·have hd1:decide ((j:Int) > 0)=false:=decide_eq_false (by omega)
         have hd2:decide (0<j)=false:=decide_eq_false hj
         refine Xaa (Only.refl _ _) (by kernel_rfl) (by kernel_rfl) ?_
         repeat (go_big_quiet_step (fail))
         refine wpQuiet_nil ?_
         rintro _ ⟨xq,rfl⟩
         go_wp2_with fail
         go_meet
         case rel=>exact ⟨by first | rfl | simp,OR2.out.trans xq.h (by simp)⟩
       case rest =>
        obtain ⟨rfl,hOC⟩:=hcut;have OC:=Th hOC;clear hOC;obtain ⟨bf,hbf⟩:∃ bf,decide (root∈S.take j)=bf:=⟨_,rfl⟩;rw [hbf];have BF:=Th hbf;clear hbf
        have NX:Hid (decide (root∈S.take (j+1))=(bf || decide (s=root))):=by
         show _=_;rw [STK.out,←BF.out]
         by_cases h1:root∈S.take j
         ·simp [h1]
         ·by_cases h2:s=root
          ·simp [h2]
          ·have h3:¬root=s:=fun e=>h2 e.symm
           simp [h1,h2,h3]
        have sc2:=SC.out j s HS.out
        have l0:∀ y:Later w2,y.v.cell? ⟨sg,j,none⟩=some (.int .i64 s):=fun y=>y.cell sc2
        clear sc2
        go_upto_region 21 with fail
        cases bf with
        | true =>
         refine Xaa OC.out (by kernel_rfl) (by kernel_rfl) ?_
         repeat (go_big_quiet_step (fail))
         refine wpQuiet_nil ?_
         rintro _ ⟨xq,rfl⟩
         go_wp2_with fail
         go_roundg (N-(j+1))
         case measure=>have:=HGK2.out;omega
         case rel=>exact ⟨j+1,rfl,by omega,by rw [NX.out];rfl,by go_num,xq.h⟩
        | false =>
         by_cases hxs:s=root
         ·have hd:((s:Int) == (root:Int))=true:=by simp [hxs]
          have hd2:(s == root)=true:=by simp [hxs]
          have HXS:=Th hxs;clear hxs
          refine Xaa OC.out (by kernel_rfl) (by kernel_rfl) ?_
          repeat (go_big_quiet_step ((go_at_call 10;exact TR.out _)))
          refine wpQuiet_nil ?_
          rintro _ ⟨xq,rfl⟩
          go_wp2_with fail
          go_roundg (N-(j+1))
          case measure=>have:=HGK2.out;omega
          case rel=>exact ⟨j+1,rfl,by omega,by rw [NX.out,decide_eq_true HXS.out];rfl,by go_num,xq.h⟩
         ·have hd:((s:Int) == (root:Int))=false:=by simp;omega
          have hd2:(s == root)=false:=by simp [hxs]
          have HXS:=Th hxs;clear hxs
          refine Xaa OC.out (by kernel_rfl) (by kernel_rfl) ?_
          repeat (go_big_quiet_step ((go_at_call 10;exact TR.out _)))
          refine wpQuiet_nil ?_
          rintro _ ⟨xq,rfl⟩
          go_wp2_with fail
          go_roundg (N-(j+1))
          case measure=>have:=HGK2.out;omega
          case rel=>exact ⟨j+1,rfl,by omega,by rw [NX.out,decide_eq_false HXS.out];rfl,by go_num,xq.h⟩
    ·have hjN2:j=N:=by omega
     have hbf:decide (root∈S.take j)=true:=by
      rw [Ya (by rw [SL.out];omega)];exact decide_eq_true RS.out
     rw [hbf]
     have hnl:¬(j:Int)<N:=by omega
     have HJN:=Th hjN2;have hN1:=N1.out;have hms:=MST.out;have hlz:=LE.out;have hdz:(z:Int).tdiv 100=((z / 100:Nat):Int):=rfl;have hdl:(i:Int).tdiv 4=((i / 4:Nat):Int):=rfl;have FIN:Hid (∃ M',PoolV wr p M' u pg (k+2*N)∧Step M M' w wr):=⟨M1,(P1.out.past O2.out).past OR.out,(S1.out.then O2.out).then OR.out⟩;clear hbf hlt hjN
     by_cases hi0:i=0
     ·rw [if_pos hi0] at hms
      have hN:N=1:=by omega
      subst hN
      have hle:(1:Int)≤4+((z / 100:Nat):Int)+((i / 4:Nat):Int):=by omega
      have hg0:decide ((i:Int) > 0)=false:=decide_eq_false (by omega);have hg1:decide (0<i)=false:=decide_eq_false (by omega)
      go_wp2_with fail
      go_ret;exact ⟨rfl,FIN.out⟩
     ·rw [if_neg hi0] at hms
      have hle:(N:Int)≤4+((z / 100:Nat):Int)+((i / 4:Nat):Int):=by omega
      have hg0:decide ((i:Int) > 0)=true:=decide_eq_true (by omega);have hg1:decide (0<i)=true:=decide_eq_true (by omega)
      go_wp2_with fail
      go_ret;exact ⟨rfl,FIN.out⟩
end Go.Proofs.YtiijokopcgnokaaGreat.T
