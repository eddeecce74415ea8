import Derived.Test.YtiijokopcgnokaaGreatWPlF
set_option maxRecDepth 100000
set_option maxHeartbeats 8000000
set_option linter.unusedSimpArgs false
set_option linter.unusedVariables false
namespace Go.Proofs.YtiijokopcgnokaaGreat
namespace T
open Go Go.RowKit D B C G P H Go.Proofs.Tryz
theorem plays_law {w:World} {v0:Value} {l:List StepD} (hv:Xhw w v0 l) (hb:∀ i,(l.getD i stepZ).row.length≤1048576) :
  Calls prog 6 #[v0] w fun e w'=>e=.returned (.bool true)∧Below w.heap.size w w':=by
 have KN:=fun w=>Th (knownT_any w)
 have FE:=fun (w1:World) (hO:Only [] w w1)=>Th (few_any (hv.past hO))
 have SV:=Th hv;have RB:=Th hb;obtain ⟨ao,cap,rfl,hm,_⟩:=hv;clear hb
 cases hf:fewH l with
 | false =>
  as_aux_lemma =>
  rw [hf] at FE;have HF:=Th hf;clear hf
  go_enter func6,ntmps6
  go_wp2_with (first
   | (go_at_call 22;refine (FE _ O1.out).out.mono ?_;rintro e w2 ⟨rfl,rfl⟩)
   | (go_at_call 7;refine (KN _).out.mono ?_;rintro e w1 ⟨rfl,hO⟩;have O1:=Th hO;clear hO))
  go_ret;exact ⟨rfl,O1.out.below (Zq _) (by simp)⟩
 | true =>
  as_aux_lemma =>
  rw [hf] at FE;have hn:l.length≤300∧sumF l l.length≤9000:=of_decide_eq_true hf;have HN:=Th hn
  have MD:=fun w=>Th (madeQ_any (fun _=>True) w 600 (by omega) (by omega))
  have hmk:=make_mcur;generalize hz:mcurZ.toArray=Z at hmk;have HZ:=Th hz;clear hz hf hn hm
  go_enter func6,ntmps6
  go_upto_region 3 with (go_at_call 7;refine (KN _).out.mono ?_;rintro e w1 ⟨rfl,hO⟩;have O1:=Th hO;clear hO)
  go_upto_region 5 with (go_at_call 22;refine (FE _ O1.out).out.mono ?_;rintro e w2 ⟨rfl,rfl⟩)
  clear FE
  go_upto_region 9 with (go_at_call 8;refine (MD _).out.mono ?_;rintro e w2 ⟨p,tb,M,u,pg,rfl,hB,hl,hS⟩;have B2:=Th hB;have S2:=Th (Step.ahead O1.out hS);clear hB hl hS)
  go_upto_region 10 with fail
  obtain ⟨w3,hw3⟩:∃ w3,w2.alloc (.cells Z 59)=w3:=⟨_,rfl⟩
  have O3:Hid (Only [] w2 w3):=by show Only _ _ _;rw [←hw3];exact (Only.refl _ _).alloc _
  have BK:Hid (Blk w3 w2.heap.size mcurZ 59):=by show Blk _ _ _ _;rw [←hw3,←HZ.out];exact Blk.new _ _ _
  rw [hw3];clear hw3;obtain ⟨ck,hck⟩:∃ ck,w2.heap.size=ck:=⟨_,rfl⟩;have CKN:Hid (ck∉M∧w.heap.size≤ck):=⟨fun hm=>by have:=B2.out.pool.lt _ hm;omega,by have:=S2.out.1.size;omega⟩
  rw [hck] at BK;rw [hck];clear hck hmk;have B3:=Th (B2.out.past O3.out);have R3:Hid (PlR w w3 0 tb ck M (.slice none 0 0) [] (fun _=>0)):=⟨EntR.nil _ _,S2.out.then O3.out,fun g hg=>(by cases hg),CKN.out.2,CKN.out.1,⟨_,BK.out,rfl⟩,fun i hi=>by omega,fun i j hi=>by omega,fun i hi=>by omega⟩;clear B2 S2 O1 MD
  go_wp2_with fail
  go_loopg [7] 3 (fun gk s7 wr=>∃ (j:Nat) (cbs:Nat→Nat) (cs:List Value),gk=3-j∧j≤3∧s7=.int .i64 j∧OneQ (fun _=>True) wr p tb 600 M u pg 4 []∧PlR w wr j tb ck M (.slice none 0 0) [] cbs∧Blk wr ck cs 59∧cs.length=15∧∀ t,j*5≤t→t<15→cs[t]?=mcurZ[t]?)
  case atStart=>exact ⟨0,_,mcurZ,rfl,Yc _,rfl,B3.out,R3.out,BK.out,rfl,fun t _ _=>rfl⟩
  case round =>
   obtain ⟨j,cbs,cs,hgk,hj,rfl,hB,hR,hK,hKl,hKz⟩:=hrel;have HGK:=Th hgk;have B:=Th hB;have R:=Th hR;have K:=Th hK;have KL:=Th hKl;have KZ:=Th hKz;clear hgk hB hR hK hKl hKz B3 R3 BK
   by_cases hlt:j<3
   ·have hlt':(j:Int)<3:=by omega
    have hj0:(0:Int)≤j:=by omega
    have SK:=Th (Xnl (w:=wr) (tb:=tb) (M:=M) (kv:=.slice none 0 0) (l:=[]) ⟨none,0,rfl,fun h=>by simp at h⟩ (by simp) B.out.pool.lt)
    go_wp2_with (go_at_call 15;refine SK.out.mono ?_;rintro e w6 ⟨cb,v6,rfl,hC6,hl6,hn6,hO6⟩;have C6:=Th hC6;have L6:=Th hl6;have O6:=Th hO6;clear hC6 hl6 hn6 hO6;obtain ⟨y0,hy0⟩:=(O6.out.blk K.out (by simp)).at (j*5) (by rw [KL.out];omega);have f0:=(O6.out.blk K.out (by simp)).frozen (j*5))
    go_roundg (3-(j+1))
    case measure=>have:=HGK.out;omega
    case rel =>
     have hO:Only [ck] wr (w6.setCell ⟨ck,j*5,none⟩ (.pointer (some ⟨cb,0,none⟩))):=(O6.out.mono (M':=[ck]) (by simp)).setCell (.inl (by simp)) _;have hs6:Only [ck] w6 (w6.setCell ⟨ck,j*5,none⟩ (.pointer (some ⟨cb,0,none⟩))):=(Only.refl _ _).setCell (.inl (by simp)) _;have hk6:=O6.out.blk K.out (by simp);refine ⟨j+1,_,cs.set (j*5) (.pointer (some ⟨cb,0,none⟩)),rfl,by omega,by go_num,B.out.wrote hO ⟨_,K.out⟩ R.out.cko,R.out.sought (i:=j) hO K.out (hk6.set _ _) (by rw [Yz];exact KL.out) (fv:=.slice none 0 0) (lv:=.slice none 0 0) (lx:=0) (fun t ht=>?_) (fun a t ha hne ht=>by rw [Zv (by omega)]) (C6.out.wrote hs6 ⟨_,hk6⟩) rfl (KeyOk.nil _ _) L6.out (fun a ha=>by omega),hk6.set _ _,by rw [Yz];exact KL.out,fun t h1 h2=>?_⟩
     ·rcases Wo t with h0 | h0
      ·subst h0
       rw [Wm,Yr (by rw [KL.out];omega)];rfl
      ·rw [Zv (by omega),KZ.out _ (by omega) (by omega)]
       exact mcurZ_get _ hlt h0 ht
     ·rw [Zv (by omega)]
      exact KZ.out t (by omega) h2
   ·obtain rfl:j=3:=by omega
    have hnl:¬((3:Nat):Int)<3:=by omega
    have J1:Hid (PlJ w wr p ck l 0 tb M u pg (.slice none 0 0) [] cbs):=⟨B.out,R.out,Zq _,Zq _⟩;clear B R K KL KZ;obtain ⟨n,hn⟩:∃ n,l.length=n:=⟨_,rfl⟩;have LN:=Th hn;rw [hn];clear hn hlt hnl
    go_wp2_with fail
    obtain ⟨w4,rfl⟩:∃ w4,w4=wr:=⟨wr,rfl⟩
    go_loopg [4,5,8,9,10,11,12,13,14,15,16,17,18,19,20,21,22,23,24,25,26,27,28,29] n (fun gk s4 s5 s8 s9 s10 s11 s12 s13 s14 s15 s16 s17 s18 s19 s20 s21 s22 s23 s24 s25 s26 s27 s28 s29 wr=>∃ (i tb:Nat) (M:List Nat) (u:List Bool) (pg:Nat→List UInt8) (v:Value) (L:List KV) (cbs:Nat→Nat),gk=n-i∧i≤n∧s8=.int .i64 i∧s4=.pointer (some ⟨tb,0,none⟩)∧v=s5∧PlJ w wr p ck l i tb M u pg v L cbs)
    case atStart=>exact ⟨0,tb,M,u,pg,_,[],cbs,rfl,Yc _,rfl,rfl,rfl,J1.out⟩
    case round =>
     obtain ⟨i,tb,M,u,pg,v,L,cbs,hgk,hi,rfl,rfl,rfl,hJ⟩:=hrel;have HGK:=Th hgk;have J:=Th hJ;clear hgk hJ J1
     by_cases hlt:i<n
     ·have hlt':(i:Int)<n:=by omega
      have hi0:(0:Int)≤i:=by omega
      obtain ⟨ao2,cap2,he,hm,hc⟩:=id SV.out
      injection he with e1 e2 e3
      subst e1;obtain ⟨b,o,rfl,hs⟩:=hc (by rw [LN.out];omega)
      obtain ⟨kv,hk⟩:=hs i (by rw [LN.out];exact hlt);have SL:=Th (sumF_mono l (i:=i+1) (j:=l.length) (by rw [LN.out];omega))
      have SI:Hid (sumF l (i+1)=sumF l i+min (l.getD i stepZ).row.length 400):=rfl;have RL:=Th (RB.out i);obtain ⟨s,hs0⟩:∃ s,l.getD i stepZ=s:=⟨_,rfl⟩;rw [hs0] at hk SI RL;have KBW:=Th hk.bytes.1;replace hk:=hk.past J.out.rest.step.1;have HK:=Th hk;obtain ⟨ka,kc,hkv,_⟩:=id hk.bytes.1;subst hkv;obtain ⟨y0,y1,y2,y3⟩:=hk.c;clear hk hs hc e2 e3 hs0 hm
      go_upto_region 18 with fail
      have BS:=Th (Blk.new [.int .i64 s.what,.int .i64 s.i,.slice ka s.row.length kc,.int .u64 s.x] 61 wr);obtain ⟨w5,hw5⟩:∃ w5,wr.alloc (.cells #[.int .i64 s.what,.int .i64 s.i,.slice ka s.row.length kc,.int .u64 s.x] 61)=w5:=⟨_,rfl⟩
      have O5:Hid (Only [] wr w5):=by show Only _ _ _;rw [←hw5];exact (Only.refl _ _).alloc _
      rw [show wr.alloc (.cells [.int .i64 s.what,.int .i64 s.i,.slice ka s.row.length kc,.int .u64 s.x].toArray 61)=w5 from hw5] at BS;rw [hw5];clear hw5 y0 y1 y2 y3;obtain ⟨sb,hsb⟩:∃ sb,wr.heap.size=sb:=⟨_,rfl⟩;rw [hsb] at BS;rw [hsb];clear hsb;have c0:=BS.out.cell 0;have c1:=BS.out.cell 1;have c2:=BS.out.cell 2;have c3:=BS.out.cell 3;simp only [Zb,Zd] at c0 c1 c2 c3;have KB:Hid (Xae w5 (.slice ka s.row.length kc) s.row):=Xam HK.out.bytes.1 O5.out;have IP:=Xbh;have hwa:Only [] w5 w5.drew:=(Only.refl _ _).drew
      go_cut [10] from 52 to 301 (fun s10 wx=>∃ xb xv,s10=.pointer (some ⟨xb,0,none⟩)∧w5.heap.size≤xb∧Blk wx xb [xv,.int .u64 s.x] 43∧KeyOk wx M (xv,(s.row,s.x))∧Only [] w5 wx)
      case first =>
       as_aux_lemma =>
       refine wp_region_held_drew (S:=fun w'=>Only [] w5 w') (by kernel_rfl) hwa (fun hHeld=>?_)
       refine tkA 0 62 (.pointer (some ⟨sb,2,none⟩)) hHeld ?_
       refine Xaq 1 63 (.slice ka s.row.length kc) rfl rfl (by kernel_rfl) (by kernel_rfl) (by kernel_rfl) (fun _ _ _ h=>h) (Or.inl ⟨by rfl,fun w1 hw1=>by have hw2:=hw1.cell c2 (by simp);go_simp⟩) hHeld ?_
       (try simp only [Act.put,qSa,qSz,qSs])
       refine tkA 3 65 (.pointer (some ⟨sb,3,none⟩)) hHeld ?_
       refine Xaq 4 66 (.int .u64 s.x) rfl rfl (by kernel_rfl) (by kernel_rfl) (by kernel_rfl) (fun _ _ _ h=>h) (Or.inl ⟨by rfl,fun w1 hw1=>by have hw2:=hw1.cell c3 (by simp);go_simp⟩) hHeld ?_
       (try simp only [Act.put,qSa,qSz,qSs])
       refine Xht 2 6 rfl rfl (by kernel_rfl) (by rfl) (by rfl) (fun K hK=>?_) (fun K hK=>?_)
       ·refine Xbl 64 rfl (.const (.slice none 0 0)) (.tmp 63) 22 rfl 5 underlying22 (info_parts B.info_byte) rfl (by decide) (.slice none 0 0) 0 [] rfl ⟨rfl,.inl ⟨rfl,rfl⟩⟩ ka s.row.length kc rfl (u8s s.row) (by rw [Xaf];omega) (Xiy KB.out hwa) (Xba _) (by have:=RL.out;omega) (by decide) ?_
        intro v' w6 hg;have ow:=Xja hg;obtain ⟨xa,xc,rfl⟩:=Xac ow.1;clear hg;have hS6:Only [] w5 w6:=hwa.trans ow.2.2 (by simp)
        refine hK.out _ _ hS6 ?_
        clear hK K hHeld
        (try simp only [Act.put,qSa,qSz,qSs])
        refine tkA 5 67 (.agg #[.slice xa s.row.length xc,.int .u64 s.x]) hS6 ?_
        refine oneA 6 fun K hK=>?_
        go_wp2_with fail
        refine hK.out _ _ (hS6.alloc _) ?_
        clear hK K
        (try simp only [Act.put,qSa,qSz,qSs])
        refine oneA 7 fun K hK=>?_
        refine store_at 43 (.tmp 10) (.tmp 67) rfl rfl w6.heap.size [.slice xa s.row.length xc,.int .u64 s.x] rfl rfl (Blk.new [.slice none 0 0,.int .u64 0] 43 w6) rfl IP (by intro u hu;simp at hu;rcases hu with rfl | rfl <;> rfl) ?_
        intro w8 hb8 hO8;have hS8:Only [] w6 w8:=((Only.refl [] w6).alloc _).trans hO8 (fun y hy=>by simp at hy;subst hy;exact .inr (Zq _))
        have hS58:Only [] w5 w8:=hS6.trans hS8 (by simp);have hx6:w5.heap.size≤w6.heap.size:=hS6.size;have hk8:=(Xgv (M:=M) ow (fun y hy=>Ye (J.out.one.pool.lt y hy) O5.out.size) HK.out.x).past hS8
        refine hK.out _ _ hS58 ?_
        clear hK K
        (try simp only [Act.put,qSa,qSz,qSs])
        refine wpAnyH_done (by kernel_rfl) ?_ _
        (try go_wp2_with fail)
        go_meet
        case rel=>exact ⟨_,_,rfl,hx6,hb8,hk8,hS58⟩
       ·go_wp2_with fail
        have hA:Only [] w5 (w5.drew.alloc (.cells #[.slice none 0 0,.int .u64 0] 43)):=hwa.alloc _
        refine hK.out _ _ hA ?_
        clear hK K hHeld
        (try simp only [Act.put,qSa,qSz,qSs])
        refine oneA 2 fun K hK=>?_
        refine Xbl 64 rfl (.const (.slice none 0 0)) (.tmp 63) 22 rfl 5 underlying22 (info_parts B.info_byte) rfl (by decide) (.slice none 0 0) 0 [] rfl ⟨rfl,.inl ⟨rfl,rfl⟩⟩ ka s.row.length kc rfl (u8s s.row) (by rw [Xaf];omega) (Xiy KB.out hA) (Xba _) (by have:=RL.out;omega) (by decide) ?_
        intro v' w6 hg;have ow:=Xja hg;obtain ⟨xa,xc,rfl⟩:=Xac ow.1;clear hg;have hS6:Only [] w5 w6:=hA.trans ow.2.2 (by simp);have hb6:=ow.2.2.blk (Blk.new [.slice none 0 0,.int .u64 0] 43 w5.drew) (by simp)
        refine hK.out _ _ hS6 ?_
        clear hK K
        (try simp only [Act.put,qSa,qSz,qSs])
        refine tkA 5 67 (.agg #[.slice xa s.row.length xc,.int .u64 s.x]) hS6 ?_
        refine oneA 7 fun K hK=>?_
        refine store_at 43 (.tmp 10) (.tmp 67) rfl rfl w5.heap.size [.slice xa s.row.length xc,.int .u64 s.x] rfl rfl hb6 rfl IP (by intro u hu;simp at hu;rcases hu with rfl | rfl <;> rfl) ?_
        intro w8 hb8 hO8;have hS58:Only [] w5 w8:=hS6.trans hO8 (fun y hy=>by simp at hy;subst hy;exact .inr (Zq _))
        have hk8:=(Xgv (M:=M) ow (fun y hy=>Ye (J.out.one.pool.lt y hy) (Zp O5.out.size hA.size)) HK.out.x).later hO8 (Off.one hb6 (by decide))
        refine hK.out _ _ hS58 ?_
        clear hK K
        (try simp only [Act.put,qSa,qSz,qSs])
        refine wpAnyH_done (by kernel_rfl) ?_ _
        (try go_wp2_with fail)
        go_meet
        case rel=>exact ⟨_,_,rfl,Zq _,hb8,hk8,hS58⟩
      case rest =>
       obtain ⟨xb,xv,rfl,hx5,hbx,hkx,hO⟩:=hcut;have OX:=Th (O5.out.trans hO (by simp));have XN:Hid (wr.heap.size≤xb):=Zp O5.out.size hx5;have BX:=Th hbx;have KX:=Th hkx;obtain ⟨xa,xc,hxv,_⟩:=id hkx.bytes;dsimp only at hxv;subst hxv;have NX:=Th (J.out.one.past OX.out);have RX:=Th (J.out.rest.past OX.out);have SX:=Th (hO.blk BS.out (by simp));have KBX:=Th (Xam KB.out hO);clear hx5 hkx hO hwa c0 c1 c2 c3 KB BS hbx;have x0:=BX.out.cell 0;have x1:=BX.out.cell 1;have c0:=SX.out.cell 0;have c1:=SX.out.cell 1;have c2:=SX.out.cell 2;have c3:=SX.out.cell 3
       simp only [Zb,Zd] at x0 x1 c0 c1 c2 c3;obtain ⟨j,hj⟩:∃ j,low (L.map (·.2)) (s.row,s.x)=j:=⟨_,rfl⟩;obtain ⟨b,hb⟩:∃ b,has (L.map (·.2)) (s.row,s.x)=b:=⟨_,rfl⟩
       have LL:Hid (L.length≤i∧i<n∧n≤300∧sumF l (i+1)≤9000∧lenE (L.map (·.2))≤sumF l i):=by
        show _∧_∧_∧_∧_;have h1:=J.out.len;have h2:=HN.out;have h3:=LN.out;have h4:=SL.out;have h5:=J.out.bulk;omega
       have ca:=at_any (q:=(.slice xa s.row.length xc,(s.row,s.x))) RX.out.ent.prs KX.out.bytes NX.out.up (by have:=LL.out;omega) hj hb;dsimp only at ca;have CA:=Th ca;clear ca;have HJ:=Th hj;have HB:=Th hb
       have RL1:Hid ((s.row.length:Int)≤1048576):=by show _≤_;have:=RL.out;omega
       have XM:Hid (xb∉M):=fun hm=>by have:=J.out.one.pool.lt _ hm;have:=XN.out;omega
       have XV:Hid (v.ownBlock≠some xb):=fun hv=>by have:=J.out.rest.ent.row.lt hv;have:=XN.out;omega
       clear hj hb J
       go_upto_region 20 with (go_at_call 19;refine CA.out.mono ?_;rintro e w6 ⟨rfl,hO⟩;have O6:=Th hO;have d0:=hO.cell c0 (by simp);have d1:=hO.cell c1 (by simp);have d2:=hO.cell c2 (by simp);have d3:=hO.cell c3 (by simp);have z0:=hO.cell x0 (by simp);have z1:=hO.cell x1 (by simp);clear hO)
       clear c0 c1 c2 c3 x0 x1 CA;obtain ⟨lg,hlg⟩:∃ lg,decide (300<(s.row.length:Int))=lg:=⟨_,rfl⟩
       go_upto_region 21 with fail
       have HLG:=Th hlg;clear hlg
       go_upto_region 22 with (at_builtin;refine Xap rfl (.const (.slice none 0 0)) (.tmp 79) 22 rfl 5 underlying22 (info_parts B.info_byte) rfl (by decide) (.slice none 0 0) 0 [] rfl ⟨rfl,.inl ⟨rfl,rfl⟩⟩ ka s.row.length kc rfl (u8s s.row) (by rw [Xaf];omega) (Xiy (Xam KBX.out O6.out) (Only.refl _ _)) (Xba _) (by have:=RL.out;omega) (by decide) ?_;intro v8 w8 hg8;have ow:=Xja hg8;obtain ⟨la,lc,rfl⟩:=Xac ow.1;have LT:=Th ow;have e0:=ow.2.2.cell d0 (by simp);have e1:=ow.2.2.cell d1 (by simp);have e2:=ow.2.2.cell d2 (by simp);have e3:=ow.2.2.cell d3 (by simp);clear hg8 ow d0 d1 d2 d3 z0 z1)
       have NL:=Th (NX.out.past O6.out);have RR:=Th (RX.out.past O6.out);have BL:=Th (O6.out.blk BX.out (by simp));have KL:=Th (KX.out.past O6.out);have XL:Hid (xb<w6.heap.size∧xb∉M):=⟨BL.out.lt,XM.out⟩
       have ML:Hid (∀ y∈M,y<w6.heap.size):=fun y hy=>NL.out.pool.lt y hy
       obtain ⟨jj,hj3,hjj⟩:=which_ok s.i;have JJ3:=Th hj3
       have g0:(0:Int)≤jj:=by omega
       have g1:(jj:Int)<3:=by omega
       go_upto_region 23 with fail
       clear hjj e1 g0 g1;have SL6:=Th (O6.out.blk SX.out (by simp));obtain ⟨what,hwhat⟩:∃ z,s.what=z:=⟨_,rfl⟩;rw [hwhat] at e0;clear hwhat NX RX BX KX SX KBX O5 OX XN XM O6
       have hn3:(n:Int)≤300:=by have:=LL.out;omega
       by_cases hins:what=0∨what=1∨what=2∨what=3
       ·as_aux_lemma =>
        go_upto_if 141 with fail
        go_cut [141] from 142 to 301 (fun s141 wy=>s141=.bool true∧wy=w8)
        case first =>
         rcases hins with rfl | rfl | rfl | rfl
         ·go_wp2_with fail
          go_meet
          case rel=>exact ⟨rfl,rfl⟩
         ·go_wp2_with fail
          go_meet
          case rel=>exact ⟨rfl,rfl⟩
         ·go_wp2_with fail
          go_meet
          case rel=>exact ⟨rfl,rfl⟩
         ·go_wp2_with fail
          go_meet
          case rel=>exact ⟨rfl,rfl⟩
        case rest =>
         obtain ⟨rfl,rfl⟩:=hcut;clear hins;have N8:=Th (NL.out.past LT.out.2.2)
         cases lg with
         | true =>
          as_aux_lemma =>
          have h300:300<s.row.length:=by have:=of_decide_eq_true HLG.out;omega
          have CI:=Th (insert_long (x:=s.x) (tb:=tb) LT.out.1.at h300)
          go_upto_region 43 with (first
           | (go_at_call 11;refine CI.out.mono ?_;rintro e w9 ⟨rfl,hO⟩;have O9:=Th hO;have SP:=Th (Xho (Xad LT.out.1 hO) RL.out);clear hO)
           | (go_at_call 23;refine SP.out.mono ?_;rintro e w10 ⟨rfl,hO⟩;have O10:=Th hO;clear hO))
          have O:Hid (Only [] w6 w10):=(LT.out.2.2.trans O9.out (by simp)).trans O10.out (fun y hy=>.inr (LT.out.2.1 y (Zk.1 hy)));have NXT:Hid (PlJ w w10 p ck l (i+1) tb M u pg v L cbs):=⟨(NL.out.past O.out).more (by rw [Xbp];omega),RR.out.past O.out,by have:=LL.out;omega,by have:=LL.out;have:=SI.out;omega⟩
          go_wp2_with fail
          go_roundg (n-(i+1))
          case measure=>have:=HGK.out;omega
          case rel=>exact ⟨i+1,tb,M,u,pg,_,L,cbs,rfl,by have:=LL.out;omega,by go_num,rfl,rfl,NXT.out⟩
         | false =>
          as_aux_lemma =>
          have h300:s.row.length≤300:=by have:=of_decide_eq_false HLG.out;omega
          have MOST:Hid (mostP (insP (L.map (·.2)) (s.row,s.x))≤94+(i+1) / 4):=Xkd (by
           unfold insP;have h1:=Xet (L.map (·.2)) (s.row,s.x);have h2:=LL.out;rw [Zl] at h1;simp only [Ze,Zz,Zj,Zy,Zl]
           omega) (by rw [lenE_ins];have:=LL.out;have:=SI.out;simp only;omega)
          have CI:Hid (∀ c E',(if has (L.map (·.2)) (s.row,s.x) then (81:Int) else 0)=c→(if has (L.map (·.2)) (s.row,s.x) then L.map (·.2) else insP (L.map (·.2)) (s.row,s.x))=E'→_):=fun c E' hc he=>N8.out.insertC (x:=s.x) (l:=s.row) (kv:=.slice la s.row.length lc) LT.out.1.at h300 KL.out.num trivial (fun _ _=>trivial) MOST.out (by have:=LL.out;omega) (by have:=LL.out;omega) (by have:=LL.out;have:=Xdq (i:=i) (by omega);omega) (by rw [Zl];have:=LL.out;omega) hc he
          cases b with
          | true =>
           as_aux_lemma =>
           have CJ:=Th (CI.out 81 (L.map (·.2)) (by rw [HB.out];rfl) (by rw [HB.out];rfl));clear CI
           go_upto_region 46 with (first
            | (go_at_call 11;refine CJ.out.mono ?_;rintro e w9 ⟨M9,u9,pg9,rfl,hI,hS⟩;have I9:=Th hI;have S9:=Th hS;have SP:=Th (Xho (Xmx LT.out ML.out hS) RL.out);clear hI hS)
            | (go_at_call 23;refine SP.out.mono ?_;rintro e w10 ⟨rfl,hO⟩;have IS:=Th (I9.out.lent LT.out ML.out S9.out hO);clear hO))
           have NXT:Hid (PlJ w w10 p ck l (i+1) tb M9 u9 pg9 v L cbs):=⟨IS.out.1.more (by rw [Xbp];omega),RR.out.step_ IS.out.2,by have:=LL.out;omega,by have:=LL.out;have:=SI.out;omega⟩
           go_wp2_with fail
           go_roundg (n-(i+1))
           case measure=>have:=HGK.out;omega
           case rel=>exact ⟨i+1,tb,M9,u9,pg9,_,L,cbs,rfl,by have:=LL.out;omega,by go_num,rfl,rfl,NXT.out⟩
          | false =>
           as_aux_lemma =>
           have CJ:=Th (CI.out 0 (insP (L.map (·.2)) (s.row,s.x)) (by rw [HB.out];rfl) (by rw [HB.out];rfl));clear CI
           go_upto_region 40 with (first
            | (go_at_call 11;refine CJ.out.mono ?_;rintro e w9 ⟨M9,u9,pg9,rfl,hI,hS⟩;have I9:=Th hI;have S9:=Th hS;have SP:=Th (Xho (Xmx LT.out ML.out hS) RL.out);clear hI hS)
            | (go_at_call 23;refine SP.out.mono ?_;rintro e w10 ⟨rfl,hO⟩;have IS:=Th (I9.out.lent LT.out ML.out S9.out hO);clear hO))
           obtain ⟨m,hm⟩:∃ m,L.length=m:=⟨_,rfl⟩;have LM:=Th hm;have RS:=Th (RR.out.step_ IS.out.2);have hrow:=RS.out.ent.row;rw [hm] at hrow;have ROW:=Th hrow
           have hji:j≤m:=by have:=Xet (L.map (·.2)) (s.row,s.x);rw [Zl,hm,HJ.out] at this;exact this
           have HM:Hid (m≤300):=by show _≤_;have:=LL.out;omega
           have NC:Hid (∀ j u,[Value.slice none 0 0,.int .u64 0][j]?=some u→(w10.alloc (.cells #[.slice none 0 0,.int .u64 0] 43)).cell? ((⟨w10.heap.size,0,none⟩:Addr).add j)=some u):=fun j u hu=>by
            rw [Xah,Yd];exact ((Blk.new [Value.slice none 0 0,.int .u64 0] 43 w10).cell j).trans hu
           clear hrow hm
           go_upto_region 41 with (at_builtin;refine Xlc rfl (.tmp 155) (.tmp 157) 48 rfl 43 underlying48 (info_parts Xbq) rfl v m (kvsC L) rfl (ROW.out.past ((Only.refl _ _).alloc _)) (some ⟨w10.heap.size,0,none⟩) 1 1 rfl [.slice none 0 0,.int .u64 0] rfl (fun _=>⟨_,rfl,NC.out⟩) (by intro u hu;simp at hu;rcases hu with rfl | rfl <;> rfl) (by have:=HM.out;omega) (by decide) ?_;intro v11 w11 hg8 hsh8;obtain ⟨aa,ac,rfl⟩:=hsh8;have G8:=Th hg8;clear hg8)
           obtain ⟨g,cap,cur,off,hv8,hcap,hbk,hadr,hsrc,hdl,hfit,hj2,hcl,hrow⟩:=ent_plan (j:=j) LM.out hji G8.out
           injection hv8 with e1 e2 e3
           subst e1;obtain rfl:cap=ac:=e3.symm;have BC:=Th hbk;have HSRC:=Th hsrc;have HDL:=Th hdl;have HFIT:=Th hfit;have HCL:=Th hcl;have HROW:=Th hrow;have HJ2:=Th hj2
           have g0:(0:Int)≤j:=by omega
           have g1:(0:Int)≤(j:Int)+1:=by omega
           have g2:((j:Nat):Int)≤((m+1:Nat):Int):=by omega
           have g3:((j:Nat):Int)+1≤((m+1:Nat):Int):=by omega
           have g4:((m+1:Nat):Int)≤cap:=by omega
           have g5:¬cap=j:=by omega
           have g6:(m:Int)≤300:=by have:=HM.out;omega
           clear hbk hsrc hdl hfit hj2 hcl hrow
           as_aux_lemma =>
           refine Xbf 7 (C:=fun w'=>w'=w11.drew) (by kernel_rfl) (by kernel_rfl) rfl ?_
           simp only [Xv,Wc,Wh,Xp]
           repeat (go_big_quiet_step (fail))
           refine wpQuiet_nil ?_
           rintro _ rfl
           have C1:Hid (∀ u∈(kvsC L).drop (j*2),u.oneCell'=true):=fun u hu=>Xdh RS.out.ent.keys u (Ys hu)
           refine Xcy rfl (.tmp 162) (.tmp 165) 48 48 rfl 43 underlying48 2 Xbh g off (m+1-(j+1)) (cap-(j+1)) ⟨g,j*2,none⟩ (m+1-j) (cap-j) (m-j) (by go_simp) (by go_simp) cur 43 BC.out.drew (by show m-j=min _ _;omega) ((kvsC L).drop (j*2)) HDL.out HSRC.out HFIT.out C1.out ?_
           intro w12 hb9 hO9;have B12:=Th hb9;have O12:Hid (Only [g] w11 w12):=((Only.refl [g] w11).drew).trans hO9 (fun x hx=>.inl hx);clear hb9 hO9 hadr;have hlies:=G8.out.lies g rfl;have hbx10:Blk w10 xb [.slice xa s.row.length xc,.int .u64 s.x] 43:=IS.out.2.1.blk BL.out XL.out.2
           have hg:v.ownBlock=some g∨w10.heap.size≤g:=by
            rcases hlies with h1 | h1
            ·exact .inl h1
            ·exact .inr (by have:=(Blk.new [Value.slice none 0 0,.int .u64 0] 43 w10).lt;omega)
           have h610:=IS.out.2.1.size
           have hxg:xb≠g:=fun e=>by
            subst e
            rcases hg with h1 | h1
            ·exact XV.out h1
            ·have:=XL.out.1;omega
           have HG:=Th hg
           have hbx12:Blk w12 xb [.slice xa s.row.length xc,.int .u64 s.x] 43 :=
            O12.out.blk (G8.out.only.blk (((Only.refl [] w10).alloc _).blk hbx10 (by simp)) (fun hm=>XV.out (by simpa using hm))) (by simpa using hxg)
           have X0:=hbx12.cell 0;have X1:=hbx12.cell 1;simp only [Zb,Zd] at X0 X1;clear hbx12 hbx10 hlies hg hxg h610 NC;obtain ⟨y0,hy0⟩:=B12.out.at (j*2) (by rw [HCL.out];have:=HJ2.out;omega)
           have f0:=B12.out.frozen (j*2);have hb13:=B12.out.set (j*2) (.slice xa s.row.length xc);obtain ⟨y1,hy1⟩:=hb13.at (j*2+1) (by rw [Yz,HCL.out];have:=HJ2.out;omega)
           have f1:=hb13.frozen (j*2+1);have B14:=Th (hb13.set (j*2+1) (.int .u64 s.x))
           have hji':j<m+1:=by omega
           have hji2:(j:Int)<((m+1:Nat):Int):=by omega
           clear hb13
           as_aux_lemma =>
           go_upto_region 42 with fail
           go_wp2_with fail
           go_roundg (n-(i+1))
           case measure=>have:=HGK.out;omega
           case rel =>
            have hrow:=HROW.out (.slice xa s.row.length xc) (s.row,s.x) _ B14.out;rw [←LM.out] at hrow;have h:=PlR.inserted (q:=(.slice xa s.row.length xc,(s.row,s.x))) (g:=g) RS.out IS.out.1 (KL.out.step IS.out.2) (((Only.refl v.ownBlock.toList w10).alloc _).trans G8.out.only (fun x hx=>.inl hx)) HG.out
             ((O12.out.setCell (.inl (by simp)) _).setCell (.inl (by simp)) _) rfl HJ.out hrow
            refine ⟨i+1,tb,M9,u9,pg9,_,L.take j++(.slice xa s.row.length xc,(s.row,s.x)) :: L.drop j,cbs,rfl,by have:=LL.out;omega,by go_num,rfl,by rw [LM.out],⟨?_,h.1,?_,?_⟩⟩
            ·rw [ins_snd HJ.out]
             exact h.2.more (by rw [Xbp];omega)
            ·have:=LL.out
             have:=LM.out
             rw [Ze,Zz,Zj,Zy];omega
            ·rw [ins_snd HJ.out,lenE_ins]
             have:=LL.out;have:=SI.out;simp only;omega
       ·by_cases h45:what=4∨what=5
        ·as_aux_lemma =>
         have n0:(what == (0:Int))=false:=by rcases h45 with rfl | rfl <;> rfl
         have n1:(what == (1:Int))=false:=by rcases h45 with rfl | rfl <;> rfl
         have n2:(what == (2:Int))=false:=by rcases h45 with rfl | rfl <;> rfl
         have n3:(what == (3:Int))=false:=by rcases h45 with rfl | rfl <;> rfl
         go_upto_if 179 with fail
         go_cut [179] from 180 to 301 (fun s179 wy=>s179=.bool true∧wy=w8)
         case first =>
          rcases h45 with rfl | rfl
          ·go_wp2_with fail
           go_meet
           case rel=>exact ⟨rfl,rfl⟩
          ·go_wp2_with fail
           go_meet
           case rel=>exact ⟨rfl,rfl⟩
         case rest =>
          obtain ⟨rfl,rfl⟩:=hcut;clear h45 hins n0 n1 n2 n3;have N8:=Th (NL.out.past LT.out.2.2);have R8:=Th (RR.out.past LT.out.2.2)
          cases lg with
          | true =>
           as_aux_lemma =>
           have h300:300<s.row.length:=by have:=of_decide_eq_true HLG.out;omega
           have CI:=Th (delete_long (x:=s.x) (tb:=tb) LT.out.1.at h300)
           go_upto_region 55 with (go_at_call 14;refine CI.out.mono ?_;rintro e w9 ⟨rfl,hO⟩;have O9:=Th hO;clear hO)
           have NXT:Hid (PlJ w w9 p ck l (i+1) tb M u pg v L cbs):=⟨(N8.out.past O9.out).more (by rw [Xbp];omega),R8.out.past O9.out,by have:=LL.out;omega,by have:=LL.out;have:=SI.out;omega⟩
           go_wp2_with fail
           go_roundg (n-(i+1))
           case measure=>have:=HGK.out;omega
           case rel=>exact ⟨i+1,tb,M,u,pg,_,L,cbs,rfl,by have:=LL.out;omega,by go_num,rfl,rfl,NXT.out⟩
          | false =>
           as_aux_lemma =>
           have h300:s.row.length≤300:=by have:=of_decide_eq_false HLG.out;omega
           have MOST:Hid (mostP (L.map (·.2))≤94+i / 4):=Xkd (by rw [Zl];have:=LL.out;omega) (by have:=LL.out;have:=SI.out;omega)
           have CI:Hid (∀ c E',(if has (L.map (·.2)) (s.row,s.x) then (0:Int) else 82)=c→(if has (L.map (·.2)) (s.row,s.x) then delP (L.map (·.2)) (s.row,s.x) else L.map (·.2))=E'→_):=fun c E' hc he=>N8.out.delete (x:=s.x) (l:=s.row) (kv:=.slice la s.row.length lc) LT.out.1.at h300 KL.out.num (fun _ _=>trivial) MOST.out (by have:=LL.out;omega) (by have:=LL.out;have:=Xdq (i:=i) (by omega);omega) (by rw [Zl];have:=LL.out;omega) hc he
           cases b with
           | false =>
            as_aux_lemma =>
            have CJ:=Th (CI.out 82 (L.map (·.2)) (by rw [HB.out];rfl) (by rw [HB.out];rfl));clear CI
            go_upto_region 58 with (go_at_call 14;refine CJ.out.mono ?_;rintro e w9 ⟨M9,u9,pg9,rfl,hI,hS⟩;have I9:=Th hI;have S9:=Th hS;clear hI hS)
            have NXT:Hid (PlJ w w9 p ck l (i+1) tb M9 u9 pg9 v L cbs):=⟨I9.out.more (by rw [Xbp];omega),R8.out.step_ S9.out,by have:=LL.out;omega,by have:=LL.out;have:=SI.out;omega⟩
            go_wp2_with fail
            go_roundg (n-(i+1))
            case measure=>have:=HGK.out;omega
            case rel=>exact ⟨i+1,tb,M9,u9,pg9,_,L,cbs,rfl,by have:=LL.out;omega,by go_num,rfl,rfl,NXT.out⟩
           | true =>
            as_aux_lemma =>
            have hE:=low_has NL.out.up HB.out;rw [HJ.out] at hE
            obtain ⟨q,hq,hq2⟩:∃ q,L[j]?=some q∧q.2=(s.row,s.x):=by
             rw [Zr] at hE
             cases hq:L[j]? with
             | none=>rw [hq] at hE;cases hE
             | some q=>rw [hq] at hE;exact ⟨q,rfl,Option.some.inj hE⟩
            obtain ⟨m,hm⟩:∃ m,L.length=m:=⟨_,rfl⟩;have LM:=Th hm
            have hjm:j<m:=by rw [←hm];exact (Zh.1 hq).1
            obtain ⟨g,cap,ga,gk8,hv,_,_,_⟩:=R8.out.ent.at_ hq;rw [hm] at hv;subst hv;clear hm;obtain ⟨L',hL'⟩:∃ L',L.take j++L.drop (j+1)=L':=⟨_,rfl⟩;have HL':=Th hL'
            have hsub:∀ y∈L',y∈L:=fun y hy=>by
             rw [←hL'] at hy
             rcases Za.1 hy with h | h
             ·exact Yn h
             ·exact Ys h
            have HSUB:=Th hsub
            have hll:L'.length+1=m:=by rw [←hL',Ze,Zj,Zy,LM.out];omega
            have HLL:=Th hll;have hdl:=del_snd NL.out.up hE;rw [hL'] at hdl;have HDS:=Th hdl;have CJ:=Th (CI.out 0 (L'.map (·.2)) (by rw [HB.out];rfl) (by rw [HB.out];exact HDS.out.symm))
            clear CI hL' hsub hll hdl hE hq hq2
            go_upto_region 54 with (go_at_call 14;refine CJ.out.mono ?_;rintro e w9 ⟨M9,u9,pg9,rfl,hI,hS⟩;have I9:=Th hI;have S9:=Th hS;clear hI hS)
            have R9:=Th (R8.out.step_ S9.out);have hrow:=R9.out.ent.row.past ((Only.refl [] w9).drew);rw [LM.out] at hrow;obtain ⟨g2,cap2,z,hv2,hcap,hadr,hrc,hnl5,htl⟩:=ent_cut hrow LM.out hjm
            injection hv2 with e1 e2 e3
            injection e1 with e1
            injection e1 with e1
            subst e1;obtain rfl:cap=cap2:=e3;have RC:=Th hrc;have NL5:=Th hnl5;have TL:=Th htl
            have O1:Hid (∀ u∈(kvsC L).drop ((j+1)*2),u.oneCell'=true):=fun u hu=>Xdh R9.out.ent.keys u (Ys hu)
            have LB:Hid (m≤300):=by show _≤_;have:=LL.out;have:=LM.out;omega
            have g0:(0:Int)≤j:=by omega
            have g1:(j:Int)≤cap:=by omega
            have g2:(0:Int)≤(j:Int)+1:=by omega
            have g3:(j:Int)+1≤m:=by omega
            have g4:(m:Int)≤cap:=by omega
            have g5:j+1≤m:=hjm
            have g6:(j:Int)+1≤cap:=by omega
            have g7:¬cap=j:=by omega
            have g8:¬((j:Int)+1)=0:=by omega
            have ew:IntKind.i64.wrap ((j:Int)+1)=(j:Int)+1:=by have:=LB.out;rw [Yi];omega
            clear hrc hnl5 htl hrow
            as_aux_lemma =>
            refine Xbf 8 (C:=fun w'=>w'=w9.drew) (by kernel_rfl) (by kernel_rfl) rfl ?_
            simp only [Xv,Wc,Wh,Xp]
            repeat (go_big_quiet_step (fail))
            refine wpQuiet_nil ?_
            rintro _ rfl;clear hadr
            go_wp2_with (at_builtin;refine Xlc rfl (.tmp 192) (.tmp 196) 48 rfl 43 underlying48 (info_parts Xbq) rfl (.slice (some ⟨g,0,none⟩) j j) j ((kvsC L).take (j*2)) (by go_simp) RC.out (some ⟨g,z,none⟩) (m-(j+1)) (cap-(j+1)) (by go_simp) ((kvsC L).drop ((j+1)*2)) NL5.out TL.out O1.out (by have:=LB.out;omega) (by decide) ?_;intro v8 w10 hg8 hsh8;obtain ⟨a8,c8,rfl⟩:=hsh8;have G8:=Th hg8;clear hg8)
            go_roundg (n-(i+1))
            case measure=>have:=HGK.out;omega
            case rel =>
             have hown:=G8.out.own;rw [del_kvs,HL'.out,show j+(m-(j+1))=L'.length by have:=HLL.out;omega] at hown
             have h:=R9.out.rows (v':=.slice a8 (j+(m-(j+1))) c8) (L':=L') I9.out (G:=[]) ((Only.refl _ w9).drew.trans G8.out.only (fun y hy=>.inl (by simpa [Value.ownBlock] using hy))) (fun y hy=>by cases hy) (fun y hy=>by
              rcases G8.out.lies y hy with h1 | h1
              ·exact .inl h1
              ·exact .inr h1) (fun y hy=>.inl (HSUB.out y hy)) (by rw [show j+(m-(j+1))=L'.length by have:=HLL.out;omega];exact hown)
             refine ⟨i+1,tb,M9,u9,pg9,_,L',cbs,rfl,by have:=LL.out;omega,by go_num,rfl,rfl,⟨h.2.more (by rw [Xbp];omega),h.1,?_,?_⟩⟩
             ·have:=LL.out;have:=HLL.out;have:=LM.out;omega
             ·rw [HDS.out]
              have:=lenE_del (L.map (·.2)) (s.row,s.x);have:=LL.out;have:=SI.out;omega
        ·by_cases h6:what=6
         ·as_aux_lemma =>
          subst h6;have N8:=Th (NL.out.past LT.out.2.2);have R8:=Th (RR.out.past LT.out.2.2);obtain ⟨m,hm⟩:∃ m,L.length=m:=⟨_,rfl⟩;obtain ⟨ao,cap,hv,_⟩:=RR.out.ent.row.shape;rw [hm] at hv;subst hv
          have hme:(L.map (·.2)).length=m:=by rw [Zl];exact hm
          have LME:=Th hme;have MOST:Hid (mostP (L.map (·.2))≤94+i / 4):=Xkd (by rw [Zl];have:=LL.out;omega) (by have:=LL.out;have:=SI.out;omega)
          clear hm hme
          cases lg with
          | true =>
           as_aux_lemma =>
           have h300:300<s.row.length:=by have:=of_decide_eq_true HLG.out;omega
           have CI:=Th (has_long (x:=s.x) (tb:=tb) LT.out.1.at h300)
           go_upto_region 63 with (go_at_call 13;refine CI.out.mono ?_;rintro e w9 ⟨rfl,hO⟩;have O9:=Th hO;clear hO)
           have cl:=(N8.out.past O9.out).lenT MOST.out (by have:=LL.out;omega) (by have:=LL.out;have:=Xdq (i:=i) (by omega);omega) (by rw [LME.out];have:=LL.out;have:=LME.out;rw [Zl] at this;omega);rw [LME.out] at cl;have CL:=Th cl;clear cl
           go_upto_region 64 with (go_at_call 24;refine CL.out.mono ?_;rintro e w10 ⟨M10,rfl,hI,hS⟩;have I10:=Th hI;have S10:=Th hS;clear hI hS)
           have NXT:Hid (PlJ w w10 p ck l (i+1) tb M10 u pg (.slice ao m cap) L cbs):=⟨I10.out.more (by rw [Xbp];omega),(R8.out.past O9.out).step_ S10.out,by have:=LL.out;omega,by have:=LL.out;have:=SI.out;omega⟩
           go_wp2_with fail
           go_roundg (n-(i+1))
           case measure=>have:=HGK.out;omega
           case rel=>exact ⟨i+1,tb,M10,u,pg,_,L,cbs,rfl,by have:=LL.out;omega,by go_num,rfl,rfl,NXT.out⟩
          | false =>
           as_aux_lemma =>
           have h300:s.row.length≤300:=by have:=of_decide_eq_false HLG.out;omega
           have CI:=Th (N8.out.hasP (x:=s.x) (l:=s.row) (kv:=.slice la s.row.length lc) LT.out.1.at h300 KL.out.num MOST.out (by have:=LL.out;omega) (by have:=LL.out;have:=Xdq (i:=i) (by omega);omega) HB.out)
           go_upto_region 63 with (go_at_call 13;refine CI.out.mono ?_;rintro e w9 ⟨M9,rfl,hI,hS⟩;have I9:=Th hI;have S9:=Th hS;clear hI hS)
           have cl:=I9.out.lenT MOST.out (by have:=LL.out;omega) (by have:=LL.out;have:=Xdq (i:=i) (by omega);omega) (by rw [LME.out];have:=LL.out;have:=LME.out;rw [Zl] at this;omega);rw [LME.out] at cl;have CL:=Th cl;clear cl
           go_upto_region 64 with (go_at_call 24;refine CL.out.mono ?_;rintro e w10 ⟨M10,rfl,hI,hS⟩;have I10:=Th hI;have S10:=Th hS;clear hI hS)
           have NXT:Hid (PlJ w w10 p ck l (i+1) tb M10 u pg (.slice ao m cap) L cbs):=⟨I10.out.more (by rw [Xbp];omega),(R8.out.step_ S9.out).step_ S10.out,by have:=LL.out;omega,by have:=LL.out;have:=SI.out;omega⟩
           cases b with
           | true =>
            as_aux_lemma =>
            go_wp2_with fail
            go_roundg (n-(i+1))
            case measure=>have:=HGK.out;omega
            case rel=>exact ⟨i+1,tb,M10,u,pg,_,L,cbs,rfl,by have:=LL.out;omega,by go_num,rfl,rfl,NXT.out⟩
           | false =>
            as_aux_lemma =>
            go_wp2_with fail
            go_roundg (n-(i+1))
            case measure=>have:=HGK.out;omega
            case rel=>exact ⟨i+1,tb,M10,u,pg,_,L,cbs,rfl,by have:=LL.out;omega,by go_num,rfl,rfl,NXT.out⟩
         ·by_cases h7:what=7
          ·as_aux_lemma =>
           subst h7;have N8:=Th (NL.out.past LT.out.2.2);obtain ⟨cs,hcs,hcl⟩:=RR.out.cblk;have CB:=Th hcs;have CBL:=Th hcl
           have SC:Hid (sb∉[ck]):=fun hm=>by
            simp at hm;subst hm;exact absurd (SL6.out.inj CB.out).2 (by decide)
           have SK:=Th (Xnl (w:=w8) (tb:=tb) (M:=M) LT.out.1.at RL.out (fun y hy=>Ye (ML.out y hy) LT.out.2.2.size));clear hcs hcl
           go_upto_region 68 with (go_at_call 15;refine SK.out.mono ?_;rintro e w9 ⟨cb,v9,rfl,hC,hl,hn,hO⟩;have C9:=Th hC;have L9:=Th hl;have N9:=Th hn;have O9:=Th hO;clear hC hl hn hO;have k9:=Th ((LT.out.2.2.trans O9.out (by simp)).blk CB.out (by simp));obtain ⟨y0,hy0⟩:=k9.out.at (jj*5) (by rw [CBL.out];have:=JJ3.out;omega);have f0:=k9.out.frozen (jj*5))
           obtain ⟨w10,hw10⟩:∃ w10,w9.setCell ⟨ck,jj*5,none⟩ (.pointer (some ⟨cb,0,none⟩))=w10:=⟨_,rfl⟩
           have B10:Hid (Blk w10 ck (cs.set (jj*5) (.pointer (some ⟨cb,0,none⟩))) 59):=by show Blk _ _ _ _;rw [←hw10];exact k9.out.set _ _
           have O10:Hid (Only [ck] w9 w10):=by show Only _ _ _;rw [←hw10];exact (Only.refl _ _).setCell (.inl (by simp)) _
           rw [hw10];clear hw10 hy0 f0;have q2:=O10.out.cell (O9.out.cell e2 (by simp)) SC.out;have OW:Hid (Only [] w w10):=(((RR.out.step.1.trans LT.out.2.2 (by simp)).trans O9.out (by simp)).trans O10.out (fun x hx=>.inr (by simp at hx;subst hx;exact RR.out.ckn)))
           go_upto_region 69 with (at_builtin;refine Xap rfl (.const (.slice none 0 0)) (.tmp 260) 22 rfl 5 underlying22 (info_parts B.info_byte) rfl (by decide) (.slice none 0 0) 0 [] rfl ⟨rfl,.inl ⟨rfl,rfl⟩⟩ ka s.row.length kc rfl (u8s s.row) (by rw [Xaf];omega) (Xiy KBW.out OW.out) (Xba _) (by have:=RL.out;omega) (by decide) ?_;intro v11 w11 hg;have ow:=Xja hg;obtain ⟨fa,fc,rfl⟩:=Xac ow.1;have FT:=Th ow;have k11:=Th (ow.2.2.blk B10.out (by simp));clear hg ow;obtain ⟨y1,hy1⟩:=k11.out.at (jj*5+1) (by rw [Yz,CBL.out];have:=JJ3.out;omega);have f1:=k11.out.frozen (jj*5+1))
           obtain ⟨w12,hw12⟩:∃ w12,w11.setCell ⟨ck,jj*5+1,none⟩ (.slice fa s.row.length fc)=w12:=⟨_,rfl⟩
           have B12:Hid (Blk w12 ck ((cs.set (jj*5) (.pointer (some ⟨cb,0,none⟩))).set (jj*5+1) (.slice fa s.row.length fc)) 59):=by show Blk _ _ _ _;rw [←hw12];exact k11.out.set _ _
           have O12:Hid (Only [ck] w11 w12):=by show Only _ _ _;rw [←hw12];exact (Only.refl _ _).setCell (.inl (by simp)) _
           rw [hw12];clear hw12 hy1 f1;obtain ⟨y4,hy4⟩:=B12.out.at (jj*5+4) (by rw [Yz,Yz,CBL.out];have:=JJ3.out;omega)
           have f4:=B12.out.frozen (jj*5+4)
           go_upto_region 70 with fail
           obtain ⟨w13,hw13⟩:∃ w13,w12.setCell ⟨ck,jj*5+4,none⟩ (.bool false)=w13:=⟨_,rfl⟩
           have B13:Hid (Blk w13 ck (((cs.set (jj*5) (.pointer (some ⟨cb,0,none⟩))).set (jj*5+1) (.slice fa s.row.length fc)).set (jj*5+4) (.bool false)) 59):=by show Blk _ _ _ _;rw [←hw13];exact B12.out.set _ _
           have O13:Hid (Only [ck] w11 w13):=by show Only _ _ _;rw [←hw13];exact O12.out.setCell (.inl (by simp)) _
           rw [hw13];clear hw13 hy4 f4
           have SP:=Th (Xho (Xab (Xab (Xad LT.out.1 O9.out) O10.out (fun g hg hm=>by
            have h1:=LT.out.2.1 g hg;have h2:=CB.out.lt;simp at hm
            omega) |> fun h=>Xad h FT.out.2.2) O13.out (fun g hg hm=>by
            have h1:=LT.out.2.1 g hg;have h2:=CB.out.lt;simp at hm
            omega)) RL.out)
           go_wp2_with (go_at_call 23;refine SP.out.mono ?_;rintro e w14 ⟨rfl,hO⟩;have O14:=Th hO;clear hO)
           have h:=RR.out.soughtL ML.out LT.out O9.out C9.out L9.out N9.out O10.out FT.out O13.out O14.out CB.out CBL.out JJ3.out JJ3.out B13.out;have NXT:Hid (PlJ w w14 p ck l (i+1) tb M u pg v L _):=⟨(NL.out.wrote h.2 ⟨_,CB.out⟩ RR.out.cko).more (by rw [Xbp];omega),h.1,by have:=LL.out;omega,by have:=LL.out;have:=SI.out;omega⟩
           go_roundg (n-(i+1))
           case measure=>have:=HGK.out;omega
           case rel=>exact ⟨i+1,tb,M,u,pg,_,L,_,rfl,by have:=LL.out;omega,by go_num,rfl,rfl,NXT.out⟩
          ·by_cases h8:what=8
           ·as_aux_lemma =>
            subst h8;have N8:=Th (NL.out.past LT.out.2.2);have R8:=Th (RR.out.past LT.out.2.2);have RT:=Th (Xhs N8.out.at_);have OP:=Th (N8.out.open_ (by have:=LL.out;have:=Xdq (i:=i) (by omega);omega))
            go_upto_region 73 with (first
             | (go_at_call 10;refine RT.out.mono ?_;rintro e w' ⟨rfl,rfl⟩)
             | (go_at_call 12;refine OP.out.mono ?_;rintro e w9 ⟨tb',M9,rfl,hI,hl,hS⟩;have I9:=Th hI;have L9:=Th hl;have S9:=Th hS;clear hI hl hS))
            have RT1:=Th (Xhs I9.out.at_);have RT2:=Th (Xhs (p:=p) (root:=0) (tb:=tb) (w:=w9) (S9.out.1.blk N8.out.at_ N8.out.off))
            go_upto_region 76 with (first
             | (go_at_call 10;refine RT1.out.mono ?_;rintro e w' ⟨rfl,rfl⟩)
             | (go_at_call 10;refine RT2.out.mono ?_;rintro e w' ⟨rfl,rfl⟩))
            have R9:=Th ((R8.out.step_ S9.out).none_ tb');obtain ⟨k9,hk9⟩:∃ k9,costP i+2=k9:=⟨_,rfl⟩
            have K9:Hid (k9≤costP (i+1)):=by show _≤_;rw [Xbp];omega
            rw [hk9] at I9;clear hk9 RT RT1 RT2 OP
            as_aux_lemma =>
            go_wp2_with fail
            go_loopg [24] 3 (fun gk s24 wr=>∃ (a:Nat) (cbs:Nat→Nat),gk=3-a∧a≤3∧s24=.int .i64 a∧OneQ (fun _=>True) wr p tb' 600 M9 u pg k9 (L.map (·.2))∧PlR w wr a tb' ck M9 v L cbs)
            case atStart=>exact ⟨0,_,rfl,Yc _,rfl,I9.out,R9.out⟩
            case round =>
             obtain ⟨a,cbs,hgk,ha,rfl,hB,hR⟩:=hrel;have HGA:=Th hgk;have B:=Th hB;have R:=Th hR;clear hgk hB hR
             by_cases hlt:a<3
             ·have hlt':(a:Int)<3:=by omega
              have ha0:(0:Int)≤a:=by omega
              obtain ⟨cs,hcs,hcl⟩:=R.out.cblk;have K:=Th hcs;have KL:=Th hcl;have SK:=Th (Xnl (w:=wr) (tb:=tb') (M:=M9) (kv:=.slice none 0 0) (l:=[]) ⟨none,0,rfl,fun h=>by simp at h⟩ (by simp) B.out.pool.lt);clear hcs hcl
              go_wp2_with (go_at_call 15;refine SK.out.mono ?_;rintro e w6 ⟨cb,v6,rfl,hC6,hl6,hn6,hO6⟩;have C6:=Th hC6;have L6:=Th hl6;have O6:=Th hO6;clear hC6 hl6 hn6 hO6;have b0:=O6.out.blk K.out (by simp);obtain ⟨y0,hy0⟩:=b0.at (a*5) (by rw [KL.out];omega);have f0:=b0.frozen (a*5);have b1:=b0.set (a*5) (.pointer (some ⟨cb,0,none⟩));obtain ⟨y1,hy1⟩:=b1.at (a*5+1) (by simp [KL.out];omega);have f1:=b1.frozen (a*5+1);have b2:=b1.set (a*5+1) (.slice none 0 0);obtain ⟨y2,hy2⟩:=b2.at (a*5+2) (by simp [KL.out];omega);have f2:=b2.frozen (a*5+2);have b3:=b2.set (a*5+2) (.slice none 0 0);obtain ⟨y3,hy3⟩:=b3.at (a*5+3) (by simp [KL.out];omega);have f3:=b3.frozen (a*5+3);have b4:=b3.set (a*5+3) (.int .u64 0);obtain ⟨y4,hy4⟩:=b4.at (a*5+4) (by simp [KL.out];omega);have f4:=b4.frozen (a*5+4);have b5:=Th (b4.set (a*5+4) (.bool false));clear b0 b1 b2 b3 b4)
              go_roundg (3-(a+1))
              case measure=>have:=HGA.out;omega
              case rel =>
               have s5:=(((((Only.refl [ck] w6).setCell (p:=⟨ck,a*5,none⟩) (.inl (by simp)) (.pointer (some ⟨cb,0,none⟩))).setCell (p:=⟨ck,a*5+1,none⟩) (.inl (by simp)) (.slice none 0 0)).setCell (p:=⟨ck,a*5+2,none⟩) (.inl (by simp)) (.slice none 0 0)).setCell (p:=⟨ck,a*5+3,none⟩) (.inl (by simp)) (.int .u64 0)).setCell (p:=⟨ck,a*5+4,none⟩) (.inl (by simp)) (.bool false);have hO:=(O6.out.mono (M':=[ck]) (by simp)).trans s5 (fun x hx=>.inl hx);have hk6:=O6.out.blk K.out (by simp);refine ⟨a+1,_,rfl,by omega,by go_num,B.out.wrote hO ⟨_,K.out⟩ R.out.cko,R.out.sought (i:=a) hO K.out b5.out (by simp [KL.out]) (fv:=.slice none 0 0) (lv:=.slice none 0 0) (lx:=0) (fun t ht=>?_) (fun c t hc hne ht=>?_) (C6.out.wrote s5 ⟨_,hk6⟩) rfl (KeyOk.nil _ _) L6.out (fun c hc=>by omega)⟩
               ·have hl:=KL.out
                obtain rfl | rfl | rfl | rfl | rfl:t=0∨t=1∨t=2∨t=3∨t=4:=by omega
                ·rw [Zv (by omega),Zv (by omega),Zv (by omega),Zv (by omega),Wm,Yr (by omega)];rfl
                ·rw [Zv (by omega),Zv (by omega),Zv (by omega),Yr (by simp;omega)];rfl
                ·rw [Zv (by omega),Zv (by omega),Yr (by simp;omega)];rfl
                ·rw [Zv (by omega),Yr (by simp;omega)];rfl
                ·rw [Yr (by simp;omega)];rfl
               ·rw [Zv (by omega),Zv (by omega),Zv (by omega),Zv (by omega),Zv (by omega)]
             ·obtain rfl:a=3:=by omega
              have hnl:¬((3:Nat):Int)<3:=by omega
              have NXT:Hid (PlJ w wr p ck l (i+1) tb' M9 u pg v L cbs):=⟨B.out.more K9.out,R.out,by have:=LL.out;omega,by have:=LL.out;have:=SI.out;omega⟩
              go_wp2_with fail
              go_roundg (n-(i+1))
              case measure=>have:=HGK.out;omega
              case rel=>exact ⟨i+1,tb',M9,u,pg,_,L,_,rfl,by have:=LL.out;omega,by go_num,rfl,rfl,NXT.out⟩
           ·as_aux_lemma =>
            have n0:(what == (0:Int))=false:=by simp;omega
            have n1:(what == (1:Int))=false:=by simp;omega
            have n2:(what == (2:Int))=false:=by simp;omega
            have n3:(what == (3:Int))=false:=by simp;omega
            have n4:(what == (4:Int))=false:=by simp;omega
            have n5:(what == (5:Int))=false:=by simp;omega
            have n6:(what == (6:Int))=false:=by simp;omega
            have n7:(what == (7:Int))=false:=by simp;omega
            have n8:(what == (8:Int))=false:=by simp;omega
            clear hins h45 h6 h7 h8;have N8:=Th (NL.out.past LT.out.2.2);have R8:=Th (RR.out.past LT.out.2.2);obtain ⟨last,begun,kv,fv,lv,lx,hc⟩:=R8.out.curs jj JJ3.out;obtain ⟨cb,hcb⟩:∃ cb,cbs jj=cb:=⟨_,rfl⟩;have HCB:=Th hcb;rw [hcb] at hc;have HC:=Th hc;have MOST:Hid (mostP (L.map (·.2))≤94+i / 4):=Xkd (by rw [Zl];have:=LL.out;omega) (by have:=LL.out;have:=SI.out;omega)
            clear hcb hc
            cases hr:nextP (L.map (·.2)) last begun with
            | none =>
             as_aux_lemma =>
             have HR:=Th hr;have CN:=Th (Xog R8.out.ent.prs HC.out.mc (by have:=LL.out;omega) hr)
             clear hr
             go_upto_region 25 with (go_at_call 25;refine CN.out.mono ?_;rintro e w9 ⟨hO,hh⟩;obtain ⟨_,rfl⟩ | ⟨_,_,g1,_⟩:=hh;rotate_left;(cases g1);have O9:=Th hO;clear hO)
             obtain ⟨w10,hw10⟩:∃ w10,w9.alloc (.cells #[.slice none 0 0,.int .u64 0] 43)=w10:=⟨_,rfl⟩
             have O10:Hid (Only [] w8 w10):=by show Only _ _ _;rw [←hw10];exact O9.out.alloc _
             rw [hw10];clear hw10;have m0:=O10.out.cell HC.out.mc.c0 (by simp);have N10:=Th (N8.out.past O10.out);have NE:=Th (N10.out.next (cb:=cb) (HC.out.at_.step ((Step.refl M w8).then O10.out)) MOST.out (by have:=LL.out;omega) (by have:=LL.out;have:=Xdq (i:=i) (by omega);omega) HR.out)
             go_upto_region 26 with (go_at_call 16;refine NE.out.mono ?_;rintro e w11 ⟨M11,hh⟩;obtain ⟨_,rfl,hI,hC,hS⟩ | ⟨_,_,_,g1,_⟩:=hh;rotate_left;(cases g1);have I11:=Th hI;have S11:=Th hS;clear hI hS hC)
             obtain ⟨w12,hw12⟩:∃ w12,w11.alloc (.cells #[.slice none 0 0,.int .u64 0] 43)=w12:=⟨_,rfl⟩
             have O12:Hid (Only [] w11 w12):=by show Only _ _ _;rw [←hw12];exact (Only.refl _ _).alloc _
             rw [hw12];clear hw12;have NXT:Hid (PlJ w w12 p ck l (i+1) tb M11 u pg v L cbs):=⟨(I11.out.past O12.out).more (by rw [Xbp];omega),((R8.out.past O10.out).step_ S11.out).past O12.out,by have:=LL.out;omega,by have:=LL.out;have:=SI.out;omega⟩
             go_wp2_with fail
             go_roundg (n-(i+1))
             case measure=>have:=HGK.out;omega
             case rel=>exact ⟨i+1,tb,M11,u,pg,_,L,cbs,rfl,by have:=LL.out;omega,by go_num,rfl,rfl,NXT.out⟩
            | some x =>
             as_aux_lemma =>
             have HR:=Th hr;have CN:=Th (Xog R8.out.ent.prs HC.out.mc (by have:=LL.out;omega) hr)
             clear hr
             go_upto_region 25 with (go_at_call 25;refine CN.out.mono ?_;rintro e w9 ⟨hO,hh⟩;obtain ⟨g1,_⟩ | ⟨fv1,y,g1,hL,rfl⟩:=hh;(cases g1);obtain rfl:=Option.some.inj g1;have O9:=Th hO;have HL:=Th hL;clear hO hL g1;obtain ⟨fa,fk,hfv,_⟩:=id (R8.out.ent.keys _ HL.out).bytes;dsimp only at hfv;subst hfv)
             obtain ⟨w10,hw10⟩:∃ w10,w9.alloc (.cells #[.slice fa x.1.length fk,.int .u64 x.2] 43)=w10:=⟨_,rfl⟩
             have O10:Hid (Only [] w8 w10):=by show Only _ _ _;rw [←hw10];exact O9.out.alloc _
             have PB:Hid (Blk w10 w9.heap.size [.slice fa x.1.length fk,.int .u64 x.2] 43):=by show Blk _ _ _ _;rw [←hw10];exact Blk.new [.slice fa x.1.length fk,.int .u64 x.2] 43 w9
             rw [hw10];clear hw10;obtain ⟨pb,hpb⟩:∃ pb,w9.heap.size=pb:=⟨_,rfl⟩
             have PBN:Hid (w8.heap.size≤pb):=by show _≤_;rw [←hpb];exact O9.out.size
             rw [hpb] at PB;rw [hpb];clear hpb;have m0:=O10.out.cell HC.out.mc.c0 (by simp);have N10:=Th (N8.out.past O10.out);have R10:=Th (R8.out.past O10.out);have NE:=Th (N10.out.next (cb:=cb) (HC.out.at_.step ((Step.refl M w8).then O10.out)) MOST.out (by have:=LL.out;omega) (by have:=LL.out;have:=Xdq (i:=i) (by omega);omega) HR.out)
             go_upto_region 26 with (go_at_call 16;refine NE.out.mono ?_;rintro e w11 ⟨M11,hh⟩;obtain ⟨g1,_⟩ | ⟨y,kv1,rv,g1,rfl,hK,hrn,hI,hC,hne,hO,hM⟩:=hh;(cases g1);obtain rfl:=Option.some.inj g1;have K11:=Th hK;have RN:=Th hrn;have I11:=Th hI;have C11:=Th hC;have NEQ:=Th hne;have O11:=Th hO;have M11H:=Th hM;clear hK hrn hI hC hne hO hM g1;obtain ⟨ra,rc,hrv,_⟩:=id K11.out.bytes;dsimp only at hrv;subst hrv)
             obtain ⟨w12,hw12⟩:∃ w12,w11.alloc (.cells #[.slice ra x.1.length rc,.int .u64 x.2] 43)=w12:=⟨_,rfl⟩
             have O12:Hid (Only [] w11 w12):=by show Only _ _ _;rw [←hw12];exact (Only.refl _ _).alloc _
             have QB:Hid (Blk w12 w11.heap.size [.slice ra x.1.length rc,.int .u64 x.2] 43):=by show Blk _ _ _ _;rw [←hw12];exact Blk.new [.slice ra x.1.length rc,.int .u64 x.2] 43 w11
             rw [hw12];clear hw12;obtain ⟨qb,hqb⟩:∃ qb,w11.heap.size=qb:=⟨_,rfl⟩;rw [hqb] at QB;rw [hqb];clear hqb;have hcbw:=HC.out.at_.blk
             have hno:∀ {g:Nat} {cs:List Value} {t:TypeId},Blk w8 g cs t→g∉M→t≠98→g∉M++[cb]:=fun hb hm ht hx=>by
              rcases Za.1 hx with h2 | h2
              ·exact hm h2
              ·simp at h2
               subst h2;exact ht (hb.inj hcbw).2
             have PB12:=Th (O12.out.blk (O11.out.blk PB.out (fun hm=>by
              rcases Za.1 hm with h2 | h2
              ·have:=N8.out.pool.lt _ h2;have:=PBN.out;omega
              ·simp at h2
               have:=hcbw.lt;have:=PBN.out
               omega)) (by simp))
             have hfk:=R10.out.ent.keys _ HL.out
             have F12:=Th ((hfk.over O11.out (fun g hg hm=>by
              obtain ⟨_,cs2,hb2⟩:=hfk.blk g hg;simp at hm;subst hm
              exact absurd (hb2.inj (O10.out.blk hcbw (by simp))).2 (by decide)) M11H.out).past O12.out)
             have K12:=Th (K11.out.past O12.out);obtain ⟨cs,hcs,hcl⟩:=R8.out.cblk;have CB8:=Th hcs;have CBL:=Th hcl;have CB12:=Th (O12.out.blk (O11.out.blk (O10.out.blk hcs (by simp)) (hno hcs R8.out.cko (by decide))) (by simp));have BS:=Th (bytes_same K12.out.bytes F12.out.bytes);have p0:=PB12.out.cell 0;have p1:=PB12.out.cell 1;have q0:=QB.out.cell 0;have q1:=QB.out.cell 1;simp only [Zb,Zd] at p0 p1 q0 q1;clear hcs hcl hno hcbw hfk e0 e2 e3
             go_upto_region 28 with (go_at_call 17;refine BS.out.mono ?_;rintro e w' ⟨rfl,rfl⟩)
             obtain ⟨y2,hy2⟩:=CB12.out.at (jj*5+2) (by rw [CBL.out];have:=JJ3.out;omega);have f2:=CB12.out.frozen (jj*5+2);have b13:=CB12.out.set (jj*5+2) (.slice fa x.1.length fk);obtain ⟨y3,hy3⟩:=b13.at (jj*5+3) (by rw [Yz,CBL.out];have:=JJ3.out;omega)
             have f3:=b13.frozen (jj*5+3);have b14:=b13.set (jj*5+3) (.int .u64 x.2);obtain ⟨y4,hy4⟩:=b14.at (jj*5+4) (by rw [Yz,Yz,CBL.out];have:=JJ3.out;omega)
             have f4:=b14.frozen (jj*5+4);have b15:=b14.set (jj*5+4) (.bool true);have o15:Only [ck] w12 _:=((((Only.refl [ck] w12).setCell (p:=⟨ck,jj*5+2,none⟩) (.inl (by simp)) (.slice fa x.1.length fk)).setCell (p:=⟨ck,jj*5+3,none⟩) (.inl (by simp)) (.int .u64 x.2)).setCell (p:=⟨ck,jj*5+4,none⟩) (.inl (by simp)) (.bool true));have B15:=Th b15;have O15:=Th o15;have q15:=o15.cell q0 (by simp;intro h;subst h;exact absurd (QB.out.inj CB12.out).2 (by decide))
             have SP:=Th (spoil_key (K12.out.wrote o15 ⟨_,CB12.out⟩) (by
              have h1:x.1.length≤lenE (L.map (·.2)):=lenE_mem (Zi.2 ⟨_,HL.out,rfl⟩);have h2:=LL.out;have h3:=SI.out;show x.1.length≤1048576
              omega))
             clear b13 b14 b15 o15
             go_upto_region 31 with fail
             go_wp2_with (go_at_call 23;refine SP.out.mono ?_;rintro e w16 ⟨rfl,hO⟩;have O16:=Th hO;clear hO)
             have h:=R10.out.nexted (i:=jj) (cb:=cb) JJ3.out HCB.out I11.out C11.out O11.out M11H.out K11.out RN.out NEQ.out (w9:=w16)
              (((O12.out.mono (M':=ck :: _) (by simp)).trans O15.out (fun x hx=>.inl (by simp at hx;simp [hx]))).trans O16.out (fun x hx=>.inl (by simp at hx;simp [hx])))
              (O10.out.blk CB8.out (by simp)) CBL.out JJ3.out (O16.out.blk B15.out (fun hm=>by
               obtain ⟨_,cs2,hb2⟩:=(K12.out.wrote O15.out ⟨_,CB12.out⟩).blk ck (Zk.1 hm)
               exact absurd (B15.out.inj hb2).2 (by decide))) HL.out
             have NXT:Hid (PlJ w w16 p ck l (i+1) tb M11 u pg v L _):=⟨h.2.more (by rw [Xbp];omega),h.1,by have:=LL.out;omega,by have:=LL.out;have:=SI.out;omega⟩
             go_roundg (n-(i+1))
             case measure=>have:=HGK.out;omega
             case rel=>exact ⟨i+1,tb,M11,u,pg,_,L,_,rfl,by have:=LL.out;omega,by go_num,rfl,rfl,NXT.out⟩
     ·as_aux_lemma =>
      obtain rfl:i=n:=by omega
      have hnl:¬((i:Nat):Int)<i:=by omega
      have LL:Hid (i≤300∧L.length≤i∧lenE (L.map (·.2))≤9000):=by
       show _∧_∧_;have h1:=HN.out;have h2:=LN.out;have h3:=J.out.len;have h4:=J.out.bulk;rw [h2] at h1;omega
      have MOST:Hid (mostP (L.map (·.2))≤169):=Zp (Xkd (i:=i) (by rw [Zl];exact LL.out.2.1) LL.out.2.2) (by have:=LL.out.1;omega);have CP:=Xdq LL.out.1;have CK:=Th (J.out.one.check MOST.out (by omega) (by omega));have CPH:=Th CP;clear CP hlt
      go_wp2_with (first
       | (go_at_call 20;refine PG.out.mono ?_;rintro e w7 ⟨rfl,h7⟩;have O7:=Th h7;clear h7)
       | (go_at_call 18;refine CK.out.mono ?_;rintro e w5 ⟨M5,rfl,h5,hs5⟩;have PG:=Th (J.out.pages LL.out.1 LL.out.2.2 MOST.out (by omega) h5 hs5 (by have:=CPH.out;omega));clear h5 hs5))
      go_ret;exact ⟨rfl,O7.out.below (Zq _) (by simp)⟩
end T
end Go.Proofs.YtiijokopcgnokaaGreat
