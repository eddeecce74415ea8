import Derived.Test.YtiijokopcgnokaaGreatWTnW
set_option maxRecDepth 100000
set_option maxHeartbeats 4000000
set_option linter.unusedSimpArgs false
set_option linter.unusedVariables false
namespace Go.Proofs.YtiijokopcgnokaaGreat
namespace T
open Go Go.RowKit D B C G P H Tryz
theorem tidies_any {w:World} {p k tb root H:Nat} {M:List Nat} {u:List Bool} {pg:Nat→List UInt8} {T:Tr H} (hP:PoolV w p M u pg k) (hT:Xax w tb p root) (htb:tb∉M) (hI:InPages u pg root T) (hk:k+4*(nodes H T).length≤990000) (he:(entsT T).length≤100000) :
  Calls prog 72 #[.pointer (some ⟨tb,0,none⟩)] w fun e w'=>∃ M' u' pg' H' T',e=.returned (.int .i64 0)∧TidyRes w w' p M u pg k root T M' u' pg' (H':=H') T':=by
 have AL:=Th (all_any hP hT htb hI (by omega) (by omega) (by omega));obtain ⟨nums,hnum,hnd,hus⟩:=hI.nums;have NUM:=Th hnum;have ND:=Th hnd;have US:=Th hus;have HI:=Th hI;have HT:=Th hT;have HTB:=Th htb;have HPL:=Th hP.lt
 have USZ:Hid (∀ j∈root :: nums,j<65536):=fun j hj=>by have h1:=Xgc (hus j hj);have h2:=hP.size;omega
 obtain ⟨N,hN⟩:∃ N,(nodes H T).length=N:=⟨_,rfl⟩;have NL:=Th hN
 have NN:Hid (nums.length+1=N):=by
  have h1:=congrArg List.length hnum;simp only [Zl,natsI,Zz] at h1;show _=_;omega
 rw [hN] at hk;have HK:=Th hk;have HE:=Th he
 have hNb:N≤400000:=by omega
 clear hP hT htb hI hnum hnd hus hN hk he
 go_enter func72,ntmps72
 go_upto_region 2 with (go_at_call 47;refine AL.out.mono ?_;rintro e w1 ⟨lv,pv,M1,Lt,rfl,hA⟩;have A1:=Th hA;clear hA)
 obtain ⟨la,lc,hlv⟩:=Xac A1.out.lrow;subst hlv;obtain ⟨pa,pc,hpv⟩:=Xac A1.out.prow;rw [NL.out] at hpv;subst hpv;have PR:=Th (prs_of A1.out.lrow (fun q hq=>(A1.out.keys q hq).bytes))
 have KT:Hid (Keys (Lt.map (·.2))):=by show Keys _;rw [A1.out.ents];exact HI.out.keys
 have LTB:Hid (Lt.length≤100000):=by have h1:=congrArg List.length A1.out.ents;rw [Zl] at h1;have:=HE.out;show _≤_;omega
 have MO:=Th (most_any PR.out KT.out (by have:=LTB.out;omega));obtain ⟨mp,hmp⟩:∃ mp,mostP (Lt.map (·.2))=mp:=⟨_,rfl⟩;rw [hmp] at MO;have MP:=Th hmp;clear hmp;obtain ⟨ll,hll⟩:∃ ll,Lt.length=ll:=⟨_,rfl⟩;rw [hll];rw [hll] at MO;have LLE:=Th hll;have OO:Hid (Step M M1 w w1):=A1.out.step;clear hll
 by_cases hle:N≤mp
 ·have hle':(N:Int)≤mp:=by omega
  go_wp2_with (go_at_call 100;refine MO.out.mono ?_;rintro e w2 ⟨rfl,hO2⟩;have O2:=Th hO2;clear hO2)
  go_ret;have h1:=A1.out.pool.past O2.out;rw [NL.out] at h1;refine ⟨M1,u,pg,H,T,rfl,⟨by rw [NL.out];exact h1.more (by omega),HI.out,rfl,?_,rfl,fun j=>?_,fun _ _=>rfl,fun _ h=>h,fun _ h=>h,OO.out.then O2.out⟩⟩
  ·have h2:=MP.out
   rw [A1.out.ents] at h2
   rw [h2,NL.out];exact hle
  ·constructor
   ·intro hu
    by_cases hx:∃ n∈nodes H T,n.id=(j:Nat)
    ·exact .inr hx
    ·exact .inl ⟨hu,fun n hn e=>hx ⟨n,hn,e⟩⟩
   ·rintro (⟨h,_⟩ | ⟨n,hn,e⟩)
    ·exact h
    ·obtain ⟨id,h2,h3,_⟩:=HI.out.page n hn
     obtain rfl:id=j:=by omega
     exact h3
 ·have hle':¬(N:Int)≤mp:=by omega
  have hdec:decide ((N:Int)≤mp)=false:=decide_eq_false hle'
  go_upto_region 4 with (go_at_call 100;refine MO.out.mono ?_;rintro e w2 ⟨rfl,hO2⟩;have O2:=Th hO2;clear hO2)
  have HLE:=Th hle;clear hle hle' hdec;obtain ⟨G,H',t',q1,q2,q3,q4,q5,q6,q7,q8,q9⟩:=packs_all (l:=Lt.map (·.2)) (by rw [A1.out.ents];exact HI.out.up) KT.out
  rw [MP.out] at q9;have Q1:=Th q1;have Q2:=Th q2;have Q3:=Th q3;have Q4:=Th q4;have Q5:=Th q5;have Q6:=Th q6;have Q7:=Th q7;have Q8:=Th q8
  have PA:Hid (∀ w2,Only [] w1 w2→Calls prog 101 #[.slice la ll lc] w2 fun e w'=>∃ v' ns,e=.returned v'∧PacksRes w2 w' M1 (G++[t'.top]) v' ns):=fun w2 hO=>by
   have h1:=prs_of (Xad A1.out.lrow hO) (fun q hq=>((A1.out.keys q hq).past hO).bytes);rw [←LLE.out];exact packs_any h1 (fun q hq=>(A1.out.keys q hq).past hO) KT.out (by have:=LTB.out;omega) (fun x hx=>Ye (A1.out.pool.lt x hx) hO.size) q1 (by rw [Ze,Zt];have:=HLE.out;omega)
  obtain ⟨gl,hgl⟩:∃ gl,G.length=gl:=⟨_,rfl⟩;rw [hgl] at q9;have Q9:=Th q9;have GL:=Th hgl;obtain ⟨nl,hnl⟩:∃ nl,nums.length=nl:=⟨_,rfl⟩;have NLE:=Th hnl
  obtain rfl:nl+1=N:=by rw [←hnl];exact NN.out
  have hgn:gl+1≤nl:=by have:=HLE.out;omega
  clear q1 q2 q3 q4 q5 q6 q7 q8 hgl hnl
  go_upto_region 5 with (first
   | (go_at_call 101;refine (PA.out _ O2.out).mono ?_;rintro e w3 ⟨v',ns,rfl,hR⟩;have R3:=Th hR;clear hR))
  have hnsl:ns.length=gl+1:=by have:=congrArg List.length R3.out.nds;rw [Zl,Ze,Zt,GL.out] at this;exact this
  have NSL:=Th hnsl;obtain ⟨na,nc,hnv⟩:=Xac (R3.out.rows.prow (v',ns) (by simp)).own;rw [hnsl] at hnv;subst hnv;have O3:=Th (O2.out.trans R3.out.rows.only (by simp));have PR3:=Th (Xad A1.out.prow O2.out);obtain ⟨pao,pcap,hpv,hpc,hpr⟩:=(RowOn.of PR3.out).shape;rw [NL.out] at hpc hpv hpr;simp only [Value.slice.injEq,true_and] at hpv;obtain ⟨rfl,rfl⟩:=hpv;obtain ⟨pb,rfl,hpcell⟩:=hpr (by omega)
  have PCL:Hid (∀ j,j<nl→w2.cell? ⟨pb,1+j,none⟩=some (.int .i64 (nums.getD j 0:Nat))):=fun j hj=>by
   rw [hpcell (1+j) (by omega),NUM.out]
   have h1:j<nums.length:=by rw [NLE.out];exact hj
   rw [Nat.add_comm 1 j];simp only [natsI,intsC,Zx,Zd,Zr,Zc h1,Xe];rw [Zf,Zc h1];rfl
  have hpc1:¬pc-1=0:=by omega
  have hpc2:nl≤pc-1:=by omega
  clear hpr hpcell hnsl
  go_upto_region 6 with fail
  obtain ⟨φ,hφ⟩:∃ φ:Int→Int,ren nums (fun _=>(root:Int))=φ:=⟨_,rfl⟩;have PHI:=Th hφ;obtain ⟨res,hres⟩:∃ res,G++[t'.top]=res:=⟨_,rfl⟩;have RES:=Th hres
  have RIN:Hid (∀ i n,res[i]?=some n→(i<gl→n.id = -1-(i:Int)∧φ n.id=(nums.getD i 0:Nat))∧(i=gl→n.id=0∧φ n.id=(root:Int))∧∀ c∈n.cs,∃ j,j<gl∧IntKind.i64.wrap (-1-c)=(j:Int)∧φ c=(nums.getD j 0:Nat)):=fun i n hn=>by
   rw [←hres] at hn;refine ⟨fun hi=>?_,fun hi=>?_,fun c hc=>?_⟩
   ·rw [Xo (by rw [GL.out];exact hi)] at hn
    have h1:=congrArg (·[i]?) Q3.out;simp only [Zr,hn,Xe] at h1;have h2:=ids_get h1.symm;rw [Yd] at h2;exact ⟨h2,by rw [h2,←hφ,Xfy]⟩
   ·subst hi
    rw [Yo (by rw [GL.out];exact Zq _),GL.out] at hn;simp at hn
    have h2:n.id=0:=by rw [←hn,Tr.top_id];exact Q2.out
    exact ⟨h2,by rw [h2,←hφ,Xeg _ _ (Int.le_refl 0)]⟩
   ·have hbel:(below H' t').Perm G:=List.Perm.cons_inv ((show (t'.top :: below H' t').Perm (G++[t'.top]) from Q7.out).trans (List.perm_append_singleton _ _))
    have h3:=Xdw (Q7.out.mem_iff.2 (Zm hn)) hc;have h4:=(hbel.map (·.id)).mem_iff.1 h3;rw [Q3.out] at h4;obtain ⟨j,hj,rfl⟩:=Xie h4;rw [Yd];refine ⟨j,by rw [←GL.out];exact hj,by rw [Yi];have:=GL.out;omega,by rw [←hφ,Xfy]⟩
  clear hφ hres
  have RNS:Hid (ns.map (·.n)=res):=by show _=_;rw [R3.out.nds,RES.out]
  have ROW3:Hid (RowsAt w2 w3 M1 [(.slice na (gl+1) nc,ns)] [] ns):=R3.out.rows;have RTS:=Th R3.out.roots;have T2:Hid (Xax w2 tb p root):=O2.out.blk (OO.out.1.blk HT.out HTB.out) (by simp)
  have M1L:Hid (∀ x∈M1,x<w2.heap.size):=fun x hx=>Ye (A1.out.pool.lt x hx) O2.out.size
  have PBL:Hid (pb<w2.heap.size):=by
   have h1:=Xbk A1.out.prow (k:=pb) rfl;have:=O2.out.size;show _<_;omega
  go_wp2_with fail
  go_loopg [40] (gl+1) (fun gk s40 wr=>∃ (i:Nat) (ms:List MNd),gk=gl+1-i∧i≤gl+1∧s40=.int .i64 i∧RowsAt w2 wr M1 [(.slice na (gl+1) nc,ns)] [] ms∧ms.map (·.n)=(res.take i).map (mapN φ)++res.drop i∧ms.map (·.nb)=ns.map (·.nb)∧ms.map (·.root)=ns.map (·.root))
  case atStart=>exact ⟨0,ns,rfl,Yc _,rfl,ROW3.out,by simp [RNS.out],rfl,rfl⟩
  case round =>
   obtain ⟨i,ms,hgk,hi,rfl,hrw,hns,hnb,hrt⟩:=hrel;obtain ⟨wA,rfl⟩:∃ wA,wA=wr:=⟨_,rfl⟩;have HGK:=Th hgk;have RA:=Th hrw;have NSA:=Th hns;have NBA:=Th hnb;have RTA:=Th hrt
   have hi0:(0:Int)≤i:=by omega
   clear hgk hrw hns hnb hrt
   by_cases hlt:i<gl+1
   ·have hlt':(i:Int)<gl+1:=by omega
    have hrl:res.length=gl+1:=by have:=congrArg List.length RNS.out;rw [Zl,NSL.out] at this;exact this.symm
    obtain ⟨nd,hnd⟩:∃ nd,res[i]?=some nd:=⟨_,Zc (by omega)⟩
    obtain ⟨m,hm,hmn⟩:∃ m,ms[i]?=some m∧m.n=nd:=by
     have h1:=congrArg (·[i]?) NSA.out;simp only [Zr] at h1;rw [Yo (by simp;exact Nat.min_le_left _ _),Xh,Zl,Zj,Yt (by omega),show i+(i-i)=i by omega,hnd] at h1
     exact Xz.1 h1
    obtain ⟨m0,hm0⟩:∃ m0,ns[i]?=some m0:=⟨_,Zc (by rw [NSL.out];exact hlt)⟩
    have hnbi:m.nb=m0.nb:=by
     have h1:=congrArg (·[i]?) NBA.out;simp only [Zr,hm,hm0,Xe,Zw] at h1;exact h1
    have hrti:m.root=decide (i=gl):=by
     have h1:=congrArg (·[i]?) RTA.out;simp only [Zr,hm,hm0,Xe,Zw] at h1;rw [h1,RTS.out i m0 hm0,NSL.out];exact decide_eq_decide.2 (by omega)
    have hsplit:ms=ms.take i++m :: ms.drop (i+1):=by
     have h1:=Yf i ms;rw [Xdg hm] at h1;exact h1.symm
    have SPL:=Th hsplit;have RIX:=Th (RIN.out i nd hnd);have HND:=Th hnd;have HMN:=Th hmn;have HRT:=Th hrti;obtain ⟨ng,nc',hnv,_,hncell⟩:=(RA.out.prow (.slice na (gl+1) nc,ns) (by simp)).get hm0;simp only [Value.slice.injEq] at hnv;obtain ⟨rfl,hnv2,rfl⟩:=hnv;rw [←hnbi] at hncell;have A0:Hid (NodeAt wA M1 m):=RA.out.nodes.at_ m (Zm hm);have MNW:Hid (∀ x∈m.blocks,w2.heap.size≤x):=RA.out.nodes.new m (Zm hm);obtain ⟨ca,cc,hcv⟩:=Xac A0.out.kids;obtain ⟨cn,hcn⟩:∃ cn,m.n.cs.length=cn:=⟨_,rfl⟩;have CN:=Th hcn;rw [hcn] at hcv;have CV:=Th hcv
    have b4:=A0.out.blk.cell 4;simp only [Zd,Zb] at b4;rw [hcv] at b4
    have hcnb:cn≤1000000:=by
     have h1:=Xdb Q4.out (Q7.out.mem_iff.2 (by rw [RES.out];exact Zm hnd));have h2:=Xca (Q8.out nd (by rw [RES.out];exact Zm hnd)).1
     rw [←hcn,hmn,h1]
     split <;> omega
    clear hnd hm hmn hm0 hrti hnbi hsplit hnv2 hcn hcv hrl
    go_wp2_with fail
    go_loopg [50] cn (fun gk s50 wq=>∃ (j:Nat) (mi:MNd),gk=cn-j∧j≤cn∧s50=.int .i64 j∧Turn wA wq M1 m mi∧mi.cv=m.cv∧mi.n={ m.n with cs:=(m.n.cs.take j).map φ++m.n.cs.drop j })
    case atStart=>exact ⟨0,m,rfl,Yc _,rfl,Turn.refl A0.out,rfl,by simp⟩
    case round =>
     obtain ⟨j,mi,hgj,hj,rfl,hT,hcv2,hn2⟩:=hrel;have HGJ:=Th hgj;have TM:=Th hT;have CV2:=Th (hcv2.trans CV.out);have N2:=Th hn2
     have hj0:(0:Int)≤j:=by omega
     clear hgj hT hcv2 hn2
     by_cases hjl:j<cn
     ·have hjl':(j:Int)<cn:=by omega
      obtain ⟨c,hc⟩:∃ c,m.n.cs[j]?=some c:=⟨_,Zc (by rw [CN.out];exact hjl)⟩
      have hlen2:mi.n.cs.length=cn:=by
       rw [N2.out];simp only [Ze,Zl,Zj,Zy,CN.out];omega
      have hc2:mi.n.cs[j]?=some c:=by
       rw [N2.out];show ((m.n.cs.take j).map φ++m.n.cs.drop j)[j]?=_;rw [Yo (by simp;omega),Zl,Zj,CN.out,Yt hj,Wd,Xh,Wm]
       exact hc
      obtain ⟨ca',cc',hcv3,hcap3,hcr⟩:=TM.out.at_.crow;rw [CV2.out,hlen2] at hcv3;simp only [Value.slice.injEq,true_and] at hcv3;obtain ⟨rfl,rfl⟩:=hcv3;obtain ⟨cg,rfl,hcell⟩:=hcr (by rw [hlen2];omega)
      have hk1:=hcell j c hc2;obtain ⟨l,hl,hwr,hfc⟩:=RIX.out.2.2 c (by rw [←HMN.out];exact Zm hc)
      have hl2:l<nl:=by omega
      have OW:Hid (Only [] w2 wr):=RA.out.only.trans TM.out.only (fun x hx=>.inr (MNW.out x hx));have hsp:=OW.out.cell (PCL.out l hl2) (by simp);have d4:=TM.out.at_.blk.cell 4;simp only [Zd,Zb] at d4;rw [TM.out.nb,CV2.out] at d4
      have hcgb:cg∈mi.blocks:=by simp [MNd.blocks,CV2.out,Value.ownBlock]
      have hfz:wr.frozen? ⟨cg,j,none⟩=false:=by
       have h1:=TM.out.at_.kids;rw [CV2.out] at h1;obtain ⟨cs,hb⟩:=Xag h1 (k:=cg) rfl;exact hb.frozen j
      have TK:=Th (kid_turn (i:=j) TM.out.at_ (by rw [CV2.out,hlen2]) (by rw [hlen2];exact hjl) (nums.getD l 0:Nat));have HC:=Th hc;have HFC:=Th hfc
      have hl0:(0:Int)≤l:=by omega
      have hl3:(l:Int)<nl:=by omega
      obtain ⟨nlv,hnlv⟩:∃ nlv,nums.getD l 0=nlv:=⟨_,rfl⟩;rw [hnlv] at hsp TK HFC;clear hc hc2 hfc hlen2 hcell hcap3 hnlv hcr
      go_upto_region 12 with fail
      refine Xbw [(11,fun w'=>w'.cell? ⟨m.nb,4,none⟩=some (.slice (some ⟨cg,0,none⟩) cn cc)∧w'.cell? ⟨pb,1+l,none⟩=some (.int .i64 (nlv:Nat)))] (by kernel_rfl) (by simp;exact ⟨((Only.refl [] _).drew).cell d4 (by simp),((Only.refl [] _).drew).cell hsp (by simp)⟩) (fun hH=>?_)
      refine wkA 0 55 (.pointer (some ⟨m.nb,0,none⟩)) hH fun hH=>?_
      refine wkA 1 56 (.pointer (some ⟨m.nb,0,none⟩)) hH fun hH=>?_
      refine wkA 2 57 (.pointer (some ⟨m.nb,4,none⟩)) hH fun hH=>?_
      refine Xbc 3 58 (.slice (some ⟨cg,0,none⟩) cn cc) 0 11 rfl rfl rfl (by kernel_rfl) (by kernel_rfl) (by kernel_rfl) (by kernel_rfl) (by rfl) (by kernel_rfl) (fun _ _ _ h=>h) (Or.inl ⟨by rfl,fun w1 hw1=>by obtain ⟨hc2,hc3⟩:=hw1;go_simp⟩) hH (fun hH=>?_)
      (try simp only [Act.put,qSa,qSz,qSs])
      refine wkA 4 59 (.int .i64 j) hH fun hH=>?_
      refine wkA 5 60 (.slice (some ⟨pb,1,none⟩) nl (pc-1)) hH fun hH=>?_
      refine wkA 6 61 (.int .i64 c) hH fun hH=>?_
      refine wkA 7 62 (.int .i64 l) hH fun hH=>?_
      refine wkA 8 63 (.pointer (some ⟨pb,1+l,none⟩)) hH fun hH=>?_
      refine Xbc 9 64 (.int .i64 (nlv:Nat)) 0 11 rfl rfl rfl (by kernel_rfl) (by kernel_rfl) (by kernel_rfl) (by kernel_rfl) (by rfl) (by kernel_rfl) (fun _ _ _ h=>h) (Or.inl ⟨by rfl,fun w1 hw1=>by obtain ⟨hc2,hc3⟩:=hw1;go_simp⟩) hH (fun hH=>?_)
      (try simp only [Act.put,qSa,qSz,qSs])
      refine wkA 10 65 (.pointer (some ⟨cg,j,none⟩)) hH fun hH=>?_
      refine woneA 11 fun K hK=>?_
      go_wp2_with fail
      refine hK.out _ _ (held1z (by rfl)) (fun hH=>?_);clear hK K hH
      (try simp only [Act.put,qSa,qSz,qSs])
      refine wdone (by kernel_rfl) ?_ _;have TT:Hid (Turn wA (wr.setCell ⟨cg,j,none⟩ (.int .i64 (nlv:Nat))).drew M1 m _):=TM.out.trans (TK.out.then (Only.refl _ _).drew);clear hk1 hsp d4 hfz hwr
      go_wp2_with fail
      go_roundg (cn-(j+1))
      case measure=>have:=HGJ.out;omega
      case rel =>
       refine ⟨j+1,_,rfl,by omega,by go_num,TT.out,CV2.out.trans CV.out.symm,?_⟩;rw [N2.out];simp only [Nd.mk.injEq,true_and];rw [Vc _ _ (by simp;omega),Zl,Zj,CN.out,Yt hj,Wd,Xdg HC.out,qSz,Xg,HC.out,Zs,Zu,←HFC.out]
       rfl
     ·have hjc:j=cn:=by omega
      subst hjc
      have hnl2:¬(j:Int)<j:=by omega
      have hmiN:mi.n={ m.n with cs:=m.n.cs.map φ }:=by
       rw [N2.out,Ya (by rw [CN.out];exact Zq _),Xq (by rw [CN.out];exact Zq _),Xj]
      have MIN:=Th hmiN;have MA:=TM.out.at_;have c0:=MA.blk.cell 0;have z0:=MA.blk.frozen 0;simp only [Zb] at c0;rw [TM.out.nb] at c0 z0;have OW:Hid (Only [] w2 wr):=RA.out.only.trans TM.out.only (fun x hx=>.inr (MNW.out x hx));have t1:=(OW.out.blk T2.out (by simp)).cell 1;simp only [Zd,Zb] at t1
      have ML:Hid (∀ x∈M1,x<wr.heap.size):=fun x hx=>Ye (M1L.out x hx) OW.out.size
      have T5:=Th (Xmt MA ML.out (root:Int));obtain ⟨m5,hm5⟩:∃ m5:MNd,({ mi with n:={ mi.n with id:=(root:Int) } }:MNd)=m5:=⟨_,rfl⟩;rw [hm5,TM.out.nb] at T5;clear MA hmiN
      go_upto_region 15 with fail
      obtain ⟨w5,hw5⟩:∃ w5,wr.setCell ⟨m.nb,0,none⟩ (.int .i64 root)=w5:=⟨_,rfl⟩;rw [hw5] at T5 ⊢;clear hw5 c0 z0 t1
      have N5:Hid (m5.nb=m.nb∧m5.root=m.root∧m5.n=⟨root,m.n.leaf,m.n.es,m.n.cs.map φ⟩):=by
       show _∧_∧_;rw [←hm5];exact ⟨TM.out.nb,TM.out.root,by rw [MIN.out]⟩
      clear hm5;have T05:=Th (TM.out.trans T5.out);have O5:Hid (Only [] w2 w5):=RA.out.only.trans T05.out.only (fun x hx=>.inr (MNW.out x hx));have c1:=T05.out.at_.blk.cell 1;simp only [Zd,Zb] at c1;rw [N5.out.1,N5.out.2.1,HRT.out] at c1
      by_cases hig:i=gl
      ·have hnd2:nd.id=0∧φ nd.id=(root:Int):=RIX.out.2.1 hig
       have HND2:=Th hnd2;rw [decide_eq_true hig] at c1;have HIG:=Th hig;clear hig hnd2
       go_wp2_with fail
       go_roundg (gl+1-(i+1))
       case measure=>have:=HGK.out;omega
       case rel =>
        refine ⟨i+1,ms.take i++m5 :: ms.drop (i+1),rfl,by omega,by go_num,?_,?_,?_,?_⟩
        ·have h1:=RA.out
         rw [SPL.out] at h1;exact h1.turn T05.out
        ·exact ren_step NSA.out HND.out (by rw [N5.out.2.2,HMN.out,mapN,HND2.out.2])
        ·rw [Xhm SPL.out (by rw [N5.out.1])];exact NBA.out
        ·rw [Xhm SPL.out (by rw [N5.out.2.1])];exact RTA.out
      ·have hnd2:=RIX.out.1 (by omega)
       have HND2:=Th hnd2;have hsp:=O5.out.cell (PCL.out i (by omega)) (by simp);rw [decide_eq_false hig] at c1;have c0:=T05.out.at_.blk.cell 0;have z0:=T05.out.at_.blk.frozen 0;simp only [Zb] at c0;rw [N5.out.1] at c0 z0
       have hinl:(i:Int)<nl:=by omega
       obtain ⟨nlv,hnlv⟩:∃ nlv,nums.getD i 0=nlv:=⟨_,rfl⟩;rw [hnlv] at hsp HND2;have T6:=Th (Xmt T05.out.at_ (fun x hx=>Ye (M1L.out x hx) O5.out.size) (nlv:Nat));obtain ⟨m6,hm6⟩:∃ m6:MNd,({ m5 with n:={ m5.n with id:=((nlv:Nat):Int) } }:MNd)=m6:=⟨_,rfl⟩;rw [hm6,N5.out.1] at T6
       have N6:Hid (m6.nb=m.nb∧m6.root=m.root∧m6.n=⟨nlv,m.n.leaf,m.n.es,m.n.cs.map φ⟩):=by
        show _∧_∧_;rw [←hm6];exact ⟨N5.out.1,N5.out.2.1,by rw [N5.out.2.2]⟩
       clear hm6;clear hig hnd2 hnlv
       go_wp2_with fail
       go_roundg (gl+1-(i+1))
       case measure=>have:=HGK.out;omega
       case rel =>
        refine ⟨i+1,ms.take i++m6 :: ms.drop (i+1),rfl,by omega,by go_num,?_,?_,?_,?_⟩
        ·have h1:=RA.out
         rw [SPL.out] at h1;exact h1.turn (T05.out.trans T6.out)
        ·exact ren_step NSA.out HND.out (by rw [N6.out.2.2,HMN.out,mapN,HND2.out.2])
        ·rw [Xhm SPL.out (by rw [N6.out.1])];exact NBA.out
        ·rw [Xhm SPL.out (by rw [N6.out.2.1])];exact RTA.out
   ·have hin:i=gl+1:=by omega
    subst hin
    have hnlt:¬((gl+1:Nat):Int)<gl+1:=by omega
    have hrl:res.length=gl+1:=by have:=congrArg List.length RNS.out;rw [Zl,NSL.out] at this;exact this.symm
    have hmsn:ms.map (·.n)=res.map (mapN φ):=by
     rw [NSA.out,Ya (by omega),Xq (by omega),Xj]
    have MSN:=Th hmsn
    have hmsl:ms.length=gl+1:=by have:=congrArg List.length hmsn;simpa [hrl] using this
    have MSL:=Th hmsl
    have IDS:Hid (ms.map (·.n.id)=natsI (nums.take gl++[root])):=by
     show _=_;have h1:=packed_ids (root:=root) Q2.out Q3.out (nums:=nums) (by rw [GL.out,NLE.out];omega)
     rw [PHI.out,RES.out,←hmsn,GL.out,Yw] at h1;exact h1
    have hndt:(nums.take gl++[root]).Nodup:=by
     refine Xi.2 ⟨(Xn.1 ND.out).2.sublist (List.take_sublist _ _),by simp,fun a ha b hb e=>?_⟩;simp at hb
     subst hb;subst e
     exact (Xn.1 ND.out).1 (Yn ha)
    have NDT:=Th hndt
    have IDN:Hid ((ms.map (·.n.id)).Nodup):=by
     show List.Nodup _;rw [IDS.out];exact Xf.2 (hndt.imp fun hab e=>hab (by omega))
    have SUBN:Hid (∀ j∈nums.take gl++[root],j∈root :: nums):=fun j hj=>by
     rcases Za.1 hj with h | h
     ·exact Yg _ (Yn h)
     ·simp at h;rw [h];simp
    have MSF:Hid (∀ (i:Nat) (m:MNd),ms[i]?=some m→∃ id:Nat,m.n.id=((id:Nat):Int)∧(nums.take gl++[root])[i]?=some id∧u.getD id false=true∧Keys m.n.es∧Kids m.n∧fitsP m.n.leaf m.n.es=true∧m.root=decide (i=gl)):=fun i m hm=>by
     have h1:=congrArg (·[i]?) IDS.out;simp only [Zr,hm,Xe,natsI] at h1;obtain ⟨id,h2,h3⟩:=Xz.1 h1.symm;have h4:=SUBN.out id (Zm h2)
     have h5:m.n∈res.map (mapN φ):=by rw [←hmsn];exact Zi.2 ⟨m,Zm hm,rfl⟩
     obtain ⟨n0,h6,h7⟩:=Zi.1 h5;have h8:=Q8.out n0 (by rw [RES.out];exact h6)
     have h9:=packed_kids (root:=root) Q3.out Q4.out Q7.out (nums:=nums) (by rw [GL.out,NLE.out];omega) (fun j hj=>USZ.out j (Yg _ (Yn hj))) m.n (by rw [PHI.out,RES.out];exact h5);refine ⟨id,h3.symm,h2,US.out id h4,by rw [←h7];exact h8.2,h9,by rw [←h7];exact h8.1,?_⟩
     have h10:=congrArg (·[i]?) RTA.out;simp only [Zr,hm,Xe] at h10;obtain ⟨m0,h11,h12⟩:=Xz.1 h10.symm;rw [←h12,RTS.out i m0 h11,NSL.out];exact decide_eq_decide.2 (by omega)
    have PB:Hid (PoolV wA p M1 u pg (k+2*(nl+1))):=by
     show PoolV _ _ _ _ _ _;have h1:=(A1.out.pool.past O2.out).past RA.out.only;rw [NL.out] at h1;exact h1
    have TBN:Hid (tb∉M1):=P.Step.keep OO.out HT.out.lt HTB.out;have PBN:Hid (pb∉M1):=(A1.out.poff pb rfl).2;have TA:Hid (Xax wA tb p root):=RA.out.only.blk T2.out (by simp);clear hrl hmsn hmsl hndt
    go_wp2_with fail
    go_loopg [89] (gl+1) (fun gk s89 wr=>∃ (i:Nat) (M':List Nat) (pg':Nat→List UInt8),gk=gl+1-i∧i≤gl+1∧s89=.int .i64 i∧WrJ wA p M1 u pg (k+2*(nl+1)) ms i M' pg' wr)
    case atStart=>exact ⟨0,M1,pg,rfl,Yc _,rfl,WrJ.start ms PB.out⟩
    case round =>
     obtain ⟨i,M',pg',hgk,hi,rfl,hW⟩:=hrel;have HGI:=Th hgk;have WJ:=Th hW
     have hi0:(0:Int)≤i:=by omega
     clear hgk hW
     by_cases hlt:i<gl+1
     ·have hlt':(i:Int)<gl+1:=by omega
      obtain ⟨m,hm⟩:∃ m,ms[i]?=some m:=⟨_,Zc (by rw [MSL.out];exact hlt)⟩
      obtain ⟨m0,hm0,hmb⟩:∃ m0,ns[i]?=some m0∧m0.nb=m.nb:=by
       have h1:=congrArg (·[i]?) NBA.out;simp only [Zr,hm,Xe] at h1;exact Xz.1 h1.symm
      obtain ⟨id,f1,f2,f3,f4,f5,f6,f7⟩:=MSF.out i m hm;obtain ⟨ng,nc',hnv,_,hncell⟩:=((RA.out.prow (.slice na (gl+1) nc,ns) (by simp)).step WJ.out.step).get hm0;simp only [Value.slice.injEq] at hnv;obtain ⟨rfl,hnv2,rfl⟩:=hnv;rw [hmb] at hncell;have t0:=(WJ.out.step.1.blk TA.out TBN.out).cell 0;simp only [Zb] at t0;have WR:=Th (Xhv WJ.out.pool (by have:=HK.out;omega) ((RA.out.nodes.at_ m (Zm hm)).step WJ.out.step) f1 f3 f4 f5 f6)
      have HM:=Th hm;have F1:=Th f1;clear hm hm0 hmb hnv2 f1 f2 f3 f4 f5 f6 f7
      go_wp2_with (go_at_call 29;refine WR.out.mono ?_;rintro e w5 ⟨M5,q,rfl,hq5,hP5,hS5⟩;have Q5':=Th hq5;have P5:=Th hP5;have S5:=Th hS5;clear hq5 hP5 hS5)
      go_roundg (gl+1-(i+1))
      case measure=>have:=HGI.out;omega
      case rel=>exact ⟨i+1,M5,_,rfl,by omega,by go_num,WJ.out.next IDN.out HM.out F1.out Q5'.out P5.out S5.out⟩
     ·have hin2:i=gl+1:=by omega
      subst hin2
      have hnlt2:¬((gl+1:Nat):Int)<gl+1:=by omega
      have hwg:IntKind.i64.wrap (gl:Int)=gl:=by rw [Yi];omega
      have hg1:(gl:Int)≤nl:=by omega
      have hg2:¬pc-1-gl=0:=by omega
      have hg3:gl≤nl:=by omega
      go_upto_region 26 with fail
      obtain ⟨rl,hrl⟩:∃ rl,nl-gl=rl:=⟨_,rfl⟩;obtain ⟨rel,hrel⟩:∃ rel,nums.drop gl=rel:=⟨_,rfl⟩;have RELE:=Th hrel
      have RELL:Hid (rel.length=rl):=by show _=_;rw [←hrel,Zy,NLE.out,hrl]
      have RELC:Hid (∀ j,j<rl→∃ id,rel[j]?=some id∧w2.cell? ⟨pb,1+gl+j,none⟩=some (.int .i64 (id:Nat))):=fun j hj=>by
       have h1:=PCL.out (gl+j) (by omega)
       have h2:gl+j<nums.length:=by rw [NLE.out];omega
       rw [Zf,Zc h2] at h1;refine ⟨nums[gl+j],by rw [←hrel,Xh,Zc h2],?_⟩
       rw [Va];exact h1
      have RELN:Hid (rel.Nodup∧∀ j∈rel,j∈root :: nums):=by
       show _∧_;rw [←hrel];exact ⟨(Xn.1 ND.out).2.sublist (List.drop_sublist _ _),fun j hj=>Yg _ (Ys hj)⟩
      rw [hrl]
      have hrlb:rl≤400000:=by omega
      clear hrel hrl
      go_loopg [109] rl (fun gk s109 wq=>∃ (i:Nat) (M2:List Nat),gk=rl-i∧i≤rl∧s109=.int .i64 i∧PoolV wq p M2 (Xeb u (rel.take i)) pg' (k+2*(nl+1)+2*(gl+1))∧Step M1 M2 wA wq)
      case atStart=>exact ⟨0,M',rfl,Yc _,rfl,WJ.out.pool,WJ.out.step⟩
      case round =>
       obtain ⟨i,M2,hgk,hi,rfl,hP2,hS2⟩:=hrel;have HGL:=Th hgk;have P2:=Th hP2;have S2:=Th hS2
       have hi0:(0:Int)≤i:=by omega
       clear hgk hP2 hS2
       by_cases hlt:i<rl
       ·have hlt':(i:Int)<rl:=by omega
        obtain ⟨id,hid,hcl⟩:=RELC.out i hlt;have x1:=S2.out.1.cell (RA.out.only.cell hcl (by simp)) PBN.out;have t0:=(S2.out.1.blk TA.out TBN.out).cell 0;simp only [Zb] at t0
        have RLS:=Th (P2.out.release (id:=id) ((Xfa _ _ _).2 ⟨US.out id (RELN.out.2 id (Zm hid)),fun hm=>by
         obtain ⟨a,ha⟩:=Xr.1 hm;have ha2:=(Zh.1 ha).1;rw [Zj] at ha2;rw [Yq,if_pos (by omega)] at ha;have:=(List.getElem?_inj (by have:=RELL.out;omega) RELN.out.1).1 (ha.trans hid.symm)
         omega⟩))
        have HID:=Th hid;clear hid hcl
        go_wp2_with (go_at_call 95;refine RLS.out.mono ?_;rintro e w5 ⟨M5,rfl,hP5,hS5⟩;have P5:=Th hP5;have S5:=Th hS5;clear hP5 hS5)
        go_roundg (rl-(i+1))
        case measure=>have:=HGL.out;omega
        case rel =>
         refine ⟨i+1,M5,rfl,by omega,by go_num,?_,S2.out.trans S5.out⟩;rw [Xg,HID.out,Option.toList_some,Xon];exact P5.out
       ·have hin3:i=rl:=by omega
        subst hin3
        have hnlt3:¬(i:Int)<i:=by omega
        go_wp2_with fail
        go_ret;have hall:rel.take i=rel:=Ya (by rw [RELL.out];exact Zq _)
        have hp2:=P2.out;rw [hall] at hp2
        have hnle:gl≤nums.length:=by rw [NLE.out];omega
        have hpk:=packed_in (u:=Xeb u rel) (pg:=pg') (nums:=nums) Q2.out Q3.out Q4.out Q5.out Q7.out Q8.out ND.out (by rw [GL.out];exact hnle) (fun j hj=>by
         rw [GL.out] at hj
         have h1:j∈root :: nums:=by
          rcases Zg.1 hj with h | h
          ·rw [h];simp
          ·exact Yg _ (Yn h)
         refine ⟨(Xfa _ _ _).2 ⟨US.out j h1,fun hm=>?_⟩,USZ.out j h1⟩;rw [←RELE.out] at hm
         rcases Zg.1 hj with h | h
         ·subst h;exact (Xn.1 ND.out).1 (Ys hm)
         ·have h2:=(Xn.1 ND.out).2
          rw [←Yf gl nums] at h2
          exact (Xi.1 h2).2.2 j h j hm rfl) (fun m hm id hid=>by
         rw [PHI.out,RES.out,←MSN.out] at hm;obtain ⟨x,hx,rfl⟩:=Zi.1 hm;obtain ⟨a,ha⟩:=Xr.1 hx;have ha2:=(Zh.1 ha).1;obtain ⟨id2,f1,f2,_,_,_,_,f7⟩:=MSF.out a x ha
         obtain rfl:id2=id:=by rw [f1] at hid;omega
         have h1:=WJ.out.done a x (by rw [MSL.out] at ha2;exact ha2) ha id2 f1;rw [f7] at h1
         have h2:decide (a=gl)=decide (id2=root):=by
          refine decide_eq_decide.2 ⟨fun e=>?_,fun e=>?_⟩
          ·subst e
           rw [Yo (by simp;exact Nat.min_le_left _ _),Zj,NLE.out,Yt (by omega),Wd] at f2;simp at f2;exact f2.symm
          ·have h3:(nums.take gl++[root])[gl]?=some root:=by
            rw [Yo (by simp;exact Nat.min_le_left _ _),Zj,NLE.out,Yt (by omega),Wd];rfl
           rw [e] at f2;exact (List.getElem?_inj (by rw [MSL.out] at ha2;simp [NLE.out];omega) NDT.out).1 (f2.trans h3.symm)
         rw [←h2];exact h1)
        rw [PHI.out,GL.out] at hpk;obtain ⟨hin,_,hpid⟩:=hpk
        have hT1:∀ j:Nat,(∃ n∈nodes H T,n.id=(j:Nat))↔j∈root :: nums:=fun j=>by
         constructor
         ·rintro ⟨n,hn,e⟩
          have h1:(j:Int)∈(nodes H T).map (·.id):=Zi.2 ⟨n,hn,e⟩;rw [NUM.out] at h1;obtain ⟨x,hx,e2⟩:=Zi.1 h1
          obtain rfl:x=j:=by omega
          exact hx
         ·intro hj
          have h1:(j:Int)∈natsI (root :: nums):=Zi.2 ⟨j,hj,rfl⟩;rw [←NUM.out] at h1;obtain ⟨n,hn,e⟩:=Zi.1 h1;exact ⟨n,hn,e⟩
        have hT2:∀ j:Nat,(∃ n∈nodes H' (mapT φ t'),n.id=(j:Nat))↔j∈nums.take gl++[root]:=fun j=>by
         constructor
         ·rintro ⟨n,hn,e⟩
          have h1:=hpid.mem_iff.1 (Zi.2 ⟨n,hn,e⟩);obtain ⟨x,hx,e2⟩:=Zi.1 h1
          obtain rfl:x=j:=by omega
          exact hx
         ·intro hj
          have h1:=hpid.mem_iff.2 (Zi.2 ⟨j,hj,rfl⟩);obtain ⟨n,hn,e⟩:=Zi.1 h1;exact ⟨n,hn,e⟩
        refine ⟨rfl,M2,Xeb u rel,pg',H',mapT φ t',⟨?_,hin,?_,?_,Xjw _ _,fun j=>?_,fun j hj=>?_,fun j hj=>(hT1 j).2 (SUBN.out j ((hT2 j).1 hj)),fun Q hQ n hn=>by
         rw [Xdc] at hn;obtain ⟨m,hm,rfl⟩:=Zi.1 hn;have hpk:=packL_mem (Q:=Q) KT.out (fun e he=>ents_all HI.out.wf hQ e (by rw [A1.out.ents] at he;exact he))
         exact packs_mem Q1.out hpk.1 hpk.2 (fun n hn=>by cases hn) m (Q7.out.mem_iff.1 hm),?_⟩⟩
        ·rw [NL.out,Xdc,Zl,Q7.out.length_eq,Ze,Zt,GL.out]
         exact hp2
        ·show ents (seq H' (mapT φ t'))=_
         rw [Xhl,Q6.out,A1.out.ents]
        ·have h1:=MP.out
         rw [A1.out.ents] at h1;rw [h1,Xdc,Zl,Q7.out.length_eq,Ze,Zt,GL.out];exact Q9.out
        ·rw [Xfa,hT2]
         constructor
         ·rintro ⟨h1,h2⟩
          by_cases hj:j∈root :: nums
          ·right
           rcases Zg.1 hj with h | h
           ·rw [h];simp
           ·rw [←Yf gl nums] at h
            rcases Za.1 h with h | h
            ·exact Yb _ h
            ·rw [RELE.out] at h;exact absurd h h2
          ·exact .inl ⟨h1,fun n hn e=>hj ((hT1 j).1 ⟨n,hn,e⟩)⟩
         ·rintro (⟨h1,h2⟩ | h)
          ·refine ⟨h1,fun hm=>?_⟩
           obtain ⟨n,hn,e⟩:=(hT1 j).2 (RELN.out.2 j hm);exact h2 n hn e
          ·refine ⟨US.out j (SUBN.out j h),fun hm=>?_⟩
           rw [←RELE.out] at hm
           rcases Za.1 h with h | h
           ·have h2:=(Xn.1 ND.out).2
            rw [←Yf gl nums] at h2;exact (Xi.1 h2).2.2 j h j hm rfl
           ·simp at h
            subst h;exact (Xn.1 ND.out).1 (Ys hm)
        ·refine WJ.out.same j (fun m hm e=>?_)
         obtain ⟨a,ha⟩:=Xr.1 hm;obtain ⟨id2,f1,f2,_⟩:=MSF.out a m ha;rw [f1] at e
         obtain rfl:id2=j:=by omega
         obtain ⟨n,hn,e3⟩:=(hT1 id2).2 (SUBN.out id2 (Zm f2));exact hj n hn e3
        ·exact (OO.out.then (O2.out.trans RA.out.only (by simp))).trans S2.out
end T
namespace T
open Go Go.RowKit D B C G P H Tryz
structure PtrOn (w:World) (M:List Nat) (base:Nat) (v:Value) (ms:List MNd):Prop where
 own:RowOn w 75 1 v ms.length (ms.map ptrN)
 off:∀ k,v.ownBlock=some k→k∉M∧base≤k
theorem PtrOn.step {w w':World} {M M':List Nat} {base:Nat} {v:Value} {ms:List MNd} (h:PtrOn w M base v ms) (hS:Step M M' w w'):PtrOn w' M' base v ms :=
 ⟨h.own.later hS.1 (fun k hk=>(h.off k hk).1),fun k hk=>⟨P.Step.keep hS (h.own.lt hk) (h.off k hk).1,(h.off k hk).2⟩⟩
theorem PtrOn.get {w:World} {M:List Nat} {base:Nat} {v:Value} {ms:List MNd} (h:PtrOn w M base v ms) {i:Nat} {m:MNd} (hm:ms[i]?=some m):∃ g c,v=.slice (some ⟨g,0,none⟩) ms.length c∧ms.length≤c∧w.cell? ⟨g,i,none⟩=some (.pointer (some ⟨m.nb,0,none⟩)):=by
 have hi:=(Zh.1 hm).1;obtain ⟨ao,cap,h1,h2,h3⟩:=h.own.shape;obtain ⟨g,rfl,hc⟩:=h3 (by omega);refine ⟨g,cap,h1,h2,?_⟩;have:=hc i (by omega);rw [Zr,hm] at this;exact this
structure Writable (u:List Bool) (ms:List MNd):Prop where
 each:∀ m∈ms,∃ id:Nat,m.n.id=((id:Nat):Int)∧u.getD id false=true∧Keys m.n.es∧Kids m.n∧fitsP m.n.leaf m.n.es=true
 once:(ms.map (·.n.id)).Nodup
structure Wrote (pg pg1:Nat→List UInt8) (ms:List MNd):Prop where
 done:∀ m∈ms,∀ id:Nat,m.n.id=((id:Nat):Int)→Xel m.root m.n (pg1 id)
 same:∀ x:Nat,(∀ m∈ms,m.n.id≠((x:Nat):Int))→pg1 x=pg x
theorem Xmm {w:World} {p k tb root base H1:Nat} {M:List Nat} {u:List Bool} {pg:Nat→List UInt8} {T1:Tr H1} {ms:List MNd} {v:Value} (hP:PoolV w p M u pg k) (hT:Xax w tb p root) (htb:tb∉M) (hN:Nodes w M base ms) (hR:PtrOn w M base v ms) (hW:Writable u ms)
  (hI:∀ pg1,Wrote pg pg1 ms→InPages u pg1 root T1) (hk:k+2*ms.length+4*(nodes H1 T1).length≤990000) (he:(entsT T1).length≤100000) :
  Calls prog 40 #[.pointer (some ⟨tb,0,none⟩),v] w fun e w'=>e=.returned (.int .i64 0)∧∃ M' u' pg' H' T' pg1 M1 w1,Wrote pg pg1 ms∧TidyRes w1 w' p M1 u pg1 (k+2*ms.length) root T1 M' u' pg' (H':=H') T'∧Step M M1 w w1:=by
 obtain ⟨na,nc,hnv,_⟩:=hR.own.shape;subst hnv;have HP:=Th hP;have HT:=Th hT;have HTB:=Th htb;have HN:=Th hN;have HR:=Th hR;have HW:=Th hW;have HI:=Th hI;have HE:=Th he;obtain ⟨n,hn⟩:∃ n,ms.length=n:=⟨_,rfl⟩;have NL:=Th hn;rw [hn] at hk;rw [hn];have HK:=Th hk
 have hnb:n≤500000:=by omega
 clear hP hT htb hN hR hW hI hk he hn
 go_enter func40,ntmps40
 go_wp2_with fail
 go_loopg [10] n (fun gk s10 wr=>∃ (i:Nat) (M':List Nat) (pg':Nat→List UInt8),gk=n-i∧i≤n∧s10=.int .i64 i∧WrJ w p M u pg k ms i M' pg' wr)
 case atStart=>exact ⟨0,M,pg,rfl,Yc _,rfl,WrJ.start ms HP.out⟩
 case round =>
  obtain ⟨i,M',pg',hgk,hi,rfl,hJ⟩:=hrel;have HGI:=Th hgk;have WJ:=Th hJ
  have hi0:(0:Int)≤i:=by omega
  clear hgk hJ
  by_cases hlt:i<n
  ·have hlt':(i:Int)<n:=by omega
   obtain ⟨m,hm⟩:∃ m,ms[i]?=some m:=⟨_,Zc (by rw [NL.out];exact hlt)⟩;obtain ⟨id,f1,f3,f4,f5,f6⟩:=HW.out.each m (Zm hm);obtain ⟨ng,nc',hnv,_,hncell⟩:=(HR.out.step WJ.out.step).get hm;simp only [Value.slice.injEq] at hnv;obtain ⟨rfl,hnv2,rfl⟩:=hnv;have t0:=(WJ.out.step.1.blk HT.out HTB.out).cell 0;simp only [Zb] at t0;have WR:=Th (Xhv WJ.out.pool (by have:=HK.out;omega) ((HN.out.at_ m (Zm hm)).step WJ.out.step) f1 f3 f4 f5 f6)
   have HM:=Th hm;have F1:=Th f1;clear hm hnv2 f1 f3 f4 f5 f6
   go_wp2_with (go_at_call 29;refine WR.out.mono ?_;rintro e w5 ⟨M5,q,rfl,hq5,hP5,hS5⟩;have Q5':=Th hq5;have P5:=Th hP5;have S5:=Th hS5;clear hq5 hP5 hS5)
   go_roundg (n-(i+1))
   case measure=>have:=HGI.out;omega
   case rel=>exact ⟨i+1,M5,_,rfl,by omega,by go_num,WJ.out.next HW.out.once HM.out F1.out Q5'.out P5.out S5.out⟩
  ·have hin:i=n:=by omega
   subst hin
   have hnlt:¬(i:Int)<i:=by omega
   have WRO:Hid (Wrote pg pg' ms):=⟨fun m hm id hid=>by
    obtain ⟨a,ha⟩:=Xr.1 hm
    exact WJ.out.done a m (by have:=(Zh.1 ha).1;rw [NL.out] at this;exact this) ha id hid,WJ.out.same⟩
   have TD:=Th (tidies_any WJ.out.pool (WJ.out.step.1.blk HT.out HTB.out) (P.Step.keep WJ.out.step HT.out.lt HTB.out) (HI.out pg' WRO.out) (by have:=HK.out;omega) HE.out);obtain ⟨wB,rfl⟩:∃ wB,wB=wr:=⟨_,rfl⟩
   go_wp2_with (go_at_call 72;refine TD.out.mono ?_;rintro e w5 ⟨M5,u5,pg5,H5,T5,rfl,ht5⟩;have T5R:=Th ht5;clear ht5)
   go_ret;exact ⟨rfl,M5,u5,pg5,H5,T5,pg',M',wB,WRO.out,T5R.out,WJ.out.step⟩
end T
namespace T
open Go Go.RowKit D B C G P H Tryz
def renM (φ:Int→Int) (m:MNd):MNd:={ m with n:=mapN φ m.n }
theorem Nodes.turn {w w':World} {M:List Nat} {base:Nat} {A B:List MNd} {m m':MNd} (h:Nodes w M base (A++m :: B)) (hT:Turn w w' M m m') (hb:m'.blocks=m.blocks):Nodes w' M base (A++m' :: B):=by
 have hm:=h.at_ m (by simp);have hpw:=Zn.1 h.apart;have hpc:=Yh.1 hpw.2.1
 have hoth:∀ x,x∈A∨x∈B→NodeAt w' M x∧Apart m' x:=fun x hx=>hT.other hm (h.at_ x (by rcases hx with hx | hx <;> simp [hx])) (by
  rcases hx with hx | hx
  ·exact (hpw.2.2 x hx m (by simp)).symm
  ·exact hpc.1 x hx)
 have hin:∀ x∈A++m' :: B,x=m'∨x∈A∨x∈B:=fun x hx=>by
  rcases Za.1 hx with h1 | h1
  ·exact .inr (.inl h1)
  ·rcases Zg.1 h1 with h2 | h2
   ·exact .inl h2
   ·exact .inr (.inr h2)
 refine ⟨fun x hx=>?_,fun x hx y hy=>?_,Zn.2 ⟨hpw.1,Yh.2 ⟨fun x hx=>(hoth x (.inr hx)).2,hpc.2⟩,fun x hx y hy=>?_⟩⟩
 ·rcases hin x hx with h1 | h1
  ·rw [h1];exact hT.at_
  ·exact (hoth x h1).1
 ·rcases hin x hx with h1 | h1
  ·rw [h1,hb] at hy;exact h.new m (by simp) y hy
  ·exact h.new x (by rcases h1 with h1 | h1 <;> simp [h1]) y hy
 ·rcases Zg.1 hy with h2 | h2
  ·rw [h2];exact (hoth x (.inl hx)).2.symm
  ·exact hpw.2.2 x hx y (by simp [h2])
theorem Nodes.off' {w:World} {M:List Nat} {base:Nat} {ms:List MNd} (h:Nodes w M base ms):NoSec w (ms.flatMap MNd.blocks)∧∀ x∈M,x∉ms.flatMap MNd.blocks:=by
 refine ⟨fun x hx cs hb=>?_,fun x hx hm=>?_⟩
 ·obtain ⟨m,hm,hxm⟩:=Yl.1 hx
  exact (h.at_ m hm).no hb (by decide) hxm
 ·obtain ⟨m,hm2,hxm⟩:=Yl.1 hm
  exact (h.at_ m hm2).off x hxm hx
theorem Xng (a:Option Addr) (n c n' c':Nat):(Value.slice a n c).ownBlock=(Value.slice a n' c').ownBlock:=by cases a <;> rfl
def kidM (φ:Int→Int) (j:Nat) (m:MNd):MNd:={ m with n:={ m.n with cs:=(m.n.cs.take j).map φ++m.n.cs.drop j } }
theorem kidM_zero (φ:Int→Int) (m:MNd):kidM φ 0 m=m:=by simp [kidM]
theorem kidM_len (φ:Int→Int) {j:Nat} {m:MNd} (h:j≤m.n.cs.length):(kidM φ j m).n.cs.length=m.n.cs.length:=by
 simp only [kidM,Ze,Zl,Zj,Zy];omega
theorem kidM_get {φ:Int→Int} {j:Nat} {m:MNd} {c:Int} (h:m.n.cs[j]?=some c):(kidM φ j m).n.cs[j]?=some c:=by
 have hj:=(Zh.1 h).1;show ((m.n.cs.take j).map φ++m.n.cs.drop j)[j]?=_;rw [Yo (by simp;exact Nat.min_le_left _ _),Zl,Zj,Yt (by omega),Wd,Xh,Wm]
 exact h
theorem kidM_set {φ:Int→Int} {j:Nat} {m:MNd} {c:Int} (h:m.n.cs[j]?=some c):({ kidM φ j m with n:={ (kidM φ j m).n with cs:=(kidM φ j m).n.cs.set j (φ c) } }:MNd)=kidM φ (j+1) m:=by
 have hj:=(Zh.1 h).1;simp only [kidM];congr 2;rw [Vc _ _ (by simp;exact Nat.min_le_left _ _),Zl,Zj,Yt (by omega),Wd,Xdg h,qSz,Xg,h,Zs,Zu]
 rfl
theorem kidM_stay {φ:Int→Int} {j:Nat} {m:MNd} {c:Int} (h:m.n.cs[j]?=some c) (hc:φ c=c):kidM φ (j+1) m=kidM φ j m:=by
 simp only [kidM];congr 2;rw [Xdg h,Xg,h,Zs,Zu]
 simp [hc]
theorem kidM_all {φ:Int→Int} {m:MNd}:({ kidM φ m.n.cs.length m with n:={ (kidM φ m.n.cs.length m).n with id:=φ m.n.id } }:MNd)=renM φ m:=by
 simp [kidM,renM,mapN]
theorem grows_any {w:World} {p k tb root base H1:Nat} {M:List Nat} {u:List Bool} {pg:Nat→List UInt8} {T1:Tr H1} {ws Fm:List MNd} {wv fv:Value} (hP:PoolV w p M u pg k) (hT:Xax w tb p root) (htb:tb∉M) (hb:base≤w.heap.size) (hN:Nodes w M base (ws++Fm)) (hRW:PtrOn w M base wv ws) (hRF:PtrRow w M base fv Fm)
  (hf:Fm.length≤u.count false) (hwl:ws.length≤100000) (hfl:Fm.length≤65536)
  (hid:∀ m∈ws++Fm,∀ c∈m.n.id :: m.n.cs,(0≤c)∨∃ j,j<Fm.length∧c = -1-(j:Int)) (hcl:∀ m∈ws++Fm,m.n.cs.length≤1000000)
  (hW:Writable (Xbv u (Xai Fm.length u)) ((ws++Fm).map (renM (ren (Xai Fm.length u) fun x=>x))))
  (hI:∀ pgA pg1,(∀ j,u.getD j false=true→pgA j=pg j)→Wrote pgA pg1 ((ws++Fm).map (renM (ren (Xai Fm.length u) fun x=>x)))→InPages (Xbv u (Xai Fm.length u)) pg1 root T1)
  (hk:k+2*Fm.length+2*(ws.length+Fm.length)+4*(nodes H1 T1).length≤990000) (he:(entsT T1).length≤100000) :
  Calls prog 37 #[.pointer (some ⟨tb,0,none⟩),wv,fv] w fun e w'=>e=.returned (.int .i64 0)∧∃ M' u' pg' H' T' pgA pg1 M1 w1,(∀ j,u.getD j false=true→pgA j=pg j)∧Wrote pgA pg1 ((ws++Fm).map (renM (ren (Xai Fm.length u) fun x=>x))) ∧
   TidyRes w1 w' p M1 (Xbv u (Xai Fm.length u)) pg1 (k+2*Fm.length+2*(ws.length+Fm.length)) root T1 M' u' pg' (H':=H') T'∧(∃ X,(∀ x∈X,base≤x)∧Only (M++X) w w1)∧∀ x∈M1,x∈M∨w.heap.size≤x:=by
 obtain ⟨wa,wc,hwv,hwc,_⟩:=hRW.own.shape;subst hwv;obtain ⟨fa,fc,hfv⟩:=Xac hRF.own;subst hfv;obtain ⟨nf,hnf⟩:∃ nf,Fm.length=nf:=⟨_,rfl⟩;obtain ⟨nw,hnw⟩:∃ nw,ws.length=nw:=⟨_,rfl⟩;rw [hnf] at hf hfl hW hI hk hid;rw [hnw] at hwl hk hwc;rw [hnf,hnw];have NF:=Th hnf;have NW:=Th hnw;have AL:=Th (allocs_any (root:=root) (n:=nf) hP hT htb (by omega) hf);have HT:=Th hT;have HTB:=Th htb;have HN:=Th hN;have HRW:=Th hRW;have HRF:=Th hRF;have HB:=Th hb;have HID:=Th hid;have HCL:=Th hcl;have HWR:=Th hW;have HI:=Th hI;have HK:=Th hk
 have HE:=Th he;clear hP hT htb hN hRW hRF hb hid hcl hW hI hk he hf hnf hnw
 go_enter func37,ntmps37
 go_upto_region 4 with (go_at_call 66;refine AL.out.mono ?_;rintro e w1 ⟨ov,M1,pgA,rfl,hA⟩;have A1:=Th hA;clear hA)
 obtain ⟨ia,ic,hov⟩:=Xac A1.out.own;subst hov;have N1:=Th (HN.out.step A1.out.step);have RW1:=Th (HRW.out.step A1.out.step);have RF1:=Th (HRF.out.step A1.out.step)
 have hcut:Hid (RowOn w1 75 1 (.slice wa nw nw) nw (ws.map ptrN)):=by
  have h1:=RW1.out.own;rw [NW.out] at h1;obtain ⟨ao,cap,h2,h3,h4⟩:=h1.cut (Zq nw);simp only [Value.slice.injEq,true_and] at h2;obtain ⟨rfl,rfl⟩:=h2;rw [Ya (by simp [NW.out])] at h4;exact h4
 have FSRC:Hid (0<nf→∃ ad,fa=some ad∧∀ j u,(Fm.map ptrN)[j]?=some u→w1.cell? (ad.add j)=some u):=by
  have h1:=Xjf (RF1.out.own);rw [NF.out] at h1;exact h1
 have O1C:=Th A1.out.pool.lt
 go_upto_region 5 with (at_builtin;refine Xlc rfl (.tmp 29) (.tmp 30) 81 rfl 75 underlying81 (info_parts Xcg) rfl (.slice wa nw nw) nw (ws.map ptrN) rfl hcut.out fa nf fc rfl (Fm.map ptrN) (by simp [NF.out]) FSRC.out (by intro u hu;obtain ⟨m,_,rfl⟩:=Zi.1 hu;rfl) (by omega) (by decide) ?_;intro v8 w2 hg8 hsh8;obtain ⟨aa,ac,rfl⟩:=hsh8;have G2:=Th hg8;clear hg8)
 obtain ⟨ns,hns⟩:∃ ns,ws++Fm=ns:=⟨_,rfl⟩;obtain ⟨n,hn⟩:∃ n,nw+nf=n:=⟨_,rfl⟩
 have hnl:ns.length=n:=by rw [←hns,Ze,NW.out,NF.out,hn]
 have NL:=Th hnl;rw [hns] at HID HCL HWR HI N1;have HNS:=Th hns;have HNN:=Th hn;rw [hn] at G2;rw [hn]
 have ALL:Hid (PtrOn w2 M1 base (.slice aa n ac) ns):=by
  show PtrOn _ _ _ _ _;refine ⟨?_,fun k hk=>?_⟩
  ·rw [hnl,←hns,Zs];exact G2.out.own
  ·rcases G2.out.lies k hk with h | h
   ·exact RW1.out.off k (by rw [Xng wa _ _ nw nw];exact h)
   ·exact ⟨fun hm=>by have:=O1C.out k hm;omega,by have:=HB.out;have:=A1.out.step.1.size;omega⟩
 have hwo:∀ x∈(Value.slice wa nw nw).ownBlock.toList,(∃ cs,Blk w1 x cs 75)∧x∉M1:=fun x hx=>by
  have hx':(Value.slice wa ws.length wc).ownBlock=some x:=by rw [Xng wa ws.length wc nw nw];exact Zk.1 hx
  refine ⟨?_,(RW1.out.off x hx').1⟩
  rcases RW1.out.own.2 with ⟨h1,h2⟩ | ⟨g,cap,cur,h1,h2,_⟩
  ·simp only [Value.slice.injEq] at h1
   rw [h1.1] at hx';cases hx'
  ·simp only [Value.slice.injEq] at h1
   obtain ⟨rfl,_,_⟩:=h1;simp only [Value.ownBlock,Zw] at hx';subst hx';exact ⟨cur,h2⟩
 have N2:Hid (Nodes w2 M1 base ns):=by
  show Nodes _ _ _ _
  exact ⟨fun m hm=>(N1.out.at_ m hm).later G2.out.only (fun x hx cs hb=>by
   obtain ⟨⟨cs',hb'⟩,_⟩:=hwo x hx
   exact absurd (hb.inj hb').2 (by decide)) (fun x hx hx2=>by
   obtain ⟨⟨cs',hb'⟩,_⟩:=hwo x hx2
   exact (N1.out.at_ m hm).no hb' (by decide) hx),N1.out.new,N1.out.apart⟩
 have P2:Hid (PoolV w2 p M1 (Xbv u (Xai nf u)) pgA (k+2*nf)):=by
  show PoolV _ _ _ _ _ _
  exact A1.out.pool.later G2.out.only (fun x hx cs hb=>by
   obtain ⟨⟨cs',hb'⟩,_⟩:=hwo x hx
   exact absurd (hb.inj hb').2 (by decide)) (fun x hx hx2=>(hwo x hx2).2 hx)
 have S2:Hid (Only (M++(Value.slice wa nw nw).ownBlock.toList) w w2∧∀ x∈M1,x∈M∨w.heap.size≤x):=by
  show _∧_;exact ⟨(A1.out.step.1.mono (fun x hx=>.inl (Yb _ hx))).trans G2.out.only (fun x hx=>.inl (Yk _ hx)),A1.out.step.2⟩
 have XB:Hid (∀ x∈(Value.slice wa nw nw).ownBlock.toList,base≤x∧tb≠x):=fun x hx=>by
  have hx':(Value.slice wa ws.length wc).ownBlock=some x:=by rw [Xng wa ws.length wc nw nw];exact Zk.1 hx
  refine ⟨(HRW.out.off x hx').2,fun e=>?_⟩;exact HRW.out.own.ne HT.out (by decide) (e ▸ hx')
 have T2:Hid (Xax w2 tb p root):=S2.out.1.blk HT.out (fun hm=>by
  rcases Za.1 hm with h | h
  ·exact HTB.out h
  ·exact (XB.out tb h).2 rfl)
 have IDR:Hid (w2.ownsRow 0 3 1 (.slice ia nf ic) nf (intsC (natsI (Xai nf u)))):=by
  show World.ownsRow _ _ _ _ _ _ _
  exact Xab A1.out.own G2.out.only (fun k hk hm=>by
   obtain ⟨⟨cs',hb'⟩,_⟩:=hwo k hm
   exact Xaj A1.out.own hb' (by decide) hk)
 obtain ⟨nums,hnums⟩:∃ nums,Xai nf u=nums:=⟨_,rfl⟩
 have NUML:Hid (nums.length=nf):=by show _=_;rw [←hnums,Xer]
 rw [hnums] at IDR P2 HWR HI;have HNUM:=Th hnums;obtain ⟨φ,hφ⟩:∃ φ:Int→Int,ren nums (fun x=>x)=φ:=⟨_,rfl⟩
 have PHN:Hid (∀ l:Nat,φ (-1-(l:Int))=(nums.getD l 0:Nat)):=fun l=>by rw [←hφ,Xfy]
 have PHP:Hid (∀ c:Int,0≤c→φ c=c):=fun c hc=>by rw [←hφ,Xeg _ _ hc]
 rw [hφ] at HWR HI;have HPH:=Th hφ;obtain ⟨u1,hu1⟩:∃ u1,Xbv u nums=u1:=⟨_,rfl⟩;rw [hu1] at P2 HWR HI;have HU1:=Th hu1;have SAME:=Th A1.out.same;have IOFF:=Th (fun k (hk:(Value.slice ia nf ic).ownBlock=some k)=>(A1.out.off k hk).1)
 have OLD:Hid (∀ m∈ns,∀ x∈m.blocks,x<w.heap.size):=fun m hm x hx=>(HN.out.at_ m (by rw [hns];exact hm)).lt x hx
 have hnb:n≤200000:=by omega
 clear hns hn hnl hnums hφ hu1 hwo
 go_wp2_with fail
 go_loopg [34] n (fun gk s34 wr=>∃ i:Nat,gk=n-i∧i≤n∧s34=.int .i64 i∧Nodes wr M1 base ((ns.take i).map (renM φ)++ns.drop i)∧Only (ns.flatMap MNd.blocks) w2 wr)
 case atStart=>exact ⟨0,rfl,Yc _,rfl,by simpa using N2.out,Only.refl _ _⟩
 case round =>
  obtain ⟨i,hgk,hi,rfl,hnd,hO⟩:=hrel;obtain ⟨wA,rfl⟩:∃ wA,wA=wr:=⟨_,rfl⟩;have HGK:=Th hgk;have NA:=Th hnd;have OA:=Th hO
  have hi0:(0:Int)≤i:=by omega
  clear hgk hnd hO
  by_cases hlt:i<n
  ·have hlt':(i:Int)<n:=by omega
   have HLT:=Th hlt;obtain ⟨m,hm⟩:∃ m,ns[i]?=some m:=⟨_,Zc (by rw [NL.out];exact hlt)⟩
   have hmm:=Zm hm
   have NA2:Hid (Nodes wA M1 base ((ns.take i).map (renM φ)++m :: ns.drop (i+1))):=by
    show Nodes _ _ _ _;have:=NA.out;rw [Xdg hm] at this;exact this
   have A0:=Th (NA2.out.at_ m (by simp));obtain ⟨ag,ac',hav,_,hacell⟩:=ALL.out.get hm;rw [NL.out] at hav;simp only [Value.slice.injEq,true_and] at hav;obtain ⟨rfl,rfl⟩:=hav
   have AGX:Hid (ag∉ns.flatMap MNd.blocks):=fun hx=>by
    obtain ⟨y,hy,hxy⟩:=Yl.1 hx
    rcases ALL.out.own.2 with ⟨h1,_⟩ | ⟨g,cap,cur,h1,h2,_⟩
    ·cases h1
    ·simp only [Value.slice.injEq,Zw,Addr.mk.injEq,and_true] at h1
     obtain ⟨rfl,_⟩:=h1;exact (N2.out.at_ y hy).no h2 (by decide) hxy
   have hac:=OA.out.cell hacell AGX.out;obtain ⟨ca,cc,hcv⟩:=Xac A0.out.kids;obtain ⟨cn,hcn⟩:∃ cn,m.n.cs.length=cn:=⟨_,rfl⟩;have CN:=Th hcn;rw [hcn] at hcv;have CV:=Th hcv;have b4:=A0.out.blk.cell 4;simp only [Zd,Zb] at b4;rw [hcv] at b4
   have hcnb:cn≤1000000:=by rw [←hcn];exact HCL.out m hmm
   have MID:=Th (HID.out m hmm);have MOLD:=Th (OLD.out m hmm)
   have MBX:Hid (∀ x∈m.blocks,x∈ns.flatMap MNd.blocks):=fun x hx=>Yl.2 ⟨m,hmm,hx⟩
   have IDC:Hid (∀ wq,Only m.blocks wA wq→∀ l,l<nf→∃ ig,ia=some ⟨ig,0,none⟩∧wq.cell? ⟨ig,l,none⟩=some (.int .i64 (nums.getD l 0:Nat))∧l<ic):=fun wq hq l hl=>by
    obtain ⟨ao,cap,h1,h2,h3⟩:=(RowOn.of IDR.out).shape;simp only [Value.slice.injEq,true_and] at h1;obtain ⟨rfl,rfl⟩:=h1;obtain ⟨ig,rfl,h4⟩:=h3 (by omega);refine ⟨ig,rfl,?_,by omega⟩;have h5:=h4 l (by omega)
    have h6:l<nums.length:=by rw [NUML.out];exact hl
    simp only [natsI,intsC,Zr,Zc h6,Xe] at h5;rw [Zf,Zc h6];have h7:=IOFF.out ig rfl
    have hno:∀ y∈ns,ig∉y.blocks:=fun y hy hm=>by have:=OLD.out y hy ig hm;omega
    refine hq.cell (OA.out.cell h5 (fun hx=>?_)) (hno m hmm);obtain ⟨y,hy,hxy⟩:=Yl.1 hx;exact hno y hy hxy
   have HM:=Th hm;clear hm hmm hcn hcv hacell
   go_wp2_with fail
   go_loopg [43] cn (fun gk s43 wq=>∃ j:Nat,gk=cn-j∧j≤cn∧s43=.int .i64 j∧Turn wA wq M1 m (kidM φ j m))
   case atStart=>exact ⟨0,rfl,Yc _,rfl,by rw [kidM_zero];exact Turn.refl A0.out⟩
   case round =>
    obtain ⟨j,hgj,hj,rfl,hT⟩:=hrel;have HGJ:=Th hgj;have TM:=Th hT
    have hj0:(0:Int)≤j:=by omega
    clear hgj hT
    by_cases hjl:j<cn
    ·have hjl':(j:Int)<cn:=by omega
     obtain ⟨c,hc⟩:∃ c,m.n.cs[j]?=some c:=⟨_,Zc (by rw [CN.out];exact hjl)⟩
     have hlen2:(kidM φ j m).n.cs.length=cn:=by rw [kidM_len φ (by rw [CN.out];exact hj),CN.out]
     obtain ⟨ca',cc',hcv3,hcap3,hcr⟩:=TM.out.at_.crow;rw [show (kidM φ j m).cv=m.cv from rfl,CV.out,hlen2] at hcv3;simp only [Value.slice.injEq,true_and] at hcv3;obtain ⟨rfl,rfl⟩:=hcv3;obtain ⟨cg,rfl,hcell⟩:=hcr (by rw [hlen2];omega)
     have hk1:=hcell j c (kidM_get hc);have HC:=Th hc;have hcm:=MID.out c (Yg _ (Zm hc))
     rcases hcm with hcp | ⟨l,hl,hcl⟩
     ·have hcp2:¬c<0:=by omega
      have FC:=Th (PHP.out c hcp);clear hc hlen2 hcell hcap3 hcr hcp
      go_wp2_with fail
      go_roundg (cn-(j+1))
      case measure=>have:=HGJ.out;omega
      case rel=>exact ⟨j+1,rfl,by omega,by go_num,by rw [kidM_stay HC.out FC.out];exact TM.out⟩
     ·obtain ⟨ig,rfl,hsp,hlic⟩:=IDC.out _ TM.out.only l hl
      have d4:=TM.out.at_.blk.cell 4;simp only [Zd,Zb] at d4;rw [TM.out.nb,show (kidM φ j m).cv=m.cv from rfl,CV.out] at d4
      have hfz:wr.frozen? ⟨cg,j,none⟩=false:=by
       have h1:=TM.out.at_.kids;rw [show (kidM φ j m).cv=m.cv from rfl,CV.out] at h1;obtain ⟨cs,hb⟩:=Xag h1 (k:=cg) rfl;exact hb.frozen j
      have TK:=Th (kid_turn (i:=j) TM.out.at_ (by rw [show (kidM φ j m).cv=m.cv from rfl,CV.out,hlen2]) (by rw [hlen2];exact hjl) (φ c))
      have FC:Hid (φ c=(nums.getD l 0:Nat)):=by show _=_;rw [hcl];exact PHN.out l
      rw [kidM_set HC.out,FC.out] at TK
      have hwr:IntKind.i64.wrap (-1-c)=l:=by rw [Yi];omega
      have hcneg:c<0:=by omega
      have hl0:(0:Int)≤l:=by omega
      have hl3:(l:Int)<nf:=by omega
      obtain ⟨nlv,hnlv⟩:∃ nlv,nums.getD l 0=nlv:=⟨_,rfl⟩;rw [hnlv] at hsp TK;clear hc hlen2 hcell hcap3 hnlv hcr hcl
      go_upto_region 12 with fail
      refine Xbw [(11,fun w'=>w'.cell? ⟨m.nb,4,none⟩=some (.slice (some ⟨cg,0,none⟩) cn cc)∧w'.cell? ⟨ig,l,none⟩=some (.int .i64 (nlv:Nat)))] (by kernel_rfl) (by simp;exact ⟨((Only.refl [] _).drew).cell d4 (by simp),((Only.refl [] _).drew).cell hsp (by simp)⟩) (fun hH=>?_)
      refine wkA 0 50 (.pointer (some ⟨m.nb,0,none⟩)) hH fun hH=>?_
      refine wkA 1 51 (.pointer (some ⟨m.nb,0,none⟩)) hH fun hH=>?_
      refine wkA 2 52 (.pointer (some ⟨m.nb,4,none⟩)) hH fun hH=>?_
      refine Xbc 3 53 (.slice (some ⟨cg,0,none⟩) cn cc) 0 11 rfl rfl rfl (by kernel_rfl) (by kernel_rfl) (by kernel_rfl) (by kernel_rfl) (by rfl) (by kernel_rfl) (fun _ _ _ h=>h) (Or.inl ⟨by rfl,fun w1 hw1=>by obtain ⟨hc2,hc3⟩:=hw1;go_simp⟩) hH (fun hH=>?_)
      (try simp only [Act.put,qSa,qSz,qSs])
      refine wkA 4 54 (.int .i64 j) hH fun hH=>?_
      refine wkA 5 55 (.slice (some ⟨ig,0,none⟩) nf ic) hH fun hH=>?_
      refine wkA 6 56 (.int .i64 c) hH fun hH=>?_
      refine wkA 7 57 (.int .i64 l) hH fun hH=>?_
      refine wkA 8 58 (.pointer (some ⟨ig,l,none⟩)) hH fun hH=>?_
      refine Xbc 9 59 (.int .i64 (nlv:Nat)) 0 11 rfl rfl rfl (by kernel_rfl) (by kernel_rfl) (by kernel_rfl) (by kernel_rfl) (by rfl) (by kernel_rfl) (fun _ _ _ h=>h) (Or.inl ⟨by rfl,fun w1 hw1=>by obtain ⟨hc2,hc3⟩:=hw1;go_simp⟩) hH (fun hH=>?_)
      (try simp only [Act.put,qSa,qSz,qSs])
      refine wkA 10 60 (.pointer (some ⟨cg,j,none⟩)) hH fun hH=>?_
      refine woneA 11 fun K hK=>?_
      go_wp2_with fail
      refine hK.out _ _ (held1z (by rfl)) (fun hH=>?_);clear hK K hH
      (try simp only [Act.put,qSa,qSz,qSs])
      refine wdone (by kernel_rfl) ?_ _;have TT:Hid (Turn wA (wr.setCell ⟨cg,j,none⟩ (.int .i64 (nlv:Nat))).drew M1 m (kidM φ (j+1) m)):=TM.out.trans (TK.out.then (Only.refl _ _).drew);clear hk1 hsp d4 hfz hwr hcneg
      go_wp2_with fail
      go_roundg (cn-(j+1))
      case measure=>have:=HGJ.out;omega
      case rel=>exact ⟨j+1,rfl,by omega,by go_num,TT.out⟩
    ·have hjc:j=cn:=by omega
     subst hjc
     have hnl2:¬(j:Int)<j:=by omega
     have c0:=TM.out.at_.blk.cell 0;have z0:=TM.out.at_.blk.frozen 0;simp only [Zb] at c0;rw [TM.out.nb,show (kidM φ j m).n.id=m.n.id from rfl] at c0;rw [TM.out.nb] at z0;obtain ⟨mid,hmid⟩:∃ mid,m.n.id=mid:=⟨_,rfl⟩;have MIDE:=Th hmid;rw [hmid] at c0
     rcases MID.out m.n.id (by simp) with hcp | ⟨l,hl,hcl⟩
     ·rw [hmid] at hcp
      have hcp2:¬mid<0:=by omega
      have FC:=Th (PHP.out mid hcp)
      have REN:Hid (kidM φ j m=renM φ m):=by
       show _=_;rw [←kidM_all,CN.out,MIDE.out,FC.out,←MIDE.out];rfl
      clear hcp hmid
      go_wp2_with fail
      go_roundg (n-(i+1))
      case measure=>have:=HGK.out;have:=HLT.out;omega
      case rel =>
       have hT:=TM.out;rw [REN.out] at hT;refine ⟨i+1,rfl,by have:=HLT.out;omega,by go_num,?_,OA.out.trans hT.only (fun x hx=>.inl (MBX.out x hx))⟩
       have h1:=NA2.out.turn hT rfl;rw [Xg,HM.out,Zs,Zu];exact h1
     ·rw [hmid] at hcl
      obtain ⟨ig,rfl,hsp,hlic⟩:=IDC.out _ TM.out.only l hl
      have hwr:IntKind.i64.wrap (-1-mid)=l:=by rw [Yi];omega
      have hcneg:mid<0:=by omega
      have hl0:(0:Int)≤l:=by omega
      have hl3:(l:Int)<nf:=by omega
      have FC:Hid (φ mid=(nums.getD l 0:Nat)):=by show _=_;rw [hcl];exact PHN.out l
      have T6:=Th (Xmt TM.out.at_ (fun x hx=>by have h1:=O1C.out x hx;have h2:=G2.out.only.size;have h3:=OA.out.size;have h4:=TM.out.only.size;omega) (φ mid))
      have REN:Hid (({ kidM φ j m with n:={ (kidM φ j m).n with id:=φ mid } }:MNd)=renM φ m):=by
       show _=_;rw [←kidM_all,CN.out,MIDE.out]
      rw [REN.out,TM.out.nb,FC.out] at T6;obtain ⟨nlv,hnlv⟩:∃ nlv,nums.getD l 0=nlv:=⟨_,rfl⟩;rw [hnlv] at hsp T6;clear hmid hcl hnlv
      go_wp2_with fail
      go_roundg (n-(i+1))
      case measure=>have:=HGK.out;have:=HLT.out;omega
      case rel =>
       have hT:=TM.out.trans T6.out;refine ⟨i+1,rfl,by have:=HLT.out;omega,by go_num,?_,OA.out.trans hT.only (fun x hx=>.inl (MBX.out x hx))⟩
       have h1:=NA2.out.turn hT rfl;rw [Xg,HM.out,Zs,Zu];exact h1
  ·have hin:i=n:=by omega
   subst hin
   have hnlt:¬(i:Int)<i:=by omega
   have NE:Hid (Nodes wA M1 base (ns.map (renM φ))):=by
    show Nodes _ _ _ _;have:=NA.out;rw [Ya (by rw [NL.out];exact Zq _),Xq (by rw [NL.out];exact Zq _),Xj] at this
    exact this
   have NO:=N2.out.off';have PE:Hid (PoolV wA p M1 u1 pgA (k+2*nf)):=P2.out.later OA.out NO.1 NO.2
   have ALE:Hid (PtrOn wA M1 base (.slice aa i ac) (ns.map (renM φ))):=by
    show PtrOn _ _ _ _ _;refine ⟨?_,ALL.out.off⟩
    have h1:=ALL.out.own.later OA.out (fun k hk hx=>by
     obtain ⟨y,hy,hxy⟩:=Yl.1 hx
     rcases ALL.out.own.2 with ⟨h1,_⟩ | ⟨g,cap,cur,h1,h2,_⟩
     ·rw [h1] at hk;cases hk
     ·rw [h1] at hk
      simp only [Value.ownBlock,Zw] at hk;subst hk
      exact (N2.out.at_ y hy).no h2 (by decide) hxy)
    rw [Zl,Yw];exact h1
   have TE:Hid (Xax wA tb p root):=OA.out.blk T2.out (fun hx=>by
    obtain ⟨y,hy,hxy⟩:=Yl.1 hx
    exact (N2.out.at_ y hy).no T2.out (by decide) hxy)
   have TBM:Hid (tb∉M1):=fun hm=>by
    rcases S2.out.2 tb hm with h | h
    ·exact HTB.out h
    ·have:=HT.out.lt;omega
   have WR:=Th (Xmm (T1:=T1) PE.out TE.out TBM.out NE.out ALE.out HWR.out (fun pg1 hw=>HI.out pgA pg1 SAME.out hw) (by rw [Zl,NL.out];have:=HK.out;have:=HNN.out;omega) HE.out)
   have OWA:Hid (Only (M++((Value.slice wa nw nw).ownBlock.toList++ns.flatMap MNd.blocks)) w wA):=by
    show Only _ _ _;refine (S2.out.1.mono (fun x hx=>.inl ?_)).trans OA.out (fun x hx=>.inl (by simp [hx]))
    rcases Za.1 hx with h | h
    ·exact Yb _ h
    ·exact Yk _ (Yb _ h)
   clear NO
   go_wp2_with (go_at_call 40;refine WR.out.mono ?_;rintro e w5 ⟨rfl,M5,u5,pg5,H5,T5,pg1,M6,w6,hw,ht,hs⟩;have W6:=Th hw;have T6:=Th ht;have S6:=Th hs;clear hw ht hs)
   go_ret;refine ⟨rfl,M5,u5,pg5,H5,T5,pgA,pg1,M6,w6,SAME.out,?_,?_,⟨(Value.slice wa nw nw).ownBlock.toList++ns.flatMap MNd.blocks,?_,?_⟩,fun x hx=>?_⟩
   ·rw [HNUM.out,HPH.out,HNS.out];exact W6.out
   ·rw [HNUM.out,HU1.out]
    have:=T6.out;rw [Zl,NL.out] at this;rw [HNN.out];exact this
   ·intro x hx
    rcases Za.1 hx with h | h
    ·exact (XB.out x h).1
    ·obtain ⟨y,hy,hxy⟩:=Yl.1 h
     exact N2.out.new y hy x hxy
   ·exact OWA.out.trans S6.out.1 (fun x hx=>(S2.out.2 x hx).imp (fun h=>Yb _ h) id)
   ·rcases S6.out.2 x hx with h | h
    ·exact S2.out.2 x h
    ·exact .inr (Zp OWA.out.size h)
end T
end Go.Proofs.YtiijokopcgnokaaGreat
