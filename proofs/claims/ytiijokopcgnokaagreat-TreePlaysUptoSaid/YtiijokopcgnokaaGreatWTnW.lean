import Derived.Test.YtiijokopcgnokaaGreatWToC
set_option linter.unusedSimpArgs false
set_option linter.unusedVariables false
namespace Go.Proofs.YtiijokopcgnokaaGreat.T
open Go Go.RowKit D B C G P H Tryz
structure PacksRes (w0 w:World) (M:List Nat) (res:List Nd) (v:Value) (ns:List MNd):Prop where
 rows:RowsAt w0 w M [(v,ns)] [] ns
 nds:ns.map (·.n)=res
 roots:∀ i m,ns[i]?=some m→m.root=decide (i+1=ns.length)
set_option maxRecDepth 100000 in
set_option maxHeartbeats 4000000 in
theorem packs_any {w:World} {M:List Nat} {v:Value} {L:List KV} {res:List Nd} (h:PrsAt w v L) (hq:∀ q∈L,KeyOk w M q) (hk:Keys (L.map (·.2))) (hl:L.length≤1000000) (hM:∀ x∈M,x<w.heap.size) (hp:Packs true (packL (L.map (·.2))) [] res) (hres:res.length≤400000) :
  Calls prog 101 #[v] w fun e w'=>∃ v' ns,e=.returned v'∧PacksRes w w' M res v' ns:=by
 obtain ⟨⟨ao,cap,rfl,hcap,hrow⟩,hkeys⟩:=h
 have ROW:Hid (∀ i,i<L.length→∃ g o a k q,ao=some ⟨g,o,none⟩∧L[i]?=some (.slice a q.1.length k,q)∧w.cell? ⟨g,o+i*2,none⟩=some (.slice a q.1.length k)∧w.cell? ⟨g,o+i*2+1,none⟩=some (.int .u64 q.2)):=fun i hi=>by
  obtain ⟨g,o,rfl,hc⟩:=hrow (by omega);have hp:=Zc hi;obtain ⟨c1,c2⟩:=hc i _ hp;obtain ⟨a1,k1,e1,_⟩:=id (hkeys _ (Yx hi));rw [e1] at c1;exact ⟨g,o,a1,k1,L[i].2,rfl,by rw [hp,←e1],c1,c2⟩
 have HQ:=Th hq;have HK:=Th hk;have HM:=Th hM;have PK:=Th hp;have RL:=Th hres;clear hrow hkeys hk hM hq hp hres;have INI:=Th (ini_rows w M HM.out);obtain ⟨n,hn⟩:∃ n,L.length=n:=⟨_,rfl⟩;rw [hn] at hcap hl ROW;have LN:=Th hn;rw [hn];clear hn
 go_enter func101,ntmps101
 go_wp2_with fail
 go_loopg [21,3,4] n (fun gk s21 s3 s4 wr=>∃ (i:Nat) (ms:List MNd) (Ls:List KV) (D:List (Pr × List Pr)) (f:Pr) (g:List Pr) (lo fo:Option Addr) (lc fc:Nat),gk=n-i∧i≤n∧s21=.int .i64 i∧s3=.slice lo ms.length lc∧s4=.slice fo Ls.length fc∧RowsAt w wr M [(.slice lo ms.length lc,ms)] [(.slice fo Ls.length fc,Ls)] ms∧PackL (L.map (·.2)) i ms Ls D f g)
 case atStart=>exact ⟨0,[⟨w.heap.size,false,leafN [],.slice none 0 0,.slice none 0 0,[]⟩],[(.slice none 0 0,([],0))],[],([],0),[],_,_,_,_,rfl,Yc _,rfl,rfl,rfl,INI.out,⟨rfl,by decide,by simp,rfl,rfl,by simp,by simp⟩⟩
 case round =>
  obtain ⟨i,ms,Ls,D,f,g,lo,fo,lc,fc,hgk,hi,rfl,rfl,rfl,hR,hP⟩:=hrel;have HGK:=Th hgk;have HR:=Th hR;have HP:=Th hP;obtain ⟨ms0,m,hms,hms0,hm⟩:=snoc_of hP.ns;subst hms
  have hi0:(0:Int)≤i:=by omega
  obtain ⟨lg,lc',hlv,hlc,hlcell⟩:=(hR.prow _ (Xw _)).get (i:=ms0.length) (m:=m) (by simp);simp only [Value.slice.injEq,true_and] at hlv;obtain ⟨rfl,rfl⟩:=hlv;have hfew:=hP.few;rw [Ze,Zt] at hfew hlc;simp only [Ze,Zt];obtain ⟨k,hk⟩:∃ k,ms0.length=k:=⟨_,rfl⟩;have KL:=Th hk;rw [hk] at hfew hlc hlcell;rw [hk]
  have hkb:k≤1000000:=by omega
  clear hgk hR hP hms0 hk
  by_cases hlt:i<n
  ·have hlt':(i:Int)<n:=by omega
   obtain ⟨gb,go,ka,kk,q,rfl,hq,x1,x2⟩:=ROW.out i hlt;have e1:=HR.out.only.cell x1 (by simp);have e2:=HR.out.only.cell x2 (by simp);clear x1 x2;have lc2:(wr.alloc (.cells #[.slice ka q.1.length kk,.int .u64 q.2] 43)).cell? ⟨lg,k,none⟩=some (.pointer (some ⟨m.nb,0,none⟩)):=((Only.refl [] wr).alloc _).cell hlcell (by simp)
   go_upto_region 7 with fail
   obtain ⟨w1,hw1e⟩:∃ w1,wr.alloc (.cells #[.slice ka q.1.length kk,.int .u64 q.2] 43)=w1:=⟨_,rfl⟩
   have O1:Hid (Only [] wr w1):=by show Only _ _ _;rw [←hw1e];exact (Only.refl _ _).alloc _
   have BX:Hid (Blk w1 wr.heap.size [.slice ka q.1.length kk,.int .u64 q.2] 43):=by show Blk _ _ _ _;rw [←hw1e];exact Blk.new [.slice ka q.1.length kk,.int .u64 q.2] 43 wr
   have R1:Hid (RowsAt w w1 M [(.slice (some ⟨lg,0,none⟩) (ms0++[m]).length lc,ms0++[m])] [(.slice fo Ls.length fc,Ls)] (ms0++[m])):=HR.out.past O1.out;rw [hw1e];clear hw1e lc2 e1 e2 hlcell;have A1:=Th (R1.out.nodes.at_ m (by simp));obtain ⟨ea,ec,hev⟩:=Xac A1.out.ents;have b3:=A1.out.blk.cell 3;simp only [Zd,Zb] at b3;rw [hev] at b3
   have OWN:Hid (w1.ownsRow 0 43 2 (.slice ea m.L.length ec) m.L.length (kvsC m.L)):=by show World.ownsRow _ _ _ _ _ _ _;have:=A1.out.ents;rw [hev] at this;exact this
   have KQ:=Th (((HQ.out _ (Zm hq)).past HR.out.only).past O1.out)
   have hml:m.L.length≤50:=by have:=Xca HP.out.fit;rw [A1.out.len];rw [show m.n.es=g by rw [hm];rfl];exact this
   have x0:=BX.out.cell 0;have x1:=BX.out.cell 1;simp only [Zd,Zb] at x0 x1;obtain ⟨bx,hbx⟩:∃ bx,wr.heap.size=bx:=⟨_,rfl⟩;rw [hbx] at BX x0 x1;rw [hbx];obtain ⟨ml,hmle⟩:∃ ml,m.L.length=ml:=⟨_,rfl⟩;have ML:=Th hmle;rw [hmle] at b3 OWN hml hev;have EV:=Th hev;clear hev hmle;refine Xbw [(10,fun w'=>w'.cell? ⟨m.nb,3,none⟩=some (.slice ea ml ec)),(6,fun w'=>w'.cell? ⟨bx,0,none⟩=some (.slice ka q.1.length kk)∧w'.cell? ⟨bx,1,none⟩=some (.int .u64 q.2))] (by kernel_rfl) (by simp;exact ⟨((Only.refl [] _).drew).cell b3 (by simp),((Only.refl [] _).drew).cell x0 (by simp),((Only.refl [] _).drew).cell x1 (by simp)⟩) (fun hH=>?_)
   refine wkA 0 31 (.pointer (some ⟨m.nb,0,none⟩)) hH fun hH=>?_
   refine wkA 1 32 (.pointer (some ⟨m.nb,0,none⟩)) hH fun hH=>?_
   refine wkA 2 33 (.pointer (some ⟨m.nb,0,none⟩)) hH fun hH=>?_
   refine wkA 3 34 (.pointer (some ⟨m.nb,3,none⟩)) hH fun hH=>?_
   refine Xbc 4 35 (.slice ea ml ec) 0 10 rfl rfl rfl (by kernel_rfl) (by kernel_rfl) (by kernel_rfl) (by kernel_rfl) (by rfl) (by kernel_rfl) (fun _ _ _ h=>h) (Or.inl ⟨by rfl,fun w1 hw1=>by go_simp⟩) hH (fun hH=>?_)
   (try simp only [Act.put,qSa,qSz,qSs])
   refine Xbc 5 36 (.agg #[.slice ka q.1.length kk,.int .u64 q.2]) 1 6 rfl rfl rfl (by kernel_rfl) (by kernel_rfl) (by kernel_rfl) (by kernel_rfl) (by rfl) (by kernel_rfl) (fun _ _ _ h=>h) (Or.inl ⟨by rfl,fun w1 hw1=>by obtain ⟨hc2,hc3⟩:=hw1;go_simp⟩) hH (fun hH=>?_)
   (try simp only [Act.put,qSa,qSz,qSs])
   refine woneA 6 fun K hK=>?_
   go_wp2_with fail
   obtain ⟨w2,hw2e⟩:∃ w2,(w1.alloc (.cells #[.slice ka q.1.length kk,.int .u64 q.2] 43)).drew=w2:=⟨_,rfl⟩
   have O2:Hid (Only [] w1 w2):=by show Only _ _ _;rw [←hw2e];exact ((Only.refl _ _).alloc _).drew
   have NB:Hid (Blk w2 w1.heap.size [.slice ka q.1.length kk,.int .u64 q.2] 43):=by show Blk _ _ _ _;rw [←hw2e];exact Blk.new [.slice ka q.1.length kk,.int .u64 q.2] 43 w1
   have hHeld1:=O2.out.cell b3 (by simp);rw [hw2e];clear hH;refine hK.out _ _ (held2 (.inr hHeld1) (.inl (by rfl))) (fun hH=>?_);clear hK K hw2e
   (try simp only [Act.put,qSa,qSz,qSs])
   refine woneA 7 fun K hK=>?_
   refine Xbl 38 rfl (.tmp 35) (.tmp 37) 48 rfl 43 underlying48 (info_parts Xbq) rfl (by decide) (.slice ea ml ec) ml (kvsC m.L) rfl (Xad OWN.out O2.out) (some ⟨w1.heap.size,0,none⟩) 1 1 rfl [.slice ka q.1.length kk,.int .u64 q.2] rfl (fun _=>⟨_,rfl,fun j u hu=>by rw [Xah,Yd];exact (NB.out.cell j).trans hu⟩) (by intro u hu;simp at hu;rcases hu with rfl | rfl <;> rfl) (by omega) (by decide) ?_
   intro v' w6 hg6;obtain ⟨va,vc,rfl⟩:=hg6.shape;obtain ⟨k4,kf,hT6⟩:=addE_turn (q:=(.slice ka q.1.length kk,q)) (A1.out.past O2.out) (fun x hx=>by have:=HM.out x hx;have:=HR.out.only.size;have:=O1.out.size;have:=O2.out.size;omega) (KQ.out.past O2.out) (by rw [←A1.out.len,ML.out];exact EV.out) (by rw [←A1.out.len,ML.out];exact hg6)
   rw [←A1.out.len,ML.out] at k4;refine hK.out _ _ (held2 (.inr k4) (.inl (by rfl))) (fun hH=>?_);clear hK K
   (try simp only [Act.put,qSa,qSz,qSs])
   refine wkA 8 39 (.pointer (some ⟨m.nb,0,none⟩)) hH fun hH=>?_
   refine wkA 9 40 (.pointer (some ⟨m.nb,3,none⟩)) hH fun hH=>?_
   refine woneA 10 fun K hK=>?_
   go_wp2_with fail
   refine hK.out _ _ (held2 (.inl (by rfl)) (.inl (by rfl))) (fun hH=>?_);clear hK K hH
   (try simp only [Act.put,qSa,qSz,qSs])
   refine wdone (by kernel_rfl) ?_ _;obtain ⟨m2,hm2e⟩:∃ m2,m.addE (.slice va (ml+1) vc) (.slice ka q.1.length kk,q)=m2:=⟨_,rfl⟩;obtain ⟨w3,hw3e⟩:∃ w3,w6.setCell ⟨m.nb,3,none⟩ (.slice va (ml+1) vc)=w3:=⟨_,rfl⟩;rw [hm2e] at hT6;rw [hw3e] at hT6 ⊢
   have N2:Hid (m2.nb=m.nb∧m2.root=false∧m2.n=leafN (g++[q])∧m2.L=m.L++[(.slice ka q.1.length kk,q)]∧m2.ev=.slice va (ml+1) vc):=by
    show _∧_∧_∧_∧_;rw [←hm2e];exact ⟨rfl,HP.out.roots m (by simp),by rw [MNd.addE,hm];rfl,rfl,rfl⟩
   have T3:=Th (Turn.ahead O2.out hT6);have R3:=Th (R1.out.turn (A:=ms0) (B:=[]) T3.out);clear hT6 hg6 k4 kf hHeld1 hw3e hm2e b3 x0 x1
   have hdrop:(L.map (·.2)).drop i=q :: (L.map (·.2)).drop (i+1):=by
    rw [Vf (by rw [Zl,LN.out];exact hlt)];congr 1;have:=(Zh.1 hq).2
    simp [this]
   have DR:=Th hdrop;have hqm:q∈L.map (·.2):=Zi.2 ⟨_,Zm hq,rfl⟩;have QM:=Th hqm;have QI:=Th (Zm hq);have A3:=Th (R3.out.nodes.at_ m2 (by simp))
   have KG:Hid (Keys (g++[q])):=HK.out.sub (fun e he=>by
    rcases Za.1 he with h1 | h1
    ·exact HP.out.sub e h1
    ·rw [Zo.1 h1];exact QM.out)
   have LG:Hid (m2.n.es.length=ml+1):=by
    show _=_;rw [←A3.out.len,N2.out.2.2.2.1,Ze,Zt,ML.out]
   have FT:=Th (Xdr A3.out (by rw [N2.out.2.2.1];exact KG.out) (by rw [LG.out];omega));rw [N2.out.1] at FT
   have hn3:m2.n.leaf=true∧m2.n.es=g++[q]:=by rw [N2.out.2.2.1];exact ⟨rfl,rfl⟩
   rw [hn3.1,hn3.2] at FT
   have PTR:Hid ((ms0++[m]).map ptrN=(ms0++[m2]).map ptrN):=by show _=_;simp [ptrN,N2.out.1]
   clear hdrop hqm hq hn3
   by_cases hf:fitsP true (g++[q])=true
   ·rw [hf] at FT
    have HF:=Th hf;clear hf
    go_wp2_with (go_at_call 35;refine FT.out.mono ?_;rintro e w4 ⟨rfl,rfl⟩)
    go_roundg (n-(i+1))
    case measure=>have:=HGK.out;omega
    case rel =>
     refine ⟨i+1,ms0++[m2],Ls,D,f,g++[q],some ⟨lg,0,none⟩,fo,lc,fc,rfl,by omega,by go_num,by simp [KL.out],rfl,?_,?_⟩
     ·have:=R3.out.congr (A:=[]) (B:=[]) PTR.out
      simpa using this
     ·refine ⟨?_,HF.out,fun e he=>?_,?_,HP.out.fs,?_,by simp [KL.out];omega⟩
      ·have h1:=HP.out.go
       rw [DR.out,packG_fit HF.out] at h1;exact h1
      ·rcases Za.1 he with h1 | h1
       ·exact HP.out.sub e h1
       ·rw [Zo.1 h1];exact QM.out
      ·have h1:=HP.out.ns
       rw [Zs] at h1 ⊢;have h2:=List.append_inj_left' h1 rfl;rw [h2]
       simp [N2.out.2.2.1]
      ·intro x hx
       rcases Za.1 hx with h1 | h1
       ·exact HP.out.roots x (by simp [h1])
       ·rw [Zo.1 h1];exact N2.out.2.1
   ·rw [Bool.not_eq_true] at hf
    rw [hf] at FT;have HF:=Th hf;clear hf
    go_upto_region 9 with (go_at_call 35;refine FT.out.mono ?_;rintro e w4 ⟨rfl,rfl⟩)
    obtain ⟨vg,hvg,hvc⟩:∃ vg,va=some ⟨vg,0,none⟩∧ml+1≤vc:=by
     obtain ⟨ao',cap',hv,hc,hr⟩:=A3.out.row;rw [N2.out.2.2.2.2,LG.out] at hv;simp only [Value.slice.injEq,true_and] at hv;obtain ⟨g',hg',_⟩:=hr (by rw [LG.out];omega)
     rw [LG.out] at hc;exact ⟨g',by rw [hv.1,hg'],by rw [hv.2];exact hc⟩
    subst hvg;have b3:=A3.out.blk.cell 3;have z3:=A3.out.blk.frozen 3;simp only [Zd,Zb] at b3;rw [N2.out.1] at b3 z3;rw [N2.out.2.2.2.2] at b3
    have hw2:IntKind.i64.wrap (ml:Int)=ml:=by rw [Yi];omega
    have hml3:(ml:Int)≤vc:=by omega
    refine Xbw [(14,fun w'=>w'.cell? ⟨m.nb,3,none⟩=some (.slice (some ⟨vg,0,none⟩) (ml+1) vc))] (by kernel_rfl) (by simp;exact ((Only.refl [] _).drew).cell b3 (by simp)) (fun hH=>?_)
    refine wkA 0 44 (.pointer (some ⟨m.nb,0,none⟩)) hH fun hH=>?_
    refine wkA 1 45 (.pointer (some ⟨m.nb,0,none⟩)) hH fun hH=>?_
    refine wkA 2 46 (.pointer (some ⟨m.nb,0,none⟩)) hH fun hH=>?_
    refine wkA 3 47 (.pointer (some ⟨m.nb,3,none⟩)) hH fun hH=>?_
    refine Xbc 4 48 (.slice (some ⟨vg,0,none⟩) (ml+1) vc) 0 14 rfl rfl rfl (by kernel_rfl) (by kernel_rfl) (by kernel_rfl) (by kernel_rfl) (by rfl) (by kernel_rfl) (fun _ _ _ h=>h) (Or.inl ⟨by rfl,fun w1 hw1=>by go_simp⟩) hH (fun hH=>?_)
    (try simp only [Act.put,qSa,qSz,qSs])
    refine wkA 5 49 (.pointer (some ⟨m.nb,0,none⟩)) hH fun hH=>?_
    refine wkA 6 50 (.pointer (some ⟨m.nb,0,none⟩)) hH fun hH=>?_
    refine wkA 7 51 (.pointer (some ⟨m.nb,3,none⟩)) hH fun hH=>?_
    refine Xbc 8 52 (.slice (some ⟨vg,0,none⟩) (ml+1) vc) 0 14 rfl rfl rfl (by kernel_rfl) (by kernel_rfl) (by kernel_rfl) (by kernel_rfl) (by rfl) (by kernel_rfl) (fun _ _ _ h=>h) (Or.inl ⟨by rfl,fun w1 hw1=>by go_simp⟩) hH (fun hH=>?_)
    (try simp only [Act.put,qSa,qSz,qSs])
    refine wkA 9 53 (.int .i64 ((ml:Int)+1)) hH fun hH=>?_
    refine wkA 10 54 (.int .i64 ml) hH fun hH=>?_
    refine wkA 11 55 (.slice (some ⟨vg,0,none⟩) ml vc) hH fun hH=>?_
    refine wkA 12 56 (.pointer (some ⟨m.nb,0,none⟩)) hH fun hH=>?_
    refine wkA 13 57 (.pointer (some ⟨m.nb,3,none⟩)) hH fun hH=>?_
    refine woneA 14 fun K hK=>?_
    go_wp2_with fail
    refine hK.out _ _ (held1z (by rfl)) (fun hH=>?_);clear hK K hH
    (try simp only [Act.put,qSa,qSz,qSs])
    refine wdone (by kernel_rfl) ?_ _;obtain ⟨w4,hw4e⟩:∃ w4,(w3.setCell ⟨m.nb,3,none⟩ (.slice (some ⟨vg,0,none⟩) ml vc)).drew=w4:=⟨_,rfl⟩;obtain ⟨m3,hm3e⟩:∃ m3,m2.cutE (.slice (some ⟨vg,0,none⟩) ml vc) ml=m3:=⟨_,rfl⟩
    have T4:Hid (Turn w3 w4 M m2 m3):=by
     show Turn _ _ _ _ _;have h1:=cutE_turn (ao:=some ⟨vg,0,none⟩) (cc:=vc) (k:=ml) A3.out (fun x hx=>by have:=HM.out x hx;have:=HR.out.only.size;have:=O1.out.size;have:=T3.out.only.size;omega) (by rw [N2.out.2.2.2.2,LG.out]) (by rw [LG.out];omega) (by rw [LG.out];omega)
     rw [←hw4e,←hm3e];rw [N2.out.1] at h1
     exact h1.then (Only.refl _ _).drew
    have N3:Hid (m3.nb=m.nb∧m3.root=false∧m3.n=leafN g):=by
     show _∧_∧_;rw [←hm3e];refine ⟨N2.out.1,N2.out.2.1,?_⟩
     have hg:g.length=ml:=by have:=LG.out;rw [N2.out.2.2.1] at this;simpa [leafN] using this
     rw [MNd.cutE,N2.out.2.2.1];simp only [leafN];rw [Wx hg]
    have O34:Hid (Only [m.nb] w3 w4):=by show Only _ _ _;rw [←hw4e];exact ((Only.refl _ _).setCell (.inl (by simp)) _).drew
    have R4:Hid (RowsAt w w4 M [(.slice (some ⟨lg,0,none⟩) (k+1) lc,ms0++[m3])] [(.slice fo Ls.length fc,Ls)] (ms0++[m3])):=by
     show RowsAt _ _ _ _ _ _;have h1:=(R3.out.turn (A:=ms0) (B:=[]) T4.out).congr (A:=[]) (B:=[]) (l':=ms0++[m3]) (by simp [ptrN,N3.out.1]);rw [Ze,Zt,KL.out] at h1;exact h1
    have BX4:Hid (Blk w4 bx [.slice ka q.1.length kk,.int .u64 q.2] 43):=by
     have hbm:bx∉m.blocks:=fun hm=>by
      have:=(HR.out.nodes.at_ m (by simp)).lt bx hm;omega
     exact O34.out.blk (T3.out.only.blk BX.out hbm) (by intro h;simp at h;exact hbm (by rw [h];simp [MNd.blocks]))
    rw [hw4e];clear hw4e hm3e b3 z3
    go_upto_region 10 with fail
    have LR:=Th (R4.out.prow _ (Xw _));have FR:=Th (R4.out.erow _ (Xw _));obtain ⟨fl,hfl⟩:∃ fl,Ls.length=fl:=⟨_,rfl⟩;have FL:=Th hfl;rw [hfl] at R4 FR;rw [hfl]
    have hfl1:fl≤1000001:=by
     have h1:=congrArg List.length HP.out.fs;have h2:=congrArg List.length HP.out.ns;simp only [Zl,Ze,Zt] at h1 h2;rw [KL.out] at h2;rw [FL.out] at h1;omega
    obtain ⟨X,hX⟩:∃ X,(Value.slice (some ⟨lg,0,none⟩) (k+1) lc).ownBlock.toList++(Value.slice fo fl fc).ownBlock.toList=X:=⟨_,rfl⟩
    have LFB:Hid (∀ y∈(Value.slice (some ⟨lg,0,none⟩) (k+1) lc).ownBlock.toList,y∈X∧y<w4.heap.size∧(Value.slice fo fl fc).ownBlock≠some y):=fun y hy=>by
     have hy':=hy;rw [Zk] at hy';obtain ⟨cs,hb⟩:=Xag LR.out.own hy';exact ⟨by rw [←hX];exact Yb _ hy,hb.lt,fun e=>Xaj FR.out.1 hb (by decide) e⟩
    have FLB:Hid (∀ y∈(Value.slice fo fl fc).ownBlock.toList,y∈X∧y<w4.heap.size∧(Value.slice (some ⟨lg,0,none⟩) (k+1) lc).ownBlock≠some y):=fun y hy=>by
     have hy':=hy;rw [Zk] at hy';obtain ⟨cs,hb⟩:=Xag FR.out.1 hy';exact ⟨by rw [←hX];exact Yk _ hy,hb.lt,fun e=>Xaj LR.out.own hb (by decide) e⟩
    have BXX:Hid (bx∉X):=fun hm=>by
     rw [←hX] at hm
     rcases Za.1 hm with h1 | h1
     ·obtain ⟨cs,hb⟩:=Xag LR.out.own (by simpa using h1)
      exact absurd (hb.inj BX4.out).2 (by decide)
     ·have h2:=Xbk (HR.out.erow _ (Xw _)).1 (k:=bx) (by rw [FL.out];simpa using h1)
      omega
    have x0:=BX4.out.cell 0;have x1:=BX4.out.cell 1;simp only [Zd,Zb] at x0 x1;refine Xbw [(2,fun w'=>w'.cell? ⟨bx,0,none⟩=some (.slice ka q.1.length kk)∧w'.cell? ⟨bx,1,none⟩=some (.int .u64 q.2)),(9,fun w'=>w'.cell? ⟨bx,0,none⟩=some (.slice ka q.1.length kk)∧w'.cell? ⟨bx,1,none⟩=some (.int .u64 q.2))] (by kernel_rfl) (by simp;exact ⟨((Only.refl [] _).drew).cell x0 (by simp),((Only.refl [] _).drew).cell x1 (by simp)⟩) (fun hH=>?_)
    refine wkA 0 58 (.slice (some ⟨lg,0,none⟩) (k+1) lc) hH fun hH=>?_
    refine Xbc 1 59 (.agg #[.slice ka q.1.length kk,.int .u64 q.2]) 0 2 rfl rfl rfl (by kernel_rfl) (by kernel_rfl) (by kernel_rfl) (by kernel_rfl) (by rfl) (by kernel_rfl) (fun _ _ _ h=>h) (Or.inl ⟨by rfl,fun w1 hw1=>by obtain ⟨hc2,hc3⟩:=hw1;go_simp⟩) hH (fun hH=>?_)
    (try simp only [Act.put,qSa,qSz,qSs])
    refine wkA 7 65 (.slice fo fl fc) hH fun hH=>?_
    refine Xbc 8 66 (.agg #[.slice ka q.1.length kk,.int .u64 q.2]) 1 9 rfl rfl rfl (by kernel_rfl) (by kernel_rfl) (by kernel_rfl) (by kernel_rfl) (by rfl) (by kernel_rfl) (fun _ _ _ h=>h) (Or.inl ⟨by rfl,fun w1 hw1=>by obtain ⟨hc2,hc3⟩:=hw1;go_simp⟩) hH (fun hH=>?_)
    (try simp only [Act.put,qSa,qSz,qSs])
    clear hH;refine wpW_two (n:=2) [2,3,4,5,6] [9,10] [60,61,62,63,64] [67,68] (LeafA 60 43 (fun g1=>[.int .i64 0,.bool false,.bool true,.slice (some ⟨g1,0,none⟩) 1 1,.slice none 0 0]) w4 X (.slice (some ⟨lg,0,none⟩) (k+1) lc) (k+1) ((ms0++[m3]).map ptrN) [.slice ka q.1.length kk,.int .u64 q.2]) (RowB 67 68 w4 X 43 2 (.slice fo fl fc) fl (kvsC Ls) [.slice ka q.1.length kk,.int .u64 q.2])
     (by kernel_rfl) (by kernel_rfl) (by decide) (by kernel_rfl) (by kernel_rfl) (by decide) (fun _ _ _ _ _ h=>h) (fun i pA w h=>h.slots) (fun i pA w h=>h.slots) ?stepA ?stepB ?held ?fin 7 0 0 [] [] w4.drew (by decide) (by decide) rfl ?begA ?begB
    case begA=>exact ⟨rfl,(Only.refl _ _).drew,Xad (by have:=LR.out.own;rw [Ze,Zt,KL.out] at this;exact this) (Only.refl _ _).drew⟩
    case begB=>exact ⟨rfl,(Only.refl _ _).drew,Xad FR.out.1 (Only.refl _ _).drew⟩
    case held =>
     intro i j pA pB w' hA hB;have h1:=hA.only.cell x0 BXX.out;have h2:=hA.only.cell x1 BXX.out;exact held2 (.inr ⟨h1,h2⟩) (.inr ⟨h1,h2⟩)
    case stepA =>
     intro i kop pA w' hik hI
     rcases i with _ | _ | _ | _ | _ | i
     ·obtain rfl:2=kop:=by simpa using hik
      obtain ⟨rfl,hO,hW⟩:=hI;refine Xbz rfl (by rfl) (fun K hK=>?_);simp only [puts,Xu]
      go_wp2_with fail
      have hA:Only [] w' (w'.alloc (.cells #[.slice ka q.1.length kk,.int .u64 q.2] 43)):=(Only.refl _ _).alloc _;refine hK.out _ _ ⟨[(60,.slice (some ⟨w'.heap.size,0,none⟩) 1 1)],rfl,⟨w'.heap.size,rfl,hO.alloc _,Xad hW hA,hO.size,Blk.new [.slice ka q.1.length kk,.int .u64 q.2] 43 w'⟩,fun j pB hB=>hB.keep hA (by simp)⟩
     ·obtain rfl:3=kop:=by simpa using hik
      obtain ⟨g1,rfl,hO,hW,hg1,hb1⟩:=hI;refine Xbz rfl (by rfl) (fun K hK=>?_);simp only [puts,Xu,Wl]
      (try simp only [Act.put,qSa,qSz,qSs])
      go_wp2_with fail
      refine hK.out _ _ ⟨_,rfl,⟨g1,rfl,hO,hW,hg1,hb1⟩,fun j pB hB=>hB⟩
     ·obtain rfl:4=kop:=by simpa using hik
      obtain ⟨g1,rfl,hO,hW,hg1,hb1⟩:=hI;refine Xbz rfl (by rfl) (fun K hK=>?_);simp only [puts,Xu,Wl]
      (try simp only [Act.put,qSa,qSz,qSs])
      go_wp2_with fail
      have hA:Only [] w' (w'.alloc (.cells #[.int .i64 0,.bool false,.bool true,.slice (some ⟨g1,0,none⟩) 1 1,.slice none 0 0] 77)):=(Only.refl _ _).alloc _;refine hK.out _ _ ⟨_,rfl,⟨g1,w'.heap.size,rfl,hO.alloc _,Xad hW hA,hg1,hA.blk hb1 (by simp),hO.size,Blk.new [.int .i64 0,.bool false,.bool true,.slice (some ⟨g1,0,none⟩) 1 1,.slice none 0 0] 77 w'⟩,fun j pB hB=>hB.keep hA (by simp)⟩
     ·obtain rfl:5=kop:=by simpa using hik
      obtain ⟨g1,g2,rfl,hO,hW,hg1,hb1,hg2,hb2⟩:=hI;refine Xbz rfl (by rfl) (fun K hK=>?_);simp only [puts,Xu,Wl]
      (try simp only [Act.put,qSa,qSz,qSs])
      go_wp2_with fail
      have hA:Only [] w' (w'.alloc (.cells #[.pointer (some ⟨g2,0,none⟩)] 75)):=(Only.refl _ _).alloc _;refine hK.out _ _ ⟨_,rfl,⟨g1,g2,w'.heap.size,rfl,hO.alloc _,Xad hW hA,hg1,hA.blk hb1 (by simp),hg2,hA.blk hb2 (by simp),hO.size,Blk.new [.pointer (some ⟨g2,0,none⟩)] 75 w'⟩,fun j pB hB=>hB.keep hA (by simp)⟩
     ·obtain rfl:6=kop:=by simpa using hik
      obtain ⟨g1,g2,g3,rfl,hO,hW,hg1,hb1,hg2,hb2,hg3,hb3⟩:=hI;refine Xbz rfl (by rfl) (fun K hK=>?_)
      refine Xbl 64 rfl (.tmp 58) (.tmp 63) 81 rfl 75 underlying81 (info_parts Xcg) rfl (by decide) (.slice (some ⟨lg,0,none⟩) (k+1) lc) (k+1) ((ms0++[m3]).map ptrN) rfl hW (some ⟨g3,0,none⟩) 1 1 rfl [.pointer (some ⟨g2,0,none⟩)] rfl (fun _=>⟨_,rfl,fun j u hu=>by rw [Xah,Yd];exact (hb3.cell j).trans hu⟩) (by intro u hu;simp at hu;subst hu;rfl) (by omega) (by decide) ?_
      intro v' w6 hg6;obtain ⟨va6,vc6,rfl⟩:=hg6.shape;have hOX:=hg6.only;refine hK.out _ _ ⟨_,rfl,⟨g1,g2,g3,va6,vc6,rfl,hO.trans hOX (fun x hx=>.inl (LFB.out x hx).1),hg6.own,hg1,hOX.blk hb1 (fun hm=>?_),hg2,hOX.blk hb2 (fun hm=>?_),fun x hx=>?_⟩,fun j pB hB=>hB.keep hOX LFB.out⟩
      ·have:=(LFB.out _ hm).2.1;omega
      ·have:=(LFB.out _ hm).2.1;omega
      ·rcases hg6.lies x hx with h1 | h1
       ·exact .inl h1
       ·exact .inr (Zp hO.size h1)
     ·simp at hik
    case stepB =>
     intro j kop pB w' hjk hI
     rcases j with _ | _ | j
     ·obtain rfl:9=kop:=by simpa using hjk
      obtain ⟨rfl,hO,hW⟩:=hI;refine Xbz rfl (by rfl) (fun K hK=>?_);simp only [puts,Xu]
      go_wp2_with fail
      have hA:Only [] w' (w'.alloc (.cells #[.slice ka q.1.length kk,.int .u64 q.2] 43)):=(Only.refl _ _).alloc _;refine hK.out _ _ ⟨[(67,.slice (some ⟨w'.heap.size,0,none⟩) 1 1)],rfl,⟨w'.heap.size,rfl,hO.alloc _,Xad hW hA,hO.size,Blk.new [.slice ka q.1.length kk,.int .u64 q.2] 43 w'⟩,fun j pB hB=>hB.keep hA (by simp)⟩
     ·obtain rfl:10=kop:=by simpa using hjk
      obtain ⟨g1,rfl,hO,hW,hg1,hb1⟩:=hI;refine Xbz rfl (by rfl) (fun K hK=>?_)
      refine Xbl 68 rfl (.tmp 65) (.tmp 67) 48 rfl 43 underlying48 (info_parts Xbq) rfl (by decide) (.slice fo fl fc) fl (kvsC Ls) rfl hW (some ⟨g1,0,none⟩) 1 1 rfl [.slice ka q.1.length kk,.int .u64 q.2] rfl (fun _=>⟨_,rfl,fun j u hu=>by rw [Xah,Yd];exact (hb1.cell j).trans hu⟩) (by intro u hu;simp at hu;rcases hu with rfl | rfl <;> rfl) (by omega) (by decide) ?_
      intro v' w6 hg6;obtain ⟨va6,vc6,rfl⟩:=hg6.shape;have hOX:=hg6.only;refine hK.out _ _ ⟨_,rfl,⟨g1,va6,vc6,rfl,hO.trans hOX (fun x hx=>.inl (FLB.out x hx).1),hg6.own,fun x hx=>?_⟩,fun j pB hB=>hB.keep hOX FLB.out⟩
      ·rcases hg6.lies x hx with h1 | h1
       ·exact .inl h1
       ·exact .inr (Zp hO.size h1)
     ·simp at hjk
    case fin =>
     intro pA pB w' hA hB;obtain ⟨g1,g2,g3,va6,vc6,rfl,hO,hW,hg1,hb1,hg2,hb2,hl6⟩:=hA;obtain ⟨h1,va7,vc7,rfl,hO7,hW7,hl7⟩:=hB;refine Xlb (held2 (.inl (by rfl)) (.inl (by rfl))) (fun hH=>?_);simp only [puts,Xu,Wl]
     (try simp only [Act.put,qSa,qSz,qSs])
     refine wkA 11 3 (.slice va6 (k+1+1) vc6) hH fun hH=>?_
     refine wkA 12 4 (.slice va7 (fl+1) vc7) hH fun hH=>?_
     refine wdone (by kernel_rfl) ?_ _
     have HD:Hid (2≤ms0.length+1+1):=by show _≤_;omega
     have hXn:∀ x∈X,w.heap.size≤x:=fun x hx=>by
      rw [←hX] at hx
      rcases Za.1 hx with h | h
      ·exact (LR.out.off x (by simpa using h)).2
      ·exact (FR.out.2.2 x (by simpa using h)).2.1
     have hOw:Only [] w w':=R4.out.only.trans hO (fun x hx=>.inr (hXn x hx));have KQ':=(HQ.out _ QI.out).past hOw
     have hM4:∀ x,w4.heap.size≤x→x∉M:=fun x hx hm=>by have:=HM.out x hm;have:=R4.out.only.size;omega
     have N4:NodeAt w' M ⟨g2,false,leafN [q],.slice (some ⟨g1,0,none⟩) 1 1,.slice none 0 0,[(.slice ka q.1.length kk,q)]⟩:={
      blk:=hb2
      es:=rfl
      ents:=I.blk_owns hb1 rfl (Zq 1) (by decide) rfl rfl
      kids:=⟨rfl,.inl ⟨rfl,rfl⟩⟩
      keys:=fun p hp=>by rw [Zo.1 hp];exact KQ'
      off:=fun x hx=>by
       simp [MNd.blocks,Value.ownBlock] at hx
       rcases hx with rfl | rfl
       ·exact hM4 _ hg2
       ·exact hM4 _ hg1 }
     have hfl2:1≤fl:=by
      have h1:=congrArg List.length HP.out.fs;simp only [Zl,Ze,Zt] at h1;rw [FL.out] at h1;omega
     have RM:=RowsAt.more (A:=[]) (B:=[]) (A':=[]) (B':=[]) (m:=⟨g2,false,leafN [q],.slice (some ⟨g1,0,none⟩) 1 1,.slice none 0 0,[(.slice ka q.1.length kk,q)]⟩) (q:=(.slice ka q.1.length kk,q)) R4.out HM.out (hX ▸ hO) N4 (fun x hx=>by
       simp [MNd.blocks,Value.ownBlock] at hx
       rcases hx with rfl | rfl
       ·exact hg2
       ·exact hg1) ((HQ.out _ QI.out).past R4.out.only) (by rw [Ze,Zt,KL.out];exact hW) (by rw [FL.out];exact hW7) hl6 hl7 (fun x hx hm=>by
       simp [MNd.blocks,Value.ownBlock] at hm
       rcases hm with rfl | rfl
       ·obtain ⟨cs,hb⟩:=Xag hW7 hx
        exact absurd (hb.inj hb2).2 (by decide)
       ·have:=owns_long hW7 hx hb1
        simp at this
        omega)
     obtain ⟨m4,hm4⟩:∃ m4:MNd,(⟨g2,false,leafN [q],.slice (some ⟨g1,0,none⟩) 1 1,.slice none 0 0,[(.slice ka q.1.length kk,q)]⟩:MNd)=m4:=⟨_,rfl⟩;rw [hm4] at RM;have RMH:=Th RM
     have M4:Hid (m4.n=leafN [q]∧m4.root=false):=by show _∧_;rw [←hm4];exact ⟨rfl,rfl⟩
     clear hH RM hm4 N4 KQ' hM4 hOw hXn hb1 hb2 hW hW7 hl6 hl7 hO hO7 x0 x1
     go_wp2_with fail
     go_roundg (n-(i+1))
     case measure=>have:=HGK.out;omega
     case rel =>
      refine ⟨i+1,ms0++[m3]++[m4],Ls++[(.slice ka q.1.length kk,q)],D++[(f,g)],q,[q],va6,va7,vc6,vc7,rfl,by omega,by go_num,by simp [KL.out],by simp [FL.out],?_,?_⟩
      ·have:=RMH.out
       simp only [Ym] at this;rw [show (ms0++[m3]++[m4]).length=k+1+1 by simp [KL.out],show (Ls++[((.slice ka q.1.length kk,q):KV)]).length=fl+1 by simp [FL.out]];exact this
      ·refine ⟨?_,Xgk (HK.out q QM.out).1,fun e he=>by rw [Zo.1 he];exact QM.out,?_,?_,?_,by simp [KL.out];omega⟩
       ·have h1:=HP.out.go
        rw [DR.out,packG_cut HF.out] at h1;rw [Zu];exact h1
       ·have h1:=HP.out.ns
        rw [Zs] at h1;have h2:=List.append_inj_left' h1 rfl
        simp [h2,N3.out.2.2,M4.out.1]
       ·simp [HP.out.fs]
       ·intro x hx
        rcases Za.1 hx with h1 | h1
        ·rcases Za.1 h1 with h2 | h2
         ·exact HP.out.roots x (by simp [h2])
         ·rw [Zo.1 h2];exact N3.out.2.1
        ·rw [Zo.1 h1];exact M4.out.2
  ·have hin:i=n:=by omega
   subst hin
   have hnlt:¬(i:Int)<i:=by omega
   have hall:D++[(f,g)]=packG ([],0) [] (L.map (·.2)):=by
    have h1:=HP.out.go;rw [Xq (by rw [Zl,LN.out];exact Zq _)] at h1
    exact h1
   have hpl:packL (L.map (·.2))=(D++[(f,g)]).map fun y=>(y.1,y.2,[]):=by unfold packL;rw [←hall]
   have LV0:Hid (LevelAt true (packL (L.map (·.2))) [] (ms0++[m]) [] Ls):=by
    show LevelAt _ _ _ _ _ _;rw [hpl];refine ⟨?_,rfl,?_,fun x hx=>HP.out.roots x (by simpa using hx),?_⟩
    ·rw [HP.out.ns];simp [leafN,levN]
    ·rw [HP.out.fs];simp
    ·rw [Yw,show ((fun x:Fl=>x.1) ∘ fun y:Pr × List Pr=>((y.1,y.2,[]):Fl))=(·.1) from rfl]
     intro e he;obtain ⟨y,hy,rfl⟩:=Zi.1 he;rw [hall] at hy
     rcases Xfw _ _ _ y hy with h | h
     ·rw [h];exact ⟨by decide,by decide⟩
     ·exact HK.out _ h
   have hlen0:(packL (L.map (·.2))).length=k+1∧Ls.length=k+1:=by
    have h1:=congrArg List.length LV0.out.ns;have h2:=congrArg List.length LV0.out.fs;simp only [Zl,Ze,Zt] at h1 h2;rw [KL.out] at h1;exact ⟨h1.symm,by omega⟩
   have LEN0:=Th hlen0;rw [hlen0.2];clear hall hpl hlen0 hlcell hlc
   go_wp2_with fail
   go_loopg [3,4,8] res.length (fun gk s3 s4 s8 wq=>∃ (leaf:Bool) (level:List Fl) (out:List Nd) (ms os:List MNd) (Ls:List KV) (lo fo oo:Option Addr) (lc fc oc:Nat),gk=res.length-out.length∧s3=.slice lo level.length lc∧s4=.slice fo level.length fc∧s8=.slice oo out.length oc ∧
    Packs leaf level out res∧LevelAt leaf level out ms os Ls∧RowsAt w wq M [(.slice lo level.length lc,ms),(.slice oo out.length oc,os)] [(.slice fo level.length fc,Ls)] (os++ms))
   case atStart =>
    refine ⟨true,packL (L.map (·.2)),[],ms0++[m],[],Ls,some ⟨lg,0,none⟩,fo,none,lc,fc,0,rfl,by rw [LEN0.out.1],by rw [LEN0.out.1],rfl,PK.out,LV0.out,?_⟩;rw [LEN0.out.1];have h1:=HR.out.nilP.pperm (List.Perm.swap _ _ _);rw [Ze,Zt,KL.out,LEN0.out.2] at h1;exact h1
   case round =>
    clear HP HR LV0 LEN0 KL hm ms0 m D f g Ls;obtain ⟨leaf,level,out,ms,os,Ls,lo,fo,oo,lc,fc,oc,hgk,rfl,rfl,rfl,hpk,hlv,hrw⟩:=hrel;have HGK:=Th hgk;have PKS:=Th hpk;have LV:=Th hlv;have RW:=Th hrw;obtain ⟨K,hK⟩:∃ K,level.length=K:=⟨_,rfl⟩;obtain ⟨mo,hmo⟩:∃ mo,out.length=mo:=⟨_,rfl⟩;have KE:=Th hK;have ME:=Th hmo;have hfew:=packs_few hpk;rw [hK,hmo] at hfew;rw [hK,hmo] at RW;rw [hK,hmo]
    have hKb:K≤400000:=by have:=RL.out;omega
    have hmb:mo≤400000:=by have:=RL.out;omega
    clear hgk hpk hlv hrw hK hmo hfew
    by_cases h1:1<K
    ·have h1':(1:Int)<K:=by omega
     have PM:=Th (Xlv PKS.out (by rw [KE.out];exact h1));obtain ⟨S,hS⟩:∃ S,seps out.length level=S:=⟨_,rfl⟩;rw [hS] at PM;have SE:=Th hS;clear hS
     go_wp2_with fail
     go_loopg [75,8,9,10] K (fun gk s75 s8 s9 s10 wv=>∃ (i:Nat) (us os':List MNd) (Bs:List KV) (oo uo bo:Option Addr) (oc uc bc:Nat),gk=K-i∧i≤K∧s75=.int .i64 i∧s8=.slice oo (mo+i) oc∧s9=.slice uo us.length uc∧s10=.slice bo us.length bc∧us.length≤i∧Bs.length=us.length ∧
      os'.map (·.n)=out++(numb leaf mo level).take i∧(∀ m∈os'++us,m.root=false)∧UpAt S i us Bs ∧
      RowsAt w wv M [(.slice uo us.length uc,us),(.slice oo (mo+i) oc,os'),(.slice lo K lc,ms)] [(.slice bo us.length bc,Bs),(.slice fo K fc,Ls)] (os'++(ms.drop i++us)))
     case atStart =>
      refine ⟨0,[],os,[],oo,none,none,oc,0,0,rfl,Yc _,rfl,rfl,rfl,rfl,Zq _,rfl,by rw [Wc,Xj];exact LV.out.outs,fun m hm=>LV.out.roots m (by simp at hm;simp [hm]),.inl ⟨rfl,rfl,rfl⟩,?_⟩;have h1:=((RW.out.pperm (List.Perm.swap _ _ _)).nilP).nilE
      simpa using h1
     case round =>
      obtain ⟨i,us,os',Bs,oo,uo,bo,oc,uc,bc,hgk,hi,rfl,rfl,rfl,rfl,hul,hbl,hos,hrt,hup,hrw⟩:=hrel;have HGI:=Th hgk;have HOS:=Th hos;have HRT:=Th hrt;have HUP:=Th hup;have RI:=Th hrw
      have hi0:(0:Int)≤i:=by omega
      clear hgk hos hrt hup hrw
      by_cases hlt:i<K
      ·have hlt':(i:Int)<K:=by omega
       obtain ⟨x,hx⟩:∃ x,level[i]?=some x:=⟨_,Zc (by rw [KE.out];exact hlt)⟩
       have hcn:∃ c,ms[i]?=some c∧c.n=levN leaf x:=by
        have h1:=congrArg (·[i]?) LV.out.ns;simp only [Zr,hx,Xe] at h1;exact Xz.1 h1
       obtain ⟨c,hc,hcn⟩:=hcn
       have hqn:∃ q,Ls[i]?=some q∧q.2=x.1:=by
        have h1:=congrArg (·[i]?) LV.out.fs;simp only [Zr,hx,Xe] at h1;exact Xz.1 h1
       obtain ⟨q,hq,hqx⟩:=hqn;obtain ⟨qv,qp⟩:=q;obtain rfl:qp=x.1:=hqx;have CR:Hid (c.root=false):=LV.out.roots c (by simp [Zm hc]);have HX:=Th hx;have HCN:=Th hcn
       have SI:Hid (S[i]?=some (x.1,-1-((mo+i:Nat):Int))):=by show _=_;rw [←SE.out,←ME.out];exact seps_get hx
       have NI:Hid ((numb leaf mo level)[i]?=some ⟨-1-((mo+i:Nat):Int),leaf,x.2.1,x.2.2⟩):=numb_get leaf hx;have MD:Hid (ms.drop i=c :: ms.drop (i+1)):=Xdg hc;have QK:Hid (KeyOk wr M (qv,x.1)):=(RI.out.erow (.slice fo K fc,Ls) (by simp)).2.1 _ (Zm hq);obtain ⟨qa,qk,hqv,_⟩:=id QK.out.bytes;dsimp only at hqv;obtain rfl:qv=_:=hqv;obtain ⟨fg,fc',hfo,_,_⟩:=Xmq (RI.out.erow (.slice fo K fc,Ls) (by simp)).1 hq;simp only [Value.slice.injEq] at hfo;obtain ⟨rfl,hKl,rfl⟩:=hfo;clear hKl;have LQ:=Th hq;have XK:Hid (Keys [x.1]):=LV.out.keys.sub (fun e he=>by rw [Zo.1 he];exact Zi.2 ⟨x,Zm hx,rfl⟩)
       obtain ⟨lg,lc',hlo,_,hlcell⟩:=(RI.out.prow (.slice lo K lc,ms) (by simp)).get hc;simp only [Value.slice.injEq] at hlo;obtain ⟨rfl,hKm,rfl⟩:=hlo;clear hKm;obtain ⟨oi,hoi⟩:∃ oi,mo+i=oi:=⟨_,rfl⟩;have OI:=Th hoi
       have hoib:oi≤800000:=by omega
       rw [hoi] at RI SI NI;rw [hoi]
       have RI2:Hid (RowsAt w wr M [(.slice uo us.length uc,us),(.slice oo oi oc,os'),(.slice (some ⟨lg,0,none⟩) K lc,ms)] [(.slice bo us.length bc,Bs),(.slice (some ⟨fg,0,none⟩) K fc,Ls)] (os'++c :: (ms.drop (i+1)++us))):=by
        have:=RI.out;rw [MD.out] at this;exact this
       have C0:=Th (RI2.out.nodes.at_ c (by simp));have c0:=C0.out.blk.cell 0;have z0:=C0.out.blk.frozen 0;simp only [Zb] at c0
       have MB:Hid (∀ x∈M,x<wr.heap.size):=fun x hx=>by have:=HM.out x hx;have:=RI2.out.only.size;omega
       have T1:=Th (Xmt C0.out MB.out (-1-(oi:Int)));obtain ⟨c1,hc1⟩:∃ c1,({ c with n:={ c.n with id:=-1-(oi:Int) } }:MNd)=c1:=⟨_,rfl⟩;rw [hc1] at T1
       have C1:Hid (c1.nb=c.nb∧c1.root=c.root∧c1.n=⟨-1-(oi:Int),leaf,x.2.1,x.2.2⟩):=by show _∧_∧_;rw [←hc1];exact ⟨rfl,rfl,by rw [HCN.out];rfl⟩
       have hw3:IntKind.i64.wrap (-1-(oi:Int)) = -1-(oi:Int):=by rw [Yi];omega
       clear hx hcn hq hc hc1 hoi
       go_upto_region 20 with fail
       obtain ⟨w1,hw1e⟩:∃ w1,wr.setCell ⟨c.nb,0,none⟩ (.int .i64 (-1-(oi:Int)))=w1:=⟨_,rfl⟩;rw [hw1e] at T1 ⊢;have R1:=Th (RI2.out.turn T1.out);have OW:=Th (R1.out.prow (.slice oo oi oc,os') (by simp)).own
       have OSL:Hid (os'.length=oi):=by
        have h1:=congrArg List.length HOS.out;simp only [Zl,Ze,Zj,Xbu] at h1;show _=_;rw [h1,ME.out,KE.out,Yt hi,OI.out]
       have OW2:Hid (w1.ownsRow 0 75 1 (.slice oo oi oc) oi (os'.map ptrN)):=by show World.ownsRow _ _ _ _ _ _ _;have:=OW.out;rw [OSL.out] at this;exact this
       clear hw1e c0 z0 OW
       go_upto_if 92 with (at_builtin;refine Xap rfl (.tmp 86) (.tmp 88) 81 rfl 75 underlying81 (info_parts Xcg) rfl (by decide) (.slice oo oi oc) oi (os'.map ptrN) rfl (Xad OW2.out ((Only.refl _ _).alloc _)) (some ⟨w1.heap.size,0,none⟩) 1 1 rfl [.pointer (some ⟨c.nb,0,none⟩)] rfl (fun _=>⟨_,rfl,fun j u hu=>by rw [Xah,Yd];exact ((Blk.new [.pointer (some ⟨c.nb,0,none⟩)] 75 w1).cell j).trans hu⟩) (by intro u hu;simp at hu;subst hu;rfl) (by omega) (by decide) ?_;intro v' w2 hg2;obtain ⟨va,vc,rfl⟩:=hg2.shape;have G2:=Th (Grew.pre ((Only.refl _ _).alloc _) hg2);clear hg2)
       have R2:Hid (RowsAt w w2 M [(.slice uo us.length uc,us),(.slice va (oi+1) vc,os'++[c1]),(.slice (some ⟨lg,0,none⟩) K lc,ms)] [(.slice bo us.length bc,Bs),(.slice (some ⟨fg,0,none⟩) K fc,Ls)] ((os'++[c1])++(ms.drop (i+1)++us))):=by
        show RowsAt _ _ _ _ _ _
        have h1:=R1.out.growP (A:=[(.slice uo us.length uc,us)]) (B:=[(.slice (some ⟨lg,0,none⟩) K lc,ms)]) (v':=.slice va (oi+1) vc) (l':=os'++[c1]) HM.out (by
         have:=G2.out
         simpa [ptrN,C1.out.1,OSL.out] using this)
        simpa using h1
       have RT2:Hid (∀ m∈os'++[c1],m.root=false):=fun y hy=>by
        rcases Za.1 hy with h | h
        ·exact HRT.out y (by simp [h])
        ·rw [Zo.1 h,C1.out.2.1];exact CR.out
       have OS2:Hid ((os'++[c1]).map (·.n)=out++(numb leaf mo level).take (i+1)):=by
        show _=_;rw [Zs,HOS.out,Xg,NI.out,Zu]
        simp [C1.out.2.2]
       clear R1 T1 C0 OW2 G2;obtain ⟨ul,hule⟩:∃ ul,us.length=ul:=⟨_,rfl⟩;have ULE:=Th hule;rw [hule] at hul hbl R2;rw [hule];clear hule
       go_cut [13,75] from 75 to 172 (fun s13 s75 wx=>s75=.int .i64 i∧∃ (us2:List MNd) (D:List Fl),UpFull S i (x.1,-1-(oi:Int)) us2 Bs D∧us2.length=ul∧(∀ m∈us2,m.root=false) ∧
        RowsAt w wx M [(.slice uo ul uc,us2),(.slice va (oi+1) vc,os'++[c1]),(.slice (some ⟨lg,0,none⟩) K lc,ms)] [(.slice bo ul bc,Bs),(.slice (some ⟨fg,0,none⟩) K fc,Ls)] ((os'++[c1])++(ms.drop (i+1)++us2)))
       case first =>
        rcases HUP.out with ⟨hi00,hus,hbs⟩ | ⟨D,f,E,C,hso⟩
        ·subst hus
         subst hbs;have HI00:=Th hi00;clear hi00;obtain rfl:0=ul:=ULE.out
         go_wp2_with fail
         go_meet
         case rel =>
          refine ⟨rfl,[],[],?_,rfl,by simp,R2.out⟩;have h1:=SI.out;rw [HI00.out] at h1 ⊢;exact .zero h1
        ·obtain ⟨us0,mu,hus,_,hmun⟩:=snoc_of hso.ns
         subst hus;have SO:=Th hso;have MUN:Hid (mu.n=levN false (f,E,C)):=hmun;clear hso hmun;obtain ⟨ku,hku⟩:∃ ku,us0.length=ku:=⟨_,rfl⟩;have KU:=Th hku
         obtain rfl:ku+1=ul:=by have:=ULE.out;rw [Ze,Zt,hku] at this;exact this
         have hkub:ku≤400000:=by omega
         have BL:=Th hbl;clear hku hbl;obtain ⟨ug,uc',huo,_,hucell⟩:=(R2.out.prow (.slice uo (ku+1) uc,us0++[mu]) (by simp)).get (i:=ku) (m:=mu) (by rw [Yo (by rw [KU.out];exact Zq _),KU.out];simp)
         simp only [Value.slice.injEq] at huo;obtain ⟨rfl,huk,rfl⟩:=huo;clear huk
         have R4:Hid (RowsAt w w2 M [(.slice (some ⟨ug,0,none⟩) (ku+1) uc,us0++[mu]),(.slice va (oi+1) vc,os'++[c1]),(.slice (some ⟨lg,0,none⟩) K lc,ms)] [(.slice bo (ku+1) bc,Bs),(.slice (some ⟨fg,0,none⟩) K fc,Ls)] (((os'++[c1])++(ms.drop (i+1)++us0))++mu :: [])):=by
          show RowsAt _ _ _ _ _ _;have:=R2.out
          simpa using this
         have MU:=Th (R4.out.nodes.at_ mu (by simp));have CN:=Th (R4.out.nodes.at_ c1 (by simp));have AP:Hid (Apart c1 mu):=(Zn.1 R4.out.nodes.apart).2.2 c1 (by simp) mu (by simp);obtain ⟨ea,ec,hev⟩:=Xac MU.out.ents;obtain ⟨ca,cc,hcv⟩:=Xac MU.out.kids
         have hL:mu.L.length=E.length:=by rw [MU.out.len,MUN.out];rfl
         have hC:mu.n.cs.length=E.length+1:=by rw [MUN.out];exact SO.out.long
         obtain ⟨el,hel⟩:∃ el,E.length=el:=⟨_,rfl⟩
         have helb:el≤50:=by rw [←hel];exact Xca SO.out.fit
         rw [hel] at hL hC;have EL:=Th hel;have LL:=Th hL;have CL:=Th hC;rw [hL] at hev;rw [hC] at hcv;have EV:=Th hev;have CV:=Th hcv
         have OE:Hid (w2.ownsRow 0 43 2 (.slice ea el ec) el (kvsC mu.L)):=by show World.ownsRow _ _ _ _ _ _ _;have:=MU.out.ents;rw [hev,hL] at this;exact this
         have OC:Hid (w2.ownsRow 0 3 1 (.slice ca (el+1) cc) (el+1) (intsC mu.n.cs)):=by show World.ownsRow _ _ _ _ _ _ _;have:=MU.out.kids;rw [hcv,hC] at this;exact this
         have b3:=MU.out.blk.cell 3;have b4:=MU.out.blk.cell 4;simp only [Zd,Zb] at b3 b4;rw [hev] at b3;rw [hcv] at b4;have FR:=Th (R4.out.erow (.slice (some ⟨fg,0,none⟩) K fc,Ls) (by simp));obtain ⟨fg',fc',hfo',_,f0,f1⟩:=Xmq FR.out.1 LQ.out;simp only [Value.slice.injEq,Zw,Addr.mk.injEq,and_true] at hfo';obtain ⟨rfl,hKl2,rfl⟩:=hfo';clear hKl2;simp only at f0 f1
         have c0:w2.cell? ⟨c.nb,0,none⟩=some (.int .i64 (-1-(oi:Int))):=by
          have:=CN.out.blk.cell 0;rw [C1.out.1,C1.out.2.2] at this;exact this
         obtain ⟨X,hX⟩:∃ X,(Value.slice ea el ec).ownBlock.toList++(Value.slice ca (el+1) cc).ownBlock.toList=X:=⟨_,rfl⟩
         have XM:Hid (∀ x∈X,x∈mu.blocks):=fun x hx=>by
          rw [←hX,←EV.out,←CV.out] at hx;exact Yg _ hx
         have LFB:Hid (∀ y∈(Value.slice ea el ec).ownBlock.toList,y∈X∧y<w2.heap.size∧(Value.slice ca (el+1) cc).ownBlock≠some y):=fun y hy=>by
          have hy':=hy;rw [Zk] at hy';obtain ⟨cs,hb⟩:=Xag OE.out hy';exact ⟨by rw [←hX];exact Yb _ hy,hb.lt,fun e=>Xaj OC.out hb (by decide) e⟩
         have FLB:Hid (∀ y∈(Value.slice ca (el+1) cc).ownBlock.toList,y∈X∧y<w2.heap.size∧(Value.slice ea el ec).ownBlock≠some y):=fun y hy=>by
          have hy':=hy;rw [Zk] at hy';obtain ⟨cs,hb⟩:=Xag OC.out hy';exact ⟨by rw [←hX];exact Yk _ hy,hb.lt,fun e=>Xaj OE.out hb (by decide) e⟩
         have CXX:Hid (c.nb∉X):=fun hm=>AP.out c.nb (by rw [←C1.out.1];simp [MNd.blocks]) (XM.out _ hm)
         have FXX:Hid (fg∉X):=fun hm=>(FR.out.2.2 fg rfl).2.2 mu (by simp) (XM.out _ hm)
         have MXX:Hid (mu.nb∉X):=fun hm=>by
          rw [←hX] at hm
          rcases Za.1 hm with h1 | h1
          ·exact Xaj OE.out MU.out.blk (by decide) (by simpa using h1)
          ·exact Xaj OC.out MU.out.blk (by decide) (by simpa using h1)
         clear hev hcv hL hC hel
         go_upto_region 23 with fail
         refine Xbw [(11,fun w'=>w'.cell? ⟨mu.nb,3,none⟩=some (.slice ea el ec)),(10,fun w'=>w'.cell? ⟨fg,i*2,none⟩=some (.slice qa x.1.1.length qk)∧w'.cell? ⟨fg,i*2+1,none⟩=some (.int .u64 x.1.2)),(21,fun w'=>w'.cell? ⟨mu.nb,4,none⟩=some (.slice ca (el+1) cc)),(20,fun w'=>w'.cell? ⟨c.nb,0,none⟩=some (.int .i64 (-1-(oi:Int))))] (by kernel_rfl)
          (by simp;exact ⟨((Only.refl [] _).drew).cell b3 (by simp),⟨((Only.refl [] _).drew).cell f0 (by simp),((Only.refl [] _).drew).cell f1 (by simp)⟩,((Only.refl [] _).drew).cell b4 (by simp),((Only.refl [] _).drew).cell c0 (by simp)⟩) (fun hH=>?_)
         refine wkA 0 99 (.pointer (some ⟨mu.nb,0,none⟩)) hH fun hH=>?_
         refine wkA 1 100 (.pointer (some ⟨mu.nb,0,none⟩)) hH fun hH=>?_
         refine wkA 2 101 (.pointer (some ⟨mu.nb,0,none⟩)) hH fun hH=>?_
         refine wkA 3 102 (.pointer (some ⟨mu.nb,0,none⟩)) hH fun hH=>?_
         refine wkA 4 103 (.pointer (some ⟨mu.nb,3,none⟩)) hH fun hH=>?_
         refine Xbc 5 104 (.slice ea el ec) 0 11 rfl rfl rfl (by kernel_rfl) (by kernel_rfl) (by kernel_rfl) (by kernel_rfl) (by rfl) (by kernel_rfl) (fun _ _ _ h=>h) (Or.inl ⟨by rfl,fun w1 hw1=>by go_simp⟩) hH (fun hH=>?_)
         (try simp only [Act.put,qSa,qSz,qSs])
         refine wkA 6 105 (.slice (some ⟨fg,0,none⟩) K fc) hH fun hH=>?_
         refine wkA 7 106 (.int .i64 i) hH fun hH=>?_
         refine wkA 8 107 (.pointer (some ⟨fg,i*2,none⟩)) hH fun hH=>?_
         refine Xbc 9 108 (.agg #[.slice qa x.1.1.length qk,.int .u64 x.1.2]) 1 10 rfl rfl rfl (by kernel_rfl) (by kernel_rfl) (by kernel_rfl) (by kernel_rfl) (by rfl) (by kernel_rfl) (fun _ _ _ h=>h) (Or.inl ⟨by rfl,fun w1 hw1=>by obtain ⟨hc2,hc3⟩:=hw1;go_simp⟩) hH (fun hH=>?_)
         (try simp only [Act.put,qSa,qSz,qSs])
         refine wkA 12 111 (.pointer (some ⟨mu.nb,0,none⟩)) hH fun hH=>?_
         refine wkA 13 112 (.pointer (some ⟨mu.nb,0,none⟩)) hH fun hH=>?_
         refine wkA 14 113 (.pointer (some ⟨mu.nb,4,none⟩)) hH fun hH=>?_
         refine Xbc 15 114 (.slice ca (el+1) cc) 2 21 rfl rfl rfl (by kernel_rfl) (by kernel_rfl) (by kernel_rfl) (by kernel_rfl) (by rfl) (by kernel_rfl) (fun _ _ _ h=>h) (Or.inl ⟨by rfl,fun w1 hw1=>by go_simp⟩) hH (fun hH=>?_)
         (try simp only [Act.put,qSa,qSz,qSs])
         refine wkA 16 115 (.pointer (some ⟨c.nb,0,none⟩)) hH fun hH=>?_
         refine wkA 17 116 (.pointer (some ⟨c.nb,0,none⟩)) hH fun hH=>?_
         refine wkA 18 117 (.pointer (some ⟨c.nb,0,none⟩)) hH fun hH=>?_
         refine Xbc 19 118 (.int .i64 (-1-(oi:Int))) 3 20 rfl rfl rfl (by kernel_rfl) (by kernel_rfl) (by kernel_rfl) (by kernel_rfl) (by rfl) (by kernel_rfl) (fun _ _ _ h=>h) (Or.inl ⟨by rfl,fun w1 hw1=>by go_simp⟩) hH (fun hH=>?_)
         (try simp only [Act.put,qSa,qSz,qSs])
         clear hH;refine wpW_two (n:=6) [10,11] [20,21] [109,110] [119,120] (RowB 109 110 w2 X 43 2 (.slice ea el ec) el (kvsC mu.L) [.slice qa x.1.1.length qk,.int .u64 x.1.2]) (RowB 119 120 w2 X 3 1 (.slice ca (el+1) cc) (el+1) (intsC mu.n.cs) [.int .i64 (-1-(oi:Int))])
          (by kernel_rfl) (by kernel_rfl) (by decide) (by kernel_rfl) (by kernel_rfl) (by decide) (fun _ _ _ _ _ h=>h) (fun i pA w h=>h.slots) (fun i pA w h=>h.slots) ?stepA ?stepB ?held ?fin 4 0 0 [] [] w2.drew (by decide) (by decide) rfl ?begA ?begB
         case begA=>exact ⟨rfl,(Only.refl _ _).drew,Xad OE.out (Only.refl _ _).drew⟩
         case begB=>exact ⟨rfl,(Only.refl _ _).drew,Xad OC.out (Only.refl _ _).drew⟩
         case held =>
          intro i' j pA pB w' hA hB;have hO:=hA.only;exact Xbi (.inr (hO.cell b3 MXX.out)) (Xbi (.inr ⟨hO.cell f0 FXX.out,hO.cell f1 FXX.out⟩) (Xbi (.inr (hO.cell b4 MXX.out)) (Xbi (.inr (hO.cell c0 CXX.out)) Xjb)))
         case stepA =>
          intro j kop pB w' hjk hI
          rcases j with _ | _ | j
          ·obtain rfl:10=kop:=by simpa using hjk
           obtain ⟨rfl,hO,hW⟩:=hI;refine Xbz rfl (by rfl) (fun K hK=>?_);simp only [puts,Xu]
           go_wp2_with fail
           have hA:Only [] w' (w'.alloc (.cells #[.slice qa x.1.1.length qk,.int .u64 x.1.2] 43)):=(Only.refl _ _).alloc _;refine hK.out _ _ ⟨[(109,.slice (some ⟨w'.heap.size,0,none⟩) 1 1)],rfl,⟨w'.heap.size,rfl,hO.alloc _,Xad hW hA,hO.size,Blk.new [.slice qa x.1.1.length qk,.int .u64 x.1.2] 43 w'⟩,fun j pB hB=>hB.keep hA (by simp)⟩
          ·obtain rfl:11=kop:=by simpa using hjk
           obtain ⟨g1,rfl,hO,hW,hg1,hb1⟩:=hI;refine Xbz rfl (by rfl) (fun K hK=>?_)
           refine Xbl 110 rfl (.tmp 104) (.tmp 109) 48 rfl 43 underlying48 (info_parts Xbq) rfl (by decide) (.slice ea el ec) el (kvsC mu.L) rfl hW (some ⟨g1,0,none⟩) 1 1 rfl [.slice qa x.1.1.length qk,.int .u64 x.1.2] rfl (fun _=>⟨_,rfl,fun j u hu=>by rw [Xah,Yd];exact (hb1.cell j).trans hu⟩) (by intro u hu;simp at hu;rcases hu with rfl | rfl <;> rfl) (by omega) (by decide) ?_
           intro v' w6 hg6;obtain ⟨va6,vc6,rfl⟩:=hg6.shape;have hOX:=hg6.only;refine hK.out _ _ ⟨_,rfl,⟨g1,va6,vc6,rfl,hO.trans hOX (fun x hx=>.inl (LFB.out x hx).1),hg6.own,fun x hx=>?_⟩,fun j pB hB=>hB.keep hOX LFB.out⟩
           ·rcases hg6.lies x hx with h1 | h1
            ·exact .inl h1
            ·exact .inr (Zp hO.size h1)
          ·simp at hjk
         case stepB =>
          intro j kop pB w' hjk hI
          rcases j with _ | _ | j
          ·obtain rfl:20=kop:=by simpa using hjk
           obtain ⟨rfl,hO,hW⟩:=hI;refine Xbz rfl (by rfl) (fun K hK=>?_);simp only [puts,Xu]
           go_wp2_with fail
           have hA:Only [] w' (w'.alloc (.cells #[.int .i64 (-1-(oi:Int))] 3)):=(Only.refl _ _).alloc _;refine hK.out _ _ ⟨[(119,.slice (some ⟨w'.heap.size,0,none⟩) 1 1)],rfl,⟨w'.heap.size,rfl,hO.alloc _,Xad hW hA,hO.size,Blk.new [.int .i64 (-1-(oi:Int))] 3 w'⟩,fun j pB hB=>hB.keep hA (by simp)⟩
          ·obtain rfl:21=kop:=by simpa using hjk
           obtain ⟨g1,rfl,hO,hW,hg1,hb1⟩:=hI;refine Xbz rfl (by rfl) (fun K hK=>?_)
           refine Xbl 120 rfl (.tmp 114) (.tmp 119) 52 rfl 3 underlying52 (info_parts Xcl) rfl (by decide) (.slice ca (el+1) cc) (el+1) (intsC mu.n.cs) rfl hW (some ⟨g1,0,none⟩) 1 1 rfl [.int .i64 (-1-(oi:Int))] rfl (fun _=>⟨_,rfl,fun j u hu=>by rw [Xah,Yd];exact (hb1.cell j).trans hu⟩) (by intro u hu;simp at hu;subst hu;rfl) (by omega) (by decide) ?_
           intro v' w6 hg6;obtain ⟨va6,vc6,rfl⟩:=hg6.shape;have hOX:=hg6.only;refine hK.out _ _ ⟨_,rfl,⟨g1,va6,vc6,rfl,hO.trans hOX (fun x hx=>.inl (FLB.out x hx).1),hg6.own,fun x hx=>?_⟩,fun j pB hB=>hB.keep hOX FLB.out⟩
           ·rcases hg6.lies x hx with h1 | h1
            ·exact .inl h1
            ·exact .inr (Zp hO.size h1)
          ·simp at hjk
         case fin =>
          intro pA pB w' hA hB;obtain ⟨g1,va6,vc6,rfl,hO,hW,hl6⟩:=hA;obtain ⟨g2,va7,vc7,rfl,hO7,hW7,hl7⟩:=hB;obtain ⟨⟨k3,z3,k4,z4⟩,hT⟩:=MU.out.setBoth (w1:=w') (L':=mu.L++[(.slice qa x.1.1.length qk,x.1)]) (C':=mu.n.cs++[-1-(oi:Int)]) (by rw [EV.out,CV.out,hX];exact hO) (by rw [Ze,Zt,LL.out,Xbm];exact hW) (by rw [EV.out];exact hl6) (by rw [Ze,Zt,CL.out];simpa [intsC] using hW7) (by rw [CV.out];exact hl7)
           (fun p hp=>by
            rcases Za.1 hp with h1 | h1
            ·exact MU.out.keys p h1
            ·rw [Zo.1 h1];exact FR.out.2.1 _ (Zm LQ.out)) (fun x hx=>by have:=HM.out x hx;have:=R4.out.only.size;omega)
          rw [EV.out] at k3;rw [CV.out] at k4;refine Xlb (Xbi (.inl (by rfl)) (Xbi (.inl (by rfl)) (Xbi (.inl (by rfl)) (Xbi (.inl (by rfl)) Xjb)))) (fun hH=>?_);simp only [puts,Xu,Wl]
          (try simp only [Act.put,qSa,qSz,qSs])
          refine wkA 22 121 (.pointer (some ⟨mu.nb,0,none⟩)) hH fun hH=>?_
          refine wkA 23 122 (.pointer (some ⟨mu.nb,3,none⟩)) hH fun hH=>?_
          refine woneA 24 fun K hK=>?_
          go_wp2_with fail
          refine hK.out _ _ (Xbi (.inl (by rfl)) (Xbi (.inl (by rfl)) (Xbi (.inl (by rfl)) (Xbi (.inl (by rfl)) Xjb)))) (fun hH=>?_);clear hK K
          (try simp only [Act.put,qSa,qSz,qSs])
          refine wkA 25 123 (.pointer (some ⟨mu.nb,0,none⟩)) hH fun hH=>?_
          refine wkA 26 124 (.pointer (some ⟨mu.nb,4,none⟩)) hH fun hH=>?_
          refine woneA 27 fun K hK=>?_
          go_wp2_with fail
          refine hK.out _ _ (Xbi (.inl (by rfl)) (Xbi (.inl (by rfl)) (Xbi (.inl (by rfl)) (Xbi (.inl (by rfl)) Xjb)))) (fun hH=>?_);clear hK K hH
          (try simp only [Act.put,qSa,qSz,qSs])
          refine wdone (by kernel_rfl) ?_ _;obtain ⟨w3,hw3⟩:∃ w3,(w'.setCell ⟨mu.nb,3,none⟩ (.slice va6 (el+1) vc6)).setCell ⟨mu.nb,4,none⟩ (.slice va7 (el+1+1) vc7)=w3:=⟨_,rfl⟩;rw [hw3] at hT ⊢;obtain ⟨m5,hm5⟩:∃ m5:MNd,({ mu with n:={ mu.n with es:=(mu.L++[((.slice qa x.1.1.length qk,x.1):KV)]).map (·.2),cs:=mu.n.cs++[-1-(oi:Int)] },ev:=.slice va6 (el+1) vc6,cv:=.slice va7 (el+1+1) vc7,L:=mu.L++[((.slice qa x.1.1.length qk,x.1):KV)] }:MNd)=m5:=⟨_,rfl⟩;rw [hm5] at hT;have T5:=Th hT
          have N5:Hid (m5.nb=mu.nb∧m5.root=mu.root∧m5.n=levN false (f,E++[x.1],C++[-1-(oi:Int)])∧m5.ev=.slice va6 (el+1) vc6∧m5.cv=.slice va7 (el+1+1) vc7):=by
           show _∧_∧_∧_∧_;rw [←hm5];refine ⟨rfl,rfl,?_,rfl,rfl⟩;rw [Zs,MU.out.es,MUN.out];rfl
          have R5:=Th (R4.out.turn T5.out);have A5:=Th (R5.out.nodes.at_ m5 (by simp));have KE5:Hid (Keys (E++[x.1])):=SO.out.keys.append XK.out;have MR5:Hid (mu.root=false):=HRT.out mu (by simp);have FT5:=Th (Xdr A5.out (by rw [N5.out.2.2.1];exact KE5.out) (by rw [N5.out.2.2.1];simp only [levN];rw [Ze,Zt,EL.out];omega))
          rw [N5.out.1] at FT5
          have hn5:m5.n.leaf=false∧m5.n.es=E++[x.1]:=by rw [N5.out.2.2.1];exact ⟨rfl,rfl⟩
          rw [hn5.1,hn5.2] at FT5;clear hT hw3 hm5 hn5 hO hW hl6 hO7 hW7 hl7 k3 z3 k4 z4 b3 b4 f0 f1 c0 hucell OE OC LFB FLB CXX FXX MXX XM R2
          by_cases hf:fitsP false (E++[x.1])=true
          ·rw [hf] at FT5
           have HF:=Th hf;clear hf
           go_wp2_with (go_at_call 35;refine FT5.out.mono ?_;rintro e w4 ⟨rfl,rfl⟩)
           go_roundg (K-(i+1))
           case measure=>have:=HGI.out;omega
           case rel =>
            refine ⟨i+1,us0++[m5],os'++[c1],Bs,va,some ⟨ug,0,none⟩,bo,vc,uc,bc,rfl,by omega,by go_num,?_,by simp [KU.out],by simp [KU.out],by simp [KU.out];omega,by simp [KU.out,BL.out],OS2.out,fun y hy=>?_,.inr ⟨D,f,E++[x.1],C++[-1-(oi:Int)],SO.out.fits SI.out HF.out XK.out N5.out.2.2.1⟩,?_⟩
            ·rw [←Va,OI.out]
            ·rcases Za.1 hy with h | h
             ·exact RT2.out y h
             ·rcases Za.1 h with h | h
              ·exact HRT.out y (by simp [h])
              ·rw [Zo.1 h,N5.out.2.1];exact MR5.out
            ·have h1:=R5.out.congr (A:=[]) (l':=us0++[m5]) (by simp [ptrN,N5.out.1])
             rw [Ym] at h1;rw [Ze,Zt,KU.out,←Va,OI.out]
             refine h1.perm ?_
             simp
          ·rw [Bool.not_eq_true] at hf
           rw [hf] at FT5;have HF:=Th hf;clear hf
           go_upto_region 25 with (go_at_call 35;refine FT5.out.mono ?_;rintro e w4 ⟨rfl,rfl⟩)
           have hE5:m5.n.es.length=el+1∧m5.n.cs.length=el+1+1:=by
            rw [N5.out.2.2.1];simp only [levN,Ze,Zt];rw [SO.out.long,EL.out];exact ⟨rfl,rfl⟩
           obtain ⟨vg,hvg,hvc6⟩:∃ vg,va6=some ⟨vg,0,none⟩∧el+1≤vc6:=by
            obtain ⟨ao',cap',hv,hc,hr⟩:=A5.out.row;rw [N5.out.2.2.2.1,hE5.1] at hv;simp only [Value.slice.injEq,true_and] at hv;obtain ⟨g',hg',_⟩:=hr (by rw [hE5.1];omega)
            rw [hE5.1] at hc;exact ⟨g',by rw [hv.1,hg'],by rw [hv.2];exact hc⟩
           subst hvg
           obtain ⟨vh,hvh,hvc7⟩:∃ vh,va7=some ⟨vh,0,none⟩∧el+1+1≤vc7:=by
            obtain ⟨ao',cap',hv,hc,hr⟩:=A5.out.crow;rw [N5.out.2.2.2.2,hE5.2] at hv;simp only [Value.slice.injEq,true_and] at hv;obtain ⟨g',hg',_⟩:=hr (by rw [hE5.2];omega)
            rw [hE5.2] at hc;exact ⟨g',by rw [hv.1,hg'],by rw [hv.2];exact hc⟩
           subst hvh;obtain ⟨⟨k3,z3,k4,z4⟩,hT⟩:=A5.out.setBoth (w1:=w3) (ev':=.slice (some ⟨vg,0,none⟩) el vc6) (cv':=.slice (some ⟨vh,0,none⟩) (el+1) vc7) (L':=m5.L.take el) (C':=m5.n.cs.take (el+1)) (Only.refl _ _)
            (by
             have h1:=A5.out.ents;rw [N5.out.2.2.2.1,A5.out.len,hE5.1] at h1;have h2:=Xnh h1 (m:=el) (by omega) (by omega);rw [Zj,A5.out.len,hE5.1,Yt (by omega),Xed]
             exact h2) (fun k hk=>.inl (by rw [N5.out.2.2.2.1];exact hk))
            (by
             have h1:=A5.out.kids;rw [N5.out.2.2.2.2,hE5.2] at h1;have h2:=Xnh h1 (m:=el+1) (by omega) (by omega);rw [Zj,hE5.2,Yt (by omega)]
             simpa [intsC,Xx] using h2) (fun k hk=>.inl (by rw [N5.out.2.2.2.2];exact hk))
            (fun p hp=>A5.out.keys p (Yn hp)) (fun x hx=>by have:=HM.out x hx;have:=R5.out.only.size;omega)
           rw [N5.out.1] at k3 z3 k4 z4;rw [N5.out.2.2.2.1] at k3;rw [N5.out.2.2.2.2] at k4;obtain ⟨m6,hm6⟩:∃ m6:MNd,({ m5 with n:={ m5.n with es:=(m5.L.take el).map (·.2),cs:=m5.n.cs.take (el+1) },ev:=.slice (some ⟨vg,0,none⟩) el vc6,cv:=.slice (some ⟨vh,0,none⟩) (el+1) vc7,L:=m5.L.take el }:MNd)=m6:=⟨_,rfl⟩;rw [hm6,N5.out.1] at hT
           have N6:Hid (m6.nb=mu.nb∧m6.root=mu.root∧m6.n=levN false (f,E,C)):=by
            show _∧_∧_;rw [←hm6];refine ⟨N5.out.1,N5.out.2.1,?_⟩;rw [Xx,A5.out.es,N5.out.2.2.1];simp only [levN];rw [Wx EL.out,Wx (by rw [SO.out.long,EL.out])]
           have T6:=Th hT
           have k4b:w3.cell? ⟨mu.nb,4,none⟩=some (.slice (some ⟨vh,0,none⟩) (el+1+1) vc7):=by
            have:=A5.out.blk.cell 4;rw [N5.out.1,N5.out.2.2.2.2] at this;exact this
           have hw4:IntKind.i64.wrap (el:Int)=el:=by rw [Yi];omega
           have hw5:IntKind.i64.wrap ((el:Int)+1)=el+1:=by rw [Yi];omega
           have hml3:(el:Int)≤vc6:=by omega
           have hml4:(el:Int)+1≤vc7:=by omega
           have hml5:¬((el:Int)+1<0):=by omega
           clear hm6 hT hE5;refine Xbw [(26,fun w'=>w'.cell? ⟨mu.nb,3,none⟩=some (.slice (some ⟨vg,0,none⟩) (el+1) vc6)),(29,fun w'=>w'.cell? ⟨mu.nb,4,none⟩=some (.slice (some ⟨vh,0,none⟩) (el+1+1) vc7))] (by kernel_rfl) (by simp;exact ⟨((Only.refl [] _).drew).cell k3 (by simp),((Only.refl [] _).drew).cell k4b (by simp)⟩) (fun hH=>?_)
           refine wkA 0 127 (.pointer (some ⟨mu.nb,0,none⟩)) hH fun hH=>?_
           refine wkA 1 128 (.pointer (some ⟨mu.nb,0,none⟩)) hH fun hH=>?_
           refine wkA 2 129 (.pointer (some ⟨mu.nb,0,none⟩)) hH fun hH=>?_
           refine wkA 3 130 (.pointer (some ⟨mu.nb,0,none⟩)) hH fun hH=>?_
           refine wkA 4 131 (.pointer (some ⟨mu.nb,3,none⟩)) hH fun hH=>?_
           refine Xbc 5 132 (.slice (some ⟨vg,0,none⟩) (el+1) vc6) 0 26 rfl rfl rfl (by kernel_rfl) (by kernel_rfl) (by kernel_rfl) (by kernel_rfl) (by rfl) (by kernel_rfl) (fun _ _ _ h=>h) (Or.inl ⟨by rfl,fun w1 hw1=>by go_simp⟩) hH (fun hH=>?_)
           (try simp only [Act.put,qSa,qSz,qSs])
           refine wkA 6 133 (.pointer (some ⟨mu.nb,0,none⟩)) hH fun hH=>?_
           refine wkA 7 134 (.pointer (some ⟨mu.nb,0,none⟩)) hH fun hH=>?_
           refine wkA 8 135 (.pointer (some ⟨mu.nb,3,none⟩)) hH fun hH=>?_
           refine Xbc 9 136 (.slice (some ⟨vg,0,none⟩) (el+1) vc6) 0 26 rfl rfl rfl (by kernel_rfl) (by kernel_rfl) (by kernel_rfl) (by kernel_rfl) (by rfl) (by kernel_rfl) (fun _ _ _ h=>h) (Or.inl ⟨by rfl,fun w1 hw1=>by go_simp⟩) hH (fun hH=>?_)
           (try simp only [Act.put,qSa,qSz,qSs])
           refine wkA 10 137 (.int .i64 ((el:Int)+1)) hH fun hH=>?_
           refine wkA 11 138 (.int .i64 el) hH fun hH=>?_
           refine wkA 12 139 (.slice (some ⟨vg,0,none⟩) el vc6) hH fun hH=>?_
           refine wkA 13 140 (.pointer (some ⟨mu.nb,0,none⟩)) hH fun hH=>?_
           refine wkA 14 141 (.pointer (some ⟨mu.nb,0,none⟩)) hH fun hH=>?_
           refine wkA 15 142 (.pointer (some ⟨mu.nb,4,none⟩)) hH fun hH=>?_
           refine Xbc 16 143 (.slice (some ⟨vh,0,none⟩) (el+1+1) vc7) 1 29 rfl rfl rfl (by kernel_rfl) (by kernel_rfl) (by kernel_rfl) (by kernel_rfl) (by rfl) (by kernel_rfl) (fun _ _ _ h=>h) (Or.inl ⟨by rfl,fun w1 hw1=>by go_simp⟩) hH (fun hH=>?_)
           (try simp only [Act.put,qSa,qSz,qSs])
           refine wkA 17 144 (.pointer (some ⟨mu.nb,0,none⟩)) hH fun hH=>?_
           refine wkA 18 145 (.pointer (some ⟨mu.nb,0,none⟩)) hH fun hH=>?_
           refine wkA 19 146 (.pointer (some ⟨mu.nb,4,none⟩)) hH fun hH=>?_
           refine Xbc 20 147 (.slice (some ⟨vh,0,none⟩) (el+1+1) vc7) 1 29 rfl rfl rfl (by kernel_rfl) (by kernel_rfl) (by kernel_rfl) (by kernel_rfl) (by rfl) (by kernel_rfl) (fun _ _ _ h=>h) (Or.inl ⟨by rfl,fun w1 hw1=>by go_simp⟩) hH (fun hH=>?_)
           (try simp only [Act.put,qSa,qSz,qSs])
           refine wkA 21 148 (.int .i64 ((el:Int)+1+1)) hH fun hH=>?_
           refine wkA 22 149 (.int .i64 ((el:Int)+1)) hH fun hH=>?_
           refine wkA 23 150 (.slice (some ⟨vh,0,none⟩) (el+1) vc7) hH fun hH=>?_
           refine wkA 24 151 (.pointer (some ⟨mu.nb,0,none⟩)) hH fun hH=>?_
           refine wkA 25 152 (.pointer (some ⟨mu.nb,3,none⟩)) hH fun hH=>?_
           refine woneA 26 fun K hK=>?_
           go_wp2_with fail
           refine hK.out _ _ (held2 (.inl (by rfl)) (.inr k4)) (fun hH=>?_);clear hK K
           (try simp only [Act.put,qSa,qSz,qSs])
           refine wkA 27 153 (.pointer (some ⟨mu.nb,0,none⟩)) hH fun hH=>?_
           refine wkA 28 154 (.pointer (some ⟨mu.nb,4,none⟩)) hH fun hH=>?_
           refine woneA 29 fun K hK=>?_
           go_wp2_with fail
           refine hK.out _ _ (held2 (.inl (by rfl)) (.inl (by rfl))) (fun hH=>?_);clear hK K hH
           (try simp only [Act.put,qSa,qSz,qSs])
           refine wdone (by kernel_rfl) ?_ _;obtain ⟨w5,hw5e⟩:∃ w5,((w3.setCell ⟨mu.nb,3,none⟩ (.slice (some ⟨vg,0,none⟩) el vc6)).setCell ⟨mu.nb,4,none⟩ (.slice (some ⟨vh,0,none⟩) (el+1) vc7)).drew=w5:=⟨_,rfl⟩
           have T7:Hid (Turn w3 w5 M m5 m6):=by show Turn _ _ _ _ _;rw [←hw5e];exact T6.out.then (Only.refl _ _).drew
           rw [hw5e];have R7:=Th (R5.out.turn T7.out);clear hw5e k3 z3 k4 z4 k4b hw4 hw5 T6
           go_wp2_with fail
           go_meet
           case rel =>
            refine ⟨rfl,us0++[m6],D++[(f,E,C)],SO.out.full SI.out HF.out N6.out.2.2,by simp [KU.out],fun y hy=>?_,?_⟩
            ·rcases Za.1 hy with h | h
             ·exact HRT.out y (by simp [h])
             ·rw [Zo.1 h,N6.out.2.1];exact MR5.out
            ·have h1:=R7.out.congr (A:=[]) (l':=us0++[m6]) (by simp [ptrN,N6.out.1])
             rw [Ym] at h1
             refine h1.perm ?_
             simp
       case rest =>
        obtain ⟨rfl,us2,D,hfull,hul2,hrt2,hrw2⟩:=hcut;have FU:=Th hfull;have UL2:=Th hul2;have RT3:=Th hrt2;have R3:=Th hrw2;clear hfull hul2 hrt2 hrw2;have BL:=Th hbl
        have hulb:ul≤400000:=by omega
        clear R2;have UR:=Th (R3.out.prow (.slice uo ul uc,us2) (by simp));have BR:=Th (R3.out.erow (.slice bo ul bc,Bs) (by simp));have FR:=Th (R3.out.erow (.slice (some ⟨fg,0,none⟩) K fc,Ls) (by simp));have CN:=Th (R3.out.nodes.at_ c1 (by simp));obtain ⟨X,hX⟩:∃ X,(Value.slice uo ul uc).ownBlock.toList++(Value.slice bo ul bc).ownBlock.toList=X:=⟨_,rfl⟩
        have LFB:Hid (∀ y∈(Value.slice uo ul uc).ownBlock.toList,y∈X∧y<wc.heap.size∧(Value.slice bo ul bc).ownBlock≠some y):=fun y hy=>by
         have hy':=hy;rw [Zk] at hy';obtain ⟨cs,hb⟩:=Xag UR.out.own hy';exact ⟨by rw [←hX];exact Yb _ hy,hb.lt,fun e=>Xaj BR.out.1 hb (by decide) e⟩
        have FLB:Hid (∀ y∈(Value.slice bo ul bc).ownBlock.toList,y∈X∧y<wc.heap.size∧(Value.slice uo ul uc).ownBlock≠some y):=fun y hy=>by
         have hy':=hy;rw [Zk] at hy';obtain ⟨cs,hb⟩:=Xag BR.out.1 hy';exact ⟨by rw [←hX];exact Yk _ hy,hb.lt,fun e=>Xaj UR.out.own hb (by decide) e⟩
        have CXX:Hid (c.nb∉X):=fun hm=>by
         have hbc:=CN.out.blk;rw [C1.out.1] at hbc;rw [←hX] at hm
         rcases Za.1 hm with h1 | h1
         ·obtain ⟨cs,hb⟩:=Xag UR.out.own (by simpa using h1)
          exact absurd (hb.inj hbc).2 (by decide)
         ·obtain ⟨cs,hb⟩:=Xag BR.out.1 (by simpa using h1)
          exact absurd (hb.inj hbc).2 (by decide)
        have FXX:Hid (fg∉X):=fun hm=>by
         rw [←hX] at hm
         rcases Za.1 hm with h1 | h1
         ·obtain ⟨cs,hb⟩:=Xag UR.out.own (by simpa using h1)
          exact Xaj FR.out.1 hb (by decide) rfl
         ·exact (Yh.1 R3.out.edis).1 (.slice (some ⟨fg,0,none⟩) K fc,Ls) (by simp) fg (by simpa using h1) rfl
        obtain ⟨fg',fc',hfo',_,f0,f1⟩:=Xmq FR.out.1 LQ.out;simp only [Value.slice.injEq,Zw,Addr.mk.injEq,and_true] at hfo';obtain ⟨rfl,hKl2,rfl⟩:=hfo';clear hKl2
        have c0:wc.cell? ⟨c.nb,0,none⟩=some (.int .i64 (-1-(oi:Int))):=by
         have:=CN.out.blk.cell 0;rw [C1.out.1,C1.out.2.2] at this;exact this
        simp only at f0 f1
        go_upto_region 26 with fail
        refine Xbw [(5,fun w'=>w'.cell? ⟨c.nb,0,none⟩=some (.int .i64 (-1-(oi:Int)))),(15,fun w'=>w'.cell? ⟨fg,i*2,none⟩=some (.slice qa x.1.1.length qk)∧w'.cell? ⟨fg,i*2+1,none⟩=some (.int .u64 x.1.2))] (by kernel_rfl) (by simp;exact ⟨((Only.refl [] _).drew).cell c0 (by simp),((Only.refl [] _).drew).cell f0 (by simp),((Only.refl [] _).drew).cell f1 (by simp)⟩) (fun hH=>?_)
        refine wkA 0 155 (.slice uo ul uc) hH fun hH=>?_
        refine wkA 1 156 (.pointer (some ⟨c.nb,0,none⟩)) hH fun hH=>?_
        refine wkA 2 157 (.pointer (some ⟨c.nb,0,none⟩)) hH fun hH=>?_
        refine wkA 3 158 (.pointer (some ⟨c.nb,0,none⟩)) hH fun hH=>?_
        refine Xbc 4 159 (.int .i64 (-1-(oi:Int))) 0 5 rfl rfl rfl (by kernel_rfl) (by kernel_rfl) (by kernel_rfl) (by kernel_rfl) (by rfl) (by kernel_rfl) (fun _ _ _ h=>h) (Or.inl ⟨by rfl,fun w1 hw1=>by go_simp⟩) hH (fun hH=>?_)
        (try simp only [Act.put,qSa,qSz,qSs])
        refine wkA 10 165 (.slice bo ul bc) hH fun hH=>?_
        refine wkA 11 166 (.slice (some ⟨fg,0,none⟩) K fc) hH fun hH=>?_
        refine wkA 12 167 (.int .i64 i) hH fun hH=>?_
        refine wkA 13 168 (.pointer (some ⟨fg,i*2,none⟩)) hH fun hH=>?_
        refine Xbc 14 169 (.agg #[.slice qa x.1.1.length qk,.int .u64 x.1.2]) 1 15 rfl rfl rfl (by kernel_rfl) (by kernel_rfl) (by kernel_rfl) (by kernel_rfl) (by rfl) (by kernel_rfl) (fun _ _ _ h=>h) (Or.inl ⟨by rfl,fun w1 hw1=>by obtain ⟨hc2,hc3⟩:=hw1;go_simp⟩) hH (fun hH=>?_)
        (try simp only [Act.put,qSa,qSz,qSs])
        clear hH;refine wpW_two (n:=2) [5,6,7,8,9] [15,16] [160,161,162,163,164] [170,171] (LeafA 160 3 (fun g1=>[.int .i64 0,.bool false,.bool false,.slice none 0 0,.slice (some ⟨g1,0,none⟩) 1 1]) wc X (.slice uo ul uc) ul (us2.map ptrN) [.int .i64 (-1-(oi:Int))]) (RowB 170 171 wc X 43 2 (.slice bo ul bc) ul (kvsC Bs) [.slice qa x.1.1.length qk,.int .u64 x.1.2])
         (by kernel_rfl) (by kernel_rfl) (by decide) (by kernel_rfl) (by kernel_rfl) (by decide) (fun _ _ _ _ _ h=>h) (fun i pA w h=>h.slots) (fun i pA w h=>h.slots) ?stepA ?stepB ?held ?fin 7 0 0 [] [] wc.drew (by decide) (by decide) rfl ?begA ?begB
        case begA=>exact ⟨rfl,(Only.refl _ _).drew,Xad (by have:=UR.out.own;rw [UL2.out] at this;exact this) (Only.refl _ _).drew⟩
        case begB=>exact ⟨rfl,(Only.refl _ _).drew,Xad (by have:=BR.out.1;rw [BL.out] at this;exact this) (Only.refl _ _).drew⟩
        case held =>
         intro i' j pA pB w' hA hB;have h1:=hA.only.cell c0 CXX.out;have h2:=hA.only.cell f0 FXX.out;have h3:=hA.only.cell f1 FXX.out;exact held2 (.inr h1) (.inr ⟨h2,h3⟩)
        case stepA =>
         intro i' kop pA w' hik hI
         rcases i' with _ | _ | _ | _ | _ | i'
         ·obtain rfl:5=kop:=by simpa using hik
          obtain ⟨rfl,hO,hW⟩:=hI;refine Xbz rfl (by rfl) (fun K hK=>?_);simp only [puts,Xu]
          go_wp2_with fail
          have hA:Only [] w' (w'.alloc (.cells #[.int .i64 (-1-(oi:Int))] 3)):=(Only.refl _ _).alloc _;refine hK.out _ _ ⟨[(160,.slice (some ⟨w'.heap.size,0,none⟩) 1 1)],rfl,⟨w'.heap.size,rfl,hO.alloc _,Xad hW hA,hO.size,Blk.new [.int .i64 (-1-(oi:Int))] 3 w'⟩,fun j pB hB=>hB.keep hA (by simp)⟩
         ·obtain rfl:6=kop:=by simpa using hik
          obtain ⟨g1,rfl,hO,hW,hg1,hb1⟩:=hI;refine Xbz rfl (by rfl) (fun K hK=>?_);simp only [puts,Xu,Wl]
          (try simp only [Act.put,qSa,qSz,qSs])
          go_wp2_with fail
          refine hK.out _ _ ⟨_,rfl,⟨g1,rfl,hO,hW,hg1,hb1⟩,fun j pB hB=>hB⟩
         ·obtain rfl:7=kop:=by simpa using hik
          obtain ⟨g1,rfl,hO,hW,hg1,hb1⟩:=hI;refine Xbz rfl (by rfl) (fun K hK=>?_);simp only [puts,Xu,Wl]
          (try simp only [Act.put,qSa,qSz,qSs])
          go_wp2_with fail
          have hA:Only [] w' (w'.alloc (.cells #[.int .i64 0,.bool false,.bool false,.slice none 0 0,.slice (some ⟨g1,0,none⟩) 1 1] 77)):=(Only.refl _ _).alloc _;refine hK.out _ _ ⟨_,rfl,⟨g1,w'.heap.size,rfl,hO.alloc _,Xad hW hA,hg1,hA.blk hb1 (by simp),hO.size,Blk.new [.int .i64 0,.bool false,.bool false,.slice none 0 0,.slice (some ⟨g1,0,none⟩) 1 1] 77 w'⟩,fun j pB hB=>hB.keep hA (by simp)⟩
         ·obtain rfl:8=kop:=by simpa using hik
          obtain ⟨g1,g2,rfl,hO,hW,hg1,hb1,hg2,hb2⟩:=hI;refine Xbz rfl (by rfl) (fun K hK=>?_);simp only [puts,Xu,Wl]
          (try simp only [Act.put,qSa,qSz,qSs])
          go_wp2_with fail
          have hA:Only [] w' (w'.alloc (.cells #[.pointer (some ⟨g2,0,none⟩)] 75)):=(Only.refl _ _).alloc _;refine hK.out _ _ ⟨_,rfl,⟨g1,g2,w'.heap.size,rfl,hO.alloc _,Xad hW hA,hg1,hA.blk hb1 (by simp),hg2,hA.blk hb2 (by simp),hO.size,Blk.new [.pointer (some ⟨g2,0,none⟩)] 75 w'⟩,fun j pB hB=>hB.keep hA (by simp)⟩
         ·obtain rfl:9=kop:=by simpa using hik
          obtain ⟨g1,g2,g3,rfl,hO,hW,hg1,hb1,hg2,hb2,hg3,hb3⟩:=hI;refine Xbz rfl (by rfl) (fun K hK=>?_)
          refine Xbl 164 rfl (.tmp 155) (.tmp 163) 81 rfl 75 underlying81 (info_parts Xcg) rfl (by decide) (.slice uo ul uc) ul (us2.map ptrN) rfl hW (some ⟨g3,0,none⟩) 1 1 rfl [.pointer (some ⟨g2,0,none⟩)] rfl (fun _=>⟨_,rfl,fun j u hu=>by rw [Xah,Yd];exact (hb3.cell j).trans hu⟩) (by intro u hu;simp at hu;subst hu;rfl) (by omega) (by decide) ?_
          intro v' w6 hg6;obtain ⟨va6,vc6,rfl⟩:=hg6.shape;have hOX:=hg6.only;refine hK.out _ _ ⟨_,rfl,⟨g1,g2,g3,va6,vc6,rfl,hO.trans hOX (fun x hx=>.inl (LFB.out x hx).1),hg6.own,hg1,hOX.blk hb1 (fun hm=>?_),hg2,hOX.blk hb2 (fun hm=>?_),fun x hx=>?_⟩,fun j pB hB=>hB.keep hOX LFB.out⟩
          ·have:=(LFB.out _ hm).2.1;omega
          ·have:=(LFB.out _ hm).2.1;omega
          ·rcases hg6.lies x hx with h1 | h1
           ·exact .inl h1
           ·exact .inr (Zp hO.size h1)
         ·simp at hik
        case stepB =>
         intro j kop pB w' hjk hI
         rcases j with _ | _ | j
         ·obtain rfl:15=kop:=by simpa using hjk
          obtain ⟨rfl,hO,hW⟩:=hI;refine Xbz rfl (by rfl) (fun K hK=>?_);simp only [puts,Xu]
          go_wp2_with fail
          have hA:Only [] w' (w'.alloc (.cells #[.slice qa x.1.1.length qk,.int .u64 x.1.2] 43)):=(Only.refl _ _).alloc _;refine hK.out _ _ ⟨[(170,.slice (some ⟨w'.heap.size,0,none⟩) 1 1)],rfl,⟨w'.heap.size,rfl,hO.alloc _,Xad hW hA,hO.size,Blk.new [.slice qa x.1.1.length qk,.int .u64 x.1.2] 43 w'⟩,fun j pB hB=>hB.keep hA (by simp)⟩
         ·obtain rfl:16=kop:=by simpa using hjk
          obtain ⟨g1,rfl,hO,hW,hg1,hb1⟩:=hI;refine Xbz rfl (by rfl) (fun K hK=>?_)
          refine Xbl 171 rfl (.tmp 165) (.tmp 170) 48 rfl 43 underlying48 (info_parts Xbq) rfl (by decide) (.slice bo ul bc) ul (kvsC Bs) rfl hW (some ⟨g1,0,none⟩) 1 1 rfl [.slice qa x.1.1.length qk,.int .u64 x.1.2] rfl (fun _=>⟨_,rfl,fun j u hu=>by rw [Xah,Yd];exact (hb1.cell j).trans hu⟩) (by intro u hu;simp at hu;rcases hu with rfl | rfl <;> rfl) (by omega) (by decide) ?_
          intro v' w6 hg6;obtain ⟨va6,vc6,rfl⟩:=hg6.shape;have hOX:=hg6.only;refine hK.out _ _ ⟨_,rfl,⟨g1,va6,vc6,rfl,hO.trans hOX (fun x hx=>.inl (FLB.out x hx).1),hg6.own,fun x hx=>?_⟩,fun j pB hB=>hB.keep hOX FLB.out⟩
          ·rcases hg6.lies x hx with h1 | h1
           ·exact .inl h1
           ·exact .inr (Zp hO.size h1)
         ·simp at hjk
        case fin =>
         intro pA pB w' hA hB;obtain ⟨g1,g2,g3,va6,vc6,rfl,hO,hW,hg1,hb1,hg2,hb2,hl6⟩:=hA;obtain ⟨h1,va7,vc7,rfl,hO7,hW7,hl7⟩:=hB;refine Xlb (held2 (.inl (by rfl)) (.inl (by rfl))) (fun hH=>?_);simp only [puts,Xu,Wl]
         (try simp only [Act.put,qSa,qSz,qSs])
         refine wkA 17 9 (.slice va6 (ul+1) vc6) hH fun hH=>?_
         refine wkA 18 10 (.slice va7 (ul+1) vc7) hH fun hH=>?_
         refine wdone (by kernel_rfl) ?_ _
         have hXn:∀ x∈X,w.heap.size≤x:=fun x hx=>by
          rw [←hX] at hx
          rcases Za.1 hx with h | h
          ·exact (UR.out.off x (by simpa using h)).2
          ·exact (BR.out.2.2 x (by simpa using h)).2.1
         have hKQ:KeyOk wc M (.slice qa x.1.1.length qk,x.1):=FR.out.2.1 _ (Zm LQ.out)
         have hM4:∀ x,wc.heap.size≤x→x∉M:=fun x hx hm=>by have:=HM.out x hm;have:=R3.out.only.size;omega
         have N4:NodeAt w' M ⟨g2,false,levN false (x.1,[],[-1-(oi:Int)]),.slice none 0 0,.slice (some ⟨g1,0,none⟩) 1 1,[]⟩:={
          blk:=hb2
          es:=rfl
          ents:=⟨rfl,.inl ⟨rfl,rfl⟩⟩
          kids:=Blk.owns hb1 (by show 1≤maxLen;decide)
          keys:=fun p hp=>(by cases hp)
          off:=fun x hx=>by
           simp [MNd.blocks,Value.ownBlock] at hx
           rcases hx with rfl | rfl
           ·exact hM4 _ hg2
           ·exact hM4 _ hg1 }
         have RM:=RowsAt.more (A:=[]) (B:=[(.slice va (oi+1) vc,os'++[c1]),(.slice (some ⟨lg,0,none⟩) K lc,ms)]) (A':=[]) (B':=[(.slice (some ⟨fg,0,none⟩) K fc,Ls)]) (m:=⟨g2,false,levN false (x.1,[],[-1-(oi:Int)]),.slice none 0 0,.slice (some ⟨g1,0,none⟩) 1 1,[]⟩) (q:=(.slice qa x.1.1.length qk,x.1)) R3.out HM.out (hX ▸ hO) N4 (fun x hx=>by
           simp [MNd.blocks,Value.ownBlock] at hx
           rcases hx with rfl | rfl
           ·exact hg2
           ·exact hg1) hKQ (by rw [UL2.out];exact hW) (by rw [BL.out];exact hW7) hl6 hl7 (fun x hx hm=>by
           simp [MNd.blocks,Value.ownBlock] at hm
           obtain ⟨cs,hb⟩:=Xag hW7 hx
           rcases hm with rfl | rfl
           ·exact absurd (hb.inj hb2).2 (by decide)
           ·exact absurd (hb.inj hb1).2 (by decide))
         obtain ⟨m4,hm4⟩:∃ m4:MNd,(⟨g2,false,levN false (x.1,[],[-1-(oi:Int)]),.slice none 0 0,.slice (some ⟨g1,0,none⟩) 1 1,[]⟩:MNd)=m4:=⟨_,rfl⟩;rw [hm4] at RM;have RMH:=Th RM
         have M4:Hid (m4.n=levN false (x.1,[],[-1-(oi:Int)])∧m4.root=false):=by show _∧_;rw [←hm4];exact ⟨rfl,rfl⟩
         clear hH RM hm4 N4 hKQ hM4 hXn hb1 hb2 hW hW7 hl6 hl7 hO hO7 c0 f0 f1
         go_wp2_with fail
         go_roundg (K-(i+1))
         case measure=>have:=HGI.out;omega
         case rel =>
          refine ⟨i+1,us2++[m4],os'++[c1],Bs++[(.slice qa x.1.1.length qk,x.1)],va,va6,va7,vc,vc6,vc7,rfl,by omega,by go_num,?_,by simp [UL2.out],by simp [UL2.out],by simp [UL2.out];omega,by simp [BL.out,UL2.out],OS2.out,fun y hy=>?_,.inr ⟨D,x.1,[],[-1-(oi:Int)],FU.out.next M4.out.1 rfl⟩,?_⟩
          ·rw [←Va,OI.out]
          ·rcases Za.1 hy with h | h
           ·exact RT2.out y h
           ·rcases Za.1 h with h | h
            ·exact RT3.out y h
            ·rw [Zo.1 h];exact M4.out.2
          ·have:=RMH.out
           rw [Ym,Ym] at this;rw [Ze,Zt,UL2.out,←Va,OI.out]
           refine this.perm ?_
           simp
      ·have hiK:i=K:=by omega
       subst hiK
       have hnlt2:¬(i:Int)<i:=by omega
       have hSl:S.length=i:=by rw [←SE.out,seps_len];exact KE.out
       obtain ⟨e1,e2⟩:us.map (·.n)=(upL S).map (levN false)∧Bs.map (·.2)=(upL S).map (·.1):=by
        rcases HUP.out with ⟨h0,_,_⟩ | ⟨D,f,E,C,hso⟩
        ·omega
        ·rw [←hSl] at hso
         exact hso.all
       have LVN:Hid (LevelAt false (upL S) (out++numb leaf mo level) us os' Bs):=⟨e1,by
        rw [HOS.out,Ya (by rw [Xbu,KE.out];exact Zq _)],e2,HRT.out,by rw [←SE.out];exact upL_keys LV.out.keys⟩
       have ULN:Hid (us.length=(upL S).length):=by show _=_;have:=congrArg List.length e1;simpa using this
       have OLN:Hid ((out++numb leaf mo level).length=mo+i):=by show _=_;rw [Ze,ME.out,Xbu,KE.out]
       have PMN:Hid (Packs false (upL S) (out++numb leaf mo level) res):=by show Packs _ _ _ _;have:=PM.out;rw [ME.out] at this;exact this
       have HGO:Hid (gk=gk):=rfl
       have DRP:Hid (ms.drop i=[]):=Xq (by
        have:=congrArg List.length LV.out.ns;simp only [Zl] at this
        rw [this,KE.out];exact Zq _)
       clear e1 e2 hSl
       go_wp2_with fail
       go_roundg (res.length-(out++numb leaf mo level).length)
       case measure =>
        have h1:=HGK.out;have h2:=OLN.out;have h4:=ME.out;have h3:=(Xpd PMN.out).1;rw [h2] at h3 ⊢;omega
       case rel =>
        refine ⟨false,upL S,out++numb leaf mo level,us,os',Bs,uo,bo,oo,uc,bc,oc,rfl,by rw [ULN.out],by rw [ULN.out],by rw [OLN.out],PMN.out,LVN.out,?_⟩;have h1:=RI.out.sub (ps':=[(.slice uo us.length uc,us),(.slice oo (mo+i) oc,os')]) (es':=[(.slice bo us.length bc,Bs)]) (by simp) (by simp);rw [DRP.out,Ym] at h1;rw [OLN.out,←ULN.out];exact h1
    ·have h1':¬(1:Int)<K:=by omega
     obtain ⟨x,hlx,hrx⟩:=Xpe PKS.out (by rw [KE.out];exact h1)
     have hk1:1=K:=by rw [←KE.out,hlx];rfl
     subst hk1;have hmn:=LV.out.ns;rw [hlx] at hmn;obtain ⟨m,l0,hms,hmx,hl0⟩:=List.map_eq_cons_iff.1 hmn;obtain rfl:=List.map_eq_nil_iff.1 hl0;have hmx':m.n=levN leaf x:=hmx;obtain ⟨lg,lc',hlo,_,hlcell⟩:=(RW.out.prow (.slice lo 1 lc,ms) (by simp)).get (i:=0) (m:=m) (by rw [hms];rfl)
     simp only [Value.slice.injEq] at hlo;obtain ⟨rfl,hKm,rfl⟩:=hlo;clear hKm
     have RW2:Hid (RowsAt w wr M [(.slice oo mo oc,os)] [] (os++[m])):=by
      show RowsAt _ _ _ _ _ _;have:=RW.out.sub (ps':=[(.slice oo mo oc,os)]) (es':=[]) (by simp) (by simp);rw [hms] at this;exact this
     have RT1:=Th RW2.out.rooted;have MA:=Th (RW2.out.nodes.at_ m (by simp));have c1:=MA.out.blk.cell 1;have z1:=MA.out.blk.frozen 1;simp only [Zd,Zb] at c1;have OW:=Th (RT1.out.prow (.slice oo mo oc,os) (by simp)).own
     have OSL:Hid (os.length=mo):=by have:=congrArg List.length LV.out.outs;rw [Zl,ME.out] at this;exact this
     have lc3:(wr.setCell ⟨m.nb,1,none⟩ (.bool true)).cell? ⟨lg,0,none⟩=some (.pointer (some ⟨m.nb,0,none⟩)):=by
      have hne:lg≠m.nb:=fun e=>by
       obtain ⟨cs,hb⟩:=Xag (RW.out.prow (.slice (some ⟨lg,0,none⟩) 1 lc,ms) (by simp)).own (k:=lg) rfl;exact absurd ((e ▸ hb).inj MA.out.blk).2 (by decide)
      exact (Xbe wr m.nb 1 (.bool true)).cell hlcell (by simpa using hne)
     have MX:=Th hmx';have RX:=Th hrx
     have HL1:Hid (∀ y∈os,y.root=false):=fun y hy=>LV.out.roots y (by simp [hy])
     clear hlx hrx hmn hms hmx hmx' hl0
     go_wp2_with (at_builtin;refine Xap rfl (.tmp 180) (.tmp 184) 81 rfl 75 underlying81 (info_parts Xcg) rfl (by decide) (.slice oo mo oc) mo (os.map ptrN) rfl (Xad (by have:=OW.out;rw [OSL.out] at this;exact this) ((Only.refl _ _).alloc _)) (some ⟨wr.heap.size,0,none⟩) 1 1 rfl [.pointer (some ⟨m.nb,0,none⟩)] rfl (fun _=>⟨_,rfl,fun j u hu=>by rw [Xah,Yd];exact ((Blk.new' #[.pointer (some ⟨m.nb,0,none⟩)] 75 (wr.setCell ⟨m.nb,1,none⟩ (.bool true)) (n:=wr.heap.size) (by simp)).cell j).trans hu⟩) (by intro u hu;simp at hu;subst hu;rfl) (by omega) (by decide) ?_;intro v' w2 hg2;obtain ⟨va,vc,rfl⟩:=hg2.shape;have G2:=Th (Grew.pre ((Only.refl _ _).alloc _) hg2);clear hg2)
     go_ret;refine ⟨_,rfl,os++[{ m with root:=true }],?_,?_,fun j y hy=>?_⟩
     ·have h1:=RT1.out.growP (A:=[]) (B:=[]) (v':=.slice va (mo+1) vc) (l':=os++[{ m with root:=true }]) HM.out (by
       have:=G2.out
       simpa [ptrN,OSL.out] using this)
      exact h1
     ·rw [Zs,LV.out.outs,RX.out,←MX.out]
      rfl
     ·rw [Ze,Zt]
      rcases Yv j os.length with h | h
      ·rw [Xo h] at hy
       rw [HL1.out y (Zm hy)];exact (decide_eq_false (by omega)).symm
      ·rw [Yo h] at hy
       have h2:=(Zh.1 hy).1;simp at h2
       obtain rfl:j=os.length:=by omega
       simp at hy;rw [←hy];simp
end Go.Proofs.YtiijokopcgnokaaGreat.T
