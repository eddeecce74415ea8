import Derived.Test.YtiijokopcgnokaaGreatWCopyN
import Derived.Test.YtiijokopcgnokaaGreatWRegionW
import Derived.Test.YtiijokopcgnokaaGreatWPlain
import Derived.Lib.Overlaps
import Derived.Deep.LoopGhost
set_option maxRecDepth 100000
set_option maxHeartbeats 2000000
set_option linter.unusedSimpArgs false
set_option linter.unusedVariables false
namespace Go.Proofs.YtiijokopcgnokaaGreat
namespace I
open Go Go.RowKit B Tryz
theorem mulle {a b:Nat} (h:a≤b):a*2≤b*2:=by omega
theorem Xec : (prog.info? 43).map (fun i=>(i.zero,i.size,i.bytes))=some (some (.agg #[.slice none 0 0,.int .u64 0]),2,32):=by kernel_rfl
theorem Xds : (prog.info? 43).map (·.size)=some 2:=by kernel_rfl
structure OwnN (w w':World) (v:Value) (n:Nat) (xs:List Value):Prop where
 own:w'.ownsRow 0 43 2 v n xs
 new:∀ k,v.ownBlock=some k→w.heap.size≤k
 only:Only [] w w'
theorem slClone_any {w:World} {ao:Option Addr} {n cap:Nat} {xs:List Value} (hx:xs.length=n*2) (hc:0<n→∃ ad,ao=some ad∧∀ j u,xs[j]?=some u→w.cell? (ad.add j)=some u) (h1:∀ u∈xs,u.oneCell'=true) (hl:n≤1000000) :
  Calls prog 111 #[.slice ao n cap] w fun e w'=>∃ v',e=.returned v'∧OwnN w w' v' n xs:=by
 have HC:=Th hc;have HX:=Th hx;have H1:=Th h1;clear hc hx h1
 cases ao with
 | none =>
  obtain rfl:n=0:=by
   rcases Wo n with h | h
   ·exact h
   ·obtain ⟨ad,h2,_⟩:=HC.out h;cases h2
  have hx0:xs=[]:=Xd (by have:=HX.out;omega)
  have he:∀ w:World,(binOp .eql 48 (.slice none 0 cap) (.slice none 0 0)).run prog w=.ok (.bool true) w:=fun _=>rfl
  go_enter func111,ntmps111
  go_wp2_with fail
  go_ret;exact ⟨_,rfl,⟨HX.out,.inl ⟨rfl,rfl⟩⟩,fun k hk=>by simp [Value.ownBlock] at hk,Only.refl _ _⟩
 | some a =>
  have he:∀ w:World,(binOp .eql 48 (.slice (some a) n cap) (.slice none 0 0)).run prog w=.ok (.bool false) w:=fun _=>rfl
  go_enter func111,ntmps111
  have hown0:(w.alloc (.cells #[] 43)).ownsRow 0 43 2 (.slice (some ⟨w.heap.size,0,none⟩) 0 0) 0 [] :=
   ⟨rfl,.inr ⟨w.heap.size,0,#[],rfl,Yc _,heap_alloc_new w _,Zq _,by unfold maxLen;omega,rfl,rfl⟩⟩
  have HO:=Th hown0
  have HC1:Hid (0<n→∃ ad,some a=some ad∧∀ j u,xs[j]?=some u→(w.alloc (.cells #[] 43)).cell? (ad.add j)=some u):=by
   intro h0;obtain ⟨ad,h1,h2⟩:=HC.out h0;exact ⟨ad,h1,fun j u hu=>((Only.refl [] w).alloc _).cell (h2 j u hu) (by simp)⟩
  clear hown0
  go_wp2_with (refine Xap rfl (.tmp 5) (.tmp 6) 48 rfl 43 underlying48 (info_parts Xec) rfl (by omega) (.slice (some ⟨w.heap.size,0,none⟩) 0 0) 0 [] rfl HO.out (some a) n cap rfl xs (by have:=HX.out;omega) HC1.out H1.out (by omega) (by omega) ?_)
  intro v' w' hg;have HG:=Th hg;clear hg
  go_wp2_with fail
  go_ret;have h1:=HG.out.own
  try rw [Yd] at h1
  refine ⟨v',rfl,h1,fun k hk=>?_,(((Only.refl [] w).alloc _).trans HG.out.only (fun x hx=>?_))⟩
  ·rcases HG.out.lies k hk with h | h
   ·simp only [Value.ownBlock,Zw] at h;omega
   ·simp at h;omega
  ·simp [Value.ownBlock] at hx;right;omega
theorem Blk.shape {w:World} {b:Nat} {cs:List Value} {t:TypeId} (h:Blk w b cs t):w.shape? b=some (t,cs.length):=by
 unfold Blk at h;unfold World.shape?
 simp [h]
theorem size_el (w:World):(sizeOf 43).run prog w=.ok 2 w:=by
 obtain ⟨i,hi,_,hs,_⟩:=info_parts Xec
 simp [sizeOf,typeInfo,hi,hs]
theorem over_no {w:World} {vb b o lb cb:Nat} {cs cur:List Value} (hv:Blk w vb cs 43) (hl:cs.length=2) (hb:Blk w b cur 43) (hne:vb≠b) (hcur:cur.length≠0) :
  (callFunc 60 #[.slice (some ⟨vb,0,none⟩) 1 1,.slice (some ⟨b,o,none⟩) lb cb]).run prog w=.ok (.value (.bool false)) w:=by
 rw [run_callFunc_extern func60 (by kernel_rfl) (by kernel_rfl) (by kernel_rfl) (e:=Extern.SlicesOverlaps.overlaps #[48,48] #[4]) (by kernel_rfl),
  Lib.run_overlaps_apart w 48 4 43 underlying48 2 size_el ⟨vb,0,none⟩ ⟨b,o,none⟩ 1 1 lb cb hne 43 43 cs.length cur.length (Blk.shape hv) (Blk.shape hb) hcur (hv.frozen _) (hv.frozen _)]
 rfl
theorem Xdu {A B:List Value} {n:Nat} (h:A.length=n):(A++B).take n=A:=by rw [Xm (by omega),Ya (by omega)]
theorem Xhb {cur ds cs:List Value} {a:Nat} (hd:a+cs.length+ds.length≤cur.length):(splice (splice cur a cs) (a+cs.length) ds).take (a+cs.length+ds.length)=cur.take a++cs++ds:=by
 have h1:(cur.take a++cs).length=a+cs.length:=by rw [Ze,Zj];omega
 have e0:splice cur a cs=(cur.take a++cs)++cur.drop (a+cs.length):=by simp [splice]
 have e1:(splice cur a cs).take (a+cs.length)=cur.take a++cs:=by rw [e0];exact Xdu h1
 have e2:splice (splice cur a cs) (a+cs.length) ds=(cur.take a++cs++ds)++(splice cur a cs).drop (a+cs.length+ds.length):=by
  show (splice cur a cs).take (a+cs.length)++_=_
  rw [e1];simp [Zu]
 rw [e2];exact Xdu (by rw [Ze,h1])
theorem Xgb {cur ds cs:List Value} {a:Nat} (hd:a+cs.length+ds.length≤cur.length):(splice (splice cur (a+cs.length) ds) a cs).take (a+cs.length+ds.length)=cur.take a++cs++ds:=by
 have h1:(cur.take (a+cs.length)).length=a+cs.length:=by rw [Zj];omega
 have e0:splice cur (a+cs.length) ds=cur.take (a+cs.length)++(ds++cur.drop (a+cs.length+ds.length)):=by simp [splice]
 have e1:(splice cur (a+cs.length) ds).take a=cur.take a:=by
  rw [e0,Xm (by omega),Wb,Yt (by omega)]
 have e2:(splice cur (a+cs.length) ds).drop (a+cs.length)=ds++cur.drop (a+cs.length+ds.length):=by
  rw [e0,Wy h1]
 have e3:splice (splice cur (a+cs.length) ds) a cs=(cur.take a++cs++ds)++cur.drop (a+cs.length+ds.length):=by
  show (splice cur (a+cs.length) ds).take a++_=_;rw [e1];show _++(cs++(splice cur (a+cs.length) ds).drop (a+cs.length))=_
  rw [e2];simp [Zu]
 rw [e3];exact Xdu (by simp only [Ze,Zj];omega)
theorem blk_owns {w:World} {g n cap:Nat} {cur xs:List Value} (hb:Blk w g cur 43) (hc:cur.length=cap*2) (hn:n≤cap) (hm:cap≤maxLen) (hx:cur.take (n*2)=xs) (hl:xs.length=n*2):w.ownsRow 0 43 2 (.slice (some ⟨g,0,none⟩) n cap) n xs :=
 ⟨by omega,.inr ⟨g,cap,cur.toArray,rfl,Yc _,hb,hn,hm,by simpa using hc,by simpa using hx⟩⟩
theorem splice_len {cur cs:List Value} {a:Nat} (h:a+cs.length≤cur.length):(splice cur a cs).length=cur.length:=by
 unfold splice
 simp only [Ze,Zj,Zy];omega
theorem slInsert_any {w:World} {ao:Option Addr} {n cap i vb:Nat} {xs cs:List Value} (h:w.ownsRow 0 43 2 (.slice ao n cap) n xs) (hv:Blk w vb cs 43) (hcs:cs.length=2) (hne:∀ k,(Value.slice ao n cap).ownBlock=some k→k≠vb)
    (hi:i≤n) (h1:∀ u∈xs,u.oneCell'=true) (h2:∀ u∈cs,u.oneCell'=true) (hl:n≤1000000) :
    Calls prog 34 #[.slice ao n cap,.int .i64 i,.slice (some ⟨vb,0,none⟩) 1 1] w fun e w'=>∃ v',e=.returned v'∧Grew w w' 43 2 (.slice ao n cap) v' (n+1) (xs.take (i*2)++cs++xs.drop (i*2)):=by
  have hxl:xs.length=n*2:=by have:=h.1;omega
  have HOWN:=Th h;have HV:=Th hv;have HCS:=Th hcs;have H1:=Th h1;have H2:=Th h2;have HX:=Th hxl
  have hi0:(0:Int)≤i:=by omega
  have hin:(i:Int)≤n:=by omega
  have hncap:n≤cap:=by
    rcases h.2 with ⟨he,h0⟩ | ⟨g',cap',cur,he,_,_,h3,_⟩
    · omega
    · simp only [Value.slice.injEq] at he;omega
  by_cases hend:i=n
  · subst hend
    have SRC:Hid (0<1→∃ ad,some (⟨vb,0,none⟩:Addr)=some ad∧∀ j u,cs[j]?=some u→w.cell? (ad.add j)=some u):=fun _=>⟨_,rfl,fun j u hu=>by rw [Xah,Yd,hv.cell];exact hu⟩
    clear h hv hne h1 h2
    have hcl1:cs.length=2:=by omega
    have HCL:=Th hcl1;clear hcs hcl1 hxl
    go_enter func34,ntmps34
    go_wp2_with (refine Xap rfl (.tmp 23) (.tmp 24) 48 rfl 43 underlying48 (info_parts Xec) rfl (by omega) (.slice ao i cap) i xs rfl HOWN.out (some ⟨vb,0,none⟩) 1 1 rfl cs (by have:=HCL.out;omega) SRC.out H2.out (by omega) (by omega) ?_)
    all_goals
      intro v' w' hg;have HG:=Th hg;clear hg
      go_wp2_with fail
      go_ret
      have hEq:xs++cs=xs.take (i*2)++cs++xs.drop (i*2):=by rw [←HX.out,We,List.drop_length,Xj]
      first
        | exact ⟨v',rfl,HG.out.to rfl hEq⟩
        | (have hce:cap=i:=by assumption
           rw [hce]
           exact ⟨v',rfl,HG.out.to rfl hEq⟩)
  · have hlt:i<n:=by omega
    have hlt':(i:Int)<n:=by omega
    have hci:¬cap=i:=by omega
    have hicap:i<cap:=by omega
    have hne1:((i:Int) == (n:Int))=false:=beq_eq_false_iff_ne.2 (by omega)
    have hne2:¬(i:Int)=(n:Int):=by omega
    obtain ⟨g,hg⟩:∃ g,ao=some ⟨g,0,none⟩:=by
      rcases h.2 with ⟨he,h0⟩ | ⟨g',cap',cur,he,_⟩
      · omega
      · simp only [Value.slice.injEq] at he;exact ⟨g',he.1⟩
    subst hg;obtain ⟨cur,hB,hcl,hct,_⟩:=Xdi h
    have hcl:cur.length=cap*2:=by omega
    have hct:cur.take (n*2)=xs:=by first | exact hct | (rw [Wi] at hct;exact hct)
    have hmax:cap≤maxLen:=by
      rcases h.2 with ⟨he,h0⟩ | ⟨g',cap',cur,he,_,_,_,h4,_⟩
      · omega
      · simp only [Value.slice.injEq] at he;rw [he.2.2];exact h4
    have hgv:vb≠g:=fun e=>hne g rfl e.symm
    have HB:=Th hB;have HGV:=Th hgv;have HCL:=Th hcl;have HCT:=Th hct
    have hsz:n*2≤cur.length:=by rw [hcl];exact mulle hncap
    have HSZ:=Th hsz;clear h hv hne h1 h2 hB hcl hct hgv hcs hxl hsz
    by_cases hroom:cap<n+1
    · obtain rfl:cap=n:=by omega
      have hr1:(cap:Int)<(cap:Int)+1:=by omega
      have hr2:i≤cap:=by omega
      have hk0:0<cap+1-i:=by omega
      have hcap2:cap<i+(cap+1-i):=by omega
      have hcap3:i+(cap+1-i)≤16777216:=by omega
      have hisz:i*2≤cur.length:=Zp (mulle hr2) HSZ.out
      have hkk:((cap:Int)+1-i)=((cap+1-i:Nat):Int):=by omega
      go_enter func34,ntmps34
      go_wp2_with (refine Xgt rfl (.tmp 34) (.tmp 39) 48 3 rfl 43 underlying48 underlying3 (info_parts Xec) rfl (by omega) g i cap cur HB.out (by omega) rfl (cap+1-i) rfl hk0 hcap2 hcap3 (by omega) ?_)
      intro cap1 cur1 w1 hb1 hl1 hn1 hm1 ht1 hO1
      have hl1:cur1.length=cap1*2:=by omega
      have ht1:cur1.take (i*2)=cur.take (i*2):=by first | exact ht1 | (rw [Wi] at ht1;exact ht1)
      have e0:i+(cap+1-i)=cap+1:=by omega
      rw [e0] at hn1 ⊢;have HB1:=Th hb1;have HV1:Hid (Blk w1 vb cs 43):=hO1.blk HV.out (by simp);have HBO:Hid (Blk w1 g cur 43):=hO1.blk HB.out (by simp);have HL1:=Th hl1;have HT1:=Th ht1;have HO1:=Th hO1;have HM1:=Th hm1
      have hfit1:i*2+cs.length≤cur1.length:=by
        have:=HCS.out;omega
      have HF1:=Th hfit1
      have hc1i:¬cap1=i:=by omega
      have hi1:i≤cap+1:=by omega
      have hi1':(i:Int)≤(cap:Int)+1:=by omega
      have HMN1:Hid (1=Nat.min 1 (cap+1-i)):=by show 1=min 1 _;omega
      have HN1S:Hid (cs.length=2):=HCS.out
      have SRC:Hid (∀ j u,cs[j]?=some u→w1.cell? ((⟨vb,0,none⟩:Addr).add j)=some u):=fun j u hu=>by rw [Xah,Yd,HV1.out.cell];exact hu
      clear hb1 hl1 hm1 ht1 hO1 hfit1
      go_wp2_with (refine Xcy rfl (.tmp 43) (.tmp 44) 48 48 rfl 43 underlying48 2 Xds w.heap.size (i*2) (cap+1-i) (cap1-i) ⟨vb,0,none⟩ 1 1 1 rfl rfl cur1 43 HB1.out HMN1.out cs (by have:=HN1S.out;omega) SRC.out HF1.out H2.out ?_)
      intro w2 hb2 hO2;have HB2:=Th hb2;have HO2:=Th hO2;have hgw:g<w.heap.size:=HB.out.lt;have HGW:=Th hgw;have HBO2:Hid (Blk w2 g cur 43):=hO2.blk HBO.out (by simp;omega)
      clear hb2 hO2
      go_wp2_with fail
      have HDS:Hid ((xs.drop (i*2)).length=(cap-i)*2):=by show _=_;have:=HX.out;rw [Zy];omega
      have HOFF:Hid (i*2+cs.length=(i+1)*2):=by show _=_;have:=HCS.out;omega
      have hci1:¬cap1=i+1:=by omega
      refine wp_region_held_drew (S:=fun _=>True) (by kernel_rfl) trivial (fun hH=>?_)
      refine tkA 0 46 (.slice (some ⟨w.heap.size,0,none⟩) (cap+1) cap1) hH ?_
      refine tkA 1 47 (.int .i64 i) hH ?_
      refine tkA 2 48 (.int .i64 1) hH ?_
      have IW:Hid (IntKind.i64.wrap ((i:Int)+1)=(i:Int)+1):=by show _=_;rw [Yi];omega
      have hip:¬((i:Int)+1<0):=by omega
      refine Xaq 3 49 (.int .i64 ((i:Int)+1)) rfl rfl (by kernel_rfl) (by kernel_rfl) (by kernel_rfl) (fun _ _ _ h=>h) (Or.inl ⟨by rfl,fun w1 hw1=>by go_simp;exact IW.out⟩) hH ?_
      (try simp only [Act.put,qSa,qSz,qSs])
      refine tkA 4 50 (.slice (some ⟨w.heap.size,(i+1)*2,none⟩) (cap+1-(i+1)) (cap1-(i+1))) hH ?_
      refine tkA 5 51 (.slice (some ⟨g,0,none⟩) cap cap) hH ?_
      refine tkA 6 52 (.int .i64 i) hH ?_
      refine tkA 7 53 (.slice (some ⟨g,i*2,none⟩) (cap-i) (cap-i)) hH ?_
      have HMN2:Hid (cap-i=Nat.min (cap-i) (cap+1-(i+1))):=by show cap-i=min _ _;omega
      have SRC2:Hid (∀ j u,(xs.drop (i*2))[j]?=some u→w2.drew.cell? ((⟨g,i*2,none⟩:Addr).add j)=some u):=fun j u hu=>by
        rw [Xah,HBO2.out.drew.cell];rw [←HCT.out,Xh,Yq] at hu;split at hu
        · exact hu
        · cases hu
      have HF2:Hid ((i+1)*2+(xs.drop (i*2)).length≤(splice cur1 (i*2) cs).length):=by
        show _≤_;have:=HL1.out;have:=HDS.out
        rw [splice_len HF1.out];omega
      refine oneA 8 fun K hK=>?_
      refine Xmp 54 rfl (.tmp 50) (.tmp 53) 48 48 rfl 43 underlying48 2 Xds w.heap.size ((i+1)*2) (cap+1-(i+1)) (cap1-(i+1)) ⟨g,i*2,none⟩ (cap-i) (cap-i) (cap-i) rfl rfl _ 43 HB2.out.drew HMN2.out (xs.drop (i*2)) (by have:=HDS.out;omega) SRC2.out HF2.out (fun u hu=>H1.out u (Ys hu)) ?_
      intro w3 hb3 hO3
      refine hK.out _ _ trivial ?_
      clear hK K hH
      (try simp only [Act.put,qSa,qSz,qSs])
      refine wpAnyH_done (by kernel_rfl) ?_ _;have HB3:=Th hb3;have HO3:=Th hO3;clear hb3 hO3
      go_wp2_with fail
      go_ret;have hcsl:=HCS.out;have hmul:=mulle hn1
      have hsum:i*2+cs.length+(xs.drop (i*2)).length=(cap+1)*2:=by have:=HOFF.out;have:=HDS.out;omega
      have hcut:=Xhb (cur:=cur1) (ds:=xs.drop (i*2)) (cs:=cs) (a:=i*2) (by rw [hsum];have:=HL1.out;omega);rw [hsum,HOFF.out,HT1.out,Zu] at hcut
      have hct2:cur.take (i*2)=xs.take (i*2):=by
        rw [←HCT.out,Wb,Yt (mulle hr2)]
      rw [hct2] at hcut;have hO13:Only [] w w3:=((HO1.out.trans HO2.out (fun x hx=>.inr (by simp at hx;omega))).drew).trans HO3.out (fun x hx=>.inr (by simp at hx;omega))
      refine ⟨_,rfl,blk_owns HB3.out ?_ hn1 HM1.out hcut (by rw [←hcut,Zj,splice_len HF2.out,splice_len HF1.out,HL1.out];omega),hO13.mono (by simp),fun k hk=>.inr (by simp [Value.ownBlock] at hk;omega),_,_,rfl⟩;rw [splice_len HF2.out,splice_len HF1.out,HL1.out]
    · have hr1:¬(cap:Int)<(n:Int)+1:=by omega
      have hr2:n+1≤cap:=by omega
      have hr3:(n:Int)+1≤cap:=by omega
      have hci1:¬cap=i+1:=by omega
      have OV:∀ o lb cb:Nat,(callFunc 60 #[.slice (some ⟨vb,0,none⟩) 1 1,.slice (some ⟨g,o,none⟩) lb cb]).run prog w=.ok (.value (.bool false)) w:=fun o lb cb=>over_no HV.out HCS.out HB.out HGV.out (by
        have h7:(n+1)*2≤cur.length:=by rw [HCL.out];exact mulle hr2
        omega)
      have IW:Hid (IntKind.i64.wrap ((i:Int)+1)=(i:Int)+1):=by show _=_;rw [Yi];omega
      have hip:¬((i:Int)+1<0):=by omega
      have hin2:(i:Int)+1≤(n:Int)+1:=by omega
      have hin3:i≤n+1:=by omega
      have hin4:(i:Int)≤(n:Int)+1:=by omega
      have HDS:Hid ((xs.drop (i*2)).length=(n-i)*2):=by show _=_;have:=HX.out;rw [Zy];omega
      have HOFF:Hid (i*2+cs.length=(i+1)*2):=by show _=_;have:=HCS.out;omega
      have HMN2:Hid (n-i=Nat.min (n+1-i) (n+1-(i+1))):=by show n-i=min _ _;omega
      have HFIT:Hid ((n+1)*2≤cur.length):=by show _≤_;rw [HCL.out];exact mulle hr2
      have SRC2:Hid (∀ j u,(xs.drop (i*2))[j]?=some u→w.drew.cell? ((⟨g,i*2,none⟩:Addr).add j)=some u):=fun j u hu=>by
        rw [Xah,HB.out.drew.cell];rw [←HCT.out,Xh,Yq] at hu;split at hu
        · exact hu
        · cases hu
      have HF2:Hid ((i+1)*2+(xs.drop (i*2)).length≤cur.length):=by
        show _≤_;have:=HFIT.out;have:=HDS.out;omega
      go_enter func34,ntmps34
      go_wp2_with fail
      refine wp_region_held_drew (S:=fun _=>True) (by kernel_rfl) trivial (fun hH=>?_)
      refine tkA 0 69 (.slice (some ⟨g,0,none⟩) (n+1) cap) hH ?_
      refine tkA 1 70 (.int .i64 i) hH ?_
      refine tkA 2 71 (.int .i64 1) hH ?_
      refine Xaq 3 72 (.int .i64 ((i:Int)+1)) rfl rfl (by kernel_rfl) (by kernel_rfl) (by kernel_rfl) (fun _ _ _ h=>h) (Or.inl ⟨by rfl,fun w1 hw1=>by go_simp;exact IW.out⟩) hH ?_
      (try simp only [Act.put,qSa,qSz,qSs])
      refine tkA 4 73 (.slice (some ⟨g,(i+1)*2,none⟩) (n+1-(i+1)) (cap-(i+1))) hH ?_
      refine tkA 5 74 (.slice (some ⟨g,0,none⟩) (n+1) cap) hH ?_
      refine tkA 6 75 (.int .i64 i) hH ?_
      refine tkA 7 76 (.slice (some ⟨g,i*2,none⟩) (n+1-i) (cap-i)) hH ?_
      refine oneA 8 fun K hK=>?_
      refine Xmp 77 rfl (.tmp 73) (.tmp 76) 48 48 rfl 43 underlying48 2 Xds g ((i+1)*2) (n+1-(i+1)) (cap-(i+1)) ⟨g,i*2,none⟩ (n+1-i) (cap-i) (n-i) rfl rfl _ 43 HB.out.drew HMN2.out (xs.drop (i*2)) (by have:=HDS.out;omega) SRC2.out HF2.out (fun u hu=>H1.out u (Ys hu)) ?_
      intro w3 hb3 hO3
      refine hK.out _ _ trivial ?_
      clear hK K hH
      (try simp only [Act.put,qSa,qSz,qSs])
      refine wpAnyH_done (by kernel_rfl) ?_ _;have HB3:=Th hb3;have HO3:Hid (Only [g] w w3):=((Only.refl [g] w).drew).trans hO3 (fun x hx=>.inl hx);have HV3:Hid (Blk w3 vb cs 43):=hO3.blk HV.out.drew (by simp;exact HGV.out)
      have SRC3:Hid (∀ j u,cs[j]?=some u→w3.cell? ((⟨vb,0,none⟩:Addr).add j)=some u):=fun j u hu=>by rw [Xah,Yd,HV3.out.cell];exact hu
      have HN1S:Hid (cs.length=2):=HCS.out
      have HMN1:Hid (1=Nat.min 1 (n+1-i)):=by show 1=min 1 _;omega
      have HF3:Hid (i*2+cs.length≤(splice cur ((i+1)*2) (xs.drop (i*2))).length):=by
        show _≤_;have:=HFIT.out;have:=HOFF.out
        rw [splice_len HF2.out];omega
      clear hb3 hO3 OV
      go_wp2_with (refine Xcy rfl (.tmp 80) (.tmp 81) 48 48 rfl 43 underlying48 2 Xds g (i*2) (n+1-i) (cap-i) ⟨vb,0,none⟩ 1 1 1 rfl rfl _ 43 HB3.out HMN1.out cs (by have:=HN1S.out;omega) SRC3.out HF3.out H2.out ?_)
      intro w4 hb4 hO4;have HB4:=Th hb4;have HO4:=Th hO4;clear hb4 hO4
      go_wp2_with fail
      go_ret
      have hsum:i*2+cs.length+(xs.drop (i*2)).length=(n+1)*2:=by have:=HOFF.out;have:=HDS.out;omega
      have hcut:=Xgb (cur:=cur) (ds:=xs.drop (i*2)) (cs:=cs) (a:=i*2) (by rw [hsum];exact HFIT.out);rw [hsum,HOFF.out] at hcut
      have hct2:cur.take (i*2)=xs.take (i*2):=by
        rw [←HCT.out,Wb,Yt (mulle (by omega))]
      rw [hct2] at hcut;refine ⟨_,rfl,blk_owns HB4.out ?_ hr2 hmax hcut (by rw [←hcut,Zj,splice_len HF3.out,splice_len HF2.out];have:=HFIT.out;omega),(HO3.out.trans HO4.out (fun x hx=>.inl hx)).mono (by simp [Value.ownBlock]),fun k hk=>.inl hk,_,_,rfl⟩
      rw [splice_len HF3.out,splice_len HF2.out,HCL.out]
end I
namespace IJ
open Go Go.RowKit B Tryz
theorem mulle {a b:Nat} (h:a≤b):a≤b:=by omega
theorem Xec : (prog.info? 3).map (fun i=>(i.zero,i.size,i.bytes))=some (some (.int .i64 0),1,8):=by kernel_rfl
theorem Xds : (prog.info? 3).map (·.size)=some 1:=by kernel_rfl
structure OwnN (w w':World) (v:Value) (n:Nat) (xs:List Value):Prop where
 own:w'.ownsRow 0 3 1 v n xs
 new:∀ k,v.ownBlock=some k→w.heap.size≤k
 only:Only [] w w'
theorem slClone_any {w:World} {ao:Option Addr} {n cap:Nat} {xs:List Value} (hx:xs.length=n) (hc:0<n→∃ ad,ao=some ad∧∀ j u,xs[j]?=some u→w.cell? (ad.add j)=some u) (h1:∀ u∈xs,u.oneCell'=true) (hl:n≤1000000) :
  Calls prog 112 #[.slice ao n cap] w fun e w'=>∃ v',e=.returned v'∧OwnN w w' v' n xs:=by
 have HC:=Th hc;have HX:=Th hx;have H1:=Th h1;clear hc hx h1
 cases ao with
 | none =>
  obtain rfl:n=0:=by
   rcases Wo n with h | h
   ·exact h
   ·obtain ⟨ad,h2,_⟩:=HC.out h;cases h2
  have hx0:xs=[]:=Xd (by have:=HX.out;omega)
  have he:∀ w:World,(binOp .eql 52 (.slice none 0 cap) (.slice none 0 0)).run prog w=.ok (.bool true) w:=fun _=>rfl
  go_enter func112,ntmps112
  go_wp2_with fail
  go_ret;exact ⟨_,rfl,⟨HX.out,.inl ⟨rfl,rfl⟩⟩,fun k hk=>by simp [Value.ownBlock] at hk,Only.refl _ _⟩
 | some a =>
  have he:∀ w:World,(binOp .eql 52 (.slice (some a) n cap) (.slice none 0 0)).run prog w=.ok (.bool false) w:=fun _=>rfl
  go_enter func112,ntmps112
  have hown0:(w.alloc (.cells #[] 3)).ownsRow 0 3 1 (.slice (some ⟨w.heap.size,0,none⟩) 0 0) 0 [] :=
   ⟨rfl,.inr ⟨w.heap.size,0,#[],rfl,Yc _,heap_alloc_new w _,Zq _,by unfold maxLen;omega,rfl,rfl⟩⟩
  have HO:=Th hown0
  have HC1:Hid (0<n→∃ ad,some a=some ad∧∀ j u,xs[j]?=some u→(w.alloc (.cells #[] 3)).cell? (ad.add j)=some u):=by
   intro h0;obtain ⟨ad,h1,h2⟩:=HC.out h0;exact ⟨ad,h1,fun j u hu=>((Only.refl [] w).alloc _).cell (h2 j u hu) (by simp)⟩
  clear hown0
  go_wp2_with (refine Xap rfl (.tmp 5) (.tmp 6) 52 rfl 3 underlying52 (info_parts Xec) rfl (by omega) (.slice (some ⟨w.heap.size,0,none⟩) 0 0) 0 [] rfl HO.out (some a) n cap rfl xs (by have:=HX.out;omega) HC1.out H1.out (by omega) (by omega) ?_)
  intro v' w' hg;have HG:=Th hg;clear hg
  go_wp2_with fail
  go_ret;have h1:=HG.out.own
  try rw [Yd] at h1
  refine ⟨v',rfl,h1,fun k hk=>?_,(((Only.refl [] w).alloc _).trans HG.out.only (fun x hx=>?_))⟩
  ·rcases HG.out.lies k hk with h | h
   ·simp only [Value.ownBlock,Zw] at h;omega
   ·simp at h;omega
  ·simp [Value.ownBlock] at hx;right;omega
theorem Blk.shape {w:World} {b:Nat} {cs:List Value} {t:TypeId} (h:Blk w b cs t):w.shape? b=some (t,cs.length):=by
 unfold Blk at h;unfold World.shape?
 simp [h]
theorem size_el (w:World):(sizeOf 3).run prog w=.ok 1 w:=by
 obtain ⟨i,hi,_,hs,_⟩:=info_parts Xec
 simp [sizeOf,typeInfo,hi,hs]
theorem over_no {w:World} {vb b o lb cb:Nat} {cs cur:List Value} (hv:Blk w vb cs 3) (hl:cs.length=1) (hb:Blk w b cur 3) (hne:vb≠b) (hcur:cur.length≠0) :
  (callFunc 93 #[.slice (some ⟨vb,0,none⟩) 1 1,.slice (some ⟨b,o,none⟩) lb cb]).run prog w=.ok (.value (.bool false)) w:=by
 rw [run_callFunc_extern func93 (by kernel_rfl) (by kernel_rfl) (by kernel_rfl) (e:=Extern.SlicesOverlaps.overlaps #[52,52] #[4]) (by kernel_rfl),
  Lib.run_overlaps_apart w 52 4 3 underlying52 1 size_el ⟨vb,0,none⟩ ⟨b,o,none⟩ 1 1 lb cb hne 3 3 cs.length cur.length (Blk.shape hv) (Blk.shape hb) hcur (hv.frozen _) (hv.frozen _)]
 rfl
theorem Xdu {A B:List Value} {n:Nat} (h:A.length=n):(A++B).take n=A:=by rw [Xm (by omega),Ya (by omega)]
theorem Xhb {cur ds cs:List Value} {a:Nat} (hd:a+cs.length+ds.length≤cur.length):(splice (splice cur a cs) (a+cs.length) ds).take (a+cs.length+ds.length)=cur.take a++cs++ds:=by
 have h1:(cur.take a++cs).length=a+cs.length:=by rw [Ze,Zj];omega
 have e0:splice cur a cs=(cur.take a++cs)++cur.drop (a+cs.length):=by simp [splice]
 have e1:(splice cur a cs).take (a+cs.length)=cur.take a++cs:=by rw [e0];exact Xdu h1
 have e2:splice (splice cur a cs) (a+cs.length) ds=(cur.take a++cs++ds)++(splice cur a cs).drop (a+cs.length+ds.length):=by
  show (splice cur a cs).take (a+cs.length)++_=_
  rw [e1];simp [Zu]
 rw [e2];exact Xdu (by rw [Ze,h1])
theorem Xgb {cur ds cs:List Value} {a:Nat} (hd:a+cs.length+ds.length≤cur.length):(splice (splice cur (a+cs.length) ds) a cs).take (a+cs.length+ds.length)=cur.take a++cs++ds:=by
 have h1:(cur.take (a+cs.length)).length=a+cs.length:=by rw [Zj];omega
 have e0:splice cur (a+cs.length) ds=cur.take (a+cs.length)++(ds++cur.drop (a+cs.length+ds.length)):=by simp [splice]
 have e1:(splice cur (a+cs.length) ds).take a=cur.take a:=by
  rw [e0,Xm (by omega),Wb,Yt (by omega)]
 have e2:(splice cur (a+cs.length) ds).drop (a+cs.length)=ds++cur.drop (a+cs.length+ds.length):=by
  rw [e0,Wy h1]
 have e3:splice (splice cur (a+cs.length) ds) a cs=(cur.take a++cs++ds)++cur.drop (a+cs.length+ds.length):=by
  show (splice cur (a+cs.length) ds).take a++_=_;rw [e1];show _++(cs++(splice cur (a+cs.length) ds).drop (a+cs.length))=_
  rw [e2];simp [Zu]
 rw [e3];exact Xdu (by simp only [Ze,Zj];omega)
theorem blk_owns {w:World} {g n cap:Nat} {cur xs:List Value} (hb:Blk w g cur 3) (hc:cur.length=cap) (hn:n≤cap) (hm:cap≤maxLen) (hx:cur.take (n)=xs) (hl:xs.length=n):w.ownsRow 0 3 1 (.slice (some ⟨g,0,none⟩) n cap) n xs :=
 ⟨by omega,.inr ⟨g,cap,cur.toArray,rfl,Yc _,hb,hn,hm,by simpa using hc,by simpa using hx⟩⟩
theorem splice_len {cur cs:List Value} {a:Nat} (h:a+cs.length≤cur.length):(splice cur a cs).length=cur.length:=by
 unfold splice
 simp only [Ze,Zj,Zy];omega
theorem slInsert_any {w:World} {ao:Option Addr} {n cap i vb:Nat} {xs cs:List Value} (h:w.ownsRow 0 3 1 (.slice ao n cap) n xs) (hv:Blk w vb cs 3) (hcs:cs.length=1) (hne:∀ k,(Value.slice ao n cap).ownBlock=some k→k≠vb)
    (hi:i≤n) (h1:∀ u∈xs,u.oneCell'=true) (h2:∀ u∈cs,u.oneCell'=true) (hl:n≤1000000) :
    Calls prog 65 #[.slice ao n cap,.int .i64 i,.slice (some ⟨vb,0,none⟩) 1 1] w fun e w'=>∃ v',e=.returned v'∧Grew w w' 3 1 (.slice ao n cap) v' (n+1) (xs.take (i)++cs++xs.drop (i)):=by
  have hxl:xs.length=n:=by have:=h.1;omega
  have HOWN:=Th h;have HV:=Th hv;have HCS:=Th hcs;have H1:=Th h1;have H2:=Th h2;have HX:=Th hxl
  have hi0:(0:Int)≤i:=by omega
  have hin:(i:Int)≤n:=by omega
  have hncap:n≤cap:=by
    rcases h.2 with ⟨he,h0⟩ | ⟨g',cap',cur,he,_,_,h3,_⟩
    · omega
    · simp only [Value.slice.injEq] at he;omega
  by_cases hend:i=n
  · subst hend
    have SRC:Hid (0<1→∃ ad,some (⟨vb,0,none⟩:Addr)=some ad∧∀ j u,cs[j]?=some u→w.cell? (ad.add j)=some u):=fun _=>⟨_,rfl,fun j u hu=>by rw [Xah,Yd,hv.cell];exact hu⟩
    clear h hv hne h1 h2
    have hcl1:cs.length=1:=by omega
    have HCL:=Th hcl1;clear hcs hcl1 hxl
    go_enter func65,ntmps65
    go_wp2_with (refine Xap rfl (.tmp 23) (.tmp 24) 52 rfl 3 underlying52 (info_parts Xec) rfl (by omega) (.slice ao i cap) i xs rfl HOWN.out (some ⟨vb,0,none⟩) 1 1 rfl cs (by have:=HCL.out;omega) SRC.out H2.out (by omega) (by omega) ?_)
    all_goals
      intro v' w' hg;have HG:=Th hg;clear hg
      go_wp2_with fail
      go_ret
      have hEq:xs++cs=xs.take (i)++cs++xs.drop (i):=by rw [←HX.out,We,List.drop_length,Xj]
      first
        | exact ⟨v',rfl,HG.out.to rfl hEq⟩
        | (have hce:cap=i:=by assumption
           rw [hce]
           exact ⟨v',rfl,HG.out.to rfl hEq⟩)
  · have hlt:i<n:=by omega
    have hlt':(i:Int)<n:=by omega
    have hci:¬cap=i:=by omega
    have hicap:i<cap:=by omega
    have hne1:((i:Int) == (n:Int))=false:=beq_eq_false_iff_ne.2 (by omega)
    have hne2:¬(i:Int)=(n:Int):=by omega
    obtain ⟨g,hg⟩:∃ g,ao=some ⟨g,0,none⟩:=by
      rcases h.2 with ⟨he,h0⟩ | ⟨g',cap',cur,he,_⟩
      · omega
      · simp only [Value.slice.injEq] at he;exact ⟨g',he.1⟩
    subst hg;obtain ⟨cur,hB,hcl,hct,_⟩:=Xdi h
    have hcl:cur.length=cap:=by omega
    have hct:cur.take (n)=xs:=by first | exact hct | (rw [Wi] at hct;exact hct)
    have hmax:cap≤maxLen:=by
      rcases h.2 with ⟨he,h0⟩ | ⟨g',cap',cur,he,_,_,_,h4,_⟩
      · omega
      · simp only [Value.slice.injEq] at he;rw [he.2.2];exact h4
    have hgv:vb≠g:=fun e=>hne g rfl e.symm
    have HB:=Th hB;have HGV:=Th hgv;have HCL:=Th hcl;have HCT:=Th hct
    have hsz:n≤cur.length:=by rw [hcl];exact mulle hncap
    have HSZ:=Th hsz;clear h hv hne h1 h2 hB hcl hct hgv hcs hxl hsz
    by_cases hroom:cap<n+1
    · obtain rfl:cap=n:=by omega
      have hr1:(cap:Int)<(cap:Int)+1:=by omega
      have hr2:i≤cap:=by omega
      have hk0:0<cap+1-i:=by omega
      have hcap2:cap<i+(cap+1-i):=by omega
      have hcap3:i+(cap+1-i)≤16777216:=by omega
      have hisz:i≤cur.length:=Zp (mulle hr2) HSZ.out
      have hkk:((cap:Int)+1-i)=((cap+1-i:Nat):Int):=by omega
      go_enter func65,ntmps65
      go_wp2_with (refine Xgt rfl (.tmp 34) (.tmp 39) 52 3 rfl 3 underlying52 underlying3 (info_parts Xec) rfl (by omega) g i cap cur HB.out (by omega) rfl (cap+1-i) rfl hk0 hcap2 hcap3 (by omega) ?_)
      intro cap1 cur1 w1 hb1 hl1 hn1 hm1 ht1 hO1
      have hl1:cur1.length=cap1:=by omega
      have ht1:cur1.take (i)=cur.take (i):=by first | exact ht1 | (rw [Wi] at ht1;exact ht1)
      have e0:i+(cap+1-i)=cap+1:=by omega
      rw [e0] at hn1 ⊢;have HB1:=Th hb1;have HV1:Hid (Blk w1 vb cs 3):=hO1.blk HV.out (by simp);have HBO:Hid (Blk w1 g cur 3):=hO1.blk HB.out (by simp);have HL1:=Th hl1;have HT1:=Th ht1;have HO1:=Th hO1;have HM1:=Th hm1
      have hfit1:i+cs.length≤cur1.length:=by
        have:=HCS.out;omega
      have HF1:=Th hfit1
      have hc1i:¬cap1=i:=by omega
      have hi1:i≤cap+1:=by omega
      have hi1':(i:Int)≤(cap:Int)+1:=by omega
      have HMN1:Hid (1=Nat.min 1 (cap+1-i)):=by show 1=min 1 _;omega
      have HN1S:Hid (cs.length=1):=HCS.out
      have SRC:Hid (∀ j u,cs[j]?=some u→w1.cell? ((⟨vb,0,none⟩:Addr).add j)=some u):=fun j u hu=>by rw [Xah,Yd,HV1.out.cell];exact hu
      clear hb1 hl1 hm1 ht1 hO1 hfit1
      go_wp2_with (refine Xcy rfl (.tmp 43) (.tmp 44) 52 52 rfl 3 underlying52 1 Xds w.heap.size (i) (cap+1-i) (cap1-i) ⟨vb,0,none⟩ 1 1 1 rfl rfl cur1 3 HB1.out HMN1.out cs (by have:=HN1S.out;omega) SRC.out HF1.out H2.out ?_)
      intro w2 hb2 hO2;have HB2:=Th hb2;have HO2:=Th hO2;have hgw:g<w.heap.size:=HB.out.lt;have HGW:=Th hgw;have HBO2:Hid (Blk w2 g cur 3):=hO2.blk HBO.out (by simp;omega)
      clear hb2 hO2
      go_wp2_with fail
      have HDS:Hid ((xs.drop (i)).length=(cap-i)):=by show _=_;have:=HX.out;rw [Zy];omega
      have HOFF:Hid (i+cs.length=(i+1)):=by show _=_;have:=HCS.out;omega
      have hci1:¬cap1=i+1:=by omega
      refine wp_region_held_drew (S:=fun _=>True) (by kernel_rfl) trivial (fun hH=>?_)
      refine tkA 0 46 (.slice (some ⟨w.heap.size,0,none⟩) (cap+1) cap1) hH ?_
      refine tkA 1 47 (.int .i64 i) hH ?_
      refine tkA 2 48 (.int .i64 1) hH ?_
      have IW:Hid (IntKind.i64.wrap ((i:Int)+1)=(i:Int)+1):=by show _=_;rw [Yi];omega
      have hip:¬((i:Int)+1<0):=by omega
      refine Xaq 3 49 (.int .i64 ((i:Int)+1)) rfl rfl (by kernel_rfl) (by kernel_rfl) (by kernel_rfl) (fun _ _ _ h=>h) (Or.inl ⟨by rfl,fun w1 hw1=>by go_simp;exact IW.out⟩) hH ?_
      (try simp only [Act.put,qSa,qSz,qSs])
      refine tkA 4 50 (.slice (some ⟨w.heap.size,(i+1),none⟩) (cap+1-(i+1)) (cap1-(i+1))) hH ?_
      refine tkA 5 51 (.slice (some ⟨g,0,none⟩) cap cap) hH ?_
      refine tkA 6 52 (.int .i64 i) hH ?_
      refine tkA 7 53 (.slice (some ⟨g,i,none⟩) (cap-i) (cap-i)) hH ?_
      have HMN2:Hid (cap-i=Nat.min (cap-i) (cap+1-(i+1))):=by show cap-i=min _ _;omega
      have SRC2:Hid (∀ j u,(xs.drop (i))[j]?=some u→w2.drew.cell? ((⟨g,i,none⟩:Addr).add j)=some u):=fun j u hu=>by
        rw [Xah,HBO2.out.drew.cell];rw [←HCT.out,Xh,Yq] at hu;split at hu
        · exact hu
        · cases hu
      have HF2:Hid ((i+1)+(xs.drop (i)).length≤(splice cur1 (i) cs).length):=by
        show _≤_;have:=HL1.out;have:=HDS.out
        rw [splice_len HF1.out];omega
      refine oneA 8 fun K hK=>?_
      refine Xmp 54 rfl (.tmp 50) (.tmp 53) 52 52 rfl 3 underlying52 1 Xds w.heap.size ((i+1)) (cap+1-(i+1)) (cap1-(i+1)) ⟨g,i,none⟩ (cap-i) (cap-i) (cap-i) rfl rfl _ 3 HB2.out.drew HMN2.out (xs.drop (i)) (by have:=HDS.out;omega) SRC2.out HF2.out (fun u hu=>H1.out u (Ys hu)) ?_
      intro w3 hb3 hO3
      refine hK.out _ _ trivial ?_
      clear hK K hH
      (try simp only [Act.put,qSa,qSz,qSs])
      refine wpAnyH_done (by kernel_rfl) ?_ _;have HB3:=Th hb3;have HO3:=Th hO3;clear hb3 hO3
      go_wp2_with fail
      go_ret;have hcsl:=HCS.out;have hmul:=mulle hn1
      have hsum:i+cs.length+(xs.drop (i)).length=(cap+1):=by have:=HOFF.out;have:=HDS.out;omega
      have hcut:=Xhb (cur:=cur1) (ds:=xs.drop (i)) (cs:=cs) (a:=i) (by rw [hsum];have:=HL1.out;omega);rw [hsum,HOFF.out,HT1.out,Zu] at hcut
      have hct2:cur.take (i)=xs.take (i):=by
        rw [←HCT.out,Wb,Yt (mulle hr2)]
      rw [hct2] at hcut;have hO13:Only [] w w3:=((HO1.out.trans HO2.out (fun x hx=>.inr (by simp at hx;omega))).drew).trans HO3.out (fun x hx=>.inr (by simp at hx;omega))
      refine ⟨_,rfl,blk_owns HB3.out ?_ hn1 HM1.out hcut (by rw [←hcut,Zj,splice_len HF2.out,splice_len HF1.out,HL1.out];omega),hO13.mono (by simp),fun k hk=>.inr (by simp [Value.ownBlock] at hk;omega),_,_,rfl⟩;rw [splice_len HF2.out,splice_len HF1.out,HL1.out]
    · have hr1:¬(cap:Int)<(n:Int)+1:=by omega
      have hr2:n+1≤cap:=by omega
      have hr3:(n:Int)+1≤cap:=by omega
      have hci1:¬cap=i+1:=by omega
      have OV:∀ o lb cb:Nat,(callFunc 93 #[.slice (some ⟨vb,0,none⟩) 1 1,.slice (some ⟨g,o,none⟩) lb cb]).run prog w=.ok (.value (.bool false)) w:=fun o lb cb=>over_no HV.out HCS.out HB.out HGV.out (by
        have h7:(n+1)≤cur.length:=by rw [HCL.out];exact mulle hr2
        omega)
      have IW:Hid (IntKind.i64.wrap ((i:Int)+1)=(i:Int)+1):=by show _=_;rw [Yi];omega
      have hip:¬((i:Int)+1<0):=by omega
      have hin2:(i:Int)+1≤(n:Int)+1:=by omega
      have hin3:i≤n+1:=by omega
      have hin4:(i:Int)≤(n:Int)+1:=by omega
      have HDS:Hid ((xs.drop (i)).length=(n-i)):=by show _=_;have:=HX.out;rw [Zy];omega
      have HOFF:Hid (i+cs.length=(i+1)):=by show _=_;have:=HCS.out;omega
      have HMN2:Hid (n-i=Nat.min (n+1-i) (n+1-(i+1))):=by show n-i=min _ _;omega
      have HFIT:Hid ((n+1)≤cur.length):=by show _≤_;rw [HCL.out];exact mulle hr2
      have SRC2:Hid (∀ j u,(xs.drop (i))[j]?=some u→w.drew.cell? ((⟨g,i,none⟩:Addr).add j)=some u):=fun j u hu=>by
        rw [Xah,HB.out.drew.cell];rw [←HCT.out,Xh,Yq] at hu;split at hu
        · exact hu
        · cases hu
      have HF2:Hid ((i+1)+(xs.drop (i)).length≤cur.length):=by
        show _≤_;have:=HFIT.out;have:=HDS.out;omega
      go_enter func65,ntmps65
      go_wp2_with fail
      refine wp_region_held_drew (S:=fun _=>True) (by kernel_rfl) trivial (fun hH=>?_)
      refine tkA 0 69 (.slice (some ⟨g,0,none⟩) (n+1) cap) hH ?_
      refine tkA 1 70 (.int .i64 i) hH ?_
      refine tkA 2 71 (.int .i64 1) hH ?_
      refine Xaq 3 72 (.int .i64 ((i:Int)+1)) rfl rfl (by kernel_rfl) (by kernel_rfl) (by kernel_rfl) (fun _ _ _ h=>h) (Or.inl ⟨by rfl,fun w1 hw1=>by go_simp;exact IW.out⟩) hH ?_
      (try simp only [Act.put,qSa,qSz,qSs])
      refine tkA 4 73 (.slice (some ⟨g,(i+1),none⟩) (n+1-(i+1)) (cap-(i+1))) hH ?_
      refine tkA 5 74 (.slice (some ⟨g,0,none⟩) (n+1) cap) hH ?_
      refine tkA 6 75 (.int .i64 i) hH ?_
      refine tkA 7 76 (.slice (some ⟨g,i,none⟩) (n+1-i) (cap-i)) hH ?_
      refine oneA 8 fun K hK=>?_
      refine Xmp 77 rfl (.tmp 73) (.tmp 76) 52 52 rfl 3 underlying52 1 Xds g ((i+1)) (n+1-(i+1)) (cap-(i+1)) ⟨g,i,none⟩ (n+1-i) (cap-i) (n-i) rfl rfl _ 3 HB.out.drew HMN2.out (xs.drop (i)) (by have:=HDS.out;omega) SRC2.out HF2.out (fun u hu=>H1.out u (Ys hu)) ?_
      intro w3 hb3 hO3
      refine hK.out _ _ trivial ?_
      clear hK K hH
      (try simp only [Act.put,qSa,qSz,qSs])
      refine wpAnyH_done (by kernel_rfl) ?_ _;have HB3:=Th hb3;have HO3:Hid (Only [g] w w3):=((Only.refl [g] w).drew).trans hO3 (fun x hx=>.inl hx);have HV3:Hid (Blk w3 vb cs 3):=hO3.blk HV.out.drew (by simp;exact HGV.out)
      have SRC3:Hid (∀ j u,cs[j]?=some u→w3.cell? ((⟨vb,0,none⟩:Addr).add j)=some u):=fun j u hu=>by rw [Xah,Yd,HV3.out.cell];exact hu
      have HN1S:Hid (cs.length=1):=HCS.out
      have HMN1:Hid (1=Nat.min 1 (n+1-i)):=by show 1=min 1 _;omega
      have HF3:Hid (i+cs.length≤(splice cur ((i+1)) (xs.drop (i))).length):=by
        show _≤_;have:=HFIT.out;have:=HOFF.out
        rw [splice_len HF2.out];omega
      clear hb3 hO3 OV
      go_wp2_with (refine Xcy rfl (.tmp 80) (.tmp 81) 52 52 rfl 3 underlying52 1 Xds g (i) (n+1-i) (cap-i) ⟨vb,0,none⟩ 1 1 1 rfl rfl _ 3 HB3.out HMN1.out cs (by have:=HN1S.out;omega) SRC3.out HF3.out H2.out ?_)
      intro w4 hb4 hO4;have HB4:=Th hb4;have HO4:=Th hO4;clear hb4 hO4
      go_wp2_with fail
      go_ret
      have hsum:i+cs.length+(xs.drop (i)).length=(n+1):=by have:=HOFF.out;have:=HDS.out;omega
      have hcut:=Xgb (cur:=cur) (ds:=xs.drop (i)) (cs:=cs) (a:=i) (by rw [hsum];exact HFIT.out);rw [hsum,HOFF.out] at hcut
      have hct2:cur.take (i)=xs.take (i):=by
        rw [←HCT.out,Wb,Yt (mulle (by omega))]
      rw [hct2] at hcut;refine ⟨_,rfl,blk_owns HB4.out ?_ hr2 hmax hcut (by rw [←hcut,Zj,splice_len HF3.out,splice_len HF2.out];have:=HFIT.out;omega),(HO3.out.trans HO4.out (fun x hx=>.inl hx)).mono (by simp [Value.ownBlock]),fun k hk=>.inl hk,_,_,rfl⟩
      rw [splice_len HF3.out,splice_len HF2.out,HCL.out]
end IJ
end Go.Proofs.YtiijokopcgnokaaGreat
