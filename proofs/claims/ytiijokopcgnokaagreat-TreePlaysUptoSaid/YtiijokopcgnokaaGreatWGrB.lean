import Derived.Test.YtiijokopcgnokaaGreatWToC
import Derived.Test.YtiijokopcgnokaaGreatWShelfI
set_option linter.unusedSimpArgs false
set_option linter.unusedVariables false
namespace Go.Proofs.YtiijokopcgnokaaGreat.T
open Go Go.RowKit D B C G P H
theorem Xpj (w:World) (gb off:Nat) (F:Array Int):Only [gb] w (Sort.putRow (Value.int .i64) w gb off F):=by
 refine ⟨rfl,rfl,rfl,by simp,fun i hi hn=>?_⟩;show ((w.heap.modify gb (Sort.onCells (Sort.putCells (Value.int .i64) off F)))[i]?)=_;rw [Array.getElem?_modify,if_neg (by simp at hn;exact fun e=>hn e.symm)]
theorem grow_onlyI (w:World) (os:Array Obj):Only [] w (Sort.grow w os):=by
 refine ⟨rfl,rfl,rfl,by show w.heap.size≤(w.heap++os).size;simp,fun i hi hn=>?_⟩;show ((w.heap++os)[i]?)=_;rw [Array.getElem?_append_left hi]
theorem sortI_any {w:World} {g n cap:Nat} {zs:List Int} (h:w.ownsRow 0 3 1 (.slice (some ⟨g,0,none⟩) n cap) n (intsC zs)) (hn:zs.length=n) (hl:n≤1000000) :
  Calls Tryz.prog 73 #[.slice (some ⟨g,0,none⟩) n cap] w fun e w'=>e=.returned (.tuple #[])∧(∀ (i:Nat) (z:Int),(zs.mergeSort fun x y=>decide (x≤y))[i]?=some z→w'.cell? ⟨g,i,none⟩=some (.int .i64 z))∧Only [g] w w':=by
 subst hn;obtain ⟨cur,hb,hcl,ht,hle⟩:=Xdi h
 have hH:Sort.Holds (Value.int .i64) w g 0 zs.toArray:=fun j hj=>by
  have hj':j<zs.length:=by simpa using hj
  rw [Yd];refine ⟨?_,hb.frozen j⟩;rw [hb.cell j]
  have h1:(cur.take (zs.length*1))[j]?=cur[j]?:=by rw [Yq,if_pos (by omega)]
  rw [←h1,ht];unfold intsC;rw [Zr,Zc hj',getElem!_pos _ j hj];simp
 refine (Tryz.slices_Sort_int g 0 cap zs w hH hb.lt (by omega)).mono ?_
 rintro e w' ⟨rfl,m,os,rfl⟩;have hw:Only [] w (Sort.ahead w m):=⟨rfl,rfl,rfl,Zq _,fun _ _ _=>rfl⟩;have hH1:Sort.Holds (Value.int .i64) (Sort.ahead w m) g 0 zs.toArray:=hH
 have hsz:(zs.mergeSort fun x y=>decide (x≤y)).toArray.size=zs.toArray.size:=by simp
 have hH2:=Sort.holds_grow (Value.int .i64) _ os g 0 _ (by simp;exact hb.lt) (Sort.holds_putRow (Value.int .i64) (Sort.ahead w m) g 0 _ (zs.mergeSort fun x y=>decide (x≤y)).toArray hH1 hsz);refine ⟨rfl,fun i z hz=>?_,((hw.mono (M':=[g]) (by simp)).trans (Xpj _ _ _ _) (fun x hx=>.inl hx)).trans (grow_onlyI _ _) (by simp)⟩;have hi:=(Zh.1 hz).1;have h3:=(hH2 i (by simpa using hi)).1;rw [Yd] at h3;rw [h3,getElem!_pos _ i (by simpa using hi)];have h4:=(Zh.1 hz).2
 simp [h4]
structure NumRow (w:World) (v:Value) (S:List Nat):Prop where
 form:∃ g cap,v=.slice (some ⟨g,0,none⟩) S.length cap∧S.length≤cap∧∀ (i s:Nat),S[i]?=some s→w.cell? ⟨g,i,none⟩=some (.int .i64 s)
 ris:S.Pairwise (· < ·)
theorem nats_back {l:List Int} (h:∀ x∈l,0≤x):natsI (l.map Int.toNat)=l:=by
 unfold natsI;rw [Yw]
 conv=>rhs;rw [←List.map_id l]
 exact Xc (fun x hx=>by
  have:=h x hx;simp only [Function.comp,id]
  omega)
theorem nats_forth (S:List Nat):(natsI S).map Int.toNat=S:=by
 unfold natsI;rw [Yw]
 conv=>rhs;rw [←List.map_id S]
 exact Xc (fun x hx=>by simp)
theorem sorted_nats {S:List Nat} (hn:S.Nodup):∃ R:List Nat,((natsI S).mergeSort fun x y=>decide (x≤y))=natsI R∧R.Perm S∧R.Pairwise (· < ·):=by
 have hp:=List.mergeSort_perm (natsI S) (fun x y=>decide (x≤y));have hs:=List.pairwise_mergeSort (le:=fun x y:Int=>decide (x≤y)) (fun a b c h1 h2=>by simp only [decide_eq_true_eq] at *;omega) (fun a b=>by simp only [Bool.or_eq_true,decide_eq_true_eq];omega) (natsI S)
 refine ⟨((natsI S).mergeSort fun x y=>decide (x≤y)).map Int.toNat,?_,?_,?_⟩
 ·refine (nats_back fun x hx=>?_).symm
  obtain ⟨s,_,e⟩:=Zi.1 (hp.mem_iff.1 hx);omega
 ·have:=hp.map Int.toNat
  rwa [nats_forth] at this
 ·have hnd:((natsI S).mergeSort fun x y=>decide (x≤y)).Nodup:=by
   rw [hp.nodup_iff];exact Xf.2 (hn.imp fun h e=>h (by omega))
  rw [Xf]
  refine (List.Pairwise.and hs hnd).imp_of_mem ?_
  intro a b ha hb ⟨h1,h2⟩;simp at h1;obtain ⟨s,_,e⟩:=Zi.1 (hp.mem_iff.1 ha);have:a≠b:=h2;omega
set_option maxRecDepth 100000 in
set_option maxHeartbeats 2000000 in
theorem pagesT_any {w:World} {p k tb root H:Nat} {M:List Nat} {u:List Bool} {pg:Nat→List UInt8} {T:Tr H} (hP:PoolV w p M u pg k) (hT:Xax w tb p root) (htb:tb∉M) (hI:InPages u pg root T) (hk:k+2*(nodes H T).length≤1000000) (hn:(nodes H T).length≤800000) (he:(entsT T).length≤800000) :
  Calls Tryz.prog 46 #[.pointer (some ⟨tb,0,none⟩)] w fun e w'=>∃ v M' S,e=.returned (.tuple #[v,.int .i64 0])∧PoolV w' p M' u pg (k+2*(nodes H T).length)∧NumRow w' v S∧S.length=(nodes H T).length∧(∀ j:Nat,j∈S↔∃ n∈nodes H T,n.id=(j:Nat))∧Step M M' w w':=by
 have AL:=Th (all_any hP hT htb hI hk hn he);obtain ⟨nums,hnum,hnd,_⟩:=hI.nums;have NUM:=Th hnum;have ND:=Th hnd;have NN:=Th hn;clear hP hT htb hI hk hn he hnum hnd
 go_enter Tryz.func46,Tryz.ntmps46
 go_upto_region 2 with (go_at_call 47;refine AL.out.mono ?_;rintro e w1 ⟨lv,pv,M1,Lt,rfl,hA⟩;have A1:=Th hA;clear hA)
 have hpr:=A1.out.prow;rw [NUM.out] at hpr
 have hlen:(nodes H T).length=(root :: nums).length:=by have:=congrArg List.length NUM.out;simpa [natsI] using this
 have HLEN:=Th hlen
 have hform:∃ g c,pv=.slice (some ⟨g,0,none⟩) (root :: nums).length c:=by
  rw [hlen] at hpr
  rcases hpr.2 with ⟨_,h0⟩ | ⟨g,c,_,he,_⟩
  ·simp at h0
  ·exact ⟨g,c,he⟩
 obtain ⟨g,c,rfl⟩:=hform;rw [hlen] at hpr;have ROW:=Th hpr;obtain ⟨n,hnn⟩:∃ n,(root :: nums).length=n:=⟨_,rfl⟩;rw [hnn] at ROW;have NE:=Th hnn;have SRT:=Th (sortI_any ROW.out (by simp [natsI,←hnn]) (by have:=NN.out;rw [HLEN.out,hnn] at this;omega))
 rw [hnn];clear hpr hlen hnn
 go_wp2_with (go_at_call 73;refine SRT.out.mono ?_;rintro e w2 ⟨rfl,hc2,hO2⟩;have C2:=Th hc2;have O2:=Th hO2;clear hc2 hO2)
 go_ret2;obtain ⟨R,hR1,hR2,hR3⟩:=sorted_nats ND.out
 have hRl:R.length=n:=by rw [hR2.length_eq,NE.out]
 have hg:=A1.out.poff g rfl;refine ⟨_,M1,R,rfl,A1.out.pool.later O2.out (fun x hx cs hb=>?_) (fun x hx h1=>?_),⟨⟨g,c,by rw [hRl];rfl,?_,fun i s hs=>?_⟩,hR3⟩,?_,fun j=>?_,?_⟩
 ·simp at hx
  subst hx;obtain ⟨cs2,hb2⟩:=Xag ROW.out (k:=x) rfl;exact absurd (hb.inj hb2).2 (by decide)
 ·simp at h1
  subst h1;exact hg.2 hx
 ·obtain ⟨_,_,_,_,hle⟩:=Xdi ROW.out
  rw [hRl];exact hle
 ·refine C2.out i s ?_
  rw [hR1];unfold natsI
  rw [Zr,hs];rfl
 ·rw [HLEN.out,NE.out,hRl]
 ·rw [hR2.mem_iff]
  constructor
  ·intro hj
   have h1:(j:Int)∈natsI (root :: nums):=Zi.2 ⟨j,hj,rfl⟩;rw [←NUM.out] at h1;obtain ⟨m,hm,e⟩:=Zi.1 h1;exact ⟨m,hm,e⟩
  ·rintro ⟨m,hm,e⟩
   have h1:(j:Int)∈(nodes H T).map (·.id):=Zi.2 ⟨m,hm,e⟩;rw [NUM.out] at h1;obtain ⟨x,hx,e2⟩:=Zi.1 h1
   obtain rfl:x=j:=by omega
   exact hx
 ·exact ⟨A1.out.step.1.trans O2.out (fun y hy=>by simp at hy;subst hy;exact .inr hg.1),A1.out.step.2⟩
end Go.Proofs.YtiijokopcgnokaaGreat.T
