import Derived.Test.YtiijokopcgnokaaGreatWPoolV
import Derived.Deep.LoopGhost
set_option linter.unusedSimpArgs false
set_option linter.unusedVariables false
namespace Go.Proofs.YtiijokopcgnokaaGreat.P
open Go Go.RowKit Go.Proofs.YtiijokopcgnokaaGreat D B
theorem info_intU : (Tryz.prog.info? 3).map (fun i=>(i.zero,i.size,i.bytes))=some (some (.int .i64 0),1,8):=by kernel_rfl
def usedN (u:List Bool):List Nat:=(List.range u.length).filter fun j=>u.getD j false
theorem usedN_mem {u:List Bool} {j:Nat}:j∈usedN u↔u.getD j false=true:=by
 unfold usedN;rw [Yp,Ww];exact ⟨fun h=>h.2,fun h=>⟨Xgc h,h⟩⟩
theorem usedN_take {u:List Bool} {k:Nat} (h:k<u.length):usedN (u.take (k+1))=usedN (u.take k)++if u.getD k false=true then [k] else []:=by
 unfold usedN;rw [Zj,Zj,Yt (by omega),Yt (by omega),List.range_succ,List.filter_append]
 have hg:∀ j m,j<m→(u.take m).getD j false=u.getD j false:=fun j m hj=>by
  rw [Zf,Zf,Yq,if_pos hj]
 congr 1
 ·refine List.filter_congr fun j hj=>?_
  have:=Ww.1 hj;rw [hg j (k+1) (by omega),hg j k (by omega)]
 ·simp only [List.filter_cons,List.filter_nil]
  rw [hg k (k+1) (by omega)]
theorem Xpw (u:List Bool):(usedN u).length≤u.length:=by
 unfold usedN;exact Zp (Ve _ _) (by simp)
def numsC (l:List Nat):List Value:=l.map fun j=>.int .i64 (j:Nat)
set_option maxHeartbeats 2000000 in
theorem Pool.usedRow {w:World} {p d k:Nat} {M:List Nat} {S:PS} (h:Pool w p d M S k):Calls Tryz.prog 21 #[.pointer (some ⟨p,0,none⟩)] w fun e w'=>∃ ao c,e=.returned (.slice ao (usedN S.used).length c)∧w'.ownsRow 0 3 1 (.slice ao (usedN S.used).length c) (usedN S.used).length (numsC (usedN S.used))∧Only [] w w':=by
 obtain ⟨MD,ub,hm,pm,asked,L,hA,_⟩:=h.at_;have c3:=hA.pool.cell 3;simp only [Xaw,Zd,Zb] at c3;have HC:=Th (fun j (hj:j<S.used.length)=>hA.usedCell hj);have hsz:=hA.size;clear h hA;generalize S.used=u at *;generalize hn:u.length=n at *;have HN:=Th hn;clear hn
 go_enter Tryz.func21,Tryz.ntmps21
 go_wp2_with fail
 go_loopg [3,11] n (fun gk v i wr=>∃ (k:Nat) (a:Option Addr) (c:Nat),gk=n-k∧k≤n∧i=.int .i64 k∧Only [] w wr∧v=.slice a (usedN (u.take k)).length c∧wr.ownsRow 0 3 1 (.slice a (usedN (u.take k)).length c) (usedN (u.take k)).length (numsC (usedN (u.take k)))∧(∀ x,(Value.slice a (usedN (u.take k)).length c).ownBlock=some x→w.heap.size≤x))
 case atStart=>exact ⟨0,none,0,rfl,Yc _,rfl,Only.refl _ _,rfl,⟨rfl,.inl ⟨rfl,rfl⟩⟩,fun x hx=>by cases hx⟩
 case round =>
  obtain ⟨k,av,cv,hgk,hk,rfl,hO,rfl,hr,hnw⟩:=hrel;have HGK:=Th hgk;have OO:=Th hO;have RR:=Th hr;have NW:=Th hnw;clear hgk hO hr hnw
  have hck:(usedN (u.take k)).length≤k:=by
   have h1:=Xpw (u.take k);rw [Zj] at h1;omega
  by_cases hlt:k<n
  ·have hct:=usedN_take (u:=u) (k:=k) (by rw [HN.out];exact hlt)
   have cc:=OO.out.cell (HC.out k hlt) (by simp)
   have hki:(k:Int)<n:=by omega
   have hk0:(0:Int)≤k:=by omega
   cases hb:u.getD k false with
   | false =>
    rw [hb] at hct cc;simp only [Bool.false_eq_true,if_false,Xj] at hct;have HCT:=Th hct;clear hct hb
    go_wp2_with fail
    go_roundg (n-(k+1))
    case measure=>have:=HGK.out;omega
    case rel=>exact ⟨k+1,av,cv,rfl,by omega,by go_num,OO.out,by rw [HCT.out],by rw [HCT.out];exact RR.out,by rw [HCT.out];exact NW.out⟩
   | true =>
    rw [hb] at hct cc;simp only [if_true] at hct;have HCT:=Th hct;clear hct hb;generalize hL:usedN (u.take k)=Lk at *;generalize hl:Lk.length=ck at *;have HL:=Th hl;clear hL hl
    go_wp2_with (refine wpList_push rfl (.tmp 17) (.tmp 19) 52 rfl 3 Tryz.underlying52 (info_parts info_intU) rfl (.slice av ck cv) ck (numsC Lk) rfl (Xad RR.out ((Only.refl _ _).alloc _)) _ _ _ rfl (by exact (Blk.new _ _ _).cell 0) rfl (by omega) (by decide) ?_;intro g cp w6 hown hO6 hat hg)
    have O6:Hid (Only [] w w6):=(OO.out.alloc (.cells #[.int .i64 k] 3)).trans hO6 (fun x hx=>.inr (NW.out x (by simpa using hx)))
    have N6:Hid (w.heap.size≤g):=by
     rcases hat with h | h
     ·exact NW.out g h
     ·show _≤_
      have:=OO.out.size
      rw [h,World.size_alloc];omega
    have R6:=Th hown;clear hown hO6 hat hg
    go_wp2_with fail
    go_roundg (n-(k+1))
    case measure=>have:=HGK.out;omega
    case rel =>
     have e1:(usedN (u.take (k+1))).length=ck+1:=by rw [HCT.out,Ze,HL.out];rfl
     refine ⟨k+1,some ⟨g,0,none⟩,cp,rfl,by omega,by go_num,O6.out,by rw [e1],?_,fun x hx=>by simp [Value.ownBlock] at hx;subst hx;exact N6.out⟩;rw [e1,HCT.out];have h2:=R6.out;unfold numsC at h2 ⊢;rw [Zs];exact h2
  ·obtain rfl:k=n:=by omega
   have hki:¬(k:Int)<k:=by omega
   have e:Hid (u.take k=u):=by show _=_;rw [Ya (by rw [HN.out];exact Zq _)]
   go_wp2_with fail
   go_ret;have h2:=RR.out;rw [e.out] at h2;exact ⟨av,cv,by rw [e.out];rfl,h2,OO.out⟩
theorem PoolV.usedRow {w:World} {p k:Nat} {M:List Nat} {u:List Bool} {pg:Nat→List UInt8} (h:PoolV w p M u pg k):Calls Tryz.prog 21 #[.pointer (some ⟨p,0,none⟩)] w fun e w'=>∃ ao c,e=.returned (.slice ao (usedN u).length c)∧w'.ownsRow 0 3 1 (.slice ao (usedN u).length c) (usedN u).length (numsC (usedN u))∧Only [] w w':=by
 obtain ⟨d,S,hP,_,_,rfl,_⟩:=h;exact hP.usedRow
end Go.Proofs.YtiijokopcgnokaaGreat.P
