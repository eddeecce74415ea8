import Derived.Test.YtiijokopcgnokaaGreatWSortRows
import Derived.Test.YtiijokopcgnokaaGreatWShelf
import Derived.Test.YtiijokopcgnokaaGreatWPageS
set_option maxRecDepth 100000
set_option maxHeartbeats 2000000
set_option linter.unusedSimpArgs false
set_option linter.unusedVariables false
namespace Go.Proofs.YtiijokopcgnokaaGreat
namespace G
open Go Go.RowKit Go.Sort B C Tryz
abbrev C2 := Fin 65536 × Fin 65536
def encK (x:C2):List Value:=[.int .i64 (x.1.val:Int),.int .i64 (x.2.val:Int)]
def toN (x:C2):Nat × Nat:=(x.1.val,x.2.val)
def ofN (c:Nat × Nat):C2:=(Fin.ofNat 65536 c.1,Fin.ofNat 65536 c.2)
theorem toN_ofN {c:Nat × Nat} (h:c.1<65536∧c.2<65536):toN (ofN c)=c:=by
 obtain ⟨a,b⟩:=c;simp only [toN,ofN,Fin.ofNat,Nat.mod_eq_of_lt h.1,Nat.mod_eq_of_lt h.2]
theorem flat_row (d:Array C2):(flatK encK 2 d).toList=rowC (d.toList.map toN):=by
 apply List.ext_getElem?
 intro i;rw [Xnk,Zr,Array.getElem?_toList,Array.getElem?_toList]
 by_cases hi:i<d.size*2
 ·have h2:i / 2<d.size:=by omega
  rw [Array.getElem?_eq_getElem (by simpa using hi),Array.getElem?_eq_getElem h2];have hg:=get_flatK encK 2 d i hi;rw [getElem!_pos _ i (by simpa using hi),getElem!_pos _ (i / 2) h2] at hg;rw [hg]
  have hm:i % 2=0∨i % 2=1:=by omega
  rcases hm with hm | hm <;> rw [hm] <;> rfl
 ·rw [Array.getElem?_eq_none (by simpa using hi),Array.getElem?_eq_none (by omega)];rfl
theorem Xhj (x y:C2) (w:World):Calls prog 129 #[.agg (encK x).toArray,.agg (encK y).toArray] w fun e w'=>e=.returned (.int .i64 ((x.1.val:Int)-y.1.val))∧∃ q os',w'=Sort.grow (w.drewN q) os':=by
 have hx:=x.1.isLt;have hy:=y.1.isLt;have hx2:=x.2.isLt;have hy2:=y.2.isLt;unfold encK;generalize x.1.val=a at *;generalize x.2.val=b at *;generalize y.1.val=c at *;generalize y.2.val=d at *
 go_enter func129,ntmps129
 go_wp2_with fail
 go_ret;exact ⟨rfl,0,_,by rw [alloc_eq_grow,alloc_eq_grow,grow_grow];rfl⟩
theorem lt_of (x y:C2):ltOf (fun x y:C2=>(x.1.val:Int)-y.1.val) x y=decide (x.1.val<y.1.val):=by
 show decide ((x.1.val:Int)-y.1.val<0)=_
 by_cases h:x.1.val<y.1.val
 ·rw [decide_eq_true h,decide_eq_true (by omega)]
 ·rw [decide_eq_false h,decide_eq_false (by omega)]
theorem swo : SWO (ltOf fun x y:C2=>(x.1.val:Int)-y.1.val) where
 irrefl x:=by rw [lt_of];simp
 trans x y z h1 h2:=by rw [lt_of] at *;simp at *;omega
 ntrans x y z h1 h2:=by rw [lt_of] at *;simp at *;omega
theorem sort_some {w:World} {gb n c:Nat} {l:List (Nat × Nat)} (h:w.ownsRow 0 160 2 (.slice (some ⟨gb,0,none⟩) n c) n (rowC l)) (hl:l.length=n) (hb:∀ x∈l,x.1<65536∧x.2<65536) (hn:n≤65536) :
  Calls prog 128 #[.slice (some ⟨gb,0,none⟩) n c,.func (.func 129) #[] #[]] w fun e w'=>e=.returned (.tuple #[])∧∃ l',l'.Perm l∧l'.Pairwise (fun a b=>a.1≤b.1)∧w'.ownsRow 0 160 2 (.slice (some ⟨gb,0,none⟩) n c) n (rowC l')∧Only [gb] w w':=by
 obtain ⟨d,hd⟩:∃ d:Array C2,d.toList.map toN=l:=⟨(l.map ofN).toArray,by
  show (l.map ofN).map toN=l;rw [Yw]
  conv=>rhs;rw [←List.map_id l]
  exact Xc fun x hx=>toN_ofN (hb x hx)⟩
 have hsz:d.size=n:=by rw [←hl,←hd];simp
 subst hd;rw [←flat_row] at h;have eg:∀ args w,(callFunc 129 args).run prog w=.ok (.enter 129 args) w:=enters_of func129 (by kernel_rfl) rfl;have hcon:=Tryz.slices_SortFunc (α:=C2) 2 Tryz.isAgg160 Tryz.sizeOf160 encK (fun _=>rfl) (fun x v hv=>by simp [encK] at hv;rcases hv with rfl | rfl <;> rfl) (fun x y=>(x.1.val:Int)-y.1.val) swo 129 #[] gb 0 c d w eg (fun _ _ _ _ x y=>Xhj x y _) (owns_holds h hsz) (by rw [←hsz] at h;exact Xbk h (by simp [Value.ownBlock])) (by omega)
 rw [hsz] at hcon
 refine hcon.mono ?_
 rintro e w' ⟨rfl,d',m,os,hp,hs,rfl⟩
 have hd':d'.size=n:=by rw [hp.1,hsz]
 have hrow:=Xnr (enc:=encK) h m d' hd' os;rw [flat_row] at hrow;refine ⟨rfl,d'.toList.map toN,?_,?_,hrow.1,hrow.2⟩
 ·have:=hp.2.2
  rw [Array.toList_extract,Array.toList_extract] at this
  have e1:d'.toList.extract 0 n=d'.toList:=by rw [List.extract_eq_take_drop,Xp,Nat.sub_zero];exact Ya (by simp [hd'])
  have e2:d.toList.extract 0 n=d.toList:=by rw [List.extract_eq_take_drop,Xp,Nat.sub_zero];exact Ya (by simp [hsz])
  rw [e1,e2] at this;exact this.map toN
 ·rw [Xf,Yy]
  intro i j hi hj hij;have:=hs i j (Yc _) hij (by rw [←hd'];simpa using hj)
  rw [lt_of] at this;simp only [Array.length_toList] at hi hj;rw [getElem!_pos _ i hi,getElem!_pos _ j hj] at this;simp only [decide_eq_false_iff_not,Nat.not_lt] at this
  simpa [toN] using this
end G
namespace G
open Go Go.RowKit B C Tryz
theorem sort_any {w:World} {v:Value} {n:Nat} {l:List (Nat × Nat)} (h:w.ownsRow 0 160 2 v n (rowC l)) (hl:l.length=n) (hb:∀ x∈l,x.1<65536∧x.2<65536) (hn:n≤65536) :
  Calls prog 128 #[v,.func (.func 129) #[] #[]] w fun e w'=>e=.returned (.tuple #[])∧∃ l',l'.Perm l∧l'.Pairwise (fun a b=>a.1≤b.1)∧w'.ownsRow 0 160 2 v n (rowC l')∧Only v.ownBlock.toList w w':=by
 by_cases h0:0<n
 ·obtain ⟨g,c,rfl,hc⟩:=Xcw h h0
  exact (sort_some h hl hb hn).mono fun e w' ⟨he,l',h1,h2,h3,h4⟩=>⟨he,l',h1,h2,h3,h4⟩
 ·obtain rfl:n=0:=by omega
  obtain rfl:l=[]:=Xd hl;obtain ⟨ao,cap,rfl⟩:=Xac h
  refine (Tryz.slices_SortFunc_none (α:=C2) ao cap (.func (.func 129) #[] #[]) w).mono ?_
  rintro e w' ⟨he,rfl⟩;exact ⟨he,[],List.Perm.refl _,List.Pairwise.nil,h,Only.refl _ _⟩
theorem laid_any {w:World} {v:Value} {n b:Nat} {cs:List (Nat × Nat)} (h:w.ownsRow 0 160 2 v n (rowC cs)) (hl:cs.length=n) (hb:∀ x∈cs,x.1<65536∧x.2<65536) (hn:n≤125) (hbg:b≤512) :
  Calls prog 108 #[v,.int .i64 b] w fun e w'=>e=.returned (.bool (laidB cs b))∧Only [] w w':=by
 have HROW:=Th h;have HCB:=Th hb;have HCL:=Th hl;have HN:=Th hn;have HBG:=Th hbg;obtain ⟨ao,cap,rfl⟩:=Xac h
 have SOME:Hid (0<n→∃ g,ao=some ⟨g,0,none⟩∧n≤cap):=fun h0=>by
  obtain ⟨g,c,he,hc⟩:=Xcw h h0;simp only [Value.slice.injEq,true_and] at he;obtain ⟨rfl,rfl⟩:=he;exact ⟨g,rfl,hc⟩
 clear h hb hl
 go_enter func108,ntmps108
 go_wp2_with fail
 go_loopg [5,13] n (fun gk s5 s13 wx=>∃ j:Nat,gk=n-j∧j≤n∧s13=.int .i64 j∧(∀ c∈cs.take j,goodC c)∧wx.ownsRow 0 160 2 s5 ((cs.take j).filter used).length (rowC ((cs.take j).filter used))∧(∀ k,s5.ownBlock=some k→w.heap.size≤k)∧Only [] w wx)
 case atStart=>exact ⟨0,rfl,Yc _,rfl,fun c hc=>by simp at hc,⟨rfl,.inl ⟨rfl,rfl⟩⟩,fun k hk=>by simp [Value.ownBlock] at hk,Only.refl _ _⟩
 case round =>
  obtain ⟨j,hgk,hj,rfl,hgood,hrow,hnew,hO⟩:=hrel;have HGK:=Th hgk;have ROW:=Th hrow;have NEW:=Th hnew;have OO:=Th hO;have GOOD:=Th hgood;obtain ⟨a5,c5,rfl⟩:=Xac hrow;clear hgk hgood hnew hO
  by_cases hlt:j<n
  ·have hj0:(0:Int)≤j:=by omega
   have hj1:(j:Int)<n:=by omega
   obtain ⟨g,rfl,hcap⟩:=SOME.out (by omega)
   have hjl:j<cs.length:=by rw [HCL.out];exact hlt
   obtain ⟨⟨a,b2⟩,hcj⟩:∃ c,cs[j]?=some c:=⟨cs[j],Zc hjl⟩;have RNG:Hid (wr.rangeAt g (j*2) [.int .i64 a,.int .i64 b2]):=Xkk (Xeh HROW.out hlt hcj) OO.out
   have TK:Hid (cs.take (j+1)=cs.take j++[(a,b2)]):=by
    show _=_
    rw [Xg,hcj];rfl
   have MEM:Hid ((a,b2)∈cs):=Zm hcj;have UC:=underlying160
   have IC:(prog.info? 160).map (·.size)=some 2:=by kernel_rfl
   have hin:b2<65536:=(HCB.out _ MEM.out).2;clear hcj hjl hrow;have OA:=Th (OO.out.alloc (.cells #[.int .i64 a,.int .i64 b2] 160))
   by_cases ha:a=0
   ·subst ha
    by_cases hb:b2=0
    ·subst hb
     go_wp2_with (refine wpList_load_mid rfl 160 (.tmp 15) rfl g (j*2) rfl [.int .i64 0,.int .i64 0] _ RNG.out UC rfl IC ?_)
     go_roundg (n-(j+1))
     case measure=>have:=HGK.out;omega
     case rel =>
      refine ⟨j+1,rfl,by omega,by go_num,fun c hc=>?_,?_,NEW.out,OA.out⟩
      ·rw [TK.out,Za] at hc
       rcases hc with hc | hc
       ·exact GOOD.out c hc
       ·simp only [Zg,Xt,or_false] at hc
        subst hc;exact ⟨fun _=>rfl,fun h=>absurd rfl h,by omega⟩
      ·have e:(cs.take (j+1)).filter used=(cs.take j).filter used:=by rw [TK.out,List.filter_append];simp [used]
       rw [e];exact Xad ROW.out ((Only.refl _ _).alloc _)
    ·have hb0:¬(b2:Int)=0:=by omega
     have BAD:Hid (laidB cs b=false):=Xmv MEM.out (fun h=>hb (h.1 rfl))
     go_wp2_with (refine wpList_load_mid rfl 160 (.tmp 15) rfl g (j*2) rfl [.int .i64 0,.int .i64 b2] _ RNG.out UC rfl IC ?_)
     go_ret;exact ⟨by rw [BAD.out];rfl,OA.out⟩
   ·have ha0:¬(a:Int)=0:=by omega
    by_cases hb:b2=0
    ·subst hb
     have BAD:Hid (laidB cs b=false):=Xmv MEM.out (fun h=>by have:=h.2.1 ha;omega)
     go_wp2_with (refine wpList_load_mid rfl 160 (.tmp 15) rfl g (j*2) rfl [.int .i64 a,.int .i64 0] _ RNG.out UC rfl IC ?_)
     go_ret;exact ⟨by rw [BAD.out];rfl,OA.out⟩
    ·have hb0:¬(b2:Int)=0:=by omega
     by_cases h4:b2≤400
     ·have h40:¬(b2:Int) > 400:=by omega
      have h41:(b2:Int)≤400:=by omega
      have FE:Hid ((cs.take (j+1)).filter used=(cs.take j).filter used++[(a,b2)]):=by
       show _=_;rw [TK.out,List.filter_append]
       simp [used,ha]
      have ROWE:Hid (rowC ((cs.take j).filter used)++[.int .i64 a,.int .i64 b2]=rowC ((cs.take (j+1)).filter used)):=by
       show _=_
       rw [FE.out,Xkm];rfl
      have hml:((cs.take j).filter used).length≤n:=by
       refine Zp (Ve _ _) ?_
       rw [Zj];omega
      generalize hm:((cs.take j).filter used).length=m at *;have HM:=Th hm;have hbB:((b2:Int) == 0)=false:=beq_eq_false_iff_ne.2 hb0;clear hm
      go_wp2_with (first | (refine wpList_load_mid rfl 160 (.tmp 15) rfl g (j*2) rfl [.int .i64 a,.int .i64 b2] _ RNG.out UC rfl IC ?_) | (refine Xap rfl (.tmp 45) (.tmp 47) 156 rfl 160 underlying156 (info_parts Xor) rfl (by omega) (.slice a5 m c5) m (rowC ((cs.take j).filter used)) rfl (by exact Xad ROW.out (((Only.refl _ _).alloc _).alloc _)) (some ⟨wr.heap.size+1,0,none⟩) 1 1 rfl [.int .i64 a,.int .i64 b2] rfl (fun _=>⟨_,rfl,fun j u hj=>(Blk.new' #[.int .i64 a,.int .i64 b2] 160 (wr.alloc (.cells #[.int .i64 a,.int .i64 b2] 160)) (by simp)).add_cell j u hj⟩) (by intro u hu;simp at hu;rcases hu with rfl | rfl <;> rfl) (by omega) (by decide) ?_;intro v8 w8 hg8;have G8:=Th ((hg8.pre (((Only.refl [] wr).alloc _).alloc _)).to rfl ROWE.out);clear hg8))
      go_roundg (n-(j+1))
      case measure=>have:=HGK.out;omega
      case rel =>
       refine ⟨j+1,rfl,by omega,by go_num,fun c hc=>?_,?_,fun k hk=>?_,OO.out.trans G8.out.only (fun x hx=>.inr (NEW.out x (by simpa using hx)))⟩
       ·rw [TK.out,Za] at hc
        rcases hc with hc | hc
        ·exact GOOD.out c hc
        ·simp only [Zg,Xt,or_false] at hc
         subst hc;exact ⟨fun h=>absurd h ha,fun _=>by show 1≤b2;omega,h4⟩
       ·have:=G8.out.own;rw [FE.out] at this ⊢;rw [Ze,HM.out];exact this
       ·rcases G8.out.lies k hk with h1 | h1
        ·exact NEW.out k h1
        ·exact Zp OO.out.size h1
     ·have h40:(b2:Int) > 400:=by omega
      have BAD:Hid (laidB cs b=false):=Xmv MEM.out (fun h=>by have:=h.2.2;omega)
      go_wp2_with (refine wpList_load_mid rfl 160 (.tmp 15) rfl g (j*2) rfl [.int .i64 a,.int .i64 b2] _ RNG.out UC rfl IC ?_)
      go_ret;exact ⟨by rw [BAD.out];rfl,OA.out⟩
  ·obtain rfl:j=n:=by omega
   have ET:cs.take j=cs:=Ya (Nat.le_of_eq HCL.out);generalize hm:((cs.take j).filter used).length=m at *;rw [ET] at hrow ROW GOOD hm;have hml:(cs.filter used).length≤125:=Zp (Ve _ _) (by rw [HCL.out];exact hn)
   have hmem:∀ x∈cs.filter used,x.1<65536∧x.2<65536:=fun x hx=>HCB.out x (Yp.1 hx).1
   have SRT:=Th (sort_any ROW.out hm hmem (by omega))
   have GF:Hid (∀ x∈cs.filter used,x.2≤400):=fun x hx=>(GOOD.out x (Yp.1 hx).1).2.2
   have LSD:=Th (fun (l':List (Nat × Nat)) (h1:l'.Perm (cs.filter used)) (h2:l'.Pairwise fun a b=>a.1≤b.1)=>laid_sorted (b:=b) GOOD.out h1 h2);have HM:=Th hm;rw [hm] at hml;clear hrow hmem ROW ET GOOD HGK hm
   go_wp2_with (go_at_call 128;refine SRT.out.mono ?_;rintro e w2 ⟨rfl,l',hp',hs',hrow',hO2⟩;have ROW2:=Th hrow';have O2:=Th (OO.out.trans hO2 (fun x hx=>.inr (NEW.out x (by simpa using hx))));have LS:=Th (LSD.out l' hp' hs');have GF2:Hid (∀ x∈l',x.2≤400):=(fun x hx=>GF.out x (hp'.mem_iff.1 hx));have ML:Hid (l'.length=m):=(hp'.length_eq.trans HM.out);clear hp' hs' hrow' hO2)
   go_loopg [8,55] m (fun gk s8 s55 wx=>∃ (k at_:Nat),gk=m-k∧k≤m∧s55=.int .i64 k∧s8=.int .i64 at_∧at_≤512+400*k∧(laidB cs b=true↔chain at_ (l'.drop k))∧Only [] w2 wx)
   case atStart=>exact ⟨0,b,rfl,Yc _,rfl,rfl,by omega,LS.out,Only.refl _ _⟩
   case round =>
    obtain ⟨k,at_,hgk,hk,rfl,rfl,hat,hch,hO3⟩:=hrel;have HGK:=Th hgk;have CH:=Th hch;have O3:=Th hO3;clear hgk hch hO3
    by_cases hlt:k<m
    ·have hk0:(0:Int)≤k:=by omega
     have hk1:(k:Int)<m:=by omega
     have hjl:k<l'.length:=by rw [ML.out];exact hlt
     obtain ⟨⟨a,b2⟩,hcj⟩:∃ c,l'[k]?=some c:=⟨l'[k],Zc hjl⟩
     obtain ⟨g5,rfl⟩:∃ g5,a5=some ⟨g5,0,none⟩:=by
      obtain ⟨g5,_,he,_⟩:=Xcw ROW2.out (by omega);simp only [Value.slice.injEq,true_and] at he;exact ⟨g5,he.1⟩
     have RNG:Hid (wr.rangeAt g5 (k*2) [.int .i64 a,.int .i64 b2]):=Xkk (Xeh ROW2.out hlt hcj) O3.out
     have DR:Hid (l'.drop k=(a,b2) :: l'.drop (k+1)):=by
      show _=_;rw [Vf hjl];rw [Zc hjl] at hcj;rw [Option.some.inj hcj]
     have UC:=underlying160
     have IC:(prog.info? 160).map (·.size)=some 2:=by kernel_rfl
     have hb2:b2≤400:=GF2.out _ (Zm hcj);clear hcj hjl
     by_cases hne:a=at_
     ·subst hne
      obtain ⟨q,hq⟩:∃ q,a+b2=q:=⟨_,rfl⟩
      have ew:(a:Int)+b2=q:=by omega
      have CH2:Hid (laidB cs b=true↔chain q (l'.drop (k+1))):=by
       show _↔_;rw [CH.out,DR.out,←hq];exact ⟨fun h=>h.2,fun h=>⟨rfl,h⟩⟩
      have hq2:q≤512+400*(k+1):=by omega
      clear hq
      go_wp2_with (refine wpList_load_mid rfl 160 (.tmp 57) rfl g5 (k*2) rfl [.int .i64 a,.int .i64 b2] _ RNG.out UC rfl IC ?_)
      go_roundg (m-(k+1))
      case measure=>have:=HGK.out;omega
      case rel=>exact ⟨k+1,q,rfl,by omega,by go_num,rfl,hq2,CH2.out,O3.out.alloc _⟩
     ·have hneI:¬(a:Int)=at_:=by omega
      have BAD:Hid (laidB cs b=false):=by
       show _=_;rw [Bool.eq_false_iff];intro h;have h2:=CH.out.1 h;rw [DR.out] at h2;exact hne h2.1
      go_wp2_with (refine wpList_load_mid rfl 160 (.tmp 57) rfl g5 (k*2) rfl [.int .i64 a,.int .i64 b2] _ RNG.out UC rfl IC ?_)
      go_ret;exact ⟨by rw [BAD.out];rfl,(O2.out.trans O3.out (by simp)).alloc _⟩
    ·obtain rfl:k=m:=by omega
     have EN:Hid (laidB cs b=decide (at_=512)):=by
      show _=_;have:=CH.out;rw [Xq (Nat.le_of_eq ML.out)] at this
      rw [Bool.eq_iff_iff,this,decide_eq_true_iff];rfl
     by_cases h5:at_=512
     ·subst h5
      go_wp2_with fail
      go_ret;exact ⟨by rw [EN.out];rfl,O2.out.trans O3.out (by simp)⟩
     ·have h5I:¬(at_:Int)=512:=by omega
      have h5B:((at_:Int) == 512)=false:=beq_eq_false_iff_ne.2 h5I
      go_wp2_with fail
      go_ret;exact ⟨by rw [EN.out,decide_eq_false h5];first | rfl | simp [h5B],O2.out.trans O3.out (by simp)⟩
end G
namespace G
open Go Go.RowKit B C Tryz
theorem isfree_any (a b:Nat) (w:World):Calls prog 84 #[.agg #[.int .i64 a,.int .i64 b]] w fun e w'=>e=.returned (.bool (a == 0))∧Only [] w w':=by
 have e:((a:Int) == 0)=(a == 0):=by rw [Bool.eq_iff_iff,beq_iff_eq,beq_iff_eq];omega
 generalize (a == 0)=z at *
 go_enter func84,ntmps84
 go_wp2_with fail
 go_ret;exact ⟨rfl,(Only.refl _ _).alloc _⟩
def idxF (cs:List (Nat × Nat)):Int:=if cs.findIdx (fun c=>c.1 == 0)<cs.length then (cs.findIdx (fun c=>c.1 == 0):Int) else -1
theorem Xjz {w:World} {v:Value} {n:Nat} {cs:List (Nat × Nat)} (h:w.ownsRow 0 160 2 v n (rowC cs)) (hl:cs.length=n) (hn:n≤125) :
  Calls prog 83 #[v,.func (.func 84) #[] #[]] w fun e w'=>e=.returned (.int .i64 (idxF cs))∧Only [] w w':=by
 have HROW:=Th h;have HCL:=Th hl;obtain ⟨ao,cap,rfl⟩:=Xac h
 have SOME:Hid (0<n→∃ g,ao=some ⟨g,0,none⟩∧n≤cap):=fun h0=>by
  obtain ⟨g,c,he,hc⟩:=Xcw h h0;simp only [Value.slice.injEq,true_and] at he;obtain ⟨rfl,rfl⟩:=he;exact ⟨g,rfl,hc⟩
 have IC:(prog.info? 160).map (·.size)=some 2:=by kernel_rfl
 clear h hl
 go_enter func83,ntmps83
 go_wp2_with fail
 go_loopg [5,8] n (fun gk s5 s8 wx=>∃ j:Nat,gk=n-j∧j≤n∧s8=.int .i64 j∧(∀ i,(hi:i<cs.length)→i<j→cs[i].1≠0)∧Only [] w wx)
 case atStart=>exact ⟨0,rfl,Yc _,rfl,fun i _ hi=>by omega,Only.refl _ _⟩
 case round =>
  obtain ⟨j,hgk,hj,rfl,hno,hO⟩:=hrel;have HGK:=Th hgk;have NO:=Th hno;have OO:=Th hO;clear hgk hno hO
  by_cases hlt:j<n
  ·have hj0:(0:Int)≤j:=by omega
   have hj1:(j:Int)<n:=by omega
   obtain ⟨g,rfl,hcap⟩:=SOME.out (by omega)
   have hjl:j<cs.length:=by rw [HCL.out];exact hlt
   obtain ⟨⟨a,b2⟩,hcj⟩:∃ c,cs[j]?=some c:=⟨cs[j],Zc hjl⟩;have RNG:Hid (wr.rangeAt g (j*2) [.int .i64 a,.int .i64 b2]):=Xkk (Xeh HROW.out hlt hcj) OO.out
   have GJ:Hid (cs[j]=(a,b2)):=by
    show _=_;rw [Zc hjl] at hcj;exact Option.some.inj hcj
   have HJL:=Th hjl;have UC:=underlying160;have FR:=Th (isfree_any a b2);clear hcj
   by_cases h0:a=0
   ·have FX:Hid (idxF cs=j):=by
     show _=_
     have:=(List.findIdx_eq (p:=fun c:Nat × Nat=>c.1 == 0) HJL.out).2 ⟨by rw [GJ.out];simp [h0],fun i hi=>by
      have:=NO.out i (by have:=HJL.out;omega) hi
      simpa using this⟩
     unfold idxF;rw [this,if_pos HJL.out]
    subst h0
    go_wp2_with (first | (refine wpList_load_mid rfl 160 (.tmp 14) rfl g (j*2) rfl [.int .i64 0,.int .i64 b2] _ RNG.out UC rfl IC ?_) | (go_at_call 84;refine (FR.out _).mono ?_;rintro e w2 ⟨rfl,hO2⟩;have O2:=Th (OO.out.trans hO2 (by simp));clear hO2))
    go_ret;exact ⟨by rw [FX.out];rfl,O2.out⟩
   ·have h0B:(a == 0)=false:=beq_eq_false_iff_ne.2 h0
    rw [h0B] at FR
    go_wp2_with (first | (refine wpList_load_mid rfl 160 (.tmp 14) rfl g (j*2) rfl [.int .i64 a,.int .i64 b2] _ RNG.out UC rfl IC ?_) | (go_at_call 84;refine (FR.out _).mono ?_;rintro e w2 ⟨rfl,hO2⟩;have O2:=Th (OO.out.trans hO2 (by simp));clear hO2))
    go_roundg (n-(j+1))
    case measure=>have:=HGK.out;omega
    case rel =>
     refine ⟨j+1,rfl,by omega,by go_num,fun i hi hij=>?_,O2.out⟩
     by_cases hi2:i=j
     ·subst hi2
      rw [GJ.out];exact h0
     ·exact NO.out i hi (by omega)
  ·obtain rfl:j=n:=by omega
   have FX:Hid (idxF cs = -1):=by
    show _=_;unfold idxF;rw [if_neg];intro hlt2;have h1:=Vg (p:=fun c:Nat × Nat=>c.1 == 0) (w:=hlt2);exact NO.out _ hlt2 (by rw [←HCL.out];exact hlt2) (by simpa using h1)
   go_wp2_with fail
   go_ret;exact ⟨by rw [FX.out];rfl,OO.out⟩
end G
end Go.Proofs.YtiijokopcgnokaaGreat
