import Derived.Test.YtiijokopcgnokaaGreatProg
import Derived.Test.YtiijokopcgnokaaGreatWRowOn
import Derived.WalkLawsBesides
import Derived.WalkSpells
import Derived.Deep.LoopGhost
import Derived.Laws.Bits64b
set_option maxRecDepth 100000
set_option linter.unusedSimpArgs false
set_option linter.unusedVariables false
namespace Go.Proofs.YtiijokopcgnokaaGreat.B
open Go.RowKit Tryz
def le (n:Nat):Nat→List UInt8
 | 0=>[]
 | k+1=>le n k++[UInt8.ofNat (n / 2 ^ (8*k) % 256)]
theorem le_cell (n j:Nat):((n:Int) / 2 ^ (8*j) % 256)=((UInt8.ofNat (n / 2 ^ (8*j) % 256)).toNat:Int):=by
 rw [UInt8.toNat_ofNat',show ((2:Int) ^ (8*j))=((2 ^ (8*j):Nat):Int) from (Int.natCast_pow 2 (8*j)).symm];generalize 2 ^ (8*j)=p;have:(n:Int) / (p:Int)=((n / p:Nat):Int):=rfl;rw [this];generalize n / p=q;omega
theorem Xay (n:Nat):∀ k,(le n k).length=k
 | 0=>rfl
 | k+1=>by simp [le,Xay n k]
theorem info_byte : (prog.info? 5).map (fun i=>(i.zero,i.size,i.bytes))=some (some (.int .u8 0),1,1):=by kernel_rfl
theorem _root_.Go.Proofs.YtiijokopcgnokaaGreat.Grew.row {w w':World} {v v':Value} {n:Nat} {l:List UInt8} (h:Grew w w' 5 1 v v' n (u8s l)):Xau 5 w' v' l:=by
 have h1:=h.own
 have e:n=l.length:=by have:=h1.1;rw [Xaf] at this;omega
 rw [e] at h1;exact h1
theorem little_any {w:World} (v:Value) (l:List UInt8) (h:Xau 5 w v l) (n:Nat) (hn:n<18446744073709551616) (k:Nat) (hk:k≤8) (hl:l.length≤1048576) :
  Calls prog 54 #[v,.int .u64 n,.int .i64 k] w fun e w'=>∃ v',e=.returned v'∧Grew w w' 5 1 v v' (l.length+k) (u8s (l++le n k)):=by
 have HH:=Th h
 obtain ⟨ao,cap,rfl,_⟩:∃ ao cap,v=.slice ao l.length cap∧True:=by
  rcases h.2 with ⟨rfl,h0⟩ | ⟨g,cap,cur,rfl,_⟩
  ·exact ⟨none,0,by rw [h0],trivial⟩
  ·exact ⟨_,cap,rfl,trivial⟩
 clear h;generalize hm:l.length=m at *;have HM:=Th hm;clear hm
 go_enter func54,ntmps54
 go_wp2_with fail
 go_loopg [0,9] k (fun gk s0 i wr=>∃ (j:Nat),gk=k-j∧j≤k∧i=.int .i64 j∧Grew w wr 5 1 (.slice ao m cap) s0 (m+j) (u8s (l++le n j)))
 case atStart=>exact ⟨0,by omega,Yc _,rfl,(Grew.refl HH.out).to (by rw [HM.out];rfl) (by simp [le])⟩
 case round =>
  obtain ⟨j,hgk,hj,rfl,hg⟩:=hrel;have HGK:=Th hgk;have HG:=Th hg;obtain ⟨ao',cap',rfl⟩:=hg.shape;clear hgk hg
  by_cases hlt:j<k
  ·have hj0:(0:Int)≤j:=by omega
   have hj1:(j:Int)<k:=by omega
   have EB:=Th (le_cell n j)
   go_wp2_with (refine Xap rfl (.tmp 12) (.tmp 18) 22 rfl 5 underlying22 (info_parts info_byte) rfl (by omega) (.slice ao' (m+j) cap') (m+j) (u8s (l++le n j)) rfl (Xad HG.out.own ((Only.refl _ _).alloc _)) (some ⟨wr.heap.size,0,none⟩) 1 1 rfl [.int .u8 (↑n / 2 ^ (8*j) % 256)] rfl (fun _=>⟨_,rfl,World.news_of_block (cs:=#[.int .u8 (↑n / 2 ^ (8*j) % 256)]) (t:=5) (fr:=(0,0)) (heap_alloc_new wr _)⟩) (by simp [Value.oneCell']) (by omega) (by omega) ?_)
   intro v2 w2 hg2
   have G2:Hid (Grew w w2 5 1 (.slice ao m cap) v2 (m+(j+1)) (u8s (l++le n (j+1)))):=by
    have h2:=(hg2.pre ((Only.refl [] _).alloc _)).to (n':=m+(j+1)) (xs':=u8s (l++le n (j+1))) (by omega) (by rw [EB.out,le,←Zu,Xew (l++le n j)];rfl);exact HG.out.trans h2
   obtain ⟨ao2,cap2,rfl⟩:=G2.out.shape;clear hg2
   go_wp2_with fail
   go_roundg (k-(j+1))
   case measure=>have:=HGK.out;omega
   case rel=>exact ⟨j+1,rfl,by omega,by go_num,G2.out⟩
  ·obtain rfl:j=k:=by omega
   go_wp2_with fail
   go_ret;exact ⟨_,rfl,HG.out.to (by omega) rfl⟩
theorem Xgj {w:World} {v:Value} {l:List UInt8} {m m':Nat} (h:Xau 5 w v l) (hm:l.length=m) (n:Nat) (hn:n<18446744073709551616) (k:Nat) (hk:k≤8) (hl:m≤1048576) (hmk:m+k=m') :
  Calls prog 54 #[v,.int .u64 n,.int .i64 k] w fun e w'=>∃ a c,e=.returned (.slice a m' c)∧Grew w w' 5 1 v (.slice a m' c) m' (u8s (l++le n k))∧(l++le n k).length=m':=by
 subst hm;subst hmk
 refine (little_any v l h n hn k hk hl).mono ?_
 rintro e w' ⟨v',rfl,hg⟩;obtain ⟨a,c,rfl⟩:=hg.shape;exact ⟨a,c,rfl,hg,by rw [Ze,Xay]⟩
def unle : List UInt8→Nat
 | []=>0
 | b :: l=>b.toNat+256*unle l
theorem unle_lt : ∀ l:List UInt8,unle l<256 ^ l.length
 | []=>by simp [unle]
 | b :: l=>by
  have:=unle_lt l;have:=b.toNat_lt;simp only [unle,Zz,Nat.pow_succ];omega
theorem Xhc : ∀ (l k:List UInt8),unle (l++k)=unle l+256 ^ l.length*unle k
 | [],k=>by simp [unle]
 | b :: l,k=>by
  simp only [Xa,unle,Xhc l k,Zz,Nat.pow_succ,Nat.mul_add,Nat.mul_assoc,Va,Nat.mul_left_comm 256]
theorem or_byte (q:Nat) (x:UInt8) (j:Nat) (hq:q<256 ^ j) (hj:j<8):bits .or .u64 (q:Int) (IntKind.u64.wrap ((x.toNat:Int)*2 ^ (8*j)))=((q+256 ^ j*x.toNat:Nat):Int):=by
 have hx:=x.toNat_lt
 have e0:(256:Nat) ^ j=2 ^ (8*j):=by rw [Nat.pow_mul]
 have e1:((x.toNat:Int)*2 ^ (8*j))=((2 ^ (8*j)*x.toNat:Nat):Int):=by
  rw [show ((2:Int) ^ (8*j))=((2 ^ (8*j):Nat):Int) from (Int.natCast_pow 2 (8*j)).symm,Int.natCast_mul,Int.mul_comm]
 rw [e0] at hq ⊢
 have hp:2 ^ (8*j)≤72057594037927936:=by
  rw [show (72057594037927936:Nat)=2 ^ 56 from rfl];exact Nat.pow_le_pow_right (by omega) (by omega)
 rw [e1]
 have hb:2 ^ (8*j)*x.toNat<18446744073709551616:=by
  calc 2 ^ (8*j)*x.toNat≤72057594037927936*255:=Nat.mul_le_mul hp (by omega)
   _<_:=by omega
 have hw:IntKind.u64.wrap ((2 ^ (8*j)*x.toNat:Nat):Int)=((2 ^ (8*j)*x.toNat:Nat):Int):=by
  generalize 2 ^ (8*j)*x.toNat=y at *
  simp [IntKind.wrap,IntKind.signed,IntKind.bits]
  omega
 rw [hw,bits_or_u64_nat q (2 ^ (8*j)*x.toNat) (by omega) hb];congr 1;rw [Nat.or_comm,Nat.add_comm];exact (Nat.two_pow_add_eq_or_of_lt hq x.toNat).symm
theorem Xdl {w:World} (b o c:Nat) (l:List UInt8) (hl:l.length≤8) (hc:∀ j,j<l.length→w.cell? ⟨b,o+j,none⟩=some (.int .u8 (l.getD j 0).toNat)) :
  Calls prog 99 #[.slice (some ⟨b,o,none⟩) l.length c] w fun e w'=>e=.returned (.int .u64 (unle l))∧w=w':=by
 have HC:=Th hc;clear hc;generalize hm:l.length=m at *;have HM:=Th hm;clear hm
 go_enter func99,ntmps99
 go_wp2_with fail
 go_loopg [3,8] m (fun gk s3 i wr=>∃ (j:Nat),gk=m-j∧j≤m∧i=.int .i64 j∧s3=.int .u64 (unle (l.take j))∧wr=w)
 case atStart=>exact ⟨0,by omega,Yc _,rfl,rfl,rfl⟩
 case round =>
  obtain ⟨j,hgk,hj,rfl,rfl,rfl⟩:=hrel;have HGK:=Th hgk;clear hgk
  by_cases hlt:j<m
  ·have hj0:(0:Int)≤j:=by omega
   have hj1:(j:Int)<m:=by omega
   have cj:=HC.out j hlt;generalize hx:l.getD j 0=x at *;have HX:=Th hx;have hx1:=x.toNat_lt;generalize hq:unle (l.take j)=q at *;have HQ:=Th hq;clear hx hq
   go_wp2_with fail
   go_roundg (m-(j+1))
   case measure=>have:=HGK.out;omega
   case rel =>
    refine ⟨j+1,rfl,by omega,by go_num,?_,rfl⟩
    have hjl:j<l.length:=by rw [HM.out];exact hlt
    have e1:l.take (j+1)=l.take j++[x]:=by
     have hx:=HX.out;rw [Zf,Zc hjl,Option.getD_some] at hx;rw [Xk hjl,hx]
    have e2:(l.take j).length=j:=by rw [Zj];omega
    have hq:=unle_lt (l.take j);rw [HQ.out,e2] at hq;rw [e1,Xhc,HQ.out,e2,or_byte q x j hq (by omega)]
    simp [unle]
  ·obtain rfl:j=m:=by omega
   go_wp2_with fail
   go_ret;rw [Ya (by rw [HM.out];exact Zq _)]
   exact ⟨rfl,rfl⟩
theorem push_all : ∀ (l:List UInt8) (s:ByteArray),(l.map fun b=>(b.toNat:Int)).foldl (fun r n=>r.push (UInt8.ofNat n.toNat)) s=⟨s.data++l.toArray⟩
 | [],s=>by simp
 | b :: l,s=>by
  simp only [Zx,Wl,Int.toNat_natCast,UInt8.ofNat_toNat];rw [push_all l];show (⟨s.data.push b++l.toArray⟩:ByteArray)=_;congr 1;simp
theorem src_cells {w:World} {b o:Nat} {l:List UInt8} (h:∀ j,j<l.length→w.cell? ⟨b,o+j,none⟩=some (.int .u8 (l.getD j 0).toNat)) (j:Nat) (v:Value) (hv:(u8s l)[j]?=some v):w.cell? ((⟨b,o,none⟩:Addr).add j)=some v:=by
 have hj:j<l.length:=by
  rcases Yv j l.length with h1 | h1
  ·exact h1
  ·rw [Xb (by rw [Xaf];exact h1)] at hv;cases hv
 rw [Xah,h j hj,←hv,Xej,Zc hj,Zf,Zc hj];rfl
theorem Xbt {w:World} {v:Value} {l:List UInt8} (h:Xae w v l):(convert 22 9 v).run prog w=.ok (.string ⟨l.toArray⟩) w:=by
 obtain ⟨ao,cap,rfl,hc0⟩:=h;rw [run_convert_bytes_string w 22 9 5 ao l.length cap underlying22 underlying5 underlying9]
 by_cases h0:l=[]
 ·subst h0
  cases ao with
  | none=>rfl
  | some a=>rfl
 ·obtain ⟨b,o,rfl,hc⟩:=hc0 (List.length_pos_iff.2 h0)
  have hl:=run_loadCells_list (P:=prog) w ⟨b,o,none⟩ (u8s l) (src_cells hc);rw [Xaf] at hl
  have e:u8s l=(l.map fun b=>(b.toNat:Int)).map (Value.int .u8):=by simp [u8s]
  rw [e] at hl;rw [run_bytesToString w ⟨b,o,none⟩ l.length cap _ hl,push_all];simp
theorem Xok {w:World} {x y:Value} {a b:List UInt8} (hx:Xae w x a) (hy:Xae w y b) :
  Calls prog 107 #[x,y] w fun e w'=>e=.returned (.bool (a == b))∧w=w':=by
 have c1:=Xbt hx;have c2:=Xbt hy
 go_enter func107,ntmps107
 go_wp2
 go_ret;exact ⟨rfl,rfl⟩
def Own (w w':World) (v:Value) (l:List UInt8):Prop:=Xau 5 w' v l∧(∀ k,v.ownBlock=some k→w.heap.size≤k)∧Only [] w w'
theorem Xcj {w:World} {v:Value} {l:List UInt8} (h:Xae w v l) (hl:l.length≤1048576) :
  Calls prog 41 #[v] w fun e w'=>∃ v',e=.returned v'∧Own w w' v' l:=by
 obtain ⟨ao,cap,rfl,hc⟩:=h
 have HC:Hid (0<l.length→∃ ad,ao=some ad∧∀ j u,(u8s l)[j]?=some u→w.cell? (ad.add j)=some u):=by
  intro h0;obtain ⟨b,o,rfl,hc2⟩:=hc h0;exact ⟨_,rfl,src_cells hc2⟩
 have HL:Hid ((u8s l).length=l.length*1):=by show _=_;rw [Xaf];omega
 clear hc
 cases ao with
 | none =>
  have h0:l=[]:=by
   rcases l with _ | ⟨x,r⟩
   ·rfl
   ·obtain ⟨ad,h,_⟩:=HC.out (by simp);cases h
  subst h0
  have he:∀ w:World,(binOp .eql 22 (.slice none 0 cap) (.slice none 0 0)).run prog w=.ok (.bool true) w:=fun _=>rfl
  show Calls prog 41 #[.slice none 0 cap] w _
  go_enter func41,ntmps41
  go_wp2_with fail
  go_ret;exact ⟨_,rfl,⟨rfl,.inl ⟨rfl,rfl⟩⟩,fun k hk=>by simp [Value.ownBlock] at hk,Only.refl _ _⟩
 | some a =>
  have he:∀ w:World,(binOp .eql 22 (.slice (some a) l.length cap) (.slice none 0 0)).run prog w=.ok (.bool false) w:=fun _=>rfl
  go_enter func41,ntmps41
  have hown0:(w.alloc (.cells #[] 5)).ownsRow 0 5 1 (.slice (some ⟨w.heap.size,0,none⟩) 0 0) 0 [] :=
   ⟨rfl,.inr ⟨w.heap.size,0,#[],rfl,Yc _,heap_alloc_new w _,Zq _,by unfold maxLen;omega,rfl,rfl⟩⟩
  have HO:=Th hown0
  have HC1:Hid (0<l.length→∃ ad,some a=some ad∧∀ j u,(u8s l)[j]?=some u→(w.alloc (.cells #[] 5)).cell? (ad.add j)=some u):=by
   intro h0;obtain ⟨ad,h1,h2⟩:=HC.out h0;exact ⟨ad,h1,fun j u hu=>((Only.refl [] w).alloc _).cell (h2 j u hu) (by simp)⟩
  clear hown0
  go_wp2_with (refine Xap rfl (.tmp 5) (.tmp 6) 22 rfl 5 underlying22 (info_parts info_byte) rfl (by omega) (.slice (some ⟨w.heap.size,0,none⟩) 0 0) 0 [] rfl HO.out (some a) l.length cap rfl (u8s l) HL.out HC1.out (Xba _) (by omega) (by omega) ?_)
  intro v' w' hg;have HG:=Th hg;clear hg
  go_wp2_with fail
  go_ret;have h1:=HG.out.own;refine ⟨v',rfl,h1,fun k hk=>?_,(((Only.refl [] w).alloc _).trans HG.out.only (fun x hx=>?_))⟩
  ·rcases HG.out.lies k hk with h | h
   ·simp only [Value.ownBlock,Zw] at h;omega
   ·simp at h;omega
  ·simp [Value.ownBlock] at hx;right;omega
end Go.Proofs.YtiijokopcgnokaaGreat.B
