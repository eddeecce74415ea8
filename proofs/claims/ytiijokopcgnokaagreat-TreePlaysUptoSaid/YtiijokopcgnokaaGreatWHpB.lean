import Derived.Test.YtiijokopcgnokaaGreatWPageJ
import Derived.Test.YtiijokopcgnokaaGreatWPoolV
set_option linter.unusedSimpArgs false
set_option linter.unusedVariables false
namespace Go.Proofs.YtiijokopcgnokaaGreat
namespace H
open Go Go.RowKit D B C G P
theorem nilRow (w:World):Xau 5 w (.slice none 0 0) []:=⟨rfl,.inl ⟨rfl,rfl⟩⟩
theorem wrap_u64 (n:Nat) (h:n<W64):IntKind.u64.wrap (n:Int)=n:=by
 unfold W64 at h
 simp [IntKind.wrap,IntKind.signed,IntKind.bits];omega
theorem own_grew {w w':World} {v:Value} {n:Nat} {l:List UInt8} (h:Grew w w' 5 1 (.slice none 0 0) v n (u8s l)):B.Own w w' v l :=
 ⟨h.row,fun k hk=>by
  rcases h.lies k hk with h1 | h1
  ·simp [Value.ownBlock] at h1
  ·exact h1,h.only⟩
end H
namespace H
open Go Go.RowKit D B C G P
theorem told_buf {w w':World} {M:List Nat} {v:Value} {b:List UInt8} (h:P.Told w w' M v b) (hl:b.length=512):∃ gb c,v=.slice (some ⟨gb,0,none⟩) 512 c∧Buf w' gb c b∧w.heap.size≤gb∧gb∉M:=by
 have h1:=h.1;unfold Xau at h1;obtain ⟨gb,c,rfl,hc⟩:=Xcw h1 (by omega);rw [hl] at h1 ⊢;obtain ⟨h2,h3⟩:=h.2 gb rfl;exact ⟨gb,c,rfl,⟨hl,h1⟩,h2,h3⟩
def GotP (w:World) (p:Nat) (M:List Nat) (u:List Bool) (pg:Nat→List UInt8) (k id:Nat) (gb c:Nat) (M':List Nat) (w':World):Prop :=
 Buf w' gb c (pg id)∧w.heap.size≤gb∧gb∉M'∧PoolV w' p M' u pg (k+2)∧Step M M' w w'
theorem pool_get {w:World} {p k:Nat} {M:List Nat} {u:List Bool} {pg:Nat→List UInt8} (h:PoolV w p M u pg k) (hk:k≤1000000) {id:Nat} (hi:u.getD id false=true) :
  Calls Tryz.prog 67 #[.pointer (some ⟨p,0,none⟩),.int .i64 id] w fun e w'=>∃ gb c M',e=.returned (.tuple #[.slice (some ⟨gb,0,none⟩) 512 c,.int .i64 0])∧GotP w p M u pg k id gb c M' w':=by
 refine (h.get hk hi).mono ?_
 rintro e w' ⟨v,M',rfl,ht,hP,hS⟩;obtain ⟨gb,c,rfl,hb,hg,hn⟩:=told_buf ht (h.len hi);exact ⟨gb,c,M',rfl,hb,hg,hn,hP,hS⟩
theorem page_cell {w:World} {v:Value} {p hd:List UInt8} {j:Nat} (h:Xbs w v p) (hp:Pg p) (hc:ct p j=some hd) :
  Calls Tryz.prog 70 #[v,.int .i64 j] w fun e w'=>∃ g c,e=.returned (.tuple #[.slice (some ⟨g,0,none⟩) hd.length c,.int .i64 0])∧Xau 5 w' (.slice (some ⟨g,0,none⟩) hd.length c) hd∧hd.length≤c∧w.heap.size≤g∧Only [] w w':=by
 obtain ⟨h1,h2⟩:=Xoj hc
 refine (get_yes h hp h1 h2).mono ?_
 rintro e w' ⟨v',rfl,ho⟩;rw [ct_cut hc] at ho;obtain ⟨hr,hn,hO⟩:=ho
 have hpos:0<hd.length:=by
  have:=(ct_long hp.body.core hc).2.2.1;have:=(hp.body.core.goodAt h1).2.1 h2;omega
 have hr1:=hr;unfold Xau at hr1;obtain ⟨g,c,rfl,hcap⟩:=Xcw hr1 hpos;exact ⟨g,c,rfl,hr,hcap,hn g rfl,hO⟩
end H
end Go.Proofs.YtiijokopcgnokaaGreat
