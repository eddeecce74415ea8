import Derived.WalkKit
import Derived.Deep.AppendLies
import Derived.Deep.Draws
import Derived.Laws.CopyOwn
import Derived.Lib.Hide
import Derived.Deep.MidRow
set_option linter.unusedSimpArgs false
set_option linter.unusedVariables false
namespace Go.Proofs.YtiijokopcgnokaaGreat
theorem Th {p:Prop} (h:p):RowKit.Hid p:=h
abbrev Za := @List.mem_append
theorem Zb {α:Type _} {a:α} {l:List α}:(a :: l)[0]?=some a:=rfl
abbrev Zc := @List.getElem?_eq_getElem
theorem Zd {α:Type _} {a:α} {l:List α} {i:Nat}:(a :: l)[i+1]?=l[i]?:=rfl
abbrev Ze := @List.length_append
abbrev Zf := @List.getD_eq_getElem?_getD
abbrev Zg := @List.mem_cons
abbrev Zh := @List.getElem?_eq_some_iff
abbrev Zi := @List.mem_map
abbrev Zj := @List.length_take
abbrev Zk := @Option.mem_toList
abbrev Zl := @List.length_map
abbrev Zm := @List.mem_of_getElem?
abbrev Zn := @List.pairwise_append
abbrev Zo := @List.mem_singleton
abbrev Zp := @Nat.le_trans
abbrev Zq := @Nat.le_refl
abbrev Zr := @List.getElem?_map
abbrev Zs := @List.map_append
abbrev Zt := @List.length_singleton
abbrev Zu := @List.append_assoc
abbrev Zv := @List.getElem?_set_ne
abbrev Zw := @Option.some.injEq
abbrev Zx := @List.map_cons
abbrev Zy := @List.length_drop
abbrev Zz := @List.length_cons
abbrev Ya := @List.take_of_length_le
abbrev Yb := @List.mem_append_left
abbrev Yc := @Nat.zero_le
abbrev Yd := @Nat.zero_add
abbrev Ye := @Nat.lt_of_lt_of_le
abbrev Yf := @List.take_append_drop
abbrev Yg := @List.mem_cons_of_mem
abbrev Yh := @List.pairwise_cons
abbrev Yi := @IntKind.wrap_i64
abbrev Yj := @List.mem_map_of_mem
abbrev Yk := @List.mem_append_right
abbrev Yl := @List.mem_flatMap
abbrev Ym := @List.nil_append
abbrev Yn := @List.mem_of_mem_take
abbrev Yo := @List.getElem?_append_right
abbrev Yp := @List.mem_filter
abbrev Yq := @List.getElem?_take
abbrev Yr := @List.getElem?_set_self
abbrev Ys := @List.mem_of_mem_drop
abbrev Yt := @Nat.min_eq_left
abbrev Yu := @List.flatMap_cons
abbrev Yv := @Nat.lt_or_ge
abbrev Yw := @List.map_map
abbrev Yx := @List.getElem_mem
abbrev Yy := @List.pairwise_iff_getElem
abbrev Yz := @List.length_set
abbrev Xa := @List.cons_append
abbrev Xb := @List.getElem?_eq_none
abbrev Xc := @List.map_congr_left
abbrev Xd := @List.eq_nil_of_length_eq_zero
abbrev Xe := @Option.map_some
abbrev Xf := @List.pairwise_map
abbrev Xg := @List.take_add_one
abbrev Xh := @List.getElem?_drop
abbrev Xi := @List.nodup_append
abbrev Xj := @List.append_nil
abbrev Xk := @List.take_succ_eq_append_getElem
abbrev Xl := @List.getElem_of_mem
abbrev Xm := @List.take_append_of_le_length
abbrev Xn := @List.nodup_cons
abbrev Xo := @List.getElem?_append_left
abbrev Xp := @List.drop_zero
abbrev Xq := @List.drop_of_length_le
abbrev Xr := @List.mem_iff_getElem?
abbrev Xs := @List.pairwise_singleton
abbrev Xt := @List.not_mem_nil
abbrev Xu := @List.foldl_nil
abbrev Xv := @List.take_succ_cons
abbrev Xw := @List.mem_singleton_self
abbrev Xx := @List.map_take
abbrev Xy := @Nat.le_succ
abbrev Xz := @Option.map_eq_some_iff
abbrev Wa := @List.eraseIdx_sublist
abbrev Wb := @List.take_take
abbrev Wc := @List.take_zero
abbrev Wd := @Nat.sub_self
abbrev We := @List.take_length
abbrev Wg := @List.flatMap_append
abbrev Wh := @List.drop_succ_cons
abbrev Wi := @Nat.mul_one
abbrev Wj := @List.length_replicate
abbrev Wk := @List.map_drop
abbrev Wl := @List.foldl_cons
abbrev Wm := @Nat.add_zero
abbrev Wn := @List.length_nil
abbrev Wo := @Nat.eq_zero_or_pos
abbrev Wp := @List.getElem?_replicate
abbrev Wq := @List.all_eq_true
abbrev Wr := @Nat.lt_trichotomy
abbrev Ws := @List.getElem_cons_drop
abbrev Wt := @List.exists_cons_of_ne_nil
abbrev Wu := @List.map_nil
abbrev Wv := @Nat.mul_le_mul_right
abbrev Ww := @List.mem_range
abbrev Wx := @List.take_left'
abbrev Wy := @List.drop_left'
abbrev Wz := @List.perm_iff_count
abbrev Va := @Nat.add_assoc
abbrev Vb := @List.find?_eq_none
abbrev Vc := @List.set_append_right
abbrev Vd := @List.singleton_append
abbrev Ve := @List.length_filter_le
abbrev Vf := @List.drop_eq_getElem_cons
abbrev Vg := @List.findIdx_getElem
abbrev Vh := @List.count_append
theorem qSa {α:Type _} (l:List α) (i:Nat) (a:α):l.toArray.setIfInBounds i a=(l.set i a).toArray:=List.setIfInBounds_toArray l i a
theorem qSz {α:Type _} {x:α} {xs:List α} {a:α}:(x :: xs).set 0 a=a :: xs:=rfl
theorem qSs {α:Type _} {x:α} {xs:List α} {i:Nat} {a:α}:(x :: xs).set (i+1) a=x :: xs.set i a:=rfl
open Go.RowKit
def Blk (w:World) (b:Nat) (cs:List Value) (t:TypeId):Prop:=w.heap[b]?=some (.cells cs.toArray t (0,0))
section
variable {w : World} {b : Nat} {cs : List Value} {t : TypeId}
theorem Blk.lt (h:Blk w b cs t):b<w.heap.size:=by
 rcases Yv b w.heap.size with h1 | h1
 ·exact h1
 ·rw [Blk,Array.getElem?_eq_none h1] at h;cases h
theorem Blk.to {cs':List Value} (h:Blk w b cs t) (e:cs=cs'):Blk w b cs' t:=e ▸ h
theorem Blk.inj {cs':List Value} {t':TypeId} (h:Blk w b cs t) (h':Blk w b cs' t'):cs=cs'∧t=t':=by
 unfold Blk at h h';rw [h] at h';simp only [Zw,Obj.cells.injEq] at h';exact ⟨by simpa using congrArg Array.toList h'.1,h'.2.1⟩
theorem Blk.ne {b':Nat} {cs':List Value} {t':TypeId} (h:Blk w b cs t) (h':Blk w b' cs' t') (hne:t≠t'):b≠b':=fun e=>by
 subst e;exact hne (h.inj h').2
theorem Blk.cell (h:Blk w b cs t) (o:Nat):w.cell? ⟨b,o,none⟩=cs[o]?:=by
 rw [cell_of_row w b o cs.toArray t (0,0) h];simp
theorem Blk.at (h:Blk w b cs t) (i:Nat) (hi:i<cs.length):∃ v,w.cell? ⟨b,i,none⟩=some v:=⟨cs[i],by rw [h.cell,Zc hi]⟩
theorem Blk.add_cell (h:Blk w b cs t) (j:Nat) (v:Value) (hv:cs[j]?=some v):w.cell? ((⟨b,0,none⟩:Addr).add j)=some v:=by
 have hadd:(⟨b,0,none⟩:Addr).add j=⟨b,j,none⟩:=by unfold Addr.add;split <;> simp_all
 rw [hadd,h.cell];exact hv
theorem Blk.frozen (h:Blk w b cs t) (o:Nat):w.frozen? ⟨b,o,none⟩=false:=frozen_of_row w b o cs.toArray t h
theorem Blk.drew (h:Blk w b cs t):Blk w.drew b cs t:=h
theorem Blk.drewN (h:Blk w b cs t) (n:Nat):Blk (w.drewN n) b cs t:=h
theorem Blk.alloc (h:Blk w b cs t) (o:Obj):Blk (w.alloc o) b cs t:=by
 unfold Blk;rw [Below.heap_alloc w o b h.lt];exact h
theorem Blk.cellAlloc {p:Addr} {v:Value} (o:Obj) (h:w.cell? p=some v):(w.alloc o).cell? p=some v:=(World.cell?_of_block (w:=w) (Below.heap_alloc w o p.block (World.block_lt_of_cell? w p h))).trans h
theorem Blk.set (h:Blk w b cs t) (o:Nat) (v:Value):Blk (w.setCell ⟨b,o,none⟩ v) b (cs.set o v) t:=by
 unfold Blk;rw [heap_setCell_same w b o cs.toArray t v h];simp
theorem Blk.far (h:Blk w b cs t) {a:Addr} (v:Value) (hne:b≠a.block):Blk (w.setCell a v) b cs t:=by
 unfold Blk;rw [heap_setCell_other w a b v hne];exact h
theorem Blk.new (cs:List Value) (t:TypeId) (w:World):Blk (w.alloc (.cells cs.toArray t)) w.heap.size cs t:=heap_alloc_new w _
theorem Blk.new' (cs:Array Value) (t:TypeId) (w:World) {n:Nat} (hn:n=w.heap.size):Blk (w.alloc (.cells cs t)) n cs.toList t:=by
 subst hn;unfold Blk;rw [heap_alloc_new]
theorem Blk.row (h:Blk w b cs t) (cs':Array Value):Blk (w.setRow b cs') b cs'.toList t:=by
 unfold Blk at *;simp only [World.setRow,Array.getElem?_modify,if_true,h,Xe]
end
structure Only (M:List Nat) (w w':World):Prop where
 os:w'.os=w.os
 tape:w'.tape=w.tape
 output:w'.output=w.output
 size:w.heap.size≤w'.heap.size
 block:∀ k,k<w.heap.size→k∉M→w'.heap[k]?=w.heap[k]?
section
variable {M M' : List Nat} {a w w' : World}
theorem Only.refl (M:List Nat) (w:World):Only M w w:=⟨rfl,rfl,rfl,Zq _,fun _ _ _=>rfl⟩
theorem Only.trans (h:Only M a w) (k:Only M' w w') (hM:∀ x∈M',x∈M∨a.heap.size≤x):Only M a w' :=
 ⟨k.os.trans h.os,k.tape.trans h.tape,k.output.trans h.output,Zp h.size k.size,fun i hi hn=>by
  rw [k.block i (Ye hi h.size) (fun hm=>by rcases hM i hm with h1 | h1;exact hn h1;omega)]
  exact h.block i hi hn⟩
theorem Only.mono (h:Only M a w) (hM:∀ x∈M,x∈M'∨a.heap.size≤x):Only M' a w :=
 ⟨h.os,h.tape,h.output,h.size,fun i hi hn=>h.block i hi (fun hm=>by rcases hM i hm with h1 | h1;exact hn h1;omega)⟩
theorem Only.drew (h:Only M a w):Only M a w.drew:=⟨h.os,h.tape,h.output,h.size,h.block⟩
theorem Only.drewN (h:Only M a w) (n:Nat):Only M a (w.drewN n):=⟨h.os,h.tape,h.output,h.size,h.block⟩
theorem Only.alloc (h:Only M a w) (o:Obj):Only M a (w.alloc o) :=
 ⟨h.os,h.tape,h.output,Zp h.size (by simp),fun i hi hn=>(Below.heap_alloc w o i (Ye hi h.size)).trans (h.block i hi hn)⟩
theorem Only.setCell (h:Only M a w) {p:Addr} (hp:p.block∈M∨a.heap.size≤p.block) (u:Value):Only M a (w.setCell p u) :=
 ⟨h.os,h.tape,h.output,by simpa [World.setCell] using h.size,fun i hi hn=>(Below.heap_setCell w p u i (by
  rintro rfl
  rcases hp with hp | hp
  ·exact hn hp
  ·omega)).trans (h.block i hi hn)⟩
theorem Only.setRow (h:Only M a w) {g:Nat} (hg:g∈M∨a.heap.size≤g) (cs:Array Value):Only M a (w.setRow g cs) :=
 ⟨h.os,h.tape,h.output,by simpa using h.size,fun i hi hn=>by
  have hne:¬g=i:=by
   rintro rfl
   rcases hg with hg | hg
   ·exact hn hg
   ·omega
  simp only [World.setRow,Array.getElem?_modify,if_neg hne]
  exact h.block i hi hn⟩
theorem Only.grown (h:Only M a w) {row:Option Nat} (hg:w.grownBy w' row) (hr:∀ k,row=some k→k∈M∨a.heap.size≤k):Only M a w' :=
 ⟨hg.os.trans h.os,hg.tape.trans h.tape,hg.output.trans h.output,Zp h.size hg.size,fun i hi hn=>by
  rw [hg.block i (Ye hi h.size) (fun e=>by rcases hr i e.symm with h1 | h1;exact hn h1;omega)]
  exact h.block i hi hn⟩
theorem Only.below (h:Only M a w) {B:Nat} (hB:B≤a.heap.size) (hM:∀ x∈M,B≤x):Below B a w :=
 ⟨h.os,h.tape,h.output,h.size,fun i hi=>h.block i (by omega) (fun hm=>by have:=hM i hm;omega)⟩
theorem Only.blk (h:Only M a w) {b:Nat} {cs:List Value} {t:TypeId} (hb:Blk a b cs t) (hn:b∉M):Blk w b cs t:=by
 unfold Blk;rw [h.block b hb.lt hn];exact hb
theorem Only.cell (h:Only M a w) {p:Addr} {v:Value} (hc:a.cell? p=some v) (hn:p.block∉M):w.cell? p=some v:=by
 rw [World.cell?_of_block (h.block p.block (World.block_lt_of_cell? a p hc) hn)];exact hc
end
theorem Xab {w w':World} {M:List Nat} {base:Nat} {e:TypeId} {size:Nat} {v:Value} {n:Nat} {xs:List Value} (h:w.ownsRow base e size v n xs) (hO:Only M w w') (hM:∀ k,v.ownBlock=some k→k∉M):w'.ownsRow base e size v n xs:=by
 obtain ⟨h1,h2⟩:=h;refine ⟨h1,?_⟩
 rcases h2 with h2 | ⟨g,cap,cur,rfl,hg,hh,r⟩
 ·exact .inl h2
 ·have hlt:g<w.heap.size:=by
   rcases Yv g w.heap.size with h3 | h3
   ·exact h3
   ·rw [Array.getElem?_eq_none h3] at hh;cases hh
  exact .inr ⟨g,cap,cur,rfl,hg,(hO.block g hlt (hM g rfl)).trans hh,r⟩
theorem Xaj {w:World} {base:Nat} {e:TypeId} {size:Nat} {v:Value} {n:Nat} {xs:List Value} (h:w.ownsRow base e size v n xs) {b:Nat} {cs:List Value} {t:TypeId} (hb:Blk w b cs t) (hne:t≠e):v.ownBlock≠some b:=fun hk=>by
 rcases h.2 with ⟨rfl,_⟩ | ⟨g,cap,cur,rfl,_,hh,_⟩
 ·cases hk
 ·simp only [Value.ownBlock,Zw] at hk
  subst hk;unfold Blk at hb;rw [hh] at hb;simp only [Zw,Obj.cells.injEq] at hb;exact hne hb.2.1.symm
theorem Xbk {w:World} {base:Nat} {e:TypeId} {size:Nat} {v:Value} {n:Nat} {xs:List Value} (h:w.ownsRow base e size v n xs) {k:Nat} (hk:v.ownBlock=some k):k<w.heap.size:=by
 rcases h.2 with ⟨rfl,_⟩ | ⟨g,cap,cur,rfl,_,hh,_⟩
 ·cases hk
 ·simp only [Value.ownBlock,Zw] at hk
  subst hk
  rcases Yv g w.heap.size with h3 | h3
  ·exact h3
  ·rw [Array.getElem?_eq_none h3] at hh;cases hh
theorem Xcx {P:Program} {w:World} {ops:Array Oper} {rest:List Oper} {o:Oper} {a:Act} {Q:Exit→Act→World→Prop} (hgd:o.guard=none) (d s:Operand) (dT sT:TypeId)
  (ho:o.op=.call { callee:=.builtin .copy,args:=#[d,s],argTypes:=#[dT,sT] }) (elem:TypeId) (hu:P.underlying dT=some (.slice elem)) (hsz:(P.info? elem).map (·.size)=some 1)
  (dp sp:Option Addr) (dLen dCap sLen sCap:Nat) (hd:a.eval d=.slice dp dLen dCap) (hs:a.eval s=.slice sp sLen sCap)
  (g off:Nat) (cur:List Value) (t:TypeId) (hg:Blk w g cur t) (cs:List Value) (hn:cs.length=Nat.min sLen dLen)
  (hpos:0<cs.length→dp=some ⟨g,off,none⟩∧∃ ad,sp=some ad∧∀ j v,cs[j]?=some v→w.cell? (ad.add j)=some v)
  (hfit:off+cs.length≤cur.length) (h1:∀ v∈cs,v.oneCell'=true)
  (h:∀ w',Blk w' g (splice cur off cs) t→Only [g] w w'→wpList P ops Q rest (a.put o.dst (goInt cs.length)) w') :
  wpList P ops Q (o :: rest) a w:=by
 by_cases h0:cs.length=0
 ·obtain rfl:cs=[]:=Xd h0
  refine wpList_copy_nothing hgd d s dT sT ho elem hu hsz dp sp dLen dCap sLen sCap hd hs (by simpa using hn.symm) ?_
  exact h w (hg.to (by simp [splice])) (Only.refl _ _)
 ·obtain ⟨rfl,ad,rfl,hsrc⟩:=hpos (by omega)
  refine wpList_copy_own hgd d s dT sT ho elem hu hsz g off dLen dCap ad sLen sCap hd hs cur.toArray t hg cs hn hsrc (by simpa using hfit) h1 ?_
  exact h _ ((hg.row _).to (by simp [splice])) ((Only.refl _ _).setRow (.inl (by simp)) _)
theorem Xns {P:Program} {w:World} {ops:Array Oper} {o:Oper} {a:Act} {K:Act→World→Prop} {Q:Exit→Act→World→Prop} {E:Prop} (hgd:o.guard=none) (d s:Operand) (dT sT:TypeId)
  (ho:o.op=.call { callee:=.builtin .copy,args:=#[d,s],argTypes:=#[dT,sT] }) (elem:TypeId) (hu:P.underlying dT=some (.slice elem)) (hsz:(P.info? elem).map (·.size)=some 1)
  (dp sp:Option Addr) (dLen dCap sLen sCap:Nat) (hd:a.eval d=.slice dp dLen dCap) (hs:a.eval s=.slice sp sLen sCap)
  (g off:Nat) (cur:List Value) (t:TypeId) (hg:Blk w g cur t) (cs:List Value) (hn:cs.length=Nat.min sLen dLen)
  (hpos:0<cs.length→dp=some ⟨g,off,none⟩∧∃ ad,sp=some ad∧∀ j v,cs[j]?=some v→w.cell? (ad.add j)=some v)
  (hfit:off+cs.length≤cur.length) (h1:∀ v∈cs,v.oneCell'=true)
  (h:∀ w',Blk w' g (splice cur off cs) t→Only [g] w w'→K (a.put o.dst (goInt cs.length)) w') :
  if Region.wanted o (yielded ops a.tmps)=true then Oper.wp P o a w K Q else E:=by
 have hw:Region.wanted o (yielded ops a.tmps)=true:=by simp [Region.wanted,hgd]
 rw [if_pos hw]
 by_cases h0:cs.length=0
 ·obtain rfl:cs=[]:=Xd h0
  have hrun:=run_copy_none (P:=P) w dT sT o.type elem dp sp dLen dCap sLen sCap hu hsz (by simpa using hn.symm);unfold Oper.wp
  simp [execOp,ho,resolve,invoke,builtin,hd,hs,hrun,Result.andThen]
  exact h w (hg.to (by simp [splice])) (Only.refl _ _)
 ·obtain ⟨rfl,ad,rfl,hsrc⟩:=hpos (by omega)
  have hrun:=run_copy_row (P:=P) w dT sT o.type elem g off dLen dCap ad sLen sCap cur.toArray t cs hu hsz hg hn hsrc (by simpa using hfit) h1;unfold Oper.wp
  simp [execOp,ho,resolve,invoke,builtin,hd,hs,hrun,Result.andThen]
  exact h _ ((hg.row _).to (by simp [splice])) ((Only.refl _ _).setRow (.inl (by simp)) _)
theorem Blk.setCells {b:Nat} {t:TypeId}:∀ {w:World} {cur:List Value} (vs:List Value) (o:Nat),Blk w b cur t→o+vs.length≤cur.length→Blk (w.setCells b o vs) b (splice cur o vs) t
 | w,cur,[],o,h,_=>h.to (by simp [splice])
 | w,cur,v :: r,o,h,hl=>by
  simp only [Zz] at hl
  refine (Blk.setCells r (o+1) (h.set o v) (by simp;omega)).to ?_
  simp only [splice,Zz];rw [List.take_set,List.drop_set_of_lt (by omega),Xk (by omega)];rw [Vc _ _ (by simp;omega)]
  rw [show o-(List.take o cur).length=0 by rw [Zj];omega,show o+1+r.length=o+(r.length+1) by omega];simp
theorem Only.setCells {M:List Nat} {a:World} {b:Nat}:∀ {w:World} (vs:List Value) (o:Nat),Only M a w→(b∈M∨a.heap.size≤b)→Only M a (w.setCells b o vs)
 | w,[],o,h,_=>h
 | w,v :: r,o,h,hb=>Only.setCells r (o+1) (h.setCell (p:=⟨b,o,none⟩) hb v) hb
theorem Xak {P:Program} {w:World} {ops:Array Oper} {rest:List Oper} {op:Oper} {a:Act} {Q:Exit→Act→World→Prop} (hgd:op.guard=none) (ty:TypeId) (x y:Operand) (ho:op.op=.store ty x y)
  (b:Nat) (cells:List Value) (hx:a.eval x=.pointer (some ⟨b,0,none⟩)) (hy:a.eval y=.agg cells.toArray) {cur:List Value} {t:TypeId} (hb:Blk w b cur t) (hl:cells.length=cur.length)
  (hi:(P.info? ty).map (·.size)=some cells.length) (h1:∀ v∈cells,v.oneCell'=true)
  (h:∀ w',Blk w' b cells t→Only [b] w w'→wpList P ops Q rest (a.put op.dst undef) w'):wpList P ops Q (op :: rest) a w:=by
 refine wpList_store_mid hgd ty x y ho b 0 cells.toArray hx hy (fun j hj=>?_) (by simpa using hi) (all_oneCell_toArray h1) ?_
 ·have hj':j<cur.length:=by rw [←hl];simpa using hj
  rw [Yd,hb.cell,Zc hj'];exact ⟨rfl,hb.frozen j⟩
 ·refine h _ ((hb.setCells cells 0 (by omega)).to ?_) (Only.setCells _ _ (Only.refl _ _) (.inl (by simp)))
  simp [splice,hl]
theorem Xbo {P:Program} {w:World} {ops:Array Oper} {rest:List Oper} {o:Oper} {a:Act} {Q:Exit→Act→World→Prop} (hgd:o.guard=none) (ty:TypeId) (x:Operand) (ho:o.op=.load ty x)
  (g:Nat) (hx:a.eval x=.pointer (some ⟨g,0,none⟩)) {t:TypeId} {cs:List Value} (hg:Blk w g cs t) (d:TypeDesc)
  (hu:P.underlying ty=some d) (hd:(match d with | .struct _ | .array _ _=>true | _=>false)=true) (hi:(P.info? ty).map (·.size)=some cs.length)
  (h:wpList P ops Q rest (a.put o.dst (.agg cs.toArray)) w):wpList P ops Q (o :: rest) a w :=
 wpList_load_row hgd ty x ho g hx t cs.toArray (0,0) d hg hu hd (by simpa using hi) h
theorem Xcv (z:Value) (n:Nat):madeCells #[z] n=(List.replicate n z).toArray:=by
 apply Array.ext
 ·simp [madeCells]
 ·intro i h1 h2
  simp only [madeCells,Array.getElem_map,Array.getElem_range]
  simp [Nat.mod_one]
def u8s (l:List UInt8):List Value:=l.map fun b=>.int .u8 b.toNat
@[simp] theorem Xaf (l:List UInt8):(u8s l).length=l.length:=by simp [u8s]
theorem Xew (l k:List UInt8):u8s (l++k)=u8s l++u8s k:=by simp [u8s]
theorem Xej (l:List UInt8) (i:Nat):(u8s l)[i]?=l[i]?.map fun b=>.int .u8 b.toNat:=by simp [u8s]
theorem u8s_take (l:List UInt8) (k:Nat):u8s (l.take k)=(u8s l).take k:=by simp [u8s,Xx]
theorem u8s_drop (l:List UInt8) (k:Nat):u8s (l.drop k)=(u8s l).drop k:=by simp [u8s,Wk]
theorem take_get {α:Type} {xs:List α} {k j:Nat} {v:α} (h:(xs.take k)[j]?=some v):xs[j]?=some v:=by
 rw [Yq] at h;split at h
 ·exact h
 ·cases h
theorem Xba (l:List UInt8):∀ v∈u8s l,v.oneCell'=true:=fun v hv=>by
 simp only [u8s,Zi] at hv;obtain ⟨_,_,rfl⟩:=hv;rfl
theorem Xfj (n:Nat):u8s (List.replicate n 0)=List.replicate n (.int .u8 0):=by simp [u8s]
end Go.Proofs.YtiijokopcgnokaaGreat
