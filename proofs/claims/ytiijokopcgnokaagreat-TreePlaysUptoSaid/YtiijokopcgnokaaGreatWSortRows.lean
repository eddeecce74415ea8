import Derived.Test.YtiijokopcgnokaaGreatWPush
import Derived.Shelf.SlSortCmp.WholeK
set_option linter.unusedSimpArgs false
set_option linter.unusedVariables false
namespace Go.Proofs.YtiijokopcgnokaaGreat
open Go Go.RowKit Go.Sort
variable {α : Type} [Inhabited α]
theorem putRow_blk {w:World} {gb:Nat} {cur:List Value} {t:TypeId} (h:Blk w gb cur t) (off:Nat) (F:Array Value):Blk (putRow id w gb off F) gb (putCells id off F cur.toArray).toList t:=by
 unfold Blk at *;show ((w.heap.modify gb (onCells (putCells id off F)))[gb]?)=_;rw [Array.getElem?_modify,if_pos rfl,h]
 simp [onCells]
theorem putRow_only (w:World) (gb off:Nat) (F:Array Value):Only [gb] w (putRow id w gb off F):=by
 refine ⟨rfl,rfl,rfl,by simp,fun i hi hn=>?_⟩;show ((w.heap.modify gb (onCells (putCells id off F)))[i]?)=_;rw [Array.getElem?_modify,if_neg (by simp at hn;exact fun e=>hn e.symm)]
theorem grow_blk {w:World} {gb:Nat} {cs:List Value} {t:TypeId} (h:Blk w gb cs t) (os:Array Obj):Blk (Sort.grow w os) gb cs t:=by
 unfold Blk at *;show ((w.heap++os)[gb]?)=_;rw [Array.getElem?_append_left (Blk.lt h)];exact h
theorem grow_only (w:World) (os:Array Obj):Only [] w (Sort.grow w os):=by
 refine ⟨rfl,rfl,rfl,by show w.heap.size≤(w.heap++os).size;simp,fun i hi hn=>?_⟩;show ((w.heap++os)[i]?)=_;rw [Array.getElem?_append_left hi]
theorem Xnr {enc:α→List Value} {k gb n c:Nat} {e:TypeId} {xs:List Value} {w:World} (h:w.ownsRow 0 e k (.slice (some ⟨gb,0,none⟩) n c) n xs) (m:Nat) (d:Array α) (hd:d.size=n) (os:Array Obj) :
  (sortWorldK enc k w gb 0 m d os).ownsRow 0 e k (.slice (some ⟨gb,0,none⟩) n c) n (flatK enc k d).toList∧Only [gb] w (sortWorldK enc k w gb 0 m d os):=by
 have hw:Only [] w (Sort.ahead w m):=⟨rfl,rfl,rfl,Zq _,fun _ _ _=>rfl⟩;obtain ⟨cur,hb,hl,ht,hle⟩:=Xdi h;have hb1:Blk (Sort.ahead w m) gb cur e:=hb;have hb2:=grow_blk (putRow_blk hb1 0 (flatK enc k d)) os;have hO:Only [gb] w (sortWorldK enc k w gb 0 m d os):=((hw.mono (M':=[gb]) (by simp)).trans (putRow_only _ gb 0 (flatK enc k d)) (fun x hx=>.inl hx)).trans (grow_only _ os) (by simp);refine ⟨⟨by simp [hd],.inr ⟨gb,c,_,rfl,Yc _,hb2,hle,?_,?_,?_⟩⟩,hO⟩
 ·rcases h.2 with ⟨h0,_⟩ | ⟨_,_,_,hv,_,_,_,h4,_⟩
  ·cases h0
  ·simp only [Value.slice.injEq] at hv
   rw [hv.2.2];exact h4
 ·simp [putCells,hl]
 ·apply List.ext_getElem?
  intro i;have hk:n*k≤c*k:=Wv k hle;simp only [Yq]
  by_cases hi:i<n*k
  ·have hil:i<cur.length:=by rw [hl];omega
   rw [if_pos hi];simp only [putCells,Array.getElem?_toList,Array.getElem?_mapIdx,List.getElem?_toArray,Zc hil,Xe,size_flatK,hd,Yc,Yd,true_and,if_pos hi,Nat.sub_zero,id];rw [getElem!_pos _ i (by simpa [hd] using hi),Array.getElem?_eq_getElem (by simpa [hd] using hi)]
  ·rw [if_neg hi,Xb (by simp [hd];omega)]
theorem owns_holds {enc:α→List Value} {k gb n c:Nat} {e:TypeId} {w:World} {d:Array α} (h:w.ownsRow 0 e k (.slice (some ⟨gb,0,none⟩) n c) n (flatK enc k d).toList) (hd:d.size=n):HoldsK enc k w gb 0 d:=by
 obtain ⟨cur,hb,hl,ht,hle⟩:=Xdi h;intro j hj;rw [size_flatK,hd] at hj;refine ⟨?_,hb.frozen _⟩;rw [hb.cell,Yd]
 have h1:(cur.take (n*k))[j]?=cur[j]?:=by rw [Yq,if_pos hj]
 rw [←h1,ht,Array.getElem?_toList,getElem!_pos _ j (by simpa [hd] using hj),Array.getElem?_eq_getElem (by simpa [hd] using hj)];rfl
end Go.Proofs.YtiijokopcgnokaaGreat
