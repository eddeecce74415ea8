import Derived.Test.YtikonbnhbalpmaaMQuietL
import Derived.Test.YtikonbnhbalpmaaMGrow
import Derived.Deep.RegionHeld3
import Derived.Deep.MidRow
/-
  A region that draws its order, walked by hand: what yields in every world that meets S is taken first; a call, an alloc, an append comes up alone. (go_region_held3 cannot take two loads of long arrays in one region.)
-/
namespace Go.Proofs.Ytikonbnhbalpmaa
set_option linter.unusedSimpArgs false
open Go
set_option linter.unusedVariables false
section
variable {P : Program} {ops : Array Oper} {Q : Exit → Act → World → Prop} {md : Region.Mode} {S : World → Prop}
/-- wpAnyH_take, the slot written out. -/
theorem take_at (i : Nat) (d : Nat) (v : Value) {oi : Oper} {fuel : Nat} {listed : Array Bool} {a : Act} {w : World} (hi : ops[i]? = some oi) (hd : oi.dst = some d)
    (hs : Region.noSelect ops = true) (hf : Region.free md ops listed i = true) (hr : (Region.ready md ops listed).contains i = true)
    (hQ : ∀ c a w, Q (.panic c) (a.put (some d) v) w → Q (.panic c) a w) (hy : YieldsIf P ops S oi v a) (hS : S w)
    (h : wpAnyH P md ops Q S fuel (listed.setIfInBounds i true) (a.put (some d) v) w) : wpAnyH P md ops Q S (fuel + 1) listed a w := by
  rw [← hd] at h hQ
  exact wpAnyH_take hi hs hf hr hQ hy hS h
/-- One operation alone comes up. -/
theorem one_at (i : Nat) {o : Oper} {fuel : Nat} {listed : Array Bool} {a : Act} {w : World} (ho : ops[i]? = some o) (hr : Region.ready md ops listed = [i]) (hw : Region.wanted o (yielded ops a.tmps) = true)
    (h : ∀ K' : Act → World → Prop, Shut (∀ a w, S w → wpAnyH P md ops Q S fuel (listed.setIfInBounds i true) a w → K' a w) → Oper.wp P o a w K' Q) : wpAnyH P md ops Q S (fuel + 1) listed a w :=
  wpAnyH_ready hr (by simp) (AllReadyH.cons ho (fun K hK => by rw [if_pos hw]; exact h K (fun a w hS hW => hK.out a w hS (fun _ => hW))) AllReadyH.nil)
/-- Two operations may come up. -/
theorem two_at (i k : Nat) {o o' : Oper} {fuel : Nat} {listed : Array Bool} {a : Act} {w : World} (ho : ops[i]? = some o) (ho' : ops[k]? = some o') (hr : Region.ready md ops listed = [i, k]) (hw : Region.wanted o (yielded ops a.tmps) = true) (hw' : Region.wanted o' (yielded ops a.tmps) = true)
    (h : ∀ K' : Act → World → Prop, Shut (∀ a w, S w → wpAnyH P md ops Q S fuel (listed.setIfInBounds i true) a w → K' a w) → Oper.wp P o a w K' Q)
    (h' : ∀ K' : Act → World → Prop, Shut (∀ a w, S w → wpAnyH P md ops Q S fuel (listed.setIfInBounds k true) a w → K' a w) → Oper.wp P o' a w K' Q) : wpAnyH P md ops Q S (fuel + 1) listed a w :=
  wpAnyH_ready hr (by simp) (AllReadyH.cons ho (fun K hK => by rw [if_pos hw]; exact h K (fun a w hS hW => hK.out a w hS (fun _ => hW))) (AllReadyH.cons ho' (fun K hK => by rw [if_pos hw']; exact h' K (fun a w hS hW => hK.out a w hS (fun _ => hW))) AllReadyH.nil))
/-- A store that comes up alone, into a block that is known whole. -/
theorem store_at {P : Program} {w : World} {op : Oper} {a : Act} {K : Act → World → Prop} {Q : Exit → Act → World → Prop} (ty : TypeId) (x y : Operand) (ho : op.op = .store ty x y) (hd : op.dst = none)
    (b : Nat) (cells : List Value) (hx : a.eval x = .pointer (some ⟨b, 0, none⟩)) (hy : a.eval y = .agg cells.toArray) {cur : List Value} {t : TypeId} (hb : Blk w b cur t) (hl : cells.length = cur.length)
    (hi : (P.info? ty).map (·.size) = some cells.length) (h1 : ∀ v ∈ cells, v.oneCell' = true)
    (h : ∀ w', Blk w' b cells t → Only [b] w w' → K (a.put none undef) w') : Oper.wp P op a w K Q := by
  refine wp_store_mid ty x y ho b 0 cells.toArray hx hy (fun j hj => ?_) (by simpa using hi) (all_oneCell_toArray h1) ?_
  · have hj' : j < cur.length := by rw [← hl]; simpa using hj
    rw [Nat.zero_add, hb.cell, List.getElem?_eq_getElem hj']
    exact ⟨rfl, hb.frozen j⟩
  · rw [hd]
    refine h _ ((hb.setCells cells 0 (by omega)).to ?_) (Only.setCells _ _ (Only.refl _ _) (.inl (by simp)))
    simp [splice, hl]
/-- An append that comes up alone: kit/Grow's law, the slot written out. -/
theorem grow_at {P : Program} {w : World} {o : Oper} {a : Act} {K : Act → World → Prop} {Q : Exit → Act → World → Prop} (d : Nat) (hd : o.dst = some d) (s x : Operand) (t : TypeId)
    (ho : o.op = .call { callee := .builtin .append, args := #[s, x], argTypes := #[t, t] })
    (e : TypeId) (ht : P.underlying t = some (.slice e)) {z : Value} {size bytes : Nat} (hi : ∃ i, P.info? e = some i ∧ i.zero = some z ∧ i.size = size ∧ i.bytes = bytes) (hzs : z.cells.size = size) (hsz : 0 < size)
    (v : Value) (n : Nat) (xs : List Value) (hs : a.eval s = v) (hown : w.ownsRow 0 e size v n xs) (so : Option Addr) (m c : Nat) (hx : a.eval x = .slice so m c) (news : List Value) (hl : news.length = m * size)
    (hcell : 0 < m → ∃ ad, so = some ad ∧ ∀ j u, news[j]? = some u → w.cell? (ad.add j) = some u) (h1 : ∀ u ∈ news, u.oneCell' = true) (hnm : n + m ≤ 16777216) (hb : bytes ≤ 1024)
    (h : ∀ v' w', Grew w w' e size v v' (n + m) (xs ++ news) → K (a.put (some d) v') w') : Oper.wp P o a w K Q := by
  rw [← hd] at h
  exact wp_grow s x t ho e ht hi hzs hsz v n xs hs hown so m c hx news hl hcell h1 hnm hb h
end
end Go.Proofs.Ytikonbnhbalpmaa
