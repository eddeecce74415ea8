import Derived.Test.YtfkmjbpnjgnkbaaGreatProg
import Derived.Test.YtfkmjbpnjgnkbaaGreatMMaps
import Derived.RangeFuncBox
import Derived.RangeFuncLeaves
import Derived.Shelf.Abstract
import Derived.WalkKit
import Derived.OwnWalkIn
import Derived.TacticsInMore
import Derived.LoopNIn
import Derived.LoopIn
import Derived.Maps.AppendAt
import Derived.Sort.MapsRangeIn
import Derived.Sort.LoopGhostIn
/-
  maps.Keys and slices.Collect over a map whose keys are ints of one kind: each key once, in some order.
-/
namespace Go.Proofs.YtfkmjbpnjgnkbaaGreat.IR
set_option linter.unusedSimpArgs false
open Go Go.RowKit Go.Shelf
set_option linter.unusedVariables false
attribute [local go_sem] Oper.semAt_some

abbrev kq : IntKind := .u64
section
variable {F : Fence} {nF : Nat} {P : Program} {w : World} {ops : Array Oper} {rest : List Oper} {o : Oper} {a : Act} {Q : Exit → Act → World → Prop}
theorem wpListIn_range (hg : o.guard = none) (x : Operand) (t : TypeId) (ho : o.op = Op.range t x) {tk e : TypeId} {q : IntKind} (ht : P.underlying t = some (.map tk e)) (b : Nat) (m : Pairs) (hx : a.eval x = .map (some b)) (hm : MapAt w b q m)
    (h : ∀ w', IterAt w' w.heap.size b q m m → Only [] w w' → w.grownBy w' none → wpListIn F nF P ops Q rest (a.put o.dst (.pointer (some ⟨w.heap.size, 0, none⟩))) w') : wpListIn F nF P ops Q (o :: rest) a w := by
  refine wpListIn_plain hg fun K' hK' => ?_
  obtain ⟨w', hrun, h1, h2, h3⟩ := hm.range ht
  unfold Oper.wpIn
  refine ⟨by simp [Oper.about, ho], ?_⟩
  rw [Oper.semAt_plain F _ _ (by rw [ho]; intro c hc'; cases hc')]
  simp [execOp, ho, hx, hrun, Result.andThen]
  exact hK' _ _ (h w' h1 h2 ⟨h2.os, h2.tape, h2.output, h2.size, fun i hi _ => h2.block i hi (by simp)⟩)
theorem wpListIn_next (hg : o.guard = none) (x : Operand) (ho : o.op = Op.next x false) {q : IntKind} (r b : Nat) (m left : Pairs) (hx : a.eval x = .pointer (some ⟨r, 0, none⟩)) (hm : IterAt w r b q m left)
    (h0 : left = [] → wpListIn F nF P ops Q rest (a.put o.dst (.tuple #[.bool false])) w)
    (h : ∀ (x : Int) (u : Value) w', (x, u) ∈ left → IterAt w' r b q m (mdel left x) → w.grownBy w' (some r) → (Instr.entry (.pointer (some ⟨r, 0, none⟩))).run P w' = .ok (.tuple #[.int q x, u]) w' →
      wpListIn F nF P ops Q rest (a.put o.dst (.tuple #[.bool true, .int q x, u])) w') : wpListIn F nF P ops Q (o :: rest) a w := by
  refine wpListIn_plain hg fun K' hK' => ?_
  unfold Oper.wpIn
  refine ⟨by simp [Oper.about, ho], ?_⟩
  rw [Oper.semAt_plain F _ _ (by rw [ho]; intro c hc'; cases hc')]
  rcases hm.next (P := P) o.type with ⟨h1, hrun⟩ | ⟨p, hp, w', hrun, h1, h2, h3, h4⟩
  · simp [execOp, ho, hx, hrun, Result.andThen]
    exact hK' _ _ (h0 h1)
  · simp [execOp, ho, hx, hrun, Result.andThen]
    exact hK' _ _ (h p.1 p.2 w' hp h1 ⟨h2.os, h2.tape, h2.output, h2.size, fun i hi hn => h2.block i hi (by simp only [List.mem_cons, List.not_mem_nil, or_false]; exact fun e => hn (by rw [e]))⟩ h4)
end
theorem IterAt.walks {w w' : World} {r b : Nat} {q : IntKind} {m left : Pairs} (h : IterAt w r b q m left) (hk : KeepsWalks w w') : IterAt w' r b q m left := by
  obtain ⟨es, c, s, c0, h1, h2, h3, h4, h5⟩ := h
  exact ⟨es, c, s, c0, hk.same b _ h1 rfl, h2, h3, hk.same r _ h4 rfl, h5⟩
theorem IterAt.walk {w : World} {r b : Nat} {q : IntKind} {m left : Pairs} (h : IterAt w r b q m left) : ∃ o : Obj, w.heap[r]? = some o ∧ o.isWalk = true := by
  obtain ⟨es, c, s, c0, h1, h2, h3, h4, h5⟩ := h
  exact ⟨_, h4, rfl⟩
theorem perm_take {left : Pairs} {p : Int × Value} (hp : p ∈ left) (hn : (left.map (·.1)).Nodup) : (left.map (·.1)).Perm (p.1 :: (mdel left p.1).map (·.1)) := by
  rw [← filter_ne]
  induction left with
  | nil => cases hp
  | cons x l ih =>
    simp only [List.map_cons, List.nodup_cons] at hn
    by_cases e : x.1 = p.1
    · have : (l.filter fun y => y.1 ≠ p.1) = l := List.filter_eq_self.2 (fun y hy => by
        have : y.1 ≠ x.1 := fun h => hn.1 (by rw [← h]; exact List.mem_map_of_mem hy)
        simp [← e, this])
      rw [List.filter_cons_of_neg (by simpa using e), this, List.map_cons, e]
    · have hp' : p ∈ l := by
        rcases List.mem_cons.1 hp with h | h
        · exact absurd (congrArg Prod.fst h.symm) e
        · exact h
      rw [List.filter_cons_of_pos (by simpa using e), List.map_cons, List.map_cons]
      exact ((ih hp' hn.2).cons x.1).trans (List.Perm.swap _ _ _)

theorem info_key : (Tryz.prog.info? 29).map (fun i => (i.zero, i.size, i.bytes)) = some (some (.int kq 0), 1, 8) := by kernel_rfl
/-- The keys, rising. -/
def rising (l : List Int) : List Int := l.mergeSort (fun x y => decide (x ≤ y))
theorem rising_perm (l : List Int) : (rising l).Perm l := List.mergeSort_perm _ _
theorem rising_len (l : List Int) : (rising l).length = l.length := (rising_perm l).length_eq
theorem rising_sorted (l : List Int) : (rising l).Pairwise (· ≤ ·) := by
  have h := List.pairwise_mergeSort (le := fun x y : Int => decide (x ≤ y)) (fun a b c => by simp; omega) (fun a b => by simp; omega) l
  exact h.imp (fun h => by simpa using h)
theorem rising_eq {l k : List Int} (h : l.Perm k) : rising l = rising k :=
  List.Perm.eq_of_pairwise (le := (· ≤ ·)) (fun a b _ _ h1 h2 => Int.le_antisymm h1 h2) (rising_sorted l) (rising_sorted k) (((rising_perm l).trans h).trans (rising_perm k).symm)
/-- What slices.Sort does to a row of the caller's own. -/
def Sorts (w : World) (g n cap : Nat) (l : List Int) (e : Ending) (w' : World) : Prop :=
  e = .returned (.tuple #[]) ∧ w'.ownsRow 0 29 1 (.slice (some ⟨g, 0, none⟩) n cap) n ((rising l).map (Value.int kq)) ∧ Only [g] w w'
/-- A slice of keys of the caller's own. -/
def KeyRow (w w' : World) (v : Value) (l : List Int) : Prop := w'.ownsRow 0 29 1 v l.length (l.map (Value.int kq)) ∧ (∀ k, v.ownBlock = some k → w.heap.size ≤ k) ∧ Only [] w w'
end Go.Proofs.YtfkmjbpnjgnkbaaGreat.IR
