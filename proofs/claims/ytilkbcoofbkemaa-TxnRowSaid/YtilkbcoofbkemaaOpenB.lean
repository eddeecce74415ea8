/-
  Arguments opened: slices of bools.
-/
import Derived.Test.YtilkbcoofbkemaaOpenS
namespace Go.Proofs.Ytilkbcoofbkemaa
set_option linter.unusedSimpArgs false
open Go.ChangeShapes Go.WideShapes Go.RowKit
section
variable {H : Type} {enc : TypeId × Value → H} {P : Program} {w : World} {base : Nat} {held : Bool}
/-- A slice of bools that reads as a list, wherever it lies. -/
def BoolsAt (w : World) (v : Value) (l : List Bool) : Prop :=
  ∃ ao cap, v = .slice ao l.length cap ∧ (0 < l.length → ∃ b o, ao = some ⟨b, o, none⟩ ∧ ∀ j, j < l.length → w.cell? ⟨b, o + j, none⟩ = some (.bool (l.getD j false)))
theorem open_bools {t e : TypeId} {r : Reach} {b0 : Nat} {v : Value} {d : DataW H} {ps : List MemPlace} (ht : P.underlying t = some (.slice e)) (he : P.underlying e = some .bool) (hc : P.cellsOf e = 1)
    (hv : Value.okWide P w r b0 t v) (h : DataW.Trod enc P w base (fun _ => true) held t v d ps) : ∃ l : List Bool, BoolsAt w v l := by
  obtain ⟨a0, len0, cap0, rfl⟩ := okWide_slice ht hv
  obtain ⟨fuel, hf⟩ := h
  obtain ⟨ao, len, cap, hcs, _, _, h0, hel⟩ := slice_trod ht (by omega) hf
  simp only [Value.cells, List.cons.injEq, Value.slice.injEq, and_true] at hcs
  obtain ⟨rfl, rfl, rfl⟩ := hcs
  have key : ∀ i, ∃ z : Bool, i < len0 → ∃ b o, a0 = some ⟨b, o, none⟩ ∧ w.cell? ⟨b, o + i, none⟩ = some (.bool z) := by
    intro i
    by_cases hi : i < len0
    · obtain ⟨b, o, es, n, y, rfl, hl, hcell, hy⟩ := hel i hi
      obtain ⟨z, rfl, _⟩ := DataW.trod_bool he hy
      refine ⟨z, fun _ => ⟨b, o, rfl, ?_⟩⟩
      have := hcell 0 (by omega)
      rw [hc, Nat.mul_one, Nat.add_zero] at this
      exact this
    · exact ⟨false, fun h => absurd h hi⟩
  let f := fun i => (key i).choose
  have hf : ∀ i, i < len0 → ∃ b o, a0 = some ⟨b, o, none⟩ ∧ w.cell? ⟨b, o + i, none⟩ = some (.bool (f i)) := fun i => (key i).choose_spec
  refine ⟨(List.range len0).map f, a0, cap0, by simp, fun hp => ?_⟩
  have hp' : 0 < len0 := by simpa using hp
  obtain ⟨b, o, rfl⟩ := h0 hp'
  refine ⟨b, o, rfl, fun j hj => ?_⟩
  have hj' : j < len0 := by simpa using hj
  obtain ⟨b', o', he', hc'⟩ := hf j hj'
  simp only [Option.some.injEq, Addr.mk.injEq, and_true] at he'
  obtain ⟨rfl, rfl⟩ := he'
  rw [hc', List.getD_eq_getElem?_getD, List.getElem?_map, List.getElem?_range hj']
  rfl
end
end Go.Proofs.Ytilkbcoofbkemaa
