/-
  Arguments opened: slices of structs; slices of ints inside of them.
-/
import Derived.Test.YtdgnndcnpmlifaaOpen
namespace Go.Proofs.Ytdgnndcnpmlifaa
set_option linter.unusedSimpArgs false
open Go.ChangeShapes Go.WideShapes Go.RowKit
section
variable {H : Type} {enc : TypeId × Value → H} {P : Program} {w : World} {base : Nat} {spare : Nat → Bool} {held : Bool}

/-- A slice whose elements read: where it lies, and each element's cells. -/
theorem slice_trod {t e : TypeId} {fuel : Nat} {cs : List Value} {x : DataW H × List MemPlace} (ht : P.underlying t = some (.slice e)) (hc : 0 < P.cellsOf e) (h : DataW.trod enc P w base spare held fuel t cs = some x) :
    ∃ ao len cap, cs = [.slice ao len cap] ∧ len ≤ cap ∧ cap ≤ maxLen ∧ (0 < len → ∃ b o, ao = some ⟨b, o, none⟩) ∧ ∀ i, i < len → ∃ b o es n y, ao = some ⟨b, o, none⟩ ∧ es.length = P.cellsOf e ∧ (∀ j, j < P.cellsOf e → w.cell? ⟨b, o + i * P.cellsOf e + j, none⟩ = es[j]?) ∧ DataW.trod enc P w base spare held n e es = some y := by
  rcases DataW.trod_slice ht h with ⟨rfl, _⟩ | ⟨a, len, cap, elems, rest, n, _, rfl, _, hb, hlc, hcm, hel, hcells, _⟩
  · exact ⟨none, 0, 0, rfl, Nat.le_refl _, by unfold maxLen; omega, fun h => by omega, fun i hi => by omega⟩
  · have key : ∀ i, i < len → ∃ es y, w.cells? base (a.add (i * P.cellsOf e)) (P.cellsOf e) = some es ∧ DataW.trod enc P w base spare held n e es = some y := by
      intro i hi
      have h1 := hcells i hi
      rw [List.getElem?_eq_getElem (by omega)] at h1
      simp only [Option.bind_eq_some_iff] at h1
      obtain ⟨es, h2, h3⟩ := h1
      exact ⟨es, _, h2, h3⟩
    have hplain : 0 < len → a = ⟨a.block, a.off, none⟩ := by
      intro h0
      obtain ⟨es, y, h1, _⟩ := key 0 h0
      obtain ⟨_, hl, hcell⟩ := World.cells?_some h1
      have h2 := hcell 0 (by omega)
      rw [List.getElem?_eq_getElem (by omega)] at h2
      rw [show (a.add (0 * P.cellsOf e)).add 0 = a by simp [Addr.add]] at h2
      exact addr_plain h2
    refine ⟨some a, len, cap, rfl, hlc, hcm, fun h0 => ⟨a.block, a.off, by rw [← hplain h0]⟩, fun i hi => ?_⟩
    obtain ⟨es, y, h1, h2⟩ := key i hi
    obtain ⟨_, hl, hcell⟩ := World.cells?_some h1
    refine ⟨a.block, a.off, es, n, y, by rw [← hplain (by omega)], hl, fun j hj => ?_, h2⟩
    have h3 := hcell j (by omega)
    rw [hplain (by omega), add_plain, add_plain] at h3
    exact h3
theorem ints_trod {t e : TypeId} {fuel : Nat} {cs : List Value} {x : DataW H × List MemPlace} (ht : P.underlying t = some (.slice e)) (he : P.underlying e = some (.int .i64)) (hc : P.cellsOf e = 1) (h : DataW.trod enc P w base spare held fuel t cs = some x) :
    ∃ v l, cs = [v] ∧ IntsAt w v l := by
  obtain ⟨ao, len, cap, rfl, _, _, h0, hel⟩ := slice_trod ht (by omega) h
  have key : ∀ i, ∃ z : Int, i < len → ∃ b o, ao = some ⟨b, o, none⟩ ∧ w.cell? ⟨b, o + i, none⟩ = some (.int .i64 z) := by
    intro i
    by_cases hi : i < len
    · obtain ⟨b, o, es, n, y, rfl, hl, hcell, hy⟩ := hel i hi
      obtain ⟨z, rfl, _, _⟩ := DataW.trod_int he hy
      refine ⟨z, fun _ => ⟨b, o, rfl, ?_⟩⟩
      have := hcell 0 (by omega)
      rw [hc, Nat.mul_one, Nat.add_zero] at this
      exact this
    · exact ⟨0, fun h => absurd h hi⟩
  let f := fun i => (key i).choose
  have hf : ∀ i, i < len → ∃ b o, ao = some ⟨b, o, none⟩ ∧ w.cell? ⟨b, o + i, none⟩ = some (.int .i64 (f i)) := fun i => (key i).choose_spec
  refine ⟨_, (List.range len).map f, rfl, ao, cap, by simp, fun hp => ?_⟩
  have hp' : 0 < len := by simpa using hp
  obtain ⟨b, o, rfl⟩ := h0 hp'
  refine ⟨b, o, rfl, fun j hj => ?_⟩
  have hj' : j < len := by simpa using hj
  obtain ⟨b', o', he', hc'⟩ := hf j hj'
  simp only [Option.some.injEq, Addr.mk.injEq, and_true] at he'
  obtain ⟨rfl, rfl⟩ := he'
  rw [hc', List.getD_eq_getElem?_getD, List.getElem?_map, List.getElem?_range hj']
  rfl
/-- A field of a struct that reads. -/
theorem field_trod {t : TypeId} {fs : Array Field} {fuel : Nat} {cs : List Value} {x : DataW H × List MemPlace} (ht : P.underlying t = some (.struct fs)) (h : DataW.trod enc P w base spare held fuel t cs = some x) (i : Nat) (f : Field) (hf : fs[i]? = some f) :
    ∃ n y, DataW.trod enc P w base spare held n f.type ((cs.drop f.offset).take (P.cellsOf f.type)) = some y := by
  obtain ⟨xs, n, _, _, _, hl, hfd⟩ := DataW.trod_struct ht h
  have h1 := hfd i f hf
  have hi : i < fs.size := by
    rcases Nat.lt_or_ge i fs.size with h2 | h2
    · exact h2
    · rw [Array.getElem?_eq_none h2] at hf; cases hf
  rw [List.getElem?_eq_getElem (by omega)] at h1
  exact ⟨n, _, h1⟩
end
end Go.Proofs.Ytdgnndcnpmlifaa
