import Derived.Test.YtfkmjbpnjgnkbaaGreatMHeap
import Derived.ProofKit
import Derived.OpenShut
import Derived.SizedLaws
/-
  Arguments opened: small ints, slices of bytes and of ints, as the walks ask them.
-/
namespace Go.Proofs.YtfkmjbpnjgnkbaaGreat
set_option linter.unusedSimpArgs false
open Go.ChangeShapes Go.WideShapes Go.RowKit
section
variable {H : Type} {enc : TypeId × Value → H} {P : Program} {w : World} {base : Nat} {spare : Nat → Bool} {held : Bool}

theorem u8_of {a : Int} (h : (Lit.int .u8 a).wf = true) : ∃ b : UInt8, a = b.toNat := by
  have hx : 0 ≤ a ∧ a ≤ 255 := by simpa [Lit.wf, IntKind.min, IntKind.max, IntKind.signed, IntKind.bits] using h
  refine ⟨UInt8.ofNat a.toNat, ?_⟩
  rw [UInt8.toNat_ofNat']
  omega
theorem i64_bounds {a : Int} (h : (Lit.int .i64 a).wf = true) : -9223372036854775808 ≤ a ∧ a ≤ 9223372036854775807 := by
  simpa [Lit.wf, IntKind.min, IntKind.max, IntKind.signed, IntKind.bits] using h
theorem u64_bounds {a : Int} (h : (Lit.int .u64 a).wf = true) : 0 ≤ a ∧ a ≤ 18446744073709551615 := by
  simpa [Lit.wf, IntKind.min, IntKind.max, IntKind.signed, IntKind.bits] using h

/-- A slice of bytes that reads as a list, wherever it lies. -/
def BytesAt (w : World) (v : Value) (l : List UInt8) : Prop :=
  ∃ ao cap, v = .slice ao l.length cap ∧ (0 < l.length → ∃ b o, ao = some ⟨b, o, none⟩ ∧ ∀ j, j < l.length → w.cell? ⟨b, o + j, none⟩ = some (.int .u8 (l.getD j 0).toNat))
/-- A slice of ints that reads as a list, wherever it lies. -/
def IntsAt (w : World) (v : Value) (l : List Int) : Prop :=
  ∃ ao cap, v = .slice ao l.length cap ∧ (0 < l.length → ∃ b o, ao = some ⟨b, o, none⟩ ∧ ∀ j, j < l.length → w.cell? ⟨b, o + j, none⟩ = some (.int .i64 (l.getD j 0)))

theorem addr_plain {a : Addr} {v : Value} (h : w.cell? a = some v) : a = ⟨a.block, a.off, none⟩ := by
  obtain ⟨b, o, s⟩ := a
  cases s with
  | none => rfl
  | some s => simp only [World.cell?, Option.isSome_some, if_true] at h; split at h <;> cases h
theorem add_plain (b o j : Nat) : (⟨b, o, none⟩ : Addr).add j = ⟨b, o + j, none⟩ := by unfold Addr.add; split <;> simp_all

theorem open_bytes {t e : TypeId} {r : Reach} {b0 : Nat} {v : Value} {d : DataW H} {ps : List MemPlace} (ht : P.underlying t = some (.slice e)) (he : P.underlying e = some (.int .u8)) (hc : P.cellsOf e = 1)
    (hv : Value.okWide P w r b0 t v) (h : DataW.Trod enc P w base (fun _ => true) held t v d ps) : ∃ l : List UInt8, BytesAt w v l := by
  obtain ⟨a0, len, cap, rfl⟩ := okWide_slice ht hv
  obtain ⟨fuel, hf⟩ := h
  rcases open_ints ht he hc hf with ⟨hcs, _⟩ | ⟨a, len', cap', zs, hcs, _, hl, hm, hz, _, hcell, hwz⟩
  · simp only [Value.cells, List.cons.injEq, Value.slice.injEq, and_true] at hcs
    obtain ⟨rfl, rfl, rfl⟩ := hcs
    exact ⟨[], none, 0, rfl, fun h => by simp at h⟩
  · simp only [Value.cells, List.cons.injEq, Value.slice.injEq, and_true] at hcs
    obtain ⟨rfl, rfl, rfl⟩ := hcs
    simp only [if_true] at hz
    refine ⟨(zs.take len).map (fun z => UInt8.ofNat z.toNat), some a, cap, by simp; omega, fun hp => ?_⟩
    have hp' : 0 < len := by simp at hp; omega
    have h0 := hcell 0 (by omega)
    rw [show a.add 0 = a from by simp [Addr.add]] at h0
    refine ⟨a.block, a.off, by rw [← addr_plain h0], fun j hj => ?_⟩
    have hj' : j < len := by simp at hj; omega
    have hcj := hcell j (by omega)
    rw [addr_plain h0, add_plain] at hcj
    rw [hcj]
    have hzj : j < zs.length := by omega
    have hw := hwz zs[j] (List.getElem_mem hzj)
    have hx : 0 ≤ zs[j] ∧ zs[j] ≤ 255 := by simpa [Lit.wf, IntKind.min, IntKind.max, IntKind.signed, IntKind.bits] using hw
    congr 2
    rw [List.getD_eq_getElem?_getD, List.getD_eq_getElem?_getD, List.getElem?_eq_getElem hzj, List.getElem?_map, List.getElem?_take, if_pos hj', List.getElem?_eq_getElem hzj]
    simp only [Option.map_some, Option.getD_some, UInt8.toNat_ofNat']
    omega
theorem open_ints64 {t e : TypeId} {r : Reach} {b0 : Nat} {v : Value} {d : DataW H} {ps : List MemPlace} (ht : P.underlying t = some (.slice e)) (he : P.underlying e = some (.int .i64)) (hc : P.cellsOf e = 1)
    (hv : Value.okWide P w r b0 t v) (h : DataW.Trod enc P w base (fun _ => true) held t v d ps) : ∃ l : List Int, IntsAt w v l := by
  obtain ⟨a0, len, cap, rfl⟩ := okWide_slice ht hv
  obtain ⟨fuel, hf⟩ := h
  rcases open_ints ht he hc hf with ⟨hcs, _⟩ | ⟨a, len', cap', zs, hcs, _, hl, hm, hz, _, hcell, hwz⟩
  · simp only [Value.cells, List.cons.injEq, Value.slice.injEq, and_true] at hcs
    obtain ⟨rfl, rfl, rfl⟩ := hcs
    exact ⟨[], none, 0, rfl, fun h => by simp at h⟩
  · simp only [Value.cells, List.cons.injEq, Value.slice.injEq, and_true] at hcs
    obtain ⟨rfl, rfl, rfl⟩ := hcs
    simp only [if_true] at hz
    refine ⟨zs.take len, some a, cap, by simp; omega, fun hp => ?_⟩
    have hp' : 0 < len := by simp at hp; omega
    have h0 := hcell 0 (by omega)
    rw [show a.add 0 = a from by simp [Addr.add]] at h0
    refine ⟨a.block, a.off, by rw [← addr_plain h0], fun j hj => ?_⟩
    have hj' : j < len := by simp at hj; omega
    have hcj := hcell j (by omega)
    rw [addr_plain h0, add_plain] at hcj
    rw [hcj]
    congr 2
    rw [List.getD_eq_getElem?_getD, List.getD_eq_getElem?_getD, List.getElem?_take, if_pos hj']
end
end Go.Proofs.YtfkmjbpnjgnkbaaGreat

/-
  Arguments opened: slices of structs; slices of ints inside of them.
-/
namespace Go.Proofs.YtfkmjbpnjgnkbaaGreat
set_option linter.unusedSimpArgs false
open Go.ChangeShapes Go.WideShapes Go.RowKit
section
variable {H : Type} {enc : TypeId × Value → H} {P : Program} {w : World} {base : Nat} {spare : Nat → Bool} {held : Bool}

/-- A slice whose elements read: where it lies, and each element's cells. -/
theorem slice_trod {t e : TypeId} {fuel : Nat} {cs : List Value} {x : DataW H × List MemPlace} (ht : P.underlying t = some (.slice e)) (hc : 0 < P.cellsOf e) (h : DataW.trod enc P w base spare held fuel t cs = some x) :
    ∃ ao len cap, cs = [.slice ao len cap] ∧ len ≤ cap ∧ cap ≤ maxLen ∧ (0 < len → ∃ b o, ao = some ⟨b, o, none⟩) ∧ ∀ i, i < len → ∃ b o es n y, ao = some ⟨b, o, none⟩ ∧ es.length = P.cellsOf e ∧ (∀ j, j < P.cellsOf e → w.cell? ⟨b, o + i * P.cellsOf e + j, none⟩ = es[j]?) ∧ DataW.trod enc P w base spare held n e es = some y := by
  rcases DataW.trod_slice ht h with ⟨rfl, _⟩ | ⟨a, len, cap, elems, rest, n, _, rfl, _, hb, hlc, hcm, hel, hcells, _⟩
  · exact ⟨none, 0, 0, rfl, Nat.le_refl _, by unfold maxLen; omega, fun h => by omega, fun i hi => by omega⟩
  · have key : ∀ i, i < len → ∃ es y, w.cells? base (a.add (i * P.cellsOf e)) (P.cellsOf e) = some es ∧ DataW.trod enc P w base spare held n e es = some y := by
      intro i hi
      have h1 := hcells i hi
      rw [List.getElem?_eq_getElem (by omega)] at h1
      simp only [Option.bind_eq_some_iff] at h1
      obtain ⟨es, h2, h3⟩ := h1
      exact ⟨es, _, h2, h3⟩
    have hplain : 0 < len → a = ⟨a.block, a.off, none⟩ := by
      intro h0
      obtain ⟨es, y, h1, _⟩ := key 0 h0
      obtain ⟨_, hl, hcell⟩ := World.cells?_some h1
      have h2 := hcell 0 (by omega)
      rw [List.getElem?_eq_getElem (by omega)] at h2
      rw [show (a.add (0 * P.cellsOf e)).add 0 = a by simp [Addr.add]] at h2
      exact addr_plain h2
    refine ⟨some a, len, cap, rfl, hlc, hcm, fun h0 => ⟨a.block, a.off, by rw [← hplain h0]⟩, fun i hi => ?_⟩
    obtain ⟨es, y, h1, h2⟩ := key i hi
    obtain ⟨_, hl, hcell⟩ := World.cells?_some h1
    refine ⟨a.block, a.off, es, n, y, by rw [← hplain (by omega)], hl, fun j hj => ?_, h2⟩
    have h3 := hcell j (by omega)
    rw [hplain (by omega), add_plain, add_plain] at h3
    exact h3
theorem ints_trod {t e : TypeId} {fuel : Nat} {cs : List Value} {x : DataW H × List MemPlace} (ht : P.underlying t = some (.slice e)) (he : P.underlying e = some (.int .i64)) (hc : P.cellsOf e = 1) (h : DataW.trod enc P w base spare held fuel t cs = some x) :
    ∃ v l, cs = [v] ∧ IntsAt w v l := by
  obtain ⟨ao, len, cap, rfl, _, _, h0, hel⟩ := slice_trod ht (by omega) h
  have key : ∀ i, ∃ z : Int, i < len → ∃ b o, ao = some ⟨b, o, none⟩ ∧ w.cell? ⟨b, o + i, none⟩ = some (.int .i64 z) := by
    intro i
    by_cases hi : i < len
    · obtain ⟨b, o, es, n, y, rfl, hl, hcell, hy⟩ := hel i hi
      obtain ⟨z, rfl, _, _⟩ := DataW.trod_int he hy
      refine ⟨z, fun _ => ⟨b, o, rfl, ?_⟩⟩
      have := hcell 0 (by omega)
      rw [hc, Nat.mul_one, Nat.add_zero] at this
      exact this
    · exact ⟨0, fun h => absurd h hi⟩
  let f := fun i => (key i).choose
  have hf : ∀ i, i < len → ∃ b o, ao = some ⟨b, o, none⟩ ∧ w.cell? ⟨b, o + i, none⟩ = some (.int .i64 (f i)) := fun i => (key i).choose_spec
  refine ⟨_, (List.range len).map f, rfl, ao, cap, by simp, fun hp => ?_⟩
  have hp' : 0 < len := by simpa using hp
  obtain ⟨b, o, rfl⟩ := h0 hp'
  refine ⟨b, o, rfl, fun j hj => ?_⟩
  have hj' : j < len := by simpa using hj
  obtain ⟨b', o', he', hc'⟩ := hf j hj'
  simp only [Option.some.injEq, Addr.mk.injEq, and_true] at he'
  obtain ⟨rfl, rfl⟩ := he'
  rw [hc', List.getD_eq_getElem?_getD, List.getElem?_map, List.getElem?_range hj']
  rfl
/-- A field of a struct that reads. -/
theorem field_trod {t : TypeId} {fs : Array Field} {fuel : Nat} {cs : List Value} {x : DataW H × List MemPlace} (ht : P.underlying t = some (.struct fs)) (h : DataW.trod enc P w base spare held fuel t cs = some x) (i : Nat) (f : Field) (hf : fs[i]? = some f) :
    ∃ n y, DataW.trod enc P w base spare held n f.type ((cs.drop f.offset).take (P.cellsOf f.type)) = some y := by
  obtain ⟨xs, n, _, _, _, hl, hfd⟩ := DataW.trod_struct ht h
  have h1 := hfd i f hf
  have hi : i < fs.size := by
    rcases Nat.lt_or_ge i fs.size with h2 | h2
    · exact h2
    · rw [Array.getElem?_eq_none h2] at hf; cases hf
  rw [List.getElem?_eq_getElem (by omega)] at h1
  exact ⟨n, _, h1⟩
end
end Go.Proofs.YtfkmjbpnjgnkbaaGreat

/-
  Arguments opened, with the data that they read as: where a part's data stand in the whole's. No program in sight.
-/
namespace Go.Proofs.YtfkmjbpnjgnkbaaGreat
set_option linter.unusedSimpArgs false
open Go.ChangeShapes Go.WideShapes Go.RowKit
section
variable {H : Type} {enc : TypeId × Value → H} {P : Program} {w : World} {base : Nat} {spare : Nat → Bool} {held : Bool}
/-- A slice whose elements read: as slice_trod, and each element's data are among the slice's. -/
theorem slice_trodU {t e : TypeId} {fuel : Nat} {cs : List Value} {x : DataW H × List MemPlace} (ht : P.underlying t = some (.slice e)) (hc : 0 < P.cellsOf e) (h : DataW.trod enc P w base spare held fuel t cs = some x) :
    ∃ ao len cap, cs = [.slice ao len cap] ∧ len ≤ cap ∧ cap ≤ maxLen ∧ (0 < len → ∃ b o, ao = some ⟨b, o, none⟩) ∧ (0 < len → ∃ els sp, x.1 = .slice els sp ∧ els.length = len) ∧ ∀ i, i < len → ∃ b o es n y els sp, ao = some ⟨b, o, none⟩ ∧ es.length = P.cellsOf e ∧ (∀ j, j < P.cellsOf e → w.cell? ⟨b, o + i * P.cellsOf e + j, none⟩ = es[j]?) ∧ DataW.trod enc P w base spare held n e es = some y ∧ x.1 = .slice els sp ∧ y.1 ∈ els := by
  rcases DataW.trod_slice ht h with ⟨rfl, _⟩ | ⟨a, len, cap, elems, rest, n, _, rfl, hx, hb, hlc, hcm, hel, hcells, _⟩
  · exact ⟨none, 0, 0, rfl, Nat.le_refl _, by unfold maxLen; omega, fun h => by omega, fun h => by omega, fun i hi => by omega⟩
  · have key : ∀ i, i < len → ∃ es y, w.cells? base (a.add (i * P.cellsOf e)) (P.cellsOf e) = some es ∧ DataW.trod enc P w base spare held n e es = some y ∧ y ∈ elems := by
      intro i hi
      have h1 := hcells i hi
      have hi2 : i < elems.length := by omega
      rw [List.getElem?_eq_getElem hi2] at h1
      simp only [Option.bind_eq_some_iff] at h1
      obtain ⟨es, h2, h3⟩ := h1
      exact ⟨es, _, h2, h3, List.getElem_mem hi2⟩
    have hplain : 0 < len → a = ⟨a.block, a.off, none⟩ := by
      intro h0
      obtain ⟨es, y, h1, _⟩ := key 0 h0
      obtain ⟨_, hl, hcell⟩ := World.cells?_some h1
      have h2 := hcell 0 (by omega)
      rw [List.getElem?_eq_getElem (by omega)] at h2
      rw [show (a.add (0 * P.cellsOf e)).add 0 = a by simp [Addr.add]] at h2
      exact addr_plain h2
    refine ⟨some a, len, cap, rfl, hlc, hcm, fun h0 => ⟨a.block, a.off, by rw [← hplain h0]⟩, fun _ => ⟨_, _, by rw [hx], by rw [List.length_map]; exact hel⟩, fun i hi => ?_⟩
    obtain ⟨es, y, h1, h2, h4⟩ := key i hi
    obtain ⟨_, hl, hcell⟩ := World.cells?_some h1
    refine ⟨a.block, a.off, es, n, y, _, _, by rw [← hplain (by omega)], hl, fun j hj => ?_, h2, by rw [hx], List.mem_map.2 ⟨y, h4, rfl⟩⟩
    have h3 := hcell j (by omega)
    rw [hplain (by omega), add_plain, add_plain] at h3
    exact h3
theorem field_trodU {t : TypeId} {fs : Array Field} {fuel : Nat} {cs : List Value} {x : DataW H × List MemPlace} (ht : P.underlying t = some (.struct fs)) (h : DataW.trod enc P w base spare held fuel t cs = some x) (i : Nat) (f : Field) (hf : fs[i]? = some f) :
    ∃ n y parts, DataW.trod enc P w base spare held n f.type ((cs.drop f.offset).take (P.cellsOf f.type)) = some y ∧ x.1 = .agg parts ∧ y.1 ∈ parts := by
  obtain ⟨xs, n, _, hx, _, hl, hfd⟩ := DataW.trod_struct ht h
  have h1 := hfd i f hf
  have hi : i < fs.size := by
    rcases Nat.lt_or_ge i fs.size with h2 | h2
    · exact h2
    · rw [Array.getElem?_eq_none h2] at hf; cases hf
  have hi2 : i < xs.length := by omega
  rw [List.getElem?_eq_getElem hi2] at h1
  exact ⟨n, _, _, h1, by rw [hx], List.mem_map.2 ⟨_, List.getElem_mem hi2, rfl⟩⟩
end
end Go.Proofs.YtfkmjbpnjgnkbaaGreat
