/-
  The steps of the laws on transactions, as the walks ask them.
-/
import Derived.Test.YtilkbcoofbkemaaProg
import Derived.Test.YtilkbcoofbkemaaOpenS
namespace Go.Proofs.Ytilkbcoofbkemaa.T
set_option linter.unusedSimpArgs false
open Go Go.RowKit
set_option linter.unusedVariables false
structure StepD where
  what : Int
  a : Nat
  b : Nat
  c : Nat
  which : Int
def stepCells (s : StepD) : List Value := [.int .i64 s.what, .int .u64 s.a, .int .u64 s.b, .int .u64 s.c, .int .i64 s.which]
structure StepOk (s : StepD) : Prop where
  what : -9223372036854775808 ≤ s.what ∧ s.what ≤ 9223372036854775807
  a : s.a < 18446744073709551616
  b : s.b < 18446744073709551616
  c : s.c < 18446744073709551616
  which : -9223372036854775808 ≤ s.which ∧ s.which ≤ 9223372036854775807
def stepZ : StepD := ⟨0, 0, 0, 0, 0⟩
def StepsAt (w : World) (v : Value) (l : List StepD) : Prop :=
  ∃ ao cap, v = .slice ao l.length cap ∧ l.length ≤ maxLen ∧ (0 < l.length → ∃ b o, ao = some ⟨b, o, none⟩ ∧ ∀ i, i < l.length → StepOk (l.getD i stepZ) ∧ ∀ j, j < 5 → w.cell? ⟨b, o + i * 5 + j, none⟩ = (stepCells (l.getD i stepZ))[j]?)
section
open Go.ChangeShapes Go.WideShapes
variable {H : Type} {enc : TypeId × Value → H} {w : World} {base : Nat} {spare : Nat → Bool} {held : Bool}
theorem cells_step : Try.prog.cellsOf 49 = 5 := by kernel_rfl
theorem cells_int : Try.prog.cellsOf 3 = 1 := by kernel_rfl
theorem cells_u64 : Try.prog.cellsOf 26 = 1 := by kernel_rfl
set_option maxRecDepth 100000 in
theorem step_trod {fuel : Nat} {es : List Value} {x : DataW H × List MemPlace} (hl : es.length = 5) (h : DataW.trod enc Try.prog w base spare held fuel 49 es = some x) :
    ∃ s : StepD, es = stepCells s ∧ StepOk s := by
  obtain ⟨e0, e1, e2, e3, e4, rfl⟩ : ∃ e0 e1 e2 e3 e4, es = [e0, e1, e2, e3, e4] := by
    match es, hl with
    | [e0, e1, e2, e3, e4], _ => exact ⟨_, _, _, _, _, rfl⟩
  obtain ⟨n0, y0, h0⟩ := field_trod Try.underlying49 h 0 _ rfl
  obtain ⟨n1, y1, h1⟩ := field_trod Try.underlying49 h 1 _ rfl
  obtain ⟨n2, y2, h2⟩ := field_trod Try.underlying49 h 2 _ rfl
  obtain ⟨n3, y3, h3⟩ := field_trod Try.underlying49 h 3 _ rfl
  obtain ⟨n4, y4, h4⟩ := field_trod Try.underlying49 h 4 _ rfl
  change DataW.trod enc Try.prog w base spare held n0 3 (([e0, e1, e2, e3, e4].drop 0).take (Try.prog.cellsOf 3)) = some y0 at h0
  rw [cells_int] at h0
  change DataW.trod enc Try.prog w base spare held n1 26 (([e0, e1, e2, e3, e4].drop 1).take (Try.prog.cellsOf 26)) = some y1 at h1
  rw [cells_u64] at h1
  change DataW.trod enc Try.prog w base spare held n2 26 (([e0, e1, e2, e3, e4].drop 2).take (Try.prog.cellsOf 26)) = some y2 at h2
  rw [cells_u64] at h2
  change DataW.trod enc Try.prog w base spare held n3 26 (([e0, e1, e2, e3, e4].drop 3).take (Try.prog.cellsOf 26)) = some y3 at h3
  rw [cells_u64] at h3
  change DataW.trod enc Try.prog w base spare held n4 3 (([e0, e1, e2, e3, e4].drop 4).take (Try.prog.cellsOf 3)) = some y4 at h4
  rw [cells_int] at h4
  obtain ⟨z0, g0, _, w0⟩ := DataW.trod_int Try.underlying3 h0
  obtain ⟨z1, g1, _, w1⟩ := DataW.trod_int Try.underlying26 h1
  obtain ⟨z2, g2, _, w2⟩ := DataW.trod_int Try.underlying26 h2
  obtain ⟨z3, g3, _, w3⟩ := DataW.trod_int Try.underlying26 h3
  obtain ⟨z4, g4, _, w4⟩ := DataW.trod_int Try.underlying3 h4
  have b1 := u64_bounds w1
  have b2 := u64_bounds w2
  have b3 := u64_bounds w3
  obtain ⟨n1, rfl⟩ := Int.eq_ofNat_of_zero_le b1.1
  obtain ⟨n2, rfl⟩ := Int.eq_ofNat_of_zero_le b2.1
  obtain ⟨n3, rfl⟩ := Int.eq_ofNat_of_zero_le b3.1
  simp only [List.drop_zero, List.drop_succ_cons, List.take_succ_cons, List.take_zero, List.cons.injEq, and_true] at g0 g1 g2 g3 g4
  subst g0 g1 g2 g3 g4
  exact ⟨⟨z0, n1, n2, n3, z4⟩, rfl, i64_bounds w0, by show n1 < _; omega, by show n2 < _; omega, by show n3 < _; omega, i64_bounds w4⟩
set_option maxRecDepth 100000 in
theorem open_steps {b0 : Nat} {r : Reach} {v : Value} {d : DataW H} {ps : List MemPlace} (hv : Value.okWide Try.prog w r b0 43 v) (h : DataW.Trod enc Try.prog w base spare held 43 v d ps) : ∃ l : List StepD, StepsAt w v l := by
  obtain ⟨a0, len, cap, rfl⟩ := okWide_slice Try.underlying43 hv
  obtain ⟨fuel, hf⟩ := h
  obtain ⟨ao, len', cap', hcs, hlc, hcm, h0, hel⟩ := slice_trod Try.underlying43 (by rw [cells_step]; omega) hf
  simp only [Value.cells, List.cons.injEq, Value.slice.injEq, and_true] at hcs
  obtain ⟨rfl, rfl, rfl⟩ := hcs
  rw [cells_step] at hel
  have key : ∀ i, ∃ s : StepD, i < len → ∃ b o, a0 = some ⟨b, o, none⟩ ∧ StepOk s ∧ ∀ j, j < 5 → w.cell? ⟨b, o + i * 5 + j, none⟩ = (stepCells s)[j]? := by
    intro i
    by_cases hi : i < len
    · obtain ⟨b, o, es, n, y, rfl, hl, hcell, hy⟩ := hel i hi
      obtain ⟨s, rfl, hk⟩ := step_trod hl hy
      exact ⟨s, fun _ => ⟨b, o, rfl, hk, hcell⟩⟩
    · exact ⟨stepZ, fun h => absurd h hi⟩
  let f := fun i => (key i).choose
  have hf2 : ∀ i, i < len → ∃ b o, a0 = some ⟨b, o, none⟩ ∧ StepOk (f i) ∧ ∀ j, j < 5 → w.cell? ⟨b, o + i * 5 + j, none⟩ = (stepCells (f i))[j]? := fun i => (key i).choose_spec
  refine ⟨(List.range len).map f, a0, cap, by simp, by simp; omega, fun hp => ?_⟩
  have hp' : 0 < len := by simpa using hp
  obtain ⟨b, o, rfl⟩ := h0 hp'
  refine ⟨b, o, rfl, fun j hj => ?_⟩
  have hj' : j < len := by simpa using hj
  obtain ⟨b', o', he', hk, hc'⟩ := hf2 j hj'
  simp only [Option.some.injEq, Addr.mk.injEq, and_true] at he'
  obtain ⟨rfl, rfl⟩ := he'
  rw [List.getD_eq_getElem?_getD, List.getElem?_map, List.getElem?_range hj']
  exact ⟨hk, hc'⟩
end
end Go.Proofs.Ytilkbcoofbkemaa.T
