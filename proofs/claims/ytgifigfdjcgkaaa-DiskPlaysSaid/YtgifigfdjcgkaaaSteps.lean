/-
  The steps of DiskPlays, as the walk asks them.
-/
import Derived.Test.YtgifigfdjcgkaaaRefX
import Derived.Test.YtgifigfdjcgkaaaOpenS
import Derived.Test.YtgifigfdjcgkaaaLCounts
namespace Go.Proofs.Ytgifigfdjcgkaaa.D
set_option linter.unusedSimpArgs false
open Go.RowKit
set_option linter.unusedVariables false

structure StepD where
  what : Int
  i : Int
  n : Int
  fill : UInt8
  short : Bool
  keep : List Int
def stepCells (s : StepD) (kv : Value) : List Value := [.int .i64 s.what, .int .i64 s.i, .int .i64 s.n, .int .u8 s.fill.toNat, .bool s.short, kv]
/-- What a step reads as, at a place. -/
def StepAt (w : World) (b o : Nat) (s : StepD) (kv : Value) : Prop := (∀ j, j < 6 → w.cell? ⟨b, o + j, none⟩ = (stepCells s kv)[j]?) ∧ IntsAt w kv s.keep ∧ (-9223372036854775808 ≤ s.n ∧ s.n ≤ 9223372036854775807)
def stepZ : StepD := ⟨0, 0, 0, 0, false, []⟩
def StepsAt (w : World) (v : Value) (l : List StepD) : Prop :=
  ∃ ao cap, v = .slice ao l.length cap ∧ l.length ≤ maxLen ∧ (0 < l.length → ∃ b o, ao = some ⟨b, o, none⟩ ∧ ∀ i, i < l.length → ∃ kv, StepAt w b (o + i * 6) (l.getD i stepZ) kv)

section
open Go.ChangeShapes Go.WideShapes
variable {H : Type} {enc : TypeId × Value → H} {w : World} {base : Nat} {spare : Nat → Bool} {held : Bool}
theorem cells_step : Try.prog.cellsOf 51 = 6 := by kernel_rfl
theorem cells_crash : Try.prog.cellsOf 35 = 1 := by kernel_rfl
theorem cells_int : Try.prog.cellsOf 3 = 1 := by kernel_rfl
theorem cells_ints : Try.prog.cellsOf 23 = 1 := by kernel_rfl
theorem cells_bool : Try.prog.cellsOf 4 = 1 := by kernel_rfl
theorem cells_byte : Try.prog.cellsOf 5 = 1 := by kernel_rfl
theorem step_trod {fuel : Nat} {es : List Value} {x : DataW H × List MemPlace} (hl : es.length = 6) (h : DataW.trod enc Try.prog w base spare held fuel 51 es = some x) :
    ∃ (s : StepD) (kv : Value), es = stepCells s kv ∧ IntsAt w kv s.keep ∧ (-9223372036854775808 ≤ s.n ∧ s.n ≤ 9223372036854775807) := by
  obtain ⟨e0, e1, e2, e3, e4, e5, rfl⟩ : ∃ e0 e1 e2 e3 e4 e5, es = [e0, e1, e2, e3, e4, e5] := by
    match es, hl with
    | [e0, e1, e2, e3, e4, e5], _ => exact ⟨_, _, _, _, _, _, rfl⟩
  obtain ⟨n0, y0, h0⟩ := field_trod Try.underlying51 h 0 _ rfl
  obtain ⟨n1, y1, h1⟩ := field_trod Try.underlying51 h 1 _ rfl
  obtain ⟨n2, y2, h2⟩ := field_trod Try.underlying51 h 2 _ rfl
  obtain ⟨n3, y3, h3⟩ := field_trod Try.underlying51 h 3 _ rfl
  obtain ⟨n4, y4, h4⟩ := field_trod Try.underlying51 h 4 _ rfl
  obtain ⟨n5, y5, h5⟩ := field_trod Try.underlying51 h 5 _ rfl
  change DataW.trod enc Try.prog w base spare held n0 3 (([e0, e1, e2, e3, e4, e5].drop 0).take (Try.prog.cellsOf 3)) = some y0 at h0
  rw [cells_int] at h0
  change DataW.trod enc Try.prog w base spare held n1 3 (([e0, e1, e2, e3, e4, e5].drop 1).take (Try.prog.cellsOf 3)) = some y1 at h1
  rw [cells_int] at h1
  change DataW.trod enc Try.prog w base spare held n2 3 (([e0, e1, e2, e3, e4, e5].drop 2).take (Try.prog.cellsOf 3)) = some y2 at h2
  rw [cells_int] at h2
  change DataW.trod enc Try.prog w base spare held n3 5 (([e0, e1, e2, e3, e4, e5].drop 3).take (Try.prog.cellsOf 5)) = some y3 at h3
  rw [cells_byte] at h3
  change DataW.trod enc Try.prog w base spare held n4 4 (([e0, e1, e2, e3, e4, e5].drop 4).take (Try.prog.cellsOf 4)) = some y4 at h4
  rw [cells_bool] at h4
  change DataW.trod enc Try.prog w base spare held n5 35 (([e0, e1, e2, e3, e4, e5].drop 5).take (Try.prog.cellsOf 35)) = some y5 at h5
  rw [cells_crash] at h5
  obtain ⟨z0, g0, _, w0⟩ := DataW.trod_int Try.underlying3 h0
  obtain ⟨z1, g1, _, w1⟩ := DataW.trod_int Try.underlying3 h1
  obtain ⟨z2, g2, _, w2⟩ := DataW.trod_int Try.underlying3 h2
  obtain ⟨z3, g3, _, w3⟩ := DataW.trod_int Try.underlying5 h3
  obtain ⟨z4, g4, _⟩ := DataW.trod_bool Try.underlying4 h4
  obtain ⟨n6, y6, h6⟩ := field_trod Try.underlying35 h5 0 _ rfl
  change DataW.trod enc Try.prog w base spare held n6 23 (([e5].drop 0).take (Try.prog.cellsOf 23)) = some y6 at h6
  rw [cells_ints] at h6
  obtain ⟨kv, l, g5, hk⟩ := ints_trod Try.underlying23 Try.underlying3 cells_int h6
  obtain ⟨b, rfl⟩ := u8_of w3
  simp only [List.drop_zero, List.drop_succ_cons, List.take_succ_cons, List.take_zero, List.cons.injEq, and_true] at g0 g1 g2 g3 g4 g5
  subst g0 g1 g2 g3 g4 g5
  exact ⟨⟨z0, z1, z2, b, z4, l⟩, _, rfl, hk, i64_bounds w2⟩
theorem open_steps {b0 : Nat} {r : Reach} {v : Value} {d : DataW H} {ps : List MemPlace} (hv : Value.okWide Try.prog w r b0 45 v) (h : DataW.Trod enc Try.prog w base spare held 45 v d ps) : ∃ l : List StepD, StepsAt w v l := by
  obtain ⟨a0, len, cap, rfl⟩ := okWide_slice Try.underlying45 hv
  obtain ⟨fuel, hf⟩ := h
  obtain ⟨ao, len', cap', hcs, hlc, hcm, h0, hel⟩ := slice_trod Try.underlying45 (by rw [cells_step]; omega) hf
  simp only [Value.cells, List.cons.injEq, Value.slice.injEq, and_true] at hcs
  obtain ⟨rfl, rfl, rfl⟩ := hcs
  rw [cells_step] at hel
  have key : ∀ i, ∃ s : StepD, i < len → ∃ b o kv, a0 = some ⟨b, o, none⟩ ∧ StepAt w b (o + i * 6) s kv := by
    intro i
    by_cases hi : i < len
    · obtain ⟨b, o, es, n, y, rfl, hl, hcell, hy⟩ := hel i hi
      obtain ⟨s, kv, rfl, hk, hn⟩ := step_trod hl hy
      exact ⟨s, fun _ => ⟨b, o, kv, rfl, hcell, hk, hn⟩⟩
    · exact ⟨stepZ, fun h => absurd h hi⟩
  let f := fun i => (key i).choose
  have hf2 : ∀ i, i < len → ∃ b o kv, a0 = some ⟨b, o, none⟩ ∧ StepAt w b (o + i * 6) (f i) kv := fun i => (key i).choose_spec
  refine ⟨(List.range len).map f, a0, cap, by simp, by simp; omega, fun hp => ?_⟩
  have hp' : 0 < len := by simpa using hp
  obtain ⟨b, o, rfl⟩ := h0 hp'
  refine ⟨b, o, rfl, fun j hj => ?_⟩
  have hj' : j < len := by simpa using hj
  obtain ⟨b', o', kv, he', hc'⟩ := hf2 j hj'
  simp only [Option.some.injEq, Addr.mk.injEq, and_true] at he'
  obtain ⟨rfl, rfl⟩ := he'
  refine ⟨kv, ?_⟩
  rw [List.getD_eq_getElem?_getD, List.getElem?_map, List.getElem?_range hj']
  exact hc'
end
end Go.Proofs.Ytgifigfdjcgkaaa.D
