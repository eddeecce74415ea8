/-
  The steps of the laws on pages, as the walks ask them; bytes that come in, with their capacity.
-/
import Derived.Test.YtdgnndcnpmlifaaPageQ
import Derived.Test.YtdgnndcnpmlifaaOpenS
namespace Go.Proofs.Ytdgnndcnpmlifaa.G
set_option linter.unusedSimpArgs false
open Go Go.RowKit Go.Proofs.Ytdgnndcnpmlifaa.B Go.Proofs.Ytdgnndcnpmlifaa.C
set_option linter.unusedVariables false
structure StepD where
  what : Int
  slot : Int
  cell : List UInt8
def stepCells (s : StepD) (kv : Value) : List Value := [.int .i64 s.what, .int .i64 s.slot, kv]
/-- What a step reads as, at a place. -/
structure StepAt (w : World) (b o : Nat) (s : StepD) (kv : Value) : Prop where
  cells : ∀ j, j < 3 → w.cell? ⟨b, o + j, none⟩ = (stepCells s kv)[j]?
  bytes : BytesC w kv s.cell
  slot : -9223372036854775808 ≤ s.slot ∧ s.slot ≤ 9223372036854775807
def stepZ : StepD := ⟨0, 0, []⟩
def StepsAt (w : World) (v : Value) (l : List StepD) : Prop :=
  ∃ ao cap, v = .slice ao l.length cap ∧ l.length ≤ maxLen ∧ (0 < l.length → ∃ b o, ao = some ⟨b, o, none⟩ ∧ ∀ i, i < l.length → ∃ kv, StepAt w b (o + i * 3) (l.getD i stepZ) kv)
theorem StepAt.past {w w' : World} {b o : Nat} {s : StepD} {kv : Value} (h : StepAt w b o s kv) (hO : Only [] w w') : StepAt w' b o s kv :=
  ⟨fun j hj => by
    have h1 := h.cells j hj
    match j, hj, h1 with
    | 0, _, h1 => exact hO.cell h1 (by simp)
    | 1, _, h1 => exact hO.cell h1 (by simp)
    | 2, _, h1 => exact hO.cell h1 (by simp), h.bytes.past hO, h.slot⟩
theorem StepAt.c {w : World} {b o : Nat} {s : StepD} {kv : Value} (h : StepAt w b o s kv) : w.cell? ⟨b, o, none⟩ = some (.int .i64 s.what) ∧ w.cell? ⟨b, o + 1, none⟩ = some (.int .i64 s.slot) ∧ w.cell? ⟨b, o + 2, none⟩ = some kv :=
  ⟨h.cells 0 (by omega), h.cells 1 (by omega), h.cells 2 (by omega)⟩
theorem StepsAt.past {w w' : World} {v : Value} {l : List StepD} (h : StepsAt w v l) (hO : Only [] w w') : StepsAt w' v l := by
  obtain ⟨ao, cap, rfl, hm, hc⟩ := h
  refine ⟨ao, cap, rfl, hm, fun h0 => ?_⟩
  obtain ⟨b, o, rfl, hs⟩ := hc h0
  exact ⟨b, o, rfl, fun i hi => (hs i hi).imp fun kv hk => hk.past hO⟩
section
open Go.ChangeShapes Go.WideShapes
variable {H : Type} {enc : TypeId × Value → H} {w : World} {base : Nat} {spare : Nat → Bool} {held : Bool}
theorem cells_step : Try.prog.cellsOf 36 = 3 := by kernel_rfl
theorem cells_int : Try.prog.cellsOf 3 = 1 := by kernel_rfl
theorem cells_bytes : Try.prog.cellsOf 23 = 1 := by kernel_rfl
theorem cells_byte : Try.prog.cellsOf 5 = 1 := by kernel_rfl
set_option maxRecDepth 100000 in
theorem bytes_trod {fuel : Nat} {cs : List Value} {x : DataW H × List MemPlace} (h : DataW.trod enc Try.prog w base spare held fuel 23 cs = some x) :
    ∃ v l, cs = [v] ∧ BytesC w v l := by
  obtain ⟨ao, len, cap, rfl, hlc, _, h0, hel⟩ := slice_trod Try.underlying23 (by rw [cells_byte]; omega) h
  have key : ∀ i, ∃ z : UInt8, i < len → ∃ b o, ao = some ⟨b, o, none⟩ ∧ w.cell? ⟨b, o + i, none⟩ = some (.int .u8 z.toNat) := by
    intro i
    by_cases hi : i < len
    · obtain ⟨b, o, es, n, y, rfl, hl, hcell, hy⟩ := hel i hi
      obtain ⟨z, rfl, _, hw⟩ := DataW.trod_int Try.underlying5 hy
      obtain ⟨u, rfl⟩ := u8_of hw
      refine ⟨u, fun _ => ⟨b, o, rfl, ?_⟩⟩
      have := hcell 0 (by rw [cells_byte]; omega)
      rw [cells_byte, Nat.mul_one, Nat.add_zero] at this
      exact this
    · exact ⟨0, fun h => absurd h hi⟩
  let f := fun i => (key i).choose
  have hf : ∀ i, i < len → ∃ b o, ao = some ⟨b, o, none⟩ ∧ w.cell? ⟨b, o + i, none⟩ = some (.int .u8 (f i).toNat) := fun i => (key i).choose_spec
  refine ⟨_, (List.range len).map f, rfl, ⟨ao, cap, by simp, fun hp => ?_⟩, fun a n c he => ?_⟩
  · have hp' : 0 < len := by simpa using hp
    obtain ⟨b, o, rfl⟩ := h0 hp'
    refine ⟨b, o, rfl, fun j hj => ?_⟩
    have hj' : j < len := by simpa using hj
    obtain ⟨b', o', he', hc'⟩ := hf j hj'
    simp only [Option.some.injEq, Addr.mk.injEq, and_true] at he'
    obtain ⟨rfl, rfl⟩ := he'
    rw [hc', List.getD_eq_getElem?_getD, List.getElem?_map, List.getElem?_range hj']
    rfl
  · simp only [Value.slice.injEq] at he
    omega
set_option maxRecDepth 100000 in
theorem open_bytesC {b0 : Nat} {r : Reach} {v : Value} {d : DataW H} {ps : List MemPlace} (hv : Value.okWide Try.prog w r b0 23 v) (h : DataW.Trod enc Try.prog w base spare held 23 v d ps) : ∃ l : List UInt8, BytesC w v l := by
  obtain ⟨a0, len, cap, rfl⟩ := okWide_slice Try.underlying23 hv
  obtain ⟨fuel, hf⟩ := h
  obtain ⟨v', l, he, hb⟩ := bytes_trod hf
  simp only [Value.cells, List.cons.injEq, and_true] at he
  subst he
  exact ⟨l, hb⟩
set_option maxRecDepth 100000 in
theorem step_trod {fuel : Nat} {es : List Value} {x : DataW H × List MemPlace} (hl : es.length = 3) (h : DataW.trod enc Try.prog w base spare held fuel 36 es = some x) :
    ∃ (s : StepD) (kv : Value), es = stepCells s kv ∧ BytesC w kv s.cell ∧ (-9223372036854775808 ≤ s.slot ∧ s.slot ≤ 9223372036854775807) := by
  obtain ⟨e0, e1, e2, rfl⟩ : ∃ e0 e1 e2, es = [e0, e1, e2] := by
    match es, hl with
    | [e0, e1, e2], _ => exact ⟨_, _, _, rfl⟩
  obtain ⟨n0, y0, h0⟩ := field_trod Try.underlying36 h 0 _ rfl
  obtain ⟨n1, y1, h1⟩ := field_trod Try.underlying36 h 1 _ rfl
  obtain ⟨n2, y2, h2⟩ := field_trod Try.underlying36 h 2 _ rfl
  change DataW.trod enc Try.prog w base spare held n0 3 (([e0, e1, e2].drop 0).take (Try.prog.cellsOf 3)) = some y0 at h0
  rw [cells_int] at h0
  change DataW.trod enc Try.prog w base spare held n1 3 (([e0, e1, e2].drop 1).take (Try.prog.cellsOf 3)) = some y1 at h1
  rw [cells_int] at h1
  change DataW.trod enc Try.prog w base spare held n2 23 (([e0, e1, e2].drop 2).take (Try.prog.cellsOf 23)) = some y2 at h2
  rw [cells_bytes] at h2
  obtain ⟨z0, g0, _, w0⟩ := DataW.trod_int Try.underlying3 h0
  obtain ⟨z1, g1, _, w1⟩ := DataW.trod_int Try.underlying3 h1
  obtain ⟨kv, l, g2, hk⟩ := bytes_trod h2
  simp only [List.drop_zero, List.drop_succ_cons, List.take_succ_cons, List.take_zero, List.cons.injEq, and_true] at g0 g1 g2
  subst g0 g1 g2
  exact ⟨⟨z0, z1, l⟩, _, rfl, hk, i64_bounds w1⟩
set_option maxRecDepth 100000 in
theorem open_steps {b0 : Nat} {r : Reach} {v : Value} {d : DataW H} {ps : List MemPlace} (hv : Value.okWide Try.prog w r b0 33 v) (h : DataW.Trod enc Try.prog w base spare held 33 v d ps) : ∃ l : List StepD, StepsAt w v l := by
  obtain ⟨a0, len, cap, rfl⟩ := okWide_slice Try.underlying33 hv
  obtain ⟨fuel, hf⟩ := h
  obtain ⟨ao, len', cap', hcs, hlc, hcm, h0, hel⟩ := slice_trod Try.underlying33 (by rw [cells_step]; omega) hf
  simp only [Value.cells, List.cons.injEq, Value.slice.injEq, and_true] at hcs
  obtain ⟨rfl, rfl, rfl⟩ := hcs
  rw [cells_step] at hel
  have key : ∀ i, ∃ s : StepD, i < len → ∃ b o kv, a0 = some ⟨b, o, none⟩ ∧ StepAt w b (o + i * 3) s kv := by
    intro i
    by_cases hi : i < len
    · obtain ⟨b, o, es, n, y, rfl, hl, hcell, hy⟩ := hel i hi
      obtain ⟨s, kv, rfl, hk, hs⟩ := step_trod hl hy
      exact ⟨s, fun _ => ⟨b, o, kv, rfl, hcell, hk, hs⟩⟩
    · exact ⟨stepZ, fun h => absurd h hi⟩
  let f := fun i => (key i).choose
  have hf2 : ∀ i, i < len → ∃ b o kv, a0 = some ⟨b, o, none⟩ ∧ StepAt w b (o + i * 3) (f i) kv := fun i => (key i).choose_spec
  refine ⟨(List.range len).map f, a0, cap, by simp, by simp; omega, fun hp => ?_⟩
  have hp' : 0 < len := by simpa using hp
  obtain ⟨b, o, rfl⟩ := h0 hp'
  refine ⟨b, o, rfl, fun j hj => ?_⟩
  have hj' : j < len := by simpa using hj
  obtain ⟨b', o', kv, he', hk⟩ := hf2 j hj'
  simp only [Option.some.injEq, Addr.mk.injEq, and_true] at he'
  obtain ⟨rfl, rfl⟩ := he'
  rw [List.getD_eq_getElem?_getD, List.getElem?_map, List.getElem?_range hj']
  exact ⟨kv, hk⟩
end
end Go.Proofs.Ytdgnndcnpmlifaa.G
