import Derived.Test.YtfkmjbpnjgnkbaaGreatMHpF
import Derived.Test.YtfkmjbpnjgnkbaaGreatMPageS
import Derived.Test.YtfkmjbpnjgnkbaaGreatMOpenU
import Derived.Test.YtfkmjbpnjgnkbaaGreatRows
/-
  The steps of the law on heaps, as the walk asks them.
-/
namespace Go.Proofs.YtfkmjbpnjgnkbaaGreat.H
set_option linter.unusedSimpArgs false
open Go Go.RowKit Go.Proofs.YtfkmjbpnjgnkbaaGreat.B Go.Proofs.YtfkmjbpnjgnkbaaGreat.C Go.Proofs.YtfkmjbpnjgnkbaaGreat.G
set_option linter.unusedVariables false
structure StepD where
  what : Int
  i : Int
  k : Int
  row : List UInt8
  x : Nat
def stepCells (s : StepD) (kv : Value) : List Value := [.int .i64 s.what, .int .i64 s.i, .int .i64 s.k, kv, .int .u64 s.x]
/-- What a step reads as, at a place. -/
structure StepAt (w : World) (b o : Nat) (s : StepD) (kv : Value) : Prop where
  cells : ∀ j, j < 5 → w.cell? ⟨b, o + j, none⟩ = (stepCells s kv)[j]?
  bytes : BytesC w kv s.row
  i : -9223372036854775808 ≤ s.i ∧ s.i ≤ 9223372036854775807
  k : -9223372036854775808 ≤ s.k ∧ s.k ≤ 9223372036854775807
  x : s.x < W64
def stepZ : StepD := ⟨0, 0, 0, [], 0⟩
def StepsAt (w : World) (v : Value) (l : List StepD) : Prop :=
  ∃ ao cap, v = .slice ao l.length cap ∧ l.length ≤ maxLen ∧ (0 < l.length → ∃ b o, ao = some ⟨b, o, none⟩ ∧ ∀ i, i < l.length → ∃ kv, StepAt w b (o + i * 5) (l.getD i stepZ) kv)
theorem StepAt.past {w w' : World} {b o : Nat} {s : StepD} {kv : Value} (h : StepAt w b o s kv) (hO : Only [] w w') : StepAt w' b o s kv :=
  ⟨fun j hj => by
    have h1 := h.cells j hj
    match j, hj, h1 with
    | 0, _, h1 => exact hO.cell h1 (by simp)
    | 1, _, h1 => exact hO.cell h1 (by simp)
    | 2, _, h1 => exact hO.cell h1 (by simp)
    | 3, _, h1 => exact hO.cell h1 (by simp)
    | 4, _, h1 => exact hO.cell h1 (by simp), h.bytes.past hO, h.i, h.k, h.x⟩
theorem StepAt.c {w : World} {b o : Nat} {s : StepD} {kv : Value} (h : StepAt w b o s kv) : w.cell? ⟨b, o, none⟩ = some (.int .i64 s.what) ∧ w.cell? ⟨b, o + 1, none⟩ = some (.int .i64 s.i) ∧ w.cell? ⟨b, o + 2, none⟩ = some (.int .i64 s.k) ∧ w.cell? ⟨b, o + 3, none⟩ = some kv ∧ w.cell? ⟨b, o + 4, none⟩ = some (.int .u64 s.x) :=
  ⟨h.cells 0 (by omega), h.cells 1 (by omega), h.cells 2 (by omega), h.cells 3 (by omega), h.cells 4 (by omega)⟩
theorem StepsAt.past {w w' : World} {v : Value} {l : List StepD} (h : StepsAt w v l) (hO : Only [] w w') : StepsAt w' v l := by
  obtain ⟨ao, cap, rfl, hm, hc⟩ := h
  refine ⟨ao, cap, rfl, hm, fun h0 => ?_⟩
  obtain ⟨b, o, rfl, hs⟩ := hc h0
  exact ⟨b, o, rfl, fun i hi => (hs i hi).imp fun kv hk => hk.past hO⟩
section
open Go.ChangeShapes Go.WideShapes
variable {H : Type} {enc : TypeId × Value → H} {w : World} {base : Nat} {spare : Nat → Bool} {held : Bool}
theorem cells_step : Tryz.prog.cellsOf 45 = 5 := by kernel_rfl
theorem cells_int : Tryz.prog.cellsOf 3 = 1 := by kernel_rfl
theorem cells_bytes : Tryz.prog.cellsOf 33 = 1 := by kernel_rfl
theorem cells_u64 : Tryz.prog.cellsOf 28 = 1 := by kernel_rfl
theorem cells_byte : Tryz.prog.cellsOf 5 = 1 := by kernel_rfl
set_option maxRecDepth 100000 in
theorem bytes_trod {fuel : Nat} {cs : List Value} {x : DataW H × List MemPlace} (h : DataW.trod enc Tryz.prog w base spare held fuel 33 cs = some x) :
    ∃ v l, cs = [v] ∧ BytesC w v l := by
  obtain ⟨ao, len, cap, rfl, hlc, _, h0, hel⟩ := slice_trod Tryz.underlying33 (by rw [cells_byte]; omega) h
  have key : ∀ i, ∃ z : UInt8, i < len → ∃ b o, ao = some ⟨b, o, none⟩ ∧ w.cell? ⟨b, o + i, none⟩ = some (.int .u8 z.toNat) := by
    intro i
    by_cases hi : i < len
    · obtain ⟨b, o, es, n, y, rfl, hl, hcell, hy⟩ := hel i hi
      obtain ⟨z, rfl, _, hw⟩ := DataW.trod_int Tryz.underlying5 hy
      obtain ⟨u, rfl⟩ := u8_of hw
      refine ⟨u, fun _ => ⟨b, o, rfl, ?_⟩⟩
      have := hcell 0 (by rw [cells_byte]; omega)
      rw [cells_byte, Nat.mul_one, Nat.add_zero] at this
      exact this
    · exact ⟨0, fun h => absurd h hi⟩
  let f := fun i => (key i).choose
  have hf : ∀ i, i < len → ∃ b o, ao = some ⟨b, o, none⟩ ∧ w.cell? ⟨b, o + i, none⟩ = some (.int .u8 (f i).toNat) := fun i => (key i).choose_spec
  refine ⟨_, (List.range len).map f, rfl, ⟨ao, cap, by simp, fun hp => ?_⟩, fun a n c he => ?_⟩
  · have hp' : 0 < len := by simpa using hp
    obtain ⟨b, o, rfl⟩ := h0 hp'
    refine ⟨b, o, rfl, fun j hj => ?_⟩
    have hj' : j < len := by simpa using hj
    obtain ⟨b', o', he', hc'⟩ := hf j hj'
    simp only [Option.some.injEq, Addr.mk.injEq, and_true] at he'
    obtain ⟨rfl, rfl⟩ := he'
    rw [hc', List.getD_eq_getElem?_getD, List.getElem?_map, List.getElem?_range hj']
    rfl
  · simp only [Value.slice.injEq] at he
    omega
set_option maxRecDepth 100000 in
theorem step_trod {fuel : Nat} {es : List Value} {x : DataW H × List MemPlace} (hl : es.length = 5) (h : DataW.trod enc Tryz.prog w base spare held fuel 45 es = some x) :
    ∃ (s : StepD) (kv : Value), es = stepCells s kv ∧ BytesC w kv s.row ∧ (-9223372036854775808 ≤ s.i ∧ s.i ≤ 9223372036854775807) ∧ (-9223372036854775808 ≤ s.k ∧ s.k ≤ 9223372036854775807) ∧ s.x < W64 := by
  obtain ⟨e0, e1, e2, e3, e4, rfl⟩ : ∃ e0 e1 e2 e3 e4, es = [e0, e1, e2, e3, e4] := by
    match es, hl with
    | [e0, e1, e2, e3, e4], _ => exact ⟨_, _, _, _, _, rfl⟩
  obtain ⟨n0, y0, h0⟩ := field_trod Tryz.underlying45 h 0 _ rfl
  obtain ⟨n1, y1, h1⟩ := field_trod Tryz.underlying45 h 1 _ rfl
  obtain ⟨n2, y2, h2⟩ := field_trod Tryz.underlying45 h 2 _ rfl
  obtain ⟨n3, y3, h3⟩ := field_trod Tryz.underlying45 h 3 _ rfl
  obtain ⟨n4, y4, h4⟩ := field_trod Tryz.underlying45 h 4 _ rfl
  change DataW.trod enc Tryz.prog w base spare held n0 3 (([e0, e1, e2, e3, e4].drop 0).take (Tryz.prog.cellsOf 3)) = some y0 at h0
  rw [cells_int] at h0
  change DataW.trod enc Tryz.prog w base spare held n1 3 (([e0, e1, e2, e3, e4].drop 1).take (Tryz.prog.cellsOf 3)) = some y1 at h1
  rw [cells_int] at h1
  change DataW.trod enc Tryz.prog w base spare held n2 3 (([e0, e1, e2, e3, e4].drop 2).take (Tryz.prog.cellsOf 3)) = some y2 at h2
  rw [cells_int] at h2
  change DataW.trod enc Tryz.prog w base spare held n3 33 (([e0, e1, e2, e3, e4].drop 3).take (Tryz.prog.cellsOf 33)) = some y3 at h3
  rw [cells_bytes] at h3
  change DataW.trod enc Tryz.prog w base spare held n4 28 (([e0, e1, e2, e3, e4].drop 4).take (Tryz.prog.cellsOf 28)) = some y4 at h4
  rw [cells_u64] at h4
  obtain ⟨z0, g0, _, w0⟩ := DataW.trod_int Tryz.underlying3 h0
  obtain ⟨z1, g1, _, w1⟩ := DataW.trod_int Tryz.underlying3 h1
  obtain ⟨z2, g2, _, w2⟩ := DataW.trod_int Tryz.underlying3 h2
  obtain ⟨kv, l, g3, hk⟩ := bytes_trod h3
  obtain ⟨z4, g4, _, w4⟩ := DataW.trod_int Tryz.underlying28 h4
  simp only [List.drop_zero, List.drop_succ_cons, List.take_succ_cons, List.take_zero, List.cons.injEq, and_true] at g0 g1 g2 g3 g4
  subst g0 g1 g2 g3 g4
  have b4 := u64_bounds w4
  obtain ⟨x, rfl⟩ := Int.eq_ofNat_of_zero_le b4.1
  exact ⟨⟨z0, z1, z2, l, x⟩, _, rfl, hk, i64_bounds w1, i64_bounds w2, by show x < W64; unfold W64; omega⟩
set_option maxRecDepth 100000 in
theorem open_steps {b0 : Nat} {r : Reach} {v : Value} {d : DataW H} {ps : List MemPlace} (hv : Value.okWide Tryz.prog w r b0 41 v) (h : DataW.Trod enc Tryz.prog w base spare held 41 v d ps) : ∃ l : List StepD, StepsAt w v l := by
  obtain ⟨a0, len, cap, rfl⟩ := okWide_slice Tryz.underlying41 hv
  obtain ⟨fuel, hf⟩ := h
  obtain ⟨ao, len', cap', hcs, hlc, hcm, h0, hel⟩ := slice_trod Tryz.underlying41 (by rw [cells_step]; omega) hf
  simp only [Value.cells, List.cons.injEq, Value.slice.injEq, and_true] at hcs
  obtain ⟨rfl, rfl, rfl⟩ := hcs
  rw [cells_step] at hel
  have key : ∀ i, ∃ s : StepD, i < len → ∃ b o kv, a0 = some ⟨b, o, none⟩ ∧ StepAt w b (o + i * 5) s kv := by
    intro i
    by_cases hi : i < len
    · obtain ⟨b, o, es, n, y, rfl, hl, hcell, hy⟩ := hel i hi
      obtain ⟨s, kv, rfl, hk, h1, h2, h3⟩ := step_trod hl hy
      exact ⟨s, fun _ => ⟨b, o, kv, rfl, hcell, hk, h1, h2, h3⟩⟩
    · exact ⟨stepZ, fun h => absurd h hi⟩
  let f := fun i => (key i).choose
  have hf2 : ∀ i, i < len → ∃ b o kv, a0 = some ⟨b, o, none⟩ ∧ StepAt w b (o + i * 5) (f i) kv := fun i => (key i).choose_spec
  refine ⟨(List.range len).map f, a0, cap, by simp, by simp; omega, fun hp => ?_⟩
  have hp' : 0 < len := by simpa using hp
  obtain ⟨b, o, rfl⟩ := h0 hp'
  refine ⟨b, o, rfl, fun j hj => ?_⟩
  have hj' : j < len := by simpa using hj
  obtain ⟨b', o', kv, he', hk⟩ := hf2 j hj'
  simp only [Option.some.injEq, Addr.mk.injEq, and_true] at he'
  obtain ⟨rfl, rfl⟩ := he'
  rw [List.getD_eq_getElem?_getD, List.getElem?_map, List.getElem?_range hj']
  exact ⟨kv, hk⟩
end
end Go.Proofs.YtfkmjbpnjgnkbaaGreat.H

/-
  The steps of the law on heaps, opened, with a bound on the data: no row is longer than all of it.
-/
namespace Go.Proofs.YtfkmjbpnjgnkbaaGreat.H
set_option linter.unusedSimpArgs false
open Go Go.RowKit Go.Proofs.YtfkmjbpnjgnkbaaGreat.B Go.Proofs.YtfkmjbpnjgnkbaaGreat.C Go.Proofs.YtfkmjbpnjgnkbaaGreat.G
set_option linter.unusedVariables false
theorem bulk_one {H : Type} (d : DataW H) : 1 ≤ Rows.uptoBulk d := by
  cases d with
  | lit l => cases l <;> simp [Rows.uptoBulk]
  | nil => simp [Rows.uptoBulk]
  | ptr d => simp [Rows.uptoBulk]
  | slice elems spare => simp [Rows.uptoBulk]
  | agg parts => simp [Rows.uptoBulk]
  | iface t d => simp [Rows.uptoBulk]
  | map entries => simp [Rows.uptoBulk]
  | held h => simp [Rows.uptoBulk]
theorem bulk_part {H : Type} {d : DataW H} {l : List (DataW H)} (h : d ∈ l) : Rows.uptoBulk d ≤ Rows.uptoBulkAll l := by
  induction l with
  | nil => cases h
  | cons x r ih =>
    simp only [Rows.uptoBulkAll]
    cases List.mem_cons.1 h with
    | inl e => subst e; omega
    | inr e => have := ih e; omega
theorem bulk_length {H : Type} (l : List (DataW H)) : l.length ≤ Rows.uptoBulkAll l := by
  induction l with
  | nil => simp [Rows.uptoBulkAll]
  | cons x r ih => have := bulk_one x; simp only [Rows.uptoBulkAll, List.length_cons]; omega
section
open Go.ChangeShapes Go.WideShapes
variable {H : Type} {enc : TypeId × Value → H} {w : World} {base : Nat} {spare : Nat → Bool} {held : Bool}
set_option maxRecDepth 100000 in
theorem bytes_trodU {fuel : Nat} {cs : List Value} {x : DataW H × List MemPlace} (h : DataW.trod enc Tryz.prog w base spare held fuel 33 cs = some x) :
    ∃ v l, cs = [v] ∧ BytesC w v l ∧ l.length ≤ Rows.uptoBulk x.1 := by
  obtain ⟨v, l, hcs, hb⟩ := bytes_trod h
  refine ⟨v, l, hcs, hb, ?_⟩
  obtain ⟨ao, len, cap, hcs2, _, _, _, hx, _⟩ := slice_trodU Tryz.underlying33 (by rw [cells_byte]; omega) h
  rw [hcs] at hcs2
  obtain ⟨ao2, cap2, he, _⟩ := hb.1
  simp only [List.cons.injEq, and_true] at hcs2
  rw [he] at hcs2
  simp only [Value.slice.injEq] at hcs2
  rcases Nat.eq_zero_or_pos l.length with h0 | h0
  · omega
  · obtain ⟨els, sp, hd, hl⟩ := hx (by omega)
    rw [hd]
    have := bulk_length els
    simp only [Rows.uptoBulk]
    omega
set_option maxRecDepth 100000 in
theorem step_trodU {fuel : Nat} {es : List Value} {x : DataW H × List MemPlace} (hl : es.length = 5) (h : DataW.trod enc Tryz.prog w base spare held fuel 45 es = some x) :
    ∃ (s : StepD) (kv : Value), es = stepCells s kv ∧ BytesC w kv s.row ∧ (-9223372036854775808 ≤ s.i ∧ s.i ≤ 9223372036854775807) ∧ (-9223372036854775808 ≤ s.k ∧ s.k ≤ 9223372036854775807) ∧ s.x < W64 ∧ s.row.length ≤ Rows.uptoBulk x.1 := by
  obtain ⟨s, kv, he, hb, h1, h2, h3⟩ := step_trod hl h
  obtain ⟨n3, y3, parts, g3, hx, hm⟩ := field_trodU Tryz.underlying45 h 3 _ rfl
  change DataW.trod enc Tryz.prog w base spare held n3 33 ((es.drop 3).take (Tryz.prog.cellsOf 33)) = some y3 at g3
  rw [cells_bytes, he] at g3
  obtain ⟨v, l, hv, hb2, hle⟩ := bytes_trodU g3
  simp only [stepCells, List.drop_succ_cons, List.drop_zero, List.take_succ_cons, List.take_zero, List.cons.injEq, and_true] at hv
  subst hv
  have hll : s.row.length = l.length := by
    obtain ⟨a1, c1, e1, _⟩ := hb.1
    obtain ⟨a2, c2, e2, _⟩ := hb2.1
    rw [e1] at e2
    simp only [Value.slice.injEq] at e2
    exact e2.2.1
  refine ⟨s, kv, he, hb, h1, h2, h3, ?_⟩
  have := bulk_part hm
  rw [hx, hll]
  simp only [Rows.uptoBulk]
  omega
set_option maxRecDepth 100000 in
theorem open_stepsU {b0 : Nat} {r : Reach} {v : Value} {d : DataW H} {ps : List MemPlace} (hv : Value.okWide Tryz.prog w r b0 41 v) (h : DataW.Trod enc Tryz.prog w base spare held 41 v d ps) : ∃ l : List StepD, StepsAt w v l ∧ ∀ i, (l.getD i stepZ).row.length ≤ Rows.uptoBulk d := by
  obtain ⟨a0, len, cap, rfl⟩ := okWide_slice Tryz.underlying41 hv
  obtain ⟨fuel, hf⟩ := h
  obtain ⟨ao, len', cap', hcs, hlc, hcm, h0, _, hel⟩ := slice_trodU Tryz.underlying41 (by rw [cells_step]; omega) hf
  simp only [Value.cells, List.cons.injEq, Value.slice.injEq, and_true] at hcs
  obtain ⟨rfl, rfl, rfl⟩ := hcs
  rw [cells_step] at hel
  have key : ∀ i, ∃ s : StepD, i < len → (∃ b o kv, a0 = some ⟨b, o, none⟩ ∧ StepAt w b (o + i * 5) s kv) ∧ s.row.length ≤ Rows.uptoBulk d := by
    intro i
    by_cases hi : i < len
    · obtain ⟨b, o, es, n, y, els, sp, rfl, hl, hcell, hy, hx, hm⟩ := hel i hi
      obtain ⟨s, kv, rfl, hk, h1, h2, h3, h4⟩ := step_trodU hl hy
      refine ⟨s, fun _ => ⟨⟨b, o, kv, rfl, hcell, hk, h1, h2, h3⟩, ?_⟩⟩
      have := bulk_part hm
      simp only at hx
      rw [hx]
      simp only [Rows.uptoBulk]
      omega
    · exact ⟨stepZ, fun h => absurd h hi⟩
  let f := fun i => (key i).choose
  have hf2 : ∀ i, i < len → (∃ b o kv, a0 = some ⟨b, o, none⟩ ∧ StepAt w b (o + i * 5) (f i) kv) ∧ (f i).row.length ≤ Rows.uptoBulk d := fun i => (key i).choose_spec
  have hget : ∀ j, j < len → ((List.range len).map f).getD j stepZ = f j := fun j hj => by
    rw [List.getD_eq_getElem?_getD, List.getElem?_map, List.getElem?_range hj]; rfl
  refine ⟨(List.range len).map f, ⟨a0, cap, by simp, by simp; omega, fun hp => ?_⟩, fun i => ?_⟩
  · have hp' : 0 < len := by simpa using hp
    obtain ⟨b, o, rfl⟩ := h0 hp'
    refine ⟨b, o, rfl, fun j hj => ?_⟩
    have hj' : j < len := by simpa using hj
    obtain ⟨b', o', kv, he', hk⟩ := (hf2 j hj').1
    simp only [Option.some.injEq, Addr.mk.injEq, and_true] at he'
    obtain ⟨rfl, rfl⟩ := he'
    rw [hget j hj']
    exact ⟨kv, hk⟩
  · rcases Nat.lt_or_ge i len with hi | hi
    · rw [hget i hi]; exact (hf2 i hi).2
    · rw [List.getD_eq_getElem?_getD, List.getElem?_eq_none (by simp; exact hi)]
      have := bulk_one d
      exact Nat.zero_le _
end
end Go.Proofs.YtfkmjbpnjgnkbaaGreat.H
