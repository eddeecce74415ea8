/-
  The document's disk as plain data, and how it goes beside the program's. No program in sight.
-/
import Derived.Test.YtgifigfdjcgkaaaDiskT
import Derived.Test.YtgifigfdjcgkaaaDiskX
namespace Go.Proofs.Ytgifigfdjcgkaaa.D
set_option linter.unusedSimpArgs false
open Go.RowKit
set_option linter.unusedVariables false

/-- Behind a changing call of the document's disk. -/
def DS.rchanged (s : DS) : DS :=
  { s with count := s.count + 1, down := s.down || s.halt == 0, halt := if 0 < s.halt then s.halt - 1 else s.halt, fail := if 0 < s.fail then s.fail - 1 else s.fail }
def DS.rwrite (s : DS) (i : Int) (l : Sector) : DS × Int :=
  if s.err ≠ 0 then (s.rchanged, s.err)
  else if i < 0 ∨ (s.now.length : Int) ≤ i then (s.rchanged, 11)
  else if l.length ≠ 512 then (s.rchanged, 10)
  else ({ s.rchanged with now := s.now.set i.toNat l, row := s.row ++ [(i.toNat, l)] }, 0)
def DS.rsync (s : DS) : DS × Int := if s.err ≠ 0 then (s.rchanged, s.err) else (s.rchanged.synced, 0)
def rtearOne (keep : List Int) (sure : List Sector) (j : Nat) (x : Nat × Sector) : List Sector :=
  sure.set x.1 (x.2.take (kept keep j) ++ (sure.getD x.1 []).drop (kept keep j))
def rtornTo (s : DS) (keep : List Int) : Nat → List Sector
  | 0 => s.sure
  | k + 1 => rtearOne keep (rtornTo s keep k) k (s.row.getD k (0, []))
def DS.rtornAt (s : DS) (keep : List Int) (k : Nat) : DS := { s with sure := rtornTo s keep k }
def DS.rrestart (s : DS) (keep : List Int) : DS :=
  { s with now := rtornTo s keep s.row.length, sure := rtornTo s keep s.row.length, row := [], fail := 0, halt := -1, down := false }

theorem set_getD {α : Type} (l : List α) (i : Nat) (d : α) : l.set i (l.getD i d) = l := by
  by_cases h : i < l.length
  · rw [List.getD_eq_getElem?_getD, List.getElem?_eq_getElem h]; simp
  · rw [List.set_eq_of_length_le (by omega)]
theorem rtorn_eq (s : DS) (keep : List Int) : ∀ k, rtornTo s keep k = tornTo s keep k
  | 0 => rfl
  | k + 1 => by
    simp only [rtornTo, tornTo, rtorn_eq s keep k, rtearOne, tearOne]
    split
    · next h => rw [h, List.take_zero, List.nil_append, List.drop_zero, set_getD]
    · rfl
theorem rrestart_eq (s : DS) (keep : List Int) : s.rrestart keep = s.restart keep := by simp [DS.rrestart, DS.restart, rtorn_eq]

/-- The countdowns go together: the least int goes round in the program, which the document's disk does not know. -/
def FailR (c x y : Int) : Prop := (x ≤ 0 ∧ y = 0) ∨ (0 < x ∧ y = x) ∨ (y = 0 ∧ 9223372036854775807 ≤ x + c ∧ x ≤ 9223372036854775807)
def HaltR (c x y : Int) : Prop := (x < 0 ∧ y = -1) ∨ (0 ≤ x ∧ y = x) ∨ (y = -1 ∧ 9223372036854775807 ≤ x + c ∧ x ≤ 9223372036854775807)
structure Twin (a b : DS) : Prop where
  now : b.now = a.now
  sure : b.sure = a.sure
  row : b.row = a.row
  count : b.count = a.count
  down : b.down = a.down
  fail : FailR a.count a.fail b.fail
  halt : a.down = true ∨ HaltR a.count a.halt b.halt
  in1 : -9223372036854775808 ≤ a.fail ∧ a.fail ≤ 9223372036854775807
  in2 : -9223372036854775808 ≤ a.halt ∧ a.halt ≤ 9223372036854775807
  in3 : b.halt ≤ 9223372036854775807
  c0 : 0 ≤ a.count
  c1 : a.count ≤ 1000000

theorem failR_step {c x y : Int} (h : FailR c x y) (hx : -9223372036854775808 ≤ x ∧ x ≤ 9223372036854775807) (h0 : 0 ≤ c) (h1 : c ≤ 1000000) : FailR (c + 1) (dec x 0) (if 0 < y then y - 1 else y) ∧ (x = 1 ↔ y = 1) ∧ -9223372036854775808 ≤ dec x 0 ∧ dec x 0 ≤ 9223372036854775807 := by
  unfold FailR at *
  unfold dec wrap64
  split <;> split <;> omega
theorem haltR_step {c x y : Int} (h : HaltR c x y) (hx : -9223372036854775808 ≤ x ∧ x ≤ 9223372036854775807) (h0 : 0 ≤ c) (h1 : c ≤ 1000000) : (x = 0 ↔ y = 0) ∧ (x ≠ 0 → HaltR (c + 1) (dec x (-1)) (if 0 < y then y - 1 else y)) := by
  unfold HaltR at *
  unfold dec wrap64
  refine ⟨by omega, fun _ => ?_⟩
  split <;> split <;> omega
theorem dec_in {x lo : Int} (h : -9223372036854775808 ≤ lo ∧ lo ≤ 0) : -9223372036854775808 ≤ dec x lo ∧ dec x lo ≤ 9223372036854775807 := by
  unfold dec wrap64
  split <;> omega

theorem Twin.err {a b : DS} (h : Twin a b) : b.err = a.err := by
  unfold DS.err
  rw [h.down]
  have hf := (failR_step h.fail h.in1 h.c0 h.c1).2.1
  rcases h.halt with hd | hh
  · simp [hd]
  · have h0 := (haltR_step hh h.in2 h.c0 h.c1).1
    have e1 : (b.halt == 0) = (a.halt == 0) := by rw [Bool.eq_iff_iff]; simp [h0]
    have e2 : (b.fail == 1) = (a.fail == 1) := by rw [Bool.eq_iff_iff]; simp [hf]
    rw [e1, e2]
theorem Twin.changed {a b : DS} (h : Twin a b) (hc : a.count ≤ 999999) : Twin a.changed b.rchanged where
  now := h.now
  sure := h.sure
  row := h.row
  count := by simp only [DS.changed, DS.rchanged, h.count]
  down := by
    simp only [DS.changed, DS.rchanged, h.down]
    rcases h.halt with hd | hh
    · simp [hd]
    · have h0 := (haltR_step hh h.in2 h.c0 h.c1).1
      have e1 : (b.halt == 0) = (a.halt == 0) := by rw [Bool.eq_iff_iff]; simp [h0]
      rw [e1]
  fail := (failR_step h.fail h.in1 h.c0 h.c1).1
  halt := by
    simp only [DS.changed, DS.rchanged]
    rcases h.halt with hd | hh
    · left; simp [hd]
    · by_cases h0 : a.halt = 0
      · left; simp [h0]
      · right; exact (haltR_step hh h.in2 h.c0 h.c1).2 h0
  in1 := dec_in (by omega)
  in2 := dec_in (by omega)
  in3 := by have := h.in3; simp only [DS.rchanged]; split <;> omega
  c0 := by simp only [DS.changed]; have := h.c0; omega
  c1 := by simp only [DS.changed]; omega
theorem Twin.write {a b : DS} (h : Twin a b) (hc : a.count ≤ 999999) (i : Int) (l : Sector) : (b.rwrite i l).2 = (a.write i l).2 ∧ Twin (a.write i l).1 (b.rwrite i l).1 := by
  have hw := h.changed hc
  unfold DS.rwrite DS.write
  rw [h.err, h.now, h.row]
  split
  · exact ⟨rfl, hw⟩
  · split
    · exact ⟨rfl, hw⟩
    · split
      · exact ⟨rfl, hw⟩
      · exact ⟨rfl, ⟨rfl, hw.sure, rfl, hw.count, hw.down, hw.fail, hw.halt, hw.in1, hw.in2, hw.in3, hw.c0, hw.c1⟩⟩
theorem Twin.sync {a b : DS} (h : Twin a b) (hc : a.count ≤ 999999) : b.rsync.2 = a.sync.2 ∧ Twin a.sync.1 b.rsync.1 := by
  have hw := h.changed hc
  unfold DS.rsync DS.sync
  rw [h.err]
  split
  · exact ⟨rfl, hw⟩
  · refine ⟨rfl, ⟨hw.now, ?_, rfl, hw.count, hw.down, hw.fail, hw.halt, hw.in1, hw.in2, hw.in3, hw.c0, hw.c1⟩⟩
    simp only [DS.synced, DS.settledTo]
    rw [hw.row, hw.sure]
theorem torn_cong {a b : DS} (hs : b.sure = a.sure) (hr : b.row = a.row) (keep : List Int) : ∀ k, tornTo b keep k = tornTo a keep k
  | 0 => hs
  | k + 1 => by simp only [tornTo, torn_cong hs hr keep k, hr]
theorem Twin.restart {a b : DS} (h : Twin a b) (keep : List Int) : Twin (a.restart keep) (b.rrestart keep) := by
  rw [rrestart_eq]
  refine ⟨?_, ?_, rfl, h.count, rfl, .inl ⟨by simp [DS.restart], rfl⟩, .inr (.inl ⟨by simp [DS.restart], rfl⟩), by simp [DS.restart], by simp [DS.restart], by simp [DS.restart], h.c0, h.c1⟩
  · simp only [DS.restart]; rw [torn_cong h.sure h.row, h.row]
  · simp only [DS.restart]; rw [torn_cong h.sure h.row, h.row]
theorem Twin.setFail {a b : DS} (h : Twin a b) (n : Int) (hn : -9223372036854775808 ≤ n ∧ n ≤ 9223372036854775807) : Twin { a with fail := n } { b with fail := max n 0 } :=
  ⟨h.now, h.sure, h.row, h.count, h.down, by unfold FailR; show _; simp only; omega, h.halt, hn, h.in2, h.in3, h.c0, h.c1⟩
theorem Twin.setHalt {a b : DS} (h : Twin a b) (n : Int) (hn : -9223372036854775808 ≤ n ∧ n ≤ 9223372036854775807) : Twin { a with halt := n } { b with halt := max n (-1) } :=
  ⟨h.now, h.sure, h.row, h.count, h.down, h.fail, .inr (by unfold HaltR; show _; simp only; omega), h.in1, hn, by simp only; omega, h.c0, h.c1⟩
theorem Twin.read {a b : DS} (h : Twin a b) (i : Int) : b.read i = a.read i := by
  unfold DS.read
  rw [h.down, h.now]
theorem Twin.fresh (n : Nat) : Twin (DS.fresh n) (DS.fresh n) :=
  ⟨rfl, rfl, rfl, rfl, rfl, .inl ⟨by simp [DS.fresh], rfl⟩, .inr (.inl ⟨by simp [DS.fresh], rfl⟩), by simp [DS.fresh], by simp [DS.fresh], by simp [DS.fresh], by simp [DS.fresh], by simp [DS.fresh]⟩
end Go.Proofs.Ytgifigfdjcgkaaa.D
