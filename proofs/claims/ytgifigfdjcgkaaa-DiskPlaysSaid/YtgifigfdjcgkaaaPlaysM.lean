/-
  The two disks go together step by step. No program in sight.
-/
import Derived.Test.YtgifigfdjcgkaaaRefX
namespace Go.Proofs.Ytgifigfdjcgkaaa.D
set_option linter.unusedSimpArgs false
open Go.RowKit
set_option linter.unusedVariables false
variable {a b : DS}

theorem Twin.fits (h : Twin a b) (hr : a.row.length ≤ 1000000) : Fits b := by
  have hf := h.fail
  have hh := h.halt
  refine ⟨by rw [h.count]; exact h.c0, by rw [h.count]; exact h.c1, ?_, ?_, by rw [h.row]; exact hr⟩
  · have := h.in1
    unfold FailR at hf
    omega
  · exact h.in3
theorem pair_write (T : Twin a b) (hc : a.count ≤ 999999) (i : Int) (l : List UInt8) : ∃ a' b' r, a.write i l = (a', r) ∧ b.rwrite i l = (b', r) ∧ Twin a' b' ∧ a'.count ≤ a.count + 1 ∧ a'.row.length ≤ a.row.length + 1 ∧ a'.now.length = a.now.length := by
  obtain ⟨h1, h2⟩ := T.write hc i l
  refine ⟨(a.write i l).1, (b.rwrite i l).1, (a.write i l).2, rfl, by rw [← h1], h2, ?_, ?_, ?_⟩
  all_goals
    unfold DS.write
    split
    · simp [DS.changed] <;> omega
    · split
      · simp [DS.changed] <;> omega
      · split <;> simp [DS.changed] <;> omega
theorem pair_sync (T : Twin a b) (hc : a.count ≤ 999999) : ∃ a' b' r, a.sync = (a', r) ∧ b.rsync = (b', r) ∧ Twin a' b' ∧ a'.count ≤ a.count + 1 ∧ a'.row.length ≤ a.row.length + 1 ∧ a'.now.length = a.now.length := by
  obtain ⟨h1, h2⟩ := T.sync hc
  refine ⟨a.sync.1, b.rsync.1, a.sync.2, rfl, by rw [← h1], h2, ?_, ?_, ?_⟩
  all_goals
    unfold DS.sync
    split
    · simp [DS.changed] <;> omega
    · simp [DS.changed, DS.synced, DS.settledTo] <;> omega
theorem pair_read (T : Twin a b) (i : Int) : ∃ l r, a.read i = (l, r) ∧ b.read i = (l, r) := ⟨_, _, rfl, T.read i⟩
end Go.Proofs.Ytgifigfdjcgkaaa.D
