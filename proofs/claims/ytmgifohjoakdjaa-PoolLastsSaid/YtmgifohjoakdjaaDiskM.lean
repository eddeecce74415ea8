/-
  The program's disk as plain data, and what its calls do to it. No program in sight.
-/
import Derived.Test.YtmgifohjoakdjaaHeap
namespace Go.Proofs.Ytmgifohjoakdjaa.D
set_option linter.unusedSimpArgs false
open Go.RowKit
set_option linter.unusedVariables false

abbrev Sector := List UInt8
def zeros : Sector := List.replicate 512 0

theorem zeros_len : zeros.length = 512 := List.length_replicate ..
/-- A countdown of the code: one less, but not below lo; the least int goes round. -/
def dec (x lo : Int) : Int := if wrap64 (x - 1) < lo then lo else wrap64 (x - 1)
theorem dec_lo {x lo : Int} (h : wrap64 (x - 1) < lo) : dec x lo = lo := if_pos h
theorem dec_hi {x lo : Int} (h : ¬ wrap64 (x - 1) < lo) : dec x lo = wrap64 (x - 1) := if_neg h

theorem dec_eq {x lo : Int} (h : -1000000000000 ≤ x) (h2 : x ≤ 1000000000000) : dec x lo = max (x - 1) lo := by
  have : wrap64 (x - 1) = x - 1 := by unfold wrap64; omega
  unfold dec
  rw [this]
  split <;> omega

structure DS where
  now : List Sector
  sure : List Sector
  row : List (Nat × Sector)
  count : Int
  fail : Int
  halt : Int
  down : Bool

/-- Behind a changing call: its count, its countdowns, the power. -/
def DS.changed (s : DS) : DS :=
  { s with count := s.count + 1, fail := dec s.fail 0, halt := dec s.halt (-1), down := s.down || s.halt == 0 }
/-- The error that the changing call tells. -/
def DS.err (s : DS) : Int := if s.down || s.halt == 0 then 13 else if s.fail == 1 then 12 else 0
def DS.fresh (n : Nat) : DS := { now := List.replicate n zeros, sure := List.replicate n zeros, row := [], count := 0, fail := 0, halt := -1, down := false }
def DS.write (s : DS) (i : Int) (l : Sector) : DS × Int :=
  if s.err ≠ 0 then (s.changed, s.err)
  else if i < 0 ∨ (s.now.length : Int) ≤ i then (s.changed, 11)
  else if l.length ≠ 512 then (s.changed, 10)
  else ({ s.changed with now := s.now.set i.toNat l, row := s.row ++ [(i.toNat, l)] }, 0)
end Go.Proofs.Ytmgifohjoakdjaa.D
