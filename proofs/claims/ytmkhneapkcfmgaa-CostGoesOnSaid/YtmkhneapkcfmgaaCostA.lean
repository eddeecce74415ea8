/-
  The small functions of package cost, each by a contract: in, of, up, the closure of Can, IndexFunc and ContainsFunc over it. No conditions but those typed.
-/
import Derived.Test.YtmkhneapkcfmgaaProg
import Derived.WalkKit
import Derived.ProofKit
import Derived.WalkLawsBesides
import Derived.WalkSpells
import Derived.BigQuiet
import Derived.Deep.QuietTactic
import Derived.Lib.Hide
namespace Go.Proofs.Ytmkhneapkcfmgaa.K
open Go.RowKit
set_option linter.unusedVariables false

theorem in_any (a b c : Int) (w : World) :
    Calls Try.prog 15 #[.int .i64 a, .int .i64 b, .int .i64 c] w fun e w' => e = .returned (.bool (decide (b ≤ a) && decide (a ≤ c))) ∧ w = w' := by
  by_cases h : b ≤ a
  all_goals
    go_enter Try.func15, Try.ntmps15
    go_wp2
    go_ret
    simp [h]
  omega

theorem of_any (a b : Int) (w : World) :
    Calls Try.prog 13 #[.int .i64 a, .int .i64 b] w fun e w' => e = .returned (.complex .f64 (floatOfInt .f64 a) (floatOfInt .f64 b)) ∧ w = w' := by
  go_enter Try.func13, Try.ntmps13
  go_wp2
  go_ret
  exact ⟨rfl, rfl⟩

theorem up_any (a b : Int) (w : World) (h : 0 ≤ a) (h1 : a ≤ 1099511627776) (h2 : 1 ≤ b) (h3 : b ≤ 1099511627776):
    Calls Try.prog 14 #[.int .i64 a, .int .i64 b] w fun e w' => e = .returned (.int .i64 ((a + b - 1) / b)) ∧ w = w' := by
  go_enter Try.func14, Try.ntmps14
  go_wp2
  go_ret
  exact ⟨rfl, rfl⟩

/-- The closure of Can: is a number out of its bounds? Here: it isn't. -/
theorem can1_no (n rows : Int) (p : Addr) (w : World) (hp : w.cell? p = some (.int .i64 rows)) (h0 : 0 ≤ rows) (h1 : 1 ≤ n ∨ rows = 0 ∧ n = 0) (h2 : n ≤ rows) :
    Calls Try.prog 20 #[.int .i64 n, .pointer (some p)] w fun e w' => e = .returned (.bool false) ∧ w = w' := by
  obtain ⟨b, o, s⟩ := p
  go_enter Try.func20, Try.ntmps20
  by_cases h3 : rows < 1
  all_goals
    go_wp2_with (go_at_call 15; refine (in_any _ _ _ _).mono ?_; rintro e w' ⟨rfl, rfl⟩)
    all_goals
      go_ret
      simp
      omega

/-- A slice of ints that reads as a list. -/
def IntsIn (w : World) (ao : Option Addr) (l : List Int) : Prop :=
  0 < l.length → ∃ b o, ao = some ⟨b, o, none⟩ ∧ ∀ j, j < l.length → w.cell? ⟨b, o + j, none⟩ = some (.int .i64 (l.getD j 0))
theorem IntsIn.below {w w' : World} {ao : Option Addr} {l : List Int} (h : IntsIn w ao l) (hb : Below w.heap.size w w') : IntsIn w' ao l := fun hl => by
  obtain ⟨b, o, e, hc⟩ := h hl
  exact ⟨b, o, e, fun j hj => cell_later hb (hc j hj)⟩
def Bounds (rows : Int) (l : List Int) : Prop := ∀ j, j < l.length → (1 ≤ l.getD j 0 ∨ rows = 0 ∧ l.getD j 0 = 0) ∧ l.getD j 0 ≤ rows

/-- slices.IndexFunc over that closure, where every number is in its bounds. -/
theorem idx_no (l : List Int) (rows : Int) (ao : Option Addr) (cap : Nat) (p : Addr) (w : World) (hp : w.cell? p = some (.int .i64 rows)) (h0 : 0 ≤ rows)
    (hb : Bounds rows l) (hl : l.length ≤ 8) (ha : IntsIn w ao l) :
    Calls Try.prog 24 #[.slice ao l.length cap, .func (.func 20) #[] #[.pointer (some p)]] w fun e w' => e = .returned (.int .i64 (-1)) ∧ w = w' := by
  unfold IntsIn at ha
  unfold Bounds at hb
  have HB := Lib.hid hb
  have HA := Lib.hid ha
  clear hb ha
  generalize hn : l.length = n at *
  have hn' := Lib.hid hn
  clear hn
  go_enter Try.func24, Try.ntmps24
  go_wp2
  go_loop [8] (fun i => ∃ k : Nat, k ≤ n ∧ i = .int .i64 k) (fun i => n - (intOf i).toNat)
  case atStart => exact ⟨0, Nat.zero_le _, rfl⟩
  case round =>
    obtain ⟨k, hk, rfl⟩ := hrel
    by_cases hlt : k < n
    · obtain ⟨b, o, rfl, hc⟩ := HA.out (by omega)
      have hb := HB.out k hlt
      have hcell := hc k hlt
      have H1 := Lib.hid hb
      clear hc hb
      go_wp2_with (go_at_call 20; refine (can1_no _ rows p _ hp h0 H1.out.1 H1.out.2).mono ?_; rintro e w' ⟨rfl, rfl⟩)
      go_round
      case rel => exact ⟨k + 1, by omega, by go_num⟩
      case measure => simp [intOf]; omega
    · go_wp2
      go_ret
      exact ⟨rfl, rfl⟩

theorem contains_no (l : List Int) (rows : Int) (ao : Option Addr) (cap : Nat) (p : Addr) (w : World) (hp : w.cell? p = some (.int .i64 rows)) (h0 : 0 ≤ rows)
    (hb : Bounds rows l) (hl : l.length ≤ 8) (ha : IntsIn w ao l) :
    Calls Try.prog 19 #[.slice ao l.length cap, .func (.func 20) #[] #[.pointer (some p)]] w fun e w' => e = .returned (.bool false) ∧ w = w' := by
  have C := idx_no l rows ao cap p w hp h0 hb hl ha
  have HC := Lib.hid C
  clear C
  go_enter Try.func19, Try.ntmps19
  go_wp2_with (go_at_call 24; refine HC.out.mono ?_; rintro e w' ⟨rfl, rfl⟩)
  go_ret
  exact ⟨rfl, rfl⟩

theorem can_yes (l : List Int) (rows : Int) (ao : Option Addr) (cap : Nat) (w : World) (h0 : 0 ≤ rows) (h1 : rows ≤ 1048576)
    (hb : Bounds rows l) (hl : l.length ≤ 8) (ha : IntsIn w ao l) :
    Calls Try.prog 12 #[.agg #[.int .i64 rows, .slice ao l.length cap]] w fun e w' => e = .returned (.bool true) ∧ Below w.heap.size w w' := by
  have C := fun o hp => contains_no l rows ao cap ⟨w.heap.size, 0, none⟩ (w.alloc o) hp h0 hb hl (ha.below ((Below.refl _ _).alloc (Nat.le_refl _) _))
  have HC := Lib.hid C
  clear C
  generalize l.length = n at *
  go_enter Try.func12, Try.ntmps12
  go_wp2_with (first | (go_at_call 15; refine (in_any _ _ _ _).mono ?_; rintro e w' ⟨rfl, rfl⟩) | (go_at_call 19; refine (HC.out _ (by simp)).mono ?_; rintro e w' ⟨rfl, rfl⟩))
  go_ret
  exact ⟨rfl, (Below.refl _ _).alloc (Nat.le_refl _) _⟩
end Go.Proofs.Ytmkhneapkcfmgaa.K
