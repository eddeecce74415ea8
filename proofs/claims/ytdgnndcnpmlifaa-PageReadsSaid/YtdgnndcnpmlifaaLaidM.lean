/-
  Cells that lie one right behind the other, as plain data: of a row that is sorted it is enough to look at it once. No program in sight.
-/
import Derived.Test.YtdgnndcnpmlifaaPageM
namespace Go.Proofs.Ytdgnndcnpmlifaa.G
set_option linter.unusedSimpArgs false
open Go
set_option linter.unusedVariables false
open Classical in
/-- Do cells lie one right behind the other from b on? -/
noncomputable def laidB (cs : List (Nat × Nat)) (b : Nat) : Bool := decide ((∀ c ∈ cs, goodC c) ∧ ∃ l, l.Perm (cs.filter used) ∧ chain b l)
theorem laid_iff {cs : List (Nat × Nat)} {b : Nat} : laidB cs b = true ↔ (∀ c ∈ cs, goodC c) ∧ ∃ l, l.Perm (cs.filter used) ∧ chain b l := by unfold laidB; simp
theorem laid_bad {cs : List (Nat × Nat)} {b : Nat} {c : Nat × Nat} (hc : c ∈ cs) (h : ¬ goodC c) : laidB cs b = false := by
  rw [Bool.eq_false_iff]
  intro h2
  exact h ((laid_iff.1 h2).1 c hc)
theorem chain_ge : ∀ {l : List (Nat × Nat)} {e : Nat}, chain e l → ∀ c ∈ l, e ≤ c.1
  | [], e, h, c, hc => by cases hc
  | x :: r, e, h, c, hc => by
    rcases List.mem_cons.1 hc with rfl | hc
    · exact Nat.le_of_eq h.1.symm
    · have := chain_ge h.2 c hc; omega
theorem chain_sorted : ∀ {l : List (Nat × Nat)} {e : Nat}, chain e l → (∀ c ∈ l, 1 ≤ c.2) → l.Pairwise fun a b => a.1 < b.1
  | [], e, h, hl => List.Pairwise.nil
  | x :: r, e, h, hl => by
    refine List.Pairwise.cons (fun c hc => ?_) (chain_sorted h.2 fun c hc => hl c (List.mem_cons_of_mem _ hc))
    have h1 := chain_ge h.2 c hc
    have h2 := hl x (by simp)
    have h3 := h.1
    omega
/-- One row that is sorted stands for all. -/
theorem laid_sorted {cs l : List (Nat × Nat)} {b : Nat} (hg : ∀ c ∈ cs, goodC c) (hp : l.Perm (cs.filter used)) (hs : l.Pairwise fun a b => a.1 ≤ b.1) : (laidB cs b = true) ↔ chain b l := by
  rw [laid_iff]
  constructor
  · rintro ⟨_, k, hk, hc⟩
    have hlen : ∀ c ∈ k, 1 ≤ c.2 := fun c hcm => by
      have := List.mem_filter.1 (hk.mem_iff.1 hcm)
      exact (hg c this.1).2.1 (by simpa [used] using this.2)
    have hks := chain_sorted hc hlen
    have hkn : ∀ x ∈ k, ∀ y ∈ k, x.1 = y.1 → x = y := by
      intro x hx y hy e
      obtain ⟨i, hi, rfl⟩ := List.mem_iff_getElem.1 hx
      obtain ⟨j, hj, rfl⟩ := List.mem_iff_getElem.1 hy
      have hpw := List.pairwise_iff_getElem.1 hks
      rcases Nat.lt_trichotomy i j with h | h | h
      · have := hpw i j hi hj h; omega
      · subst h; rfl
      · have := hpw j i hj hi h; omega
    have he : k = l := by
      have hkl := hk.trans hp.symm
      refine List.Perm.eq_of_pairwise (le := fun a b : Nat × Nat => a.1 ≤ b.1) (fun x y hx hy h1 h2 => hkn x hx y (hkl.mem_iff.2 hy) (by omega)) (hks.imp fun h => Nat.le_of_lt h) hs hkl
    rw [← he]; exact hc
  · intro hc
    exact ⟨hg, l, hp, hc⟩
end Go.Proofs.Ytdgnndcnpmlifaa.G
