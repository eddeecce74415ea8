/-
  Cells that lie one right behind the other, as the document looks for them: from where they begin on, the next one must begin where one ends. Plain data.
-/
import Derived.Test.YtdgnndcnpmlifaaPageN
namespace Go.Proofs.Ytdgnndcnpmlifaa.G
set_option linter.unusedSimpArgs false
open Go Go.RowKit Go.Proofs.Ytdgnndcnpmlifaa.B Go.Proofs.Ytdgnndcnpmlifaa.C
set_option linter.unusedVariables false
/-- Cells one right behind the other from b to e. -/
def chainTo : Nat → List (Nat × Nat) → Nat → Prop
  | b, [], e => b = e
  | b, c :: r, e => c.1 = b ∧ chainTo (b + c.2) r e
theorem chainTo_snoc : ∀ {d : List (Nat × Nat)} {b e : Nat} {c : Nat × Nat}, chainTo b d e → c.1 = e → chainTo b (d ++ [c]) (e + c.2)
  | [], b, e, c, h, hc => ⟨by rw [hc]; exact h.symm, by have : b = e := h; subst this; rfl⟩
  | x :: r, b, e, c, h, hc => ⟨h.1, chainTo_snoc h.2 hc⟩
theorem chainTo_chain : ∀ {d : List (Nat × Nat)} {b : Nat}, chainTo b d 512 → chain b d
  | [], b, h => h
  | x :: r, b, h => ⟨h.1, chainTo_chain h.2⟩
theorem chainTo_ge : ∀ {d : List (Nat × Nat)} {b e : Nat}, chainTo b d e → ∀ c ∈ d, b ≤ c.1
  | [], b, e, h, c, hc => by cases hc
  | x :: r, b, e, h, c, hc => by
    rcases List.mem_cons.1 hc with rfl | hc
    · exact Nat.le_of_eq h.1.symm
    · have := chainTo_ge h.2 c hc; omega
theorem chainTo_sorted : ∀ {d : List (Nat × Nat)} {b e : Nat}, chainTo b d e → (∀ c ∈ d, 1 ≤ c.2) → d.Pairwise fun a b => a.1 < b.1
  | [], b, e, h, hl => List.Pairwise.nil
  | x :: r, b, e, h, hl => by
    refine List.Pairwise.cons (fun c hc => ?_) (chainTo_sorted h.2 fun c hc => hl c (List.mem_cons_of_mem _ hc))
    have h1 := chainTo_ge h.2 c hc
    have h2 := hl x (by simp)
    have h3 := h.1
    omega
/-- What is found one behind the other is how every such row begins. -/
theorem chain_prefix : ∀ {d l : List (Nat × Nat)} {b e : Nat}, chain b l → (∀ c ∈ l, 1 ≤ c.2) → chainTo b d e → (∀ c ∈ d, c ∈ l) → ∃ r, l = d ++ r ∧ chain e r
  | [], l, b, e, hc, hl, hd, hm => ⟨l, rfl, by have : b = e := hd; subst this; exact hc⟩
  | c :: d, [], b, e, hc, hl, hd, hm => by have := hm c (by simp); cases this
  | c :: d, x :: l, b, e, hc, hl, hd, hm => by
    have hs := chain_sorted hc hl
    have hx : c = x := by
      rcases List.mem_cons.1 (hm c (by simp)) with h | h
      · exact h
      · have h1 := (List.pairwise_cons.1 hs).1 c h
        have h2 := hd.1
        have h3 := hc.1
        omega
    subst hx
    obtain ⟨r, hr, hcr⟩ := chain_prefix hc.2 (fun y hy => hl y (List.mem_cons_of_mem _ hy)) hd.2 (fun y hy => by
      rcases List.mem_cons.1 (hm y (List.mem_cons_of_mem _ hy)) with h | h
      · have h1 := chainTo_ge hd.2 y hy
        have h2 := hl c (by simp)
        have h3 := hd.1
        rw [h] at h1
        omega
      · exact h)
    exact ⟨r, by rw [hr]; rfl, hcr⟩
theorem perm_of_in : ∀ {d l : List (Nat × Nat)}, d.Nodup → (∀ c ∈ d, c ∈ l) → l.length ≤ d.length → d.Perm l
  | [], l, hn, hm, hl => by
    have : l = [] := List.eq_nil_of_length_eq_zero (by simpa using hl)
    rw [this]
  | c :: d, l, hn, hm, hl => by
    have hc := hm c (by simp)
    have hp := List.perm_cons_erase hc
    refine (List.Perm.cons c ?_).trans hp.symm
    have hnd := List.nodup_cons.1 hn
    refine perm_of_in hnd.2 (fun y hy => ?_) ?_
    · have hy2 := hm y (List.mem_cons_of_mem _ hy)
      exact (List.mem_erase_of_ne (fun (e : y = c) => hnd.1 (by rw [← e]; exact hy))).2 hy2
    · have := hp.length_eq
      simp only [List.length_cons] at this hl
      omega
/-- What the document's search has found so far. -/
structure Found (cs : List (Nat × Nat)) (b : Nat) (left e : Nat) (d : List (Nat × Nat)) : Prop where
  mem : ∀ c ∈ d, c ∈ cs.filter used
  to : chainTo b d e
  left : left + d.length = (cs.filter used).length
theorem found_start (cs : List (Nat × Nat)) (b : Nat) : Found cs b (cs.filter used).length b [] := ⟨fun c hc => (nomatch hc), rfl, rfl⟩
theorem Found.more {cs : List (Nat × Nat)} {b left e : Nat} {d : List (Nat × Nat)} {c : Nat × Nat} (h : Found cs b left e d) (hl : 0 < left) (hc : c ∈ cs) (h1 : c.1 = e) (h0 : 0 < e) : Found cs b (left - 1) (e + c.2) (d ++ [c]) := by
  refine ⟨fun x hx => ?_, chainTo_snoc h.to h1, ?_⟩
  · rcases List.mem_append.1 hx with hx | hx
    · exact h.mem x hx
    · simp only [List.mem_cons, List.not_mem_nil, or_false] at hx
      subst hx
      exact List.mem_filter.2 ⟨hc, by simp only [used, bne_iff_ne]; omega⟩
  · have := h.left
    rw [List.length_append]; simp; omega
theorem Found.pos {cs : List (Nat × Nat)} {b left e : Nat} {d : List (Nat × Nat)} (h : Found cs b left e d) (hg : ∀ c ∈ cs, goodC c) : ∀ c ∈ d, 1 ≤ c.2 := fun c hc => by
  have := List.mem_filter.1 (h.mem c hc)
  exact (hg c this.1).2.1 (by simpa [used] using this.2)
theorem Found.none {cs : List (Nat × Nat)} {b left e : Nat} {d : List (Nat × Nat)} (h : Found cs b left e d) (hg : ∀ c ∈ cs, goodC c) (hl : 0 < left) (hn : ∀ c ∈ cs, c.1 ≠ e) : laidB cs b = false := by
  rw [Bool.eq_false_iff]
  intro hx
  obtain ⟨_, l, hp, hc⟩ := laid_iff.1 hx
  have hl1 : ∀ c ∈ l, 1 ≤ c.2 := fun c hcm => by
    have := List.mem_filter.1 (hp.mem_iff.1 hcm)
    exact (hg c this.1).2.1 (by simpa [used] using this.2)
  obtain ⟨r, hr, hcr⟩ := chain_prefix hc hl1 h.to (fun c hcm => hp.mem_iff.2 (h.mem c hcm))
  cases r with
  | nil =>
    have h1 := hp.length_eq
    rw [hr] at h1
    have h2 := h.left
    simp at h1
    omega
  | cons c r =>
    have hcm : c ∈ l := by rw [hr]; simp
    exact hn c (List.mem_filter.1 (hp.mem_iff.1 hcm)).1 hcr.1
theorem Found.fin {cs : List (Nat × Nat)} {b e : Nat} {d : List (Nat × Nat)} (h : Found cs b 0 e d) (hg : ∀ c ∈ cs, goodC c) : laidB cs b = decide (e = 512) := by
  rw [Bool.eq_iff_iff, decide_eq_true_iff]
  constructor
  · intro hx
    obtain ⟨_, l, hp, hc⟩ := laid_iff.1 hx
    have hl1 : ∀ c ∈ l, 1 ≤ c.2 := fun c hcm => by
      have := List.mem_filter.1 (hp.mem_iff.1 hcm)
      exact (hg c this.1).2.1 (by simpa [used] using this.2)
    obtain ⟨r, hr, hcr⟩ := chain_prefix hc hl1 h.to (fun c hcm => hp.mem_iff.2 (h.mem c hcm))
    cases r with
    | nil => exact hcr
    | cons c r =>
      have h1 := hp.length_eq
      rw [hr] at h1
      have h2 := h.left
      simp at h1
      omega
  · intro he
    subst he
    have hs := chainTo_sorted h.to (h.pos hg)
    refine laid_iff.2 ⟨hg, d, perm_of_in ?_ h.mem ?_, chainTo_chain h.to⟩
    · exact hs.imp fun hab e => by rw [e] at hab; omega
    · have := h.left; omega
end Go.Proofs.Ytdgnndcnpmlifaa.G
