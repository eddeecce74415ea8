import Derived.Test.YtikonbnhbalpmaaMHpM
/-
  A cell is taken out, as plain data: step by step, as the program and the document do it. No program in sight.
-/
namespace Go.Proofs.Ytikonbnhbalpmaa.G
set_option linter.unusedSimpArgs false
open Go Go.RowKit Go.Proofs.Ytikonbnhbalpmaa.B Go.Proofs.Ytikonbnhbalpmaa.C
set_option linter.unusedVariables false
/-- Bytes are moved, the first j slots are looked at. -/
structure Taking (p : List UInt8) (i j : Nat) (r : List UInt8) : Prop where
  len : r.length = 512
  head : ∀ t, t < 10 → g r t = g p t
  done : ∀ k, k < j → k ≠ i → sP r k = shP p i k ∧ sL r k = sL p k
  left : ∀ k, j ≤ k → k < nS p → sP r k = sP p k ∧ sL r k = sL p k
  rest : ∀ t, 10 + 4 * nS p ≤ t → t < 512 → g r t = mv p i t
/-- Does slot j's cell lie ahead of the one that is taken? -/
def ahead (p : List UInt8) (i j : Nat) : Prop := j ≠ i ∧ sP p j ≠ 0 ∧ sP p j < sP p i
theorem Taking.skip {p r : List UInt8} {i j : Nat} (h : Taking p i j r) (hj : j < nS p) (hc : ¬ ahead p i j) : Taking p i (j + 1) r := by
  refine ⟨h.len, h.head, fun k hk hki => ?_, fun k hk hkn => h.left k (by omega) hkn, h.rest⟩
  by_cases hkj : k = j
  · subst hkj
    obtain ⟨h1, h2⟩ := h.left k (Nat.le_refl _) hj
    refine ⟨?_, h2⟩
    rw [h1]
    unfold shP
    rw [if_neg hki, if_neg]
    exact fun hx => hc ⟨hki, hx.1, hx.2⟩
  · exact h.done k (by omega) hki
/-- Any page that has another place in one slot. -/
theorem Taking.move {p r r' : List UInt8} {i j : Nat} (h : Taking p i j r) (hj : j < nS p) (hn : 10 + 4 * nS p ≤ 512) (hc : ahead p i j) (hl : r'.length = 512) (hP : sP r' j = sP p j + sL p i) (hL : sL r' j = sL p j)
    (hf : ∀ t, t < 10 + 4 * j ∨ 14 + 4 * j ≤ t → g r' t = g r t) : Taking p i (j + 1) r' := by
  have hs : ∀ k, k ≠ j → sP r' k = sP r k ∧ sL r' k = sL r k := fun k hk => by
    unfold sP sL
    exact ⟨two_congr (hf _ (by omega)) (hf _ (by omega)), two_congr (hf _ (by omega)) (hf _ (by omega))⟩
  refine ⟨hl, fun t ht => by rw [hf t (by omega)]; exact h.head t ht, fun k hk hki => ?_, fun k hk hkn => by rw [(hs k (by omega)).1, (hs k (by omega)).2]; exact h.left k (by omega) hkn, fun t h1 h2 => by rw [hf t (by omega)]; exact h.rest t h1 h2⟩
  by_cases hkj : k = j
  · subst hkj
    refine ⟨?_, hL⟩
    rw [hP]
    unfold shP
    rw [if_neg hki, if_pos ⟨hc.2.1, hc.2.2⟩]
  · rw [(hs k hkj).1, (hs k hkj).2]; exact h.done k (by omega) hki
theorem Taking.took {p r q : List UInt8} {i : Nat} (h : Taking p i (nS p) r) (hi : i < nS p) (hl : q.length = 512) (h8 : two q 8 = bg p + sL p i) (hP : sP q i = 0) (hL : sL q i = 0)
    (hf : ∀ t, t ≠ 8 → t ≠ 9 → t < 10 + 4 * i ∨ 14 + 4 * i ≤ t → g q t = g r t) : Took p i q := by
  refine ⟨hl, fun t ht => by rw [hf t (by omega) (by omega) (by omega)]; exact h.head t (by omega), h8, fun k hk => ?_, fun t h1 h2 => by rw [hf t (by omega) (by omega) (by omega)]; exact h.rest t h1 h2⟩
  unfold shL
  by_cases hki : k = i
  · subst hki
    unfold shP
    rw [if_pos rfl, if_pos rfl]; exact ⟨hP, hL⟩
  · have := h.done k hk hki
    rw [if_neg hki, ← this.1, ← this.2]
    unfold sP sL
    exact ⟨two_congr (hf _ (by omega) (by omega) (by omega)) (hf _ (by omega) (by omega) (by omega)), two_congr (hf _ (by omega) (by omega) (by omega)) (hf _ (by omega) (by omega) (by omega))⟩
/-! ### the program's steps -/
def movedP (p : List UInt8) (i : Nat) : List UInt8 := over (over p (bg p + sL p i) (cutP p (bg p) (sP p i - bg p))) (bg p) (List.replicate (sL p i) 0)
theorem g_cut (p : List UInt8) (a n t : Nat) : g (cutP p a n) t = if t < n then g p (a + t) else 0 := by
  unfold cutP
  rw [g_take, g_drop]
theorem cut_len {p : List UInt8} {a n : Nat} (h : a + n ≤ p.length) : (cutP p a n).length = n := by
  unfold cutP
  rw [List.length_take, List.length_drop]; omega
theorem g_zeros (n t : Nat) : g (List.replicate n 0) t = 0 := by
  unfold g
  rw [List.getD_eq_getElem?_getD, List.getElem?_replicate]
  split <;> rfl
theorem moved_start {p : List UInt8} {i : Nat} (hl : p.length = 512) (hf : 10 + 4 * nS p ≤ bg p) (h1 : bg p ≤ sP p i) (h2 : sP p i + sL p i ≤ 512) : Taking p i 0 (movedP p i) := by
  have e1 : (cutP p (bg p) (sP p i - bg p)).length = sP p i - bg p := cut_len (by omega)
  have l1 : (over p (bg p + sL p i) (cutP p (bg p) (sP p i - bg p))).length = 512 := by rw [over_len (by omega)]; exact hl
  have G : ∀ t, g (movedP p i) t = if bg p ≤ t ∧ t < bg p + sL p i then 0 else if bg p + sL p i ≤ t ∧ t < sP p i + sL p i then g p (t - sL p i) else g p t := fun t => by
    unfold movedP
    rw [g_over (by rw [List.length_replicate]; omega), List.length_replicate, g_zeros]
    split
    · rfl
    · rw [g_over (by omega), e1]
      by_cases h : bg p + sL p i ≤ t ∧ t < sP p i + sL p i
      · rw [if_pos (by omega), if_pos h, g_cut, if_pos (by omega)]
        congr 1; omega
      · rw [if_neg (by omega), if_neg h]
  have hs : ∀ k, k < nS p → sP (movedP p i) k = sP p k ∧ sL (movedP p i) k = sL p k := fun k hk => by
    unfold sP sL
    refine ⟨two_congr ?_ ?_, two_congr ?_ ?_⟩
    all_goals (rw [G, if_neg (by omega), if_neg (by omega)])
  refine ⟨?_, fun t ht => by rw [G, if_neg (by omega), if_neg (by omega)], fun k hk => by omega, fun k _ hk => hs k hk, fun t ht1 ht2 => ?_⟩
  · unfold movedP
    rw [over_len (by rw [List.length_replicate]; omega), l1]
  · rw [G]
    unfold mv
    by_cases ha : t < bg p
    · rw [if_neg (by omega), if_neg (by omega), if_pos ha]
    · rw [if_neg ha]
      by_cases hb : t < bg p + sL p i
      · rw [if_pos (by omega), if_pos hb]
      · rw [if_neg (by omega), if_neg hb]
        by_cases hc : t < sP p i + sL p i
        · rw [if_pos (by omega), if_pos hc]
        · rw [if_neg (by omega), if_neg hc]
section
variable {r : List UInt8} {j a b : Nat} (hl : r.length = 512) (hj : 14 + 4 * j ≤ 512) (ha : a < 65536) (hb : b < 65536)
include hl hj
theorem setQ_len : (put (put r (10 + 4 * j) a) (12 + 4 * j) b).length = 512 := by
  rw [put_len _ (by rw [put_len _ (by omega)]; omega), put_len _ (by omega)]; exact hl
theorem setQ_long (hb2 : b < 65536) : sL (put (put r (10 + 4 * j) a) (12 + 4 * j) b) j = b := by
  unfold sL
  rw [two_put (by rw [put_len _ (by omega)]; omega) hb2]
include ha hb
theorem setQ_place : sP (put (put r (10 + 4 * j) a) (12 + 4 * j) b) j = a := by
  unfold sP
  rw [two_put_ne (by rw [put_len _ (by omega)]; omega) hb (by omega), two_put (by omega) ha]
theorem setQ_far (t : Nat) (ht : t < 10 + 4 * j ∨ 14 + 4 * j ≤ t) : g (put (put r (10 + 4 * j) a) (12 + 4 * j) b) t = g r t := by
  rw [g_put (by rw [put_len _ (by omega)]; omega) hb, if_neg (by omega), if_neg (by omega), g_put (by omega) ha, if_neg (by omega), if_neg (by omega)]
end
theorem Taking.set {p r : List UInt8} {i j : Nat} (h : Taking p i j r) (hj : j < nS p) (hn : 10 + 4 * nS p ≤ 512) (hc : ahead p i j) (hi : sP p i + sL p i ≤ 512) : Taking p i (j + 1) (put (put r (10 + 4 * j) (sP p j + sL p i)) (12 + 4 * j) (sL p j)) := by
  have hx : sP p j < sP p i := hc.2.2
  have hb := two_lt p (12 + 4 * j)
  have hb : sL p j < 65536 := hb
  exact h.move hj hn hc (setQ_len h.len (by omega)) (setQ_place h.len (by omega) (by omega) hb) (setQ_long h.len (by omega) hb) (setQ_far h.len (by omega) (by omega) hb)
/-- What the program does at the end. -/
theorem Taking.fin {p r : List UInt8} {i : Nat} (h : Taking p i (nS p) r) (hi : i < nS p) (hn : 10 + 4 * nS p ≤ 512) (h5 : bg p + sL p i ≤ 512) : Took p i (put (put (put r (10 + 4 * i) 0) (12 + 4 * i) 0) 8 (bg p + sL p i)) := by
  have hl := setQ_len (a := 0) (b := 0) h.len (j := i) (by omega)
  refine h.took hi (by rw [put_len _ (by omega)]; exact hl) (two_put (by omega) (by omega)) ?_ ?_ ?_
  · have := setQ_place (a := 0) (b := 0) h.len (j := i) (by omega) (by omega) (by omega)
    exact (two_put_ne (by omega) (by omega) (by omega)).trans this
  · have := setQ_long (a := 0) (b := 0) h.len (j := i) (by omega) (by omega)
    exact (two_put_ne (by omega) (by omega) (by omega)).trans this
  · intro t h8 h9 ht
    rw [g_put (by omega) (by omega), if_neg h8, if_neg (by omega)]
    exact setQ_far h.len (by omega) (by omega) (by omega) t ht
/-- What the document does at the end. -/
theorem Taking.fin' {p r : List UInt8} {i : Nat} (h : Taking p i (nS p) r) (hi : i < nS p) (hn : 10 + 4 * nS p ≤ 512) (h5 : bg p + sL p i ≤ 512) : Took p i (put (put (put r 8 (bg p + sL p i)) (10 + 4 * i) 0) (12 + 4 * i) 0) := by
  have hl : (put r 8 (bg p + sL p i)).length = 512 := by rw [put_len _ (by rw [h.len]; omega)]; exact h.len
  have hrl := h.len
  refine h.took hi (setQ_len hl (by omega)) ?_ (setQ_place hl (by omega) (by omega) (by omega)) (setQ_long hl (by omega) (by omega)) ?_
  · have := setQ_far (a := 0) (b := 0) hl (j := i) (by omega) (by omega) (by omega)
    rw [two_congr (this 8 (by omega)) (this 9 (by omega)), two_put (by omega) (by omega)]
  · intro t h8 h9 ht
    rw [setQ_far hl (by omega) (by omega) (by omega) t ht, g_put (by omega) (by omega), if_neg h8, if_neg (by omega)]
end Go.Proofs.Ytikonbnhbalpmaa.G
