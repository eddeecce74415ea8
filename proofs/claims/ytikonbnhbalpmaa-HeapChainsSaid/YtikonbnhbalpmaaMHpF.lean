import Derived.Test.YtikonbnhbalpmaaMHpM
/-
  How full the pages of a heap are, and how many there may be: plain data. No program in sight.
-/
namespace Go.Proofs.Ytikonbnhbalpmaa.H
set_option linter.unusedSimpArgs false
open Go Go.RowKit Go.Proofs.Ytikonbnhbalpmaa.B Go.Proofs.Ytikonbnhbalpmaa.C Go.Proofs.Ytikonbnhbalpmaa.G
set_option linter.unusedVariables false
/-! ### what lies in a page -/
/-- The lengths of the first n slots' cells. -/
def sumL (p : List UInt8) : Nat → Nat
  | 0 => 0
  | n + 1 => sumL p n + sL p n
theorem sumC_append : ∀ (l k : List (Nat × Nat)), sumC (l ++ k) = sumC l + sumC k
  | [], k => by simp [sumC]
  | c :: l, k => by simp only [List.cons_append, sumC, sumC_append l k]; omega
theorem sumC_perm {l k : List (Nat × Nat)} (h : l.Perm k) : sumC l = sumC k := by
  induction h with
  | nil => rfl
  | cons x _ ih => simp only [sumC, ih]
  | swap x y l => simp only [sumC]; omega
  | trans _ _ h1 h2 => exact h1.trans h2
theorem sumC_used {p : List UInt8} (h : Core p) : ∀ n, n ≤ nS p → sumC (((List.range n).map fun i => (sP p i, sL p i)).filter used) = sumL p n
  | 0, _ => rfl
  | n + 1, hn => by
    have hg := h.goodAt (i := n) (by omega)
    rw [List.range_succ, List.map_append, List.filter_append, sumC_append, sumC_used h n (by omega)]
    show _ + _ = sumL p n + sL p n
    congr 1
    by_cases h0 : sP p n = 0
    · simp [used, h0, sumC, hg.1 h0]
    · have hu : used (sP p n, sL p n) = true := by simp [used, h0]
      show sumC (List.filter used [(sP p n, sL p n)]) = sL p n
      rw [List.filter_cons_of_pos hu]; simp [sumC]
theorem core_sum {p : List UInt8} (h : Core p) : bg p + sumL p (nS p) = 512 := by
  obtain ⟨l, hp, hc⟩ := h.row
  have h1 := chain_sum hc
  rw [sumC_perm hp] at h1
  have h2 := sumC_used h (nS p) (Nat.le_refl _)
  unfold cells at h1
  rw [h2] at h1
  exact h1
theorem sum_pairs {root next : Nat} {p : List UInt8} (h : HPage root next p) : ∀ j, (∀ k, k < 1 + 2 * j → ct p k ≠ none) → 8 + 25 * j ≤ sumL p (1 + 2 * j)
  | 0, hu => by
    have := (ct_long h.pg.body.core h.head).2.2.1
    rw [head_len] at this
    simp [sumL, this]
  | j + 1, hu => by
    have ih := sum_pairs h j (fun k hk => hu k (by omega))
    rcases h.pairs (1 + 2 * j) (by omega) with ⟨s, r, h1, h2, h3, h4, h5⟩ | ⟨h1, _⟩
    · have e1 := (ct_long h.pg.body.core h1).2.2.1
      have e2 := (ct_long h.pg.body.core h2).2.2.1
      show _ ≤ sumL p (1 + 2 * j) + sL p (1 + 2 * j) + sL p (1 + 2 * j + 1)
      omega
    · exact absurd h1 (hu _ (by omega))
theorem bg_size {p : List UInt8} (h : Core p) : bg p ≤ 512 := h.fin
/-- All slots are used: there are not many. -/
theorem full_slots {root next : Nat} {p : List UInt8} (h : HPage root next p) (hf : freeS p = nS p) : ∃ j, nS p = 1 + 2 * j ∧ 33 * j ≤ 490 := by
  have ho := h.odd.1
  have hc := h.pg.body.core
  have hs := core_sum hc
  have hfit := hc.fit
  refine ⟨nS p / 2, by omega, ?_⟩
  have h1 := sum_pairs h (nS p / 2) (fun k hk => ct_free (by omega))
  rw [show 1 + 2 * (nS p / 2) = nS p by omega] at h1
  omega
/-! ### a version is laid, or not -/
theorem lays_fill {root next xmin : Nat} {p row q : List UInt8} (h : HPage root next p) (hn : nS p ≤ 29) (h1 : 1 ≤ row.length) (h2 : row.length ≤ 370) (hq : laysB p row xmin = some q) (hx : xmin < W64) : bg q + 24 + row.length = bg p ∧ nS q ≤ 29 := by
  have hL := lays_page h hx h1 h2 hq
  unfold laysB at hq
  split at hq
  case isFalse => cases hq
  rename_i hc
  obtain ⟨hc1, hc2⟩ := hc
  have hq := (Option.some.inj hq).symm
  have I1 := ins_ok hc1
  have I2 := ins_ok hc2
  have n1 := (insE_ok hc1).2.2.2.1
  have n2 := (insE_ok hc2).2.2.2.1
  have hodd := h.odd
  have hfl := freeS_le p
  have hs : (stampC xmin 0 0).length = 24 := stamp_len _ _ _
  generalize stampC xmin 0 0 = s at *
  generalize hm : insP p s = m at *
  rw [← hq] at I2
  have hfm : freeS m = freeS p + 1 := freeS_eq (fun k hk => by
    by_cases e : k = freeS p
    · rw [e, I1.mine]; simp
    · rw [I1.rest k e]; exact ct_free (by omega)) (by rw [I1.rest _ (by omega)]; exact hodd.2.2)
  have b1 := I1.beg
  have b2 := I2.beg
  have c1 := I1.count
  have c2 := I2.count
  rw [hfm] at c2
  have f1 : s.length ≤ bg p := by unfold need freeB at n1; split at n1 <;> omega
  have f2 : row.length ≤ bg m := by unfold need freeB at n2; split at n2 <;> omega
  refine ⟨by omega, ?_⟩
  by_cases hlt : freeS p < nS p
  · have hodd2 : freeS p + 1 < nS p := by
      have hl := h.pg.body.last (by omega)
      have hne : ct p (nS p - 1) ≠ none := ct_used.2 ⟨by omega, hl⟩
      rcases Nat.lt_or_ge (freeS p + 1) (nS p) with h3 | h3
      · exact h3
      · exfalso
        have : nS p - 1 = freeS p := by omega
        rw [this] at hne
        exact hne hodd.2.1
    omega
  · have hq2 := full_slots hL.page (freeS_eq (p := q) (j := nS q) (fun k hk => by
      rw [c2, c1] at hk
      by_cases e : k = freeS p + 1
      · rw [e, ← hfm, I2.mine]; simp
      · rw [I2.rest k (by rw [hfm]; exact e)]
        by_cases e2 : k = freeS p
        · rw [e2, I1.mine]; simp
        · rw [I1.rest k e2]; exact ct_free (by omega)) (ct_none.2 (by omega)))
    obtain ⟨j, hj1, hj2⟩ := hq2
    omega
/-- No room: the page is full, or nearly so. -/
theorem lays_room {root next xmin : Nat} {p row : List UInt8} (h : HPage root next p) (hn : nS p ≤ 29) (h1 : 1 ≤ row.length) (h2 : row.length ≤ 370) (hq : laysB p row xmin = none) : 347 + bg p ≤ 504 + row.length := by
  have hc := h.pg.body.core
  have hfit := hc.fit
  have hodd := h.odd
  have hfl := freeS_le p
  have hs : (stampC xmin 0 0).length = 24 := stamp_len _ _ _
  have hok : ok p ≠ false := by rw [ok_iff.2 h.pg]; simp
  rcases lays_no hq with hi | ⟨hi, hj⟩
  · unfold insE at hi
    rw [if_neg (by simpa using hok), if_neg (by omega)] at hi
    have hc2 : freeB p < need p (stampC xmin 0 0) ∨ freeS p = 125 := by
      by_cases hc2 : freeB p < need p (stampC xmin 0 0) ∨ freeS p = 125
      · exact hc2
      · rw [if_neg hc2] at hi; exact absurd rfl hi
    rcases hc2 with hc2 | hc2
    · unfold need freeB at hc2
      rw [hs] at hc2
      split at hc2
      · omega
      · have := full_slots h (by omega)
        omega
    · omega
  · have I1 := ins_ok hi
    have n1 := (insE_ok hi).2.2.2.1
    generalize stampC xmin 0 0 = s at *
    generalize hm : insP p s = m at *
    have hfm : freeS m = freeS p + 1 := freeS_eq (fun k hk => by
      by_cases e : k = freeS p
      · rw [e, I1.mine]; simp
      · rw [I1.rest k e]; exact ct_free (by omega)) (by rw [I1.rest _ (by omega)]; exact hodd.2.2)
    have b1 := I1.beg
    have c1 := I1.count
    have hokm : ok m ≠ false := by rw [ok_iff.2 I1.pg]; simp
    unfold insE at hj
    rw [if_neg (by simpa using hokm), if_neg (by omega)] at hj
    have hc2 : freeB m < need m row ∨ freeS m = 125 := by
      by_cases hc2 : freeB m < need m row ∨ freeS m = 125
      · exact hc2
      · rw [if_neg hc2] at hj; exact absurd rfl hj
    have f1 : s.length ≤ bg p := by unfold need freeB at n1; split at n1 <;> omega
    by_cases hlt : freeS p < nS p
    · have hodd2 : freeS p + 1 < nS p := by
        have hl := h.pg.body.last (by omega)
        have hne : ct p (nS p - 1) ≠ none := ct_used.2 ⟨by omega, hl⟩
        rcases Nat.lt_or_ge (freeS p + 1) (nS p) with h3 | h3
        · exact h3
        · exfalso
          have : nS p - 1 = freeS p := by omega
          rw [this] at hne
          exact hne hodd.2.1
      rcases hc2 with hc2 | hc2
      · unfold need freeB at hc2
        rw [hfm, if_pos (by omega)] at hc2
        omega
      · omega
    · have := full_slots h (by omega)
      rcases hc2 with hc2 | hc2
      · unfold need freeB at hc2
        split at hc2 <;> omega
      · omega
end Go.Proofs.Ytikonbnhbalpmaa.H
