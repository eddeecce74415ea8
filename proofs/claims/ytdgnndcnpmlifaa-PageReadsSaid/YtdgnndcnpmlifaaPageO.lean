/-
  The calls on pages, as plain data: which error, which slot, which page. No program in sight.
-/
import Derived.Test.YtdgnndcnpmlifaaPageN
namespace Go.Proofs.Ytdgnndcnpmlifaa.G
set_option linter.unusedSimpArgs false
open Go Go.RowKit Go.Proofs.Ytdgnndcnpmlifaa.B Go.Proofs.Ytdgnndcnpmlifaa.C
set_option linter.unusedVariables false
/-! ### the number of slots is another one -/
theorem put_two {p : List UInt8} {a : Nat} (h : a + 2 ≤ p.length) : put p a (two p a) = p := by
  have ht := two_lt p a
  have h1 := g_lt p a
  have h2 := g_lt p (a + 1)
  refine ext_g (put_len _ h) fun i _ => ?_
  rw [g_put h ht]
  unfold two at *
  split
  · subst i; omega
  · split
    · subst i; omega
    · rfl
theorem put_put {p : List UInt8} {a n m : Nat} (h : a + 2 ≤ p.length) (hn : n < 65536) (hm : m < 65536) : put (put p a n) a m = put p a m := by
  have hl := put_len n h
  refine ext_g (by rw [put_len _ (by rw [hl]; exact h), hl, put_len _ h]) fun i _ => ?_
  rw [g_put (by rw [hl]; exact h) hm, g_put h hm, g_put h hn]
  split
  · rfl
  · split <;> rfl
section
variable {p : List UInt8} {m : Nat} (hl : p.length = 512)
include hl
theorem six_len : (put p 6 m).length = 512 := by rw [put_len _ (by omega)]; exact hl
variable (hm : m < 65536)
include hm
theorem six_count : nS (put p 6 m) = m := two_put (by omega) hm
theorem six_far (i : Nat) (h6 : i ≠ 6) (h7 : i ≠ 7) : g (put p 6 m) i = g p i := by rw [g_put (by omega) hm, if_neg h6, if_neg (by omega)]
theorem six_bg : bg (put p 6 m) = bg p := two_put_ne (by omega) hm (by omega)
theorem six_place (i : Nat) : sP (put p 6 m) i = sP p i := two_put_ne (by omega) hm (by omega)
theorem six_length (i : Nat) : sL (put p 6 m) i = sL p i := two_put_ne (by omega) hm (by omega)
end
/-- Other slots at the end, of which none is used. -/
structure Wide (p : List UInt8) (m : Nat) (q : List UInt8) : Prop where
  core : Core q
  count : nS q = m
  beg : bg q = bg p
  kind : g q 4 = g p 4
  rest : ∀ k, ct q k = ct p k
  place : ∀ k, sP q k = sP p k
  long : ∀ k, sL q k = sL p k
theorem zero_four {p : List UInt8} {k : Nat} (h1 : sP p k = 0) (h2 : sL p k = 0) (r : Nat) (hr : r < 4) : g p (10 + 4 * k + r) = 0 := by
  obtain ⟨a, b⟩ := two_zero h1
  obtain ⟨c, d⟩ := two_zero h2
  have e1 : 12 + 4 * k = 10 + 4 * k + 2 := by omega
  rw [e1] at c d
  match r, hr with
  | 0, _ => exact a
  | 1, _ => exact b
  | 2, _ => exact c
  | 3, _ => exact d
theorem Core.wide {p : List UInt8} {m : Nat} (h : Core p) (hm : m ≤ 125) (hf : 10 + 4 * m ≤ bg p) (hz : ∀ k, m ≤ k → k < nS p → sP p k = 0) : Wide p m (put p 6 m) := by
  have hl := h.len
  have hmm : m < 65536 := by omega
  have L := six_len (m := m) hl
  have N := six_count hl hmm
  have F := six_far hl hmm
  have B := six_bg hl hmm
  have P := six_place hl hmm
  have Q := six_length hl hmm
  have hfin := h.fin
  have hfit := h.fit
  have hgap2 : ∀ k, nS p ≤ k → k < m → sP p k = 0 ∧ sL p k = 0 := fun k h1 h2 => by
    have hg := h.gap
    unfold sP sL two
    rw [hg _ (by omega) (by omega), hg _ (by omega) (by omega), hg _ (by omega) (by omega), hg _ (by omega) (by omega)]
    exact ⟨rfl, rfl⟩
  have hcf : (cells (put p 6 m)).filter used = (cells p).filter used := by
    have hext : ∀ a b : Nat, a ≤ b → (∀ k, a ≤ k → k < b → sP p k = 0) → ((List.range b).map fun i => (sP p i, sL p i)).filter used = ((List.range a).map fun i => (sP p i, sL p i)).filter used := by
      intro a b hab h0
      obtain ⟨d, rfl⟩ : ∃ d, b = a + d := ⟨b - a, by omega⟩
      clear hab
      induction d with
      | zero => rfl
      | succ d ih =>
        rw [show a + (d + 1) = a + d + 1 by omega, List.range_succ, List.map_append, List.filter_append, ih (fun k h1 h2 => h0 k h1 (by omega))]
        simp [used, h0 (a + d) (by omega) (by omega)]
    have hc : cells (put p 6 m) = (List.range m).map fun i => (sP p i, sL p i) := by
      unfold cells
      rw [N]
      exact List.map_congr_left fun i _ => by rw [P, Q]
    rw [hc]
    unfold cells
    rcases Nat.le_total m (nS p) with h1 | h1
    · exact (hext m (nS p) h1 hz).symm
    · exact hext (nS p) m h1 fun k h1 h2 => (hgap2 k h1 h2).1
  refine ⟨⟨L, by rw [F 5 (by omega) (by omega)]; exact h.zero, by rw [N]; exact hm, by rw [N, B]; exact hf, by rw [B]; exact hfin, ?_, ?_, ?_⟩, N, B, F 4 (by omega) (by omega), ?_, P, Q⟩
  · refine goodP fun k hk => ?_
    rw [N] at hk
    rw [P, Q]
    by_cases hkn : k < nS p
    · exact h.goodAt hkn
    · obtain ⟨h1, h2⟩ := hgap2 k (by omega) hk
      rw [h1, h2]
      exact ⟨fun _ => rfl, fun hz => absurd rfl hz, by omega⟩
  · obtain ⟨l, hp, hc⟩ := h.row
    exact ⟨l, by rw [hcf]; exact hp, by rw [B]; exact hc⟩
  · intro j h1 h2
    rw [N] at h1
    rw [B] at h2
    rw [F j (by omega) (by omega)]
    by_cases hj : 10 + 4 * nS p ≤ j
    · exact h.gap j hj h2
    · have hk : (j - 10) / 4 < nS p := by omega
      have hz1 := hz ((j - 10) / 4) (by omega) hk
      have := zero_four hz1 ((h.goodAt hk).1 hz1) ((j - 10) % 4) (by omega)
      rw [show 10 + 4 * ((j - 10) / 4) + (j - 10) % 4 = j by omega] at this
      exact this
  · intro k
    have hcut : ∀ a n, bg p ≤ a → a + n ≤ 512 → cutP (put p 6 m) a n = cutP p a n := fun a n h1 h2 => cut_congr (by rw [L]; exact h2) (by rw [hl]; exact h2) fun t ht => F _ (by omega) (by omega)
    by_cases hk : k < nS p ∧ sP p k ≠ 0
    · obtain ⟨hk, hk0⟩ := hk
      have hkm : k < m := by
        rcases Nat.lt_or_ge k m with h1 | h1
        · exact h1
        · exact absurd (hz k h1 hk) hk0
      obtain ⟨h1, h2⟩ := h.in_ hk hk0
      rw [ct_some hk hk0, ct_some (by rw [N]; exact hkm) (by rw [P]; exact hk0), P, Q, hcut _ _ h1 h2]
    · rw [ct_none.2 hk, ct_none.2 ?_]
      rw [N, P]
      rintro ⟨h1, h2⟩
      by_cases hkn : k < nS p
      · exact hk ⟨hkn, h2⟩
      · exact h2 (hgap2 k (by omega) h1).1
/-- How many slots stay, of n: none that is free at the end. -/
def trimN (q : List UInt8) : Nat → Nat
  | 0 => 0
  | n + 1 => if sP q n = 0 then trimN q n else n + 1
theorem trim_le (q : List UInt8) : ∀ n, trimN q n ≤ n
  | 0 => Nat.le_refl _
  | n + 1 => by
    unfold trimN
    have := trim_le q n
    split <;> omega
theorem trim_zero (q : List UInt8) : ∀ n k, trimN q n ≤ k → k < n → sP q k = 0
  | 0, k, h1, h2 => by omega
  | n + 1, k, h1, h2 => by
    unfold trimN at h1
    split at h1
    · by_cases hk : k = n
      · subst hk; assumption
      · exact trim_zero q n k h1 (by omega)
    · omega
theorem trim_last (q : List UInt8) : ∀ n, 0 < trimN q n → sP q (trimN q n - 1) ≠ 0
  | 0, h => by simp [trimN] at h
  | n + 1, h => by
    unfold trimN at h ⊢
    split
    · rename_i h0
      rw [if_pos h0] at h
      exact trim_last q n h
    · rename_i h0
      exact h0
/-! ### the first slot that is free -/
def freeS (p : List UInt8) : Nat := (cells p).findIdx fun c => c.1 == 0
theorem freeS_le (p : List UInt8) : freeS p ≤ nS p := by
  have := List.findIdx_le_length (xs := cells p) (p := fun c => c.1 == 0)
  rw [cells_len] at this; exact this
theorem freeS_used {p : List UInt8} {k : Nat} (h : k < freeS p) : sP p k ≠ 0 := by
  have h2 := freeS_le p
  have := List.not_of_lt_findIdx h
  rw [cells_get] at this
  simpa using this
theorem freeS_free {p : List UInt8} (h : freeS p < nS p) : sP p (freeS p) = 0 := by
  have := List.findIdx_getElem (xs := cells p) (p := fun c => c.1 == 0) (w := by rw [cells_len]; exact h)
  rw [cells_get] at this
  show sP p (List.findIdx (fun c => c.1 == 0) (cells p)) = 0
  simpa using this
/-! ### Insert -/
def freeB (p : List UInt8) : Nat := bg p - 10 - 4 * nS p
def need (p b : List UInt8) : Nat := if freeS p < nS p then b.length else b.length + 4
noncomputable def insE (p b : List UInt8) : Nat := if ok p = false then 40 else if b.length < 1 ∨ 400 < b.length then 43 else if freeB p < need p b ∨ freeS p = 125 then 42 else 0
def insP (p b : List UInt8) : List UInt8 := sealedP (layP (put p 6 (max (nS p) (freeS p + 1))) (freeS p) b)
structure Ins (p b q : List UInt8) : Prop where
  pg : Pg q
  count : nS q = max (nS p) (freeS p + 1)
  beg : bg q = bg p - b.length
  kind : g q 4 = g p 4
  mine : ct q (freeS p) = some b
  rest : ∀ k, k ≠ freeS p → ct q k = ct p k
theorem sealed_ct {p : List UInt8} (h : Core p) (k : Nat) : ct (sealedP p) k = ct p k := by
  have hl := h.len
  have hg : ∀ i, 4 ≤ i → g (sealedP p) i = g p i := fun i hi => g_sealed hi
  have N : nS (sealedP p) = nS p := two_congr (hg _ (by omega)) (hg _ (by omega))
  have P : sP (sealedP p) k = sP p k := two_congr (hg _ (by omega)) (hg _ (by omega))
  have Q : sL (sealedP p) k = sL p k := two_congr (hg _ (by omega)) (hg _ (by omega))
  by_cases hk : k < nS p ∧ sP p k ≠ 0
  · obtain ⟨h1, h2⟩ := h.in_ hk.1 hk.2
    have hfit := h.fit
    rw [ct_some hk.1 hk.2, ct_some (by rw [N]; exact hk.1) (by rw [P]; exact hk.2), P, Q]
    congr 1
    refine cut_congr (by rw [sealed_len (by omega), hl]; exact h2) (by rw [hl]; exact h2) fun t ht => hg _ (by omega)
  · rw [ct_none.2 hk, ct_none.2 (by rw [N, P]; exact hk)]
theorem insE_ok {p b : List UInt8} (h : insE p b = 0) : Pg p ∧ 1 ≤ b.length ∧ b.length ≤ 400 ∧ need p b ≤ freeB p ∧ freeS p ≠ 125 := by
  unfold insE at h
  split at h
  · cases h
  split at h
  · cases h
  split at h
  · cases h
  rename_i h1 h2 h3
  simp only [not_or, Nat.not_lt] at h2 h3
  exact ⟨ok_iff.1 (by simpa using h1), h2.1, h2.2, h3.1, h3.2⟩
theorem ins_wide {p b : List UInt8} (h : Pg p) (hn : need p b ≤ freeB p) (hf : freeS p ≠ 125) (hb : 1 ≤ b.length) :
    Wide p (max (nS p) (freeS p + 1)) (put p 6 (max (nS p) (freeS p + 1))) ∧ sP p (freeS p) = 0 ∧ 10 + 4 * max (nS p) (freeS p + 1) + b.length ≤ bg p := by
  have hc := h.body.core
  have hle := freeS_le p
  have hfit := hc.fit
  have hmost := hc.most
  have hfin := hc.fin
  unfold need freeB at hn
  by_cases hlt : freeS p < nS p
  · rw [if_pos hlt] at hn
    have e : max (nS p) (freeS p + 1) = nS p := by omega
    rw [e]
    exact ⟨hc.wide hmost hfit (fun k h1 h2 => by omega), freeS_free hlt, by omega⟩
  · rw [if_neg hlt] at hn
    have e : freeS p = nS p := by omega
    have e2 : max (nS p) (freeS p + 1) = nS p + 1 := by omega
    have hW := hc.wide (m := nS p + 1) (by omega) (by omega) (fun k h1 h2 => by omega)
    rw [e2]
    refine ⟨hW, ?_, by omega⟩
    rw [e]
    have hg := hc.gap
    unfold sP two
    rw [hg _ (by omega) (by omega), hg _ (by omega) (by omega)]
theorem ins_lay {p b : List UInt8} (h : insE p b = 0) : Laid (put p 6 (max (nS p) (freeS p + 1))) (freeS p) b (layP (put p 6 (max (nS p) (freeS p + 1))) (freeS p) b) ∧ Wide p (max (nS p) (freeS p + 1)) (put p 6 (max (nS p) (freeS p + 1))) := by
  obtain ⟨hp, hb1, hb2, hn, hf⟩ := insE_ok h
  obtain ⟨hW, h0, hr⟩ := ins_wide hp hn hf hb1
  exact ⟨hW.core.lay (by rw [hW.count]; omega) (by rw [hW.place]; exact h0) hb1 hb2 (by rw [hW.count, hW.beg]; exact hr), hW⟩
theorem ins_ok {p b : List UInt8} (h : insE p b = 0) : Ins p b (insP p b) := by
  obtain ⟨hL, hW⟩ := ins_lay h
  obtain ⟨hp, hb1, hb2, hn, hf⟩ := insE_ok h
  have hle := freeS_le p
  unfold insP
  generalize layP (put p 6 (max (nS p) (freeS p + 1))) (freeS p) b = q at *
  have hN : nS q = max (nS p) (freeS p + 1) := by rw [hL.count, hW.count]
  have hB : Body q := hL.core.body fun hpos => by
    rw [hN] at hpos ⊢
    by_cases hi : max (nS p) (freeS p + 1) - 1 = freeS p
    · rw [hi]; exact hL.place
    · have e : max (nS p) (freeS p + 1) = nS p := by omega
      rw [e] at hi ⊢
      rw [(hL.far _ (by rw [hW.count]; omega) hi).1, hW.place]
      exact hp.body.last (by omega)
  have hg : ∀ i, 4 ≤ i → g (sealedP q) i = g q i := fun i hi => g_sealed hi
  refine ⟨hB.sealed, ?_, ?_, ?_, ?_, ?_⟩
  · rw [← hN]; exact two_congr (hg _ (by omega)) (hg _ (by omega))
  · rw [← hW.beg, ← hL.beg]; exact two_congr (hg _ (by omega)) (hg _ (by omega))
  · rw [hg 4 (by omega), hL.kind, hW.kind]
  · rw [sealed_ct hL.core]; exact hL.mine
  · intro k hk
    rw [sealed_ct hL.core, hL.rest k hk, hW.rest]
/-! ### Get, Delete, Replace -/
noncomputable def getE (p : List UInt8) (i : Int) : Nat := if ok p = false then 40 else if i < 0 ∨ (nS p : Int) ≤ i ∨ sP p i.toNat = 0 then 41 else 0
theorem getE_ok {p : List UInt8} {i : Int} (h : getE p i = 0) : Pg p ∧ ∃ k : Nat, i = k ∧ k < nS p ∧ sP p k ≠ 0 := by
  unfold getE at h
  split at h
  · cases h
  split at h
  · cases h
  rename_i h1 h2
  simp only [not_or] at h2
  exact ⟨ok_iff.1 (by simpa using h1), i.toNat, by omega, by omega, h2.2.2⟩
theorem getE_of {p : List UInt8} {k : Nat} (h : Pg p) (hk : k < nS p) (h0 : sP p k ≠ 0) : getE p k = 0 := by
  unfold getE
  rw [if_neg (by rw [ok_iff.2 h]; simp), if_neg]
  simp only [not_or]
  exact ⟨by omega, by omega, by simpa using h0⟩
/-- What Delete tells. -/
def Del (p : List UInt8) (i : Nat) (r : List UInt8) : Prop := ∃ q, Took p i q ∧ r = sealedP (put q 6 (trimN q (nS q)))
theorem Del.unique {p r s : List UInt8} {i : Nat} (h : Del p i r) (k : Del p i s) : r = s := by
  obtain ⟨q, hq, rfl⟩ := h
  obtain ⟨q2, hq2, rfl⟩ := k
  rw [hq.unique hq2]
structure Cut (p : List UInt8) (i : Nat) (q : List UInt8) : Prop where
  pg : Pg q
  le : nS q ≤ nS p
  high : ∀ k, nS q ≤ k → k < nS p → k ≠ i → ct p k = none
  last : 0 < nS q → ct q (nS q - 1) ≠ none
  beg : bg q = bg p + sL p i
  kind : g q 4 = g p 4
  mine : ct q i = none
  rest : ∀ k, k ≠ i → ct q k = ct p k
theorem Del.cut {p r : List UInt8} {i : Nat} (h : Del p i r) (hp : Pg p) (hi : i < nS p) (h0 : sP p i ≠ 0) : Cut p i r := by
  obtain ⟨q, hq, rfl⟩ := h
  have hG := hp.body.core.take hi h0 hq
  have hc := hG.core
  have hle := trim_le q (nS q)
  have hmost := hc.most
  have hfit := hc.fit
  have hW := hc.wide (m := trimN q (nS q)) (by omega) (by omega) (trim_zero q (nS q))
  have hlast := trim_last q (nS q)
  have hzero := trim_zero q (nS q)
  generalize trimN q (nS q) = m at *
  have hB : Body (put q 6 m) := hW.core.body fun hpos => by
    rw [hW.count] at hpos ⊢
    rw [hW.place]; exact hlast hpos
  have hg : ∀ i, 4 ≤ i → g (sealedP (put q 6 m)) i = g (put q 6 m) i := fun i hi => g_sealed hi
  have N : nS (sealedP (put q 6 m)) = m := (two_congr (hg _ (by omega)) (hg _ (by omega))).trans hW.count
  have hq0 : ct q i = none := ct_none.2 (by rw [hG.mine]; simp)
  refine ⟨hB.sealed, by rw [N, ← hG.count]; exact hle, ?_, ?_, ?_, by rw [hg 4 (by omega), hW.kind, hG.kind], by rw [sealed_ct hW.core, hW.rest]; exact hq0, fun k hk => by rw [sealed_ct hW.core, hW.rest, hG.rest k hk]⟩
  · intro k h1 h2 h3
    rw [N] at h1
    rw [← hG.rest k h3]
    exact ct_none.2 (by rw [hzero k h1 (by rw [hG.count]; exact h2)]; simp)
  · intro hpos
    rw [N] at hpos ⊢
    rw [sealed_ct hW.core]
    intro hn
    exact ct_none.1 hn ⟨by rw [hW.count]; omega, by rw [hW.place]; exact hlast hpos⟩
  · rw [← hG.beg, ← hW.beg]; exact two_congr (hg _ (by omega)) (hg _ (by omega))
noncomputable def repE (p : List UInt8) (i : Int) (b : List UInt8) : Nat := if getE p i ≠ 0 then getE p i else if b.length < 1 ∨ 400 < b.length then 43 else if freeB p + sL p i.toNat < b.length then 42 else 0
/-- What Replace tells. -/
def Rep (p : List UInt8) (i : Nat) (b r : List UInt8) : Prop := ∃ q, Took p i q ∧ r = sealedP (layP q i b)
theorem Rep.unique {p b r s : List UInt8} {i : Nat} (h : Rep p i b r) (k : Rep p i b s) : r = s := by
  obtain ⟨q, hq, rfl⟩ := h
  obtain ⟨q2, hq2, rfl⟩ := k
  rw [hq.unique hq2]
structure Swap (p : List UInt8) (i : Nat) (b q : List UInt8) : Prop where
  pg : Pg q
  count : nS q = nS p
  beg : bg q = bg p + sL p i - b.length
  kind : g q 4 = g p 4
  mine : ct q i = some b
  rest : ∀ k, k ≠ i → ct q k = ct p k
theorem Rep.swap {p b r : List UInt8} {i : Nat} (h : Rep p i b r) (hp : Pg p) (hi : i < nS p) (h0 : sP p i ≠ 0) (hb1 : 1 ≤ b.length) (hb2 : b.length ≤ 400) (hf : b.length ≤ freeB p + sL p i) : Swap p i b r := by
  obtain ⟨q, hq, rfl⟩ := h
  have hG := hp.body.core.take hi h0 hq
  have hfit := hp.body.fit
  have hL := hG.core.lay (i := i) (b := b) (by rw [hG.count]; exact hi) hG.mine hb1 hb2 (by rw [hG.count, hG.beg]; unfold freeB at hf; omega)
  generalize layP q i b = t at *
  have hN : nS t = nS p := by rw [hL.count, hG.count]
  have hB : Body t := hL.core.body fun hpos => by
    rw [hN] at hpos ⊢
    by_cases hi2 : nS p - 1 = i
    · rw [hi2]; exact hL.place
    · rw [(hL.far _ (by rw [hG.count]; omega) hi2).1]
      intro hz
      exact hp.body.last hpos (((hG.far _ (by omega) hi2).1).1 hz)
  have hg : ∀ i, 4 ≤ i → g (sealedP t) i = g t i := fun i hi => g_sealed hi
  refine ⟨hB.sealed, ?_, ?_, by rw [hg 4 (by omega), hL.kind, hG.kind], by rw [sealed_ct hL.core]; exact hL.mine, fun k hk => by rw [sealed_ct hL.core, hL.rest k hk, hG.rest k hk]⟩
  · rw [← hN]; exact two_congr (hg _ (by omega)) (hg _ (by omega))
  · rw [← hG.beg, ← hL.beg]; exact two_congr (hg _ (by omega)) (hg _ (by omega))
end Go.Proofs.Ytdgnndcnpmlifaa.G
