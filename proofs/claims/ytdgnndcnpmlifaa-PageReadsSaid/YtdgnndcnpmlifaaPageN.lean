/-
  What the program does to pages, as plain data: a cell is laid, taken out, slots are trimmed: what a page is, and what its slots hold behind it. No program in sight.
-/
import Derived.Test.YtdgnndcnpmlifaaLaidM
namespace Go.Proofs.Ytdgnndcnpmlifaa.G
set_option linter.unusedSimpArgs false
open Go Go.RowKit Go.Proofs.Ytdgnndcnpmlifaa.B Go.Proofs.Ytdgnndcnpmlifaa.C
set_option linter.unusedVariables false
/-! ### two pages are one -/
theorem two_inj {p q : List UInt8} {a : Nat} (h : two p a = two q a) : g p a = g q a ∧ g p (a + 1) = g q (a + 1) := by
  have h1 := g_lt p a
  have h2 := g_lt q a
  unfold two at h
  omega
theorem ext_page {p q : List UInt8} (hp : p.length = 512) (hq : q.length = 512) (n : Nat) (h0 : ∀ i, i < 8 → g p i = g q i) (h8 : two p 8 = two q 8)
    (hs : ∀ k, k < n → sP p k = sP q k ∧ sL p k = sL q k) (hr : ∀ i, 10 + 4 * n ≤ i → i < 512 → g p i = g q i) : p = q := by
  refine ext_g (by rw [hp, hq]) fun i hi => ?_
  rw [hp] at hi
  by_cases h1 : i < 8
  · exact h0 i h1
  by_cases h2 : i = 8
  · subst h2; exact (two_inj h8).1
  by_cases h3 : i = 9
  · subst h3; exact (two_inj h8).2
  by_cases h4 : 10 + 4 * n ≤ i
  · exact hr i h4 hi
  obtain ⟨k, r, hk, hr4, rfl⟩ : ∃ k r, k < n ∧ r < 4 ∧ i = 10 + 4 * k + r := ⟨(i - 10) / 4, (i - 10) % 4, by omega, by omega, by omega⟩
  obtain ⟨ha, hb⟩ := hs k hk
  have ha := two_inj ha
  have hb := two_inj hb
  have e1 : 12 + 4 * k = 10 + 4 * k + 2 := by omega
  rw [e1] at hb
  match r, hr4 with
  | 0, _ => exact ha.1
  | 1, _ => exact ha.2
  | 2, _ => exact hb.1
  | 3, _ => exact hb.2
/-! ### a page's body but for its last slot -/
structure Core (p : List UInt8) : Prop where
  len : p.length = 512
  zero : g p 5 = 0
  most : nS p ≤ 125
  fit : 10 + 4 * nS p ≤ bg p
  fin : bg p ≤ 512
  good : ∀ c ∈ cells p, goodC c
  row : ∃ l, l.Perm ((cells p).filter used) ∧ chain (bg p) l
  gap : ∀ i, 10 + 4 * nS p ≤ i → i < bg p → g p i = 0
theorem Body.core {p : List UInt8} (h : Body p) : Core p := ⟨h.len, h.zero, h.most, h.fit, h.fin, h.good, h.row, h.gap⟩
theorem Core.body {p : List UInt8} (h : Core p) (hl : 0 < nS p → sP p (nS p - 1) ≠ 0) : Body p := ⟨h.len, h.zero, h.most, h.fit, h.fin, h.good, h.row, hl, h.gap⟩
theorem mem_cells {p : List UInt8} {i : Nat} (h : i < nS p) : (sP p i, sL p i) ∈ cells p := List.mem_map.2 ⟨i, List.mem_range.2 h, rfl⟩
theorem of_mem_cells {p : List UInt8} {c : Nat × Nat} (h : c ∈ cells p) : ∃ i, i < nS p ∧ c = (sP p i, sL p i) := by
  obtain ⟨i, hi, rfl⟩ := List.mem_map.1 h
  exact ⟨i, List.mem_range.1 hi, rfl⟩
theorem Core.goodAt {p : List UInt8} (h : Core p) {i : Nat} (hi : i < nS p) : (sP p i = 0 → sL p i = 0) ∧ (sP p i ≠ 0 → 1 ≤ sL p i) ∧ sL p i ≤ 400 := h.good _ (mem_cells hi)
theorem goodP {p : List UInt8} (h : ∀ i, i < nS p → goodC (sP p i, sL p i)) : ∀ c ∈ cells p, goodC c := fun c hc => by
  obtain ⟨i, hi, rfl⟩ := of_mem_cells hc
  exact h i hi
/-! ### cells lie apart -/
def apart (a b : Nat × Nat) : Prop := a.1 + a.2 ≤ b.1 ∨ b.1 + b.2 ≤ a.1
theorem chain_in : ∀ {l : List (Nat × Nat)} {e : Nat}, chain e l → ∀ c ∈ l, e ≤ c.1 ∧ c.1 + c.2 ≤ 512
  | [], e, h, c, hc => by cases hc
  | x :: r, e, h, c, hc => by
    have hs := chain_sum h.2
    rcases List.mem_cons.1 hc with rfl | hc
    · have := h.1; omega
    · have := chain_in h.2 c hc; omega
theorem chain_apart : ∀ {l : List (Nat × Nat)} {e : Nat}, chain e l → l.Pairwise apart
  | [], e, h => List.Pairwise.nil
  | x :: r, e, h => by
    refine List.Pairwise.cons (fun c hc => .inl ?_) (chain_apart h.2)
    have h1 := chain_in h.2 c hc
    have h2 := h.1
    omega
theorem Core.apart {p : List UInt8} (h : Core p) {i k : Nat} (hi : i < nS p) (hk : k < nS p) (hne : i ≠ k) (h1 : sP p i ≠ 0) (h2 : sP p k ≠ 0) : sP p i + sL p i ≤ sP p k ∨ sP p k + sL p k ≤ sP p i := by
  obtain ⟨l, hp, hc⟩ := h.row
  have hpw := (hp.pairwise_iff (R := G.apart) (fun {a b} hab => hab.symm)).1 (chain_apart hc)
  rw [List.pairwise_filter] at hpw
  have := List.pairwise_iff_getElem.1 hpw
  rcases Nat.lt_or_gt_of_ne hne with hlt | hlt
  · have := this i k (by rw [cells_len]; exact hi) (by rw [cells_len]; exact hk) hlt
    rw [cells_get, cells_get] at this
    exact this (by simp [used, h1]) (by simp [used, h2])
  · have := this k i (by rw [cells_len]; exact hk) (by rw [cells_len]; exact hi) hlt
    rw [cells_get, cells_get] at this
    exact (this (by simp [used, h2]) (by simp [used, h1])).symm
theorem Core.in_ {p : List UInt8} (h : Core p) {i : Nat} (hi : i < nS p) (h1 : sP p i ≠ 0) : bg p ≤ sP p i ∧ sP p i + sL p i ≤ 512 := by
  obtain ⟨l, hp, hc⟩ := h.row
  exact chain_in hc _ (hp.mem_iff.2 (List.mem_filter.2 ⟨mem_cells hi, by simp [used, h1]⟩))
/-! ### what slots hold -/
def cutP (p : List UInt8) (at_ n : Nat) : List UInt8 := (p.drop at_).take n
def ct (p : List UInt8) (k : Nat) : Option (List UInt8) := if k < nS p ∧ sP p k ≠ 0 then some (cutP p (sP p k) (sL p k)) else none
theorem cut_congr {p q : List UInt8} {a b n : Nat} (hp : a + n ≤ p.length) (hq : b + n ≤ q.length) (h : ∀ t, t < n → g p (a + t) = g q (b + t)) : cutP p a n = cutP q b n := by
  unfold cutP
  refine ext_g (by simp; omega) fun t ht => ?_
  have ht : t < n := by simp at ht; omega
  rw [g_take, g_take, if_pos ht, if_pos ht, g_drop, g_drop, h t ht]
theorem cut_eq {p b : List UInt8} {a : Nat} (hp : a + b.length ≤ p.length) (h : ∀ t, t < b.length → g p (a + t) = g b t) : cutP p a b.length = b := by
  unfold cutP
  refine ext_g (by simp; omega) fun t ht => ?_
  have ht : t < b.length := by simp at ht; omega
  rw [g_take, if_pos ht, g_drop, h t ht]
theorem ct_none {p : List UInt8} {k : Nat} : ct p k = none ↔ ¬ (k < nS p ∧ sP p k ≠ 0) := by
  unfold ct
  split <;> simp_all
theorem ct_some {p : List UInt8} {k : Nat} (h : k < nS p) (h2 : sP p k ≠ 0) : ct p k = some (cutP p (sP p k) (sL p k)) := if_pos ⟨h, h2⟩
/-! ### one slot's cell is another one -/
theorem filter_set {cs : List (Nat × Nat)} {i : Nat} {c : Nat × Nat} (hi : i < cs.length) (hu : used cs[i] = false) (hc : used c = true) : ((cs.set i c).filter used).Perm (c :: cs.filter used) := by
  induction cs generalizing i with
  | nil => simp at hi
  | cons x r ih =>
    cases i with
    | zero =>
      simp only [List.getElem_cons_zero] at hu
      simp [hu, hc]
    | succ i =>
      simp only [List.getElem_cons_succ] at hu
      simp only [List.set_cons_succ, List.filter_cons]
      have := ih (by simpa using hi) hu
      by_cases hx : used x = true
      · rw [if_pos hx, if_pos hx]
        exact (this.cons x).trans (List.Perm.swap c x _)
      · rw [if_neg hx, if_neg hx]
        exact this
theorem filter_unset {cs : List (Nat × Nat)} {i : Nat} {c : Nat × Nat} (hi : i < cs.length) (hu : used cs[i] = true) (hc : used c = false) : (cs.filter used).Perm (cs[i] :: (cs.set i c).filter used) := by
  have h := filter_set (cs := cs.set i c) (i := i) (c := cs[i]) (by simpa using hi) (by simpa using hc) hu
  rwa [List.set_set, List.set_getElem_self] at h
/-! ### a cell is laid -/
def layP (p : List UInt8) (i : Nat) (b : List UInt8) : List UInt8 := put (put (put (over p (bg p - b.length) b) 8 (bg p - b.length)) (10 + 4 * i) (bg p - b.length)) (12 + 4 * i) b.length
section
variable {p b : List UInt8} {i : Nat} (hl : p.length = 512) (hb : b.length ≤ 512) (hf : 14 + 4 * i + b.length ≤ bg p) (he : bg p ≤ 512)
include hl hb hf he
theorem lay_len : (layP p i b).length = 512 := by
  have h1 : (over p (bg p - b.length) b).length = 512 := by rw [over_len (by omega)]; exact hl
  have h2 : (put (over p (bg p - b.length) b) 8 (bg p - b.length)).length = 512 := by rw [put_len _ (by omega)]; exact h1
  have h3 : (put (put (over p (bg p - b.length) b) 8 (bg p - b.length)) (10 + 4 * i) (bg p - b.length)).length = 512 := by rw [put_len _ (by omega)]; exact h2
  unfold layP
  rw [put_len _ (by omega)]; exact h3
theorem g_lay (j : Nat) (h8 : j ≠ 8) (h9 : j ≠ 9) (hi : j < 10 + 4 * i ∨ 14 + 4 * i ≤ j) : g (layP p i b) j = if bg p - b.length ≤ j ∧ j < bg p then g b (j - (bg p - b.length)) else g p j := by
  have h1 : (over p (bg p - b.length) b).length = 512 := by rw [over_len (by omega)]; exact hl
  have h2 : (put (over p (bg p - b.length) b) 8 (bg p - b.length)).length = 512 := by rw [put_len _ (by omega)]; exact h1
  have h3 : (put (put (over p (bg p - b.length) b) 8 (bg p - b.length)) (10 + 4 * i) (bg p - b.length)).length = 512 := by rw [put_len _ (by omega)]; exact h2
  unfold layP
  rw [g_put (by omega) (by omega), if_neg (by omega), if_neg (by omega), g_put (by omega) (by omega), if_neg (by omega), if_neg (by omega), g_put (by omega) (by omega), if_neg (by omega), if_neg (by omega), g_over (by omega)]
  by_cases h : bg p - b.length ≤ j ∧ j < bg p
  · rw [if_pos h, if_pos (by omega)]
  · rw [if_neg h, if_neg (by omega)]
theorem lay_eight : two (layP p i b) 8 = bg p - b.length := by
  have h1 : (over p (bg p - b.length) b).length = 512 := by rw [over_len (by omega)]; exact hl
  have h2 : (put (over p (bg p - b.length) b) 8 (bg p - b.length)).length = 512 := by rw [put_len _ (by omega)]; exact h1
  have h3 : (put (put (over p (bg p - b.length) b) 8 (bg p - b.length)) (10 + 4 * i) (bg p - b.length)).length = 512 := by rw [put_len _ (by omega)]; exact h2
  unfold layP
  rw [two_put_ne (by omega) (by omega) (by omega), two_put_ne (by omega) (by omega) (by omega), two_put (by omega) (by omega)]
theorem lay_place : sP (layP p i b) i = bg p - b.length := by
  have h1 : (over p (bg p - b.length) b).length = 512 := by rw [over_len (by omega)]; exact hl
  have h2 : (put (over p (bg p - b.length) b) 8 (bg p - b.length)).length = 512 := by rw [put_len _ (by omega)]; exact h1
  have h3 : (put (put (over p (bg p - b.length) b) 8 (bg p - b.length)) (10 + 4 * i) (bg p - b.length)).length = 512 := by rw [put_len _ (by omega)]; exact h2
  unfold layP sP
  rw [two_put_ne (by omega) (by omega) (by omega), two_put (by omega) (by omega)]
theorem lay_length : sL (layP p i b) i = b.length := by
  have h1 : (over p (bg p - b.length) b).length = 512 := by rw [over_len (by omega)]; exact hl
  have h2 : (put (over p (bg p - b.length) b) 8 (bg p - b.length)).length = 512 := by rw [put_len _ (by omega)]; exact h1
  have h3 : (put (put (over p (bg p - b.length) b) 8 (bg p - b.length)) (10 + 4 * i) (bg p - b.length)).length = 512 := by rw [put_len _ (by omega)]; exact h2
  unfold layP sL
  rw [two_put (by omega) (by omega)]
theorem lay_slot {k : Nat} (hk : k ≠ i) (hkn : 14 + 4 * k + b.length ≤ bg p) : sP (layP p i b) k = sP p k ∧ sL (layP p i b) k = sL p k := by
  have G := g_lay hl hb hf he
  unfold sP sL
  refine ⟨two_congr ?_ ?_, two_congr ?_ ?_⟩
  all_goals rw [G _ (by omega) (by omega) (by omega), if_neg (by omega)]
theorem lay_count : nS (layP p i b) = nS p := by
  have G := g_lay hl hb hf he
  unfold nS
  refine two_congr ?_ ?_
  all_goals rw [G _ (by omega) (by omega) (by omega), if_neg (by omega)]
end
theorem cells_of {p : List UInt8} {l : List (Nat × Nat)} (hl : l.length = nS p) (h : ∀ i, i < nS p → l[i]? = some (sP p i, sL p i)) : cells p = l := by
  apply List.ext_getElem
  · rw [cells_len, hl]
  · intro i h1 h2
    rw [cells_get]
    have := h i (by rw [cells_len] at h1; exact h1)
    rw [List.getElem?_eq_getElem h2] at this
    exact (Option.some.inj this).symm
structure Laid (p : List UInt8) (i : Nat) (b q : List UInt8) : Prop where
  core : Core q
  count : nS q = nS p
  beg : bg q = bg p - b.length
  kind : g q 4 = g p 4
  mine : ct q i = some b
  rest : ∀ k, k ≠ i → ct q k = ct p k
  place : sP q i ≠ 0
  far : ∀ k, k < nS p → k ≠ i → sP q k = sP p k ∧ sL q k = sL p k
theorem Core.lay {p b : List UInt8} {i : Nat} (h : Core p) (hi : i < nS p) (h0 : sP p i = 0) (hb1 : 1 ≤ b.length) (hb2 : b.length ≤ 400) (hf : 10 + 4 * nS p + b.length ≤ bg p) : Laid p i b (layP p i b) := by
  have hl := h.len
  have he := h.fin
  have hb : b.length ≤ 512 := by omega
  have hf' : 14 + 4 * i + b.length ≤ bg p := by omega
  have L := lay_len hl hb hf' he
  have G := g_lay hl hb hf' he
  have E := lay_eight hl hb hf' he
  have P := lay_place hl hb hf' he
  have Q := lay_length hl hb hf' he
  have S := fun k (hk : k ≠ i) (hkn : k < nS p) => lay_slot hl hb hf' he hk (by omega)
  have N := lay_count hl hb hf' he
  have hsl : sL p i = 0 := (h.goodAt hi).1 h0
  have hbg : bg (layP p i b) = bg p - b.length := E
  have hC : cells (layP p i b) = (cells p).set i (bg p - b.length, b.length) := by
    refine cells_of (by rw [List.length_set, cells_len, N]) fun k hk => ?_
    rw [N] at hk
    by_cases hki : k = i
    · subst hki
      rw [List.getElem?_set_self (by rw [cells_len]; exact hk), P, Q]
    · rw [List.getElem?_set_ne (fun e => hki e.symm), List.getElem?_eq_getElem (by rw [cells_len]; exact hk), cells_get, (S k hki hk).1, (S k hki hk).2]
  have hcore : Core (layP p i b) := by
    refine ⟨L, ?_, by rw [N]; exact h.most, by rw [N, hbg]; omega, by rw [hbg]; omega, ?_, ?_, ?_⟩
    · rw [G 5 (by omega) (by omega) (by omega), if_neg (by omega)]; exact h.zero
    · refine goodP fun k hk => ?_
      rw [N] at hk
      by_cases hki : k = i
      · subst hki
        rw [P, Q]
        exact ⟨fun hz => by have : bg p - b.length = 0 := hz; omega, fun _ => hb1, hb2⟩
      · rw [(S k hki hk).1, (S k hki hk).2]
        exact h.goodAt hk
    · obtain ⟨l, hp, hc⟩ := h.row
      refine ⟨(bg p - b.length, b.length) :: l, ?_, ?_⟩
      · rw [hC]
        refine (List.Perm.cons _ hp).trans (filter_set (by rw [cells_len]; exact hi) ?_ ?_).symm
        · rw [cells_get]; simp [used, h0]
        · simp only [used, bne_iff_ne]; omega
      · rw [hbg]
        refine ⟨rfl, ?_⟩
        show chain (bg p - b.length + b.length) l
        rw [Nat.sub_add_cancel (by omega)]; exact hc
    · intro j h1 h2
      rw [N] at h1
      rw [hbg] at h2
      rw [G j (by omega) (by omega) (by omega), if_neg (by omega)]
      exact h.gap j h1 (by omega)
  refine ⟨hcore, N, hbg, by rw [G 4 (by omega) (by omega) (by omega), if_neg (by omega)], ?_, ?_, by rw [P]; omega, fun k hk hki => S k hki hk⟩
  · rw [ct_some (by rw [N]; exact hi) (by rw [P]; omega), P, Q]
    congr 1
    refine cut_eq (by rw [L]; omega) fun t ht => ?_
    rw [G _ (by omega) (by omega) (by omega), if_pos (by omega)]
    congr 1; omega
  · intro k hki
    by_cases hk : k < nS p
    · by_cases hz : sP p k = 0
      · rw [ct_none.2 (by rw [(S k hki hk).1]; simp [hz]), ct_none.2 (by simp [hz])]
      · obtain ⟨hi1, hi2⟩ := h.in_ hk hz
        rw [ct_some hk hz, ct_some (by rw [N]; exact hk) (by rw [(S k hki hk).1]; exact hz), (S k hki hk).1, (S k hki hk).2]
        congr 1
        refine cut_congr (by rw [L]; exact hi2) (by rw [hl]; exact hi2) fun t ht => ?_
        rw [G _ (by omega) (by omega) (by omega), if_neg (by omega)]
    · rw [ct_none.2 (by rw [N]; simp [hk]), ct_none.2 (by simp [hk])]
/-! ### a cell is taken out -/
/-- Where a byte of the cells' room comes from. -/
def mv (p : List UInt8) (i j : Nat) : Nat := if j < bg p then g p j else if j < bg p + sL p i then 0 else if j < sP p i + sL p i then g p (j - sL p i) else g p j
def shP (p : List UInt8) (i k : Nat) : Nat := if k = i then 0 else if sP p k ≠ 0 ∧ sP p k < sP p i then sP p k + sL p i else sP p k
def shL (p : List UInt8) (i k : Nat) : Nat := if k = i then 0 else sL p k
structure Took (p : List UInt8) (i : Nat) (q : List UInt8) : Prop where
  len : q.length = 512
  head : ∀ j, j < 8 → g q j = g p j
  beg : two q 8 = bg p + sL p i
  slot : ∀ k, k < nS p → sP q k = shP p i k ∧ sL q k = shL p i k
  rest : ∀ j, 10 + 4 * nS p ≤ j → j < 512 → g q j = mv p i j
theorem Took.unique {p q r : List UInt8} {i : Nat} (h : Took p i q) (k : Took p i r) : q = r :=
  ext_page h.len k.len (nS p) (fun j hj => by rw [h.head j hj, k.head j hj]) (by rw [h.beg, k.beg]) (fun j hj => by rw [(h.slot j hj).1, (h.slot j hj).2, (k.slot j hj).1, (k.slot j hj).2]; exact ⟨rfl, rfl⟩) (fun j h1 h2 => by rw [h.rest j h1 h2, k.rest j h1 h2])
theorem chain_shift : ∀ {l1 l2 : List (Nat × Nat)} {e : Nat} {c : Nat × Nat}, chain e (l1 ++ c :: l2) → chain (e + c.2) (l1.map (fun x => (x.1 + c.2, x.2)) ++ l2)
  | [], l2, e, c, h => h.2
  | x :: r, l2, e, c, h => by
    have h1 : x.1 = e := h.1
    have := chain_shift (l1 := r) (l2 := l2) (c := c) h.2
    refine ⟨by show x.1 + c.2 = e + c.2; omega, ?_⟩
    show chain (e + c.2 + x.2) _
    rw [show e + c.2 + x.2 = e + x.2 + c.2 by omega]
    exact this
structure Gone (p : List UInt8) (i : Nat) (q : List UInt8) : Prop where
  core : Core q
  count : nS q = nS p
  beg : bg q = bg p + sL p i
  kind : g q 4 = g p 4
  mine : sP q i = 0
  rest : ∀ k, k ≠ i → ct q k = ct p k
  far : ∀ k, k < nS p → k ≠ i → (sP q k = 0 ↔ sP p k = 0) ∧ sL q k = sL p k
theorem Core.take {p q : List UInt8} {i : Nat} (h : Core p) (hi : i < nS p) (h0 : sP p i ≠ 0) (ht : Took p i q) : Gone p i q := by
  have N : nS q = nS p := two_congr (ht.head 6 (by omega)) (ht.head 7 (by omega))
  have B : bg q = bg p + sL p i := ht.beg
  have hl := h.len
  obtain ⟨hin1, hin2⟩ := h.in_ hi h0
  have hfit := h.fit
  have hmost := h.most
  have hC : cells q = ((cells p).set i (0, 0)).map fun x => if x.1 ≠ 0 ∧ x.1 < sP p i then (x.1 + sL p i, x.2) else x := by
    refine cells_of (by rw [List.length_map, List.length_set, cells_len, N]) fun k hk => ?_
    rw [N] at hk
    rw [(ht.slot k hk).1, (ht.slot k hk).2, List.getElem?_map]
    unfold shP shL
    by_cases hki : k = i
    · subst hki
      rw [List.getElem?_set_self (by rw [cells_len]; exact hk), if_pos rfl, if_pos rfl]; rfl
    · rw [List.getElem?_set_ne (fun e => hki e.symm), List.getElem?_eq_getElem (by rw [cells_len]; exact hk), cells_get, if_neg hki, if_neg hki]
      simp only [Option.map_some]
      split <;> rfl
  have hlt : ∀ k, k < nS p → k ≠ i → sP p k ≠ 0 → (sP p k < sP p i → sP p k + sL p k ≤ sP p i) ∧ (¬ sP p k < sP p i → sP p i + sL p i ≤ sP p k) := fun k hk hki hz => by
    have h1 := h.apart hi hk (fun e => hki e.symm) h0 hz
    have h2 := (h.goodAt hi).2.1 h0
    have h3 := (h.goodAt hk).2.1 hz
    constructor <;> intro h4 <;> omega
  refine ⟨⟨ht.len, by rw [ht.head 5 (by omega)]; exact h.zero, by rw [N]; exact h.most, by rw [N, B]; omega, by rw [B]; omega, ?_, ?_, ?_⟩, N, B, ht.head 4 (by omega), ?_, ?_, ?_⟩
  · refine goodP fun k hk => ?_
    rw [N] at hk
    rw [(ht.slot k hk).1, (ht.slot k hk).2]
    unfold shP shL
    by_cases hki : k = i
    · rw [if_pos hki, if_pos hki]; exact ⟨fun _ => rfl, fun hz => absurd rfl hz, by omega⟩
    · rw [if_neg hki, if_neg hki]
      have := h.goodAt hk
      by_cases hc : sP p k ≠ 0 ∧ sP p k < sP p i
      · rw [if_pos hc]
        exact ⟨fun hz => by have : sP p k + sL p i = 0 := hz; omega, fun _ => this.2.1 hc.1, this.2.2⟩
      · rw [if_neg hc]; exact this
  · obtain ⟨l, hp, hc⟩ := h.row
    have hpc := filter_unset (cs := cells p) (i := i) (c := (0, 0)) (by rw [cells_len]; exact hi) (by rw [cells_get]; simp [used, h0]) rfl
    rw [cells_get] at hpc
    have hmem : (sP p i, sL p i) ∈ l := (hp.trans hpc).mem_iff.2 (List.mem_cons_self ..)
    obtain ⟨l1, l2, rfl⟩ := List.append_of_mem hmem
    have hpw := chain_apart hc
    have hlen : ∀ c ∈ l1 ++ (sP p i, sL p i) :: l2, c.1 ≠ 0 ∧ 1 ≤ c.2 := fun c hcm => by
      have := List.mem_filter.1 (hp.mem_iff.1 hcm)
      have h1 : c.1 ≠ 0 := by simpa [used] using this.2
      exact ⟨h1, (h.good c this.1).2.1 h1⟩
    have hso := List.pairwise_append.1 (chain_sorted hc fun c hcm => (hlen c hcm).2)
    have hsh := chain_shift hc
    have hperm : (l1 ++ l2).Perm (((cells p).set i (0, 0)).filter used) := by
      have : ((sP p i, sL p i) :: (l1 ++ l2)).Perm ((sP p i, sL p i) :: ((cells p).set i (0, 0)).filter used) := (List.perm_middle.symm.trans hp).trans hpc
      exact this.cons_inv
    refine ⟨(l1 ++ l2).map (fun x => if x.1 ≠ 0 ∧ x.1 < sP p i then (x.1 + sL p i, x.2) else x), ?_, ?_⟩
    · rw [hC, List.filter_map]
      refine List.Perm.map _ ?_
      refine hperm.trans (List.Perm.of_eq ?_)
      apply List.filter_congr
      intro x _
      simp only [Function.comp, used]
      split
      · rename_i hx
        exact (bne_iff_ne.2 hx.1).trans (bne_iff_ne.2 (show x.1 + sL p i ≠ 0 by omega)).symm
      · rfl
    · rw [B, List.map_append]
      have e1 : l1.map (fun x => if x.1 ≠ 0 ∧ x.1 < sP p i then (x.1 + sL p i, x.2) else x) = l1.map (fun x => (x.1 + sL p i, x.2)) := List.map_congr_left fun x hx => by
        have h1 := (hlen x (List.mem_append_left _ hx)).1
        have h2 := hso.2.2 x hx (sP p i, sL p i) (List.mem_cons_self ..)
        rw [if_pos ⟨h1, h2⟩]
      have e2 : l2.map (fun x => if x.1 ≠ 0 ∧ x.1 < sP p i then (x.1 + sL p i, x.2) else x) = l2 := by
        conv => rhs; rw [← List.map_id l2]
        refine List.map_congr_left fun x hx => ?_
        have h2 := (List.pairwise_cons.1 hso.2.1).1 x hx
        have h2 : sP p i < x.1 := h2
        rw [if_neg (by omega)]; rfl
      rw [e1, e2]
      exact hsh
  · intro j h1 h2
    rw [N] at h1
    rw [B] at h2
    rw [ht.rest j h1 (by omega)]
    unfold mv
    by_cases hj : j < bg p
    · rw [if_pos hj]; exact h.gap j h1 hj
    · rw [if_neg hj, if_pos h2]
  · rw [(ht.slot i hi).1]; unfold shP; rw [if_pos rfl]
  · intro k hki
    by_cases hk : k < nS p
    · by_cases hz : sP p k = 0
      · have : sP q k = 0 := by rw [(ht.slot k hk).1]; unfold shP; rw [if_neg hki, if_neg (by simp [hz])]; exact hz
        rw [ct_none.2 (by simp [this]), ct_none.2 (by simp [hz])]
      · obtain ⟨hk1, hk2⟩ := h.in_ hk hz
        obtain ⟨ha, hb⟩ := hlt k hk hki hz
        have hPk := (ht.slot k hk).1
        have hLk := (ht.slot k hk).2
        unfold shP at hPk
        unfold shL at hLk
        rw [if_neg hki] at hPk hLk
        by_cases hc : sP p k < sP p i
        · have ha := ha hc
          rw [if_pos ⟨hz, hc⟩] at hPk
          rw [ct_some hk hz, ct_some (by rw [N]; exact hk) (by rw [hPk]; omega), hPk, hLk]
          congr 1
          refine cut_congr (by rw [ht.len]; omega) (by rw [hl]; exact hk2) fun t htt => ?_
          rw [ht.rest _ (by omega) (by omega)]
          unfold mv
          rw [if_neg (by omega), if_neg (by omega), if_pos (by omega)]
          congr 1; omega
        · have hb := hb hc
          rw [if_neg (by simp [hc])] at hPk
          rw [ct_some hk hz, ct_some (by rw [N]; exact hk) (by rw [hPk]; exact hz), hPk, hLk]
          congr 1
          refine cut_congr (by rw [ht.len]; omega) (by rw [hl]; exact hk2) fun t htt => ?_
          rw [ht.rest _ (by omega) (by omega)]
          unfold mv
          rw [if_neg (by omega), if_neg (by omega), if_neg (by omega)]
    · rw [ct_none.2 (by rw [N]; simp [hk]), ct_none.2 (by simp [hk])]
  · intro k hk hki
    rw [(ht.slot k hk).1, (ht.slot k hk).2]
    unfold shP shL
    rw [if_neg hki, if_neg hki]
    refine ⟨?_, rfl⟩
    by_cases hc : sP p k ≠ 0 ∧ sP p k < sP p i
    · rw [if_pos hc]; omega
    · rw [if_neg hc]
end Go.Proofs.Ytdgnndcnpmlifaa.G
