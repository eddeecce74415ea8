import Derived.Test.YtfkmjbpnjgnkbaaGreatMCrc
import Derived.Test.YtfkmjbpnjgnkbaaGreatMPlain
/-
  The program's pages as plain data: bytes, numbers in them, cells in slots. No program in sight.
-/
namespace Go.Proofs.YtfkmjbpnjgnkbaaGreat.G
set_option linter.unusedSimpArgs false
open Go Go.RowKit Go.Proofs.YtfkmjbpnjgnkbaaGreat.B Go.Proofs.YtfkmjbpnjgnkbaaGreat.C
set_option linter.unusedVariables false
/-! ### bytes -/
def g (p : List UInt8) (i : Nat) : Nat := (p.getD i 0).toNat
theorem g_lt (p : List UInt8) (i : Nat) : g p i < 256 := (p.getD i 0).toNat_lt
theorem g_out {p : List UInt8} {i : Nat} (h : p.length ≤ i) : g p i = 0 := by
  unfold g; rw [List.getD_eq_getElem?_getD, List.getElem?_eq_none h]; rfl
theorem g_get {p : List UInt8} {i : Nat} (h : i < p.length) : g p i = p[i].toNat := by
  unfold g; rw [List.getD_eq_getElem?_getD, List.getElem?_eq_getElem h]; rfl
theorem ext_g {p q : List UInt8} (hl : p.length = q.length) (h : ∀ i, i < p.length → g p i = g q i) : p = q := by
  apply List.ext_getElem hl
  intro i h1 h2
  have := h i h1
  rw [g_get h1, g_get h2] at this
  exact UInt8.toNat_inj.1 this
theorem g_append (p q : List UInt8) (i : Nat) : g (p ++ q) i = if i < p.length then g p i else g q (i - p.length) := by
  unfold g
  rw [List.getD_eq_getElem?_getD, List.getElem?_append]
  split
  · rw [List.getD_eq_getElem?_getD]
  · rw [List.getD_eq_getElem?_getD]
theorem g_take (p : List UInt8) (n i : Nat) : g (p.take n) i = if i < n then g p i else 0 := by
  unfold g
  rw [List.getD_eq_getElem?_getD, List.getElem?_take]
  split
  · rw [List.getD_eq_getElem?_getD]
  · rfl
theorem g_drop (p : List UInt8) (n i : Nat) : g (p.drop n) i = g p (n + i) := by
  unfold g
  rw [List.getD_eq_getElem?_getD, List.getElem?_drop, List.getD_eq_getElem?_getD]
/-- Bytes written over others. -/
def over (p : List UInt8) (at_ : Nat) (b : List UInt8) : List UInt8 := p.take at_ ++ b ++ p.drop (at_ + b.length)
theorem over_len {p b : List UInt8} {at_ : Nat} (h : at_ + b.length ≤ p.length) : (over p at_ b).length = p.length := by
  unfold over; simp; omega
theorem g_over {p b : List UInt8} {at_ : Nat} (h : at_ + b.length ≤ p.length) (i : Nat) : g (over p at_ b) i = if at_ ≤ i ∧ i < at_ + b.length then g b (i - at_) else g p i := by
  unfold over
  rw [List.append_assoc, g_append, g_append, g_take, g_drop]
  have e : (p.take at_).length = at_ := by rw [List.length_take]; omega
  rw [e]
  by_cases h1 : i < at_
  · rw [if_pos h1, if_pos h1, if_neg (by omega)]
  · rw [if_neg h1]
    by_cases h2 : i - at_ < b.length
    · rw [if_pos h2, if_pos (by omega)]
    · rw [if_neg h2, if_neg (by omega)]
      congr 1; omega
/-! ### numbers of two bytes -/
def two (p : List UInt8) (at_ : Nat) : Nat := g p at_ + 256 * g p (at_ + 1)
theorem two_lt (p : List UInt8) (at_ : Nat) : two p at_ < 65536 := by
  have h1 := g_lt p at_
  have h2 := g_lt p (at_ + 1)
  unfold two; omega
theorem two_congr {p q : List UInt8} {at_ : Nat} (h1 : g p at_ = g q at_) (h2 : g p (at_ + 1) = g q (at_ + 1)) : two p at_ = two q at_ := by unfold two; rw [h1, h2]
theorem two_zero {p : List UInt8} {at_ : Nat} (h : two p at_ = 0) : g p at_ = 0 ∧ g p (at_ + 1) = 0 := by unfold two at h; omega
def put (p : List UInt8) (at_ n : Nat) : List UInt8 := over p at_ (le n 2)
theorem le_two (n : Nat) : g (le n 2) 0 = n % 256 ∧ g (le n 2) 1 = n / 256 % 256 := by
  have h0 := le_cell n 0
  have h1 := le_cell n 1
  have e : le n 2 = [UInt8.ofNat (n / 2 ^ (8 * 0) % 256), UInt8.ofNat (n / 2 ^ (8 * 1) % 256)] := rfl
  rw [e]
  constructor
  · show (UInt8.ofNat (n / 2 ^ (8 * 0) % 256)).toNat = _
    simp
  · show (UInt8.ofNat (n / 2 ^ (8 * 1) % 256)).toNat = _
    simp
theorem put_len {p : List UInt8} {at_ : Nat} (n : Nat) (h : at_ + 2 ≤ p.length) : (put p at_ n).length = p.length := over_len (by rw [le_len]; exact h)
theorem g_put {p : List UInt8} {at_ n : Nat} (h : at_ + 2 ≤ p.length) (hn : n < 65536) (i : Nat) : g (put p at_ n) i = if i = at_ then n % 256 else if i = at_ + 1 then n / 256 else g p i := by
  unfold put
  rw [g_over (by rw [le_len]; exact h), le_len]
  by_cases h1 : i = at_
  · subst h1
    rw [if_pos (by omega), if_pos rfl, Nat.sub_self]
    exact (le_two n).1
  · rw [if_neg h1]
    by_cases h2 : i = at_ + 1
    · subst h2
      rw [if_pos (by omega), if_pos rfl, show at_ + 1 - at_ = 1 by omega, (le_two n).2]
      omega
    · rw [if_neg (by omega), if_neg h2]
theorem two_put {p : List UInt8} {at_ n : Nat} (h : at_ + 2 ≤ p.length) (hn : n < 65536) : two (put p at_ n) at_ = n := by
  unfold two
  rw [g_put h hn, g_put h hn, if_pos rfl, if_neg (by omega), if_pos rfl]
  omega
theorem two_put_ne {p : List UInt8} {at_ n b : Nat} (h : at_ + 2 ≤ p.length) (hn : n < 65536) (hb : b + 2 ≤ at_ ∨ at_ + 2 ≤ b) : two (put p at_ n) b = two p b := by
  unfold two
  rw [g_put h hn, g_put h hn, if_neg (by omega), if_neg (by omega), if_neg (by omega), if_neg (by omega)]
/-! ### the sum -/
def sealedP (p : List UInt8) : List UInt8 := le (sum (p.drop 4)) 4 ++ p.drop 4
theorem sealed_len {p : List UInt8} (h : 4 ≤ p.length) : (sealedP p).length = p.length := by
  unfold sealedP; rw [List.length_append, le_len, List.length_drop]; omega
theorem g_sealed {p : List UInt8} {i : Nat} (h : 4 ≤ i) : g (sealedP p) i = g p i := by
  unfold sealedP
  rw [g_append, le_len, if_neg (by omega), g_drop]; congr 1; omega
theorem sealed_drop (p : List UInt8) : (sealedP p).drop 4 = p.drop 4 := by
  unfold sealedP
  rw [List.drop_append_of_le_length (by rw [le_len]; exact Nat.le_refl _), List.drop_of_length_le (by rw [le_len]; exact Nat.le_refl _), List.nil_append]
theorem sealed_again (p : List UInt8) : sealedP (sealedP p) = sealedP p := by
  show le (sum ((sealedP p).drop 4)) 4 ++ (sealedP p).drop 4 = _
  rw [sealed_drop]; rfl
theorem sealed_congr {p q : List UInt8} (hl : p.length = q.length) (h : ∀ i, 4 ≤ i → g p i = g q i) : sealedP p = sealedP q := by
  have : p.drop 4 = q.drop 4 := ext_g (by rw [List.length_drop, List.length_drop, hl]) (fun i _ => by rw [g_drop, g_drop]; exact h _ (by omega))
  unfold sealedP; rw [this]
/-! ### slots -/
def nS (p : List UInt8) : Nat := two p 6
def bg (p : List UInt8) : Nat := two p 8
def sP (p : List UInt8) (i : Nat) : Nat := two p (10 + 4 * i)
def sL (p : List UInt8) (i : Nat) : Nat := two p (12 + 4 * i)
def cells (p : List UInt8) : List (Nat × Nat) := (List.range (nS p)).map fun i => (sP p i, sL p i)
theorem cells_len (p : List UInt8) : (cells p).length = nS p := by simp [cells]
theorem cells_get {p : List UInt8} {i : Nat} (h : i < (cells p).length) : (cells p)[i] = (sP p i, sL p i) := by simp [cells]
def used (c : Nat × Nat) : Bool := c.1 != 0
def goodC (c : Nat × Nat) : Prop := (c.1 = 0 → c.2 = 0) ∧ (c.1 ≠ 0 → 1 ≤ c.2) ∧ c.2 ≤ 400
/-- Cells one right behind the other, from e on to 512. -/
def chain : Nat → List (Nat × Nat) → Prop
  | e, [] => e = 512
  | e, c :: r => c.1 = e ∧ chain (e + c.2) r
def sumC : List (Nat × Nat) → Nat
  | [] => 0
  | c :: r => c.2 + sumC r
theorem chain_sum : ∀ {l : List (Nat × Nat)} {e : Nat}, chain e l → e + sumC l = 512
  | [], e, h => h
  | c :: r, e, h => by have := chain_sum h.2; simp only [sumC]; omega
theorem chain_append : ∀ {l k : List (Nat × Nat)} {e : Nat}, chain e (l ++ k) ↔ chain (e + sumC l) k ∧ (∀ e2, chain (e + sumC l) e2 → chain e (l ++ e2))
  | [], k, e => by simp [sumC]
  | c :: r, k, e => by
    simp only [List.cons_append, chain, sumC, ← Nat.add_assoc]
    constructor
    · rintro ⟨h1, h2⟩
      have := chain_append.1 h2
      exact ⟨this.1, fun e2 he => ⟨h1, this.2 e2 he⟩⟩
    · rintro ⟨h1, h2⟩
      exact h2 k h1
/-- A page's body: all but its sum. -/
structure Body (p : List UInt8) : Prop where
  len : p.length = 512
  zero : g p 5 = 0
  most : nS p ≤ 125
  fit : 10 + 4 * nS p ≤ bg p
  fin : bg p ≤ 512
  good : ∀ c ∈ cells p, goodC c
  row : ∃ l, l.Perm ((cells p).filter used) ∧ chain (bg p) l
  last : 0 < nS p → sP p (nS p - 1) ≠ 0
  gap : ∀ i, 10 + 4 * nS p ≤ i → i < bg p → g p i = 0
/-- A page. -/
structure Pg (p : List UInt8) : Prop where
  body : Body p
  sums : sealedP p = p
theorem cells_congr {p q : List UInt8} (h : ∀ i, 4 ≤ i → g p i = g q i) : cells p = cells q := by
  have e : nS p = nS q := two_congr (h _ (by omega)) (h _ (by omega))
  unfold cells
  rw [e]
  apply List.map_congr_left
  intro i _
  unfold sP sL
  rw [two_congr (h _ (by omega)) (h _ (by omega)), two_congr (h _ (by omega)) (h _ (by omega))]
theorem Body.congr {p q : List UInt8} (hb : Body p) (hl : q.length = 512) (h : ∀ i, 4 ≤ i → g p i = g q i) : Body q := by
  have e : nS p = nS q := two_congr (h _ (by omega)) (h _ (by omega))
  have e2 : bg p = bg q := two_congr (h _ (by omega)) (h _ (by omega))
  have e3 : ∀ i, sP p i = sP q i := fun i => two_congr (h _ (by omega)) (h _ (by omega))
  have ec := cells_congr h
  exact ⟨hl, by rw [← h 5 (by omega)]; exact hb.zero, by rw [← e]; exact hb.most, by rw [← e, ← e2]; exact hb.fit, by rw [← e2]; exact hb.fin, by rw [← ec]; exact hb.good, by rw [← ec, ← e2]; exact hb.row, by rw [← e, ← e3]; exact hb.last, fun i h1 h2 => by rw [← h i (by omega)]; exact hb.gap i (by omega) (by omega)⟩
theorem Body.sealed {p : List UInt8} (hb : Body p) : Pg (sealedP p) :=
  ⟨hb.congr (by rw [sealed_len (by rw [hb.len]; omega), hb.len]) (fun i hi => (g_sealed hi).symm), sealed_again p⟩
open Classical in
/-- Is it a page? -/
noncomputable def ok (p : List UInt8) : Bool := decide (Pg p)
theorem ok_iff {p : List UInt8} : ok p = true ↔ Pg p := by unfold ok; simp
theorem ok_no {p : List UInt8} : ok p = false ↔ ¬ Pg p := by unfold ok; simp
end Go.Proofs.YtfkmjbpnjgnkbaaGreat.G

/-
  Cells that lie one right behind the other, as plain data: of a row that is sorted it is enough to look at it once. No program in sight.
-/
namespace Go.Proofs.YtfkmjbpnjgnkbaaGreat.G
set_option linter.unusedSimpArgs false
open Go
set_option linter.unusedVariables false
open Classical in
/-- Do cells lie one right behind the other from b on? -/
noncomputable def laidB (cs : List (Nat × Nat)) (b : Nat) : Bool := decide ((∀ c ∈ cs, goodC c) ∧ ∃ l, l.Perm (cs.filter used) ∧ chain b l)
theorem laid_iff {cs : List (Nat × Nat)} {b : Nat} : laidB cs b = true ↔ (∀ c ∈ cs, goodC c) ∧ ∃ l, l.Perm (cs.filter used) ∧ chain b l := by unfold laidB; simp
theorem laid_bad {cs : List (Nat × Nat)} {b : Nat} {c : Nat × Nat} (hc : c ∈ cs) (h : ¬ goodC c) : laidB cs b = false := by
  rw [Bool.eq_false_iff]
  intro h2
  exact h ((laid_iff.1 h2).1 c hc)
theorem chain_ge : ∀ {l : List (Nat × Nat)} {e : Nat}, chain e l → ∀ c ∈ l, e ≤ c.1
  | [], e, h, c, hc => by cases hc
  | x :: r, e, h, c, hc => by
    rcases List.mem_cons.1 hc with rfl | hc
    · exact Nat.le_of_eq h.1.symm
    · have := chain_ge h.2 c hc; omega
theorem chain_sorted : ∀ {l : List (Nat × Nat)} {e : Nat}, chain e l → (∀ c ∈ l, 1 ≤ c.2) → l.Pairwise fun a b => a.1 < b.1
  | [], e, h, hl => List.Pairwise.nil
  | x :: r, e, h, hl => by
    refine List.Pairwise.cons (fun c hc => ?_) (chain_sorted h.2 fun c hc => hl c (List.mem_cons_of_mem _ hc))
    have h1 := chain_ge h.2 c hc
    have h2 := hl x (by simp)
    have h3 := h.1
    omega
/-- One row that is sorted stands for all. -/
theorem laid_sorted {cs l : List (Nat × Nat)} {b : Nat} (hg : ∀ c ∈ cs, goodC c) (hp : l.Perm (cs.filter used)) (hs : l.Pairwise fun a b => a.1 ≤ b.1) : (laidB cs b = true) ↔ chain b l := by
  rw [laid_iff]
  constructor
  · rintro ⟨_, k, hk, hc⟩
    have hlen : ∀ c ∈ k, 1 ≤ c.2 := fun c hcm => by
      have := List.mem_filter.1 (hk.mem_iff.1 hcm)
      exact (hg c this.1).2.1 (by simpa [used] using this.2)
    have hks := chain_sorted hc hlen
    have hkn : ∀ x ∈ k, ∀ y ∈ k, x.1 = y.1 → x = y := by
      intro x hx y hy e
      obtain ⟨i, hi, rfl⟩ := List.mem_iff_getElem.1 hx
      obtain ⟨j, hj, rfl⟩ := List.mem_iff_getElem.1 hy
      have hpw := List.pairwise_iff_getElem.1 hks
      rcases Nat.lt_trichotomy i j with h | h | h
      · have := hpw i j hi hj h; omega
      · subst h; rfl
      · have := hpw j i hj hi h; omega
    have he : k = l := by
      have hkl := hk.trans hp.symm
      refine List.Perm.eq_of_pairwise (le := fun a b : Nat × Nat => a.1 ≤ b.1) (fun x y hx hy h1 h2 => hkn x hx y (hkl.mem_iff.2 hy) (by omega)) (hks.imp fun h => Nat.le_of_lt h) hs hkl
    rw [← he]; exact hc
  · intro hc
    exact ⟨hg, l, hp, hc⟩
end Go.Proofs.YtfkmjbpnjgnkbaaGreat.G

/-
  What the program does to pages, as plain data: a cell is laid, taken out, slots are trimmed: what a page is, and what its slots hold behind it. No program in sight.
-/
namespace Go.Proofs.YtfkmjbpnjgnkbaaGreat.G
set_option linter.unusedSimpArgs false
open Go Go.RowKit Go.Proofs.YtfkmjbpnjgnkbaaGreat.B Go.Proofs.YtfkmjbpnjgnkbaaGreat.C
set_option linter.unusedVariables false
/-! ### two pages are one -/
theorem two_inj {p q : List UInt8} {a : Nat} (h : two p a = two q a) : g p a = g q a ∧ g p (a + 1) = g q (a + 1) := by
  have h1 := g_lt p a
  have h2 := g_lt q a
  unfold two at h
  omega
theorem ext_page {p q : List UInt8} (hp : p.length = 512) (hq : q.length = 512) (n : Nat) (h0 : ∀ i, i < 8 → g p i = g q i) (h8 : two p 8 = two q 8)
    (hs : ∀ k, k < n → sP p k = sP q k ∧ sL p k = sL q k) (hr : ∀ i, 10 + 4 * n ≤ i → i < 512 → g p i = g q i) : p = q := by
  refine ext_g (by rw [hp, hq]) fun i hi => ?_
  rw [hp] at hi
  by_cases h1 : i < 8
  · exact h0 i h1
  by_cases h2 : i = 8
  · subst h2; exact (two_inj h8).1
  by_cases h3 : i = 9
  · subst h3; exact (two_inj h8).2
  by_cases h4 : 10 + 4 * n ≤ i
  · exact hr i h4 hi
  obtain ⟨k, r, hk, hr4, rfl⟩ : ∃ k r, k < n ∧ r < 4 ∧ i = 10 + 4 * k + r := ⟨(i - 10) / 4, (i - 10) % 4, by omega, by omega, by omega⟩
  obtain ⟨ha, hb⟩ := hs k hk
  have ha := two_inj ha
  have hb := two_inj hb
  have e1 : 12 + 4 * k = 10 + 4 * k + 2 := by omega
  rw [e1] at hb
  match r, hr4 with
  | 0, _ => exact ha.1
  | 1, _ => exact ha.2
  | 2, _ => exact hb.1
  | 3, _ => exact hb.2
/-! ### a page's body but for its last slot -/
structure Core (p : List UInt8) : Prop where
  len : p.length = 512
  zero : g p 5 = 0
  most : nS p ≤ 125
  fit : 10 + 4 * nS p ≤ bg p
  fin : bg p ≤ 512
  good : ∀ c ∈ cells p, goodC c
  row : ∃ l, l.Perm ((cells p).filter used) ∧ chain (bg p) l
  gap : ∀ i, 10 + 4 * nS p ≤ i → i < bg p → g p i = 0
theorem Body.core {p : List UInt8} (h : Body p) : Core p := ⟨h.len, h.zero, h.most, h.fit, h.fin, h.good, h.row, h.gap⟩
theorem Core.body {p : List UInt8} (h : Core p) (hl : 0 < nS p → sP p (nS p - 1) ≠ 0) : Body p := ⟨h.len, h.zero, h.most, h.fit, h.fin, h.good, h.row, hl, h.gap⟩
theorem mem_cells {p : List UInt8} {i : Nat} (h : i < nS p) : (sP p i, sL p i) ∈ cells p := List.mem_map.2 ⟨i, List.mem_range.2 h, rfl⟩
theorem of_mem_cells {p : List UInt8} {c : Nat × Nat} (h : c ∈ cells p) : ∃ i, i < nS p ∧ c = (sP p i, sL p i) := by
  obtain ⟨i, hi, rfl⟩ := List.mem_map.1 h
  exact ⟨i, List.mem_range.1 hi, rfl⟩
theorem Core.goodAt {p : List UInt8} (h : Core p) {i : Nat} (hi : i < nS p) : (sP p i = 0 → sL p i = 0) ∧ (sP p i ≠ 0 → 1 ≤ sL p i) ∧ sL p i ≤ 400 := h.good _ (mem_cells hi)
theorem goodP {p : List UInt8} (h : ∀ i, i < nS p → goodC (sP p i, sL p i)) : ∀ c ∈ cells p, goodC c := fun c hc => by
  obtain ⟨i, hi, rfl⟩ := of_mem_cells hc
  exact h i hi
/-! ### cells lie apart -/
def apart (a b : Nat × Nat) : Prop := a.1 + a.2 ≤ b.1 ∨ b.1 + b.2 ≤ a.1
theorem chain_in : ∀ {l : List (Nat × Nat)} {e : Nat}, chain e l → ∀ c ∈ l, e ≤ c.1 ∧ c.1 + c.2 ≤ 512
  | [], e, h, c, hc => by cases hc
  | x :: r, e, h, c, hc => by
    have hs := chain_sum h.2
    rcases List.mem_cons.1 hc with rfl | hc
    · have := h.1; omega
    · have := chain_in h.2 c hc; omega
theorem chain_apart : ∀ {l : List (Nat × Nat)} {e : Nat}, chain e l → l.Pairwise apart
  | [], e, h => List.Pairwise.nil
  | x :: r, e, h => by
    refine List.Pairwise.cons (fun c hc => .inl ?_) (chain_apart h.2)
    have h1 := chain_in h.2 c hc
    have h2 := h.1
    omega
theorem Core.apart {p : List UInt8} (h : Core p) {i k : Nat} (hi : i < nS p) (hk : k < nS p) (hne : i ≠ k) (h1 : sP p i ≠ 0) (h2 : sP p k ≠ 0) : sP p i + sL p i ≤ sP p k ∨ sP p k + sL p k ≤ sP p i := by
  obtain ⟨l, hp, hc⟩ := h.row
  have hpw := (hp.pairwise_iff (R := G.apart) (fun {a b} hab => hab.symm)).1 (chain_apart hc)
  rw [List.pairwise_filter] at hpw
  have := List.pairwise_iff_getElem.1 hpw
  rcases Nat.lt_or_gt_of_ne hne with hlt | hlt
  · have := this i k (by rw [cells_len]; exact hi) (by rw [cells_len]; exact hk) hlt
    rw [cells_get, cells_get] at this
    exact this (by simp [used, h1]) (by simp [used, h2])
  · have := this k i (by rw [cells_len]; exact hk) (by rw [cells_len]; exact hi) hlt
    rw [cells_get, cells_get] at this
    exact (this (by simp [used, h2]) (by simp [used, h1])).symm
theorem Core.in_ {p : List UInt8} (h : Core p) {i : Nat} (hi : i < nS p) (h1 : sP p i ≠ 0) : bg p ≤ sP p i ∧ sP p i + sL p i ≤ 512 := by
  obtain ⟨l, hp, hc⟩ := h.row
  exact chain_in hc _ (hp.mem_iff.2 (List.mem_filter.2 ⟨mem_cells hi, by simp [used, h1]⟩))
/-! ### what slots hold -/
def cutP (p : List UInt8) (at_ n : Nat) : List UInt8 := (p.drop at_).take n
def ct (p : List UInt8) (k : Nat) : Option (List UInt8) := if k < nS p ∧ sP p k ≠ 0 then some (cutP p (sP p k) (sL p k)) else none
theorem cut_congr {p q : List UInt8} {a b n : Nat} (hp : a + n ≤ p.length) (hq : b + n ≤ q.length) (h : ∀ t, t < n → g p (a + t) = g q (b + t)) : cutP p a n = cutP q b n := by
  unfold cutP
  refine ext_g (by simp; omega) fun t ht => ?_
  have ht : t < n := by simp at ht; omega
  rw [g_take, g_take, if_pos ht, if_pos ht, g_drop, g_drop, h t ht]
theorem cut_eq {p b : List UInt8} {a : Nat} (hp : a + b.length ≤ p.length) (h : ∀ t, t < b.length → g p (a + t) = g b t) : cutP p a b.length = b := by
  unfold cutP
  refine ext_g (by simp; omega) fun t ht => ?_
  have ht : t < b.length := by simp at ht; omega
  rw [g_take, if_pos ht, g_drop, h t ht]
theorem ct_none {p : List UInt8} {k : Nat} : ct p k = none ↔ ¬ (k < nS p ∧ sP p k ≠ 0) := by
  unfold ct
  split <;> simp_all
theorem ct_some {p : List UInt8} {k : Nat} (h : k < nS p) (h2 : sP p k ≠ 0) : ct p k = some (cutP p (sP p k) (sL p k)) := if_pos ⟨h, h2⟩
/-! ### one slot's cell is another one -/
theorem filter_set {cs : List (Nat × Nat)} {i : Nat} {c : Nat × Nat} (hi : i < cs.length) (hu : used cs[i] = false) (hc : used c = true) : ((cs.set i c).filter used).Perm (c :: cs.filter used) := by
  induction cs generalizing i with
  | nil => simp at hi
  | cons x r ih =>
    cases i with
    | zero =>
      simp only [List.getElem_cons_zero] at hu
      simp [hu, hc]
    | succ i =>
      simp only [List.getElem_cons_succ] at hu
      simp only [List.set_cons_succ, List.filter_cons]
      have := ih (by simpa using hi) hu
      by_cases hx : used x = true
      · rw [if_pos hx, if_pos hx]
        exact (this.cons x).trans (List.Perm.swap c x _)
      · rw [if_neg hx, if_neg hx]
        exact this
theorem filter_unset {cs : List (Nat × Nat)} {i : Nat} {c : Nat × Nat} (hi : i < cs.length) (hu : used cs[i] = true) (hc : used c = false) : (cs.filter used).Perm (cs[i] :: (cs.set i c).filter used) := by
  have h := filter_set (cs := cs.set i c) (i := i) (c := cs[i]) (by simpa using hi) (by simpa using hc) hu
  rwa [List.set_set, List.set_getElem_self] at h
/-! ### a cell is laid -/
def layP (p : List UInt8) (i : Nat) (b : List UInt8) : List UInt8 := put (put (put (over p (bg p - b.length) b) 8 (bg p - b.length)) (10 + 4 * i) (bg p - b.length)) (12 + 4 * i) b.length
section
variable {p b : List UInt8} {i : Nat} (hl : p.length = 512) (hb : b.length ≤ 512) (hf : 14 + 4 * i + b.length ≤ bg p) (he : bg p ≤ 512)
include hl hb hf he
theorem lay_len : (layP p i b).length = 512 := by
  have h1 : (over p (bg p - b.length) b).length = 512 := by rw [over_len (by omega)]; exact hl
  have h2 : (put (over p (bg p - b.length) b) 8 (bg p - b.length)).length = 512 := by rw [put_len _ (by omega)]; exact h1
  have h3 : (put (put (over p (bg p - b.length) b) 8 (bg p - b.length)) (10 + 4 * i) (bg p - b.length)).length = 512 := by rw [put_len _ (by omega)]; exact h2
  unfold layP
  rw [put_len _ (by omega)]; exact h3
theorem g_lay (j : Nat) (h8 : j ≠ 8) (h9 : j ≠ 9) (hi : j < 10 + 4 * i ∨ 14 + 4 * i ≤ j) : g (layP p i b) j = if bg p - b.length ≤ j ∧ j < bg p then g b (j - (bg p - b.length)) else g p j := by
  have h1 : (over p (bg p - b.length) b).length = 512 := by rw [over_len (by omega)]; exact hl
  have h2 : (put (over p (bg p - b.length) b) 8 (bg p - b.length)).length = 512 := by rw [put_len _ (by omega)]; exact h1
  have h3 : (put (put (over p (bg p - b.length) b) 8 (bg p - b.length)) (10 + 4 * i) (bg p - b.length)).length = 512 := by rw [put_len _ (by omega)]; exact h2
  unfold layP
  rw [g_put (by omega) (by omega), if_neg (by omega), if_neg (by omega), g_put (by omega) (by omega), if_neg (by omega), if_neg (by omega), g_put (by omega) (by omega), if_neg (by omega), if_neg (by omega), g_over (by omega)]
  by_cases h : bg p - b.length ≤ j ∧ j < bg p
  · rw [if_pos h, if_pos (by omega)]
  · rw [if_neg h, if_neg (by omega)]
theorem lay_eight : two (layP p i b) 8 = bg p - b.length := by
  have h1 : (over p (bg p - b.length) b).length = 512 := by rw [over_len (by omega)]; exact hl
  have h2 : (put (over p (bg p - b.length) b) 8 (bg p - b.length)).length = 512 := by rw [put_len _ (by omega)]; exact h1
  have h3 : (put (put (over p (bg p - b.length) b) 8 (bg p - b.length)) (10 + 4 * i) (bg p - b.length)).length = 512 := by rw [put_len _ (by omega)]; exact h2
  unfold layP
  rw [two_put_ne (by omega) (by omega) (by omega), two_put_ne (by omega) (by omega) (by omega), two_put (by omega) (by omega)]
theorem lay_place : sP (layP p i b) i = bg p - b.length := by
  have h1 : (over p (bg p - b.length) b).length = 512 := by rw [over_len (by omega)]; exact hl
  have h2 : (put (over p (bg p - b.length) b) 8 (bg p - b.length)).length = 512 := by rw [put_len _ (by omega)]; exact h1
  have h3 : (put (put (over p (bg p - b.length) b) 8 (bg p - b.length)) (10 + 4 * i) (bg p - b.length)).length = 512 := by rw [put_len _ (by omega)]; exact h2
  unfold layP sP
  rw [two_put_ne (by omega) (by omega) (by omega), two_put (by omega) (by omega)]
theorem lay_length : sL (layP p i b) i = b.length := by
  have h1 : (over p (bg p - b.length) b).length = 512 := by rw [over_len (by omega)]; exact hl
  have h2 : (put (over p (bg p - b.length) b) 8 (bg p - b.length)).length = 512 := by rw [put_len _ (by omega)]; exact h1
  have h3 : (put (put (over p (bg p - b.length) b) 8 (bg p - b.length)) (10 + 4 * i) (bg p - b.length)).length = 512 := by rw [put_len _ (by omega)]; exact h2
  unfold layP sL
  rw [two_put (by omega) (by omega)]
theorem lay_slot {k : Nat} (hk : k ≠ i) (hkn : 14 + 4 * k + b.length ≤ bg p) : sP (layP p i b) k = sP p k ∧ sL (layP p i b) k = sL p k := by
  have G := g_lay hl hb hf he
  unfold sP sL
  refine ⟨two_congr ?_ ?_, two_congr ?_ ?_⟩
  all_goals rw [G _ (by omega) (by omega) (by omega), if_neg (by omega)]
theorem lay_count : nS (layP p i b) = nS p := by
  have G := g_lay hl hb hf he
  unfold nS
  refine two_congr ?_ ?_
  all_goals rw [G _ (by omega) (by omega) (by omega), if_neg (by omega)]
end
theorem cells_of {p : List UInt8} {l : List (Nat × Nat)} (hl : l.length = nS p) (h : ∀ i, i < nS p → l[i]? = some (sP p i, sL p i)) : cells p = l := by
  apply List.ext_getElem
  · rw [cells_len, hl]
  · intro i h1 h2
    rw [cells_get]
    have := h i (by rw [cells_len] at h1; exact h1)
    rw [List.getElem?_eq_getElem h2] at this
    exact (Option.some.inj this).symm
structure Laid (p : List UInt8) (i : Nat) (b q : List UInt8) : Prop where
  core : Core q
  count : nS q = nS p
  beg : bg q = bg p - b.length
  kind : g q 4 = g p 4
  mine : ct q i = some b
  rest : ∀ k, k ≠ i → ct q k = ct p k
  place : sP q i ≠ 0
  far : ∀ k, k < nS p → k ≠ i → sP q k = sP p k ∧ sL q k = sL p k
theorem Core.lay {p b : List UInt8} {i : Nat} (h : Core p) (hi : i < nS p) (h0 : sP p i = 0) (hb1 : 1 ≤ b.length) (hb2 : b.length ≤ 400) (hf : 10 + 4 * nS p + b.length ≤ bg p) : Laid p i b (layP p i b) := by
  have hl := h.len
  have he := h.fin
  have hb : b.length ≤ 512 := by omega
  have hf' : 14 + 4 * i + b.length ≤ bg p := by omega
  have L := lay_len hl hb hf' he
  have G := g_lay hl hb hf' he
  have E := lay_eight hl hb hf' he
  have P := lay_place hl hb hf' he
  have Q := lay_length hl hb hf' he
  have S := fun k (hk : k ≠ i) (hkn : k < nS p) => lay_slot hl hb hf' he hk (by omega)
  have N := lay_count hl hb hf' he
  have hsl : sL p i = 0 := (h.goodAt hi).1 h0
  have hbg : bg (layP p i b) = bg p - b.length := E
  have hC : cells (layP p i b) = (cells p).set i (bg p - b.length, b.length) := by
    refine cells_of (by rw [List.length_set, cells_len, N]) fun k hk => ?_
    rw [N] at hk
    by_cases hki : k = i
    · subst hki
      rw [List.getElem?_set_self (by rw [cells_len]; exact hk), P, Q]
    · rw [List.getElem?_set_ne (fun e => hki e.symm), List.getElem?_eq_getElem (by rw [cells_len]; exact hk), cells_get, (S k hki hk).1, (S k hki hk).2]
  have hcore : Core (layP p i b) := by
    refine ⟨L, ?_, by rw [N]; exact h.most, by rw [N, hbg]; omega, by rw [hbg]; omega, ?_, ?_, ?_⟩
    · rw [G 5 (by omega) (by omega) (by omega), if_neg (by omega)]; exact h.zero
    · refine goodP fun k hk => ?_
      rw [N] at hk
      by_cases hki : k = i
      · subst hki
        rw [P, Q]
        exact ⟨fun hz => by have : bg p - b.length = 0 := hz; omega, fun _ => hb1, hb2⟩
      · rw [(S k hki hk).1, (S k hki hk).2]
        exact h.goodAt hk
    · obtain ⟨l, hp, hc⟩ := h.row
      refine ⟨(bg p - b.length, b.length) :: l, ?_, ?_⟩
      · rw [hC]
        refine (List.Perm.cons _ hp).trans (filter_set (by rw [cells_len]; exact hi) ?_ ?_).symm
        · rw [cells_get]; simp [used, h0]
        · simp only [used, bne_iff_ne]; omega
      · rw [hbg]
        refine ⟨rfl, ?_⟩
        show chain (bg p - b.length + b.length) l
        rw [Nat.sub_add_cancel (by omega)]; exact hc
    · intro j h1 h2
      rw [N] at h1
      rw [hbg] at h2
      rw [G j (by omega) (by omega) (by omega), if_neg (by omega)]
      exact h.gap j h1 (by omega)
  refine ⟨hcore, N, hbg, by rw [G 4 (by omega) (by omega) (by omega), if_neg (by omega)], ?_, ?_, by rw [P]; omega, fun k hk hki => S k hki hk⟩
  · rw [ct_some (by rw [N]; exact hi) (by rw [P]; omega), P, Q]
    congr 1
    refine cut_eq (by rw [L]; omega) fun t ht => ?_
    rw [G _ (by omega) (by omega) (by omega), if_pos (by omega)]
    congr 1; omega
  · intro k hki
    by_cases hk : k < nS p
    · by_cases hz : sP p k = 0
      · rw [ct_none.2 (by rw [(S k hki hk).1]; simp [hz]), ct_none.2 (by simp [hz])]
      · obtain ⟨hi1, hi2⟩ := h.in_ hk hz
        rw [ct_some hk hz, ct_some (by rw [N]; exact hk) (by rw [(S k hki hk).1]; exact hz), (S k hki hk).1, (S k hki hk).2]
        congr 1
        refine cut_congr (by rw [L]; exact hi2) (by rw [hl]; exact hi2) fun t ht => ?_
        rw [G _ (by omega) (by omega) (by omega), if_neg (by omega)]
    · rw [ct_none.2 (by rw [N]; simp [hk]), ct_none.2 (by simp [hk])]
/-! ### a cell is taken out -/
/-- Where a byte of the cells' room comes from. -/
def mv (p : List UInt8) (i j : Nat) : Nat := if j < bg p then g p j else if j < bg p + sL p i then 0 else if j < sP p i + sL p i then g p (j - sL p i) else g p j
def shP (p : List UInt8) (i k : Nat) : Nat := if k = i then 0 else if sP p k ≠ 0 ∧ sP p k < sP p i then sP p k + sL p i else sP p k
def shL (p : List UInt8) (i k : Nat) : Nat := if k = i then 0 else sL p k
structure Took (p : List UInt8) (i : Nat) (q : List UInt8) : Prop where
  len : q.length = 512
  head : ∀ j, j < 8 → g q j = g p j
  beg : two q 8 = bg p + sL p i
  slot : ∀ k, k < nS p → sP q k = shP p i k ∧ sL q k = shL p i k
  rest : ∀ j, 10 + 4 * nS p ≤ j → j < 512 → g q j = mv p i j
theorem Took.unique {p q r : List UInt8} {i : Nat} (h : Took p i q) (k : Took p i r) : q = r :=
  ext_page h.len k.len (nS p) (fun j hj => by rw [h.head j hj, k.head j hj]) (by rw [h.beg, k.beg]) (fun j hj => by rw [(h.slot j hj).1, (h.slot j hj).2, (k.slot j hj).1, (k.slot j hj).2]; exact ⟨rfl, rfl⟩) (fun j h1 h2 => by rw [h.rest j h1 h2, k.rest j h1 h2])
theorem chain_shift : ∀ {l1 l2 : List (Nat × Nat)} {e : Nat} {c : Nat × Nat}, chain e (l1 ++ c :: l2) → chain (e + c.2) (l1.map (fun x => (x.1 + c.2, x.2)) ++ l2)
  | [], l2, e, c, h => h.2
  | x :: r, l2, e, c, h => by
    have h1 : x.1 = e := h.1
    have := chain_shift (l1 := r) (l2 := l2) (c := c) h.2
    refine ⟨by show x.1 + c.2 = e + c.2; omega, ?_⟩
    show chain (e + c.2 + x.2) _
    rw [show e + c.2 + x.2 = e + x.2 + c.2 by omega]
    exact this
structure Gone (p : List UInt8) (i : Nat) (q : List UInt8) : Prop where
  core : Core q
  count : nS q = nS p
  beg : bg q = bg p + sL p i
  kind : g q 4 = g p 4
  mine : sP q i = 0
  rest : ∀ k, k ≠ i → ct q k = ct p k
  far : ∀ k, k < nS p → k ≠ i → (sP q k = 0 ↔ sP p k = 0) ∧ sL q k = sL p k
theorem Core.take {p q : List UInt8} {i : Nat} (h : Core p) (hi : i < nS p) (h0 : sP p i ≠ 0) (ht : Took p i q) : Gone p i q := by
  have N : nS q = nS p := two_congr (ht.head 6 (by omega)) (ht.head 7 (by omega))
  have B : bg q = bg p + sL p i := ht.beg
  have hl := h.len
  obtain ⟨hin1, hin2⟩ := h.in_ hi h0
  have hfit := h.fit
  have hmost := h.most
  have hC : cells q = ((cells p).set i (0, 0)).map fun x => if x.1 ≠ 0 ∧ x.1 < sP p i then (x.1 + sL p i, x.2) else x := by
    refine cells_of (by rw [List.length_map, List.length_set, cells_len, N]) fun k hk => ?_
    rw [N] at hk
    rw [(ht.slot k hk).1, (ht.slot k hk).2, List.getElem?_map]
    unfold shP shL
    by_cases hki : k = i
    · subst hki
      rw [List.getElem?_set_self (by rw [cells_len]; exact hk), if_pos rfl, if_pos rfl]; rfl
    · rw [List.getElem?_set_ne (fun e => hki e.symm), List.getElem?_eq_getElem (by rw [cells_len]; exact hk), cells_get, if_neg hki, if_neg hki]
      simp only [Option.map_some]
      split <;> rfl
  have hlt : ∀ k, k < nS p → k ≠ i → sP p k ≠ 0 → (sP p k < sP p i → sP p k + sL p k ≤ sP p i) ∧ (¬ sP p k < sP p i → sP p i + sL p i ≤ sP p k) := fun k hk hki hz => by
    have h1 := h.apart hi hk (fun e => hki e.symm) h0 hz
    have h2 := (h.goodAt hi).2.1 h0
    have h3 := (h.goodAt hk).2.1 hz
    constructor <;> intro h4 <;> omega
  refine ⟨⟨ht.len, by rw [ht.head 5 (by omega)]; exact h.zero, by rw [N]; exact h.most, by rw [N, B]; omega, by rw [B]; omega, ?_, ?_, ?_⟩, N, B, ht.head 4 (by omega), ?_, ?_, ?_⟩
  · refine goodP fun k hk => ?_
    rw [N] at hk
    rw [(ht.slot k hk).1, (ht.slot k hk).2]
    unfold shP shL
    by_cases hki : k = i
    · rw [if_pos hki, if_pos hki]; exact ⟨fun _ => rfl, fun hz => absurd rfl hz, by omega⟩
    · rw [if_neg hki, if_neg hki]
      have := h.goodAt hk
      by_cases hc : sP p k ≠ 0 ∧ sP p k < sP p i
      · rw [if_pos hc]
        exact ⟨fun hz => by have : sP p k + sL p i = 0 := hz; omega, fun _ => this.2.1 hc.1, this.2.2⟩
      · rw [if_neg hc]; exact this
  · obtain ⟨l, hp, hc⟩ := h.row
    have hpc := filter_unset (cs := cells p) (i := i) (c := (0, 0)) (by rw [cells_len]; exact hi) (by rw [cells_get]; simp [used, h0]) rfl
    rw [cells_get] at hpc
    have hmem : (sP p i, sL p i) ∈ l := (hp.trans hpc).mem_iff.2 (List.mem_cons_self ..)
    obtain ⟨l1, l2, rfl⟩ := List.append_of_mem hmem
    have hpw := chain_apart hc
    have hlen : ∀ c ∈ l1 ++ (sP p i, sL p i) :: l2, c.1 ≠ 0 ∧ 1 ≤ c.2 := fun c hcm => by
      have := List.mem_filter.1 (hp.mem_iff.1 hcm)
      have h1 : c.1 ≠ 0 := by simpa [used] using this.2
      exact ⟨h1, (h.good c this.1).2.1 h1⟩
    have hso := List.pairwise_append.1 (chain_sorted hc fun c hcm => (hlen c hcm).2)
    have hsh := chain_shift hc
    have hperm : (l1 ++ l2).Perm (((cells p).set i (0, 0)).filter used) := by
      have : ((sP p i, sL p i) :: (l1 ++ l2)).Perm ((sP p i, sL p i) :: ((cells p).set i (0, 0)).filter used) := (List.perm_middle.symm.trans hp).trans hpc
      exact this.cons_inv
    refine ⟨(l1 ++ l2).map (fun x => if x.1 ≠ 0 ∧ x.1 < sP p i then (x.1 + sL p i, x.2) else x), ?_, ?_⟩
    · rw [hC, List.filter_map]
      refine List.Perm.map _ ?_
      refine hperm.trans (List.Perm.of_eq ?_)
      apply List.filter_congr
      intro x _
      simp only [Function.comp, used]
      split
      · rename_i hx
        exact (bne_iff_ne.2 hx.1).trans (bne_iff_ne.2 (show x.1 + sL p i ≠ 0 by omega)).symm
      · rfl
    · rw [B, List.map_append]
      have e1 : l1.map (fun x => if x.1 ≠ 0 ∧ x.1 < sP p i then (x.1 + sL p i, x.2) else x) = l1.map (fun x => (x.1 + sL p i, x.2)) := List.map_congr_left fun x hx => by
        have h1 := (hlen x (List.mem_append_left _ hx)).1
        have h2 := hso.2.2 x hx (sP p i, sL p i) (List.mem_cons_self ..)
        rw [if_pos ⟨h1, h2⟩]
      have e2 : l2.map (fun x => if x.1 ≠ 0 ∧ x.1 < sP p i then (x.1 + sL p i, x.2) else x) = l2 := by
        conv => rhs; rw [← List.map_id l2]
        refine List.map_congr_left fun x hx => ?_
        have h2 := (List.pairwise_cons.1 hso.2.1).1 x hx
        have h2 : sP p i < x.1 := h2
        rw [if_neg (by omega)]; rfl
      rw [e1, e2]
      exact hsh
  · intro j h1 h2
    rw [N] at h1
    rw [B] at h2
    rw [ht.rest j h1 (by omega)]
    unfold mv
    by_cases hj : j < bg p
    · rw [if_pos hj]; exact h.gap j h1 hj
    · rw [if_neg hj, if_pos h2]
  · rw [(ht.slot i hi).1]; unfold shP; rw [if_pos rfl]
  · intro k hki
    by_cases hk : k < nS p
    · by_cases hz : sP p k = 0
      · have : sP q k = 0 := by rw [(ht.slot k hk).1]; unfold shP; rw [if_neg hki, if_neg (by simp [hz])]; exact hz
        rw [ct_none.2 (by simp [this]), ct_none.2 (by simp [hz])]
      · obtain ⟨hk1, hk2⟩ := h.in_ hk hz
        obtain ⟨ha, hb⟩ := hlt k hk hki hz
        have hPk := (ht.slot k hk).1
        have hLk := (ht.slot k hk).2
        unfold shP at hPk
        unfold shL at hLk
        rw [if_neg hki] at hPk hLk
        by_cases hc : sP p k < sP p i
        · have ha := ha hc
          rw [if_pos ⟨hz, hc⟩] at hPk
          rw [ct_some hk hz, ct_some (by rw [N]; exact hk) (by rw [hPk]; omega), hPk, hLk]
          congr 1
          refine cut_congr (by rw [ht.len]; omega) (by rw [hl]; exact hk2) fun t htt => ?_
          rw [ht.rest _ (by omega) (by omega)]
          unfold mv
          rw [if_neg (by omega), if_neg (by omega), if_pos (by omega)]
          congr 1; omega
        · have hb := hb hc
          rw [if_neg (by simp [hc])] at hPk
          rw [ct_some hk hz, ct_some (by rw [N]; exact hk) (by rw [hPk]; exact hz), hPk, hLk]
          congr 1
          refine cut_congr (by rw [ht.len]; omega) (by rw [hl]; exact hk2) fun t htt => ?_
          rw [ht.rest _ (by omega) (by omega)]
          unfold mv
          rw [if_neg (by omega), if_neg (by omega), if_neg (by omega)]
    · rw [ct_none.2 (by rw [N]; simp [hk]), ct_none.2 (by simp [hk])]
  · intro k hk hki
    rw [(ht.slot k hk).1, (ht.slot k hk).2]
    unfold shP shL
    rw [if_neg hki, if_neg hki]
    refine ⟨?_, rfl⟩
    by_cases hc : sP p k ≠ 0 ∧ sP p k < sP p i
    · rw [if_pos hc]; omega
    · rw [if_neg hc]
end Go.Proofs.YtfkmjbpnjgnkbaaGreat.G

/-
  The calls on pages, as plain data: which error, which slot, which page. No program in sight.
-/
namespace Go.Proofs.YtfkmjbpnjgnkbaaGreat.G
set_option linter.unusedSimpArgs false
open Go Go.RowKit Go.Proofs.YtfkmjbpnjgnkbaaGreat.B Go.Proofs.YtfkmjbpnjgnkbaaGreat.C
set_option linter.unusedVariables false
/-! ### the number of slots is another one -/
theorem put_two {p : List UInt8} {a : Nat} (h : a + 2 ≤ p.length) : put p a (two p a) = p := by
  have ht := two_lt p a
  have h1 := g_lt p a
  have h2 := g_lt p (a + 1)
  refine ext_g (put_len _ h) fun i _ => ?_
  rw [g_put h ht]
  unfold two at *
  split
  · subst i; omega
  · split
    · subst i; omega
    · rfl
theorem put_put {p : List UInt8} {a n m : Nat} (h : a + 2 ≤ p.length) (hn : n < 65536) (hm : m < 65536) : put (put p a n) a m = put p a m := by
  have hl := put_len n h
  refine ext_g (by rw [put_len _ (by rw [hl]; exact h), hl, put_len _ h]) fun i _ => ?_
  rw [g_put (by rw [hl]; exact h) hm, g_put h hm, g_put h hn]
  split
  · rfl
  · split <;> rfl
section
variable {p : List UInt8} {m : Nat} (hl : p.length = 512)
include hl
theorem six_len : (put p 6 m).length = 512 := by rw [put_len _ (by omega)]; exact hl
variable (hm : m < 65536)
include hm
theorem six_count : nS (put p 6 m) = m := two_put (by omega) hm
theorem six_far (i : Nat) (h6 : i ≠ 6) (h7 : i ≠ 7) : g (put p 6 m) i = g p i := by rw [g_put (by omega) hm, if_neg h6, if_neg (by omega)]
theorem six_bg : bg (put p 6 m) = bg p := two_put_ne (by omega) hm (by omega)
theorem six_place (i : Nat) : sP (put p 6 m) i = sP p i := two_put_ne (by omega) hm (by omega)
theorem six_length (i : Nat) : sL (put p 6 m) i = sL p i := two_put_ne (by omega) hm (by omega)
end
/-- Other slots at the end, of which none is used. -/
structure Wide (p : List UInt8) (m : Nat) (q : List UInt8) : Prop where
  core : Core q
  count : nS q = m
  beg : bg q = bg p
  kind : g q 4 = g p 4
  rest : ∀ k, ct q k = ct p k
  place : ∀ k, sP q k = sP p k
  long : ∀ k, sL q k = sL p k
theorem zero_four {p : List UInt8} {k : Nat} (h1 : sP p k = 0) (h2 : sL p k = 0) (r : Nat) (hr : r < 4) : g p (10 + 4 * k + r) = 0 := by
  obtain ⟨a, b⟩ := two_zero h1
  obtain ⟨c, d⟩ := two_zero h2
  have e1 : 12 + 4 * k = 10 + 4 * k + 2 := by omega
  rw [e1] at c d
  match r, hr with
  | 0, _ => exact a
  | 1, _ => exact b
  | 2, _ => exact c
  | 3, _ => exact d
theorem Core.wide {p : List UInt8} {m : Nat} (h : Core p) (hm : m ≤ 125) (hf : 10 + 4 * m ≤ bg p) (hz : ∀ k, m ≤ k → k < nS p → sP p k = 0) : Wide p m (put p 6 m) := by
  have hl := h.len
  have hmm : m < 65536 := by omega
  have L := six_len (m := m) hl
  have N := six_count hl hmm
  have F := six_far hl hmm
  have B := six_bg hl hmm
  have P := six_place hl hmm
  have Q := six_length hl hmm
  have hfin := h.fin
  have hfit := h.fit
  have hgap2 : ∀ k, nS p ≤ k → k < m → sP p k = 0 ∧ sL p k = 0 := fun k h1 h2 => by
    have hg := h.gap
    unfold sP sL two
    rw [hg _ (by omega) (by omega), hg _ (by omega) (by omega), hg _ (by omega) (by omega), hg _ (by omega) (by omega)]
    exact ⟨rfl, rfl⟩
  have hcf : (cells (put p 6 m)).filter used = (cells p).filter used := by
    have hext : ∀ a b : Nat, a ≤ b → (∀ k, a ≤ k → k < b → sP p k = 0) → ((List.range b).map fun i => (sP p i, sL p i)).filter used = ((List.range a).map fun i => (sP p i, sL p i)).filter used := by
      intro a b hab h0
      obtain ⟨d, rfl⟩ : ∃ d, b = a + d := ⟨b - a, by omega⟩
      clear hab
      induction d with
      | zero => rfl
      | succ d ih =>
        rw [show a + (d + 1) = a + d + 1 by omega, List.range_succ, List.map_append, List.filter_append, ih (fun k h1 h2 => h0 k h1 (by omega))]
        simp [used, h0 (a + d) (by omega) (by omega)]
    have hc : cells (put p 6 m) = (List.range m).map fun i => (sP p i, sL p i) := by
      unfold cells
      rw [N]
      exact List.map_congr_left fun i _ => by rw [P, Q]
    rw [hc]
    unfold cells
    rcases Nat.le_total m (nS p) with h1 | h1
    · exact (hext m (nS p) h1 hz).symm
    · exact hext (nS p) m h1 fun k h1 h2 => (hgap2 k h1 h2).1
  refine ⟨⟨L, by rw [F 5 (by omega) (by omega)]; exact h.zero, by rw [N]; exact hm, by rw [N, B]; exact hf, by rw [B]; exact hfin, ?_, ?_, ?_⟩, N, B, F 4 (by omega) (by omega), ?_, P, Q⟩
  · refine goodP fun k hk => ?_
    rw [N] at hk
    rw [P, Q]
    by_cases hkn : k < nS p
    · exact h.goodAt hkn
    · obtain ⟨h1, h2⟩ := hgap2 k (by omega) hk
      rw [h1, h2]
      exact ⟨fun _ => rfl, fun hz => absurd rfl hz, by omega⟩
  · obtain ⟨l, hp, hc⟩ := h.row
    exact ⟨l, by rw [hcf]; exact hp, by rw [B]; exact hc⟩
  · intro j h1 h2
    rw [N] at h1
    rw [B] at h2
    rw [F j (by omega) (by omega)]
    by_cases hj : 10 + 4 * nS p ≤ j
    · exact h.gap j hj h2
    · have hk : (j - 10) / 4 < nS p := by omega
      have hz1 := hz ((j - 10) / 4) (by omega) hk
      have := zero_four hz1 ((h.goodAt hk).1 hz1) ((j - 10) % 4) (by omega)
      rw [show 10 + 4 * ((j - 10) / 4) + (j - 10) % 4 = j by omega] at this
      exact this
  · intro k
    have hcut : ∀ a n, bg p ≤ a → a + n ≤ 512 → cutP (put p 6 m) a n = cutP p a n := fun a n h1 h2 => cut_congr (by rw [L]; exact h2) (by rw [hl]; exact h2) fun t ht => F _ (by omega) (by omega)
    by_cases hk : k < nS p ∧ sP p k ≠ 0
    · obtain ⟨hk, hk0⟩ := hk
      have hkm : k < m := by
        rcases Nat.lt_or_ge k m with h1 | h1
        · exact h1
        · exact absurd (hz k h1 hk) hk0
      obtain ⟨h1, h2⟩ := h.in_ hk hk0
      rw [ct_some hk hk0, ct_some (by rw [N]; exact hkm) (by rw [P]; exact hk0), P, Q, hcut _ _ h1 h2]
    · rw [ct_none.2 hk, ct_none.2 ?_]
      rw [N, P]
      rintro ⟨h1, h2⟩
      by_cases hkn : k < nS p
      · exact hk ⟨hkn, h2⟩
      · exact h2 (hgap2 k (by omega) h1).1
/-- How many slots stay, of n: none that is free at the end. -/
def trimN (q : List UInt8) : Nat → Nat
  | 0 => 0
  | n + 1 => if sP q n = 0 then trimN q n else n + 1
theorem trim_le (q : List UInt8) : ∀ n, trimN q n ≤ n
  | 0 => Nat.le_refl _
  | n + 1 => by
    unfold trimN
    have := trim_le q n
    split <;> omega
theorem trim_zero (q : List UInt8) : ∀ n k, trimN q n ≤ k → k < n → sP q k = 0
  | 0, k, h1, h2 => by omega
  | n + 1, k, h1, h2 => by
    unfold trimN at h1
    split at h1
    · by_cases hk : k = n
      · subst hk; assumption
      · exact trim_zero q n k h1 (by omega)
    · omega
theorem trim_last (q : List UInt8) : ∀ n, 0 < trimN q n → sP q (trimN q n - 1) ≠ 0
  | 0, h => by simp [trimN] at h
  | n + 1, h => by
    unfold trimN at h ⊢
    split
    · rename_i h0
      rw [if_pos h0] at h
      exact trim_last q n h
    · rename_i h0
      exact h0
/-! ### the first slot that is free -/
def freeS (p : List UInt8) : Nat := (cells p).findIdx fun c => c.1 == 0
theorem freeS_le (p : List UInt8) : freeS p ≤ nS p := by
  have := List.findIdx_le_length (xs := cells p) (p := fun c => c.1 == 0)
  rw [cells_len] at this; exact this
theorem freeS_used {p : List UInt8} {k : Nat} (h : k < freeS p) : sP p k ≠ 0 := by
  have h2 := freeS_le p
  have := List.not_of_lt_findIdx h
  rw [cells_get] at this
  simpa using this
theorem freeS_free {p : List UInt8} (h : freeS p < nS p) : sP p (freeS p) = 0 := by
  have := List.findIdx_getElem (xs := cells p) (p := fun c => c.1 == 0) (w := by rw [cells_len]; exact h)
  rw [cells_get] at this
  show sP p (List.findIdx (fun c => c.1 == 0) (cells p)) = 0
  simpa using this
/-! ### Insert -/
def freeB (p : List UInt8) : Nat := bg p - 10 - 4 * nS p
def need (p b : List UInt8) : Nat := if freeS p < nS p then b.length else b.length + 4
noncomputable def insE (p b : List UInt8) : Nat := if ok p = false then 40 else if b.length < 1 ∨ 400 < b.length then 43 else if freeB p < need p b ∨ freeS p = 125 then 42 else 0
def insP (p b : List UInt8) : List UInt8 := sealedP (layP (put p 6 (max (nS p) (freeS p + 1))) (freeS p) b)
structure Ins (p b q : List UInt8) : Prop where
  pg : Pg q
  count : nS q = max (nS p) (freeS p + 1)
  beg : bg q = bg p - b.length
  kind : g q 4 = g p 4
  mine : ct q (freeS p) = some b
  rest : ∀ k, k ≠ freeS p → ct q k = ct p k
theorem sealed_ct {p : List UInt8} (h : Core p) (k : Nat) : ct (sealedP p) k = ct p k := by
  have hl := h.len
  have hg : ∀ i, 4 ≤ i → g (sealedP p) i = g p i := fun i hi => g_sealed hi
  have N : nS (sealedP p) = nS p := two_congr (hg _ (by omega)) (hg _ (by omega))
  have P : sP (sealedP p) k = sP p k := two_congr (hg _ (by omega)) (hg _ (by omega))
  have Q : sL (sealedP p) k = sL p k := two_congr (hg _ (by omega)) (hg _ (by omega))
  by_cases hk : k < nS p ∧ sP p k ≠ 0
  · obtain ⟨h1, h2⟩ := h.in_ hk.1 hk.2
    have hfit := h.fit
    rw [ct_some hk.1 hk.2, ct_some (by rw [N]; exact hk.1) (by rw [P]; exact hk.2), P, Q]
    congr 1
    refine cut_congr (by rw [sealed_len (by omega), hl]; exact h2) (by rw [hl]; exact h2) fun t ht => hg _ (by omega)
  · rw [ct_none.2 hk, ct_none.2 (by rw [N, P]; exact hk)]
theorem insE_ok {p b : List UInt8} (h : insE p b = 0) : Pg p ∧ 1 ≤ b.length ∧ b.length ≤ 400 ∧ need p b ≤ freeB p ∧ freeS p ≠ 125 := by
  unfold insE at h
  split at h
  · cases h
  split at h
  · cases h
  split at h
  · cases h
  rename_i h1 h2 h3
  simp only [not_or, Nat.not_lt] at h2 h3
  exact ⟨ok_iff.1 (by simpa using h1), h2.1, h2.2, h3.1, h3.2⟩
theorem ins_wide {p b : List UInt8} (h : Pg p) (hn : need p b ≤ freeB p) (hf : freeS p ≠ 125) (hb : 1 ≤ b.length) :
    Wide p (max (nS p) (freeS p + 1)) (put p 6 (max (nS p) (freeS p + 1))) ∧ sP p (freeS p) = 0 ∧ 10 + 4 * max (nS p) (freeS p + 1) + b.length ≤ bg p := by
  have hc := h.body.core
  have hle := freeS_le p
  have hfit := hc.fit
  have hmost := hc.most
  have hfin := hc.fin
  unfold need freeB at hn
  by_cases hlt : freeS p < nS p
  · rw [if_pos hlt] at hn
    have e : max (nS p) (freeS p + 1) = nS p := by omega
    rw [e]
    exact ⟨hc.wide hmost hfit (fun k h1 h2 => by omega), freeS_free hlt, by omega⟩
  · rw [if_neg hlt] at hn
    have e : freeS p = nS p := by omega
    have e2 : max (nS p) (freeS p + 1) = nS p + 1 := by omega
    have hW := hc.wide (m := nS p + 1) (by omega) (by omega) (fun k h1 h2 => by omega)
    rw [e2]
    refine ⟨hW, ?_, by omega⟩
    rw [e]
    have hg := hc.gap
    unfold sP two
    rw [hg _ (by omega) (by omega), hg _ (by omega) (by omega)]
theorem ins_lay {p b : List UInt8} (h : insE p b = 0) : Laid (put p 6 (max (nS p) (freeS p + 1))) (freeS p) b (layP (put p 6 (max (nS p) (freeS p + 1))) (freeS p) b) ∧ Wide p (max (nS p) (freeS p + 1)) (put p 6 (max (nS p) (freeS p + 1))) := by
  obtain ⟨hp, hb1, hb2, hn, hf⟩ := insE_ok h
  obtain ⟨hW, h0, hr⟩ := ins_wide hp hn hf hb1
  exact ⟨hW.core.lay (by rw [hW.count]; omega) (by rw [hW.place]; exact h0) hb1 hb2 (by rw [hW.count, hW.beg]; exact hr), hW⟩
theorem ins_ok {p b : List UInt8} (h : insE p b = 0) : Ins p b (insP p b) := by
  obtain ⟨hL, hW⟩ := ins_lay h
  obtain ⟨hp, hb1, hb2, hn, hf⟩ := insE_ok h
  have hle := freeS_le p
  unfold insP
  generalize layP (put p 6 (max (nS p) (freeS p + 1))) (freeS p) b = q at *
  have hN : nS q = max (nS p) (freeS p + 1) := by rw [hL.count, hW.count]
  have hB : Body q := hL.core.body fun hpos => by
    rw [hN] at hpos ⊢
    by_cases hi : max (nS p) (freeS p + 1) - 1 = freeS p
    · rw [hi]; exact hL.place
    · have e : max (nS p) (freeS p + 1) = nS p := by omega
      rw [e] at hi ⊢
      rw [(hL.far _ (by rw [hW.count]; omega) hi).1, hW.place]
      exact hp.body.last (by omega)
  have hg : ∀ i, 4 ≤ i → g (sealedP q) i = g q i := fun i hi => g_sealed hi
  refine ⟨hB.sealed, ?_, ?_, ?_, ?_, ?_⟩
  · rw [← hN]; exact two_congr (hg _ (by omega)) (hg _ (by omega))
  · rw [← hW.beg, ← hL.beg]; exact two_congr (hg _ (by omega)) (hg _ (by omega))
  · rw [hg 4 (by omega), hL.kind, hW.kind]
  · rw [sealed_ct hL.core]; exact hL.mine
  · intro k hk
    rw [sealed_ct hL.core, hL.rest k hk, hW.rest]
/-! ### Get, Delete, Replace -/
noncomputable def getE (p : List UInt8) (i : Int) : Nat := if ok p = false then 40 else if i < 0 ∨ (nS p : Int) ≤ i ∨ sP p i.toNat = 0 then 41 else 0
theorem getE_ok {p : List UInt8} {i : Int} (h : getE p i = 0) : Pg p ∧ ∃ k : Nat, i = k ∧ k < nS p ∧ sP p k ≠ 0 := by
  unfold getE at h
  split at h
  · cases h
  split at h
  · cases h
  rename_i h1 h2
  simp only [not_or] at h2
  exact ⟨ok_iff.1 (by simpa using h1), i.toNat, by omega, by omega, h2.2.2⟩
theorem getE_of {p : List UInt8} {k : Nat} (h : Pg p) (hk : k < nS p) (h0 : sP p k ≠ 0) : getE p k = 0 := by
  unfold getE
  rw [if_neg (by rw [ok_iff.2 h]; simp), if_neg]
  simp only [not_or]
  exact ⟨by omega, by omega, by simpa using h0⟩
/-- What Delete tells. -/
def Del (p : List UInt8) (i : Nat) (r : List UInt8) : Prop := ∃ q, Took p i q ∧ r = sealedP (put q 6 (trimN q (nS q)))
theorem Del.unique {p r s : List UInt8} {i : Nat} (h : Del p i r) (k : Del p i s) : r = s := by
  obtain ⟨q, hq, rfl⟩ := h
  obtain ⟨q2, hq2, rfl⟩ := k
  rw [hq.unique hq2]
structure Cut (p : List UInt8) (i : Nat) (q : List UInt8) : Prop where
  pg : Pg q
  le : nS q ≤ nS p
  high : ∀ k, nS q ≤ k → k < nS p → k ≠ i → ct p k = none
  last : 0 < nS q → ct q (nS q - 1) ≠ none
  beg : bg q = bg p + sL p i
  kind : g q 4 = g p 4
  mine : ct q i = none
  rest : ∀ k, k ≠ i → ct q k = ct p k
theorem Del.cut {p r : List UInt8} {i : Nat} (h : Del p i r) (hp : Pg p) (hi : i < nS p) (h0 : sP p i ≠ 0) : Cut p i r := by
  obtain ⟨q, hq, rfl⟩ := h
  have hG := hp.body.core.take hi h0 hq
  have hc := hG.core
  have hle := trim_le q (nS q)
  have hmost := hc.most
  have hfit := hc.fit
  have hW := hc.wide (m := trimN q (nS q)) (by omega) (by omega) (trim_zero q (nS q))
  have hlast := trim_last q (nS q)
  have hzero := trim_zero q (nS q)
  generalize trimN q (nS q) = m at *
  have hB : Body (put q 6 m) := hW.core.body fun hpos => by
    rw [hW.count] at hpos ⊢
    rw [hW.place]; exact hlast hpos
  have hg : ∀ i, 4 ≤ i → g (sealedP (put q 6 m)) i = g (put q 6 m) i := fun i hi => g_sealed hi
  have N : nS (sealedP (put q 6 m)) = m := (two_congr (hg _ (by omega)) (hg _ (by omega))).trans hW.count
  have hq0 : ct q i = none := ct_none.2 (by rw [hG.mine]; simp)
  refine ⟨hB.sealed, by rw [N, ← hG.count]; exact hle, ?_, ?_, ?_, by rw [hg 4 (by omega), hW.kind, hG.kind], by rw [sealed_ct hW.core, hW.rest]; exact hq0, fun k hk => by rw [sealed_ct hW.core, hW.rest, hG.rest k hk]⟩
  · intro k h1 h2 h3
    rw [N] at h1
    rw [← hG.rest k h3]
    exact ct_none.2 (by rw [hzero k h1 (by rw [hG.count]; exact h2)]; simp)
  · intro hpos
    rw [N] at hpos ⊢
    rw [sealed_ct hW.core]
    intro hn
    exact ct_none.1 hn ⟨by rw [hW.count]; omega, by rw [hW.place]; exact hlast hpos⟩
  · rw [← hG.beg, ← hW.beg]; exact two_congr (hg _ (by omega)) (hg _ (by omega))
noncomputable def repE (p : List UInt8) (i : Int) (b : List UInt8) : Nat := if getE p i ≠ 0 then getE p i else if b.length < 1 ∨ 400 < b.length then 43 else if freeB p + sL p i.toNat < b.length then 42 else 0
/-- What Replace tells. -/
def Rep (p : List UInt8) (i : Nat) (b r : List UInt8) : Prop := ∃ q, Took p i q ∧ r = sealedP (layP q i b)
theorem Rep.unique {p b r s : List UInt8} {i : Nat} (h : Rep p i b r) (k : Rep p i b s) : r = s := by
  obtain ⟨q, hq, rfl⟩ := h
  obtain ⟨q2, hq2, rfl⟩ := k
  rw [hq.unique hq2]
structure Swap (p : List UInt8) (i : Nat) (b q : List UInt8) : Prop where
  pg : Pg q
  count : nS q = nS p
  beg : bg q = bg p + sL p i - b.length
  kind : g q 4 = g p 4
  mine : ct q i = some b
  rest : ∀ k, k ≠ i → ct q k = ct p k
theorem Rep.swap {p b r : List UInt8} {i : Nat} (h : Rep p i b r) (hp : Pg p) (hi : i < nS p) (h0 : sP p i ≠ 0) (hb1 : 1 ≤ b.length) (hb2 : b.length ≤ 400) (hf : b.length ≤ freeB p + sL p i) : Swap p i b r := by
  obtain ⟨q, hq, rfl⟩ := h
  have hG := hp.body.core.take hi h0 hq
  have hfit := hp.body.fit
  have hL := hG.core.lay (i := i) (b := b) (by rw [hG.count]; exact hi) hG.mine hb1 hb2 (by rw [hG.count, hG.beg]; unfold freeB at hf; omega)
  generalize layP q i b = t at *
  have hN : nS t = nS p := by rw [hL.count, hG.count]
  have hB : Body t := hL.core.body fun hpos => by
    rw [hN] at hpos ⊢
    by_cases hi2 : nS p - 1 = i
    · rw [hi2]; exact hL.place
    · rw [(hL.far _ (by rw [hG.count]; omega) hi2).1]
      intro hz
      exact hp.body.last hpos (((hG.far _ (by omega) hi2).1).1 hz)
  have hg : ∀ i, 4 ≤ i → g (sealedP t) i = g t i := fun i hi => g_sealed hi
  refine ⟨hB.sealed, ?_, ?_, by rw [hg 4 (by omega), hL.kind, hG.kind], by rw [sealed_ct hL.core]; exact hL.mine, fun k hk => by rw [sealed_ct hL.core, hL.rest k hk, hG.rest k hk]⟩
  · rw [← hN]; exact two_congr (hg _ (by omega)) (hg _ (by omega))
  · rw [← hG.beg, ← hL.beg]; exact two_congr (hg _ (by omega)) (hg _ (by omega))
end Go.Proofs.YtfkmjbpnjgnkbaaGreat.G

/-
  A new page, a page of which one byte is changed, a cell that is laid and taken out again: plain data. No program in sight.
-/
namespace Go.Proofs.YtfkmjbpnjgnkbaaGreat.G
set_option linter.unusedSimpArgs false
open Go Go.RowKit Go.Proofs.YtfkmjbpnjgnkbaaGreat.B Go.Proofs.YtfkmjbpnjgnkbaaGreat.C
set_option linter.unusedVariables false
theorem unle_le (n : Nat) (h : n < 4294967296) : unle (le n 4) = n := by
  simp only [le, List.nil_append, List.cons_append, unle]
  simp only [UInt8.toNat_ofNat']
  omega
theorem le_unle {l : List UInt8} (h : l.length = 4) : le (unle l) 4 = l := by
  match l, h with
  | [a, b, c, d], _ =>
    have ha := a.toNat_lt
    have hb := b.toNat_lt
    have hc := c.toNat_lt
    have hd := d.toNat_lt
    have key : ∀ (x : UInt8) (n : Nat), n = x.toNat → UInt8.ofNat n = x := fun x n hx => by rw [hx]; exact UInt8.ofNat_toNat
    simp only [le, List.nil_append, List.cons_append, unle]
    rw [key a _ (by omega), key b _ (by omega), key c _ (by omega), key d _ (by omega)]
theorem sealed_iff {p : List UInt8} (h : 4 ≤ p.length) : sealedP p = p ↔ unle (p.take 4) = sum (p.drop 4) := by
  have hs := sum_lt (p.drop 4)
  constructor
  · intro he
    have h1 : (sealedP p).take 4 = p.take 4 := by rw [he]
    unfold sealedP at h1
    rw [List.take_append_of_le_length (by rw [le_len]; exact Nat.le_refl _), List.take_of_length_le (by rw [le_len]; exact Nat.le_refl _)] at h1
    rw [← h1, unle_le _ hs]
  · intro he
    unfold sealedP
    rw [← he, le_unle (by rw [List.length_take]; omega), List.take_append_drop]
/-- One byte is changed: the sum is wrong. -/
theorem turned_no {p : List UInt8} {i : Nat} {x : UInt8} (hl : p.length = 512) (h : sealedP p = p) (hi : i < 512) (hx : x ≠ p.getD i 0) : sealedP (p.set i x) ≠ p.set i x := by
  intro he
  rw [sealed_iff (by rw [hl]; omega)] at h
  rw [sealed_iff (by rw [List.length_set, hl]; omega)] at he
  have hip : i < p.length := by omega
  rw [List.getD_eq_getElem?_getD, List.getElem?_eq_getElem hip, Option.getD_some] at hx
  by_cases h4 : i < 4
  · rw [List.drop_set, if_pos h4, ← h, List.take_set] at he
    have h1 : le (unle ((p.take 4).set i x)) 4 = le (unle (p.take 4)) 4 := by rw [he]
    rw [le_unle (by simp; omega), le_unle (by simp; omega)] at h1
    have h2 : ((p.take 4).set i x)[i]? = (p.take 4)[i]? := by rw [h1]
    rw [List.getElem?_set_self (by simp; omega), List.getElem?_take, if_pos h4, List.getElem?_eq_getElem hip] at h2
    exact hx (Option.some.inj h2)
  · rw [List.take_set_of_le (by omega), h, List.drop_set, if_neg h4] at he
    have hd : i - 4 < (p.drop 4).length := by rw [List.length_drop]; omega
    have e1 : p.drop 4 = (p.drop 4).take (i - 4) ++ p[i] :: (p.drop 4).drop (i - 4 + 1) := by
      conv => lhs; rw [← List.take_append_drop (i - 4) (p.drop 4)]
      rw [List.drop_eq_getElem_cons hd]
      congr 2
      rw [List.getElem_drop]
      congr 1; omega
    have e2 : (p.drop 4).set (i - 4) x = (p.drop 4).take (i - 4) ++ x :: (p.drop 4).drop (i - 4 + 1) := List.set_eq_take_append_cons_drop ▸ (by rw [if_pos hd])
    have he2 : sum ((p.drop 4).take (i - 4) ++ p[i] :: (p.drop 4).drop (i - 4 + 1)) = sum ((p.drop 4).take (i - 4) ++ x :: (p.drop 4).drop (i - 4 + 1)) := by rw [← e1, he, e2]
    exact hx (sum_turned _ _ _ _ he2).symm
/-! ### new -/
/-- A new page, before it is sealed. -/
def new0 (kind : UInt8) : List UInt8 := put ((List.replicate 512 0).set 4 kind) 8 512
def newP (kind : UInt8) : List UInt8 := sealedP (new0 kind)
theorem g_new0 (kind : UInt8) (i : Nat) : g (new0 kind) i = if i = 4 then kind.toNat else if i = 9 then 2 else 0 := by
  have hr : ∀ i, g (List.replicate 512 0) i = 0 := fun i => by
    unfold g
    rw [List.getD_eq_getElem?_getD, List.getElem?_replicate]
    split <;> rfl
  have hz : ∃ z : List UInt8, List.replicate 512 0 = z ∧ z.length = 512 := ⟨_, rfl, List.length_replicate⟩
  unfold new0
  obtain ⟨z, e, hl⟩ := hz
  rw [e] at hr ⊢
  rw [g_put (by rw [List.length_set]; omega) (by omega)]
  have hs : g (z.set 4 kind) i = if i = 4 then kind.toNat else 0 := by
    by_cases h : i = 4
    · subst h
      unfold g
      rw [List.getD_eq_getElem?_getD, List.getElem?_set_self (by omega), if_pos rfl]; rfl
    · rw [if_neg h, ← hr i]
      unfold g
      rw [List.getD_eq_getElem?_getD, List.getElem?_set_ne (fun e => h e.symm), List.getD_eq_getElem?_getD]
  rw [hs]
  by_cases h4 : i = 4
  · subst h4; simp
  · rw [if_neg h4, if_neg h4]
    by_cases h8 : i = 8
    · subst h8; simp
    · rw [if_neg h8]
theorem new0_len (kind : UInt8) : (new0 kind).length = 512 := by
  unfold new0
  rw [put_len _ (by rw [List.length_set, List.length_replicate]; omega), List.length_set, List.length_replicate]
theorem new0_core (kind : UInt8) : Core (new0 kind) ∧ nS (new0 kind) = 0 ∧ bg (new0 kind) = 512 := by
  have G := g_new0 kind
  have N : nS (new0 kind) = 0 := by unfold nS two; rw [G, G]; simp
  have B : bg (new0 kind) = 512 := by unfold bg two; rw [G, G]; simp
  have C : cells (new0 kind) = [] := by unfold cells; rw [N]; rfl
  refine ⟨⟨new0_len kind, by rw [G]; simp, by rw [N]; omega, by rw [N, B]; omega, by rw [B]; exact Nat.le_refl _, by rw [C]; simp, ⟨[], by rw [C]; exact List.Perm.refl _, B⟩, ?_⟩, N, B⟩
  intro i h1 h2
  rw [N] at h1
  rw [G, if_neg (by omega), if_neg (by omega)]
structure Fresh (p : List UInt8) (kind : Nat) : Prop where
  pg : Pg p
  count : nS p = 0
  beg : bg p = 512
  kind : g p 4 = kind
theorem new_fresh (kind : UInt8) : Fresh (newP kind) kind.toNat := by
  obtain ⟨hc, hn, hb⟩ := new0_core kind
  have hg : ∀ i, 4 ≤ i → g (newP kind) i = g (new0 kind) i := fun i hi => g_sealed hi
  exact ⟨(hc.body (by rw [hn]; omega)).sealed, (two_congr (hg _ (by omega)) (hg _ (by omega))).trans hn, (two_congr (hg _ (by omega)) (hg _ (by omega))).trans hb, by rw [hg 4 (by omega), g_new0]; simp⟩
/-- There is but one page of a kind without slots. -/
theorem Fresh.same {p q : List UInt8} {kind : Nat} (h : Fresh p kind) (k : Fresh q kind) : p = q := by
  have hl1 := h.pg.body.len
  have hl2 := k.pg.body.len
  rw [← h.pg.sums, ← k.pg.sums]
  refine sealed_congr (by rw [hl1, hl2]) fun i hi => ?_
  by_cases h4 : i = 4
  · subst h4; rw [h.kind, k.kind]
  by_cases h5 : i = 5
  · subst h5; rw [h.pg.body.zero, k.pg.body.zero]
  have ha : nS p = nS q := by rw [h.count, k.count]
  have hb : bg p = bg q := by rw [h.beg, k.beg]
  have ha := two_inj ha
  have hb := two_inj hb
  by_cases h6 : i = 6
  · subst h6; exact ha.1
  by_cases h7 : i = 7
  · subst h7; exact ha.2
  by_cases h8 : i = 8
  · subst h8; exact hb.1
  by_cases h9 : i = 9
  · subst h9; exact hb.2
  by_cases hi2 : i < 512
  · rw [h.pg.body.gap i (by rw [h.count]; omega) (by rw [h.beg]; exact hi2), k.pg.body.gap i (by rw [k.count]; omega) (by rw [k.beg]; exact hi2)]
  · rw [g_out (by omega), g_out (by omega)]
theorem Fresh.free {p : List UInt8} {kind : Nat} (h : Fresh p kind) : freeS p = 0 ∧ freeB p = 502 := by
  have := freeS_le p
  rw [h.count] at this
  exact ⟨by omega, by unfold freeB; rw [h.count, h.beg]⟩
theorem ct_long {p b : List UInt8} {k : Nat} (h : Core p) (hc : ct p k = some b) : k < nS p ∧ sP p k ≠ 0 ∧ sL p k = b.length ∧ b = cutP p (sP p k) (sL p k) := by
  by_cases hk : k < nS p ∧ sP p k ≠ 0
  · obtain ⟨h1, h2⟩ := h.in_ hk.1 hk.2
    rw [ct_some hk.1 hk.2] at hc
    have hc := Option.some.inj hc
    refine ⟨hk.1, hk.2, ?_, hc.symm⟩
    rw [← hc]
    unfold cutP
    rw [List.length_take, List.length_drop, h.len]
    omega
  · rw [ct_none.2 hk] at hc; cases hc
/-- A cell is laid into a new page, and taken out again. -/
theorem fresh_ins {p b : List UInt8} {kind : Nat} (h : Fresh p kind) (h1 : 1 ≤ b.length) (h2 : b.length ≤ 400) : insE p b = 0 ∧ Ins p b (insP p b) ∧ nS (insP p b) = 1 ∧ sP (insP p b) 0 ≠ 0 ∧ freeB (insP p b) + 4 + b.length = 502 ∧ ∀ r, Del (insP p b) 0 r → r = p := by
  obtain ⟨f1, f2⟩ := h.free
  have hn : need p b = b.length + 4 := by unfold need; rw [f1, h.count, if_neg (by omega)]
  have he : insE p b = 0 := by
    unfold insE
    rw [if_neg (by rw [ok_iff.2 h.pg]; simp), if_neg (by omega), if_neg (by rw [hn, f1, f2]; omega)]
  have hI := ins_ok he
  have hc := hI.count
  rw [h.count, f1] at hc
  have hc : nS (insP p b) = 1 := hc
  have hm := hI.mine
  rw [f1] at hm
  obtain ⟨g1, g2, g3, g4⟩ := ct_long hI.pg.body.core hm
  have hb := hI.beg
  rw [h.beg] at hb
  refine ⟨he, hI, hc, g2, by unfold freeB; rw [hc, hb]; omega, fun r hr => ?_⟩
  have hC := hr.cut hI.pg g1 g2
  have hr0 : nS r = 0 := by
    have := hC.le
    rw [hc] at this
    rcases Nat.eq_zero_or_pos (nS r) with h0 | h0
    · exact h0
    · have h1 : nS r = 1 := by omega
      have := hC.last h0
      rw [h1] at this
      exact absurd hC.mine this
  refine Fresh.same (kind := kind) ⟨hC.pg, hr0, by rw [hC.beg, hb, g3]; omega, by rw [hC.kind, hI.kind, h.kind]⟩ h
end Go.Proofs.YtfkmjbpnjgnkbaaGreat.G

/-
  The program's heap as plain data: pages with a head and pairs of slots, versions in them. No program in sight.
-/
namespace Go.Proofs.YtfkmjbpnjgnkbaaGreat.H
set_option linter.unusedSimpArgs false
open Go Go.RowKit Go.Proofs.YtfkmjbpnjgnkbaaGreat.B Go.Proofs.YtfkmjbpnjgnkbaaGreat.C Go.Proofs.YtfkmjbpnjgnkbaaGreat.G
set_option linter.unusedVariables false
/-! ### numbers as bytes -/
theorem unle_le (n : Nat) : ∀ k, n < 256 ^ k → unle (le n k) = n := by
  have key : ∀ k, unle (le n k) = n % 256 ^ k := by
    intro k
    induction k with
    | zero => simp [le, unle, Nat.mod_one]
    | succ k ih =>
      have hp : 2 ^ (8 * k) = 256 ^ k := by rw [Nat.pow_mul]
      rw [le, unle_append, ih, le_len, hp]
      simp only [unle, UInt8.toNat_ofNat', Nat.mul_zero, Nat.add_zero]
      have e : n / 256 ^ k % 256 % 2 ^ 8 = n / 256 ^ k % 256 := Nat.mod_eq_of_lt (show n / 256 ^ k % 256 < 2 ^ 8 by omega)
      rw [e]
      show _ = n % (256 ^ k * 256)
      rw [Nat.mod_mul]
  intro k hk
  rw [key, Nat.mod_eq_of_lt hk]
theorem le_inj {n m k : Nat} (hn : n < 256 ^ k) (hm : m < 256 ^ k) (h : le n k = le m k) : n = m := by
  rw [← unle_le n k hn, h, unle_le m k hm]
/-! ### cells -/
theorem ct_used {p : List UInt8} {k : Nat} : ct p k ≠ none ↔ k < nS p ∧ sP p k ≠ 0 := by
  constructor
  · intro h
    by_cases hk : k < nS p ∧ sP p k ≠ 0
    · exact hk
    · exact absurd (ct_none.2 hk) h
  · rintro ⟨h1, h2⟩ h
    rw [ct_some h1 h2] at h; cases h
theorem ct_isSome {p : List UInt8} {k : Nat} {b : List UInt8} (h : ct p k = some b) : k < nS p ∧ sP p k ≠ 0 := ct_used.1 (by rw [h]; simp)
theorem ct_cut {p b : List UInt8} {k : Nat} (h : ct p k = some b) : cutP p (sP p k) (sL p k) = b := by
  obtain ⟨h1, h2⟩ := ct_isSome h
  rw [ct_some h1 h2] at h
  exact Option.some.inj h
theorem ct_free {p : List UInt8} {k : Nat} (h : k < freeS p) : ct p k ≠ none := ct_used.2 ⟨by have := freeS_le p; omega, freeS_used h⟩
theorem ct_freeS (p : List UInt8) : ct p (freeS p) = none := by
  rw [ct_none]
  rintro ⟨h1, h2⟩
  exact h2 (freeS_free h1)
theorem freeS_eq {p : List UInt8} {j : Nat} (h : ∀ k, k < j → ct p k ≠ none) (h0 : ct p j = none) : freeS p = j := by
  rcases Nat.lt_trichotomy (freeS p) j with h1 | h1 | h1
  · exact absurd (ct_freeS p) (h _ h1)
  · exact h1
  · exact absurd h0 (ct_free h1)
/-! ### versions -/
structure Ver where
  row : List UInt8
  xmin : Nat
  xmax : Nat
  next : Nat
/-- The bytes of a version's stamps. -/
def stampC (xmin xmax next : Nat) : List UInt8 := le xmin 8 ++ le xmax 8 ++ le next 8
theorem stamp_len (a b c : Nat) : (stampC a b c).length = 24 := by simp [stampC, le_len]
def verOf (s r : List UInt8) : Ver := ⟨r, unle (s.take 8), unle ((s.drop 8).take 8), unle (s.drop 16)⟩
def W64 : Nat := 18446744073709551616
theorem stamp_a (a b c : Nat) : (stampC a b c).take 8 = le a 8 := by
  unfold stampC
  rw [List.append_assoc, List.take_append_of_le_length (by rw [le_len]; exact Nat.le_refl _), List.take_of_length_le (by rw [le_len]; exact Nat.le_refl _)]
theorem stamp_drop (a b c : Nat) : (stampC a b c).drop 8 = le b 8 ++ le c 8 := by
  unfold stampC
  rw [List.append_assoc, List.drop_append_of_le_length (by rw [le_len]; exact Nat.le_refl _), List.drop_of_length_le (by rw [le_len]; exact Nat.le_refl _)]
  rfl
theorem stamp_b (a b c : Nat) : ((stampC a b c).drop 8).take 8 = le b 8 := by
  rw [stamp_drop, List.take_append_of_le_length (by rw [le_len]; exact Nat.le_refl _), List.take_of_length_le (by rw [le_len]; exact Nat.le_refl _)]
theorem stamp_c (a b c : Nat) : (stampC a b c).drop 16 = le c 8 := by
  rw [show 16 = 8 + 8 by rfl, ← List.drop_drop, stamp_drop, List.drop_append_of_le_length (by rw [le_len]; exact Nat.le_refl _), List.drop_of_length_le (by rw [le_len]; exact Nat.le_refl _)]
  rfl
theorem ver_stamp {a b c : Nat} (ha : a < W64) (hb : b < W64) (hc : c < W64) (r : List UInt8) : verOf (stampC a b c) r = ⟨r, a, b, c⟩ := by
  unfold verOf
  rw [stamp_a, stamp_b, stamp_c, unle_le a 8 ha, unle_le b 8 hb, unle_le c 8 hc]
theorem unle_w {l : List UInt8} (h : l.length ≤ 8) : unle l < W64 := by
  have h1 := unle_lt l
  have h2 : 256 ^ l.length ≤ 256 ^ 8 := Nat.pow_le_pow_right (by omega) h
  have h3 : (256 : Nat) ^ 8 = W64 := by decide
  omega
/-! ### pages of a heap -/
def headC (root next : Nat) : List UInt8 := le root 4 ++ le next 4
theorem head_len (a b : Nat) : (headC a b).length = 8 := by simp [headC, le_len]
theorem head_root {a b : Nat} (h : a < 65536) : unle ((headC a b).take 4) = a := by
  unfold headC
  rw [List.take_append_of_le_length (by rw [le_len]; exact Nat.le_refl _), List.take_of_length_le (by rw [le_len]; exact Nat.le_refl _), unle_le a 4 (by omega)]
theorem head_next {a b : Nat} (h : b < 65536) : unle ((headC a b).drop 4) = b := by
  unfold headC
  rw [List.drop_append_of_le_length (by rw [le_len]; exact Nat.le_refl _), List.drop_of_length_le (by rw [le_len]; exact Nat.le_refl _), List.nil_append, unle_le b 4 (by omega)]
open Classical in
/-- Which page is next, if it is a page of the heap at root. -/
noncomputable def headOf (root : Nat) (p : List UInt8) : Option Nat :=
  match ct p 0 with
  | some h => if Pg p ∧ g p 4 = 49 ∧ h.length = 8 ∧ unle (h.take 4) = root then some (unle (h.drop 4)) else none
  | none => none
structure HPage (root next : Nat) (p : List UInt8) : Prop where
  pg : Pg p
  kind : g p 4 = 49
  head : ct p 0 = some (headC root next)
  pairs : ∀ j, j % 2 = 1 → (∃ s r, ct p j = some s ∧ ct p (j + 1) = some r ∧ s.length = 24 ∧ 1 ≤ r.length ∧ r.length ≤ 370) ∨ (ct p j = none ∧ ct p (j + 1) = none)
theorem HPage.headOf {root next : Nat} {p : List UInt8} (h : HPage root next p) (hr : root < 65536) (hn : next < 65536) : headOf root p = some next := by
  unfold H.headOf
  rw [h.head]
  simp only
  rw [if_pos ⟨h.pg, h.kind, head_len _ _, head_root hr⟩, head_next hn]
theorem headOf_some {root n : Nat} {p : List UInt8} (h : headOf root p = some n) : ∃ hd, ct p 0 = some hd ∧ Pg p ∧ g p 4 = 49 ∧ hd.length = 8 ∧ unle (hd.take 4) = root ∧ unle (hd.drop 4) = n := by
  unfold headOf at h
  split at h
  · rename_i hd he
    split at h
    · rename_i hc
      exact ⟨hd, he, hc.1, hc.2.1, hc.2.2.1, hc.2.2.2, Option.some.inj h⟩
    · cases h
  · cases h
theorem headOf_no {root : Nat} {p hd : List UInt8} (h : headOf root p = none) (hc : ct p 0 = some hd) (hp : Pg p) (hk : g p 4 = 49) (hl : hd.length = 8) : unle (hd.take 4) ≠ root := fun e => by
  unfold headOf at h
  rw [hc] at h
  simp only at h
  rw [if_pos ⟨hp, hk, hl, e⟩] at h
  cases h
theorem headOf_nokind {root : Nat} {p : List UInt8} (h : ¬ g p 4 = 49) : headOf root p = none := by
  unfold headOf
  split
  · rw [if_neg (fun hc => h hc.2.1)]
  · rfl
/-- The version of a slot. -/
def verAt (p : List UInt8) (j : Nat) : Option Ver := if j % 2 = 1 then match ct p j, ct p (j + 1) with
  | some s, some r => some (verOf s r)
  | _, _ => none else none
theorem verAt_some {root next : Nat} {p : List UInt8} (h : HPage root next p) {j : Nat} {v : Ver} (hv : verAt p j = some v) : j % 2 = 1 ∧ ∃ s, ct p j = some s ∧ ct p (j + 1) = some v.row ∧ s.length = 24 ∧ 1 ≤ v.row.length ∧ v.row.length ≤ 370 ∧ v = verOf s v.row := by
  unfold verAt at hv
  split at hv
  · rename_i hj
    refine ⟨hj, ?_⟩
    rcases h.pairs j hj with ⟨s, r, h1, h2, h3, h4, h5⟩ | ⟨h1, h2⟩
    · rw [h1, h2] at hv
      simp only [Option.some.injEq] at hv
      subst hv
      exact ⟨s, h1, h2, h3, h4, h5, rfl⟩
    · rw [h1] at hv; simp at hv
  · cases hv
theorem verAt_none {root next : Nat} {p : List UInt8} (h : HPage root next p) {j : Nat} (hj : j % 2 = 1) : verAt p j = none ↔ ct p j = none := by
  unfold verAt
  rw [if_pos hj]
  rcases h.pairs j hj with ⟨s, r, h1, h2, _⟩ | ⟨h1, h2⟩
  · rw [h1, h2]; simp
  · rw [h1]; simp
theorem verAt_even {p : List UInt8} {j : Nat} (hj : ¬ j % 2 = 1) : verAt p j = none := if_neg hj
theorem verAt_congr {p q : List UInt8} {j : Nat} (h1 : ct p j = ct q j) (h2 : ct p (j + 1) = ct q (j + 1)) : verAt p j = verAt q j := by unfold verAt; rw [h1, h2]
theorem verAt_lt {p : List UInt8} {j : Nat} {v : Ver} (h : verAt p j = some v) : j + 1 < nS p := by
  unfold verAt at h
  split at h
  · split at h
    · rename_i h1 h2
      exact (ct_isSome h2).1
    · cases h
  · cases h
theorem HPage.odd {root next : Nat} {p : List UInt8} (h : HPage root next p) : freeS p % 2 = 1 ∧ ct p (freeS p) = none ∧ ct p (freeS p + 1) = none := by
  have h0 := ct_freeS p
  have hodd : freeS p % 2 = 1 := by
    by_cases hj : freeS p % 2 = 1
    · exact hj
    · rcases Nat.eq_zero_or_pos (freeS p) with hz | hz
      · rw [hz, h.head] at h0; cases h0
      · have hu := ct_free (p := p) (k := freeS p - 1) (by omega)
        rcases h.pairs (freeS p - 1) (by omega) with ⟨s, r, h1, h2, _⟩ | ⟨h1, _⟩
        · rw [show freeS p - 1 + 1 = freeS p by omega, h0] at h2; cases h2
        · exact absurd h1 hu
  refine ⟨hodd, h0, ?_⟩
  rcases h.pairs (freeS p) hodd with ⟨s, r, h1, _⟩ | ⟨_, h2⟩
  · rw [h0] at h1; cases h1
  · exact h2
/-! ### a version is laid -/
open Classical in
/-- A version laid into a page, if there is room. -/
noncomputable def laysB (p row : List UInt8) (xmin : Nat) : Option (List UInt8) :=
  if insE p (stampC xmin 0 0) = 0 ∧ insE (insP p (stampC xmin 0 0)) row = 0 then some (insP (insP p (stampC xmin 0 0)) row) else none
structure LaidV (p : List UInt8) (row : List UInt8) (xmin root next : Nat) (q : List UInt8) : Prop where
  page : HPage root next q
  free : verAt p (freeS p) = none
  mine : verAt q (freeS p) = some ⟨row, xmin, 0, 0⟩
  rest : ∀ j, j ≠ freeS p → verAt q j = verAt p j
  odd : freeS p % 2 = 1
  lt : freeS p < 125
theorem lays_page {root next xmin : Nat} {p row q : List UInt8} (h : HPage root next p) (hx : xmin < W64) (h1 : 1 ≤ row.length) (h2 : row.length ≤ 370) (hq : laysB p row xmin = some q) : LaidV p row xmin root next q := by
  unfold laysB at hq
  split at hq
  case isFalse => cases hq
  rename_i hc
  obtain ⟨hc1, hc2⟩ := hc
  have hq := (Option.some.inj hq).symm
  obtain ⟨ho, f0, f1⟩ := h.odd
  have I1 := ins_ok hc1
  have I2 := ins_ok hc2
  generalize hm : insP p (stampC xmin 0 0) = m at *
  rw [← hq] at I2
  clear hq
  have hfm : freeS m = freeS p + 1 := freeS_eq (fun k hk => by
    by_cases e : k = freeS p
    · rw [e, I1.mine]; simp
    · rw [I1.rest k e]; exact ct_free (by omega)) (by rw [I1.rest _ (by omega)]; exact f1)
  have I2m := I2.mine
  have I2r := I2.rest
  rw [hfm] at I2m I2r
  have cq0 : ct q (freeS p) = some (stampC xmin 0 0) := by rw [I2r _ (by omega), I1.mine]
  have cq1 : ct q (freeS p + 1) = some row := I2m
  have cqr : ∀ k, k ≠ freeS p → k ≠ freeS p + 1 → ct q k = ct p k := fun k a b => by rw [I2r k b, I1.rest k a]
  have hP : HPage root next q := by
    refine ⟨I2.pg, by rw [I2.kind, I1.kind, h.kind], by rw [cqr 0 (by omega) (by omega), h.head], fun j hj => ?_⟩
    by_cases e : j = freeS p
    · subst e
      exact .inl ⟨_, _, cq0, cq1, stamp_len _ _ _, h1, h2⟩
    · rw [cqr j e (by omega), cqr (j + 1) (by omega) (by omega)]
      exact h.pairs j hj
  refine ⟨hP, ?_, ?_, fun j hj => ?_, ho, ?_⟩
  · exact (verAt_none h ho).2 f0
  · unfold verAt
    rw [if_pos ho, cq0, cq1]
    exact congrArg some (ver_stamp hx (by decide) (by decide) row)
  · by_cases e : j % 2 = 1
    · exact verAt_congr (cqr j hj (by omega)) (cqr (j + 1) (by omega) (by omega))
    · rw [verAt_even e, verAt_even e]
  · have := (insE_ok hc1).2.2.2.2
    have := freeS_le p
    have := h.pg.body.most
    omega
/-- The slots behind: how many there are, how many bytes are free. -/
theorem lays_no {p row : List UInt8} {xmin : Nat} (h : laysB p row xmin = none) : insE p (stampC xmin 0 0) ≠ 0 ∨ (insE p (stampC xmin 0 0) = 0 ∧ insE (insP p (stampC xmin 0 0)) row ≠ 0) := by
  unfold laysB at h
  split at h
  · cases h
  · rename_i hc
    by_cases h1 : insE p (stampC xmin 0 0) = 0
    · exact .inr ⟨h1, fun h2 => hc ⟨h1, h2⟩⟩
    · exact .inl h1
/-! ### other stamps -/
theorem stamp_page {root next j : Nat} {p r : List UInt8} {v : Ver} (h : HPage root next p) (hv : verAt p j = some v) {a b c : Nat} (ha : a < W64) (hb : b < W64) (hc : c < W64) (hr : Rep p j (stampC a b c) r) :
    HPage root next r ∧ verAt r j = some ⟨v.row, a, b, c⟩ ∧ ∀ k, k ≠ j → verAt r k = verAt p k := by
  obtain ⟨hj, s, h1, h2, h3, h4, h5, h6⟩ := verAt_some h hv
  obtain ⟨hk, hk0⟩ := ct_isSome h1
  have hlen : sL p j = 24 := by rw [(ct_long h.pg.body.core h1).2.2.1, h3]
  have S := hr.swap h.pg hk hk0 (by rw [stamp_len]; omega) (by rw [stamp_len]; omega) (by rw [stamp_len, hlen]; omega)
  have cr : ∀ k, k ≠ j → ct r k = ct p k := S.rest
  refine ⟨⟨S.pg, by rw [S.kind, h.kind], by rw [cr 0 (by omega), h.head], fun k hk => ?_⟩, ?_, fun k hk => ?_⟩
  · by_cases e : k = j
    · subst e
      exact .inl ⟨_, _, S.mine, by rw [cr _ (by omega), h2], stamp_len _ _ _, h4, h5⟩
    · rw [cr k e, cr (k + 1) (by omega)]; exact h.pairs k hk
  · unfold verAt
    rw [if_pos hj, S.mine, cr _ (by omega), h2]
    exact congrArg some (ver_stamp ha hb hc _)
  · by_cases e : k % 2 = 1
    · exact verAt_congr (cr k hk) (cr (k + 1) (by omega))
    · rw [verAt_even e, verAt_even e]
/-! ### a version goes -/
theorem gone_page {root next j : Nat} {p q r : List UInt8} {v : Ver} (h : HPage root next p) (hv : verAt p j = some v) (hq : Del p (j + 1) q) (hr : Del q j r) :
    (j < nS q ∧ sP q j ≠ 0 ∧ Pg q) ∧ HPage root next r ∧ verAt r j = none ∧ ∀ k, k ≠ j → verAt r k = verAt p k := by
  obtain ⟨hj, s, h1, h2, h3, h4, h5, h6⟩ := verAt_some h hv
  obtain ⟨hk, hk0⟩ := ct_isSome h2
  have C1 := hq.cut h.pg hk hk0
  have hqj : ct q j = some s := by rw [C1.rest j (by omega), h1]
  obtain ⟨hk2, hk3⟩ := ct_isSome hqj
  have C2 := hr.cut C1.pg hk2 hk3
  have cr : ∀ k, k ≠ j → k ≠ j + 1 → ct r k = ct p k := fun k a b => by rw [C2.rest k a, C1.rest k b]
  have r0 : ct r j = none := C2.mine
  have r1 : ct r (j + 1) = none := by rw [C2.rest _ (by omega), C1.mine]
  refine ⟨⟨hk2, hk3, C1.pg⟩, ⟨C2.pg, by rw [C2.kind, C1.kind, h.kind], by rw [cr 0 (by omega) (by omega), h.head], fun k hk => ?_⟩, ?_, fun k hk => ?_⟩
  · by_cases e : k = j
    · subst e; exact .inr ⟨r0, r1⟩
    · rw [cr k e (by omega), cr (k + 1) (by omega) (by omega)]; exact h.pairs k hk
  · unfold verAt
    rw [if_pos hj, r0]
  · by_cases e : k % 2 = 1
    · exact verAt_congr (cr k hk (by omega)) (cr (k + 1) (by omega) (by omega))
    · rw [verAt_even e, verAt_even e]
/-! ### another head, a new page -/
theorem head_page {root next n : Nat} {p r : List UInt8} (h : HPage root next p) (hr : Rep p 0 (headC root n) r) : HPage root n r ∧ ∀ k, verAt r k = verAt p k := by
  obtain ⟨hk, hk0⟩ := ct_isSome h.head
  have hlen : sL p 0 = 8 := by rw [(ct_long h.pg.body.core h.head).2.2.1, head_len]
  have S := hr.swap h.pg hk hk0 (by rw [head_len]; omega) (by rw [head_len]; omega) (by rw [head_len, hlen]; omega)
  refine ⟨⟨S.pg, by rw [S.kind, h.kind], S.mine, fun k hk => ?_⟩, fun k => ?_⟩
  · rw [S.rest k (by omega), S.rest (k + 1) (by omega)]; exact h.pairs k hk
  · by_cases e : k % 2 = 1
    · exact verAt_congr (S.rest k (by omega)) (S.rest (k + 1) (by omega))
    · rw [verAt_even e, verAt_even e]
/-- A page of the heap without versions. -/
def freshP (root : Nat) : List UInt8 := insP (newP 49) (headC root 0)
theorem fresh_page (root : Nat) : insE (newP 49) (headC root 0) = 0 ∧ HPage root 0 (freshP root) ∧ nS (freshP root) = 1 ∧ freeB (freshP root) = 490 ∧ ∀ k, verAt (freshP root) k = none := by
  have hF := new_fresh 49
  obtain ⟨he, hI, hn, hs, hf, _⟩ := fresh_ins (b := headC root 0) hF (by rw [head_len]; omega) (by rw [head_len]; omega)
  rw [head_len] at hf
  have hz : ∀ k, 1 ≤ k → ct (freshP root) k = none := fun k hk => ct_none.2 (by rw [show nS (freshP root) = 1 from hn]; omega)
  have hm := hI.mine
  rw [hF.free.1] at hm
  refine ⟨he, ⟨hI.pg, by rw [show freshP root = insP (newP 49) (headC root 0) from rfl, hI.kind, hF.kind]; rfl, hm, fun j hj => .inr ⟨hz j (by omega), hz _ (by omega)⟩⟩, hn, by show freeB (insP (newP 49) (headC root 0)) = _; omega, fun k => ?_⟩
  by_cases e : k % 2 = 1
  · unfold verAt; rw [if_pos e, hz k (by omega)]
  · exact verAt_even e
/-- A version has room in a page without versions. -/
theorem fresh_lays (root : Nat) {row : List UInt8} (xmin : Nat) (h1 : 1 ≤ row.length) (h2 : row.length ≤ 370) : ∃ q, laysB (freshP root) row xmin = some q := by
  obtain ⟨_, hP, hn, hf, _⟩ := fresh_page root
  have hs : (stampC xmin 0 0).length = 24 := stamp_len _ _ _
  have hle := freeS_le (freshP root)
  have ho := hP.odd.1
  have hfs : freeS (freshP root) = 1 := by omega
  have i1 : insE (freshP root) (stampC xmin 0 0) = 0 := by
    unfold insE
    rw [if_neg (by rw [ok_iff.2 hP.pg]; simp), if_neg (by omega), if_neg]
    unfold need
    rw [hfs, hn, if_neg (by omega), hf, hs]
    omega
  have I1 := ins_ok i1
  have n1 := hP.odd
  have hc := I1.count
  have hb := I1.beg
  rw [hfs, hn] at hc
  have hm : freeS (insP (freshP root) (stampC xmin 0 0)) = 2 := freeS_eq (fun k hk => by
    by_cases e : k = freeS (freshP root)
    · rw [e, I1.mine]; simp
    · rw [I1.rest k e]; exact ct_free (by omega)) (by
      have := n1.2.2
      rw [hfs] at this
      rw [I1.rest _ (by omega)]; exact this)
  have i2 : insE (insP (freshP root) (stampC xmin 0 0)) row = 0 := by
    unfold insE
    rw [if_neg (by rw [ok_iff.2 I1.pg]; simp), if_neg (by omega), if_neg]
    unfold need
    rw [hm, hc, if_neg (by omega)]
    unfold freeB at hf ⊢
    rw [hb, hc]
    rw [hn] at hf
    omega
  exact ⟨_, by unfold laysB; rw [if_pos ⟨i1, i2⟩]⟩
end Go.Proofs.YtfkmjbpnjgnkbaaGreat.H

/-
  A cell is taken out, as plain data: step by step, as the program and the document do it. No program in sight.
-/
namespace Go.Proofs.YtfkmjbpnjgnkbaaGreat.G
set_option linter.unusedSimpArgs false
open Go Go.RowKit Go.Proofs.YtfkmjbpnjgnkbaaGreat.B Go.Proofs.YtfkmjbpnjgnkbaaGreat.C
set_option linter.unusedVariables false
/-- Bytes are moved, the first j slots are looked at. -/
structure Taking (p : List UInt8) (i j : Nat) (r : List UInt8) : Prop where
  len : r.length = 512
  head : ∀ t, t < 10 → g r t = g p t
  done : ∀ k, k < j → k ≠ i → sP r k = shP p i k ∧ sL r k = sL p k
  left : ∀ k, j ≤ k → k < nS p → sP r k = sP p k ∧ sL r k = sL p k
  rest : ∀ t, 10 + 4 * nS p ≤ t → t < 512 → g r t = mv p i t
/-- Does slot j's cell lie ahead of the one that is taken? -/
def ahead (p : List UInt8) (i j : Nat) : Prop := j ≠ i ∧ sP p j ≠ 0 ∧ sP p j < sP p i
theorem Taking.skip {p r : List UInt8} {i j : Nat} (h : Taking p i j r) (hj : j < nS p) (hc : ¬ ahead p i j) : Taking p i (j + 1) r := by
  refine ⟨h.len, h.head, fun k hk hki => ?_, fun k hk hkn => h.left k (by omega) hkn, h.rest⟩
  by_cases hkj : k = j
  · subst hkj
    obtain ⟨h1, h2⟩ := h.left k (Nat.le_refl _) hj
    refine ⟨?_, h2⟩
    rw [h1]
    unfold shP
    rw [if_neg hki, if_neg]
    exact fun hx => hc ⟨hki, hx.1, hx.2⟩
  · exact h.done k (by omega) hki
/-- Any page that has another place in one slot. -/
theorem Taking.move {p r r' : List UInt8} {i j : Nat} (h : Taking p i j r) (hj : j < nS p) (hn : 10 + 4 * nS p ≤ 512) (hc : ahead p i j) (hl : r'.length = 512) (hP : sP r' j = sP p j + sL p i) (hL : sL r' j = sL p j)
    (hf : ∀ t, t < 10 + 4 * j ∨ 14 + 4 * j ≤ t → g r' t = g r t) : Taking p i (j + 1) r' := by
  have hs : ∀ k, k ≠ j → sP r' k = sP r k ∧ sL r' k = sL r k := fun k hk => by
    unfold sP sL
    exact ⟨two_congr (hf _ (by omega)) (hf _ (by omega)), two_congr (hf _ (by omega)) (hf _ (by omega))⟩
  refine ⟨hl, fun t ht => by rw [hf t (by omega)]; exact h.head t ht, fun k hk hki => ?_, fun k hk hkn => by rw [(hs k (by omega)).1, (hs k (by omega)).2]; exact h.left k (by omega) hkn, fun t h1 h2 => by rw [hf t (by omega)]; exact h.rest t h1 h2⟩
  by_cases hkj : k = j
  · subst hkj
    refine ⟨?_, hL⟩
    rw [hP]
    unfold shP
    rw [if_neg hki, if_pos ⟨hc.2.1, hc.2.2⟩]
  · rw [(hs k hkj).1, (hs k hkj).2]; exact h.done k (by omega) hki
theorem Taking.took {p r q : List UInt8} {i : Nat} (h : Taking p i (nS p) r) (hi : i < nS p) (hl : q.length = 512) (h8 : two q 8 = bg p + sL p i) (hP : sP q i = 0) (hL : sL q i = 0)
    (hf : ∀ t, t ≠ 8 → t ≠ 9 → t < 10 + 4 * i ∨ 14 + 4 * i ≤ t → g q t = g r t) : Took p i q := by
  refine ⟨hl, fun t ht => by rw [hf t (by omega) (by omega) (by omega)]; exact h.head t (by omega), h8, fun k hk => ?_, fun t h1 h2 => by rw [hf t (by omega) (by omega) (by omega)]; exact h.rest t h1 h2⟩
  unfold shL
  by_cases hki : k = i
  · subst hki
    unfold shP
    rw [if_pos rfl, if_pos rfl]; exact ⟨hP, hL⟩
  · have := h.done k hk hki
    rw [if_neg hki, ← this.1, ← this.2]
    unfold sP sL
    exact ⟨two_congr (hf _ (by omega) (by omega) (by omega)) (hf _ (by omega) (by omega) (by omega)), two_congr (hf _ (by omega) (by omega) (by omega)) (hf _ (by omega) (by omega) (by omega))⟩
/-! ### the program's steps -/
def movedP (p : List UInt8) (i : Nat) : List UInt8 := over (over p (bg p + sL p i) (cutP p (bg p) (sP p i - bg p))) (bg p) (List.replicate (sL p i) 0)
theorem g_cut (p : List UInt8) (a n t : Nat) : g (cutP p a n) t = if t < n then g p (a + t) else 0 := by
  unfold cutP
  rw [g_take, g_drop]
theorem cut_len {p : List UInt8} {a n : Nat} (h : a + n ≤ p.length) : (cutP p a n).length = n := by
  unfold cutP
  rw [List.length_take, List.length_drop]; omega
theorem g_zeros (n t : Nat) : g (List.replicate n 0) t = 0 := by
  unfold g
  rw [List.getD_eq_getElem?_getD, List.getElem?_replicate]
  split <;> rfl
theorem moved_start {p : List UInt8} {i : Nat} (hl : p.length = 512) (hf : 10 + 4 * nS p ≤ bg p) (h1 : bg p ≤ sP p i) (h2 : sP p i + sL p i ≤ 512) : Taking p i 0 (movedP p i) := by
  have e1 : (cutP p (bg p) (sP p i - bg p)).length = sP p i - bg p := cut_len (by omega)
  have l1 : (over p (bg p + sL p i) (cutP p (bg p) (sP p i - bg p))).length = 512 := by rw [over_len (by omega)]; exact hl
  have G : ∀ t, g (movedP p i) t = if bg p ≤ t ∧ t < bg p + sL p i then 0 else if bg p + sL p i ≤ t ∧ t < sP p i + sL p i then g p (t - sL p i) else g p t := fun t => by
    unfold movedP
    rw [g_over (by rw [List.length_replicate]; omega), List.length_replicate, g_zeros]
    split
    · rfl
    · rw [g_over (by omega), e1]
      by_cases h : bg p + sL p i ≤ t ∧ t < sP p i + sL p i
      · rw [if_pos (by omega), if_pos h, g_cut, if_pos (by omega)]
        congr 1; omega
      · rw [if_neg (by omega), if_neg h]
  have hs : ∀ k, k < nS p → sP (movedP p i) k = sP p k ∧ sL (movedP p i) k = sL p k := fun k hk => by
    unfold sP sL
    refine ⟨two_congr ?_ ?_, two_congr ?_ ?_⟩
    all_goals (rw [G, if_neg (by omega), if_neg (by omega)])
  refine ⟨?_, fun t ht => by rw [G, if_neg (by omega), if_neg (by omega)], fun k hk => by omega, fun k _ hk => hs k hk, fun t ht1 ht2 => ?_⟩
  · unfold movedP
    rw [over_len (by rw [List.length_replicate]; omega), l1]
  · rw [G]
    unfold mv
    by_cases ha : t < bg p
    · rw [if_neg (by omega), if_neg (by omega), if_pos ha]
    · rw [if_neg ha]
      by_cases hb : t < bg p + sL p i
      · rw [if_pos (by omega), if_pos hb]
      · rw [if_neg (by omega), if_neg hb]
        by_cases hc : t < sP p i + sL p i
        · rw [if_pos (by omega), if_pos hc]
        · rw [if_neg (by omega), if_neg hc]
section
variable {r : List UInt8} {j a b : Nat} (hl : r.length = 512) (hj : 14 + 4 * j ≤ 512) (ha : a < 65536) (hb : b < 65536)
include hl hj
theorem setQ_len : (put (put r (10 + 4 * j) a) (12 + 4 * j) b).length = 512 := by
  rw [put_len _ (by rw [put_len _ (by omega)]; omega), put_len _ (by omega)]; exact hl
theorem setQ_long (hb2 : b < 65536) : sL (put (put r (10 + 4 * j) a) (12 + 4 * j) b) j = b := by
  unfold sL
  rw [two_put (by rw [put_len _ (by omega)]; omega) hb2]
include ha hb
theorem setQ_place : sP (put (put r (10 + 4 * j) a) (12 + 4 * j) b) j = a := by
  unfold sP
  rw [two_put_ne (by rw [put_len _ (by omega)]; omega) hb (by omega), two_put (by omega) ha]
theorem setQ_far (t : Nat) (ht : t < 10 + 4 * j ∨ 14 + 4 * j ≤ t) : g (put (put r (10 + 4 * j) a) (12 + 4 * j) b) t = g r t := by
  rw [g_put (by rw [put_len _ (by omega)]; omega) hb, if_neg (by omega), if_neg (by omega), g_put (by omega) ha, if_neg (by omega), if_neg (by omega)]
end
theorem Taking.set {p r : List UInt8} {i j : Nat} (h : Taking p i j r) (hj : j < nS p) (hn : 10 + 4 * nS p ≤ 512) (hc : ahead p i j) (hi : sP p i + sL p i ≤ 512) : Taking p i (j + 1) (put (put r (10 + 4 * j) (sP p j + sL p i)) (12 + 4 * j) (sL p j)) := by
  have hx : sP p j < sP p i := hc.2.2
  have hb := two_lt p (12 + 4 * j)
  have hb : sL p j < 65536 := hb
  exact h.move hj hn hc (setQ_len h.len (by omega)) (setQ_place h.len (by omega) (by omega) hb) (setQ_long h.len (by omega) hb) (setQ_far h.len (by omega) (by omega) hb)
/-- What the program does at the end. -/
theorem Taking.fin {p r : List UInt8} {i : Nat} (h : Taking p i (nS p) r) (hi : i < nS p) (hn : 10 + 4 * nS p ≤ 512) (h5 : bg p + sL p i ≤ 512) : Took p i (put (put (put r (10 + 4 * i) 0) (12 + 4 * i) 0) 8 (bg p + sL p i)) := by
  have hl := setQ_len (a := 0) (b := 0) h.len (j := i) (by omega)
  refine h.took hi (by rw [put_len _ (by omega)]; exact hl) (two_put (by omega) (by omega)) ?_ ?_ ?_
  · have := setQ_place (a := 0) (b := 0) h.len (j := i) (by omega) (by omega) (by omega)
    exact (two_put_ne (by omega) (by omega) (by omega)).trans this
  · have := setQ_long (a := 0) (b := 0) h.len (j := i) (by omega) (by omega)
    exact (two_put_ne (by omega) (by omega) (by omega)).trans this
  · intro t h8 h9 ht
    rw [g_put (by omega) (by omega), if_neg h8, if_neg (by omega)]
    exact setQ_far h.len (by omega) (by omega) (by omega) t ht
/-- What the document does at the end. -/
theorem Taking.fin' {p r : List UInt8} {i : Nat} (h : Taking p i (nS p) r) (hi : i < nS p) (hn : 10 + 4 * nS p ≤ 512) (h5 : bg p + sL p i ≤ 512) : Took p i (put (put (put r 8 (bg p + sL p i)) (10 + 4 * i) 0) (12 + 4 * i) 0) := by
  have hl : (put r 8 (bg p + sL p i)).length = 512 := by rw [put_len _ (by rw [h.len]; omega)]; exact h.len
  have hrl := h.len
  refine h.took hi (setQ_len hl (by omega)) ?_ (setQ_place hl (by omega) (by omega) (by omega)) (setQ_long hl (by omega) (by omega)) ?_
  · have := setQ_far (a := 0) (b := 0) hl (j := i) (by omega) (by omega) (by omega)
    rw [two_congr (this 8 (by omega)) (this 9 (by omega)), two_put (by omega) (by omega)]
  · intro t h8 h9 ht
    rw [setQ_far hl (by omega) (by omega) (by omega) t ht, g_put (by omega) (by omega), if_neg h8, if_neg (by omega)]
end Go.Proofs.YtfkmjbpnjgnkbaaGreat.G

/-
  How full the pages of a heap are, and how many there may be: plain data. No program in sight.
-/
namespace Go.Proofs.YtfkmjbpnjgnkbaaGreat.H
set_option linter.unusedSimpArgs false
open Go Go.RowKit Go.Proofs.YtfkmjbpnjgnkbaaGreat.B Go.Proofs.YtfkmjbpnjgnkbaaGreat.C Go.Proofs.YtfkmjbpnjgnkbaaGreat.G
set_option linter.unusedVariables false
/-! ### what lies in a page -/
/-- The lengths of the first n slots' cells. -/
def sumL (p : List UInt8) : Nat → Nat
  | 0 => 0
  | n + 1 => sumL p n + sL p n
theorem sumC_append : ∀ (l k : List (Nat × Nat)), sumC (l ++ k) = sumC l + sumC k
  | [], k => by simp [sumC]
  | c :: l, k => by simp only [List.cons_append, sumC, sumC_append l k]; omega
theorem sumC_perm {l k : List (Nat × Nat)} (h : l.Perm k) : sumC l = sumC k := by
  induction h with
  | nil => rfl
  | cons x _ ih => simp only [sumC, ih]
  | swap x y l => simp only [sumC]; omega
  | trans _ _ h1 h2 => exact h1.trans h2
theorem sumC_used {p : List UInt8} (h : Core p) : ∀ n, n ≤ nS p → sumC (((List.range n).map fun i => (sP p i, sL p i)).filter used) = sumL p n
  | 0, _ => rfl
  | n + 1, hn => by
    have hg := h.goodAt (i := n) (by omega)
    rw [List.range_succ, List.map_append, List.filter_append, sumC_append, sumC_used h n (by omega)]
    show _ + _ = sumL p n + sL p n
    congr 1
    by_cases h0 : sP p n = 0
    · simp [used, h0, sumC, hg.1 h0]
    · have hu : used (sP p n, sL p n) = true := by simp [used, h0]
      show sumC (List.filter used [(sP p n, sL p n)]) = sL p n
      rw [List.filter_cons_of_pos hu]; simp [sumC]
theorem core_sum {p : List UInt8} (h : Core p) : bg p + sumL p (nS p) = 512 := by
  obtain ⟨l, hp, hc⟩ := h.row
  have h1 := chain_sum hc
  rw [sumC_perm hp] at h1
  have h2 := sumC_used h (nS p) (Nat.le_refl _)
  unfold cells at h1
  rw [h2] at h1
  exact h1
theorem sum_pairs {root next : Nat} {p : List UInt8} (h : HPage root next p) : ∀ j, (∀ k, k < 1 + 2 * j → ct p k ≠ none) → 8 + 25 * j ≤ sumL p (1 + 2 * j)
  | 0, hu => by
    have := (ct_long h.pg.body.core h.head).2.2.1
    rw [head_len] at this
    simp [sumL, this]
  | j + 1, hu => by
    have ih := sum_pairs h j (fun k hk => hu k (by omega))
    rcases h.pairs (1 + 2 * j) (by omega) with ⟨s, r, h1, h2, h3, h4, h5⟩ | ⟨h1, _⟩
    · have e1 := (ct_long h.pg.body.core h1).2.2.1
      have e2 := (ct_long h.pg.body.core h2).2.2.1
      show _ ≤ sumL p (1 + 2 * j) + sL p (1 + 2 * j) + sL p (1 + 2 * j + 1)
      omega
    · exact absurd h1 (hu _ (by omega))
theorem bg_size {p : List UInt8} (h : Core p) : bg p ≤ 512 := h.fin
/-- All slots are used: there are not many. -/
theorem full_slots {root next : Nat} {p : List UInt8} (h : HPage root next p) (hf : freeS p = nS p) : ∃ j, nS p = 1 + 2 * j ∧ 33 * j ≤ 490 := by
  have ho := h.odd.1
  have hc := h.pg.body.core
  have hs := core_sum hc
  have hfit := hc.fit
  refine ⟨nS p / 2, by omega, ?_⟩
  have h1 := sum_pairs h (nS p / 2) (fun k hk => ct_free (by omega))
  rw [show 1 + 2 * (nS p / 2) = nS p by omega] at h1
  omega
/-! ### a version is laid, or not -/
theorem lays_fill {root next xmin : Nat} {p row q : List UInt8} (h : HPage root next p) (hn : nS p ≤ 29) (h1 : 1 ≤ row.length) (h2 : row.length ≤ 370) (hq : laysB p row xmin = some q) (hx : xmin < W64) : bg q + 24 + row.length = bg p ∧ nS q ≤ 29 := by
  have hL := lays_page h hx h1 h2 hq
  unfold laysB at hq
  split at hq
  case isFalse => cases hq
  rename_i hc
  obtain ⟨hc1, hc2⟩ := hc
  have hq := (Option.some.inj hq).symm
  have I1 := ins_ok hc1
  have I2 := ins_ok hc2
  have n1 := (insE_ok hc1).2.2.2.1
  have n2 := (insE_ok hc2).2.2.2.1
  have hodd := h.odd
  have hfl := freeS_le p
  have hs : (stampC xmin 0 0).length = 24 := stamp_len _ _ _
  generalize stampC xmin 0 0 = s at *
  generalize hm : insP p s = m at *
  rw [← hq] at I2
  have hfm : freeS m = freeS p + 1 := freeS_eq (fun k hk => by
    by_cases e : k = freeS p
    · rw [e, I1.mine]; simp
    · rw [I1.rest k e]; exact ct_free (by omega)) (by rw [I1.rest _ (by omega)]; exact hodd.2.2)
  have b1 := I1.beg
  have b2 := I2.beg
  have c1 := I1.count
  have c2 := I2.count
  rw [hfm] at c2
  have f1 : s.length ≤ bg p := by unfold need freeB at n1; split at n1 <;> omega
  have f2 : row.length ≤ bg m := by unfold need freeB at n2; split at n2 <;> omega
  refine ⟨by omega, ?_⟩
  by_cases hlt : freeS p < nS p
  · have hodd2 : freeS p + 1 < nS p := by
      have hl := h.pg.body.last (by omega)
      have hne : ct p (nS p - 1) ≠ none := ct_used.2 ⟨by omega, hl⟩
      rcases Nat.lt_or_ge (freeS p + 1) (nS p) with h3 | h3
      · exact h3
      · exfalso
        have : nS p - 1 = freeS p := by omega
        rw [this] at hne
        exact hne hodd.2.1
    omega
  · have hq2 := full_slots hL.page (freeS_eq (p := q) (j := nS q) (fun k hk => by
      rw [c2, c1] at hk
      by_cases e : k = freeS p + 1
      · rw [e, ← hfm, I2.mine]; simp
      · rw [I2.rest k (by rw [hfm]; exact e)]
        by_cases e2 : k = freeS p
        · rw [e2, I1.mine]; simp
        · rw [I1.rest k e2]; exact ct_free (by omega)) (ct_none.2 (by omega)))
    obtain ⟨j, hj1, hj2⟩ := hq2
    omega
/-- No room: the page is full, or nearly so. -/
theorem lays_room {root next xmin : Nat} {p row : List UInt8} (h : HPage root next p) (hn : nS p ≤ 29) (h1 : 1 ≤ row.length) (h2 : row.length ≤ 370) (hq : laysB p row xmin = none) : 347 + bg p ≤ 504 + row.length := by
  have hc := h.pg.body.core
  have hfit := hc.fit
  have hodd := h.odd
  have hfl := freeS_le p
  have hs : (stampC xmin 0 0).length = 24 := stamp_len _ _ _
  have hok : ok p ≠ false := by rw [ok_iff.2 h.pg]; simp
  rcases lays_no hq with hi | ⟨hi, hj⟩
  · unfold insE at hi
    rw [if_neg (by simpa using hok), if_neg (by omega)] at hi
    have hc2 : freeB p < need p (stampC xmin 0 0) ∨ freeS p = 125 := by
      by_cases hc2 : freeB p < need p (stampC xmin 0 0) ∨ freeS p = 125
      · exact hc2
      · rw [if_neg hc2] at hi; exact absurd rfl hi
    rcases hc2 with hc2 | hc2
    · unfold need freeB at hc2
      rw [hs] at hc2
      split at hc2
      · omega
      · have := full_slots h (by omega)
        omega
    · omega
  · have I1 := ins_ok hi
    have n1 := (insE_ok hi).2.2.2.1
    generalize stampC xmin 0 0 = s at *
    generalize hm : insP p s = m at *
    have hfm : freeS m = freeS p + 1 := freeS_eq (fun k hk => by
      by_cases e : k = freeS p
      · rw [e, I1.mine]; simp
      · rw [I1.rest k e]; exact ct_free (by omega)) (by rw [I1.rest _ (by omega)]; exact hodd.2.2)
    have b1 := I1.beg
    have c1 := I1.count
    have hokm : ok m ≠ false := by rw [ok_iff.2 I1.pg]; simp
    unfold insE at hj
    rw [if_neg (by simpa using hokm), if_neg (by omega)] at hj
    have hc2 : freeB m < need m row ∨ freeS m = 125 := by
      by_cases hc2 : freeB m < need m row ∨ freeS m = 125
      · exact hc2
      · rw [if_neg hc2] at hj; exact absurd rfl hj
    have f1 : s.length ≤ bg p := by unfold need freeB at n1; split at n1 <;> omega
    by_cases hlt : freeS p < nS p
    · have hodd2 : freeS p + 1 < nS p := by
        have hl := h.pg.body.last (by omega)
        have hne : ct p (nS p - 1) ≠ none := ct_used.2 ⟨by omega, hl⟩
        rcases Nat.lt_or_ge (freeS p + 1) (nS p) with h3 | h3
        · exact h3
        · exfalso
          have : nS p - 1 = freeS p := by omega
          rw [this] at hne
          exact hne hodd.2.1
      rcases hc2 with hc2 | hc2
      · unfold need freeB at hc2
        rw [hfm, if_pos (by omega)] at hc2
        omega
      · omega
    · have := full_slots h (by omega)
      rcases hc2 with hc2 | hc2
      · unfold need freeB at hc2
        split at hc2 <;> omega
      · omega
end Go.Proofs.YtfkmjbpnjgnkbaaGreat.H
