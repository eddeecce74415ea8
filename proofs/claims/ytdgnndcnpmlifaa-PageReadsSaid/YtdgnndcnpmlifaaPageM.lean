/-
  The program's pages as plain data: bytes, numbers in them, cells in slots. No program in sight.
-/
import Derived.Test.YtdgnndcnpmlifaaCrc
import Derived.Test.YtdgnndcnpmlifaaPlain
namespace Go.Proofs.Ytdgnndcnpmlifaa.G
set_option linter.unusedSimpArgs false
open Go Go.RowKit Go.Proofs.Ytdgnndcnpmlifaa.B Go.Proofs.Ytdgnndcnpmlifaa.C
set_option linter.unusedVariables false
/-! ### bytes -/
def g (p : List UInt8) (i : Nat) : Nat := (p.getD i 0).toNat
theorem g_lt (p : List UInt8) (i : Nat) : g p i < 256 := (p.getD i 0).toNat_lt
theorem g_out {p : List UInt8} {i : Nat} (h : p.length ≤ i) : g p i = 0 := by
  unfold g; rw [List.getD_eq_getElem?_getD, List.getElem?_eq_none h]; rfl
theorem g_get {p : List UInt8} {i : Nat} (h : i < p.length) : g p i = p[i].toNat := by
  unfold g; rw [List.getD_eq_getElem?_getD, List.getElem?_eq_getElem h]; rfl
theorem ext_g {p q : List UInt8} (hl : p.length = q.length) (h : ∀ i, i < p.length → g p i = g q i) : p = q := by
  apply List.ext_getElem hl
  intro i h1 h2
  have := h i h1
  rw [g_get h1, g_get h2] at this
  exact UInt8.toNat_inj.1 this
theorem g_append (p q : List UInt8) (i : Nat) : g (p ++ q) i = if i < p.length then g p i else g q (i - p.length) := by
  unfold g
  rw [List.getD_eq_getElem?_getD, List.getElem?_append]
  split
  · rw [List.getD_eq_getElem?_getD]
  · rw [List.getD_eq_getElem?_getD]
theorem g_take (p : List UInt8) (n i : Nat) : g (p.take n) i = if i < n then g p i else 0 := by
  unfold g
  rw [List.getD_eq_getElem?_getD, List.getElem?_take]
  split
  · rw [List.getD_eq_getElem?_getD]
  · rfl
theorem g_drop (p : List UInt8) (n i : Nat) : g (p.drop n) i = g p (n + i) := by
  unfold g
  rw [List.getD_eq_getElem?_getD, List.getElem?_drop, List.getD_eq_getElem?_getD]
/-- Bytes written over others. -/
def over (p : List UInt8) (at_ : Nat) (b : List UInt8) : List UInt8 := p.take at_ ++ b ++ p.drop (at_ + b.length)
theorem over_len {p b : List UInt8} {at_ : Nat} (h : at_ + b.length ≤ p.length) : (over p at_ b).length = p.length := by
  unfold over; simp; omega
theorem g_over {p b : List UInt8} {at_ : Nat} (h : at_ + b.length ≤ p.length) (i : Nat) : g (over p at_ b) i = if at_ ≤ i ∧ i < at_ + b.length then g b (i - at_) else g p i := by
  unfold over
  rw [List.append_assoc, g_append, g_append, g_take, g_drop]
  have e : (p.take at_).length = at_ := by rw [List.length_take]; omega
  rw [e]
  by_cases h1 : i < at_
  · rw [if_pos h1, if_pos h1, if_neg (by omega)]
  · rw [if_neg h1]
    by_cases h2 : i - at_ < b.length
    · rw [if_pos h2, if_pos (by omega)]
    · rw [if_neg h2, if_neg (by omega)]
      congr 1; omega
/-! ### numbers of two bytes -/
def two (p : List UInt8) (at_ : Nat) : Nat := g p at_ + 256 * g p (at_ + 1)
theorem two_lt (p : List UInt8) (at_ : Nat) : two p at_ < 65536 := by
  have h1 := g_lt p at_
  have h2 := g_lt p (at_ + 1)
  unfold two; omega
theorem two_congr {p q : List UInt8} {at_ : Nat} (h1 : g p at_ = g q at_) (h2 : g p (at_ + 1) = g q (at_ + 1)) : two p at_ = two q at_ := by unfold two; rw [h1, h2]
theorem two_zero {p : List UInt8} {at_ : Nat} (h : two p at_ = 0) : g p at_ = 0 ∧ g p (at_ + 1) = 0 := by unfold two at h; omega
def put (p : List UInt8) (at_ n : Nat) : List UInt8 := over p at_ (le n 2)
theorem le_two (n : Nat) : g (le n 2) 0 = n % 256 ∧ g (le n 2) 1 = n / 256 % 256 := by
  have h0 := le_cell n 0
  have h1 := le_cell n 1
  have e : le n 2 = [UInt8.ofNat (n / 2 ^ (8 * 0) % 256), UInt8.ofNat (n / 2 ^ (8 * 1) % 256)] := rfl
  rw [e]
  constructor
  · show (UInt8.ofNat (n / 2 ^ (8 * 0) % 256)).toNat = _
    simp
  · show (UInt8.ofNat (n / 2 ^ (8 * 1) % 256)).toNat = _
    simp
theorem put_len {p : List UInt8} {at_ : Nat} (n : Nat) (h : at_ + 2 ≤ p.length) : (put p at_ n).length = p.length := over_len (by rw [le_len]; exact h)
theorem g_put {p : List UInt8} {at_ n : Nat} (h : at_ + 2 ≤ p.length) (hn : n < 65536) (i : Nat) : g (put p at_ n) i = if i = at_ then n % 256 else if i = at_ + 1 then n / 256 else g p i := by
  unfold put
  rw [g_over (by rw [le_len]; exact h), le_len]
  by_cases h1 : i = at_
  · subst h1
    rw [if_pos (by omega), if_pos rfl, Nat.sub_self]
    exact (le_two n).1
  · rw [if_neg h1]
    by_cases h2 : i = at_ + 1
    · subst h2
      rw [if_pos (by omega), if_pos rfl, show at_ + 1 - at_ = 1 by omega, (le_two n).2]
      omega
    · rw [if_neg (by omega), if_neg h2]
theorem two_put {p : List UInt8} {at_ n : Nat} (h : at_ + 2 ≤ p.length) (hn : n < 65536) : two (put p at_ n) at_ = n := by
  unfold two
  rw [g_put h hn, g_put h hn, if_pos rfl, if_neg (by omega), if_pos rfl]
  omega
theorem two_put_ne {p : List UInt8} {at_ n b : Nat} (h : at_ + 2 ≤ p.length) (hn : n < 65536) (hb : b + 2 ≤ at_ ∨ at_ + 2 ≤ b) : two (put p at_ n) b = two p b := by
  unfold two
  rw [g_put h hn, g_put h hn, if_neg (by omega), if_neg (by omega), if_neg (by omega), if_neg (by omega)]
/-! ### the sum -/
def sealedP (p : List UInt8) : List UInt8 := le (sum (p.drop 4)) 4 ++ p.drop 4
theorem sealed_len {p : List UInt8} (h : 4 ≤ p.length) : (sealedP p).length = p.length := by
  unfold sealedP; rw [List.length_append, le_len, List.length_drop]; omega
theorem g_sealed {p : List UInt8} {i : Nat} (h : 4 ≤ i) : g (sealedP p) i = g p i := by
  unfold sealedP
  rw [g_append, le_len, if_neg (by omega), g_drop]; congr 1; omega
theorem sealed_drop (p : List UInt8) : (sealedP p).drop 4 = p.drop 4 := by
  unfold sealedP
  rw [List.drop_append_of_le_length (by rw [le_len]; exact Nat.le_refl _), List.drop_of_length_le (by rw [le_len]; exact Nat.le_refl _), List.nil_append]
theorem sealed_again (p : List UInt8) : sealedP (sealedP p) = sealedP p := by
  show le (sum ((sealedP p).drop 4)) 4 ++ (sealedP p).drop 4 = _
  rw [sealed_drop]; rfl
theorem sealed_congr {p q : List UInt8} (hl : p.length = q.length) (h : ∀ i, 4 ≤ i → g p i = g q i) : sealedP p = sealedP q := by
  have : p.drop 4 = q.drop 4 := ext_g (by rw [List.length_drop, List.length_drop, hl]) (fun i _ => by rw [g_drop, g_drop]; exact h _ (by omega))
  unfold sealedP; rw [this]
/-! ### slots -/
def nS (p : List UInt8) : Nat := two p 6
def bg (p : List UInt8) : Nat := two p 8
def sP (p : List UInt8) (i : Nat) : Nat := two p (10 + 4 * i)
def sL (p : List UInt8) (i : Nat) : Nat := two p (12 + 4 * i)
def cells (p : List UInt8) : List (Nat × Nat) := (List.range (nS p)).map fun i => (sP p i, sL p i)
theorem cells_len (p : List UInt8) : (cells p).length = nS p := by simp [cells]
theorem cells_get {p : List UInt8} {i : Nat} (h : i < (cells p).length) : (cells p)[i] = (sP p i, sL p i) := by simp [cells]
def used (c : Nat × Nat) : Bool := c.1 != 0
def goodC (c : Nat × Nat) : Prop := (c.1 = 0 → c.2 = 0) ∧ (c.1 ≠ 0 → 1 ≤ c.2) ∧ c.2 ≤ 400
/-- Cells one right behind the other, from e on to 512. -/
def chain : Nat → List (Nat × Nat) → Prop
  | e, [] => e = 512
  | e, c :: r => c.1 = e ∧ chain (e + c.2) r
def sumC : List (Nat × Nat) → Nat
  | [] => 0
  | c :: r => c.2 + sumC r
theorem chain_sum : ∀ {l : List (Nat × Nat)} {e : Nat}, chain e l → e + sumC l = 512
  | [], e, h => h
  | c :: r, e, h => by have := chain_sum h.2; simp only [sumC]; omega
theorem chain_append : ∀ {l k : List (Nat × Nat)} {e : Nat}, chain e (l ++ k) ↔ chain (e + sumC l) k ∧ (∀ e2, chain (e + sumC l) e2 → chain e (l ++ e2))
  | [], k, e => by simp [sumC]
  | c :: r, k, e => by
    simp only [List.cons_append, chain, sumC, ← Nat.add_assoc]
    constructor
    · rintro ⟨h1, h2⟩
      have := chain_append.1 h2
      exact ⟨this.1, fun e2 he => ⟨h1, this.2 e2 he⟩⟩
    · rintro ⟨h1, h2⟩
      exact h2 k h1
/-- A page's body: all but its sum. -/
structure Body (p : List UInt8) : Prop where
  len : p.length = 512
  zero : g p 5 = 0
  most : nS p ≤ 125
  fit : 10 + 4 * nS p ≤ bg p
  fin : bg p ≤ 512
  good : ∀ c ∈ cells p, goodC c
  row : ∃ l, l.Perm ((cells p).filter used) ∧ chain (bg p) l
  last : 0 < nS p → sP p (nS p - 1) ≠ 0
  gap : ∀ i, 10 + 4 * nS p ≤ i → i < bg p → g p i = 0
/-- A page. -/
structure Pg (p : List UInt8) : Prop where
  body : Body p
  sums : sealedP p = p
theorem cells_congr {p q : List UInt8} (h : ∀ i, 4 ≤ i → g p i = g q i) : cells p = cells q := by
  have e : nS p = nS q := two_congr (h _ (by omega)) (h _ (by omega))
  unfold cells
  rw [e]
  apply List.map_congr_left
  intro i _
  unfold sP sL
  rw [two_congr (h _ (by omega)) (h _ (by omega)), two_congr (h _ (by omega)) (h _ (by omega))]
theorem Body.congr {p q : List UInt8} (hb : Body p) (hl : q.length = 512) (h : ∀ i, 4 ≤ i → g p i = g q i) : Body q := by
  have e : nS p = nS q := two_congr (h _ (by omega)) (h _ (by omega))
  have e2 : bg p = bg q := two_congr (h _ (by omega)) (h _ (by omega))
  have e3 : ∀ i, sP p i = sP q i := fun i => two_congr (h _ (by omega)) (h _ (by omega))
  have ec := cells_congr h
  exact ⟨hl, by rw [← h 5 (by omega)]; exact hb.zero, by rw [← e]; exact hb.most, by rw [← e, ← e2]; exact hb.fit, by rw [← e2]; exact hb.fin, by rw [← ec]; exact hb.good, by rw [← ec, ← e2]; exact hb.row, by rw [← e, ← e3]; exact hb.last, fun i h1 h2 => by rw [← h i (by omega)]; exact hb.gap i (by omega) (by omega)⟩
theorem Body.sealed {p : List UInt8} (hb : Body p) : Pg (sealedP p) :=
  ⟨hb.congr (by rw [sealed_len (by rw [hb.len]; omega), hb.len]) (fun i hi => (g_sealed hi).symm), sealed_again p⟩
open Classical in
/-- Is it a page? -/
noncomputable def ok (p : List UInt8) : Bool := decide (Pg p)
theorem ok_iff {p : List UInt8} : ok p = true ↔ Pg p := by unfold ok; simp
theorem ok_no {p : List UInt8} : ok p = false ↔ ¬ Pg p := by unfold ok; simp
end Go.Proofs.Ytdgnndcnpmlifaa.G
