/-
  A new page, a page of which one byte is changed, a cell that is laid and taken out again: plain data. No program in sight.
-/
import Derived.Test.YtdgnndcnpmlifaaPageO
namespace Go.Proofs.Ytdgnndcnpmlifaa.G
set_option linter.unusedSimpArgs false
open Go Go.RowKit Go.Proofs.Ytdgnndcnpmlifaa.B Go.Proofs.Ytdgnndcnpmlifaa.C
set_option linter.unusedVariables false
theorem unle_le (n : Nat) (h : n < 4294967296) : unle (le n 4) = n := by
  simp only [le, List.nil_append, List.cons_append, unle]
  simp only [UInt8.toNat_ofNat']
  omega
theorem le_unle {l : List UInt8} (h : l.length = 4) : le (unle l) 4 = l := by
  match l, h with
  | [a, b, c, d], _ =>
    have ha := a.toNat_lt
    have hb := b.toNat_lt
    have hc := c.toNat_lt
    have hd := d.toNat_lt
    have key : ∀ (x : UInt8) (n : Nat), n = x.toNat → UInt8.ofNat n = x := fun x n hx => by rw [hx]; exact UInt8.ofNat_toNat
    simp only [le, List.nil_append, List.cons_append, unle]
    rw [key a _ (by omega), key b _ (by omega), key c _ (by omega), key d _ (by omega)]
theorem sealed_iff {p : List UInt8} (h : 4 ≤ p.length) : sealedP p = p ↔ unle (p.take 4) = sum (p.drop 4) := by
  have hs := sum_lt (p.drop 4)
  constructor
  · intro he
    have h1 : (sealedP p).take 4 = p.take 4 := by rw [he]
    unfold sealedP at h1
    rw [List.take_append_of_le_length (by rw [le_len]; exact Nat.le_refl _), List.take_of_length_le (by rw [le_len]; exact Nat.le_refl _)] at h1
    rw [← h1, unle_le _ hs]
  · intro he
    unfold sealedP
    rw [← he, le_unle (by rw [List.length_take]; omega), List.take_append_drop]
/-- One byte is changed: the sum is wrong. -/
theorem turned_no {p : List UInt8} {i : Nat} {x : UInt8} (hl : p.length = 512) (h : sealedP p = p) (hi : i < 512) (hx : x ≠ p.getD i 0) : sealedP (p.set i x) ≠ p.set i x := by
  intro he
  rw [sealed_iff (by rw [hl]; omega)] at h
  rw [sealed_iff (by rw [List.length_set, hl]; omega)] at he
  have hip : i < p.length := by omega
  rw [List.getD_eq_getElem?_getD, List.getElem?_eq_getElem hip, Option.getD_some] at hx
  by_cases h4 : i < 4
  · rw [List.drop_set, if_pos h4, ← h, List.take_set] at he
    have h1 : le (unle ((p.take 4).set i x)) 4 = le (unle (p.take 4)) 4 := by rw [he]
    rw [le_unle (by simp; omega), le_unle (by simp; omega)] at h1
    have h2 : ((p.take 4).set i x)[i]? = (p.take 4)[i]? := by rw [h1]
    rw [List.getElem?_set_self (by simp; omega), List.getElem?_take, if_pos h4, List.getElem?_eq_getElem hip] at h2
    exact hx (Option.some.inj h2)
  · rw [List.take_set_of_le (by omega), h, List.drop_set, if_neg h4] at he
    have hd : i - 4 < (p.drop 4).length := by rw [List.length_drop]; omega
    have e1 : p.drop 4 = (p.drop 4).take (i - 4) ++ p[i] :: (p.drop 4).drop (i - 4 + 1) := by
      conv => lhs; rw [← List.take_append_drop (i - 4) (p.drop 4)]
      rw [List.drop_eq_getElem_cons hd]
      congr 2
      rw [List.getElem_drop]
      congr 1; omega
    have e2 : (p.drop 4).set (i - 4) x = (p.drop 4).take (i - 4) ++ x :: (p.drop 4).drop (i - 4 + 1) := List.set_eq_take_append_cons_drop ▸ (by rw [if_pos hd])
    have he2 : sum ((p.drop 4).take (i - 4) ++ p[i] :: (p.drop 4).drop (i - 4 + 1)) = sum ((p.drop 4).take (i - 4) ++ x :: (p.drop 4).drop (i - 4 + 1)) := by rw [← e1, he, e2]
    exact hx (sum_turned _ _ _ _ he2).symm
/-! ### new -/
/-- A new page, before it is sealed. -/
def new0 (kind : UInt8) : List UInt8 := put ((List.replicate 512 0).set 4 kind) 8 512
def newP (kind : UInt8) : List UInt8 := sealedP (new0 kind)
theorem g_new0 (kind : UInt8) (i : Nat) : g (new0 kind) i = if i = 4 then kind.toNat else if i = 9 then 2 else 0 := by
  have hr : ∀ i, g (List.replicate 512 0) i = 0 := fun i => by
    unfold g
    rw [List.getD_eq_getElem?_getD, List.getElem?_replicate]
    split <;> rfl
  have hz : ∃ z : List UInt8, List.replicate 512 0 = z ∧ z.length = 512 := ⟨_, rfl, List.length_replicate⟩
  unfold new0
  obtain ⟨z, e, hl⟩ := hz
  rw [e] at hr ⊢
  rw [g_put (by rw [List.length_set]; omega) (by omega)]
  have hs : g (z.set 4 kind) i = if i = 4 then kind.toNat else 0 := by
    by_cases h : i = 4
    · subst h
      unfold g
      rw [List.getD_eq_getElem?_getD, List.getElem?_set_self (by omega), if_pos rfl]; rfl
    · rw [if_neg h, ← hr i]
      unfold g
      rw [List.getD_eq_getElem?_getD, List.getElem?_set_ne (fun e => h e.symm), List.getD_eq_getElem?_getD]
  rw [hs]
  by_cases h4 : i = 4
  · subst h4; simp
  · rw [if_neg h4, if_neg h4]
    by_cases h8 : i = 8
    · subst h8; simp
    · rw [if_neg h8]
theorem new0_len (kind : UInt8) : (new0 kind).length = 512 := by
  unfold new0
  rw [put_len _ (by rw [List.length_set, List.length_replicate]; omega), List.length_set, List.length_replicate]
theorem new0_core (kind : UInt8) : Core (new0 kind) ∧ nS (new0 kind) = 0 ∧ bg (new0 kind) = 512 := by
  have G := g_new0 kind
  have N : nS (new0 kind) = 0 := by unfold nS two; rw [G, G]; simp
  have B : bg (new0 kind) = 512 := by unfold bg two; rw [G, G]; simp
  have C : cells (new0 kind) = [] := by unfold cells; rw [N]; rfl
  refine ⟨⟨new0_len kind, by rw [G]; simp, by rw [N]; omega, by rw [N, B]; omega, by rw [B]; exact Nat.le_refl _, by rw [C]; simp, ⟨[], by rw [C]; exact List.Perm.refl _, B⟩, ?_⟩, N, B⟩
  intro i h1 h2
  rw [N] at h1
  rw [G, if_neg (by omega), if_neg (by omega)]
structure Fresh (p : List UInt8) (kind : Nat) : Prop where
  pg : Pg p
  count : nS p = 0
  beg : bg p = 512
  kind : g p 4 = kind
theorem new_fresh (kind : UInt8) : Fresh (newP kind) kind.toNat := by
  obtain ⟨hc, hn, hb⟩ := new0_core kind
  have hg : ∀ i, 4 ≤ i → g (newP kind) i = g (new0 kind) i := fun i hi => g_sealed hi
  exact ⟨(hc.body (by rw [hn]; omega)).sealed, (two_congr (hg _ (by omega)) (hg _ (by omega))).trans hn, (two_congr (hg _ (by omega)) (hg _ (by omega))).trans hb, by rw [hg 4 (by omega), g_new0]; simp⟩
/-- There is but one page of a kind without slots. -/
theorem Fresh.same {p q : List UInt8} {kind : Nat} (h : Fresh p kind) (k : Fresh q kind) : p = q := by
  have hl1 := h.pg.body.len
  have hl2 := k.pg.body.len
  rw [← h.pg.sums, ← k.pg.sums]
  refine sealed_congr (by rw [hl1, hl2]) fun i hi => ?_
  by_cases h4 : i = 4
  · subst h4; rw [h.kind, k.kind]
  by_cases h5 : i = 5
  · subst h5; rw [h.pg.body.zero, k.pg.body.zero]
  have ha : nS p = nS q := by rw [h.count, k.count]
  have hb : bg p = bg q := by rw [h.beg, k.beg]
  have ha := two_inj ha
  have hb := two_inj hb
  by_cases h6 : i = 6
  · subst h6; exact ha.1
  by_cases h7 : i = 7
  · subst h7; exact ha.2
  by_cases h8 : i = 8
  · subst h8; exact hb.1
  by_cases h9 : i = 9
  · subst h9; exact hb.2
  by_cases hi2 : i < 512
  · rw [h.pg.body.gap i (by rw [h.count]; omega) (by rw [h.beg]; exact hi2), k.pg.body.gap i (by rw [k.count]; omega) (by rw [k.beg]; exact hi2)]
  · rw [g_out (by omega), g_out (by omega)]
theorem Fresh.free {p : List UInt8} {kind : Nat} (h : Fresh p kind) : freeS p = 0 ∧ freeB p = 502 := by
  have := freeS_le p
  rw [h.count] at this
  exact ⟨by omega, by unfold freeB; rw [h.count, h.beg]⟩
theorem ct_long {p b : List UInt8} {k : Nat} (h : Core p) (hc : ct p k = some b) : k < nS p ∧ sP p k ≠ 0 ∧ sL p k = b.length ∧ b = cutP p (sP p k) (sL p k) := by
  by_cases hk : k < nS p ∧ sP p k ≠ 0
  · obtain ⟨h1, h2⟩ := h.in_ hk.1 hk.2
    rw [ct_some hk.1 hk.2] at hc
    have hc := Option.some.inj hc
    refine ⟨hk.1, hk.2, ?_, hc.symm⟩
    rw [← hc]
    unfold cutP
    rw [List.length_take, List.length_drop, h.len]
    omega
  · rw [ct_none.2 hk] at hc; cases hc
/-- A cell is laid into a new page, and taken out again. -/
theorem fresh_ins {p b : List UInt8} {kind : Nat} (h : Fresh p kind) (h1 : 1 ≤ b.length) (h2 : b.length ≤ 400) : insE p b = 0 ∧ Ins p b (insP p b) ∧ nS (insP p b) = 1 ∧ sP (insP p b) 0 ≠ 0 ∧ freeB (insP p b) + 4 + b.length = 502 ∧ ∀ r, Del (insP p b) 0 r → r = p := by
  obtain ⟨f1, f2⟩ := h.free
  have hn : need p b = b.length + 4 := by unfold need; rw [f1, h.count, if_neg (by omega)]
  have he : insE p b = 0 := by
    unfold insE
    rw [if_neg (by rw [ok_iff.2 h.pg]; simp), if_neg (by omega), if_neg (by rw [hn, f1, f2]; omega)]
  have hI := ins_ok he
  have hc := hI.count
  rw [h.count, f1] at hc
  have hc : nS (insP p b) = 1 := hc
  have hm := hI.mine
  rw [f1] at hm
  obtain ⟨g1, g2, g3, g4⟩ := ct_long hI.pg.body.core hm
  have hb := hI.beg
  rw [h.beg] at hb
  refine ⟨he, hI, hc, g2, by unfold freeB; rw [hc, hb]; omega, fun r hr => ?_⟩
  have hC := hr.cut hI.pg g1 g2
  have hr0 : nS r = 0 := by
    have := hC.le
    rw [hc] at this
    rcases Nat.eq_zero_or_pos (nS r) with h0 | h0
    · exact h0
    · have h1 : nS r = 1 := by omega
      have := hC.last h0
      rw [h1] at this
      exact absurd hC.mine this
  refine Fresh.same (kind := kind) ⟨hC.pg, hr0, by rw [hC.beg, hb, g3]; omega, by rw [hC.kind, hI.kind, h.kind]⟩ h
end Go.Proofs.Ytdgnndcnpmlifaa.G
