/-
  Cells that stay in their slots: plain data. No program in sight.
-/
import Derived.Test.YtdgnndcnpmlifaaFillsM
namespace Go.Proofs.Ytdgnndcnpmlifaa.G
set_option linter.unusedSimpArgs false
open Go Go.RowKit Go.Proofs.Ytdgnndcnpmlifaa.B Go.Proofs.Ytdgnndcnpmlifaa.C
set_option linter.unusedVariables false
/-- A page holds just these cells. -/
structure Keep (p : List UInt8) (cs : List (List UInt8)) (th : List Bool) : Prop where
  pg : Pg p
  len : th.length = cs.length
  ct : ∀ k, ct p k = if k < cs.length ∧ th.getD k false = true then some (cs.getD k []) else none
  most : cs.length ≤ 125
section
variable {p : List UInt8} {cs : List (List UInt8)} {th : List Bool}
theorem keep_new {kind : Nat} (h : Fresh p kind) : Keep p [] [] := by
  refine ⟨h.pg, rfl, fun k => ?_, by simp⟩
  rw [if_neg (by simp)]
  exact ct_none.2 (by rw [h.count]; omega)
theorem Keep.yes (h : Keep p cs th) {k : Nat} (hk : k < cs.length) (ht : th.getD k false = true) : G.ct p k = some (cs.getD k []) := by rw [h.ct, if_pos ⟨hk, ht⟩]
theorem Keep.no (h : Keep p cs th) {k : Nat} (hk : ¬ (k < cs.length ∧ th.getD k false = true)) : G.ct p k = none := by rw [h.ct, if_neg hk]
theorem Keep.is (h : Keep p cs th) {k : Nat} (hk : k < cs.length) (ht : th.getD k false = true) : k < nS p ∧ sP p k ≠ 0 ∧ sL p k = (cs.getD k []).length ∧ cs.getD k [] = cutP p (sP p k) (sL p k) := ct_long h.pg.body.core (h.yes hk ht)
/-- A slot that holds a cell. -/
def inK (cs : List (List UInt8)) (th : List Bool) (i : Int) : Prop := 0 ≤ i ∧ i < cs.length ∧ th.getD i.toNat false = true
theorem Keep.getE (h : Keep p cs th) (i : Int) : G.getE p i = 0 ↔ inK cs th i := by
  constructor
  · intro he
    obtain ⟨_, k, rfl, hk, hk0⟩ := getE_ok he
    have hne : G.ct p k ≠ none := fun hx => ct_none.1 hx ⟨hk, hk0⟩
    by_cases hx : k < cs.length ∧ th.getD k false = true
    · exact ⟨by omega, by omega, by simpa using hx.2⟩
    · exact absurd (h.no hx) hne
  · rintro ⟨h1, h2, h3⟩
    obtain ⟨k, rfl⟩ : ∃ k : Nat, i = k := ⟨i.toNat, by omega⟩
    have hi := h.is (k := k) (by omega) (by simpa using h3)
    exact getE_of h.pg hi.1 hi.2.1
theorem Keep.getE_no (h : Keep p cs th) {i : Int} (hi : ¬ inK cs th i) : G.getE p i = 41 := by
  have h1 := mt (h.getE i).1 hi
  unfold G.getE at h1 ⊢
  rw [if_neg (by rw [ok_iff.2 h.pg]; simp)] at h1 ⊢
  split
  · rfl
  · rename_i hx
    rw [if_neg hx] at h1
    exact absurd rfl h1
theorem Keep.rep (h : Keep p cs th) {k : Nat} {b r : List UInt8} (hk : k < cs.length) (ht : th.getD k false = true) (h1 : 1 ≤ b.length) (h2 : b.length ≤ 400) (h3 : b.length ≤ freeB p + sL p k) (hr : Rep p k b r) : Keep r (cs.set k b) th := by
  have hi := h.is hk ht
  have hS := hr.swap h.pg hi.1 hi.2.1 h1 h2 h3
  refine ⟨hS.pg, by rw [List.length_set]; exact h.len, fun j => ?_, by rw [List.length_set]; exact h.most⟩
  rw [List.length_set]
  by_cases hj : j = k
  · subst hj
    rw [hS.mine, if_pos ⟨hk, ht⟩, List.getD_eq_getElem?_getD, List.getElem?_set_self hk]; rfl
  · rw [hS.rest j hj, h.ct, List.getD_eq_getElem?_getD (l := cs.set k b), List.getElem?_set_ne (fun e => hj e.symm), ← List.getD_eq_getElem?_getD]
theorem Keep.repE (h : Keep p cs th) {k : Nat} {b : List UInt8} (hk : k < cs.length) (ht : th.getD k false = true) (h1 : 1 ≤ b.length) (h2 : b.length ≤ 400) (h3 : b.length ≤ (cs.getD k []).length) : G.repE p k b = 0 := by
  have hi := h.is hk ht
  unfold G.repE
  rw [if_neg (by simp [getE_of h.pg hi.1 hi.2.1]), if_neg (by omega), if_neg]
  rw [Int.toNat_natCast, hi.2.2.1]; omega
theorem Keep.del (h : Keep p cs th) {k : Nat} {r : List UInt8} (hk : k < cs.length) (ht : th.getD k false = true) (hr : Del p k r) : Keep r cs (th.set k false) := by
  have hi := h.is hk ht
  have hC := hr.cut h.pg hi.1 hi.2.1
  refine ⟨hC.pg, by rw [List.length_set]; exact h.len, fun j => ?_, h.most⟩
  by_cases hj : j = k
  · subst hj
    rw [hC.mine, if_neg]
    rw [List.getD_eq_getElem?_getD, List.getElem?_set_self (by rw [h.len]; exact hk)]
    simp
  · rw [hC.rest j hj, h.ct, List.getD_eq_getElem?_getD (l := th.set k false), List.getElem?_set_ne (fun e => hj e.symm), ← List.getD_eq_getElem?_getD]
theorem Keep.free (h : Keep p cs th) {f : Nat} (hf : ∀ k, k < f → k < cs.length ∧ th.getD k false = true) (h2 : ¬ (f < cs.length ∧ th.getD f false = true)) : freeS p = f :=
  freeS_of (fun k hk => by rw [h.yes (hf k hk).1 (hf k hk).2]; simp) (h.no h2)
theorem Keep.ins (h : Keep p cs th) {b : List UInt8} (he : insE p b = 0) {cs' : List (List UInt8)} {th' : List Bool} {f : Nat} (hf : freeS p = f)
    (hc : (f < cs.length ∧ cs' = cs ∧ th' = th) ∨ (f = cs.length ∧ cs' = cs ++ [[]] ∧ th' = th ++ [false])) : Keep (insP p b) (cs'.set f b) (th'.set f true) := by
  have hI := ins_ok he
  have h125 := (insE_ok he).2.2.2.2
  have hlen := h.len
  have hmost := h.most
  have hcl : f < cs'.length := by rcases hc with ⟨h1, rfl, _⟩ | ⟨h1, rfl, _⟩ <;> first | omega | (simp; omega)
  have htl : f < th'.length := by rcases hc with ⟨h1, _, rfl⟩ | ⟨h1, _, rfl⟩ <;> first | omega | (simp; omega)
  refine ⟨hI.pg, ?_, fun j => ?_, ?_⟩
  · rw [List.length_set, List.length_set]
    rcases hc with ⟨h1, rfl, rfl⟩ | ⟨h1, rfl, rfl⟩ <;> first | omega | (simp; omega)
  · rw [List.length_set]
    by_cases hj : j = f
    · subst hj
      have := hI.mine
      rw [hf] at this
      rw [this, if_pos, List.getD_eq_getElem?_getD, List.getElem?_set_self hcl]
      · rfl
      · refine ⟨hcl, ?_⟩
        rw [List.getD_eq_getElem?_getD, List.getElem?_set_self htl]; rfl
    · rw [hI.rest j (by rw [hf]; exact hj), h.ct, List.getD_eq_getElem?_getD (l := cs'.set f b), List.getElem?_set_ne (fun e => hj e.symm), ← List.getD_eq_getElem?_getD, List.getD_eq_getElem?_getD (l := th'.set f true), List.getElem?_set_ne (fun e => hj e.symm), ← List.getD_eq_getElem?_getD]
      rcases hc with ⟨h1, rfl, rfl⟩ | ⟨h1, rfl, rfl⟩
      · rfl
      · by_cases hlt : j < cs.length
        · rw [List.getD_eq_getElem?_getD (l := cs ++ [[]]), List.getElem?_append_left hlt, ← List.getD_eq_getElem?_getD, List.getD_eq_getElem?_getD (l := th ++ [false]), List.getElem?_append_left (by omega), ← List.getD_eq_getElem?_getD]
          by_cases hx : th.getD j false = true
          · rw [if_pos ⟨hlt, hx⟩, if_pos ⟨by simp; omega, hx⟩]
          · rw [if_neg (fun y => hx y.2), if_neg (fun y => hx y.2)]
        · rw [if_neg (fun y => hlt y.1), if_neg (fun y => by have := y.1; simp at this; omega)]
  · rw [List.length_set]
    rcases hc with ⟨h1, rfl, rfl⟩ | ⟨h1, rfl, rfl⟩ <;> first | omega | (simp; omega)
theorem Keep.insE (h : Keep p cs th) {b : List UInt8} {f : Nat} (hf : freeS p = f) (h1 : 1 ≤ b.length) (h2 : b.length ≤ 400) (h3 : b.length + 4 ≤ freeB p) (h4 : f < 125) : G.insE p b = 0 := by
  unfold G.insE
  rw [if_neg (by rw [ok_iff.2 h.pg]; simp), if_neg (by omega), if_neg]
  rw [hf]
  unfold need
  simp only [not_or]
  refine ⟨?_, by omega⟩
  split <;> omega
end
end Go.Proofs.Ytdgnndcnpmlifaa.G
