/-
  Pages that are filled, emptied by half, and filled again: plain data. No program in sight.
-/
import Derived.Test.YtdgnndcnpmlifaaPageP
namespace Go.Proofs.Ytdgnndcnpmlifaa.G
set_option linter.unusedSimpArgs false
open Go Go.RowKit Go.Proofs.Ytdgnndcnpmlifaa.B Go.Proofs.Ytdgnndcnpmlifaa.C
set_option linter.unusedVariables false
/-! ### what slots hold tells how many there are, and which is free -/
theorem ct_is {p : List UInt8} {k : Nat} (h : ct p k ≠ none) : k < nS p ∧ sP p k ≠ 0 := by
  by_cases hk : k < nS p ∧ sP p k ≠ 0
  · exact hk
  · exact absurd (ct_none.2 hk) h
theorem nS_of {p : List UInt8} {m : Nat} (h : Body p) (h1 : ct p m ≠ none) (h2 : ∀ k, m < k → ct p k = none) : nS p = m + 1 := by
  have h3 := (ct_is h1).1
  rcases Nat.lt_or_ge (m + 1) (nS p) with h4 | h4
  · exact absurd (h2 (nS p - 1) (by omega)) (fun hx => ct_none.1 hx ⟨by omega, h.last (by omega)⟩)
  · omega
theorem nS_zero {p : List UInt8} (h : Body p) (h2 : ∀ k, ct p k = none) : nS p = 0 := by
  rcases Nat.eq_zero_or_pos (nS p) with h4 | h4
  · exact h4
  · exact absurd (h2 (nS p - 1)) (fun hx => ct_none.1 hx ⟨by omega, h.last h4⟩)
theorem freeS_of {p : List UInt8} {f : Nat} (h1 : ∀ k, k < f → ct p k ≠ none) (h2 : ct p f = none) : freeS p = f := by
  have hle := freeS_le p
  rcases Nat.lt_trichotomy (freeS p) f with h | h | h
  · have hx := ct_is (h1 _ h)
    exact absurd (freeS_free hx.1) hx.2
  · exact h
  · exact absurd h2 (fun hx => ct_none.1 hx ⟨by omega, freeS_used h⟩)
structure Occ (p : List UInt8) (sz n : Nat) (f : Nat → Bool) (B : Nat) : Prop where
  pg : Pg p
  ct : ∀ k, ct p k = if k < n ∧ f k = true then some (List.replicate sz 0) else none
  beg : bg p = B
section
variable {p : List UInt8} {sz n B : Nat} {f : Nat → Bool}
theorem Occ.yes (h : Occ p sz n f B) {k : Nat} (hk : k < n) (hf : f k = true) : G.ct p k = some (List.replicate sz 0) := by rw [h.ct, if_pos ⟨hk, hf⟩]
theorem Occ.no (h : Occ p sz n f B) {k : Nat} (hf : ¬ (k < n ∧ f k = true)) : G.ct p k = none := by rw [h.ct, if_neg hf]
theorem Occ.some (h : Occ p sz n f B) {k : Nat} (hk : k < n) (hf : f k = true) : G.ct p k ≠ none := by rw [h.yes hk hf]; simp
end
/-- Insert, where there is room: into the first free slot. -/
theorem Occ.ins {p : List UInt8} {sz n m B i : Nat} {f f' : Nat → Bool} (h : Occ p sz n f B) (h1 : 1 ≤ sz) (h2 : sz ≤ 400) (hu : ∀ k, k < i → k < n ∧ f k = true) (hi : ¬ (i < n ∧ f i = true)) (hi2 : i ≠ 125)
    (hr : 10 + 4 * nS p + (if i < nS p then sz else sz + 4) ≤ B) (hf : ∀ k, (k < m ∧ f' k = true) ↔ (k = i ∨ (k < n ∧ f k = true))) :
    insE p (List.replicate sz 0) = 0 ∧ freeS p = i ∧ Occ (insP p (List.replicate sz 0)) sz m f' (B - sz) := by
  obtain ⟨z, hz⟩ : ∃ z : List UInt8, List.replicate sz 0 = z := ⟨_, rfl⟩
  have hzl : z.length = sz := by rw [← hz]; simp
  rw [hz]
  have hF : freeS p = i := freeS_of (fun k hk => h.some (hu k hk).1 (hu k hk).2) (h.no hi)
  have hN : need p z = if i < nS p then sz else sz + 4 := by unfold need; rw [hF, hzl]
  have hE : insE p z = 0 := by
    unfold insE
    rw [if_neg (by rw [ok_iff.2 h.pg]; simp), if_neg (by omega), if_neg]
    rw [hN, hF]
    unfold freeB
    rw [h.beg]
    simp only [not_or]
    exact ⟨by omega, hi2⟩
  have hI := ins_ok hE
  refine ⟨hE, hF, hI.pg, fun k => ?_, by rw [hI.beg, h.beg, hzl]⟩
  by_cases hk : k = i
  · subst hk
    rw [if_pos ((hf k).2 (.inl rfl)), hz]
    have := hI.mine
    rw [hF] at this
    exact this
  · rw [hI.rest k (by rw [hF]; exact hk), h.ct]
    by_cases hx : k < n ∧ f k = true
    · rw [if_pos hx, if_pos ((hf k).2 (.inr hx))]
    · rw [if_neg hx, if_neg (fun hy => ((hf k).1 hy).elim hk hx)]
/-- Delete of a slot that is used. -/
theorem Occ.del {p r : List UInt8} {sz n m B i : Nat} {f f' : Nat → Bool} (h : Occ p sz n f B) (hi : i < n) (hfi : f i = true) (hd : Del p i r) (hf : ∀ k, (k < m ∧ f' k = true) ↔ (k ≠ i ∧ k < n ∧ f k = true)) :
    Occ r sz m f' (B + sz) := by
  obtain ⟨h1, h2, h3, _⟩ := ct_long h.pg.body.core (h.yes hi hfi)
  have hC := hd.cut h.pg h1 h2
  rw [List.length_replicate] at h3
  refine ⟨hC.pg, fun k => ?_, by rw [hC.beg, h.beg, h3]⟩
  by_cases hk : k = i
  · subst hk
    rw [hC.mine, if_neg (fun hy => ((hf k).1 hy).1 rfl)]
  · rw [hC.rest k hk, h.ct]
    by_cases hx : k < n ∧ f k = true
    · rw [if_pos hx, if_pos ((hf k).2 ⟨hk, hx⟩)]
    · rw [if_neg hx, if_neg (fun hy => hx ((hf k).1 hy).2)]
theorem Occ.get {p : List UInt8} {sz n B i : Nat} {f : Nat → Bool} (h : Occ p sz n f B) (hi : i < n) (hfi : f i = true) : i < nS p ∧ sP p i ≠ 0 := ct_is (h.some hi hfi)
/-! ### the three rounds -/
/-- Filled up to n. -/
def Full (p : List UInt8) (sz n : Nat) : Prop := Occ p sz n (fun _ => true) (512 - n * sz)
theorem full_new {p : List UInt8} {kind : Nat} (h : Fresh p kind) (sz : Nat) : Full p sz 0 := by
  refine ⟨h.pg, fun k => ?_, by rw [h.beg, Nat.zero_mul]⟩
  rw [if_neg (by omega)]
  exact ct_none.2 (by rw [h.count]; omega)
theorem Full.facts {p : List UInt8} {sz n : Nat} (h : Full p sz n) : nS p = n ∧ freeS p = n := by
  refine ⟨?_, freeS_of (fun k hk => h.some hk rfl) (h.no (by omega))⟩
  cases n with
  | zero => exact nS_zero h.pg.body fun k => h.no (by omega)
  | succ n => exact nS_of h.pg.body (h.some (by omega) rfl) fun k hk => h.no (by omega)
theorem Full.free {p : List UInt8} {sz n : Nat} (h : Full p sz n) : freeB p = 502 - n * (sz + 4) := by
  have := h.beg
  unfold freeB
  rw [h.facts.1, this, Nat.mul_add]; omega
theorem Full.more {p : List UInt8} {sz n : Nat} (h : Full p sz n) (h1 : 1 ≤ sz) (h2 : sz ≤ 400) (hn : n < 125) (hr : n * (sz + 4) + (sz + 4) ≤ 502) :
    insE p (List.replicate sz 0) = 0 ∧ freeS p = n ∧ Full (insP p (List.replicate sz 0)) sz (n + 1) := by
  rw [Nat.mul_add] at hr
  have := Occ.ins (m := n + 1) (f' := fun _ => true) (i := n) h h1 h2 (fun k hk => ⟨hk, rfl⟩) (by omega) (by omega) (by rw [h.facts.1, if_neg (by omega)]; omega) (fun k => by simp only [and_true]; omega)
  refine ⟨this.1, this.2.1, ?_⟩
  have e : 512 - n * sz - sz = 512 - (n + 1) * sz := by rw [Nat.succ_mul]; omega
  rw [e] at this
  exact this.2.2
theorem Full.no {p : List UInt8} {sz n : Nat} (h : Full p sz n) (h1 : 1 ≤ sz) (h2 : sz ≤ 400) (hn : ¬ (n < 125 ∧ n * (sz + 4) + (sz + 4) ≤ 502)) : insE p (List.replicate sz 0) = 42 := by
  have hN : need p (List.replicate sz 0) = sz + 4 := by unfold need; rw [h.facts.1, h.facts.2, if_neg (by omega), List.length_replicate]
  have hF := h.free
  have hm := h.pg.body.most
  rw [h.facts.1] at hm
  unfold insE
  rw [if_neg (by rw [ok_iff.2 h.pg]; simp), if_neg (by rw [List.length_replicate]; omega), if_pos]
  rw [hN, hF, h.facts.2]
  omega
/-- Every second one is out, up to i. -/
def Half (p : List UInt8) (sz n t : Nat) : Prop := Occ p sz n (fun k => decide (k % 2 = 1 ∨ 2 * t ≤ k)) (512 - n * sz + t * sz)
theorem Full.half {p : List UInt8} {sz n : Nat} (h : Full p sz n) : Half p sz n 0 := by
  refine ⟨h.pg, fun k => ?_, by rw [h.beg]; omega⟩
  rw [h.ct]
  by_cases hk : k < n
  · rw [if_pos ⟨hk, rfl⟩, if_pos ⟨hk, by simp⟩]
  · rw [if_neg (fun x => hk x.1), if_neg (fun x => hk x.1)]
theorem Half.is {p : List UInt8} {sz n t : Nat} (h : Half p sz n t) (ht : 2 * t < n) : 2 * t < nS p ∧ sP p (2 * t) ≠ 0 := Occ.get h ht (by simp)
theorem Half.more {p r : List UInt8} {sz n t : Nat} (h : Half p sz n t) (ht : 2 * t < n) (hd : Del p (2 * t) r) : Half r sz n (t + 1) := by
  have := Occ.del (m := n) (f' := fun k => decide (k % 2 = 1 ∨ 2 * (t + 1) ≤ k)) h ht (by simp) hd (fun k => by simp only [decide_eq_true_eq]; omega)
  have e : 512 - n * sz + t * sz + sz = 512 - n * sz + (t + 1) * sz := by rw [Nat.succ_mul]; omega
  rw [e] at this
  exact this
/-- Every second one is in again, up to 2t, of all e that were taken out. -/
def Back (p : List UInt8) (sz n e t : Nat) : Prop := Occ p sz n (fun k => decide (k % 2 = 1 ∨ k < 2 * t)) (512 - n * sz + (e - t) * sz)
theorem Half.back {p : List UInt8} {sz n e : Nat} (h : Half p sz n e) (he : n ≤ 2 * e) : Back p sz n e 0 := by
  refine ⟨h.pg, fun k => ?_, by rw [h.beg, Nat.sub_zero]⟩
  rw [h.ct]
  simp only [decide_eq_true_eq]
  by_cases hk : k < n ∧ k % 2 = 1
  · rw [if_pos (by omega), if_pos (by omega)]
  · rw [if_neg (by omega), if_neg (by omega)]
theorem Back.more {p : List UInt8} {sz n e t : Nat} (h : Back p sz n e t) (h1 : 1 ≤ sz) (h2 : sz ≤ 400) (hn : n ≤ 125) (hr : n * (sz + 4) ≤ 502) (ht : 2 * t < n) (he : t < e) :
    insE p (List.replicate sz 0) = 0 ∧ freeS p = 2 * t ∧ Back (insP p (List.replicate sz 0)) sz n e (t + 1) := by
  rw [Nat.mul_add] at hr
  have hS : nS p ≤ n := by
    rcases Nat.lt_or_ge n (nS p) with hx | hx
    · exact absurd (h.no (k := nS p - 1) (by omega)) (fun hy => ct_none.1 hy ⟨by omega, h.pg.body.last (by omega)⟩)
    · exact hx
  have hes : (e - t) * sz = (e - (t + 1)) * sz + sz := by
    rw [show e - t = e - (t + 1) + 1 by omega, Nat.succ_mul]
  have hroom : 10 + 4 * nS p + (if 2 * t < nS p then sz else sz + 4) ≤ 512 - n * sz + (e - t) * sz := by
    by_cases hx : 2 * t < nS p
    · rw [if_pos hx]; omega
    · rw [if_neg hx]; omega
  have := Occ.ins (m := n) (f' := fun k => decide (k % 2 = 1 ∨ k < 2 * (t + 1))) (i := 2 * t) h h1 h2 (fun k hk => ⟨by omega, by simp only [decide_eq_true_eq]; omega⟩) (by simp only [decide_eq_true_eq]; omega) (by omega) hroom (fun k => by simp only [decide_eq_true_eq]; omega)
  refine ⟨this.1, this.2.1, ?_⟩
  have e2 : 512 - n * sz + (e - t) * sz - sz = 512 - n * sz + (e - (t + 1)) * sz := by omega
  rw [e2] at this
  exact this.2.2
theorem Back.full {p : List UInt8} {sz n e t : Nat} (h : Back p sz n e t) (ht : n ≤ 2 * t) (he : e ≤ t) : Full p sz n := by
  refine ⟨h.pg, fun k => ?_, by rw [h.beg, show e - t = 0 by omega]; omega⟩
  rw [h.ct]
  simp only [decide_eq_true_eq]
  by_cases hk : k < n
  · rw [if_pos (by omega), if_pos ⟨hk, trivial⟩]
  · rw [if_neg (by omega), if_neg (fun x => hk x.1)]
end Go.Proofs.Ytdgnndcnpmlifaa.G
