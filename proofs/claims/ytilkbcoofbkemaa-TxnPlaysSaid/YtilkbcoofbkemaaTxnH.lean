/-
  The table of transactions beside rows of numbers that a law writes itself: none of the table's rows lies in one of the blocks F.
-/
import Derived.Test.YtilkbcoofbkemaaTxnE
namespace Go.Proofs.Ytilkbcoofbkemaa.T
set_option linter.unusedSimpArgs false
open Go Go.RowKit Go.Proofs.Ytilkbcoofbkemaa.I
set_option linter.unusedVariables false
structure TabX (w0 w : World) (t bo bg k : Nat) (S : TS) (F : List Nat) : Prop where
  at_ : ∃ L, TabAt w t bo bg L S ∧ ∀ p ∈ L, ∀ x ∈ F, p.2.ownBlock ≠ some x
  own : Only [] w0 w
  fine : S.Fine k
  ht : w0.heap.size ≤ t
  hb : w0.heap.size ≤ bo
  hg : w0.heap.size ≤ bg
variable {w0 w : World} {t bo bg k : Nat} {S : TS} {F : List Nat}
theorem TabX.tab (h : TabX w0 w t bo bg k S F) : Tab w0 w t bo bg k S := ⟨h.at_.imp fun L h => h.1, h.own, h.fine, h.ht, h.hb, h.hg⟩
theorem Tab.tabX (h : Tab w0 w t bo bg k S) : TabX w0 w t bo bg k S [] := ⟨h.at_.imp fun L h => ⟨h, fun p _ x hx => by cases hx⟩, h.own, h.fine, h.ht, h.hb, h.hg⟩
theorem TabX.past (h : TabX w0 w t bo bg k S F) {w' : World} (hO : Only [] w w') : TabX w0 w' t bo bg k S F :=
  ⟨h.at_.imp fun L hT => ⟨hT.1.past hO, hT.2⟩, h.own.trans hO (by simp), h.fine, h.ht, h.hb, h.hg⟩
theorem TabX.to (h : TabX w0 w t bo bg k S F) {S2 : TS} (e : S = S2) : TabX w0 w t bo bg k S2 F := e ▸ h
/-- Some of F, and new blocks, and blocks of other types were written. -/
theorem TabX.later (h : TabX w0 w t bo bg k S F) {w' : World} {X F2 : List Nat} (hO : Only X w w') (h1 : t ∉ X) (h2 : bo ∉ X) (h3 : bg ∉ X) (h4 : ∀ x ∈ X, x ∈ F ∨ ∀ cs, ¬ Blk w x cs 26) (hn : ∀ x ∈ X, w0.heap.size ≤ x) (hF : ∀ x ∈ F2, x ∈ F ∨ w.heap.size ≤ x) : TabX w0 w' t bo bg k S F2 := by
  obtain ⟨L, hT, hL⟩ := h.at_
  have hrow : ∀ p ∈ L, w'.ownsRow 0 26 1 p.2 p.1.op.length (nats p.1.op) := fun p hp => owns_later (hT.rows p hp) hO (fun x hx hX => by
    rcases h4 x hX with h5 | h5
    · exact hL p hp x h5 hx
    · obtain ⟨cs, hb⟩ := owns_own (hT.rows p hp) hx
      exact h5 cs hb)
  exact ⟨⟨L, ⟨hO.blk hT.tab h1, hT.opn.later hO h2, hT.gon.later hO h3, hT.fst, hrow, hT.ne, hT.small, hT.less⟩, fun p hp x hx e => by
    rcases hF x hx with h5 | h5
    · exact hL p hp x h5 e
    · have := owns_lt (hT.rows p hp) e; omega⟩, h.own.trans hO (fun x hx => .inr (hn x hx)), h.fine, h.ht, h.hb, h.hg⟩
/-- A row of one's own is none of the table's three blocks. -/
theorem TabX.ne (h : TabX w0 w t bo bg k S F) {b : Nat} {cs : List Value} {e : TypeId} (hb : Blk w b cs e) (he : 66 ≠ e) : b ∉ [t, bo, bg] := h.tab.ne hb he
theorem TabX.fit (h : TabX w0 w t bo bg k S F) (hF : ∀ x ∈ F, x < w.heap.size) {w' : World} {L' L : Opens} (hL : ∀ p ∈ L, ∀ x ∈ F, p.2.ownBlock ≠ some x) (hs : ∀ p ∈ L', p ∈ L ∨ ∀ x, p.2.ownBlock = some x → w.heap.size ≤ x) : ∀ p ∈ L', ∀ x ∈ F, p.2.ownBlock ≠ some x := fun p hp x hx e => by
  rcases hs p hp with h1 | h1
  · exact hL p h1 x hx e
  · have := h1 x e; have := hF x hx; omega
theorem TabX.begin' (h : TabX w0 w t bo bg k S F) (hF : ∀ x ∈ F, x < w.heap.size) (hk : k ≤ 524287) {S2 : TS} {m n : Nat} (hm : S.next = m) (hn : S.opens.length = n) (hS : S.begin = S2) : Calls Try.prog 10 #[.pointer (some ⟨t, 0, none⟩)] w fun e w' => ∃ a c, e = .returned (.tuple #[.int .u64 m, .agg #[.int .u64 m, .int .u64 m, .slice a n c]]) ∧ NewRow w w' (.slice a n c) S.nums ∧ TabX w0 w' t bo bg (k + 1) S2 F ∧ Only [t, bo, bg] w w' ∧ (∀ x, (Value.slice a n c).ownBlock = some x → TabX w0 w' t bo bg (k + 1) S2 (x :: F)) := by
  obtain ⟨L, hT, hL⟩ := h.at_
  refine (begin_any hT h.fine.rise (by have := h.fine.len; omega) (by have := h.fine.nx; omega)).mono ?_
  rintro e w' ⟨v, he, hr, hnew, L', hT', hO, hv, hs⟩
  have hO3 : Only [t, bo, bg] w w' := hO.mono (by simp)
  obtain ⟨a, c, rfl⟩ := owns_form hr
  have hl : S.nums.length = n := by rw [TS.nums_len, hn]
  rw [hl] at he hnew hv hr
  subst hm
  subst hS
  have hX := h.fit hF (w' := w') hL hs
  refine ⟨a, c, he, ⟨by rw [hl]; exact hr, hnew⟩, ⟨⟨L', hT', hX⟩, h.tab.news hO3, h.fine.begin, h.ht, h.hb, h.hg⟩, hO3, fun x hx => ⟨⟨L', hT', fun p hp y hy => ?_⟩, h.tab.news hO3, h.fine.begin, h.ht, h.hb, h.hg⟩⟩
  rcases List.mem_cons.1 hy with rfl | hy
  · rcases hv p hp with h1 | h1
    · rw [hx] at h1; exact fun e => h1 e.symm
    · rw [hx] at h1; cases h1
  · exact hX p hp y hy
theorem TabX.commit' (h : TabX w0 w t bo bg k S F) (id : Nat) {S2 : TS} {z : Int} (hS : S.commit id = (S2, z)) : Calls Try.prog 14 #[.pointer (some ⟨t, 0, none⟩), .int .u64 id] w fun e w' => e = .returned (.int .i64 z) ∧ TabX w0 w' t bo bg k S2 F ∧ Only [t, bo, bg] w w' := by
  obtain ⟨L, hT, hL⟩ := h.at_
  refine (commit_any hT h.fine.rise.once id).mono ?_
  rintro e w' ⟨he, L', hT', hO, hs⟩
  have hf := h.fine.commit id
  rw [hS] at he hT' hf
  have hO3 : Only [t, bo, bg] w w' := hO.mono (by simp)
  exact ⟨he, ⟨⟨L', hT', fun p hp => hL p (hs p hp)⟩, h.tab.news hO3, hf, h.ht, h.hb, h.hg⟩, hO3⟩
theorem TabX.abort' (h : TabX w0 w t bo bg k S F) (id : Nat) {S2 : TS} {z : Int} (hS : S.abort id = (S2, z)) : Calls Try.prog 15 #[.pointer (some ⟨t, 0, none⟩), .int .u64 id] w fun e w' => e = .returned (.int .i64 z) ∧ TabX w0 w' t bo bg k S2 F ∧ Only [t, bo, bg] w w' := by
  obtain ⟨L, hT, hL⟩ := h.at_
  refine (abort_any hT h.fine.rise.once id).mono ?_
  rintro e w' ⟨he, L', hT', hO, hs⟩
  have hf := h.fine.abort id
  rw [hS] at he hT' hf
  have hO3 : Only [t, bo, bg] w w' := hO.mono (by simp)
  exact ⟨he, ⟨⟨L', hT', fun p hp => hL p (hs p hp)⟩, h.tab.news hO3, hf, h.ht, h.hb, h.hg⟩, hO3⟩
end Go.Proofs.Ytilkbcoofbkemaa.T
