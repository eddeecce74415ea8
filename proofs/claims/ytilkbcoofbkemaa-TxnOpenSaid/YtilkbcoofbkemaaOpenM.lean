/-
  TxnOpen as plain data.
-/
import Derived.Test.YtilkbcoofbkemaaTxnH
namespace Go.Proofs.Ytilkbcoofbkemaa.T
set_option linter.unusedSimpArgs false
open Go Go.RowKit Go.Proofs.Ytilkbcoofbkemaa.I
set_option linter.unusedVariables false
def upto (k : Nat) : List Nat := (List.range k).map (· + 1)
theorem upto_len (k : Nat) : (upto k).length = k := by simp [upto]
theorem upto_succ (k : Nat) : upto (k + 1) = upto k ++ [k + 1] := by simp [upto, List.range_succ]
/-- So many are open, none has ended. -/
def SA (k : Nat) : TS := ⟨k + 1, (List.range k).map fun j => ⟨j + 1, j + 1, upto j⟩, []⟩
theorem SA_nums (k : Nat) : (SA k).nums = upto k := by simp [SA, TS.nums, upto, List.map_map, Function.comp_def]
theorem SA_opens (k : Nat) : (SA k).opens.length = k := by simp [SA]
theorem SA_begin (k : Nat) : (SA k).begin = SA (k + 1) := by
  have e : (SA k).snap = ⟨k + 1, k + 1, upto k⟩ := by
    show (⟨_, _, _⟩ : Snap) = _
    rw [SA_nums]; rfl
  unfold TS.begin
  rw [e]
  simp [SA, List.range_succ]
/-- Those of L are open. -/
structure Half (n : Nat) (S : TS) (L : List Nat) : Prop where
  nx : S.next = n + 1
  nums : S.nums = L
  ones : ∀ s ∈ S.opens, 1 ≤ s.own ∧ (∀ x ∈ s.op, 1 ≤ x) ∧ (s.own = 1 ∨ 1 ∈ s.op)
theorem SA_half (n : Nat) : Half n (SA n) (upto n) where
  nx := rfl
  nums := SA_nums n
  ones := fun s hs => by
    simp only [SA, List.mem_map, List.mem_range] at hs
    obtain ⟨j, _, rfl⟩ := hs
    refine ⟨by simp, fun x hx => ?_, ?_⟩
    · simp only [upto, List.mem_map] at hx
      obtain ⟨y, _, rfl⟩ := hx
      omega
    · rcases j with _ | j
      · left; rfl
      · right
        simp only [upto, List.mem_map, List.mem_range]
        exact ⟨0, by omega, rfl⟩
theorem filter_out {L : List Nat} (h : L.Nodup) {k : Nat} (hk : k < L.length) : L.filter (fun x => x != L[k]) = L.take k ++ L.drop (k + 1) := by
  have e : L = L.take k ++ L[k] :: L.drop (k + 1) := by simp
  generalize L[k] = x at *
  rw [e] at h
  have h2 := List.nodup_append.1 h
  conv => lhs; rw [e]
  rw [List.filter_append, List.filter_cons]
  simp only [bne_self_eq_false, Bool.false_eq_true, if_false]
  congr 1
  · rw [List.filter_eq_self]
    intro y hy
    simpa using h2.2.2 y hy x (by simp)
  · rw [List.filter_eq_self]
    intro y hy
    have := (List.nodup_cons.1 h2.2.1).1
    simp
    intro e2
    exact this (e2 ▸ hy)
theorem Half.abort {n : Nat} {S : TS} {L : List Nat} (h : Half n S L) (hr : S.Rise) {k : Nat} (hk : k < L.length) : ∃ S2, S.abort L[k] = (S2, 0) ∧ Half n S2 (L.take k ++ L.drop (k + 1)) := by
  have hin : S.isOpen L[k] = true := by
    unfold TS.isOpen
    rw [List.any_eq_true]
    have : L[k] ∈ S.nums := by rw [h.nums]; exact List.getElem_mem hk
    unfold TS.nums at this
    rw [List.mem_map] at this
    obtain ⟨s, hs, e⟩ := this
    exact ⟨s, hs, by simp [e]⟩
  refine ⟨{ S.drop L[k] with gone := TS.abort.mputN S.gone L[k] }, ?_, h.nx, ?_, fun s hs => h.ones s (List.mem_filter.1 hs).1⟩
  · unfold TS.abort; rw [if_pos hin]
  · have hnd : L.Nodup := by
      have := hr.once
      unfold TS.Once at this
      rw [← h.nums]; exact this
    rw [← filter_out hnd hk]
    show (S.opens.filter fun s => s.own != L[k]).map (·.own) = _
    have e : S.nums.filter (fun x => x != L[k]) = (S.opens.filter fun s => s.own != L[k]).map (·.own) := by
      unfold TS.nums; rw [List.filter_map]; rfl
    rw [← e, h.nums]
theorem Half.hor_nil {n : Nat} {S : TS} (h : Half n S []) : S.horizon = n + 1 := by
  have : S.opens = [] := by
    have := h.nums
    unfold TS.nums at this
    simpa using this
  unfold TS.horizon
  rw [this, h.nx]; rfl
theorem Half.hor {n : Nat} {S : TS} {L : List Nat} (h : Half n S L) (hL : L ≠ []) : S.horizon = 1 := by
  refine TS.IsHor.eq S.horizon_is ⟨?_, by rw [h.nx]; omega, fun s hs => ⟨(h.ones s hs).1, (h.ones s hs).2.1⟩⟩
  obtain ⟨s, hs⟩ : ∃ s, s ∈ S.opens := by
    cases ho : S.opens with
    | nil => exact absurd (by rw [← h.nums]; unfold TS.nums; rw [ho]; rfl) hL
    | cons a l => exact ⟨a, by simp⟩
  rcases (h.ones s hs).2.2 with h1 | h1
  · exact .inr ⟨s, hs, .inl h1.symm⟩
  · exact .inr ⟨s, hs, .inr h1⟩
end Go.Proofs.Ytilkbcoofbkemaa.T
