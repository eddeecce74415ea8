/-
  Rows of cells: an element of one.
-/
import Derived.Test.YtdgnndcnpmlifaaPageA
namespace Go.Proofs.Ytdgnndcnpmlifaa.G
set_option linter.unusedSimpArgs false
open Go Go.RowKit Go.Proofs.Ytdgnndcnpmlifaa.B Go.Proofs.Ytdgnndcnpmlifaa.C
set_option linter.unusedVariables false
theorem rowC_get : ∀ (l : List (Nat × Nat)) (i : Nat), (rowC l)[i]? = (l[i / 2]?).bind fun c => (encC c)[i % 2]?
  | [], i => by simp [rowC]
  | c :: r, 0 => by simp [rowC, encC]
  | c :: r, 1 => by simp [rowC, encC]
  | c :: r, i + 2 => by
    have h : rowC (c :: r) = .int .i64 c.1 :: .int .i64 c.2 :: rowC r := by simp [rowC, encC]
    rw [h, List.getElem?_cons_succ, List.getElem?_cons_succ, rowC_get r i, show (i + 2) / 2 = i / 2 + 1 by omega, List.getElem?_cons_succ, show (i + 2) % 2 = i % 2 by omega]
theorem owns_some {w : World} {e : TypeId} {size : Nat} {v : Value} {n : Nat} {xs : List Value} (h : w.ownsRow 0 e size v n xs) (h0 : 0 < n) : ∃ g c, v = .slice (some ⟨g, 0, none⟩) n c ∧ n ≤ c := by
  rcases h.2 with ⟨_, rfl⟩ | ⟨g, cap, cur, rfl, _, _, h3, _⟩
  · omega
  · exact ⟨g, cap, rfl, h3⟩
theorem row_range {w : World} {g n c : Nat} {cs : List (Nat × Nat)} (h : w.ownsRow 0 58 2 (.slice (some ⟨g, 0, none⟩) n c) n (rowC cs)) {j : Nat} (hj : j < n) {a b : Nat} (hc : cs[j]? = some (a, b)) : w.rangeAt g (j * 2) [.int .i64 a, .int .i64 b] := fun i v hv => by
  have hi : i < 2 := by
    rcases Nat.lt_or_ge i 2 with h | h
    · exact h
    · rw [List.getElem?_eq_none (by simpa using h)] at hv; cases hv
  rw [h.cellAt (j * 2 + i) (by omega), rowC_get, show (j * 2 + i) / 2 = j by omega, show (j * 2 + i) % 2 = i by omega, hc]
  exact hv
theorem range_off {w w' : World} {b o : Nat} {cs : List Value} (h : w.rangeAt b o cs) (hO : Only [] w w') : w'.rangeAt b o cs := fun j v hv => hO.cell (h j v hv) (by simp)
end Go.Proofs.Ytdgnndcnpmlifaa.G
