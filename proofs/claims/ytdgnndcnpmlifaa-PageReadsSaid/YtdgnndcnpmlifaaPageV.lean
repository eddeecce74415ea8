/-
  A page's bytes as a source of a copy; a copy of a page.
-/
import Derived.Test.YtdgnndcnpmlifaaPageQ
namespace Go.Proofs.Ytdgnndcnpmlifaa.G
set_option linter.unusedSimpArgs false
open Go Go.RowKit Go.Proofs.Ytdgnndcnpmlifaa.B Go.Proofs.Ytdgnndcnpmlifaa.C
set_option linter.unusedVariables false
theorem PAt.src {w : World} {b o c : Nat} {p : List UInt8} (h : PAt w b o c p) : ∀ j u, (u8s p)[j]? = some u → w.cell? ⟨b, o + j, none⟩ = some u := fun j u hj => by
  have hl : j < p.length := by
    rcases Nat.lt_or_ge j p.length with h1 | h1
    · exact h1
    · rw [List.getElem?_eq_none (by rw [length_u8s]; exact h1)] at hj; cases hj
  rw [h.cell j (by rw [← h.len]; exact hl), ← hj, u8s_get, List.getElem?_eq_getElem hl, g_get hl]; rfl
theorem buf_clone {w w' : World} {cap : Nat} {p : List UInt8} (hl : p.length = 512) (h : w'.ownsRow 0 5 1 (.slice (some ⟨w.heap.size, 0, none⟩) 512 cap) 512 (u8s p)) : Buf w' w.heap.size cap p := ⟨hl, h⟩
end Go.Proofs.Ytdgnndcnpmlifaa.G
