import Derived.Test.YtikonbnhbalpmaaMPageR
import Derived.Test.YtikonbnhbalpmaaMSortRows
import Derived.Test.YtikonbnhbalpmaaMShelf
/-
  The program's pages: the cells of a page, sorted by their places: slices.SortFunc by a contract in the words of rows.
-/
namespace Go.Proofs.Ytikonbnhbalpmaa.G
set_option linter.unusedSimpArgs false
open Go Go.RowKit Go.Sort Go.Proofs.Ytikonbnhbalpmaa.B Go.Proofs.Ytikonbnhbalpmaa.C
set_option linter.unusedVariables false
/-- A cell as the library's contract holds it: two numbers of two bytes. -/
abbrev C2 := Fin 65536 × Fin 65536
def encK (x : C2) : List Value := [.int .i64 (x.1.val : Int), .int .i64 (x.2.val : Int)]
def toN (x : C2) : Nat × Nat := (x.1.val, x.2.val)
def ofN (c : Nat × Nat) : C2 := (Fin.ofNat 65536 c.1, Fin.ofNat 65536 c.2)
theorem toN_ofN {c : Nat × Nat} (h : c.1 < 65536 ∧ c.2 < 65536) : toN (ofN c) = c := by
  obtain ⟨a, b⟩ := c
  simp only [toN, ofN, Fin.ofNat, Nat.mod_eq_of_lt h.1, Nat.mod_eq_of_lt h.2]
theorem flat_row (d : Array C2) : (flatK encK 2 d).toList = rowC (d.toList.map toN) := by
  apply List.ext_getElem?
  intro i
  rw [rowC_get, List.getElem?_map, Array.getElem?_toList, Array.getElem?_toList]
  by_cases hi : i < d.size * 2
  · have h2 : i / 2 < d.size := by omega
    rw [Array.getElem?_eq_getElem (by simpa using hi), Array.getElem?_eq_getElem h2]
    have hg := get_flatK encK 2 d i hi
    rw [getElem!_pos _ i (by simpa using hi), getElem!_pos _ (i / 2) h2] at hg
    rw [hg]
    have hm : i % 2 = 0 ∨ i % 2 = 1 := by omega
    rcases hm with hm | hm <;> rw [hm] <;> rfl
  · rw [Array.getElem?_eq_none (by simpa using hi), Array.getElem?_eq_none (by omega)]; rfl
set_option maxHeartbeats 1000000 in
theorem less_any (x y : C2) (w : World) : Calls Try.prog 65 #[.agg (encK x).toArray, .agg (encK y).toArray] w fun e w' => e = .returned (.int .i64 ((x.1.val : Int) - y.1.val)) ∧ ∃ q os', w' = Sort.grow (w.drewN q) os' := by
  have hx := x.1.isLt
  have hy := y.1.isLt
  have hx2 := x.2.isLt
  have hy2 := y.2.isLt
  unfold encK
  generalize x.1.val = a at *
  generalize x.2.val = b at *
  generalize y.1.val = c at *
  generalize y.2.val = d at *
  go_enter Try.func65, Try.ntmps65
  go_wp2_with fail
  go_ret
  exact ⟨rfl, 0, _, by rw [alloc_eq_grow, alloc_eq_grow, grow_grow]; rfl⟩
theorem lt_of (x y : C2) : ltOf (fun x y : C2 => (x.1.val : Int) - y.1.val) x y = decide (x.1.val < y.1.val) := by
  show decide ((x.1.val : Int) - y.1.val < 0) = _
  by_cases h : x.1.val < y.1.val
  · rw [decide_eq_true h, decide_eq_true (by omega)]
  · rw [decide_eq_false h, decide_eq_false (by omega)]
theorem swo : SWO (ltOf fun x y : C2 => (x.1.val : Int) - y.1.val) where
  irrefl x := by rw [lt_of]; simp
  trans x y z h1 h2 := by rw [lt_of] at *; simp at *; omega
  ntrans x y z h1 h2 := by rw [lt_of] at *; simp at *; omega
/-- The row is sorted by its places. -/
theorem sort_some {w : World} {gb n c : Nat} {l : List (Nat × Nat)} (h : w.ownsRow 0 87 2 (.slice (some ⟨gb, 0, none⟩) n c) n (rowC l)) (hl : l.length = n) (hb : ∀ x ∈ l, x.1 < 65536 ∧ x.2 < 65536) (hn : n ≤ 65536) :
    Calls Try.prog 64 #[.slice (some ⟨gb, 0, none⟩) n c, .func (.func 65) #[] #[]] w fun e w' => e = .returned (.tuple #[]) ∧ ∃ l', l'.Perm l ∧ l'.Pairwise (fun a b => a.1 ≤ b.1) ∧ w'.ownsRow 0 87 2 (.slice (some ⟨gb, 0, none⟩) n c) n (rowC l') ∧ Only [gb] w w' := by
  obtain ⟨d, hd⟩ : ∃ d : Array C2, d.toList.map toN = l := ⟨(l.map ofN).toArray, by
    show (l.map ofN).map toN = l
    rw [List.map_map]
    conv => rhs; rw [← List.map_id l]
    exact List.map_congr_left fun x hx => toN_ofN (hb x hx)⟩
  have hsz : d.size = n := by rw [← hl, ← hd]; simp
  subst hd
  rw [← flat_row] at h
  have eg : ∀ args w, (callFunc 65 args).run Try.prog w = .ok (.enter 65 args) w := enters_of Try.func65 (by kernel_rfl) rfl
  have hcon := Try.slices_SortFunc (α := C2) 2 Try.isAgg87 Try.sizeOf87 encK (fun _ => rfl) (fun x v hv => by simp [encK] at hv; rcases hv with rfl | rfl <;> rfl) (fun x y => (x.1.val : Int) - y.1.val) swo 65 #[] gb 0 c d w eg (fun _ _ _ _ x y => less_any x y _) (owns_holds h hsz) (by rw [← hsz] at h; exact owns_lt h (by simp [Value.ownBlock])) (by omega)
  rw [hsz] at hcon
  refine hcon.mono ?_
  rintro e w' ⟨rfl, d', m, os, hp, hs, rfl⟩
  have hd' : d'.size = n := by rw [hp.1, hsz]
  have hrow := sortWorld_row (enc := encK) h m d' hd' os
  rw [flat_row] at hrow
  refine ⟨rfl, d'.toList.map toN, ?_, ?_, hrow.1, hrow.2⟩
  · have := hp.2.2
    rw [Array.toList_extract, Array.toList_extract] at this
    have e1 : d'.toList.extract 0 n = d'.toList := by rw [List.extract_eq_take_drop, List.drop_zero, Nat.sub_zero]; exact List.take_of_length_le (by simp [hd'])
    have e2 : d.toList.extract 0 n = d.toList := by rw [List.extract_eq_take_drop, List.drop_zero, Nat.sub_zero]; exact List.take_of_length_le (by simp [hsz])
    rw [e1, e2] at this
    exact this.map toN
  · rw [List.pairwise_map, List.pairwise_iff_getElem]
    intro i j hi hj hij
    have := hs i j (Nat.zero_le _) hij (by rw [← hd']; simpa using hj)
    rw [lt_of] at this
    simp only [Array.length_toList] at hi hj
    rw [getElem!_pos _ i hi, getElem!_pos _ j hj] at this
    simp only [decide_eq_false_iff_not, Nat.not_lt] at this
    simpa [toN] using this
end Go.Proofs.Ytikonbnhbalpmaa.G
