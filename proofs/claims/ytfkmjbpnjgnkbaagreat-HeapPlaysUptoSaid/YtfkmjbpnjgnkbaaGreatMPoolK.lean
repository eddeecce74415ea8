import Derived.Test.YtfkmjbpnjgnkbaaGreatMPoolV
import Derived.Test.YtfkmjbpnjgnkbaaGreatMSortG
import Derived.Deep.LoopGhost
/-
  The pool's Used, Held, Adopt; the law's has: by contracts.
-/
namespace Go.Proofs.YtfkmjbpnjgnkbaaGreat.P
set_option linter.unusedSimpArgs false
open Go Go.RowKit Go.Proofs.YtfkmjbpnjgnkbaaGreat Go.Proofs.YtfkmjbpnjgnkbaaGreat.D Go.Proofs.YtfkmjbpnjgnkbaaGreat.B Go.Proofs.YtfkmjbpnjgnkbaaGreat.I
set_option linter.unusedVariables false
variable {w w' : World} {p d ub hm pm asked k : Nat} {MD M : List Nat} {L : List Pl} {S : PS}

theorem info_int : (Tryz.prog.info? 3).map (fun i => (i.zero, i.size, i.bytes)) = some (some (.int .i64 0), 1, 8) := by kernel_rfl
def count : List Bool → Nat := fun l => l.count true
theorem count_take {l : List Bool} {k : Nat} (h : k < l.length) : count (l.take (k + 1)) = count (l.take k) + if l.getD k false = true then 1 else 0 := by
  unfold count
  rw [List.take_succ_eq_append_getElem h, List.count_append, List.getD_eq_getElem?_getD, List.getElem?_eq_getElem h]
  cases l[k] <;> simp
/-- A new row of so many ints. -/
def IntRow (w w' : World) (v : Value) (n : Nat) : Prop := ∃ a c, v = .slice a n c ∧ (∃ xs, w'.ownsRow 0 3 1 v n xs) ∧ (∀ x, v.ownBlock = some x → w.heap.size ≤ x)
set_option maxHeartbeats 2000000 in
theorem Pool.usedList (h : Pool w p d M S k) : Calls Tryz.prog 24 #[.pointer (some ⟨p, 0, none⟩)] w fun e w' => ∃ v, e = .returned v ∧ IntRow w w' v (count S.used) ∧ Only [] w w' := by
  obtain ⟨MD, ub, hm, pm, asked, L, hA, _⟩ := h.at_
  have c3 := hA.pool.cell 3
  simp only [poolCells, List.getElem?_cons_succ, List.getElem?_cons_zero] at c3
  have HC := Lib.hid (fun j (hj : j < S.used.length) => hA.usedCell hj)
  have hsz := hA.size
  clear h hA
  generalize S.used = u at *
  generalize hn : u.length = n at *
  have HN := Lib.hid hn
  clear hn
  go_enter Tryz.func24, Tryz.ntmps24
  go_wp2_with fail
  go_loopg [3, 11] n (fun gk v i wr => ∃ k : Nat, gk = n - k ∧ k ≤ n ∧ i = .int .i64 k ∧ Only [] w wr ∧ (∃ a c, v = .slice a (count (u.take k)) c) ∧ (∃ xs, wr.ownsRow 0 3 1 v (count (u.take k)) xs) ∧ (∀ x, v.ownBlock = some x → w.heap.size ≤ x) ∧ count (u.take k) ≤ k)
  case atStart => exact ⟨0, rfl, Nat.zero_le _, rfl, Only.refl _ _, ⟨none, 0, rfl⟩, ⟨[], ⟨rfl, .inl ⟨rfl, rfl⟩⟩⟩, (fun x hx => by cases hx), Nat.le_refl 0⟩
  case round =>
    obtain ⟨k, hgk, hk, rfl, hO, ⟨av, cv, rfl⟩, ⟨xs, hr⟩, hnw, hck⟩ := hrel
    have HGK := Lib.hid hgk
    have OO := Lib.hid hO
    have RR := Lib.hid hr
    have NW := Lib.hid hnw
    clear hgk hO hr hnw
    by_cases hlt : k < n
    · have hct := count_take (l := u) (k := k) (by rw [HN.out]; exact hlt)
      have cc := OO.out.cell (HC.out k hlt) (by simp)
      have hki : (k : Int) < n := by omega
      have hk0 : (0 : Int) ≤ k := by omega
      generalize count (u.take k) = ck at *
      cases hb : u.getD k false with
      | false =>
        rw [hb] at hct cc
        simp only [Bool.false_eq_true, if_false, Nat.add_zero] at hct
        have HCT := Lib.hid hct
        clear hct hb
        go_wp2_with fail
        go_roundg (n - (k + 1))
        case measure => have := HGK.out; omega
        case rel => exact ⟨k + 1, rfl, by omega, by go_num, OO.out, ⟨av, cv, by rw [HCT.out]⟩, ⟨xs, by rw [HCT.out]; exact RR.out⟩, NW.out, by rw [HCT.out]; omega⟩
      | true =>
        rw [hb] at hct cc
        simp only [if_true] at hct
        have HCT := Lib.hid hct
        clear hct hb
        go_wp2_with (refine wpList_push rfl (.tmp 17) (.tmp 19) 34 rfl 3 Tryz.underlying34 (info_parts info_int) rfl (.slice av ck cv) ck xs rfl (owns_past RR.out ((Only.refl _ _).alloc _)) _ _ _ rfl (by exact (Blk.new _ _ _).cell 0) rfl (by omega) (by decide) ?_; intro g cp w6 hown hO6 hat hg)
        have O6 : Hid (Only [] w w6) := (OO.out.alloc (.cells #[.int .i64 k] 3)).trans hO6 (fun x hx => .inr (NW.out x (by simpa using hx)))
        have N6 : Hid (w.heap.size ≤ g) := by
          rcases hat with h | h
          · exact NW.out g h
          · show _ ≤ _
            have := OO.out.size
            rw [h, World.size_alloc]; omega
        have R6 := Lib.hid hown
        clear hown hO6 hat hg
        go_wp2_with fail
        go_roundg (n - (k + 1))
        case measure => have := HGK.out; omega
        case rel => exact ⟨k + 1, rfl, by omega, by go_num, O6.out, ⟨_, cp, by rw [HCT.out]⟩, ⟨_, by rw [HCT.out]; exact R6.out⟩, fun x hx => by simp [Value.ownBlock] at hx; subst hx; exact N6.out, by rw [HCT.out]; omega⟩
    · obtain rfl : k = n := by omega
      have hki : ¬ (k : Int) < k := by omega
      have e : Hid (count (u.take k) = count u) := by show _ = _; rw [List.take_of_length_le (by rw [HN.out]; exact Nat.le_refl _)]
      go_wp2_with fail
      go_ret
      rw [← e.out]
      exact ⟨_, rfl, ⟨av, cv, rfl, ⟨xs, RR.out⟩, NW.out⟩, OO.out⟩
/-! ### Held -/
def PS.heldIds (S : PS) : List Int := rising (S.held.map fun f => (f.id : Int))
/-! ### has -/
end Go.Proofs.YtfkmjbpnjgnkbaaGreat.P
