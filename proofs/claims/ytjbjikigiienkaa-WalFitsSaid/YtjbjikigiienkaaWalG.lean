/-
  The program's log: Format by its contract.
-/
import Derived.Test.YtjbjikigiienkaaWalF
namespace Go.Proofs.Ytjbjikigiienkaa.W
set_option linter.unusedSimpArgs false
open Go.RowKit Go.Proofs.Ytjbjikigiienkaa.D Go.Proofs.Ytjbjikigiienkaa.B
set_option linter.unusedVariables false
variable {W w w' w2 : World} {p d : Nat} {v v' : Value} {l l' : LS} {M M' : List Nat} {s s' : DS}

/-- The disk s at d, made since W. -/
structure Dk (W w : World) (d : Nat) (M : List Nat) (s : DS) : Prop where
  dk : Disk w d M s
  own : Only [] W w
  nd : ∀ x ∈ M, W.heap.size ≤ x
theorem Dk.past (h : Dk W w d M s) (hO : Only [] w w') : Dk W w' d M s := ⟨h.dk.past hO, h.own.trans hO (by simp), h.nd⟩
theorem Logd.dks (h : Logd W w p d v l M s) : Dk W w d M s := ⟨h.dk, h.own, h.nd⟩
theorem seeTo_slot (l : LS) (s : DS) (h : l.slot < 2) : ∀ k, k ≤ 2 → (l.seeTo s k).slot < 2
  | 0, _ => h
  | k + 1, hk => by
    have := seeTo_slot l s h k (by omega)
    simp only [LS.seeTo, LS.see]
    split
    · simp only; omega
    · exact this
theorem seeTo_turn (l : LS) (s : DS) (B : Nat) (h : l.turn < B) (hb : ∀ i, i < 2 → turnOf (s.now.getD (l.first + i) []) < B) : ∀ k, k ≤ 2 → (l.seeTo s k).turn < B
  | 0, _ => h
  | k + 1, hk => by
    have := seeTo_turn l s B h hb k (by omega)
    simp only [LS.seeTo, LS.see]
    split
    · exact hb _ (by omega)
    · exact this
theorem Dk.log (h : Dk W w d M s) (first size : Nat) : Logd W (w.alloc (.cells (logCells d (.slice none 0 0) (fresh0 first size)).toArray 58)) w.heap.size d (.slice none 0 0) (fresh0 first size) M s where
  dk := h.dk.past ((Only.refl _ _).alloc _)
  lg := ⟨Blk.new _ _ _, nilRow _⟩
  own := h.own.trans ((Only.refl [] _).alloc _) (by simp)
  nd := h.nd
  np := h.own.size
  nv := fun k hk => by cases hk

def FormatPost (W : World) (d : Nat) (s : DS) (first size : Int) (w : World) (e : Ending) (w' : World) : Prop :=
  if placedB first size s.now.length = true then e = .returned (.int .i64 (formatS s first.toNat size.toNat).2) ∧ ∃ M', Dk W w' d M' (formatS s first.toNat size.toNat).1 ∧ Far (.slice none 0 0) w w'
  else e = .returned (.int .i64 30) ∧ w = w'
set_option maxRecDepth 100000 in
set_option maxHeartbeats 1000000 in
theorem format_any (h : Dk W w d M s) (first size : Int) (h1 : -9223372036854775808 ≤ first ∧ first ≤ 9223372036854775807) (h2 : -9223372036854775808 ≤ size ∧ size ≤ 9223372036854775807) (hb : s.now.length ≤ 16384) (hr : Room s 2)
    (ht : ∀ i, i < 2 → turnOf (s.now.getD (first.toNat + i) []) + 2 < 18446744073709551616) :
    Calls Try.prog 9 #[.pointer (some ⟨d, 0, none⟩), .int .i64 first, .int .i64 size] w (FormatPost W d s first size w) := by
  have HP := Lib.hid (placed_any h.dk first size h1 h2)
  have HH := Lib.hid h
  have HR := Lib.hid hr
  have HT := Lib.hid ht
  clear h hr ht
  by_cases hp : placedB first size s.now.length = true
  · rw [hp] at HP
    have HPB := Lib.hid hp
    obtain ⟨a, ha⟩ : ∃ a : Nat, first = a := ⟨first.toNat, by unfold placedB at hp; simp at hp; omega⟩
    obtain ⟨z, hz⟩ : ∃ z : Nat, size = z := ⟨size.toNat, by unfold placedB at hp; simp at hp; omega⟩
    subst ha; subst hz
    have hfit : a + z ≤ s.now.length ∧ 4 ≤ z := by unfold placedB at hp; simp at hp; omega
    clear hp
    go_enter Try.func9, Try.ntmps9
    go_wp2_with fail
    refine HP.out.mono ?_
    rintro e w' ⟨rfl, rfl⟩
    go_wp2_with fail
    have L1 := Lib.hid (HH.out.log a z)
    have F1 : Hid (Far (.slice none 0 0) w (w.alloc (.cells (logCells d (.slice none 0 0) (fresh0 a z)).toArray 58))) := Far.past _ ((Only.refl _ _).alloc _)
    have HG := Lib.hid (heading_any L1.out ⟨by show 2 ≤ z; omega, by show a + z ≤ _; exact hfit.1, hb⟩ (by show 0 < _; omega))
    refine HG.out.mono ?_
    intro e w3 hpost
    unfold HeadingPost at hpost
    by_cases hdn : s.down = true
    · rw [if_pos hdn] at hpost
      obtain ⟨rfl, hL3, hF3⟩ := hpost
      have L3 := Lib.hid hL3
      have F3 := Lib.hid (F1.out.trans hF3 (fun x hx => .inl hx))
      have HDN := Lib.hid hdn
      clear hL3 hF3 hdn
      go_wp2_with fail
      go_ret
      unfold FormatPost
      rw [if_pos HPB.out]
      unfold formatS
      rw [if_pos HDN.out]
      exact ⟨rfl, M, L3.out.dks, F3.out⟩
    · rw [if_neg hdn] at hpost
      obtain ⟨rfl, hL3, hF3⟩ := hpost
      have L3 := Lib.hid hL3
      have F3 := Lib.hid (F1.out.trans hF3 (fun x hx => .inl hx))
      have HDN := Lib.hid hdn
      clear hL3 hF3 hdn
      have SF := Lib.hid (LS.seeTo_first (fresh0 a z) s 2)
      have HF : Hid (formatS s a z = ((headsS ((fresh0 a z).seeTo s 2) s 0).2.1, (headsS ((fresh0 a z).seeTo s 2) s 0).2.2)) := by
        show _ = _
        unfold formatS
        rw [if_neg HDN.out]
      have HE := Lib.hid (heads_any L3.out 0 (by omega) (by rw [SF.out.2.1]; show z ≤ _; omega) (by rw [SF.out.1]; show a ≤ _; omega) (by have := seeTo_turn (fresh0 a z) s 18446744073709551614 (by show 0 < _; omega) (fun i hi => by have := HT.out i hi; rw [Int.toNat_natCast] at this; show turnOf (s.now.getD (a + i) []) < _; omega) 2 (by omega); omega) (seeTo_slot _ s (by show 0 < 2; omega) 2 (by omega)) HR.out)
      generalize (fresh0 a z).seeTo s 2 = l1 at *
      go_wp2_with fail
      refine HE.out.mono ?_
      rintro e w4 ⟨rfl, M4, hL4, hF4⟩
      have L4 := Lib.hid hL4
      have F4 := Lib.hid (F3.out.trans hF4 (fun x hx => .inl hx))
      clear hL4 hF4
      go_wp2_with fail
      go_ret
      unfold FormatPost
      rw [if_pos HPB.out, Int.toNat_natCast, Int.toNat_natCast, HF.out]
      exact ⟨rfl, M4, L4.out.dks, F4.out⟩
  · have hp2 : placedB first size s.now.length = false := by simpa using hp
    rw [hp2] at HP
    have HPB := Lib.hid hp
    clear hp hp2
    go_enter Try.func9, Try.ntmps9
    go_wp2_with fail
    refine HP.out.mono ?_
    rintro e w' ⟨rfl, rfl⟩
    go_wp2_with fail
    go_ret
    unfold FormatPost
    rw [if_neg HPB.out]
    exact ⟨rfl, rfl⟩
end Go.Proofs.Ytjbjikigiienkaa.W
