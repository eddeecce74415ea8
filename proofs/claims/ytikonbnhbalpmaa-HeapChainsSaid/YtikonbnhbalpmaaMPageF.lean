import Derived.Test.YtikonbnhbalpmaaMPageE
import Derived.Test.YtikonbnhbalpmaaMPageQ
/-
  The program's pages: the first free slot; Check: by contracts.
-/
namespace Go.Proofs.Ytikonbnhbalpmaa.G
set_option linter.unusedSimpArgs false
open Go Go.RowKit Go.Proofs.Ytikonbnhbalpmaa.B Go.Proofs.Ytikonbnhbalpmaa.C
set_option linter.unusedVariables false
set_option maxRecDepth 100000 in
theorem isfree_any (a b : Nat) (w : World) : Calls Try.prog 50 #[.agg #[.int .i64 a, .int .i64 b]] w fun e w' => e = .returned (.bool (a == 0)) ∧ Only [] w w' := by
  have e : ((a : Int) == 0) = (a == 0) := by rw [Bool.eq_iff_iff, beq_iff_eq, beq_iff_eq]; omega
  generalize (a == 0) = z at *
  go_enter Try.func50, Try.ntmps50
  go_wp2_with fail
  go_ret
  exact ⟨rfl, (Only.refl _ _).alloc _⟩
def idxF (cs : List (Nat × Nat)) : Int := if cs.findIdx (fun c => c.1 == 0) < cs.length then (cs.findIdx (fun c => c.1 == 0) : Int) else -1
set_option maxRecDepth 100000 in
theorem index_any {w : World} {v : Value} {n : Nat} {cs : List (Nat × Nat)} (h : w.ownsRow 0 87 2 v n (rowC cs)) (hl : cs.length = n) (hn : n ≤ 125) :
    Calls Try.prog 49 #[v, .func (.func 50) #[] #[]] w fun e w' => e = .returned (.int .i64 (idxF cs)) ∧ Only [] w w' := by
  have HROW := Lib.hid h
  have HCL := Lib.hid hl
  obtain ⟨ao, cap, rfl⟩ := owns_form h
  have SOME : Hid (0 < n → ∃ g, ao = some ⟨g, 0, none⟩ ∧ n ≤ cap) := fun h0 => by
    obtain ⟨g, c, he, hc⟩ := owns_some h h0
    simp only [Value.slice.injEq, true_and] at he
    obtain ⟨rfl, rfl⟩ := he
    exact ⟨g, rfl, hc⟩
  have IC : (Try.prog.info? 87).map (·.size) = some 2 := by kernel_rfl
  clear h hl
  go_enter Try.func49, Try.ntmps49
  go_wp2_with fail
  go_loopg [5, 8] n (fun gk s5 s8 wx => ∃ j : Nat, gk = n - j ∧ j ≤ n ∧ s8 = .int .i64 j ∧ (∀ i, (hi : i < cs.length) → i < j → cs[i].1 ≠ 0) ∧ Only [] w wx)
  case atStart => exact ⟨0, rfl, Nat.zero_le _, rfl, fun i _ hi => by omega, Only.refl _ _⟩
  case round =>
    obtain ⟨j, hgk, hj, rfl, hno, hO⟩ := hrel
    have HGK := Lib.hid hgk
    have NO := Lib.hid hno
    have OO := Lib.hid hO
    clear hgk hno hO
    by_cases hlt : j < n
    · have hj0 : (0 : Int) ≤ j := by omega
      have hj1 : (j : Int) < n := by omega
      obtain ⟨g, rfl, hcap⟩ := SOME.out (by omega)
      have hjl : j < cs.length := by rw [HCL.out]; exact hlt
      obtain ⟨⟨a, b2⟩, hcj⟩ : ∃ c, cs[j]? = some c := ⟨cs[j], List.getElem?_eq_getElem hjl⟩
      have RNG : Hid (wr.rangeAt g (j * 2) [.int .i64 a, .int .i64 b2]) := range_off (row_range HROW.out hlt hcj) OO.out
      have GJ : Hid (cs[j] = (a, b2)) := by
        show _ = _
        rw [List.getElem?_eq_getElem hjl] at hcj
        exact Option.some.inj hcj
      have HJL := Lib.hid hjl
      have UC := Try.underlying87
      have FR := Lib.hid (isfree_any a b2)
      clear hcj
      by_cases h0 : a = 0
      · have FX : Hid (idxF cs = j) := by
          show _ = _
          have := (List.findIdx_eq (p := fun c : Nat × Nat => c.1 == 0) HJL.out).2 ⟨by rw [GJ.out]; simp [h0], fun i hi => by
            have := NO.out i (by have := HJL.out; omega) hi
            simpa using this⟩
          unfold idxF
          rw [this, if_pos HJL.out]
        subst h0
        go_wp2_with (first | (refine wpList_load_mid rfl 87 (.tmp 14) rfl g (j * 2) rfl [.int .i64 0, .int .i64 b2] _ RNG.out UC rfl IC ?_) | (go_at_call 50; refine (FR.out _).mono ?_; rintro e w2 ⟨rfl, hO2⟩; have O2 := Lib.hid (OO.out.trans hO2 (by simp)); clear hO2))
        go_ret
        exact ⟨by rw [FX.out]; rfl, O2.out⟩
      · have h0B : (a == 0) = false := beq_eq_false_iff_ne.2 h0
        rw [h0B] at FR
        go_wp2_with (first | (refine wpList_load_mid rfl 87 (.tmp 14) rfl g (j * 2) rfl [.int .i64 a, .int .i64 b2] _ RNG.out UC rfl IC ?_) | (go_at_call 50; refine (FR.out _).mono ?_; rintro e w2 ⟨rfl, hO2⟩; have O2 := Lib.hid (OO.out.trans hO2 (by simp)); clear hO2))
        go_roundg (n - (j + 1))
        case measure => have := HGK.out; omega
        case rel =>
          refine ⟨j + 1, rfl, by omega, by go_num, fun i hi hij => ?_, O2.out⟩
          by_cases hi2 : i = j
          · subst hi2
            rw [GJ.out]; exact h0
          · exact NO.out i hi (by omega)
    · obtain rfl : j = n := by omega
      have FX : Hid (idxF cs = -1) := by
        show _ = _
        unfold idxF
        rw [if_neg]
        intro hlt2
        have h1 := List.findIdx_getElem (p := fun c : Nat × Nat => c.1 == 0) (w := hlt2)
        exact NO.out _ hlt2 (by rw [← HCL.out]; exact hlt2) (by simpa using h1)
      go_wp2_with fail
      go_ret
      exact ⟨by rw [FX.out]; rfl, OO.out⟩
end Go.Proofs.Ytikonbnhbalpmaa.G
