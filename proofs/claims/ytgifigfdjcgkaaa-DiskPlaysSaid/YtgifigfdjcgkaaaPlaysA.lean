/-
  few and Spoil of the laws on disks, by contracts.
-/
import Derived.Test.YtgifigfdjcgkaaaSteps
import Derived.Deep.DeepCutAuto
namespace Go.Proofs.Ytgifigfdjcgkaaa.D
set_option linter.unusedSimpArgs false
open Go.RowKit
set_option linter.unusedVariables false

def FewPost (l : List StepD) (w : World) (e : Ending) (w' : World) : Prop :=
  ∃ r : Bool, e = .returned (.bool r) ∧ w = w' ∧ (r = true → l.length ≤ 60 ∧ ∀ i, i < l.length → (l.getD i stepZ).keep.length ≤ 100) ∧ ((l.length ≤ 60 ∧ ∀ i, i < l.length → (l.getD i stepZ).keep.length ≤ 100) → r = true)

set_option maxRecDepth 100000 in
theorem few_any {w : World} {v : Value} {l : List StepD} (h : StepsAt w v l) : Calls Try.prog 21 #[v] w (FewPost l w) := by
  obtain ⟨ao, cap, rfl, hl, hc⟩ := h
  unfold maxLen at hl
  have HC := Lib.hid hc
  clear hc
  generalize hn : l.length = n at *
  have HN := Lib.hid hn
  clear hn
  go_enter Try.func21, Try.ntmps21
  go_wp2_with fail
  go_loopg [3] n (fun gk i wr => ∃ k : Nat, gk = n - k ∧ k ≤ n ∧ i = .int .i64 k ∧ (∀ j, j < k → (l.getD j stepZ).keep.length ≤ 100) ∧ wr = w)
  case atStart => exact ⟨0, by omega, Nat.zero_le _, rfl, fun j hj => by omega, rfl⟩
  case round =>
    obtain ⟨k, hgk, hk, rfl, hall, rfl⟩ := hrel
    have HGK := Lib.hid hgk
    have HALL := Lib.hid hall
    clear hgk hall
    by_cases hlt : k < n
    · obtain ⟨b, o, rfl, hs⟩ := HC.out (by omega)
      obtain ⟨kv, hcell, ⟨ka, kc, rfl, _⟩, _⟩ := hs k hlt
      have c5 := hcell 5 (by omega)
      simp only [stepCells, List.getElem?_cons_zero, List.getElem?_cons_succ] at c5
      clear hs hcell
      have hk0 : (0 : Int) ≤ k := by omega
      have hk1 : (k : Int) < n := by omega
      by_cases h100 : 100 < ((l.getD k stepZ).keep.length : Int)
      · have HBIG : Hid (¬ (l.getD k stepZ).keep.length ≤ 100) := by show ¬ _; omega
        generalize hm : (l.getD k stepZ).keep.length = m at *
        have HM := Lib.hid hm
        clear hm
        go_wp2_with fail
        go_ret
        exact ⟨false, rfl, rfl, (fun h => absurd h (by decide)), fun hh => absurd (by rw [← HM.out]; exact hh.2 k (by rw [HN.out]; exact hlt)) HBIG.out⟩
      · have HB : Hid ((l.getD k stepZ).keep.length ≤ 100) := by show _ ≤ _; omega
        generalize hm : (l.getD k stepZ).keep.length = m at *
        have HM := Lib.hid hm
        clear hm
        go_wp2_with fail
        go_roundg (n - (k + 1))
        case measure => have := HGK.out; omega
        case rel =>
          refine ⟨k + 1, rfl, by omega, by go_num, fun j hj => ?_, rfl⟩
          by_cases e : j = k
          · rw [e, HM.out]; exact HB.out
          · exact HALL.out j (by omega)
    · obtain rfl : k = n := by omega
      by_cases h60 : (k : Int) ≤ 60
      · go_wp2_with fail
        go_ret
        exact ⟨true, by simp, rfl, fun _ => ⟨by rw [HN.out]; omega, by rw [HN.out]; exact HALL.out⟩, fun _ => rfl⟩
      · go_wp2_with fail
        go_ret
        exact ⟨false, by simp, rfl, (fun h => absurd h (by decide)), fun hh => absurd hh.1 (by rw [HN.out]; omega)⟩

set_option maxRecDepth 100000 in
theorem spoil_any {w : World} {g n c : Nat} {cs : List Value} (h : Blk w g cs 5) (hn : cs.length = n) (hl : n ≤ 1048576) :
    Calls Try.prog 24 #[.slice (some ⟨g, 0, none⟩) n c] w fun e w' => e = .returned (.tuple #[]) ∧ Only [g] w w' := by
  have HH := Lib.hid h
  have HN := Lib.hid hn
  clear h hn
  go_enter Try.func24, Try.ntmps24
  go_wp2_with fail
  go_loopg [2] n (fun gk i wr => ∃ (k : Nat) (cs' : List Value), gk = n - k ∧ k ≤ n ∧ i = .int .i64 k ∧ cs'.length = n ∧ Blk wr g cs' 5 ∧ Only [g] w wr)
  case atStart => exact ⟨0, cs, by omega, Nat.zero_le _, rfl, HN.out, HH.out, Only.refl _ _⟩
  case round =>
    obtain ⟨k, cs', hgk, hk, rfl, hcl, hb, hO⟩ := hrel
    have HGK := Lib.hid hgk
    have HCL := Lib.hid hcl
    have HB := Lib.hid hb
    have HO := Lib.hid hO
    clear hgk hcl hb hO
    by_cases hlt : k < n
    · obtain ⟨oldv, cw⟩ := HB.out.at k (by rw [HCL.out]; exact hlt)
      have fw := HB.out.frozen k
      have hk0 : (0 : Int) ≤ k := by omega
      have hk1 : (k : Int) < n := by omega
      go_wp2_with fail
      go_roundg (n - (k + 1))
      case measure => have := HGK.out; omega
      case rel => exact ⟨k + 1, cs'.set k (.int .u8 238), rfl, by omega, by go_num, by rw [List.length_set]; exact HCL.out, HB.out.set k _, HO.out.setCell (p := ⟨g, k, none⟩) (.inl (by simp)) _⟩
    · obtain rfl : k = n := by omega
      go_wp2_with fail
      go_end0
      exact ⟨rfl, HO.out⟩
theorem spoil_nil {w : World} (ao : Option Addr) (c : Nat) : Calls Try.prog 24 #[.slice ao 0 c] w fun e w' => e = .returned (.tuple #[]) ∧ w = w' := by
  go_enter Try.func24, Try.ntmps24
  go_wp2_with fail
  go_loopg [2] 0 (fun gk i wr => i = .int .i64 0 ∧ wr = w)
  case atStart => exact ⟨rfl, rfl⟩
  case round =>
    obtain ⟨rfl, rfl⟩ := hrel
    go_wp2_with fail
    go_end0
    exact ⟨rfl, rfl⟩
end Go.Proofs.Ytgifigfdjcgkaaa.D
