/-
  head of the program's log, by its contract.
-/
import Derived.Test.YtjbjikigiienkaaWalM
import Derived.Test.YtjbjikigiienkaaZeros
namespace Go.Proofs.Ytjbjikigiienkaa.W
set_option linter.unusedSimpArgs false
open Go.RowKit Go.Proofs.Ytjbjikigiienkaa.D Go.Proofs.Ytjbjikigiienkaa.B
set_option linter.unusedVariables false

theorem nilRow (w : World) : ByteRow 5 w (.slice none 0 0) [] := ⟨rfl, .inl ⟨rfl, rfl⟩⟩
set_option maxRecDepth 100000 in
theorem head_any {w : World} (size turn fin : Nat) (hs : size < 4294967296) (ht : turn < 18446744073709551616) (hf : fin < 18446744073709551616) (e : Int) (he : IntKind.u64.wrap e = fin) :
    Calls Try.prog 39 #[.int .i64 size, .int .u64 turn, .int .i64 e] w fun e w' => ∃ v', e = .returned v' ∧ Own w w' v' (headB size turn fin) := by
  have HB : Hid (headB size turn fin = ([] ++ le 1885433460 4 ++ le size 4 ++ le turn 8 ++ le fin 8 ++ List.replicate 232 0) ++ ([] ++ le 1885433460 4 ++ le size 4 ++ le turn 8 ++ le fin 8 ++ List.replicate 232 0)) := rfl
  have HE := Lib.hid he
  clear he
  go_enter Try.func39, Try.ntmps39
  go_wp2_with fail
  refine (little_n (m := 0) (nilRow w) rfl 1885433460 (by omega) 4 (by omega) (by omega) (m' := 4) rfl).mono ?_
  rintro e w1 ⟨a1, k1, rfl, hg1, hl1⟩
  have G1 := Lib.hid hg1
  have E1 := Lib.hid hl1
  clear hg1 hl1
  generalize [] ++ le 1885433460 4 = L1 at *
  go_wp2_with fail
  refine (little_n G1.out.row E1.out size (by omega) 4 (by omega) (by omega) (m' := 8) rfl).mono ?_
  rintro e w2 ⟨a2, k2, rfl, hg2, hl2⟩
  have G2 := Lib.hid (G1.out.trans hg2)
  have E2 := Lib.hid hl2
  clear hg2 hl2
  generalize L1 ++ le size 4 = L2 at *
  go_wp2_with fail
  refine (little_n G2.out.row E2.out turn (by omega) 8 (by omega) (by omega) (m' := 16) rfl).mono ?_
  rintro e w3 ⟨a3, k3, rfl, hg3, hl3⟩
  have G3 := Lib.hid (G2.out.trans hg3)
  have E3 := Lib.hid hl3
  clear hg3 hl3
  generalize L2 ++ le turn 8 = L3 at *
  go_wp2_with fail
  rw [HE.out]
  refine (little_n G3.out.row E3.out fin (by omega) 8 (by omega) (by omega) (m' := 24) rfl).mono ?_
  rintro e w4 ⟨a4, k4, rfl, hg4, hl4⟩
  have G4 := Lib.hid (G3.out.trans hg4)
  have E4 := Lib.hid hl4
  clear hg4 hl4
  generalize L3 ++ le fin 8 = L4 at *
  go_wp2_with (refine wpList_zeros rfl (.tmp 18) (.tmp 21) 34 3 rfl 5 Try.underlying34 Try.underlying3 (info_parts B.info_byte) rfl rfl (.slice a4 24 k4) 24 (u8s L4) rfl G4.out.own 232 rfl (by omega) (by omega) (by omega) ?_)
  intro v5 w5 hg5
  have e5 : u8s L4 ++ List.replicate 232 (.int .u8 0) = u8s (L4 ++ List.replicate 232 0) := by rw [u8s_append, u8s_replicate]
  have hl5 : (L4 ++ List.replicate 232 (0 : UInt8)).length = 256 := by rw [List.length_append, E4.out, List.length_replicate]
  have G5 := Lib.hid (G4.out.trans (hg5.to (n' := 256) rfl e5))
  have E5 := Lib.hid hl5
  obtain ⟨g5, c5, rfl, _⟩ := G5.out.own.form (by omega)
  clear hg5 e5 hl5
  generalize L4 ++ List.replicate 232 (0 : UInt8) = L5 at *
  have CS := Lib.hid (G5.out.own.cells (g := g5) rfl)
  have CL : Hid ((u8s L5).length = 256 * 1) := by show _ = _; rw [length_u8s, E5.out]
  go_wp2_with (refine wpList_grow rfl (.tmp 23) (.tmp 24) 34 rfl 5 Try.underlying34 (info_parts B.info_byte) rfl (by omega) (.slice (some ⟨g5, 0, none⟩) 256 c5) 256 (u8s L5) rfl G5.out.own (some ⟨g5, 0, none⟩) 256 c5 rfl (u8s L5) CL.out (fun _ => ⟨_, rfl, CS.out⟩) (u8s_oneCell _) (by omega) (by omega) ?_)
  intro v6 w6 hg6
  have G6 := Lib.hid (G5.out.trans (hg6.to (xs' := u8s (L5 ++ L5)) rfl (by rw [u8s_append])))
  obtain ⟨a6, c6, rfl⟩ := hg6.shape
  clear hg6
  go_wp2_with fail
  go_ret
  refine ⟨_, rfl, ?_, fun k hk => ?_, G6.out.only⟩
  · rw [HB.out]
    exact G6.out.row
  · rcases G6.out.lies k hk with h | h
    · simp [Value.ownBlock] at h
    · exact h
end Go.Proofs.Ytjbjikigiienkaa.W
