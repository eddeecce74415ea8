/-
  PagePlays, walked: it answers true.
-/
import Derived.Test.YtdgnndcnpmlifaaDoesB
namespace Go.Proofs.Ytdgnndcnpmlifaa.G
set_option linter.unusedSimpArgs false
open Go Go.RowKit Go.Proofs.Ytdgnndcnpmlifaa.B Go.Proofs.Ytdgnndcnpmlifaa.C
set_option linter.unusedVariables false
set_option maxRecDepth 100000 in
set_option maxHeartbeats 8000000 in
theorem plays_main {w : World} {v : Value} {l : List StepD} (kind : UInt8) (hl : StepsAt w v l) (hf : fewB l = true) :
    Calls Try.prog 6 #[.int .u8 kind.toNat, v] w fun e w' => e = .returned (.bool true) ∧ Below w.heap.size w w' := by
  have NW : Hid (∀ w1, Calls Try.prog 9 #[.int .u8 kind.toNat] w1 fun e w' => ∃ gb c, e = .returned (.slice (some ⟨gb, 0, none⟩) 512 c) ∧ Buf w' gb c (newP kind) ∧ w1.heap.size ≤ gb ∧ Only [] w1 w') := fun w1 => new_any kind
  have RW : Hid (∀ w1, Calls Try.prog 20 #[.int .u8 kind.toNat] w1 fun e w' => ∃ gb c, e = .returned (.slice (some ⟨gb, 0, none⟩) 512 c) ∧ Buf w' gb c (newP kind) ∧ w1.heap.size ≤ gb ∧ Only [] w1 w') := fun w1 => rnew_any kind
  have HP0 : Hid (Pg (newP kind) ∧ g (newP kind) 4 = kind.toNat) := ⟨(new_fresh kind).pg, (new_fresh kind).kind⟩
  generalize newP kind = p0 at *
  have FW : Hid (∀ w1, Only [] w w1 → Calls Try.prog 15 #[v] w1 fun e w' => e = .returned (.bool true) ∧ w1 = w') := fun w1 hO => by
    have := few_any (hl.past hO)
    rw [hf] at this
    exact this
  have FE : Hid (∀ i, i < l.length → (l.getD i stepZ).cell.length ≤ 600) := (few_yes.1 hf).2
  have hmn : l.length ≤ 160 := (few_yes.1 hf).1
  obtain ⟨ao, cap, rfl, hm, hc⟩ := hl
  have HC := Lib.hid hc
  obtain ⟨kn, hkn⟩ : ∃ kn : Nat, kind.toNat = kn := ⟨_, rfl⟩
  rw [hkn] at NW RW HP0 ⊢
  generalize l.length = n at *
  clear hc hm hf hkn
  go_enter Try.func6, Try.ntmps6
  go_wp2_with (first
    | (go_at_call 8; refine (known_any w).mono ?_; rintro e w1 ⟨rfl, hO1⟩; have O1 := Lib.hid hO1; clear hO1)
    | (go_at_call 15; refine (FW.out _ O1.out).mono ?_; rintro e w3 ⟨rfl, rfl⟩)
    | (go_at_call 9; refine (NW.out _).mono ?_; rintro e w2 ⟨gb, c, rfl, hb2, hg2, hO2⟩; have B2 := Lib.hid hb2; have O2 := Lib.hid (O1.out.trans hO2 (by simp)); clear hb2 hg2 hO2)
    | (go_at_call 20; refine (RW.out _).mono ?_; rintro e w4 ⟨gb4, c4, rfl, hb4, hg4, hO4⟩; have B4 := Lib.hid hb4; have B24 := Lib.hid (B2.out.past hO4); have O4 := Lib.hid (O2.out.trans hO4 (by simp)); clear hb4 hg4 hO4)
    | (go_at_call 19; refine (bytesf_yes B24.out.at B4.out.at rfl).mono ?_; rintro e w5 ⟨rfl, rfl⟩))
  go_loopg [5, 6] n (fun gk s5 s6 wx => ∃ (j : Nat) (p : List UInt8), gk = n - j ∧ j ≤ n ∧ s6 = .int .i64 j ∧ (Pg p ∧ g p 4 = kn) ∧ BytesC wx s5 p ∧ Only [] w wx)
  case atStart => exact ⟨0, p0, rfl, Nat.zero_le _, rfl, HP0.out, B24.out.c, O4.out⟩
  case round =>
    obtain ⟨j, p, hgk, hj, rfl, hpg, hbc, hO⟩ := hrel
    have HGK := Lib.hid hgk
    have PG := Lib.hid hpg
    have BC := Lib.hid hbc
    have OO := Lib.hid hO
    clear hgk hpg hbc hO B2 B4 B24 O1 O2 O4 NW RW
    by_cases hlt : j < n
    · have i0 : (0 : Int) ≤ j := by omega
      have i1 : (j : Int) < n := by omega
      obtain ⟨sb, so, rfl, hst⟩ := HC.out (by omega)
      obtain ⟨kv, hk⟩ := hst j hlt
      have hk := hk.past OO.out
      have hcell := FE.out j hlt
      have RNG : Hid (wr.rangeAt sb (so + j * 3) (stepCells (l.getD j stepZ) kv)) := fun i v hv => by
        have hi : i < 3 := by
          rcases Nat.lt_or_ge i 3 with h | h
          · exact h
          · rw [List.getElem?_eq_none (by simp [stepCells]; exact h)] at hv; cases hv
        rw [hk.cells i hi, hv]
      have DO := Lib.hid (does_any (what := (l.getD j stepZ).what) BC.out (by rw [PG.out.1.body.len]; omega) hk.bytes hcell hk.slot)
      clear hst hk
      generalize l.getD j stepZ = s at *
      obtain ⟨what, slot, cell⟩ := s
      simp only [stepCells] at RNG DO
      have US := Try.underlying36
      have IS : (Try.prog.info? 36).map (·.size) = some 3 := by kernel_rfl
      have CK : Hid (∀ w1 v q, BytesC w1 v q → Pg q → Calls Try.prog 14 #[v] w1 fun e w' => e = .returned (.int .i64 0) ∧ Only [] w1 w') := fun w1 v q h hp => check_of h (err_ok hp)
      have KD : Hid (∀ w1 v q, BytesC w1 v q → Pg q ∧ g q 4 = kn → Calls Try.prog 17 #[v] w1 fun e w' => e = .returned (.int .u8 kn) ∧ Only [] w1 w') := fun w1 v q h hp => by
        have := kind_any h
        rw [kind_ok hp.1, hp.2] at this
        exact this
      go_wp2_with (first
        | (refine wpList_load_mid rfl 36 (.tmp 31) rfl sb (so + j * 3) rfl [.int .i64 what, .int .i64 slot, kv] _ RNG.out US rfl IS ?_)
        | (go_at_call 21; refine DO.out.mono ?_; rintro e w2 ⟨v2, p2, rfl, hb2, hp2, hO2⟩; have B2 := Lib.hid hb2; have P2 := Lib.hid (hp2 PG.out.1); have PK := Lib.hid (And.intro (hp2 PG.out.1).1 ((hp2 PG.out.1).2.trans PG.out.2)); have O2 := Lib.hid (OO.out.trans hO2 (by simp)); clear hb2 hp2 hO2)
        | (go_at_call 14; refine (CK.out _ _ _ B2.out P2.out.1).mono ?_; rintro e w3 ⟨rfl, hO3⟩; have B3 := Lib.hid (B2.out.past hO3); have O3 := Lib.hid (O2.out.trans hO3 (by simp)); clear hO3)
        | (go_at_call 17; refine (KD.out _ _ _ B3.out PK.out).mono ?_; rintro e w4 ⟨rfl, hO4⟩; have B4 := Lib.hid (B3.out.past hO4); have O4 := Lib.hid (O3.out.trans hO4 (by simp)); clear hO4)
        | (go_at_call 13; refine (slotsf_any B4.out).mono ?_; rintro e w5 ⟨rfl, hO5⟩; have B5 := Lib.hid (B4.out.past hO5); have O5 := Lib.hid (O4.out.trans hO5 (by simp)); clear hO5)
        | (go_at_call 22; refine (rslotsf_any B5.out).mono ?_; rintro e w6 ⟨rfl, hO6⟩; have B6 := Lib.hid (B5.out.past hO6); have O6 := Lib.hid (O5.out.trans hO6 (by simp)); clear hO6)
        | (go_at_call 11; refine (freef_any B6.out).mono ?_; rintro e w7 ⟨rfl, hO7⟩; have B7 := Lib.hid (B6.out.past hO7); have O7 := Lib.hid (O6.out.trans hO7 (by simp)); clear hO7)
        | (go_at_call 23; refine (rfreef_any B7.out).mono ?_; rintro e w8 ⟨rfl, hO8⟩; have B8 := Lib.hid (B7.out.past hO8); have O8 := Lib.hid (O7.out.trans hO8 (by simp)); clear hO8))
      go_roundg (n - (j + 1))
      case measure => have := HGK.out; omega
      case rel => exact ⟨j + 1, p2, rfl, by omega, by go_num, PK.out, B8.out, O8.out⟩
    · obtain rfl : j = n := by omega
      go_wp2_with fail
      go_ret
      exact ⟨rfl, OO.out.below (Nat.le_refl _) (by simp)⟩
set_option maxRecDepth 100000 in
theorem plays_law {w : World} (kind : UInt8) (v : Value) (l : List StepD) (hl : StepsAt w v l) : Calls Try.prog 6 #[.int .u8 kind.toNat, v] w fun e w' => e = .returned (.bool true) ∧ Below w.heap.size w w' := by
  by_cases hf : fewB l = true
  · exact plays_main kind hl hf
  · have hf : fewB l = false := by simpa using hf
    have FW0 : ∀ w1, Only [] w w1 → Calls Try.prog 15 #[v] w1 fun e w' => e = .returned (.bool (fewB l)) ∧ w1 = w' := fun w1 hO => few_any (hl.past hO)
    rw [hf] at FW0
    have FW := Lib.hid FW0
    clear FW0 hf
    go_enter Try.func6, Try.ntmps6
    go_wp2_with (first
      | (go_at_call 8; refine (known_any w).mono ?_; rintro e w1 ⟨rfl, hO1⟩; have O1 := Lib.hid hO1; clear hO1)
      | (go_at_call 15; refine (FW.out _ O1.out).mono ?_; rintro e w3 ⟨rfl, rfl⟩))
    go_ret
    exact ⟨rfl, O1.out.below (Nat.le_refl _) (by simp)⟩
end Go.Proofs.Ytdgnndcnpmlifaa.G
