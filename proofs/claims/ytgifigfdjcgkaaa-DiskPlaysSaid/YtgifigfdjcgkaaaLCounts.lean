/-
  The walk of DiskCounts: the Go text answers true at every three ints; nothing that was there is changed.
-/
import Derived.Test.YtgifigfdjcgkaaaDiskK
namespace Go.Proofs.Ytgifigfdjcgkaaa.D
set_option linter.unusedSimpArgs false
open Go.RowKit
set_option linter.unusedVariables false

/-- The disk behind so many calls. -/
def cs (f h : Int) (k : Nat) : DS := ⟨[zeros], [zeros], [], k, max (f - k) 0, max (h - k) (-1), decide (h < k)⟩
def cErr (f h : Int) (k : Nat) : Int := if h ≤ k then 13 else if (k : Int) + 1 = f then 12 else 0
theorem cs_sync (f h : Int) (k : Nat) (hf : 1 ≤ f) (hf2 : f ≤ 100) (hh : 0 ≤ h) (hh2 : h ≤ 100) (hk : k ≤ 100) : (cs f h k).sync = (cs f h (k + 1), cErr f h k) := by
  have e1 : dec (max (f - k) 0) 0 = max (f - (k + 1 : Nat)) 0 := by rw [dec_eq (by omega) (by omega)]; omega
  have e2 : dec (max (h - k) (-1)) (-1) = max (h - (k + 1 : Nat)) (-1) := by rw [dec_eq (by omega) (by omega)]; omega
  have e3 : (decide (h < (k : Int)) || (max (h - k) (-1) == 0)) = decide (h < ((k + 1 : Nat) : Int)) := by
    rw [Bool.eq_iff_iff]; simp; omega
  have ch : (cs f h k).changed = cs f h (k + 1) := by
    simp only [DS.changed, cs, e1, e2, e3]
    congr 1
  have er : (cs f h k).err = cErr f h k := by
    have e4 : (max (f - k) 0 == 1) = decide ((k : Int) + 1 = f) := by rw [Bool.eq_iff_iff]; simp; omega
    show (if (decide (h < (k : Int)) || (max (h - k) (-1) == 0)) = true then (13 : Int) else if (max (f - k) 0 == 1) = true then 12 else 0) = _
    rw [e3, e4]
    unfold cErr
    have e5 : (h < ((k + 1 : Nat) : Int)) = (h ≤ (k : Int)) := by apply propext; omega
    simp only [e5, decide_eq_true_eq]
  unfold DS.sync
  rw [er, ch]
  split
  · rfl
  · rename_i h0
    have : cErr f h k = 0 := Classical.byContradiction h0
    rw [this]
    rfl

/-- Outside the bounds the law says nothing. -/
theorem counts_out (n f h : Int) (w : World) (ho : n < 0 ∨ 60 < n ∨ f < 1 ∨ 100 < f ∨ h < 0 ∨ 100 < h) :
    Calls Try.prog 6 #[.int .i64 n, .int .i64 f, .int .i64 h] w fun e w' => e = .returned (.bool true) ∧ Below w.heap.size w w' := by
  have HH := Lib.hid ho
  clear ho
  go_enter Try.func6, Try.ntmps6
  go_wp2_with (go_at_call 8; refine (known_yes _).mono ?_; rintro e w1 ⟨rfl, hb⟩; have HB := Lib.hid hb; clear hb)
  all_goals first | (go_ret; exact ⟨rfl, HB.out⟩) | (exfalso; have := HH.out; omega)

set_option maxRecDepth 100000 in
set_option maxHeartbeats 1000000 in
theorem counts_main (n : Nat) (f h : Int) (w : World) (hn : n ≤ 60) (hf : 1 ≤ f) (hf2 : f ≤ 100) (hh : 0 ≤ h) (hh2 : h ≤ 100) :
    Calls Try.prog 6 #[.int .i64 n, .int .i64 f, .int .i64 h] w fun e w' => e = .returned (.bool true) ∧ Below w.heap.size w w' := by
  have N : ∀ w, Calls Try.prog 9 #[.int .i64 1] w fun e w' => ∃ d M, e = .returned (.tuple #[.pointer (some ⟨d, 0, none⟩), .int .i64 0]) ∧ Disk w' d M (DS.fresh 1) ∧ Step [] M w w' := fun w => Disk.new (n := 1) (by omega) (by omega)
  have HN := Lib.hid N
  clear N
  have hn0 : (0 : Int) ≤ n := by omega
  have hn1 : (n : Int) ≤ 60 := by omega
  go_enter Try.func6, Try.ntmps6
  go_wp2_with (first | (go_at_call 8; refine (known_yes _).mono ?_; rintro e w1 ⟨rfl, hb⟩; have HB := Lib.hid hb; clear hb) | (go_at_call 9; refine (HN.out _).mono ?_; rintro e w2 ⟨d, M2, rfl, hD2, hS2⟩; have D2 := Lib.hid hD2; have S2 := Lib.hid hS2; clear hD2 hS2))
  refine (D2.out.fail f).mono ?_
  rintro e w3 ⟨rfl, hD3, hS3⟩
  have D3 := Lib.hid hD3
  have S3 := Lib.hid (S2.out.next hS3)
  clear hD3 hS3
  go_wp2_with fail
  refine (D3.out.halt h).mono ?_
  rintro e w4 ⟨rfl, hD4, hS4⟩
  have D4 : Hid (Disk w4 d M2 (cs f h 0)) := by
    have e : ({ { DS.fresh 1 with fail := f } with halt := h } : DS) = cs f h 0 := by
      simp only [cs, DS.fresh]
      congr 1
      · show f = max (f - 0) 0; omega
      · show h = max (h - 0) (-1); omega
      · show false = decide (h < 0); simp; omega
    show Disk w4 d M2 (cs f h 0)
    rw [← e]; exact hD4
  have S4 := Lib.hid (S3.out.next hS4)
  clear hD4 hS4
  go_wp2_with fail
  go_loopw [9] (fun i wr => ∃ (k : Nat) (M' : List Nat), k ≤ n ∧ i = .int .i64 k ∧ Disk wr d M' (cs f h k) ∧ Step [] M' w1 wr) (fun i _ => n - (intOf i).toNat)
  case atStart => exact ⟨0, M2, Nat.zero_le _, rfl, D4.out, S4.out⟩
  case round =>
    obtain ⟨k, M', hk, rfl, hD, hS⟩ := hrel
    have HD := Lib.hid hD
    have HS := Lib.hid hS
    clear hD hS
    by_cases hlt : k < n
    · have hsy := HD.out.sync' (cs_sync f h k hf hf2 hh hh2 (by omega)) (by simp [cs] <;> omega) (by simp [cs] <;> omega) (by simp [cs])
      have HSY := Lib.hid hsy
      have hcc : Hid (∀ (wx : World) (M'' : List Nat), Disk wx d M'' (cs f h (k + 1)) → Calls Try.prog 18 #[.pointer (some ⟨d, 0, none⟩)] wx fun e w' => e = .returned (.int .i64 ((k : Int) + 1)) ∧ wx = w') := fun wx M'' hx => hx.count
      clear hsy
      have hk0 : (0 : Int) ≤ k := by omega
      have hk1 : (k : Int) ≤ 60 := by omega
      by_cases h1 : h ≤ (k : Int)
      · by_cases h2 : (k : Int) + 1 = f
        · skip
          have hc : cErr f h k = 13 := if_pos h1
          rw [hc] at HSY
          clear hc
          have b1 : ((k : Int) + 1 == f) = true := by simp [h2]
          clear h2
          go_wp2_with (first | (go_at_call 12; refine HSY.out.mono ?_; rintro e w5 ⟨rfl, M5, hD5, hS5⟩; have D5 := Lib.hid hD5; have S5 := Lib.hid hS5; clear hD5 hS5) | (go_at_call 18; refine (hcc.out _ _ D5.out).mono ?_; rintro e w' ⟨rfl, rfl⟩))
          exact ⟨⟨k + 1, M5, by omega, by go_num, D5.out, HS.out.next S5.out⟩, by simp [intOf]; omega⟩
        · skip
          have hc : cErr f h k = 13 := if_pos h1
          rw [hc] at HSY
          clear hc
          have b1 : ((k : Int) + 1 == f) = false := by simp [h2]
          clear h2
          go_wp2_with (first | (go_at_call 12; refine HSY.out.mono ?_; rintro e w5 ⟨rfl, M5, hD5, hS5⟩; have D5 := Lib.hid hD5; have S5 := Lib.hid hS5; clear hD5 hS5) | (go_at_call 18; refine (hcc.out _ _ D5.out).mono ?_; rintro e w' ⟨rfl, rfl⟩))
          exact ⟨⟨k + 1, M5, by omega, by go_num, D5.out, HS.out.next S5.out⟩, by simp [intOf]; omega⟩
      · by_cases h2 : (k : Int) + 1 = f
        · skip
          have hc : cErr f h k = 12 := (if_neg h1).trans (if_pos h2)
          rw [hc] at HSY
          clear hc
          have b1 : ((k : Int) + 1 == f) = true := by simp [h2]
          clear h2
          go_wp2_with (first | (go_at_call 12; refine HSY.out.mono ?_; rintro e w5 ⟨rfl, M5, hD5, hS5⟩; have D5 := Lib.hid hD5; have S5 := Lib.hid hS5; clear hD5 hS5) | (go_at_call 18; refine (hcc.out _ _ D5.out).mono ?_; rintro e w' ⟨rfl, rfl⟩))
          exact ⟨⟨k + 1, M5, by omega, by go_num, D5.out, HS.out.next S5.out⟩, by simp [intOf]; omega⟩
        · skip
          have hc : cErr f h k = 0 := (if_neg h1).trans (if_neg h2)
          rw [hc] at HSY
          clear hc
          have b1 : ((k : Int) + 1 == f) = false := by simp [h2]
          clear h2
          go_wp2_with (first | (go_at_call 12; refine HSY.out.mono ?_; rintro e w5 ⟨rfl, M5, hD5, hS5⟩; have D5 := Lib.hid hD5; have S5 := Lib.hid hS5; clear hD5 hS5) | (go_at_call 18; refine (hcc.out _ _ D5.out).mono ?_; rintro e w' ⟨rfl, rfl⟩))
          exact ⟨⟨k + 1, M5, by omega, by go_num, D5.out, HS.out.next S5.out⟩, by simp [intOf]; omega⟩
    · obtain rfl : k = n := by omega
      by_cases h1 : h < (k : Int)
      · have hr : (cs f h k).read 0 = ([], 13) := by simp [DS.read, cs, h1]
        have HR := Lib.hid (HD.out.read' hr)
        go_wp2_with (go_at_call 14; refine HR.out.mono ?_; rintro e w6 ⟨v, rfl, hv, hO6⟩; have O6 := Lib.hid hO6; clear hv hO6)
        go_ret
        exact ⟨rfl, HB.out.trans ((HS.out.only O6.out).below.mono HB.out.size)⟩
      · have hr : (cs f h k).read 0 = (zeros, 0) := by simp [DS.read, cs, h1]
        have HR := Lib.hid (HD.out.read' hr)
        have h1' : decide (h < (k : Int)) = false := by simp; omega
        clear hr
        go_wp2_with (go_at_call 14; refine HR.out.mono ?_; rintro e w6 ⟨v, rfl, hv, hO6⟩; have O6 := Lib.hid hO6; clear hv hO6)
        go_ret
        exact ⟨rfl, HB.out.trans ((HS.out.only O6.out).below.mono HB.out.size)⟩

theorem counts_walk3 (n : Int) (_ : -9223372036854775808 ≤ n ∧ n ≤ 9223372036854775807) (f : Int) (_ : -9223372036854775808 ≤ f ∧ f ≤ 9223372036854775807) (h : Int) (_ : -9223372036854775808 ≤ h ∧ h ≤ 9223372036854775807) (w : World) :
    Calls Try.prog 6 #[.int .i64 n, .int .i64 f, .int .i64 h] w fun e w' => e = .returned (.bool true) ∧ Below w.heap.size w w' := by
  by_cases ho : n < 0 ∨ 60 < n ∨ f < 1 ∨ 100 < f ∨ h < 0 ∨ 100 < h
  · exact counts_out n f h w ho
  · obtain ⟨m, rfl⟩ := Int.eq_ofNat_of_zero_le (show 0 ≤ n by omega)
    exact counts_main m f h w (by omega) (by omega) (by omega) (by omega) (by omega)
end Go.Proofs.Ytgifigfdjcgkaaa.D
