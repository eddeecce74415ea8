/-
  The walk of DiskSizes: the Go text answers true at every two ints; nothing that was there is changed.
-/
import Derived.Test.YtgifigfdjcgkaaaDiskK
namespace Go.Proofs.Ytgifigfdjcgkaaa.D
set_option linter.unusedSimpArgs false
open Go.RowKit
set_option linter.unusedVariables false

theorem sizes_skip (n a : Int) (w : World) (h : 300 < n) (h2 : n ≤ 65536) :
    Calls Try.prog 5 #[.int .i64 n, .int .i64 a] w fun e w' => e = .returned (.bool true) ∧ Below w.heap.size w w' := by
  go_enter Try.func5, Try.ntmps5
  go_wp2_with (go_at_call 8; refine (known_yes _).mono ?_; rintro e w1 ⟨rfl, hb⟩; have HB := Lib.hid hb; clear hb)
  go_ret
  exact ⟨rfl, HB.out⟩
theorem sizes_bad (n a : Int) (w : World) (h : n < 1 ∨ 65536 < n) :
    Calls Try.prog 5 #[.int .i64 n, .int .i64 a] w fun e w' => e = .returned (.bool true) ∧ Below w.heap.size w w' := by
  have N := Lib.hid (fun w => new_bad n w h)
  rcases h with h | h
  · have h3 : ¬ 300 < n := by omega
    go_enter Try.func5, Try.ntmps5
    go_wp2_with (first | (go_at_call 8; refine (known_yes _).mono ?_; rintro e w1 ⟨rfl, hb⟩; have HB := Lib.hid hb; clear hb) | (go_at_call 9; refine (N.out _).mono ?_; rintro e w' ⟨rfl, rfl⟩))
    go_ret
    exact ⟨rfl, HB.out⟩
  · have h3 : 300 < n := by omega
    have h4 : ¬ n < 1 := by omega
    go_enter Try.func5, Try.ntmps5
    go_wp2_with (first | (go_at_call 8; refine (known_yes _).mono ?_; rintro e w1 ⟨rfl, hb⟩; have HB := Lib.hid hb; clear hb) | (go_at_call 9; refine (N.out _).mono ?_; rintro e w' ⟨rfl, rfl⟩))
    go_ret
    exact ⟨rfl, HB.out⟩

theorem _root_.Go.Proofs.Ytgifigfdjcgkaaa.BytesAt.past {w w' : World} {v : Value} {l : List UInt8} (h : BytesAt w v l) (hO : Only [] w w') : BytesAt w' v l := h.later hO (by simp)
theorem fresh_err (n : Nat) : (DS.fresh n).err = 0 := rfl
theorem fresh_changed (n : Nat) : (DS.fresh n).changed = { DS.fresh n with count := 1 } := by
  simp [DS.changed, DS.fresh, dec0, dec1]
theorem fresh_get (n i : Nat) (h : i < n) : (List.replicate n zeros).getD i [] = zeros := by
  rw [List.getD_eq_getElem?_getD, List.getElem?_replicate, if_pos h]; rfl

set_option maxRecDepth 100000 in
set_option maxHeartbeats 1000000 in
theorem sizes_out (n : Nat) (a : Int) (w : World) (h0 : 1 ≤ n) (h : n ≤ 300) (ha : a < 0 ∨ (n : Int) ≤ a) :
    Calls Try.prog 5 #[.int .i64 n, .int .i64 a] w fun e w' => e = .returned (.bool true) ∧ Below w.heap.size w w' := by
  have HN := Lib.hid (fun w => Disk.new (n := n) (w := w) h0 (by omega))
  have HS1 := Lib.hid (fun w => sector_any 1 false w)
  have hlen : (DS.fresh n).now.length = n := by simp [DS.fresh]
  have HR : Hid ((DS.fresh n).read a = ([], 11)) := by
    show _ = _
    unfold DS.read
    rw [hlen, if_neg (by simp [DS.fresh]), if_pos ha]
  have HW : Hid ((DS.fresh n).write a kA = ((DS.fresh n).changed, 11)) := by
    show _ = _
    unfold DS.write
    rw [hlen, fresh_err, if_neg (by simp), if_pos ha]
  have HLEN := Lib.hid hlen
  clear hlen
  have b1 : ¬ (n : Int) < 1 := by omega
  have b2 : ¬ 300 < (n : Int) := by omega
  have b3 : (n : Int) ≤ 65536 := by omega
  rcases ha with ha | ha
  all_goals
    go_enter Try.func5, Try.ntmps5
    go_wp2_with (first | (go_at_call 8; refine (known_yes _).mono ?_; rintro e w1 ⟨rfl, hb⟩; have HB := Lib.hid hb; clear hb) | (go_at_call 9; refine (HN.out _).mono ?_; rintro e w2 ⟨d, M2, rfl, hD2, hS2⟩; have D2 := Lib.hid hD2; have S2 := Lib.hid hS2; clear hD2 hS2))
    have hsc := D2.out.sectors
    rw [HLEN.out] at hsc
    have HSC := Lib.hid hsc
    clear hsc
    go_wp2_with (first | (go_at_call 17; refine HSC.out.mono ?_; rintro e w' ⟨rfl, rfl⟩) | (go_at_call 18; refine D2.out.count.mono ?_; rintro e w' ⟨rfl, rfl⟩))
    refine (D2.out.read' HR.out).mono ?_
    rintro e w3 ⟨v, rfl, hv, hO3⟩
    obtain ⟨ao, hv0⟩ : ∃ ao, v = .slice ao 0 0 := by
      rcases hv with ⟨h, _⟩ | ⟨h, _⟩
      · exact ⟨_, h⟩
      · exact ⟨_, h⟩
    subst hv0
    have D3 := Lib.hid (D2.out.past hO3)
    have S3 := Lib.hid (S2.out.only hO3)
    clear hv hO3
    go_wp2_with fail
    refine (HS1.out _).mono ?_
    rintro e w4 ⟨rfl, hb4, hO4⟩
    have D4 := Lib.hid (D3.out.past hO4)
    have S4 := Lib.hid (S3.out.only hO4)
    have B4 := Lib.hid hb4
    clear hb4 hO4
    go_wp2_with fail
    refine (D4.out.write' HW.out (by simp [DS.fresh]) (by simp [DS.fresh]) (by simp [DS.fresh]) (Blk.bytes B4.out kA_len.symm) (notIn rfl (D3.out.newer (Nat.le_refl _)))).mono ?_
    rintro e w5 ⟨rfl, M5, hD5, hS5⟩
    have D5 := Lib.hid hD5
    have S5 := Lib.hid (S4.out.next hS5)
    have hc5 : Hid (Calls Try.prog 18 #[.pointer (some ⟨d, 0, none⟩)] w5 fun e w' => e = .returned (.int .i64 1) ∧ w5 = w') := hD5.count
    clear hD5 hS5
    go_wp2_with (go_at_call 18; refine hc5.out.mono ?_; rintro e w' ⟨rfl, rfl⟩)
    go_ret
    exact ⟨rfl, HB.out.trans (S5.out.below.mono HB.out.size)⟩

set_option maxRecDepth 100000 in
set_option maxHeartbeats 1000000 in
theorem sizes_in (n a : Nat) (w : World) (h0 : 1 ≤ n) (h : n ≤ 300) (ha : a < n) :
    Calls Try.prog 5 #[.int .i64 n, .int .i64 a] w fun e w' => e = .returned (.bool true) ∧ Below w.heap.size w w' := by
  have HN := Lib.hid (fun w => Disk.new (n := n) (w := w) h0 (by omega))
  have HS1 := Lib.hid (fun w => sector_any 1 false w)
  have hlen : (DS.fresh n).now.length = n := by simp [DS.fresh]
  have HR : Hid ((DS.fresh n).read a = (zeros, 0)) := by
    show _ = _
    unfold DS.read
    rw [hlen, if_neg (by simp [DS.fresh]), if_neg (by omega), Int.toNat_natCast]
    exact congrArg (fun x => (x, (0 : Int))) (fresh_get n a ha)
  have HW := Lib.hid (write_ok (s := DS.fresh n) (i := a) (l := kA) (fresh_err n) (by rw [hlen]; exact ha) kA_len)
  have HLEN := Lib.hid hlen
  clear hlen
  have b1 : ¬ (n : Int) < 1 := by omega
  have b2 : ¬ 300 < (n : Int) := by omega
  have b3 : (n : Int) ≤ 65536 := by omega
  have b4 : (0 : Int) ≤ a := by omega
  have b5 : (a : Int) < n := by omega
  have hmk := make_512
  go_enter Try.func5, Try.ntmps5
  go_wp2_with (first | (go_at_call 8; refine (known_yes _).mono ?_; rintro e w1 ⟨rfl, hb⟩; have HB := Lib.hid hb; clear hb) | (go_at_call 9; refine (HN.out _).mono ?_; rintro e w2 ⟨d, M2, rfl, hD2, hS2⟩; have D2 := Lib.hid hD2; have S2 := Lib.hid hS2; clear hD2 hS2))
  have hsc := D2.out.sectors
  rw [HLEN.out] at hsc
  have HSC := Lib.hid hsc
  clear hsc
  go_wp2_with (first | (go_at_call 17; refine HSC.out.mono ?_; rintro e w' ⟨rfl, rfl⟩) | (go_at_call 18; refine D2.out.count.mono ?_; rintro e w' ⟨rfl, rfl⟩))
  refine (D2.out.read' HR.out).mono ?_
  rintro e w3 ⟨v, rfl, hv, hO3⟩
  obtain ⟨rfl, hb3⟩ : v = .slice (some ⟨w2.heap.size, 0, none⟩) 512 512 ∧ Blk w3 w2.heap.size (u8s zeros) 5 := by
    rcases hv with ⟨_, h⟩ | ⟨h, hb⟩
    · exact absurd (congrArg List.length h) (by rw [zeros_len]; decide)
    · rw [zeros_len] at h; exact ⟨h, hb⟩
  have D3 := Lib.hid (D2.out.past hO3)
  have S3 := Lib.hid (S2.out.only hO3)
  have B3 := Lib.hid hb3
  have V3 := Lib.hid (D2.out.newer (Nat.le_refl _))
  clear hv hO3 hb3
  go_wp2_with fail
  refine (HS1.out _).mono ?_
  rintro e w4 ⟨rfl, hb4, hO4⟩
  have D4 := Lib.hid (D3.out.past hO4)
  have S4 := Lib.hid (S3.out.only hO4)
  have B4 := Lib.hid hb4
  have B34 := Lib.hid (hO4.blk B3.out (by simp))
  clear hb4 hO4
  go_wp2_with fail
  refine (D4.out.write' HW.out (by simp [DS.fresh]) (by simp [DS.fresh]) (by simp [DS.fresh]) (Blk.bytes B4.out kA_len.symm) (notIn rfl (D3.out.newer (Nat.le_refl _)))).mono ?_
  rintro e w5 ⟨rfl, M5, hD5, hS5⟩
  have D5 := Lib.hid hD5
  have S5 := Lib.hid (S4.out.next hS5)
  have B35 := Lib.hid (hS5.1.blk B34.out V3.out)
  have V5 : Hid (w2.heap.size ∉ M5) := fun hm => by
    rcases hS5.2 _ hm with h1 | h1
    · exact V3.out h1
    · have := B34.out.lt; omega
  clear hD5 hS5
  go_wp2_with fail
  have hbt := bytes_any (Blk.bytes (B35.out.alloc (.cells (u8s zeros).toArray 5)) zeros_len.symm (c := 512)) (Blk.bytes (Blk.new (u8s zeros) 5 w5) zeros_len.symm (c := 512))
  rw [show (zeros == zeros) = true from beq_self_eq_true _] at hbt
  refine hbt.mono ?_
  rintro e w6 ⟨rfl, rfl⟩
  have D6 := Lib.hid (D5.out.past ((Only.refl _ _).alloc (.cells (u8s zeros).toArray 5)))
  have S6 := Lib.hid (S5.out.only ((Only.refl _ _).alloc (.cells (u8s zeros).toArray 5)))
  have B36 := Lib.hid (B35.out.alloc (.cells (u8s zeros).toArray 5))
  clear hbt
  go_wp2_with fail
  have hb511 : BytesAt (w5.alloc (.cells (u8s zeros).toArray 5)) (.slice (some ⟨w2.heap.size, 0, none⟩) 511 512) (zeros.take 511) := by
    refine ⟨_, 512, by rw [List.length_take, zeros_len]; rfl, fun _ => ⟨_, 0, rfl, fun j hj => ?_⟩⟩
    have hj2 : j < 511 := by rw [List.length_take, zeros_len] at hj; exact hj
    rw [Nat.zero_add, B36.out.cell, u8s_get, List.getD_eq_getElem?_getD, List.getElem?_take, if_pos hj2]
    rw [List.getElem?_eq_getElem (by rw [zeros_len]; omega)]
    rfl
  have hw : ({ (DS.fresh n).changed with now := (DS.fresh n).now.set a kA, row := (DS.fresh n).row ++ [(a, kA)] } : DS).write a (zeros.take 511) = (({ (DS.fresh n).changed with now := (DS.fresh n).now.set a kA, row := (DS.fresh n).row ++ [(a, kA)] } : DS).changed, 10) := by
    unfold DS.write
    rw [if_neg (by rw [fresh_changed]; simp [DS.err, DS.fresh]), if_neg (by simp [DS.fresh]; omega), if_pos (by rw [List.length_take, zeros_len]; decide)]
  refine (D6.out.write' hw (by rw [fresh_changed]; simp) (by rw [fresh_changed]; simp) (by simp [DS.fresh]) hb511 (notIn rfl V5.out)).mono ?_
  rintro e w7 ⟨rfl, M7, hD7, hS7⟩
  have S7 := Lib.hid (S6.out.next hS7)
  clear hD7 hS7 hb511 hw
  go_wp2_with fail
  go_ret
  exact ⟨rfl, HB.out.trans (S7.out.below.mono HB.out.size)⟩

theorem sizes_walk (n : Int) (_ : -9223372036854775808 ≤ n ∧ n ≤ 9223372036854775807) (a : Int) (_ : -9223372036854775808 ≤ a ∧ a ≤ 9223372036854775807) (w : World) :
    Calls Try.prog 5 #[.int .i64 n, .int .i64 a] w fun e w' => e = .returned (.bool true) ∧ Below w.heap.size w w' := by
  by_cases h1 : n < 1 ∨ 65536 < n
  · exact sizes_bad n a w h1
  · by_cases h2 : 300 < n
    · exact sizes_skip n a w h2 (by omega)
    · obtain ⟨m, rfl⟩ := Int.eq_ofNat_of_zero_le (show 0 ≤ n by omega)
      by_cases h3 : a < 0 ∨ (m : Int) ≤ a
      · exact sizes_out m a w (by omega) (by omega) h3
      · obtain ⟨k, rfl⟩ := Int.eq_ofNat_of_zero_le (show 0 ≤ a by omega)
        exact sizes_in m k w (by omega) (by omega) (by omega)
end Go.Proofs.Ytgifigfdjcgkaaa.D
