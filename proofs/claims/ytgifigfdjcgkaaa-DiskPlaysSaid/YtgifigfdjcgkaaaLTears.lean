/-
  The walk of DiskTears: the Go text answers true at every input; nothing that was there is changed.
-/
import Derived.Test.YtgifigfdjcgkaaaLSizes
namespace Go.Proofs.Ytgifigfdjcgkaaa.D
set_option linter.unusedSimpArgs false
open Go.RowKit
set_option linter.unusedVariables false

theorem tearOne_eq (keep : List Int) (sure : List Sector) (j : Nat) (x : Nat × Sector) (h : x.1 < sure.length) :
    tearOne keep sure j x = sure.set x.1 (x.2.take (kept keep j) ++ (sure.getD x.1 []).drop (kept keep j)) := by
  unfold tearOne
  split
  · rename_i h0
    rw [h0, List.take_zero, List.drop_zero, List.nil_append, List.getD_eq_getElem?_getD, List.getElem?_eq_getElem h]
    simp
  · rfl
def tear (old new : Sector) (p : Nat) : Sector := new.take p ++ old.drop p
theorem tear_len {old new : Sector} {p : Nat} (h : old.length = 512) (h2 : new.length = 512) : (tear old new p).length = 512 := by
  rw [tear, List.length_append, List.length_take, List.length_drop]; omega
def t3 (A B C : Sector) : DS := ⟨[zeros, C, zeros], [zeros, A, zeros], [(1, B), (1, C)], 4, 0, -1, false⟩
theorem t3_restart (A B C : Sector) (keep : List Int) : (t3 A B C).restart keep = ⟨[zeros, tear (tear A B (kept keep 0)) C (kept keep 1), zeros], [zeros, tear (tear A B (kept keep 0)) C (kept keep 1), zeros], [], 4, 0, -1, false⟩ := by
  have h1 : tornTo (t3 A B C) keep 1 = [zeros, tear A B (kept keep 0), zeros] := by
    show tearOne keep (t3 A B C).sure 0 (1, B) = _
    rw [tearOne_eq _ _ _ _ (by show 1 < 3; omega)]
    rfl
  have h2 : tornTo (t3 A B C) keep 2 = [zeros, tear (tear A B (kept keep 0)) C (kept keep 1), zeros] := by
    show tearOne keep (tornTo (t3 A B C) keep 1) 1 (1, C) = _
    rw [h1, tearOne_eq _ _ _ _ (by show 1 < 3; omega)]
    rfl
  show DS.mk (tornTo (t3 A B C) keep 2) (tornTo (t3 A B C) keep 2) [] 4 0 (-1) false = _
  rw [h2]
/-- The code's min and max, as what is kept. -/
theorem kept_if (keep : List Int) (i : Nat) (m : Int) (h : (if (512 : Int) < keep.getD i 0 then 512 else keep.getD i 0) = m) : (if 0 < m then m else 0) = (kept keep i : Int) := by
  unfold kept
  subst h
  split <;> split <;> omega

theorem tears_steps (A B C : Sector) (hA : A.length = 512) (hB : B.length = 512) (hC : C.length = 512) :
    (DS.fresh 3).write 1 A = (⟨[zeros, A, zeros], [zeros, zeros, zeros], [(1, A)], 1, 0, -1, false⟩, 0) ∧
    (⟨[zeros, A, zeros], [zeros, zeros, zeros], [(1, A)], 1, 0, -1, false⟩ : DS).sync = (⟨[zeros, A, zeros], [zeros, A, zeros], [], 2, 0, -1, false⟩, 0) ∧
    (⟨[zeros, A, zeros], [zeros, A, zeros], [], 2, 0, -1, false⟩ : DS).write 1 B = (⟨[zeros, B, zeros], [zeros, A, zeros], [(1, B)], 3, 0, -1, false⟩, 0) ∧
    (⟨[zeros, B, zeros], [zeros, A, zeros], [(1, B)], 3, 0, -1, false⟩ : DS).write 1 C = (t3 A B C, 0) := by
  refine ⟨?_, ?_, ?_, ?_⟩
  · refine (write_ok (i := 1) rfl (by simp [DS.fresh]) hA).trans ?_
    simp [DS.changed, DS.fresh, dec0, dec1]
  · refine (sync_ok rfl).trans ?_
    simp [DS.changed, DS.synced, DS.settledTo, dec0, dec1]
  · refine (write_ok (i := 1) rfl (by simp) hB).trans ?_
    simp [DS.changed, dec0, dec1]
  · refine (write_ok (i := 1) rfl (by simp) hC).trans ?_
    simp [DS.changed, dec0, dec1, t3]

theorem sector_at (f : UInt8) (w : World) : Calls Try.prog 11 #[.int .u8 f.toNat, .bool false] w fun e w' => e = .returned (.slice (some ⟨w.heap.size, 0, none⟩) 512 512) ∧ Blk w' w.heap.size (u8s (sec f 512)) 5 ∧ Only [] w w' := sector_any f false w

set_option maxRecDepth 100000 in
set_option maxHeartbeats 2000000 in
theorem tears_walk (a b c : UInt8) (j : Int) (_ : -9223372036854775808 ≤ j ∧ j ≤ 9223372036854775807) (k : Int) (_ : -9223372036854775808 ≤ k ∧ k ≤ 9223372036854775807) (w : World) :
    Calls Try.prog 4 #[.int .u8 a.toNat, .int .u8 b.toNat, .int .u8 c.toNat, .int .i64 j, .int .i64 k] w fun e w' => e = .returned (.bool true) ∧ Below w.heap.size w w' := by
  have N : ∀ w, Calls Try.prog 9 #[.int .i64 3] w fun e w' => ∃ d M, e = .returned (.tuple #[.pointer (some ⟨d, 0, none⟩), .int .i64 0]) ∧ Disk w' d M (DS.fresh 3) ∧ Step [] M w w' := fun w => Disk.new (n := 3) (by omega) (by omega)
  have HN := Lib.hid N
  clear N
  obtain ⟨q1, q2, q3, q4⟩ := tears_steps (sec a 512) (sec b 512) (sec c 512) (sec_len _ _) (sec_len _ _) (sec_len _ _)
  have Q1 := Lib.hid q1
  have Q2 := Lib.hid q2
  have Q3 := Lib.hid q3
  have Q4 := Lib.hid q4
  have Q5 := Lib.hid (t3_restart (sec a 512) (sec b 512) (sec c 512) [j, k])
  clear q1 q2 q3 q4
  obtain ⟨mj, hmj⟩ : ∃ mj, (if (512 : Int) < j then 512 else j) = mj := ⟨_, rfl⟩
  obtain ⟨mk, hmk⟩ : ∃ mk, (if (512 : Int) < k then 512 else k) = mk := ⟨_, rfl⟩
  have hp1 := kept_if [j, k] 0 mj hmj
  have hp2 := kept_if [j, k] 1 mk hmk
  have hl1 : kept [j, k] 0 ≤ 512 := by unfold kept; omega
  have hl2 : kept [j, k] 1 ≤ 512 := by unfold kept; omega
  generalize hP1 : kept [j, k] 0 = p1 at *
  generalize hP2 : kept [j, k] 1 = p2 at *
  have HP1 := Lib.hid hl1
  have HP2 := Lib.hid hl2
  clear hP1 hP2
  have hmake := make_512
  have hq0 : (0 : Int) ≤ p1 := by omega
  have hq1 : (p1 : Int) ≤ 512 := by omega
  have hq2 : (0 : Int) ≤ p2 := by omega
  have hq3 : (p2 : Int) ≤ 512 := by omega
  have LA := Lib.hid (sec_len a 512)
  have LB := Lib.hid (sec_len b 512)
  have LC := Lib.hid (sec_len c 512)
  have T1 : Hid ((u8s ((sec b 512).take p1)).length = Nat.min p1 512) := by
    show _ = _
    rw [length_u8s, List.length_take, LB.out]
  have T2 : Hid ((u8s ((sec c 512).take p2)).length = Nat.min p2 512) := by
    show _ = _
    rw [length_u8s, List.length_take, LC.out]
  go_enter Try.func4, Try.ntmps4
  go_wp2_with (first | (go_at_call 8; refine (known_yes _).mono ?_; rintro e w1 ⟨rfl, hb⟩; have HB := Lib.hid hb; clear hb) | (go_at_call 9; refine (HN.out _).mono ?_; rintro e w2 ⟨d, M2, rfl, hD2, hS2⟩; have D2 := Lib.hid hD2; have S2 := Lib.hid hS2; clear hD2 hS2))
  refine (sector_at _ _).mono ?_
  rintro e w3 ⟨rfl, hb3, hO3⟩
  have D3 := Lib.hid (D2.out.past hO3)
  have S3 := Lib.hid (S2.out.only hO3)
  have B3 := Lib.hid hb3
  clear hb3 hO3
  go_wp2_with fail
  refine (D3.out.write' Q1.out (by simp [DS.fresh]) (by simp [DS.fresh]) (by simp [DS.fresh]) (Blk.bytes B3.out (sec_len _ _).symm) (notIn rfl (D2.out.newer (Nat.le_refl _)))).mono ?_
  rintro e w4 ⟨rfl, M4, hD4, hS4⟩
  have D4 := Lib.hid hD4
  have S4 := Lib.hid (S3.out.next hS4)
  clear hD4 hS4
  go_wp2_with fail
  refine (D4.out.sync' Q2.out (by simp [DS.fresh]) (by simp [DS.fresh]) (by simp [DS.fresh])).mono ?_
  rintro e w5 ⟨rfl, M5, hD5, hS5⟩
  have D5 := Lib.hid hD5
  have S5 := Lib.hid (S4.out.next hS5)
  clear hD5 hS5
  go_wp2_with fail
  refine (sector_at _ _).mono ?_
  rintro e w6 ⟨rfl, hb6, hO6⟩
  have D6 := Lib.hid (D5.out.past hO6)
  have S6 := Lib.hid (S5.out.only hO6)
  have B6 := Lib.hid hb6
  clear hb6 hO6
  go_wp2_with fail
  refine (D6.out.write' Q3.out (by simp [DS.fresh]) (by simp [DS.fresh]) (by simp [DS.fresh]) (Blk.bytes B6.out (sec_len _ _).symm) (notIn rfl (D5.out.newer (Nat.le_refl _)))).mono ?_
  rintro e w7 ⟨rfl, M7, hD7, hS7⟩
  have D7 := Lib.hid hD7
  have S7 := Lib.hid (S6.out.next hS7)
  clear hD7 hS7
  go_wp2_with fail
  refine (sector_at _ _).mono ?_
  rintro e w8 ⟨rfl, hb8, hO8⟩
  have D8 := Lib.hid (D7.out.past hO8)
  have S8 := Lib.hid (S7.out.only hO8)
  have B8 := Lib.hid hb8
  clear hb8 hO8
  go_wp2_with fail
  refine (D8.out.write' Q4.out (by simp [DS.fresh]) (by simp [DS.fresh]) (by simp [DS.fresh]) (Blk.bytes B8.out (sec_len _ _).symm) (notIn rfl (D7.out.newer (Nat.le_refl _)))).mono ?_
  rintro e w9 ⟨rfl, M9, hD9, hS9⟩
  have D9 := Lib.hid hD9
  have S9 := Lib.hid (S8.out.next hS9)
  have P9 : Hid (Calls Try.prog 16 #[.pointer (some ⟨d, 0, none⟩)] w9 fun e w' => e = .returned (.int .i64 2) ∧ w9 = w') := hD9.pending
  clear hD9 hS9
  go_wp2_with (go_at_call 16; refine P9.out.mono ?_; rintro e w' ⟨rfl, rfl⟩)
  have D9' := Lib.hid (D9.out.past ((Only.refl _ _).alloc (.cells #[.int .i64 j, .int .i64 k] 3)))
  refine (D9'.out.restart (by simp [t3]) (Blk.ints (l := [j, k]) (Blk.new _ _ _) rfl) (notIn rfl (D9.out.newer (Nat.le_refl _)))).mono ?_
  rw [Q5.out]
  rintro e w10 ⟨rfl, M10, hD10, hS10⟩
  have D10 := Lib.hid hD10
  have S10 := Lib.hid ((S9.out.only ((Only.refl _ _).alloc _)).next hS10)
  clear hD10 hS10
  go_wp2_with fail
  refine (sector_at _ _).mono ?_
  rintro e w11 ⟨rfl, hb11, hO11⟩
  have D11 := Lib.hid (D10.out.past hO11)
  have S11 := Lib.hid (S10.out.only hO11)
  have B11 := Lib.hid hb11
  clear hb11 hO11
  go_wp2_with fail
  refine (sector_at _ _).mono ?_
  rintro e w12 ⟨rfl, hb12, hO12⟩
  have D12 := Lib.hid (D11.out.past hO12)
  have S12 := Lib.hid (S11.out.only hO12)
  have B12 := Lib.hid hb12
  have B112 := Lib.hid (hO12.blk B11.out (by simp))
  clear hb12 hO12
  go_wp2_with (refine wpList_copy_blk rfl (.tmp 64) (.tmp 70) 22 22 rfl 5 Try.underlying22 size_byte _ _ 512 512 p1 512 rfl rfl w10.heap.size 0 (u8s (sec a 512)) 5 (by exact B112.out) (u8s ((sec b 512).take p1)) (by exact T1.out) (by exact fun _ => ⟨rfl, _, rfl, fun i v hv => B12.out.add_cell i v (take_get (by rw [← u8s_take]; exact hv))⟩) (by rw [T1.out, length_u8s, LA.out]; show 0 + min p1 512 ≤ 512; omega) (u8s_oneCell _) ?_)
  intro w13 hb13 hO13
  have V10 := Lib.hid (D10.out.newer (Nat.le_refl _))
  have B13 : Hid (Blk w13 w10.heap.size (u8s (tear (sec a 512) (sec b 512) p1)) 5) := hb13.to (by rw [u8s_splice _ _ (by rw [List.length_take, LA.out, LB.out]; omega), List.length_take, LB.out, Nat.min_eq_left HP1.out]; rfl)
  have D13 := Lib.hid (D12.out.later hO13 (fun x hx cs hq => by simp at hx; subst hx; exact B112.out.ne hq (by decide) rfl) (fun x hx hm => by simp at hm; subst hm; exact V10.out hx))
  have S13 : Hid (Step [] M10 w1 w13) := ⟨S12.out.1.trans hO13 (by have := S10.out.1.size; simp; omega), S12.out.2⟩
  clear hb13 hO13
  go_wp2_with fail
  refine (sector_at _ _).mono ?_
  rintro e w14 ⟨rfl, hb14, hO14⟩
  have D14 := Lib.hid (D13.out.past hO14)
  have S14 := Lib.hid (S13.out.only hO14)
  have B14 := Lib.hid hb14
  have B114 := Lib.hid (hO14.blk B13.out (by simp))
  clear hb14 hO14
  go_wp2_with (refine wpList_copy_blk rfl (.tmp 72) (.tmp 78) 22 22 rfl 5 Try.underlying22 size_byte _ _ 512 512 p2 512 rfl rfl w10.heap.size 0 (u8s (tear (sec a 512) (sec b 512) p1)) 5 (by exact B114.out) (u8s ((sec c 512).take p2)) (by exact T2.out) (by exact fun _ => ⟨rfl, _, rfl, fun i v hv => B14.out.add_cell i v (take_get (by rw [← u8s_take]; exact hv))⟩) (by rw [T2.out, length_u8s, tear_len LA.out LB.out]; show 0 + min p2 512 ≤ 512; omega) (u8s_oneCell _) ?_)
  intro w15 hb15 hO15
  have B15 : Hid (Blk w15 w10.heap.size (u8s (tear (tear (sec a 512) (sec b 512) p1) (sec c 512) p2)) 5) := hb15.to (by rw [u8s_splice _ _ (by rw [List.length_take, tear_len LA.out LB.out, LC.out]; omega), List.length_take, LC.out, Nat.min_eq_left HP2.out]; rfl)
  have D15 := Lib.hid (D14.out.later hO15 (fun x hx cs hq => by simp at hx; subst hx; exact B114.out.ne hq (by decide) rfl) (fun x hx hm => by simp at hm; subst hm; exact V10.out hx))
  have S15 : Hid (Step [] M10 w1 w15) := ⟨S14.out.1.trans hO15 (by have := S10.out.1.size; simp; omega), S14.out.2⟩
  have LT : Hid ((tear (tear (sec a 512) (sec b 512) p1) (sec c 512) p2).length = 512) := tear_len (tear_len LA.out LB.out) LC.out
  clear hb15 hO15
  generalize tear (tear (sec a 512) (sec b 512) p1) (sec c 512) p2 = T at *
  have R1 : Hid (Calls Try.prog 14 #[.pointer (some ⟨d, 0, none⟩), .int .i64 1] w15 fun e w' => ∃ v, e = .returned (.tuple #[v, .int .i64 0]) ∧ Fresh w15 w' v T ∧ Only [] w15 w') := D15.out.read' (i := 1) (l := T) (r := 0) rfl
  go_wp2_with fail
  refine R1.out.mono ?_
  rintro e w16 ⟨v1, rfl, hv1, hO16⟩
  have D16 := Lib.hid (D15.out.past hO16)
  have S16 := Lib.hid (S15.out.only hO16)
  have B16 := Lib.hid (hO16.blk B15.out (by simp))
  have F16 := Lib.hid hv1.at
  clear hv1 hO16
  have R2 : Hid (Calls Try.prog 14 #[.pointer (some ⟨d, 0, none⟩), .int .i64 0] w16 fun e w' => ∃ v, e = .returned (.tuple #[v, .int .i64 0]) ∧ Fresh w16 w' v zeros ∧ Only [] w16 w') := D16.out.read' (i := 0) (l := zeros) (r := 0) rfl
  go_wp2_with fail
  refine R2.out.mono ?_
  rintro e w17 ⟨v2, rfl, hv2, hO17⟩
  have S17 := Lib.hid (S16.out.only hO17)
  have B17 := Lib.hid (hO17.blk B16.out (by simp))
  have F17 := Lib.hid (F16.out.past hO17)
  have F17' := Lib.hid hv2.at
  clear hv2 hO17
  go_wp2_with fail
  have hbt := bytes_any F17.out (Blk.bytes B17.out LT.out.symm (c := 512))
  rw [show (T == T) = true from beq_self_eq_true _] at hbt
  refine hbt.mono ?_
  rintro e w' ⟨rfl, rfl⟩
  clear hbt
  go_wp2_with fail
  have hbt := bytes_any (F17'.out.past ((Only.refl _ _).alloc (.cells (u8s zeros).toArray 5))) (Blk.bytes (Blk.new (u8s zeros) 5 w17) zeros_len.symm (c := 512))
  rw [show (zeros == zeros) = true from beq_self_eq_true _] at hbt
  refine hbt.mono ?_
  rintro e w' ⟨rfl, rfl⟩
  clear hbt
  go_wp2_with fail
  go_ret
  exact ⟨rfl, HB.out.trans ((S17.out.only ((Only.refl _ _).alloc _)).below.mono HB.out.size)⟩
end Go.Proofs.Ytgifigfdjcgkaaa.D
