/-
  The helps of the laws on pools: sector, known.
-/
import Derived.Test.YtmgifohjoakdjaaPoolI
namespace Go.Proofs.Ytmgifohjoakdjaa.P
set_option linter.unusedSimpArgs false
open Go Go.RowKit Go.Proofs.Ytmgifohjoakdjaa Go.Proofs.Ytmgifohjoakdjaa.D Go.Proofs.Ytmgifohjoakdjaa.B
set_option linter.unusedVariables false
variable {w w' : World} {p d ub hm pm asked k : Nat} {MD M : List Nat} {L : List Pl} {S : PS}

/-! ### sector -/
def secN (fill : UInt8) (n : Nat) : List UInt8 := (List.range n).map fun i => fill + UInt8.ofNat (i % 5)
theorem secN_len (fill : UInt8) (n : Nat) : (secN fill n).length = n := by simp [secN]
theorem secN_get (fill : UInt8) (n i : Nat) (h : i < n) : (secN fill n)[i]? = some (fill + UInt8.ofNat (i % 5)) := by simp [secN, h]
theorem add_u85 (a : UInt8) (k : Nat) : ((a.toNat : Int) + (k : Int) % 5) % 256 = ((a + UInt8.ofNat (k % 5)).toNat : Int) := by
  rw [UInt8.toNat_add, UInt8.toNat_ofNat']
  omega
def part5 (fill : UInt8) (n k : Nat) : List UInt8 := (secN fill n).take k ++ List.replicate (n - k) 0
theorem part5_len (fill : UInt8) (n k : Nat) (h : k ≤ n) : (part5 fill n k).length = n := by simp [part5, secN_len]; omega
theorem part5_step (fill : UInt8) (n k : Nat) (h : k < n) : (u8s (part5 fill n k)).set k (.int .u8 (fill + UInt8.ofNat (k % 5)).toNat) = u8s (part5 fill n (k + 1)) := by
  have h1 : (secN fill n).take (k + 1) = (secN fill n).take k ++ [fill + UInt8.ofNat (k % 5)] := by
    rw [List.take_succ_eq_append_getElem (by rw [secN_len]; exact h)]
    have := secN_get fill n k h
    rw [List.getElem?_eq_getElem (by rw [secN_len]; exact h)] at this
    simp only [Option.some.injEq] at this
    rw [this]
  have h2 : List.replicate (n - k) (0 : UInt8) = 0 :: List.replicate (n - (k + 1)) 0 := by
    rw [← List.replicate_succ]; congr 1; omega
  rw [part5, part5, h1, h2, u8s_append, u8s_append, u8s_append]
  have hl : (u8s ((secN fill n).take k)).length = k := by rw [length_u8s, List.length_take, secN_len]; omega
  rw [List.set_append_right _ _ (by omega), hl, Nat.sub_self]
  simp [u8s]
theorem part5_zero (fill : UInt8) (n : Nat) : part5 fill n 0 = List.replicate n 0 := by simp [part5]
theorem part5_all (fill : UInt8) (n : Nat) : part5 fill n n = secN fill n := by rw [part5, List.take_of_length_le (by rw [secN_len]; omega), Nat.sub_self]; simp
def sec5 (fill : UInt8) : List UInt8 := secN fill 512
theorem sec5_len (fill : UInt8) : (sec5 fill).length = 512 := secN_len _ _
set_option maxRecDepth 100000 in
set_option maxHeartbeats 1000000 in
theorem sector_any (fill : UInt8) (w : World) :
    Calls Try.prog 14 #[.int .u8 fill.toNat] w fun e w' => e = .returned (.slice (some ⟨w.heap.size, 0, none⟩) 512 512) ∧ Blk w' w.heap.size (u8s (sec5 fill)) 5 ∧ Only [] w w' := by
  have hmk := zeros_make
  go_enter Try.func14, Try.ntmps14
  go_wp2
  go_loopw [4] (fun i wr => ∃ k : Nat, k ≤ 512 ∧ i = .int .i64 k ∧ Blk wr w.heap.size (u8s (part5 fill 512 k)) 5 ∧ Only [] w wr) (fun i _ => 512 - (intOf i).toNat)
  case atStart => exact ⟨0, Nat.zero_le _, rfl, (Blk.new _ _ _).to (by rw [part5_zero]; rfl), (Only.refl _ _).alloc _⟩
  case round =>
    obtain ⟨k, hk, rfl, hb, hO⟩ := hrel
    have HB := Lib.hid hb
    have HO := Lib.hid hO
    clear hb hO
    by_cases hlt : k < 512
    · obtain ⟨oldv, cw⟩ := HB.out.at k (by rw [length_u8s, part5_len _ _ _ hk]; exact hlt)
      have fw := HB.out.frozen k
      have hi0 : (0 : Int) ≤ k := by omega
      have hi1 : (k : Int) < 512 := by omega
      go_wp2
      refine ⟨⟨k + 1, by omega, by go_num, (HB.out.set k _).to ?_, HO.out.setCell (.inr (Nat.le_refl _)) _⟩, by simp [intOf]; omega⟩
      rw [← part5_step fill 512 k hlt]
      congr 2
      exact add_u85 fill k
    · obtain rfl : k = 512 := by omega
      go_wp2
      go_ret
      exact ⟨rfl, HB.out.to (by rw [part5_all]; rfl), HO.out⟩

/-! ### known -/
def K0 : PS := PS.new (DS.fresh 4) 0 4 1
def K1 : PS := { K0 with held := [⟨0, zeros, 0, true⟩], used := [true, false, false, false] }
def K2 : PS := { K1 with held := [⟨0, sec5 1, 5, true⟩] }
def K3 : PS := K2.raise 5
theorem first_free {l : List Bool} {j n : Nat} (hu : l.getD j false = false) (hl : ∀ i, i < j → l.getD i false = true) (hn : l.getD n false = false) (hnl : ∀ i, i < n → l.getD i false = true) : j = n := by
  rcases Nat.lt_trichotomy j n with h | h | h
  · rw [hnl j h] at hu; cases hu
  · exact h
  · rw [hl n h] at hn; cases hn
theorem k_alloc0 {id : Nat} {r : Int} {S' : PS} (h : Allocs K0 id r S') : id = 0 ∧ r = 0 ∧ S' = K1 := by
  cases h with
  | all h => exact absurd (h 0 (by decide)) (by decide)
  | full j hj hu hl h =>
    cases h with
    | full hi hfr =>
      cases hfr with
      | none h1 h2 => exact absurd h1 (by decide)
  | one j hj hu hl h =>
    obtain rfl : id = 0 := first_free hu hl (by decide) (fun i hi => by omega)
    cases h with
    | held f hf hi => cases hf
    | more hi hfr =>
      cases hfr with
      | room => exact ⟨rfl, rfl, rfl⟩
      | one h1 f hf hr => cases hf
theorem k_put {r : Int} {S' : PS} (h : Lays K1 0 (sec5 1) 5 r S') : r = 0 ∧ S' = K2 := by
  cases h with
  | held f hf hi =>
    simp [K1] at hf
    subst hf
    exact ⟨rfl, rfl⟩
  | full hi hfr => exact absurd rfl (hi ⟨0, zeros, 0, true⟩ (by simp [K1]))
  | more hi hfr => exact absurd rfl (hi ⟨0, zeros, 0, true⟩ (by simp [K1]))
theorem k_stuck {f : Fr} (hf : f ∈ K2.held) : f.free K2.durable = false := by
  simp [K2] at hf
  subst hf
  rfl
theorem k_alloc1 {id : Nat} {r : Int} {S' : PS} (h : Allocs K2 id r S') : id = 0 ∧ r = 52 ∧ S' = K2 := by
  cases h with
  | all h => exact absurd (h 1 (by decide)) (by decide)
  | full j hj hu hl h => exact ⟨rfl, rfl, rfl⟩
  | one j hj hu hl h =>
    obtain rfl : id = 1 := first_free hu hl (by decide) (fun i hi => by rw [show i = 0 by omega]; rfl)
    cases h with
    | held f hf hi => simp [K2] at hf; subst hf; cases hi
    | more hi hfr =>
      cases hfr with
      | room h => exact absurd h (by decide)
      | one h1 f hf hr => rw [k_stuck hf] at hr; cases hr
theorem k_alloc2 {id : Nat} {r : Int} {S' : PS} (h : Allocs K3 id r S') : id = 1 ∧ r = 0 := by
  cases h with
  | all h => exact absurd (h 1 (by decide)) (by decide)
  | full j hj hu hl h =>
    cases h with
    | full hi hfr =>
      cases hfr with
      | none h1 h2 =>
        have := h2 ⟨0, sec5 1, 5, true⟩ (by simp [K3, PS.raise, K2])
        cases this
  | one j hj hu hl h => exact ⟨first_free hu hl (by decide) (fun i hi => by rw [show i = 0 by omega]; rfl), rfl⟩
set_option maxRecDepth 100000 in
set_option maxHeartbeats 2000000 in
theorem known_any (w : World) : Calls Try.prog 6 #[] w fun e w' => e = .returned (.bool true) ∧ Only [] w w' := by
  have N : ∀ w, Calls Try.prog 7 #[.int .i64 4] w fun e w' => ∃ d M, e = .returned (.tuple #[.pointer (some ⟨d, 0, none⟩), .int .i64 0]) ∧ Disk w' d M (DS.fresh 4) ∧ Step [] M w w' := fun w => Disk.new (n := 4) (by omega) (by omega)
  have PN : ∀ w d M, Disk w d M (DS.fresh 4) → Calls Try.prog 8 #[.pointer (some ⟨d, 0, none⟩), .int .i64 0, .int .i64 4, .int .i64 1] w fun e w' => ∃ p M', e = .returned (.tuple #[.pointer (some ⟨p, 0, none⟩), .int .i64 0]) ∧ Pool w' p d M' K0 0 ∧ Step M M' w w' := fun w d M hD => new_ok (first := 0) (pages := 4) (frames := 1) hD ⟨rfl, rfl, rfl⟩ (by decide) 0 (by decide) (by decide) (by unfold Fits; simp [DS.fresh])
  have HN := Lib.hid N
  have HPN := Lib.hid PN
  clear N PN
  go_enter Try.func6, Try.ntmps6
  go_wp2_with fail
  refine (HN.out _).mono ?_
  rintro e w1 ⟨d, M1, rfl, hD1, hS1⟩
  have D1 := Lib.hid hD1
  have O1 := Lib.hid hS1
  clear hD1 hS1
  go_wp2_with fail
  refine (HPN.out _ _ _ D1.out).mono ?_
  rintro e w2 ⟨p, M2, rfl, hP2, hS2⟩
  have P2 := Lib.hid hP2
  have O2 := Lib.hid (O1.out.next hS2)
  clear hP2 hS2
  go_wp2_with fail
  refine (P2.out.alloc (by omega)).mono ?_
  rintro e w3 ⟨id, r, S3, M3, rfl, ha, hP3, hS3⟩
  obtain ⟨rfl, rfl, rfl⟩ := k_alloc0 ha
  have P3 := Lib.hid hP3
  have O3 := Lib.hid (O2.out.next hS3)
  clear hP3 hS3 ha
  go_wp2_with fail
  refine (sector_any 1 _).mono ?_
  rintro e w4 ⟨rfl, hb4, hO4⟩
  have B4 := Lib.hid hb4
  have P4 := Lib.hid (P3.out.past hO4)
  have O4 := Lib.hid (O3.out.only hO4)
  have N4 : Hid (w3.heap.size ∉ M3) := fun hx => by have := P3.out.lt _ hx; omega
  clear hb4 hO4
  go_wp2_with fail
  refine (P4.out.put_yes (by omega) 0 rfl (Blk.bytes B4.out (sec5_len 1).symm) (notIn rfl N4.out) (sec5_len 1) 5).mono ?_
  rintro e w5 ⟨r, S5, M5, rfl, hl, hP5, hS5⟩
  obtain ⟨rfl, rfl⟩ := k_put hl
  have P5 := Lib.hid hP5
  have O5 := Lib.hid (O4.out.next hS5)
  clear hP5 hS5 hl
  go_wp2_with fail
  refine (P5.out.alloc (by omega)).mono ?_
  rintro e w6 ⟨id, r, S6, M6, rfl, ha, hP6, hS6⟩
  obtain ⟨rfl, rfl, rfl⟩ := k_alloc1 ha
  have P6 := Lib.hid hP6
  have O6 := Lib.hid (O5.out.next hS6)
  clear hP6 hS6 ha
  go_wp2_with fail
  refine (P6.out.durable 5).mono ?_
  rintro e w7 ⟨rfl, M7, hP7, hS7⟩
  have P7 := Lib.hid hP7
  have O7 := Lib.hid (O6.out.next hS7)
  clear hP7 hS7
  go_wp2_with fail
  refine (P7.out.alloc (by omega)).mono ?_
  rintro e w8 ⟨id, r, S8, M8, rfl, ha, hP8, hS8⟩
  obtain ⟨rfl, rfl⟩ := k_alloc2 ha
  have O8 := Lib.hid (O7.out.next hS8)
  clear hP8 hS8 ha
  go_wp2_with fail
  go_ret
  exact ⟨rfl, O8.out.1⟩
end Go.Proofs.Ytmgifohjoakdjaa.P
