/-
  The helps of the laws on disks, by contracts: sector makes a sector's bytes; Bytes compares two slices of bytes.
-/
import Derived.Test.YtgifigfdjcgkaaaDiskT
namespace Go.Proofs.Ytgifigfdjcgkaaa.D
set_option linter.unusedSimpArgs false
open Go.RowKit
set_option linter.unusedVariables false

/-- The bytes that sector makes. -/
def sec (fill : UInt8) (n : Nat) : List UInt8 := (List.range n).map fun i => fill + UInt8.ofNat (i % 7)
theorem sec_len (fill : UInt8) (n : Nat) : (sec fill n).length = n := by simp [sec]
theorem sec_get (fill : UInt8) (n i : Nat) (h : i < n) : (sec fill n)[i]? = some (fill + UInt8.ofNat (i % 7)) := by
  simp [sec, List.getElem?_range, h]

theorem make_bytes (n : Nat) (h : n ≤ 1048576) : ∀ w : World, (Instr.makeSlice 22 (.int .i64 (n : Int)) (.int .i64 (n : Int))).run Try.prog w =
    .ok (.slice (some ⟨w.heap.size, 0, none⟩) n n) (w.alloc (.cells (u8s (List.replicate n 0)).toArray 5)) := by
  intro w
  obtain ⟨i, hi, hz0, hz1, hz2⟩ := info_parts info_byte
  have hr := run_make (P := Try.prog) w 22 5 i (.int .u8 0) Try.underlying22 hi hz0 .i64 .i64 n n (by omega) (by omega) (by rw [hz2]; omega) (by omega)
  rw [hr]
  simp only [Value.cells, hz1, Nat.mul_one, madeCells_one, Int.toNat_natCast, u8s_replicate]

theorem add_u8 (a : UInt8) (k : Nat) : ((a.toNat : Int) + (k : Int) % 7) % 256 = ((a + UInt8.ofNat (k % 7)).toNat : Int) := by
  rw [UInt8.toNat_add, UInt8.toNat_ofNat']
  omega
/-- What lies in the slice that sector fills, ahead of round k. -/
def part (fill : UInt8) (n k : Nat) : List UInt8 := (sec fill n).take k ++ List.replicate (n - k) 0
theorem part_len (fill : UInt8) (n k : Nat) (h : k ≤ n) : (part fill n k).length = n := by simp [part, sec_len]; omega
theorem part_step (fill : UInt8) (n k : Nat) (h : k < n) : (u8s (part fill n k)).set k (.int .u8 (fill + UInt8.ofNat (k % 7)).toNat) = u8s (part fill n (k + 1)) := by
  have h1 : (sec fill n).take (k + 1) = (sec fill n).take k ++ [fill + UInt8.ofNat (k % 7)] := by
    rw [List.take_succ_eq_append_getElem (by rw [sec_len]; exact h)]
    have := sec_get fill n k h
    rw [List.getElem?_eq_getElem (by rw [sec_len]; exact h)] at this
    simp only [Option.some.injEq] at this
    rw [this]
  have h2 : List.replicate (n - k) (0 : UInt8) = 0 :: List.replicate (n - (k + 1)) 0 := by
    rw [← List.replicate_succ]; congr 1; omega
  rw [part, part, h1, h2, u8s_append, u8s_append, u8s_append]
  have hl : (u8s ((sec fill n).take k)).length = k := by rw [length_u8s, List.length_take, sec_len]; omega
  rw [List.set_append_right _ _ (by omega), hl, Nat.sub_self]
  simp [u8s]

theorem part_zero (fill : UInt8) (n : Nat) : part fill n 0 = List.replicate n 0 := by simp [part]
theorem part_all (fill : UInt8) (n : Nat) : part fill n n = sec fill n := by rw [part, List.take_of_length_le (by rw [sec_len]; omega), Nat.sub_self]; simp
def secLen : Bool → Nat
  | true => 511
  | false => 512

set_option maxRecDepth 100000 in
set_option maxHeartbeats 1000000 in
theorem sector_any (fill : UInt8) (short : Bool) (w : World) :
    Calls Try.prog 11 #[.int .u8 fill.toNat, .bool short] w fun e w' => e = .returned (.slice (some ⟨w.heap.size, 0, none⟩) (secLen short) (secLen short)) ∧ Blk w' w.heap.size (u8s (sec fill (secLen short))) 5 ∧ Only [] w w' := by
  have hm1 := make_512
  have hm2 : ∀ w : World, (Instr.makeSlice 22 (.int .i64 511) (.int .i64 511)).run Try.prog w = .ok (.slice (some ⟨w.heap.size, 0, none⟩) 511 511) (w.alloc (.cells (u8s (List.replicate 511 0)).toArray 5)) := make_bytes 511 (by omega)
  cases short
  · go_enter Try.func11, Try.ntmps11
    go_wp2
    go_loopw [7] (fun i wr => ∃ k : Nat, k ≤ 512 ∧ i = .int .i64 k ∧ Blk wr w.heap.size (u8s (part fill 512 k)) 5 ∧ Only [] w wr) (fun i _ => 512 - (intOf i).toNat)
    case atStart => exact ⟨0, Nat.zero_le _, rfl, (Blk.new _ _ _).to (by rw [part_zero]; rfl), (Only.refl _ _).alloc _⟩
    case round =>
      obtain ⟨k, hk, rfl, hb, hO⟩ := hrel
      have HB := Lib.hid hb
      have HO := Lib.hid hO
      clear hb hO
      by_cases hlt : k < 512
      · obtain ⟨oldv, cw⟩ := HB.out.at k (by rw [length_u8s, part_len _ _ _ hk]; exact hlt)
        have fw := HB.out.frozen k
        have hi0 : (0 : Int) ≤ k := by omega
        have hi1 : (k : Int) < 512 := by omega
        go_wp2
        refine ⟨⟨k + 1, by omega, by go_num, (HB.out.set k _).to ?_, HO.out.setCell (.inr (Nat.le_refl _)) _⟩, by simp [intOf]; omega⟩
        rw [← part_step fill 512 k hlt]
        congr 2
        exact add_u8 fill k
      · obtain rfl : k = 512 := by omega
        go_wp2
        go_ret
        exact ⟨rfl, HB.out.to (by rw [part_all]; rfl), HO.out⟩
  · go_enter Try.func11, Try.ntmps11
    go_wp2
    go_loopw [7] (fun i wr => ∃ k : Nat, k ≤ 511 ∧ i = .int .i64 k ∧ Blk wr w.heap.size (u8s (part fill 511 k)) 5 ∧ Only [] w wr) (fun i _ => 511 - (intOf i).toNat)
    case atStart => exact ⟨0, Nat.zero_le _, rfl, (Blk.new _ _ _).to (by rw [part_zero]; rfl), (Only.refl _ _).alloc _⟩
    case round =>
      obtain ⟨k, hk, rfl, hb, hO⟩ := hrel
      have HB := Lib.hid hb
      have HO := Lib.hid hO
      clear hb hO
      by_cases hlt : k < 511
      · obtain ⟨oldv, cw⟩ := HB.out.at k (by rw [length_u8s, part_len _ _ _ hk]; exact hlt)
        have fw := HB.out.frozen k
        have hi0 : (0 : Int) ≤ k := by omega
        have hi1 : (k : Int) < 511 := by omega
        go_wp2
        refine ⟨⟨k + 1, by omega, by go_num, (HB.out.set k _).to ?_, HO.out.setCell (.inr (Nat.le_refl _)) _⟩, by simp [intOf]; omega⟩
        rw [← part_step fill 511 k hlt]
        congr 2
        exact add_u8 fill k
      · obtain rfl : k = 511 := by omega
        go_wp2
        go_ret
        exact ⟨rfl, HB.out.to (by rw [part_all]; rfl), HO.out⟩

theorem push_all : ∀ (l : List UInt8) (s : ByteArray), (l.map fun b => (b.toNat : Int)).foldl (fun r n => r.push (UInt8.ofNat n.toNat)) s = ⟨s.data ++ l.toArray⟩
  | [], s => by simp
  | b :: l, s => by
    simp only [List.map_cons, List.foldl_cons, Int.toNat_natCast, UInt8.ofNat_toNat]
    rw [push_all l]
    show (⟨s.data.push b ++ l.toArray⟩ : ByteArray) = _
    congr 1
    simp
theorem bytes_string {w : World} {v : Value} {l : List UInt8} (h : BytesAt w v l) : (convert 22 9 v).run Try.prog w = .ok (.string ⟨l.toArray⟩) w := by
  obtain ⟨ao, cap, rfl, hc0⟩ := h
  rw [run_convert_bytes_string w 22 9 5 ao l.length cap Try.underlying22 Try.underlying5 Try.underlying9]
  by_cases h0 : l = []
  · subst h0
    cases ao with
    | none => rfl
    | some a => rfl
  · obtain ⟨b, o, rfl, hc⟩ := hc0 (List.length_pos_iff.2 h0)
    have hl := run_loadCells_list (P := Try.prog) w ⟨b, o, none⟩ (u8s l) (src_cells hc)
    rw [length_u8s] at hl
    have e : u8s l = (l.map fun b => (b.toNat : Int)).map (Value.int .u8) := by simp [u8s]
    rw [e] at hl
    rw [run_bytesToString w ⟨b, o, none⟩ l.length cap _ hl, push_all]
    simp

theorem bytes_any {w : World} {x y : Value} {a b : List UInt8} (hx : BytesAt w x a) (hy : BytesAt w y b) :
    Calls Try.prog 15 #[x, y] w fun e w' => e = .returned (.bool (a == b)) ∧ w = w' := by
  have c1 := bytes_string hx
  have c2 := bytes_string hy
  go_enter Try.func15, Try.ntmps15
  go_wp2
  go_ret
  exact ⟨rfl, rfl⟩
end Go.Proofs.Ytgifigfdjcgkaaa.D
