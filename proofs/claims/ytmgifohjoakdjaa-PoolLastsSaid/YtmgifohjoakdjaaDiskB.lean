/-
  disk.New by contracts: a size that may be, one that may not.
-/
import Derived.Test.YtmgifohjoakdjaaDiskA
namespace Go.Proofs.Ytmgifohjoakdjaa.D
set_option linter.unusedSimpArgs false
open Go.RowKit
set_option linter.unusedVariables false

theorem new_bad (n : Int) (w : World) (h : n < 1 ∨ 65536 < n) :
    Calls Try.prog 7 #[.int .i64 n] w fun e w' => e = .returned (.tuple #[.pointer none, .int .i64 10]) ∧ w = w' := by
  rcases h with h | h
  · go_enter Try.func7, Try.ntmps7
    go_wp2
    go_ret2
    exact ⟨rfl, rfl⟩
  · have h2 : ¬ n < 1 := by omega
    go_enter Try.func7, Try.ntmps7
    go_wp2
    go_ret2
    exact ⟨rfl, rfl⟩

theorem info_sector : (Try.prog.info? 73).map (fun i => (i.zero, i.size, i.bytes)) = some (some (.pointer none), 1, 8) := by kernel_rfl

theorem new_make (n : Nat) (h : n ≤ 65536) : ∀ w : World, (Instr.makeSlice 54 (.int .i64 (n : Int)) (.int .i64 (n : Int))).run Try.prog w =
    .ok (.slice (some ⟨w.heap.size, 0, none⟩) n n) (w.alloc (.cells (List.replicate n (.pointer none)).toArray 73)) := by
  intro w
  obtain ⟨i, hi, hz0, hz1, hz2⟩ := info_parts info_sector
  have hr := run_make (P := Try.prog) w 54 73 i (.pointer none) Try.underlying54 hi hz0 .i64 .i64 n n (by omega) (by omega) (by rw [hz2]; omega) (by omega)
  rw [hr]
  simp only [Value.cells, hz1, Nat.mul_one, Int.toNat_natCast, madeCells_one]

theorem secs_fresh (w : World) (n : Nat) : Secs w (List.replicate n (.pointer none)) (List.replicate n zeros) := by
  refine ⟨by simp, fun i hi => ?_⟩
  have hi' : i < n := by simpa using hi
  rw [List.getD_eq_getElem?_getD, List.getD_eq_getElem?_getD, List.getElem?_replicate, List.getElem?_replicate, if_pos hi', if_pos hi']
  exact ⟨zeros_len, .inl ⟨rfl, rfl⟩⟩

theorem fresh_at {w : World} {d N S n : Nat} (hd : Blk w d (diskCells N S n (.slice none 0 0) (DS.fresh n)) 57) (hN : Blk w N (List.replicate n (.pointer none)) 73) (hS : Blk w S (List.replicate n (.pointer none)) 73) (hne : N ≠ S) (hn : n ≤ 65536) :
    DiskAt w d [d, N, S] (DS.fresh n) N S (.slice none 0 0) (List.replicate n (.pointer none)) (List.replicate n (.pointer none)) [] where
  disk := by simpa [DS.fresh] using hd
  nowB := hN
  sureB := hS
  ne := hne
  nowS := secs_fresh w n
  sureS := secs_fresh w n
  same := by simp [DS.fresh]
  few := by simpa [DS.fresh] using hn
  own := ⟨rfl, .inl ⟨rfl, rfl⟩⟩
  row := trivial
  foot := rfl

theorem new_ok (n : Nat) (w : World) (h0 : 1 ≤ n) (h : n ≤ 65536) :
    Calls Try.prog 7 #[.int .i64 n] w fun e w' => ∃ d M N S np sp, e = .returned (.tuple #[.pointer (some ⟨d, 0, none⟩), .int .i64 0]) ∧ DiskAt w' d M (DS.fresh n) N S (.slice none 0 0) np sp [] ∧ Only [] w w' ∧ ∀ k ∈ M, w.heap.size ≤ k := by
  have hmk := new_make n h
  have h1 : ¬ (n : Int) < 1 := by omega
  have h2 : (n : Int) ≤ 65536 := by omega
  generalize hz : (List.replicate n (Value.pointer none)).toArray = Z at *
  have HZ := Lib.hid hz
  clear hz
  go_enter Try.func7, Try.ntmps7
  go_wp2
  go_region
  all_goals
    go_wp2
    go_ret2
    rw [← HZ.out]
    refine ⟨_, _, _, _, _, _, rfl, fresh_at (Blk.new' _ _ _ (by simp)) ?_ ?_ (by omega) h, (((((Only.refl _ _).drew).alloc _).alloc _).alloc _), by simp <;> omega⟩
  · exact ((Blk.new _ _ _).alloc _).alloc _
  · exact (Blk.new' _ _ _ (by simp)).alloc _
  · exact (Blk.new' _ _ _ (by simp)).alloc _
  · exact ((Blk.new _ _ _).alloc _).alloc _
end Go.Proofs.Ytmgifohjoakdjaa.D
