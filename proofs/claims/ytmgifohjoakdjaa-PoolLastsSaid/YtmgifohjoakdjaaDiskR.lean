/-
  Read of the program's disk, by its contract.
-/
import Derived.Test.YtmgifohjoakdjaaDiskC
namespace Go.Proofs.Ytmgifohjoakdjaa.D
set_option linter.unusedSimpArgs false
open Go.RowKit
set_option linter.unusedVariables false

theorem info_byte : (Try.prog.info? 5).map (fun i => (i.zero, i.size, i.bytes)) = some (some (.int .u8 0), 1, 1) := by kernel_rfl

theorem make_512 : ∀ w : World, (Instr.makeSlice 22 (.int .i64 512) (.int .i64 512)).run Try.prog w =
    .ok (.slice (some ⟨w.heap.size, 0, none⟩) 512 512) (w.alloc (.cells (u8s zeros).toArray 5)) := by
  intro w
  obtain ⟨i, hi, hz0, hz1, hz2⟩ := info_parts info_byte
  have hr := run_make (P := Try.prog) w 22 5 i (.int .u8 0) Try.underlying22 hi hz0 .i64 .i64 512 512 (by omega) (by omega) (by rw [hz2]; omega) (by omega)
  rw [hr]
  simp only [Value.cells, hz1, Nat.mul_one, madeCells_one]
  rw [zeros, u8s_replicate]
  rfl

theorem read_down (d N S n : Nat) (rv : Value) (s : DS) (w : World) (h : Blk w d (diskCells N S n rv s) 57) (i : Int) (hdn : s.down = true) :
    Calls Try.prog 23 #[.pointer (some ⟨d, 0, none⟩), .int .i64 i] w fun e w' => e = .returned (.tuple #[.slice none 0 0, .int .i64 13]) ∧ w = w' := by
  have c6 := h.cell 6
  simp [diskCells, hdn] at c6
  go_enter Try.func23, Try.ntmps23
  go_wp2
  go_ret2
  exact ⟨rfl, rfl⟩

theorem read_place (d N S n : Nat) (rv : Value) (s : DS) (w : World) (h : Blk w d (diskCells N S n rv s) 57) (i : Int) (hdn : s.down = false) (hi : i < 0 ∨ (n : Int) ≤ i) :
    Calls Try.prog 23 #[.pointer (some ⟨d, 0, none⟩), .int .i64 i] w fun e w' => e = .returned (.tuple #[.slice none 0 0, .int .i64 11]) ∧ w = w' := by
  have c6 := h.cell 6
  have c0 := h.cell 0
  simp [diskCells, hdn] at c6 c0
  by_cases h0 : i < 0
  · go_enter Try.func23, Try.ntmps23
    go_wp2
    go_ret2
    exact ⟨rfl, rfl⟩
  · have h1 : (n : Int) ≤ i := by omega
    clear hi
    go_enter Try.func23, Try.ntmps23
    go_wp2
    go_ret2
    exact ⟨rfl, rfl⟩

set_option maxRecDepth 100000 in
theorem read_ok {d M s N S rv np sp rp} {w : World} (h : DiskAt w d M s N S rv np sp rp) (i : Nat) (hdn : s.down = false) (hi : i < s.now.length) :
    Calls Try.prog 23 #[.pointer (some ⟨d, 0, none⟩), .int .i64 i] w fun e w' => e = .returned (.tuple #[.slice (some ⟨w.heap.size, 0, none⟩) 512 512, .int .i64 0]) ∧
      Blk w' w.heap.size (u8s (s.now.getD i [])) 5 ∧ Only [] w w' := by
  have hsec := h.nowS.2 i hi
  have c6 := h.disk.cell 6
  have c0 := h.disk.cell 0
  simp [diskCells, hdn] at c6 c0
  have hil : i < np.length := by rw [h.nowS.1]; exact hi
  have cN := h.nowB.cell i
  rw [List.getElem?_eq_getElem hil] at cN
  rw [List.getD_eq_getElem?_getD, List.getElem?_eq_getElem hil] at hsec
  simp only [Option.getD_some] at hsec
  obtain ⟨hlen, hv⟩ := hsec
  generalize s.now.getD i [] = l at *
  generalize s.now.length = n at *
  have hmk := make_512
  have dlt := h.disk.lt
  have Nlt := h.nowB.lt
  have hi0 : (0 : Int) ≤ i := by omega
  have hi1 : (i : Int) < n := by omega
  have HL := Lib.hid hlen
  clear hlen
  rcases hv with ⟨hv, rfl⟩ | ⟨g, hv, hb⟩
  · rw [hv] at cN
    clear hv
    go_enter Try.func23, Try.ntmps23
    go_wp2
    go_ret2
    exact ⟨rfl, Blk.new _ _ _, (Only.refl _ _).alloc _⟩
  · rw [hv] at cN
    clear hv
    have HB := Lib.hid hb
    have HL1 : Hid ((u8s l).length = Nat.min 512 512) := by rw [length_u8s]; exact HL.out
    have HL2 : Hid (0 + (u8s l).length ≤ (u8s zeros).length) := by rw [length_u8s, length_u8s, zeros_len, HL.out]; exact Nat.le_refl _
    clear hb
    go_enter Try.func23, Try.ntmps23
    go_wp2_with (refine wpList_copy_blk rfl (.tmp 35) (.tmp 38) 22 22 rfl 5 Try.underlying22 size_byte _ _ 512 512 512 512 rfl rfl w.heap.size 0 (u8s zeros) 5 (Blk.new (u8s zeros) 5 w) (u8s l) (by exact HL1.out) (by exact fun _ => ⟨rfl, _, rfl, fun j v hv => Blk.cellAlloc _ (HB.out.add_cell j v hv)⟩) (by exact HL2.out) (u8s_oneCell l) ?_)
    intro w2 hg2 hO2
    have HG2 := Lib.hid hg2
    have HO2 := Lib.hid hO2
    clear hg2 hO2
    go_wp2
    go_ret2
    exact ⟨rfl, HG2.out.to (splice_all _ _ (by rw [length_u8s, length_u8s, HL.out, zeros_len])), ((Only.refl _ _).alloc _).trans HO2.out (by simp)⟩
end Go.Proofs.Ytmgifohjoakdjaa.D
