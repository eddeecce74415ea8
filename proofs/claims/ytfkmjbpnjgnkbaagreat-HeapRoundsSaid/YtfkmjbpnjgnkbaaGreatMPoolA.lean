import Derived.Test.YtfkmjbpnjgnkbaaGreatMDiskY
import Derived.Test.YtfkmjbpnjgnkbaaGreatMIter
/-
  The program's pool: as plain data, and where it lies; New, is.
-/
namespace Go.Proofs.YtfkmjbpnjgnkbaaGreat.P
set_option linter.unusedSimpArgs false
open Go Go.RowKit Go.Proofs.YtfkmjbpnjgnkbaaGreat Go.Proofs.YtfkmjbpnjgnkbaaGreat.D
set_option linter.unusedVariables false

/-! ### plain data -/
/-- A page in a frame. -/
structure Fr where
  id : Nat
  b : List UInt8
  lsn : Nat
  dirty : Bool
/-- A pool: what its calls look at (when a page was last asked for is left open; nothing is pinned). -/
structure PS where
  d : DS
  first : Nat
  frames : Nat
  used : List Bool
  held : List Fr
  durable : Nat
/-- No call of the disk fails. -/
structure Well (s : DS) : Prop where
  fail : s.fail = 0
  halt : s.halt = -1
  down : s.down = false
theorem Well.err {s : DS} (h : Well s) : s.err = 0 := by simp [DS.err, h.fail, h.halt, h.down]
theorem Well.changed {s : DS} (h : Well s) : Well s.changed := by
  refine ⟨?_, ?_, ?_⟩
  · show dec s.fail 0 = 0; rw [h.fail, dec_eq (by omega) (by omega)]; rfl
  · show dec s.halt (-1) = -1; rw [h.halt, dec_eq (by omega) (by omega)]; rfl
  · show (s.down || s.halt == 0) = false; rw [h.down, h.halt]; rfl
/-- What holds of a pool whose calls were at most k. -/
structure PS.Fine (S : PS) (k : Nat) : Prop where
  well : Well S.d
  room : S.first + S.used.length ≤ S.d.now.length
  ids : ∀ f ∈ S.held, f.id < S.used.length
  len : ∀ f ∈ S.held, f.b.length = 512
  count0 : 0 ≤ S.d.count
  count : S.d.count ≤ k
  row : S.d.row.length ≤ k
  once : (S.held.map (·.id)).Nodup
  few : S.held.length ≤ S.frames
  frames : 1 ≤ S.frames ∧ S.frames ≤ 64
  clean : ∀ f ∈ S.held, f.dirty = false → S.d.now.getD (S.first + f.id) [] = f.b
theorem PS.Fine.more {S : PS} {k k2 : Nat} (h : S.Fine k) (hk : k ≤ k2) : S.Fine k2 :=
  ⟨h.well, h.room, h.ids, h.len, h.count0, by have := h.count; omega, by have := h.row; omega, h.once, h.few, h.frames, h.clean⟩

/-! ### in memory -/
/-- A frame and where it lies. -/
structure Pl where
  at_ : Nat
  v : Value
  last : Nat
  f : Fr
def heldM (L : List Pl) : Pairs := L.map fun l => ((l.f.id : Int), .pointer (some ⟨l.at_, 0, none⟩))
def frameCells (l : Pl) : List Value := [l.v, .int .u64 l.f.lsn, .bool l.f.dirty, .int .i64 l.last]
def poolCells (d ub hm pm asked : Nat) (S : PS) : List Value :=
  [.pointer (some ⟨d, 0, none⟩), .int .i64 S.first, .int .i64 S.frames, .slice (some ⟨ub, 0, none⟩) S.used.length S.used.length, .map (some hm), .map (some pm), .int .u64 S.durable, .int .i64 asked]
structure PoolAt (w : World) (p d : Nat) (MD : List Nat) (ub hm pm asked : Nat) (L : List Pl) (S : PS) (k : Nat) : Prop where
  disk : Disk w d MD S.d
  pool : Blk w p (poolCells d ub hm pm asked S) 101
  used : Blk w ub (S.used.map Value.bool) 4
  heldm : MapAt w hm .i64 (heldM L)
  pins : MapAt w pm .i64 []
  frame : ∀ l ∈ L, Blk w l.at_ (frameCells l) 141 ∧ ByteRow 5 w l.v l.f.b
  fst : L.map (·.f) = S.held
  apart : (L.map (·.at_)).Nodup
  ne : hm ≠ pm
  asked : asked ≤ k
  last : ∀ l ∈ L, l.last ≤ k
  size : S.used.length ≤ 65536
/-- The pool S lies at block p over the disk at block d; its blocks are among M. -/
structure Pool (w : World) (p d : Nat) (M : List Nat) (S : PS) (k : Nat) : Prop where
  at_ : ∃ MD ub hm pm asked L, PoolAt w p d MD ub hm pm asked L S k ∧ (∀ x ∈ MD, x ∈ M) ∧ p ∈ M ∧ ub ∈ M ∧ hm ∈ M ∧ pm ∈ M ∧ (∀ l ∈ L, l.at_ ∈ M ∧ ∀ x, l.v.ownBlock = some x → x ∈ M)
  lt : ∀ x ∈ M, x < w.heap.size
  fine : S.Fine k
variable {w w' : World} {p d ub hm pm asked k : Nat} {MD M : List Nat} {L : List Pl} {S : PS}
theorem PoolAt.later (h : PoolAt w p d MD ub hm pm asked L S k) {X : List Nat} (hO : Only X w w') (hd : Disk w' d MD S.d) (h1 : p ∉ X) (h2 : ub ∉ X) (h3 : hm ∉ X) (h4 : pm ∉ X) (h5 : ∀ l ∈ L, l.at_ ∉ X ∧ ∀ x, l.v.ownBlock = some x → x ∉ X) : PoolAt w' p d MD ub hm pm asked L S k where
  disk := hd
  pool := hO.blk h.pool h1
  used := hO.blk h.used h2
  heldm := h.heldm.later hO h3
  pins := h.pins.later hO h4
  frame := fun l hl => ⟨hO.blk (h.frame l hl).1 (h5 l hl).1, owns_later (h.frame l hl).2 hO (h5 l hl).2⟩
  fst := h.fst
  apart := h.apart
  ne := h.ne
  asked := h.asked
  last := h.last
  size := h.size
theorem PoolAt.past2 (h : PoolAt w p d MD ub hm pm asked L S k) (hO : Only [] w w') : PoolAt w' p d MD ub hm pm asked L S k :=
  h.later hO (h.disk.past hO) (by simp) (by simp) (by simp) (by simp) (fun l hl => ⟨by simp, fun x hx => by simp⟩)
theorem Pool.later (h : Pool w p d M S k) {X : List Nat} (hO : Only X w w') (hX : NoSec w X) (hM : ∀ x ∈ M, x ∉ X) : Pool w' p d M S k := by
  obtain ⟨MD, ub, hm, pm, asked, L, hP, h1, h2, h3, h4, h5, h6⟩ := h.at_
  exact ⟨⟨MD, ub, hm, pm, asked, L, hP.later hO (hP.disk.later hO hX (fun x hx => hM x (h1 x hx))) (hM p h2) (hM ub h3) (hM hm h4) (hM pm h5) (fun l hl => ⟨hM _ (h6 l hl).1, fun x hx => hM x ((h6 l hl).2 x hx)⟩), h1, h2, h3, h4, h5, h6⟩, fun x hx => Nat.lt_of_lt_of_le (h.lt x hx) hO.size, h.fine⟩
theorem Pool.past (h : Pool w p d M S k) (hO : Only [] w w') : Pool w' p d M S k := h.later hO (by simp [NoSec]) (by simp)
theorem Pool.more (h : Pool w p d M S k) {k2 : Nat} (hk : k ≤ k2) : Pool w p d M S k2 := by
  obtain ⟨MD, ub, hm, pm, asked, L, hP, r⟩ := h.at_
  exact ⟨⟨MD, ub, hm, pm, asked, L, ⟨hP.disk, hP.pool, hP.used, hP.heldm, hP.pins, hP.frame, hP.fst, hP.apart, hP.ne, Nat.le_trans hP.asked hk, fun l hl => Nat.le_trans (hP.last l hl) hk, hP.size⟩, r⟩, h.lt, h.fine.more hk⟩
/-- A block that is none of the pool's stays none. -/
theorem Step.keep {M M' : List Nat} {w w' : World} (h : Step M M' w w') {b : Nat} (hb : b < w.heap.size) (hM : b ∉ M) : b ∉ M' := fun hx => by
  rcases h.2 b hx with h1 | h1
  · exact hM h1
  · omega

/-! ### New -/
theorem info_bool : (Tryz.prog.info? 4).map (fun i => (i.zero, i.size, i.bytes)) = some (some (.bool false), 1, 1) := by kernel_rfl
theorem bools_make (n : Nat) (h : n ≤ 65536) : ∀ w : World, (Instr.makeSlice 97 (.int .i64 (n : Int)) (.int .i64 (n : Int))).run Tryz.prog w =
    .ok (.slice (some ⟨w.heap.size, 0, none⟩) n n) (w.alloc (.cells (List.replicate n (.bool false)).toArray 4)) := by
  intro w
  obtain ⟨i, hi, hz0, hz1, hz2⟩ := info_parts info_bool
  have hr := run_make (P := Tryz.prog) w 97 4 i (.bool false) Tryz.underlying97 hi hz0 .i64 .i64 n n (by omega) (by omega) (by rw [hz2]; omega) (by omega)
  rw [hr]
  simp only [Value.cells, hz1, Nat.mul_one, Int.toNat_natCast, madeCells_one]
def PS.new (s : DS) (first pages frames : Nat) : PS := ⟨s, first, frames, List.replicate pages false, [], 0⟩
/-- May a pool be made so? -/
def Fits (n : Nat) (first pages frames : Int) : Prop := 0 ≤ first ∧ 1 ≤ pages ∧ pages ≤ 65536 ∧ first + pages ≤ n ∧ 1 ≤ frames ∧ frames ≤ 64
set_option maxHeartbeats 1000000 in
theorem new_no {s : DS} (hD : Disk w d MD s) (first pages frames : Int) (h : ¬ Fits s.now.length first pages frames) (hb1 : first ≤ 1000000000000) (hb2 : pages ≤ 1000000000000) :
    Calls Tryz.prog 26 #[.pointer (some ⟨d, 0, none⟩), .int .i64 first, .int .i64 pages, .int .i64 frames] w fun e w' => e = .returned (.tuple #[.pointer none, .int .i64 50]) ∧ w = w' := by
  have SE := Lib.hid hD.sectors
  have hn : s.now.length ≤ 65536 := hD.len.2
  generalize s.now.length = n at *
  clear hD
  unfold Fits at h
  by_cases h1 : first < 0
  · clear h
    go_enter Tryz.func26, Tryz.ntmps26
    go_wp2_with fail
    go_ret2
    exact ⟨rfl, rfl⟩
  by_cases h2 : pages < 1
  · clear h
    go_enter Tryz.func26, Tryz.ntmps26
    go_wp2_with fail
    go_ret2
    exact ⟨rfl, rfl⟩
  by_cases h3 : 65536 < pages
  · clear h
    go_enter Tryz.func26, Tryz.ntmps26
    go_wp2_with fail
    go_ret2
    exact ⟨rfl, rfl⟩
  by_cases h4 : (n : Int) < first
  · clear h
    go_enter Tryz.func26, Tryz.ntmps26
    go_wp2_with (go_at_call 50; refine SE.out.mono ?_; rintro e w1 ⟨rfl, rfl⟩)
    go_ret2
    exact ⟨rfl, rfl⟩
  by_cases h5 : (n : Int) - first < pages
  · clear h
    go_enter Tryz.func26, Tryz.ntmps26
    go_wp2_with (go_at_call 50; refine SE.out.mono ?_; rintro e w1 ⟨rfl, rfl⟩)
    go_ret2
    exact ⟨rfl, rfl⟩
  by_cases h6 : frames < 1
  · clear h
    go_enter Tryz.func26, Tryz.ntmps26
    go_wp2_with (go_at_call 50; refine SE.out.mono ?_; rintro e w1 ⟨rfl, rfl⟩)
    go_ret2
    exact ⟨rfl, rfl⟩
  have h7 : 64 < frames := by omega
  clear h
  go_enter Tryz.func26, Tryz.ntmps26
  go_wp2_with (go_at_call 50; refine SE.out.mono ?_; rintro e w1 ⟨rfl, rfl⟩)
  go_ret2
  exact ⟨rfl, rfl⟩
set_option maxHeartbeats 1000000 in
theorem new_ok {s : DS} (hD : Disk w d MD s) (hw : Well s) (hc0 : 0 ≤ s.count) (k : Nat) (hc : s.count ≤ k) (hr : s.row.length ≤ k) (first pages frames : Nat) (h : Fits s.now.length first pages frames) :
    Calls Tryz.prog 26 #[.pointer (some ⟨d, 0, none⟩), .int .i64 first, .int .i64 pages, .int .i64 frames] w fun e w' => ∃ p M', e = .returned (.tuple #[.pointer (some ⟨p, 0, none⟩), .int .i64 0]) ∧ Pool w' p d M' (PS.new s first pages frames) k ∧ Step MD M' w w' := by
  have SE := Lib.hid hD.sectors
  have hn : s.now.length ≤ 65536 := hD.len.2
  have HD := Lib.hid hD
  have HH := Lib.hid h
  obtain ⟨h1, h2, h3, h4, h5, h6⟩ := h
  have FF : Hid ((PS.new s first pages frames).Fine k) := ⟨hw, by show first + (List.replicate pages false).length ≤ s.now.length; rw [List.length_replicate]; omega, (fun f hf => by cases hf), (fun f hf => by cases hf), hc0, hc, hr, List.Pairwise.nil, Nat.zero_le _, by show 1 ≤ frames ∧ frames ≤ 64; omega, (fun f hf => by cases hf)⟩
  clear hc0 hc hr hw hD
  generalize hln : s.now.length = n at *
  have HLN := Lib.hid hln
  clear hln
  have hmk := bools_make pages (by omega)
  have hmm := @run_makeMap Tryz.prog
  have g1 : ¬ (first : Int) < 0 := by omega
  have g2 : ¬ (pages : Int) < 1 := by omega
  have g3 : ¬ (65536 : Int) < pages := by omega
  have g4 : ¬ (n : Int) < first := by omega
  have g5 : ¬ (n : Int) - first < pages := by omega
  have g6 : ¬ (frames : Int) < 1 := by omega
  have g7 : ¬ (64 : Int) < frames := by omega
  generalize hz : (List.replicate pages (Value.bool false)).toArray = Z at *
  have HZ := Lib.hid hz
  clear hz
  go_enter Tryz.func26, Tryz.ntmps26
  go_wp2_with (go_at_call 50; refine SE.out.mono ?_; rintro e w1 ⟨rfl, rfl⟩)
  go_ret2
  rw [← HZ.out]
  have O1 : Only [] w (w.alloc (.cells (List.replicate pages (Value.bool false)).toArray 4)) := (Only.refl _ _).alloc _
  refine ⟨_, w.heap.size :: (w.heap.size + 1) :: (w.heap.size + 1 + 1) :: (w.heap.size + 1 + 1 + 1) :: MD, rfl, ⟨⟨MD, w.heap.size, w.heap.size + 1, w.heap.size + 1 + 1, 0, [], ⟨HD.out.past ((((Only.refl _ _).alloc _).alloc _).alloc _ |>.alloc _), ?_, ?_, ?_, ?_, (fun l hl => by cases hl), rfl, List.Pairwise.nil, by omega, Nat.zero_le _, (fun l hl => by cases hl), by show (List.replicate pages false).length ≤ _; rw [List.length_replicate]; omega⟩, fun x hx => by simp [hx], by simp, by simp, by simp, by simp, fun l hl => by cases hl⟩, ?_, FF.out⟩, ⟨?_, ?_⟩⟩
  · refine (Blk.new' _ _ _ (by simp)).to ?_
    simp [poolCells, PS.new]
  · refine (((Blk.new _ _ _).alloc _).alloc _ |>.alloc _).to ?_
    simp [PS.new]
  · have := MapAt.made (w.alloc (.cells (List.replicate pages (Value.bool false)).toArray 4)) .i64
    rw [World.size_alloc] at this
    exact this.past (((Only.refl _ _).alloc _).alloc _)
  · have := MapAt.made ((w.alloc (.cells (List.replicate pages (Value.bool false)).toArray 4)).alloc (.map #[] 0)) .i64
    rw [World.size_alloc, World.size_alloc] at this
    exact this.past ((Only.refl _ _).alloc _)
  · intro x hx
    simp only [List.mem_cons] at hx
    simp only [World.size_alloc]
    rcases hx with rfl | rfl | rfl | rfl | hx
    · omega
    · omega
    · omega
    · omega
    · have := HD.out.lt x hx; omega
  · exact ((((Only.refl _ _).alloc _).alloc _).alloc _).alloc _
  · intro x hx
    simp only [List.mem_cons] at hx
    rcases hx with rfl | rfl | rfl | rfl | hx
    · exact .inr (by omega)
    · exact .inr (by omega)
    · exact .inr (by omega)
    · exact .inr (by omega)
    · exact .inl hx
/-! ### is -/
def PS.is (S : PS) (i : Int) : Bool := decide (0 ≤ i) && (decide (i < S.used.length) && S.used.getD i.toNat false)
set_option maxHeartbeats 1000000 in
theorem Pool.is (h : Pool w p d M S k) (i : Int) {z : Bool} (hz : S.is i = z) : Calls Tryz.prog 52 #[.pointer (some ⟨p, 0, none⟩), .int .i64 i] w fun e w' => e = .returned (.bool z) ∧ w = w' := by
  obtain ⟨MD, ub, hm, pm, asked, L, hP, _⟩ := h.at_
  have c3 := hP.pool.cell 3
  simp only [poolCells, List.getElem?_cons_succ, List.getElem?_cons_zero] at c3
  have HU := Lib.hid hP.used
  clear h hP
  unfold PS.is at hz
  generalize S.used = u at *
  generalize hn : u.length = n at *
  have HN := Lib.hid hn
  clear hn
  by_cases h0 : 0 ≤ i
  · obtain ⟨j, rfl⟩ := Int.eq_ofNat_of_zero_le h0
    by_cases h1 : j < n
    · have hc : w.cell? ⟨ub, j, none⟩ = some (.bool (u.getD j false)) := by
        rw [HU.out.cell, List.getElem?_map, List.getElem?_eq_getElem (by rw [HN.out]; exact h1), List.getD_eq_getElem?_getD, List.getElem?_eq_getElem (by rw [HN.out]; exact h1)]; rfl
      have h1i : (j : Int) < n := by omega
      rw [decide_eq_true h0, decide_eq_true h1i] at hz
      simp only [Bool.true_and, Int.toNat_natCast] at hz
      rw [hz] at hc
      clear hz
      go_enter Tryz.func52, Tryz.ntmps52
      go_wp2_with fail
      go_ret
      exact ⟨rfl, rfl⟩
    · have h1i : ¬ (j : Int) < n := by omega
      rw [decide_eq_true h0, decide_eq_false h1i] at hz
      simp only [Bool.true_and, Bool.false_and] at hz
      subst hz
      have h1b : decide (j < n) = false := by simpa using h1
      go_enter Tryz.func52, Tryz.ntmps52
      go_wp2_with fail
      go_ret
      exact ⟨rfl, rfl⟩
  · rw [decide_eq_false h0] at hz
    simp only [Bool.false_and] at hz
    subst hz
    have h0b : decide (0 ≤ i) = false := by simpa using h0
    go_enter Tryz.func52, Tryz.ntmps52
    go_wp2_with fail
    go_ret
    exact ⟨rfl, rfl⟩
end Go.Proofs.YtfkmjbpnjgnkbaaGreat.P
