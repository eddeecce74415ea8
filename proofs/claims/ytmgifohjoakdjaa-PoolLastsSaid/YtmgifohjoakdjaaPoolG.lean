/-
  The pool's calls, one contract each: Alloc, Release, Get, Put, Durable.
-/
import Derived.Test.YtmgifohjoakdjaaPoolF
namespace Go.Proofs.Ytmgifohjoakdjaa.P
set_option linter.unusedSimpArgs false
open Go Go.RowKit Go.Proofs.Ytmgifohjoakdjaa Go.Proofs.Ytmgifohjoakdjaa.D Go.Proofs.Ytmgifohjoakdjaa.B
set_option linter.unusedVariables false
variable {w w' : World} {p d ub hm pm asked k : Nat} {MD M : List Nat} {L : List Pl} {S : PS}

/-! ### the row of those that are used -/
theorem PS.Fine.use (h : S.Fine k) (j : Nat) (x : Bool) : ({ S with used := S.used.set j x } : PS).Fine k :=
  ⟨h.well, by show S.first + (S.used.set j x).length ≤ _; rw [List.length_set]; exact h.room, by intro f hf; show f.id < (S.used.set j x).length; rw [List.length_set]; exact h.ids f hf, h.len, h.count0, h.count, h.row, h.once, h.few, h.frames, h.clean⟩
theorem PoolAt.use (h : PoolAt w p d MD ub hm pm asked L S k) (j : Nat) (x : Bool) : PoolAt (w.setCell ⟨ub, j, none⟩ (.bool x)) p d MD ub hm pm asked L { S with used := S.used.set j x } k := by
  obtain ⟨n1, n2, n3, n4, n5, n6⟩ := h.poolNe
  have hO := only_set w ub j (.bool x)
  have hX : Aside w [ub] := fun y hy => by simp at hy; subst hy; exact .inr (.inr (.inl ⟨_, h.used⟩))
  refine ⟨hX.disk h.disk hO, (hO.blk h.pool (by simpa using n1)).to ?_, (h.used.set j _).to ?_, h.heldm.later hO (by simpa using n4.symm), h.pins.later hO (by simpa using n5.symm), ?_, h.fst, h.apart, h.ne, h.asked, h.last, ?_⟩
  · simp [poolCells]
  · show _ = (S.used.set j x).map _
    rw [List.map_set]
  · exact fun l hl => ⟨hO.blk (h.frame l hl).1 (by simpa using (n6 l hl).2.1), hX.row (h.frame l hl).2 hO⟩
  · show (S.used.set j x).length ≤ _; rw [List.length_set]; exact h.size
theorem PoolAt.usedCell (h : PoolAt w p d MD ub hm pm asked L S k) {j : Nat} (hj : j < S.used.length) : w.cell? ⟨ub, j, none⟩ = some (.bool (S.used.getD j false)) := by
  rw [h.used.cell, List.getElem?_map, List.getElem?_eq_getElem hj, List.getD_eq_getElem?_getD, List.getElem?_eq_getElem hj]; rfl

/-! ### slices.Index -/
def FirstNo (l : List Bool) (z : Int) : Prop := (z = -1 ∧ ∀ j, j < l.length → l.getD j false = true) ∨ ∃ j : Nat, z = j ∧ j < l.length ∧ l.getD j false = false ∧ ∀ i, i < j → l.getD i false = true
set_option maxHeartbeats 1000000 in
theorem index_any {g n : Nat} {l : List Bool} (hn : l.length = n) (hm : n ≤ 65536) (hc : ∀ j, j < n → w.cell? ⟨g, j, none⟩ = some (.bool (l.getD j false))) :
    Calls Try.prog 26 #[.slice (some ⟨g, 0, none⟩) n n, .bool false] w fun e w' => ∃ z, e = .returned (.int .i64 z) ∧ FirstNo l z ∧ w = w' := by
  have HC := Lib.hid hc
  have HN := Lib.hid hn
  clear hc hn
  go_enter Try.func26, Try.ntmps26
  go_wp2_with fail
  go_loop [8] (fun i => ∃ k : Nat, k ≤ n ∧ i = .int .i64 k ∧ ∀ i, i < k → l.getD i false = true) (fun i => n - (intOf i).toNat)
  case atStart => exact ⟨0, Nat.zero_le _, rfl, fun i hi => absurd hi (Nat.not_lt_zero _)⟩
  case round =>
    obtain ⟨k, hk, rfl, hal⟩ := hrel
    have HAL := Lib.hid hal
    clear hal
    by_cases hlt : k < n
    · have c := HC.out k hlt
      have hki : (k : Int) < n := by omega
      cases hb : l.getD k false with
      | true =>
        have HB := Lib.hid hb
        rw [hb] at c
        clear hb
        go_wp2_with fail
        go_round
        case rel => exact ⟨k + 1, by omega, by go_num, fun i hi => by
          rcases Nat.lt_or_ge i k with h | h
          · exact HAL.out i h
          · obtain rfl : i = k := by omega
            exact HB.out⟩
        case measure => simp [intOf]; omega
      | false =>
        have HB := Lib.hid hb
        rw [hb] at c
        clear hb
        go_wp2_with fail
        go_ret
        exact ⟨_, rfl, .inr ⟨k, rfl, by rw [HN.out]; exact hlt, HB.out, HAL.out⟩, rfl⟩
    · obtain rfl : k = n := by omega
      go_wp2_with fail
      go_ret
      exact ⟨_, rfl, .inl ⟨rfl, by rw [HN.out]; exact HAL.out⟩, rfl⟩

/-! ### Alloc -/
inductive Allocs (S : PS) : Nat → Int → PS → Prop
  | all (h : ∀ j, j < S.used.length → S.used.getD j false = true) : Allocs S 0 52 S
  | full (j : Nat) (hj : j < S.used.length) (hu : S.used.getD j false = false) (hl : ∀ i, i < j → S.used.getD i false = true) (h : Lays S j zeros 0 52 S) : Allocs S 0 52 S
  | one (j : Nat) (hj : j < S.used.length) (hu : S.used.getD j false = false) (hl : ∀ i, i < j → S.used.getD i false = true) {S1 : PS} (h : Lays S j zeros 0 0 S1) : Allocs S j 0 { S1 with used := S1.used.set j true }
theorem Lays.same {id : Nat} {b : List UInt8} {lsn : Nat} {r : Int} {S' : PS} (h : Lays S id b lsn r S') : S'.used = S.used ∧ S'.first = S.first ∧ S'.frames = S.frames ∧ S'.durable = S.durable := by
  cases h with
  | held f hf hi => exact ⟨rfl, rfl, rfl, rfl⟩
  | full hi h => exact ⟨rfl, rfl, rfl, rfl⟩
  | more hi h => exact h.same
theorem Lays.code {id : Nat} {b : List UInt8} {lsn : Nat} {r : Int} {S' : PS} (h : Lays S id b lsn r S') : r = 0 ∨ (r = 52 ∧ S' = S) := by
  cases h <;> simp
theorem info_u8 : (Try.prog.info? 5).map (fun i => (i.zero, i.size, i.bytes)) = some (some (.int .u8 0), 1, 1) := by kernel_rfl
theorem zeros_make : ∀ w : World, (Instr.makeSlice 22 (.int .i64 512) (.int .i64 512)).run Try.prog w = .ok (.slice (some ⟨w.heap.size, 0, none⟩) 512 512) (w.alloc (.cells (u8s zeros).toArray 5)) := by
  intro w
  obtain ⟨i, hi, hz0, hz1, hz2⟩ := info_parts info_u8
  have hr := run_make (P := Try.prog) w 22 5 i (.int .u8 0) Try.underlying22 hi hz0 .i64 .i64 512 512 (by omega) (by omega) (by rw [hz2]; decide) (by omega)
  rw [hr]
  simp only [Value.cells, hz1, Nat.mul_one, madeCells_one, zeros, u8s_replicate]
  rfl
set_option maxHeartbeats 2000000 in
theorem Pool.alloc (h : Pool w p d M S k) (hk : k ≤ 1000000) : Calls Try.prog 10 #[.pointer (some ⟨p, 0, none⟩)] w fun e w' => ∃ (id : Nat) (r : Int) (S' : PS) (M' : List Nat), e = .returned (.tuple #[.int .i64 id, .int .i64 r]) ∧ Allocs S id r S' ∧ Pool w' p d M' S' (k + 2) ∧ Step M M' w w' := by
  have HP := Lib.hid h
  obtain ⟨MD, ub, hm, pm, asked, L, hA, hm1, hm2, hm3, hm4, hm5, hm6⟩ := h.at_
  have HA := Lib.hid hA
  have c3 := hA.pool.cell 3
  simp only [poolCells, List.getElem?_cons_succ, List.getElem?_cons_zero] at c3
  have IX : Hid (Calls Try.prog 26 #[.slice (some ⟨ub, 0, none⟩) S.used.length S.used.length, .bool false] w fun e w' => ∃ z, e = .returned (.int .i64 z) ∧ FirstNo S.used z ∧ w = w') := index_any rfl hA.size (fun j hj => hA.usedCell hj)
  have hmk := zeros_make
  clear hA h hm1 hm2 hm3 hm4 hm5 hm6
  generalize hz : (u8s zeros).toArray = Z at *
  have HZ := Lib.hid hz
  clear hz
  generalize hn : S.used.length = n at *
  have HN := Lib.hid hn
  clear hn
  go_enter Try.func10, Try.ntmps10
  go_wp2_with fail
  refine IX.out.mono ?_
  rintro e w1 ⟨z, rfl, hz, rfl⟩
  have HF := Lib.hid hz
  rcases hz with ⟨rfl, hall⟩ | ⟨j, rfl, hj, hu, hlow⟩
  · have ALL := Lib.hid hall
    clear hall
    go_wp2_with fail
    go_ret2
    exact ⟨0, _, S, M, rfl, .all ALL.out, HP.out.more (by omega), Only.refl _ _, fun x hx => .inl hx⟩
  · have HJ : Hid (j < S.used.length) := hj
    have HU := Lib.hid hu
    have HL := Lib.hid hlow
    have hj0 : ¬ (j : Int) < 0 := by omega
    clear hj hu hlow
    go_wp2_with fail
    have hP1 := HP.out.past ((Only.refl [] w).alloc (.cells Z 5))
    have hb : Blk (w.alloc (.cells Z 5)) w.heap.size (u8s zeros) 5 := by rw [← HZ.out]; exact Blk.new _ _ w
    refine (lays_any hP1 hk j HJ.out (Blk.bytes hb zeros_len.symm) (notIn rfl (fun hx => by have := HP.out.lt _ hx; omega)) zeros_len 0).mono ?_
    rintro e w2 ⟨r, S1, M1, rfl, hl, hP2, hS2⟩
    have LY := Lib.hid hl
    have P2 := Lib.hid hP2
    have S2 : Hid (Step M M1 w w2) := ⟨((Only.refl M w).alloc _).trans hS2.1 (fun x hx => .inl hx), fun x hx => by
      rcases hS2.2 x hx with h1 | h1
      · exact .inl h1
      · right; rw [World.size_alloc] at h1; omega⟩
    clear hP1 hb hP2 hS2
    have hr := hl.code
    clear hl
    rcases hr with rfl | ⟨rfl, rfl⟩
    · obtain ⟨MD1, ub1, hm1, pm1, asked1, L1, hA1, g1, g2, g3, g4, g5, g6⟩ := P2.out.at_
      have hn1 : S1.used.length = n := by rw [LY.out.same.1]; exact HN.out
      have hj1 : j < S1.used.length := by rw [LY.out.same.1]; exact HJ.out
      have c3' := hA1.pool.cell 3
      simp only [poolCells, List.getElem?_cons_succ, List.getElem?_cons_zero] at c3'
      rw [hn1] at c3' hj1
      have cj := hA1.usedCell (by rw [hn1]; exact hj1)
      have fj := hA1.used.frozen j
      have hji : (j : Int) < n := by omega
      have hjp : (0 : Int) ≤ j := by omega
      have HA1 := Lib.hid hA1
      have HM1 : Hid ((∀ x ∈ MD1, x ∈ M1) ∧ p ∈ M1 ∧ ub1 ∈ M1 ∧ hm1 ∈ M1 ∧ pm1 ∈ M1 ∧ (∀ l ∈ L1, l.at_ ∈ M1 ∧ ∀ x, l.v.ownBlock = some x → x ∈ M1)) := ⟨g1, g2, g3, g4, g5, g6⟩
      generalize S1.used.getD j false = bj at *
      clear hA1 g1 g2 g3 g4 g5 g6 c3 hn1
      go_wp2_with fail
      go_ret2
      have A3 := HA1.out.use j true
      have hO3 := only_set w2 ub1 j (.bool true)
      obtain ⟨M', hP, hS⟩ := Pool.ofAt P2.out.lt (hO3.mono (M' := M1) (fun x hx => by simp at hx; subst hx; exact .inl HM1.out.2.2.1)) A3 (P2.out.fine.use j true) (fun x hx => .inl (HM1.out.1 x hx)) HM1.out.2.1 (.inl HM1.out.2.2.1) (.inl HM1.out.2.2.2.1) (.inl HM1.out.2.2.2.2.1) (fun l hl => ⟨.inl (HM1.out.2.2.2.2.2 l hl).1, fun y hy => .inl ((HM1.out.2.2.2.2.2 l hl).2 y hy)⟩)
      exact ⟨j, _, _, M', rfl, .one j HJ.out HU.out HL.out LY.out, hP, S2.out.next hS⟩
    · go_wp2_with fail
      go_ret2
      exact ⟨0, _, S1, M1, rfl, .full j HJ.out HU.out HL.out LY.out, P2.out, S2.out⟩
end Go.Proofs.Ytmgifohjoakdjaa.P
