import Derived.Test.YtfkmjbpnjgnkbaaGreatMHpL
import Derived.Test.YtfkmjbpnjgnkbaaGreatMPageL
import Derived.Test.YtfkmjbpnjgnkbaaGreatMRegionC
import Derived.Deep.RegionHeld3
import Derived.Deep.LoopGhost
/-
  The program's heap: Get: by contracts.
-/
namespace Go.Proofs.YtfkmjbpnjgnkbaaGreat.H
set_option linter.unusedSimpArgs false
open Go Go.RowKit Go.Proofs.YtfkmjbpnjgnkbaaGreat.D Go.Proofs.YtfkmjbpnjgnkbaaGreat.B Go.Proofs.YtfkmjbpnjgnkbaaGreat.C Go.Proofs.YtfkmjbpnjgnkbaaGreat.G Go.Proofs.YtfkmjbpnjgnkbaaGreat.P
set_option linter.unusedVariables false
section
variable {w : World} {hb p root k : Nat} {M : List Nat} {u : List Bool} {pg : Nat → List UInt8} {ids : List Nat}
theorem info_ver : (Tryz.prog.info? 50).map (·.size) = some 4 := by kernel_rfl
def verCells (v : Value) (a b c : Nat) : List Value := [v, .int .u64 a, .int .u64 b, .int .u64 c]
theorem verCells_one {ao : Option Addr} {n cap a b c : Nat} : ∀ x ∈ verCells (.slice ao n cap) a b c, x.oneCell' = true := by
  intro x hx
  simp only [verCells, List.mem_cons, List.not_mem_nil, or_false] at hx
  rcases hx with rfl | rfl | rfl | rfl <;> rfl
set_option maxRecDepth 100000 in
set_option maxHeartbeats 1000000 in
theorem hget_no (hP : PoolV w p M u pg k) (hk : k ≤ 1000000) (hH : HpAt w hb p root) (hM : hb ∉ M) (hI : HeapIs u pg root ids) (r : Nat) (hr : r < W64) (hn : NoVer u pg ids r) :
    Calls Tryz.prog 21 #[.pointer (some ⟨hb, 0, none⟩), .int .u64 r] w fun e w' => e = .returned (.tuple #[.agg (verCells (.slice none 0 0) 0 0 0).toArray, .int .i64 91]) ∧ ∃ M', PoolV w' p M' u pg (k + 2) ∧ Step M M' w w' := by
  have O0 : Only [] w (w.alloc (.cells (verCells (.slice none 0 0) 0 0 0).toArray 50)) := (Only.refl _ _).alloc _
  have FN := Lib.hid (find_no (hP.past O0) hk (hH.past O0) hM hI r hr hn)
  have BX : Hid (Blk (w.alloc (.cells (verCells (.slice none 0 0) 0 0 0).toArray 50)) w.heap.size (verCells (.slice none 0 0) 0 0 0) 50) := Blk.new _ _ w
  have HNM : Hid (w.heap.size ∉ M) := fun hm => Nat.lt_irrefl _ (hP.lt _ hm)
  have IC : Hid ((Tryz.prog.info? 50).map (·.size) = some (verCells (.slice none 0 0) 0 0 0).length) := info_ver
  have O0' := Lib.hid O0
  have UC := Tryz.underlying50
  clear hP hH hM hI hn hr O0
  go_enter Tryz.func21, Tryz.ntmps21
  go_wp2_with (first
    | (go_at_call 39; refine FN.out.mono ?_; rintro e w1 ⟨rfl, M1, hP1, hS1⟩; have P1 := Lib.hid hP1; have S1 := Lib.hid hS1; have B1 := Lib.hid (hS1.1.blk BX.out HNM.out); clear hP1 hS1)
    | (refine wpList_store_blk rfl 50 (.tmp 4) (.tmp 25) rfl w.heap.size (verCells (.slice none 0 0) 0 0 0) rfl rfl B1.out rfl IC.out verCells_one ?_; intro w4 hb4 hO4; have B4 := Lib.hid hb4; have O4 := Lib.hid hO4; clear hb4 hO4))
  (try simp only [Exit.inBlock, Exit.then])
  refine bodyPost_ret (results_cell_two rfl _ _ w.heap.size (verCells (.slice none 0 0) 0 0 0) _ rfl B4.out UC rfl IC.out) rfl ?_
  have hNM1 : w.heap.size ∉ M1 := P.Step.keep S1.out BX.out.lt HNM.out
  refine ⟨rfl, M1, P1.out.later O4.out (fun x hx cs hcs => ?_) (fun x hx hxm => ?_), (Step.ahead O0'.out S1.out).1.trans O4.out (fun x hx => by simp at hx; subst hx; exact .inr (Nat.le_refl _)), (Step.ahead O0'.out S1.out).2⟩
  · simp at hx; subst hx; exact absurd rfl (hcs.ne B1.out (by decide))
  · simp at hxm; subst hxm; exact hNM1 hx
set_option maxRecDepth 100000 in
set_option maxHeartbeats 1000000 in
theorem hget_yes (hP : PoolV w p M u pg k) (hk : k ≤ 1000000) (hH : HpAt w hb p root) (hM : hb ∉ M) (hI : HeapIs u pg root ids) (r : Nat) {v : Ver} (hv : IsVer pg ids r v) :
    Calls Tryz.prog 21 #[.pointer (some ⟨hb, 0, none⟩), .int .u64 r] w fun e w' => ∃ g c M', e = .returned (.tuple #[.agg (verCells (.slice (some ⟨g, 0, none⟩) v.row.length c) v.xmin v.xmax v.next).toArray, .int .i64 0]) ∧ ByteRow 5 w' (.slice (some ⟨g, 0, none⟩) v.row.length c) v.row ∧ w.heap.size ≤ g ∧ g ∉ M' ∧ PoolV w' p M' u pg (k + 2) ∧ Step M M' w w' := by
  have O0 : Only [] w (w.alloc (.cells (verCells (.slice none 0 0) 0 0 0).toArray 50)) := (Only.refl _ _).alloc _
  have FY := Lib.hid (find_yes (hP.past O0) hk (hH.past O0) hM hI r hv)
  have BX : Hid (Blk (w.alloc (.cells (verCells (.slice none 0 0) 0 0 0).toArray 50)) w.heap.size (verCells (.slice none 0 0) 0 0 0) 50) := Blk.new _ _ w
  have HNM : Hid (w.heap.size ∉ M) := fun hm => Nat.lt_irrefl _ (hP.lt _ hm)
  have IC : Hid ((Tryz.prog.info? 50).map (·.size) = some 4) := info_ver
  have O0' := Lib.hid O0
  have UC := Tryz.underlying50
  obtain ⟨hid, hver⟩ := hv
  obtain ⟨_, _, _, hpage⟩ := hI.at hid
  obtain ⟨hodd, s, h1, h2, h3, h4, h5, h6⟩ := verAt_some hpage hver
  have hxm : v.xmin = unle (s.take 8) := by rw [h6]; rfl
  have hxx : v.xmax = unle ((s.drop 8).take 8) := by rw [h6]; rfl
  have hxn : v.next = unle (s.drop 16) := by rw [h6]; rfl
  have GE : Hid (∀ w1 v, BytesC w1 v (pg (r / 128)) → Calls Tryz.prog 43 #[v, .int .i64 (r % 128 : Nat)] w1 fun e w' => ∃ g c, e = .returned (.tuple #[.slice (some ⟨g, 0, none⟩) 24 c, .int .i64 0]) ∧ ByteRow 5 w' (.slice (some ⟨g, 0, none⟩) 24 c) s ∧ 24 ≤ c ∧ Only [] w1 w') := fun w1 v hb => by
    refine (page_cell hb hpage.pg h1).mono ?_
    rintro e w' ⟨g, c, rfl, hr, hc, _, hO⟩
    rw [h3] at hr hc ⊢
    exact ⟨g, c, rfl, hr, hc, hO⟩
  have GR : Hid (∀ w1 v', BytesC w1 v' (pg (r / 128)) → Calls Tryz.prog 43 #[v', .int .i64 (r % 128 + 1 : Nat)] w1 fun e w' => ∃ g c, e = .returned (.tuple #[.slice (some ⟨g, 0, none⟩) v.row.length c, .int .i64 0]) ∧ ByteRow 5 w' (.slice (some ⟨g, 0, none⟩) v.row.length c) v.row ∧ v.row.length ≤ c ∧ w1.heap.size ≤ g ∧ Only [] w1 w') := fun w1 v hb => by
    refine (page_cell hb hpage.pg h2).mono ?_
    rintro e w' ⟨g, c, rfl, hr, hc, hg, hO⟩
    exact ⟨g, c, rfl, hr, hc, hg, hO⟩
  have U1 : Hid (∀ w1 g c, ByteRow 5 w1 (.slice (some ⟨g, 0, none⟩) 24 c) s → Calls Tryz.prog 46 #[.slice (some ⟨g, 0, none⟩) 8 c] w1 fun e w' => e = .returned (.int .u64 v.xmin) ∧ w1 = w') := fun w1 g c hb => by
    have := unlittle_any (w := w1) g 0 c ((s.drop 0).take 8) (by simp; omega) (row_part hb 0 8 (by omega))
    rw [List.drop_zero, ← hxm, List.length_take, h3] at this
    exact this
  have U2 : Hid (∀ w1 g c, ByteRow 5 w1 (.slice (some ⟨g, 0, none⟩) 24 c) s → Calls Tryz.prog 46 #[.slice (some ⟨g, 8, none⟩) 8 (c - 8)] w1 fun e w' => e = .returned (.int .u64 v.xmax) ∧ w1 = w') := fun w1 g c hb => by
    have := unlittle_any (w := w1) g 8 (c - 8) ((s.drop 8).take 8) (by simp; omega) (row_part hb 8 8 (by omega))
    rw [← hxx, List.length_take, List.length_drop, h3] at this
    exact this
  have U3 : Hid (∀ w1 g c, ByteRow 5 w1 (.slice (some ⟨g, 0, none⟩) 24 c) s → Calls Tryz.prog 46 #[.slice (some ⟨g, 16, none⟩) 8 (c - 16)] w1 fun e w' => e = .returned (.int .u64 v.next) ∧ w1 = w') := fun w1 g c hb => by
    have := unlittle_any (w := w1) g 16 (c - 16) ((s.drop 16).take 8) (by simp; omega) (row_part hb 16 8 (by omega))
    rw [List.take_of_length_le (by rw [List.length_drop]; omega), ← hxn, List.length_drop, h3] at this
    exact this
  have hsl : r % 128 < 128 := Nat.mod_lt _ (by omega)
  have HL4 := Lib.hid h4
  have HL5 := Lib.hid h5
  have hmk := make_u8s v.row.length (by omega)
  clear hP hH hM hI hid hver hpage h1 h2 h3 h4 h5 h6 hxm hxx hxn hodd O0
  obtain ⟨id, hide⟩ : ∃ id, r / 128 = id := ⟨_, rfl⟩
  obtain ⟨slot, hsle⟩ : ∃ slot, r % 128 = slot := ⟨_, rfl⟩
  rw [hide] at FY GE GR
  rw [hsle] at FY GE GR hsl
  clear hide hsle
  obtain ⟨row, xmin, xmax, next⟩ := v
  simp only at *
  generalize hlen : row.length = len at *
  have HLEN := Lib.hid hlen
  clear hlen
  have ew : wrap64 ((slot : Int) + 1) = ((slot + 1 : Nat) : Int) := by unfold wrap64; omega
  have EW := Lib.hid ew
  clear ew
  go_enter Tryz.func21, Tryz.ntmps21
  go_wp2_with (first
    | (go_at_call 39; refine FY.out.mono ?_; rintro e w1 ⟨gb, c, M1, rfl, hg⟩; have G1 := Lib.hid hg; have B1 := Lib.hid (hg.2.2.2.2.1.blk BX.out HNM.out); clear hg)
    | (go_at_call_of 43 (Value.int .i64 (slot : Int)); refine (GE.out _ _ G1.out.1.c).mono ?_; rintro e w2 ⟨g2, c2, rfl, hr2, hc2, hO2⟩; have R2 := Lib.hid hr2; have C2 := Lib.hid hc2; have O2 := Lib.hid hO2; clear hr2 hc2 hO2))
  refine (GR.out _ _ (G1.out.1.past O2.out).c).mono ?_
  rintro e w3 ⟨g3, c3, rfl, hr3, hc3, hg3, hO3⟩
  have R3 := Lib.hid hr3
  have O3 := Lib.hid (O2.out.trans hO3 (by simp))
  have R2' := Lib.hid (show ByteRow 5 w3 (.slice (some ⟨g2, 0, none⟩) 24 c2) s from owns_later R2.out hO3 (by simp))
  have c24 := C2.out
  have b1 : (8 : Int) ≤ c2 := by omega
  have b2 : (16 : Int) ≤ c2 := by omega
  have b3 : (24 : Int) ≤ c2 := by omega
  have b4 : ¬ c2 = 8 := by omega
  have b5 : ¬ c2 = 16 := by omega
  have b6 : 8 < c2 := by omega
  have b7 : 16 < c2 := by omega
  have b8 : 8 ≤ c2 := by omega
  have b9 : 16 ≤ c2 := by omega
  clear hr3 hc3 hg3 hO3 R2 C2
  go_wp2_with fail
  go_cut [14] (fun s14 wx => ∃ (a b : Nat), s14 = .pointer (some ⟨b, 0, none⟩) ∧ Blk wx a (u8s (List.replicate len 0)) 5 ∧ Blk wx b (verCells (.slice (some ⟨a, 0, none⟩) len len) xmin xmax next) 50 ∧ w3.heap.size ≤ a ∧ w3.heap.size ≤ b ∧ Only [] w3 wx)
  case first =>
    refine wp_region_held_drew (S := fun w' => ByteRow 5 w' (.slice (some ⟨g2, 0, none⟩) 24 c2) s) (by kernel_rfl) R2'.out (fun hHeld => ?_)
    refine take_at 0 40 (.slice (some ⟨g3, 0, none⟩) len c3) rfl rfl (by kernel_rfl) (by kernel_rfl) (by kernel_rfl) (fun _ _ _ h => h) (Or.inl ⟨by rfl, fun w1 hw1 => by go_simp⟩) hHeld ?_
    (try simp only [Act.put, List.setIfInBounds_toArray, List.set_cons_zero, List.set_cons_succ])
    refine take_at 1 41 (.int .i64 len) rfl rfl (by kernel_rfl) (by kernel_rfl) (by kernel_rfl) (fun _ _ _ h => h) (Or.inl ⟨by rfl, fun w1 hw1 => by go_simp⟩) hHeld ?_
    (try simp only [Act.put, List.setIfInBounds_toArray, List.set_cons_zero, List.set_cons_succ])
    refine take_at 3 43 (.slice (some ⟨g2, 0, none⟩) 24 c2) rfl rfl (by kernel_rfl) (by kernel_rfl) (by kernel_rfl) (fun _ _ _ h => h) (Or.inl ⟨by rfl, fun w1 hw1 => by go_simp⟩) hHeld ?_
    (try simp only [Act.put, List.setIfInBounds_toArray, List.set_cons_zero, List.set_cons_succ])
    refine take_at 4 44 (.slice (some ⟨g2, 0, none⟩) 8 c2) rfl rfl (by kernel_rfl) (by kernel_rfl) (by kernel_rfl) (fun _ _ _ h => h) (Or.inl ⟨by rfl, fun w1 hw1 => by go_simp⟩) hHeld ?_
    (try simp only [Act.put, List.setIfInBounds_toArray, List.set_cons_zero, List.set_cons_succ])
    refine take_at 6 46 (.slice (some ⟨g2, 0, none⟩) 24 c2) rfl rfl (by kernel_rfl) (by kernel_rfl) (by kernel_rfl) (fun _ _ _ h => h) (Or.inl ⟨by rfl, fun w1 hw1 => by go_simp⟩) hHeld ?_
    (try simp only [Act.put, List.setIfInBounds_toArray, List.set_cons_zero, List.set_cons_succ])
    refine take_at 7 47 (.slice (some ⟨g2, 8, none⟩) 8 (c2 - 8)) rfl rfl (by kernel_rfl) (by kernel_rfl) (by kernel_rfl) (fun _ _ _ h => h) (Or.inl ⟨by rfl, fun w1 hw1 => by go_simp⟩) hHeld ?_
    (try simp only [Act.put, List.setIfInBounds_toArray, List.set_cons_zero, List.set_cons_succ])
    refine take_at 9 49 (.slice (some ⟨g2, 0, none⟩) 24 c2) rfl rfl (by kernel_rfl) (by kernel_rfl) (by kernel_rfl) (fun _ _ _ h => h) (Or.inl ⟨by rfl, fun w1 hw1 => by go_simp⟩) hHeld ?_
    (try simp only [Act.put, List.setIfInBounds_toArray, List.set_cons_zero, List.set_cons_succ])
    refine take_at 10 50 (.slice (some ⟨g2, 16, none⟩) 8 (c2 - 16)) rfl rfl (by kernel_rfl) (by kernel_rfl) (by kernel_rfl) (fun _ _ _ h => h) (Or.inl ⟨by rfl, fun w1 hw1 => by go_simp⟩) hHeld ?_
    (try simp only [Act.put, List.setIfInBounds_toArray, List.set_cons_zero, List.set_cons_succ])
    refine tell_at 5 45 (.int .u64 xmin) rfl rfl (by kernel_rfl) (by kernel_rfl) (by kernel_rfl) (fun _ _ _ h => h) ⟨by rfl, fun w1 hw1 => by unfold Oper.quietAt; go_simp; exact ((U1.out _ _ _ hw1).mono fun e w2 ⟨h1, h2⟩ => ⟨h1, h2.symm⟩)⟩ hHeld ?_
    (try simp only [Act.put, List.setIfInBounds_toArray, List.set_cons_zero, List.set_cons_succ])
    refine tell_at 8 48 (.int .u64 xmax) rfl rfl (by kernel_rfl) (by kernel_rfl) (by kernel_rfl) (fun _ _ _ h => h) ⟨by rfl, fun w1 hw1 => by unfold Oper.quietAt; go_simp; exact ((U2.out _ _ _ hw1).mono fun e w2 ⟨h1, h2⟩ => ⟨h1, h2.symm⟩)⟩ hHeld ?_
    (try simp only [Act.put, List.setIfInBounds_toArray, List.set_cons_zero, List.set_cons_succ])
    refine tell_at 11 51 (.int .u64 next) rfl rfl (by kernel_rfl) (by kernel_rfl) (by kernel_rfl) (fun _ _ _ h => h) ⟨by rfl, fun w1 hw1 => by unfold Oper.quietAt; go_simp; exact ((U3.out _ _ _ hw1).mono fun e w2 ⟨h1, h2⟩ => ⟨h1, h2.symm⟩)⟩ hHeld ?_
    (try simp only [Act.put, List.setIfInBounds_toArray, List.set_cons_zero, List.set_cons_succ])
    have OA := ((Only.refl [] w3).drew).alloc (.cells (u8s (List.replicate len 0)).toArray 5)
    have OAB := OA.alloc (.cells (verCells (.slice none 0 0) 0 0 0).toArray 50)
    have OB := ((Only.refl [] w3).drew).alloc (.cells (verCells (.slice none 0 0) 0 0 0).toArray 50)
    have OBA := OB.alloc (.cells (u8s (List.replicate len 0)).toArray 5)
    have HGL : Hid (g2 < w3.heap.size) := owns_lt R2'.out rfl
    refine two_at 2 13 rfl rfl (by kernel_rfl) (by rfl) (by rfl) (fun K hK => ?_) (fun K hK => ?_)
    · go_wp2_with fail
      refine hK.out _ _ (owns_later R2'.out OA (by simp)) ?_
      clear hK K
      (try simp only [Act.put, List.setIfInBounds_toArray, List.set_cons_zero, List.set_cons_succ])
      refine take_at 12 52 (.agg (verCells (.slice (some ⟨w3.heap.size, 0, none⟩) len len) xmin xmax next).toArray) rfl rfl (by kernel_rfl) (by kernel_rfl) (by kernel_rfl) (fun _ _ _ h => h) (Or.inl ⟨by rfl, fun w1 hw1 => by go_simp; rfl⟩) (owns_later R2'.out OA (by simp)) ?_
      (try simp only [Act.put, List.setIfInBounds_toArray, List.set_cons_zero, List.set_cons_succ])
      refine one_at 13 rfl (by kernel_rfl) (by rfl) (fun K hK => ?_)
      go_wp2_with fail
      refine hK.out _ _ (owns_later R2'.out OAB (by simp)) ?_
      clear hK K
      (try simp only [Act.put, List.setIfInBounds_toArray, List.set_cons_zero, List.set_cons_succ])
      refine one_at 14 rfl (by kernel_rfl) (by rfl) (fun K hK => ?_)
      refine store_at 50 (.tmp 14) (.tmp 52) rfl rfl (w3.heap.size + 1) (verCells (.slice (some ⟨w3.heap.size, 0, none⟩) len len) xmin xmax next) rfl rfl (Blk.new' (verCells (.slice none 0 0) 0 0 0).toArray 50 (w3.drew.alloc (.cells (u8s (List.replicate len 0)).toArray 5)) (by simp)) rfl IC.out verCells_one ?_
      intro w9 hb9 hO9
      have hS9 : ByteRow 5 w9 (.slice (some ⟨g2, 0, none⟩) 24 c2) s := owns_later (owns_later R2'.out OAB (by simp)) hO9 (fun k hk hm => by simp [Value.ownBlock] at hk hm; have := HGL.out; omega)
      have hA9 : Blk w9 w3.heap.size (u8s (List.replicate len 0)) 5 := hO9.blk ((Blk.new' (u8s (List.replicate len 0)).toArray 5 w3.drew rfl).alloc _) (by simp)
      have hOO : Only [] w3 w9 := OAB.trans hO9 (fun x hx => by simp at hx; subst hx; exact .inr (by omega))
      refine hK.out _ _ hS9 ?_
      clear hK K
      (try simp only [Act.put, List.setIfInBounds_toArray, List.set_cons_zero, List.set_cons_succ])
      refine wpAnyH_done (by kernel_rfl) ?_ _
      go_wp2_with fail
      go_meet
      case rel => exact ⟨w3.heap.size, w3.heap.size + 1, rfl, hA9, hb9, Nat.le_refl _, by omega, hOO⟩
    · go_wp2_with fail
      refine hK.out _ _ (owns_later R2'.out OB (by simp)) ?_
      clear hK K
      (try simp only [Act.put, List.setIfInBounds_toArray, List.set_cons_zero, List.set_cons_succ])
      refine one_at 2 rfl (by kernel_rfl) (by rfl) (fun K hK => ?_)
      go_wp2_with fail
      refine hK.out _ _ (owns_later R2'.out OBA (by simp)) ?_
      clear hK K
      (try simp only [Act.put, List.setIfInBounds_toArray, List.set_cons_zero, List.set_cons_succ])
      refine take_at 12 52 (.agg (verCells (.slice (some ⟨w3.heap.size + 1, 0, none⟩) len len) xmin xmax next).toArray) rfl rfl (by kernel_rfl) (by kernel_rfl) (by kernel_rfl) (fun _ _ _ h => h) (Or.inl ⟨by rfl, fun w1 hw1 => by go_simp; rfl⟩) (owns_later R2'.out OBA (by simp)) ?_
      (try simp only [Act.put, List.setIfInBounds_toArray, List.set_cons_zero, List.set_cons_succ])
      refine one_at 14 rfl (by kernel_rfl) (by rfl) (fun K hK => ?_)
      refine store_at 50 (.tmp 14) (.tmp 52) rfl rfl w3.heap.size (verCells (.slice (some ⟨w3.heap.size + 1, 0, none⟩) len len) xmin xmax next) rfl rfl ((Blk.new' (verCells (.slice none 0 0) 0 0 0).toArray 50 w3.drew rfl).alloc _) rfl IC.out verCells_one ?_
      intro w9 hb9 hO9
      have hS9 : ByteRow 5 w9 (.slice (some ⟨g2, 0, none⟩) 24 c2) s := owns_later (owns_later R2'.out OBA (by simp)) hO9 (fun k hk hm => by simp [Value.ownBlock] at hk hm; have := HGL.out; omega)
      have hA9 : Blk w9 (w3.heap.size + 1) (u8s (List.replicate len 0)) 5 := hO9.blk (Blk.new' (u8s (List.replicate len 0)).toArray 5 (w3.drew.alloc (.cells (verCells (.slice none 0 0) 0 0 0).toArray 50)) (by simp)) (by simp)
      have hOO : Only [] w3 w9 := OBA.trans hO9 (fun x hx => by simp at hx; subst hx; exact .inr (by omega))
      refine hK.out _ _ hS9 ?_
      clear hK K
      (try simp only [Act.put, List.setIfInBounds_toArray, List.set_cons_zero, List.set_cons_succ])
      refine wpAnyH_done (by kernel_rfl) ?_ _
      go_wp2_with fail
      go_meet
      case rel => exact ⟨w3.heap.size + 1, w3.heap.size, rfl, hA9, hb9, by omega, Nat.le_refl _, hOO⟩
  case rest =>
    obtain ⟨a, b, rfl, hA, hB, ha, hb', hO⟩ := hcut
    have R3x : ByteRow 5 wc (.slice (some ⟨g3, 0, none⟩) len c3) row := owns_later R3.out hO (by simp)
    have hsrc : ∀ j v, (u8s row)[j]? = some v → wc.cell? ((⟨g3, 0, none⟩ : Addr).add j) = some v := fun j v hj => by
      have := R3x.src j v hj
      rw [Nat.zero_add] at this
      have hadd : (⟨g3, 0, none⟩ : Addr).add j = ⟨g3, j, none⟩ := by unfold Addr.add; split <;> simp_all
      rw [hadd]; exact this
    have HSRC := Lib.hid hsrc
    have HA := Lib.hid hA
    have HB := Lib.hid hB
    have hab : a ≠ b := hA.ne hB (by decide)
    have HAB := Lib.hid hab
    have HN1 : Hid ((u8s row).length = Nat.min len len) := by show _ = _; rw [length_u8s, HLEN.out]; exact (Nat.min_self len).symm
    have HN2 : Hid (0 + (u8s row).length ≤ (u8s (List.replicate len 0)).length) := by show _ ≤ _; rw [length_u8s, length_u8s, List.length_replicate, HLEN.out]; omega
    have ESP : Hid (splice (u8s (List.replicate len (0 : UInt8))) 0 (u8s row) = u8s row) := by
      show _ = _
      rw [u8s_splice _ _ (by rw [List.length_replicate, HLEN.out]; exact Nat.le_refl _), List.drop_of_length_le (by rw [List.length_replicate, HLEN.out]; exact Nat.le_refl _), List.append_nil]
    have hN3 : w.heap.size < w3.heap.size := by have := BX.out.lt; have := G1.out.2.2.2.2.1.size; have := O3.out.size; omega
    have HO := Lib.hid hO
    have HN3 := Lib.hid hN3
    have BN := Lib.hid (hO.blk (O3.out.blk B1.out (by simp)) (by simp))
    have HLA := Lib.hid ha
    have HLB := Lib.hid hb'
    have e0 := hB.cell 0
    simp only [verCells, List.getElem?_cons_zero] at e0
    clear hA hB ha hb' hO R3x hsrc hab hN3
    go_wp2_with (first
      | (refine wpList_copy_blk rfl (.tmp 54) (.tmp 55) 33 33 rfl 5 Tryz.underlying33 G.size_byte _ _ _ _ _ _ rfl rfl a 0 (u8s (List.replicate len 0)) 5 HA.out (u8s row) HN1.out (fun _ => ⟨rfl, _, rfl, HSRC.out⟩) HN2.out (u8s_oneCell _) ?_; intro w5 hb5 hO5; have A5 := Lib.hid (hb5.to ESP.out); have O5 := Lib.hid hO5; have B5 := Lib.hid (hO5.blk HB.out (by simp; exact fun h => HAB.out h.symm)); have BN5 := Lib.hid (hO5.blk BN.out (by simp; have h1 := HN3.out; have h2 := HLA.out; omega)); clear hb5 hO5)
      | (refine wpList_load_blk rfl 50 (.tmp 14) rfl b rfl B5.out _ Tryz.underlying50 rfl IC.out ?_)
      | (refine wpList_store_blk rfl 50 (.tmp 4) (.tmp 57) rfl w.heap.size (verCells (.slice (some ⟨a, 0, none⟩) len len) xmin xmax next) rfl rfl BN5.out rfl IC.out verCells_one ?_; intro w6 hb6 hO6; have B6 := Lib.hid hb6; have O6 := Lib.hid hO6; clear hb6 hO6))
    (try simp only [Exit.inBlock, Exit.then])
    refine bodyPost_ret (results_cell_two rfl _ _ w.heap.size (verCells (.slice (some ⟨a, 0, none⟩) len len) xmin xmax next) _ rfl B6.out UC rfl IC.out) rfl ?_
    obtain ⟨g1, g2', g3', g4, g5⟩ := G1.out
    have hsz1 : w.heap.size < w1.heap.size := B1.out.lt
    have P3 := (g4.past O3.out).past HO.out
    have hlt := g4.lt
    have hsz3 := O3.out.size
    have P5 := P3.later O5.out (fun x hx cs hcs => by simp at hx; subst hx; exact absurd rfl (hcs.ne HA.out (by decide))) (fun x hx hm => by simp at hm; subst hm; have := hlt _ hx; have := HLA.out; omega)
    have hNM1 : w.heap.size ∉ M1 := P.Step.keep g5 BX.out.lt HNM.out
    have P6 := P5.later O6.out (fun x hx cs hcs => by simp at hx; subst hx; exact absurd rfl (hcs.ne BN5.out (by decide))) (fun x hx hm => by simp at hm; subst hm; exact hNM1 hx)
    have A6 := O6.out.blk A5.out (by simp; have h1 := HN3.out; have h2 := HLA.out; omega)
    refine ⟨a, len, M1, rfl, A6.byteRow HLEN.out (by have := HL5.out; unfold maxLen; omega), by have h1 := HN3.out; have h2 := HLA.out; omega, fun hm => by have := hlt _ hm; have := HLA.out; omega, P6, ?_, ?_⟩
    · have s1 := (Step.ahead O0'.out g5).1
      refine (((s1.trans O3.out (by simp)).trans HO.out (by simp)).trans O5.out (fun x hx => ?_)).trans O6.out (fun x hx => ?_)
      · simp at hx; subst hx; have h1 := HN3.out; have h2 := HLA.out; exact .inr (by omega)
      · simp at hx; subst hx; exact .inr (Nat.le_refl _)
    · exact (Step.ahead O0'.out g5).2
end
end Go.Proofs.YtfkmjbpnjgnkbaaGreat.H

/-
  Rows of places of versions; Chain: by contracts.
-/
namespace Go.Proofs.YtfkmjbpnjgnkbaaGreat.H
set_option linter.unusedSimpArgs false
open Go Go.RowKit Go.Proofs.YtfkmjbpnjgnkbaaGreat.D Go.Proofs.YtfkmjbpnjgnkbaaGreat.B Go.Proofs.YtfkmjbpnjgnkbaaGreat.C Go.Proofs.YtfkmjbpnjgnkbaaGreat.G Go.Proofs.YtfkmjbpnjgnkbaaGreat.P
set_option linter.unusedVariables false
theorem info_rid : (Tryz.prog.info? 29).map (fun i => (i.zero, i.size, i.bytes)) = some (some (.int .u64 0), 1, 8) := by kernel_rfl
def u64s (l : List Nat) : List Value := l.map fun (r : Nat) => .int .u64 ((r : Nat) : Int)
@[simp] theorem u64s_len (l : List Nat) : (u64s l).length = l.length := by simp [u64s]
theorem u64s_append (l k : List Nat) : u64s (l ++ k) = u64s l ++ u64s k := by simp [u64s]
/-- A slice of rids, wherever it lies. -/
def RidsAt (w : World) (v : Value) (l : List Nat) : Prop := ∃ ao cap, v = .slice ao l.length cap ∧ l.length ≤ cap ∧ (0 < l.length → ∃ b o, ao = some ⟨b, o, none⟩ ∧ ∀ j, j < l.length → w.cell? ⟨b, o + j, none⟩ = some (.int .u64 (l.getD j 0 : Nat)))
/-- A slice of rids of one's own. -/
def RidRow (w : World) (v : Value) (l : List Nat) : Prop := w.ownsRow 0 29 1 v l.length (u64s l)
theorem RidRow.at {w : World} {v : Value} {l : List Nat} (h : RidRow w v l) : RidsAt w v l := by
  rcases h.2 with ⟨rfl, hz⟩ | ⟨g, cap, cur, rfl, _, hh, h3, h4, h5, h6⟩
  · have : l = [] := List.eq_nil_of_length_eq_zero hz
    subst this
    exact ⟨none, 0, rfl, Nat.le_refl _, fun h => by simp at h⟩
  · refine ⟨_, cap, rfl, by omega, fun h0 => ⟨g, 0, rfl, fun j hj => ?_⟩⟩
    rw [Nat.zero_add, cell_of_row w g j cur 29 (0, 0) hh]
    have h7 : (u64s l)[j]? = some (.int .u64 (l.getD j 0 : Nat)) := by
      rw [u64s, List.getElem?_map, List.getElem?_eq_getElem hj, List.getD_eq_getElem?_getD, List.getElem?_eq_getElem hj]; rfl
    rw [← h6] at h7
    rw [← Array.getElem?_toList]
    exact take_get h7
theorem RidsAt.past {w w' : World} {v : Value} {l : List Nat} (h : RidsAt w v l) (hO : Only [] w w') : RidsAt w' v l := by
  obtain ⟨ao, cap, hv, hc, h⟩ := h
  refine ⟨ao, cap, hv, hc, fun h0 => ?_⟩
  obtain ⟨b, o, ho, hj⟩ := h h0
  exact ⟨b, o, ho, fun j hj' => hO.cell (hj j hj') (by simp)⟩
def u64sOk (l : List Nat) : Prop := ∀ r ∈ l, r < W64
set_option maxRecDepth 100000 in
set_option maxHeartbeats 1000000 in
theorem index_rid {w : World} {v : Value} {l : List Nat} (h : RidsAt w v l) (hm : l.length ≤ 1000000) (x : Nat) :
    Calls Tryz.prog 72 #[v, .int .u64 x] w fun e w' => ∃ z : Int, e = .returned (.int .i64 z) ∧ (0 ≤ z ↔ x ∈ l) ∧ w = w' := by
  obtain ⟨ao, cap, rfl, hcap, hc⟩ := h
  have HC := Lib.hid hc
  clear hc
  generalize hn : l.length = n at *
  have HN := Lib.hid hn
  clear hn
  go_enter Tryz.func72, Tryz.ntmps72
  go_wp2_with fail
  go_loopg [8] n (fun gk s8 wr => ∃ j : Nat, gk = n - j ∧ j ≤ n ∧ s8 = .int .i64 j ∧ wr = w ∧ ∀ i, i < j → l.getD i 0 ≠ x)
  case atStart => exact ⟨0, rfl, Nat.zero_le _, rfl, rfl, fun i hi => by omega⟩
  case round =>
    obtain ⟨j, hgk, hj, rfl, rfl, hs⟩ := hrel
    have HGK := Lib.hid hgk
    have HS := Lib.hid hs
    clear hgk hs
    by_cases hlt : j < n
    · have hj0 : (0 : Int) ≤ j := by omega
      have hj1 : (j : Int) < n := by omega
      obtain ⟨b, o, rfl, hcell⟩ := HC.out (by omega)
      have cj := hcell j hlt
      have HJ : Hid (l.getD j 0 ∈ l) := by
        show _ ∈ _
        rw [List.getD_eq_getElem?_getD, List.getElem?_eq_getElem (by rw [HN.out]; exact hlt)]
        exact List.getElem_mem _
      clear hcell
      by_cases he : l.getD j 0 = x
      · rw [he] at cj HJ
        clear he
        go_wp2_with fail
        go_ret
        exact ⟨_, rfl, ⟨fun _ => HJ.out, fun _ => by omega⟩, rfl⟩
      · have HE := Lib.hid he
        generalize hy : l.getD j 0 = y at *
        have HY := Lib.hid hy
        clear hy
        have e1 : ((x : Int) == (y : Int)) = false := beq_eq_false_iff_ne.2 (by omega)
        have e2 : ¬ (x : Int) = (y : Int) := by omega
        have e3 : ¬ (y : Int) = (x : Int) := by omega
        have e4 : ¬ x = y := by omega
        clear he
        go_wp2_with fail
        go_roundg (n - (j + 1))
        case measure => have := HGK.out; omega
        case rel => exact ⟨j + 1, rfl, by omega, by go_num, rfl, fun i hi => by
          by_cases h : i < j
          · exact HS.out i h
          · have : i = j := by omega
            rw [this, HY.out]; exact HE.out⟩
    · obtain rfl : j = n := by omega
      go_wp2_with fail
      go_ret
      refine ⟨_, rfl, ⟨fun h => absurd h (by decide), fun hm => ?_⟩, rfl⟩
      obtain ⟨i, hi, he⟩ := List.getElem_of_mem hm
      refine absurd ?_ (HS.out i (by rw [← HN.out]; exact hi))
      rw [List.getD_eq_getElem?_getD, List.getElem?_eq_getElem hi]; exact he
theorem contains_rid {w : World} {v : Value} {l : List Nat} (h : RidsAt w v l) (hm : l.length ≤ 1000000) (x : Nat) :
    Calls Tryz.prog 47 #[v, .int .u64 x] w fun e w' => e = .returned (.bool (decide (x ∈ l))) ∧ w = w' := by
  have IX := Lib.hid (index_rid h hm x)
  obtain ⟨ao, cap, rfl, _⟩ := h
  go_enter Tryz.func47, Tryz.ntmps47
  go_wp2_with (go_at_call 72; refine IX.out.mono ?_; rintro e w1 ⟨z, rfl, hz, rfl⟩)
  go_ret
  exact ⟨by simp only [ge_iff_le, hz]; rfl, rfl⟩
theorem contains_to {w : World} {v : Value} {l : List Nat} (h : RidsAt w v l) (hm : l.length ≤ 1000000) {x : Nat} {z : Bool} (hz : decide (x ∈ l) = z) :
    Calls Tryz.prog 47 #[v, .int .u64 x] w fun e w' => e = .returned (.bool z) ∧ w = w' := by
  have := contains_rid h hm x
  rw [hz] at this
  exact this
/-! ### versions by their places -/
/-- The version at a place. -/
def verR (pg : Nat → List UInt8) (ids : List Nat) (r : Nat) : Option Ver := if r / 128 ∈ ids then verAt (pg (r / 128)) (r % 128) else none
theorem verR_some {pg : Nat → List UInt8} {ids : List Nat} {r : Nat} {v : Ver} (h : verR pg ids r = some v) : IsVer pg ids r v := by
  unfold verR at h
  split at h
  · rename_i hid; exact ⟨hid, h⟩
  · cases h
theorem IsVer.verR {pg : Nat → List UInt8} {ids : List Nat} {r : Nat} {v : Ver} (h : IsVer pg ids r v) : verR pg ids r = some v := by
  unfold H.verR; rw [if_pos h.1]; exact h.2
/-- All pages that are used are the heap's. -/
def Owns (u : List Bool) (ids : List Nat) : Prop := ∀ id, u.getD id false = true → id ∈ ids
theorem verR_none {u : List Bool} {pg : Nat → List UInt8} {ids : List Nat} (hO : Owns u ids) {r : Nat} (h : verR pg ids r = none) : NoVer u pg ids r := by
  unfold verR at h
  split at h
  · rename_i hid; exact .inr (.inr ⟨hid, h⟩)
  · rename_i hid
    refine .inr (.inl ?_)
    cases hu : u.getD (r / 128) false with
    | false => rfl
    | true => exact absurd (hO _ hu) hid
/-- A chain from r on, behind what was told. -/
def chainP (V : Nat → Option Ver) : Nat → List Nat → Nat → List Nat
  | 0, out, r => out
  | n + 1, out, r => match V r with
    | none => out
    | some v => if v.next = 0 ∨ v.next ∈ out ++ [r] then out ++ [r] else chainP V n (out ++ [r]) v.next
section
variable {w : World} {hb p root k : Nat} {M : List Nat} {u : List Bool} {pg : Nat → List UInt8} {ids : List Nat}
set_option maxRecDepth 100000 in
theorem hchain_none (hP : PoolV w p M u pg k) (hk : k ≤ 1000000) (hH : HpAt w hb p root) (hM : hb ∉ M) (hI : HeapIs u pg root ids) (hO : Owns u ids) (r : Nat) (hr : r < W64) (hv : verR pg ids r = none) :
    Calls Tryz.prog 16 #[.pointer (some ⟨hb, 0, none⟩), .int .u64 r] w fun e w' => e = .returned (.tuple #[.slice none 0 0, .int .i64 91]) ∧ ∃ M', PoolV w' p M' u pg (k + 2) ∧ Step M M' w w' := by
  have GN := Lib.hid (hget_no hP hk hH hM hI r hr (verR_none hO hv))
  have HH := Lib.hid hH
  have IC : Hid ((Tryz.prog.info? 50).map (·.size) = some 4) := info_ver
  clear hP hH hM hI hO hv
  go_enter Tryz.func16, Tryz.ntmps16
  go_wp2_with fail
  go_loopg [1, 6] 1 (fun gk s1 s6 wr => s1 = .int .u64 r ∧ s6 = .slice none 0 0 ∧ wr = w)
  case atStart => exact ⟨rfl, rfl, rfl⟩
  case round =>
    obtain ⟨rfl, rfl, rfl⟩ := hrel
    go_wp2_with (first
      | (go_at_call 21; refine GN.out.mono ?_; rintro e w1 ⟨rfl, M1, hP1, hS1⟩; have P1 := Lib.hid hP1; have S1 := Lib.hid hS1; clear hP1 hS1)
      | (refine wpList_store_blk rfl 50 (.tmp 7) (.tmp 13) rfl w1.heap.size (verCells (.slice none 0 0) 0 0 0) rfl rfl (Blk.new' (verCells (.slice none 0 0) 0 0 0).toArray 50 w1 rfl) rfl IC.out verCells_one ?_; intro w2 hb2 hO2; have O2 : Hid (Only [] w1 w2) := (((Only.refl [] w1).alloc _).trans hO2 (fun x hx => by simp at hx; subst hx; exact .inr (Nat.le_refl _))); clear hb2 hO2))
    go_ret2
    exact ⟨rfl, M1, P1.out.past O2.out, S1.out.then O2.out⟩
theorem chain_step {V : Nat → Option Ver} {n : Nat} {out : List Nat} {r : Nat} {v : Ver} (h : V r = some v) : chainP V (n + 1) out r = if v.next = 0 ∨ v.next ∈ out ++ [r] then out ++ [r] else chainP V n (out ++ [r]) v.next := by
  rw [chainP, h]
theorem chain_stop {V : Nat → Option Ver} {n : Nat} {out : List Nat} {r : Nat} (h : V r = none) : chainP V (n + 1) out r = out := by
  rw [chainP, h]
theorem ver_next {root next : Nat} {p : List UInt8} (h : HPage root next p) {j : Nat} {v : Ver} (hv : verAt p j = some v) : v.next < W64 := by
  obtain ⟨_, s, _, _, h3, _, _, h6⟩ := verAt_some h hv
  rw [h6]
  exact unle_w (by rw [List.length_drop]; omega)
theorem rid_push {w : World} {v : Value} {out : List Nat} {rr : Nat} (h : w.ownsRow 0 29 1 v (out.length + 1) (u64s out ++ [.int .u64 (rr : Nat)])) : RidRow w v (out ++ [rr]) := by
  unfold RidRow
  rw [u64s_append, List.length_append, List.length_singleton]
  exact h
set_option maxRecDepth 100000 in
set_option maxHeartbeats 2000000 in
theorem hchain_some (hP : PoolV w p M u pg k) (hH : HpAt w hb p root) (hM : hb ∉ M) (hI : HeapIs u pg root ids) (hO : Owns u ids) (r : Nat) (hr : r < W64) {v0 : Ver} (hv : verR pg ids r = some v0)
    (K : Nat) (hfin : ∀ l : List Nat, l.Nodup → (∀ x ∈ l, verR pg ids x ≠ none) → l.length ≤ K) (hk : k + 2 * K + 10 ≤ 1000000) (hK : K ≤ 100000) :
    Calls Tryz.prog 16 #[.pointer (some ⟨hb, 0, none⟩), .int .u64 r] w fun e w' => ∃ v M', e = .returned (.tuple #[v, .int .i64 0]) ∧ RidRow w' v (chainP (verR pg ids) (K + 1) [] r) ∧ (∀ x, v.ownBlock = some x → w.heap.size ≤ x ∧ x ∉ M') ∧ PoolV w' p M' u pg (k + 2 * K + 4) ∧ Step M M' w w' := by
  have GN : Hid (∀ w1 M1 k1 rr, PoolV w1 p M1 u pg k1 → k1 ≤ 1000000 → Step M M1 w w1 → rr < W64 → verR pg ids rr = none → Calls Tryz.prog 21 #[.pointer (some ⟨hb, 0, none⟩), .int .u64 rr] w1 fun e w' => e = .returned (.tuple #[.agg (verCells (.slice none 0 0) 0 0 0).toArray, .int .i64 91]) ∧ ∃ M', PoolV w' p M' u pg (k1 + 2) ∧ Step M1 M' w1 w') := fun w1 M1 k1 rr h1 h2 h3 h4 h5 => hget_no h1 h2 (h3.1.blk hH hM) (P.Step.keep h3 hH.lt hM) hI rr h4 (verR_none hO h5)
  have GY : Hid (∀ w1 M1 k1 rr (v : Ver), PoolV w1 p M1 u pg k1 → k1 ≤ 1000000 → Step M M1 w w1 → verR pg ids rr = some v → Calls Tryz.prog 21 #[.pointer (some ⟨hb, 0, none⟩), .int .u64 rr] w1 fun e w' => ∃ g c M', e = .returned (.tuple #[.agg (verCells (.slice (some ⟨g, 0, none⟩) v.row.length c) v.xmin v.xmax v.next).toArray, .int .i64 0]) ∧ ByteRow 5 w' (.slice (some ⟨g, 0, none⟩) v.row.length c) v.row ∧ w1.heap.size ≤ g ∧ g ∉ M' ∧ PoolV w' p M' u pg (k1 + 2) ∧ Step M1 M' w1 w') := fun w1 M1 k1 rr v h1 h2 h3 h5 => hget_yes h1 h2 (h3.1.blk hH hM) (P.Step.keep h3 hH.lt hM) hI rr (verR_some h5)
  have NX : Hid (∀ rr v, verR pg ids rr = some v → v.next < W64) := fun rr v h => by
    obtain ⟨hid, hv⟩ := verR_some h
    obtain ⟨_, _, _, hp⟩ := hI.at hid
    exact ver_next hp hv
  have HP := Lib.hid hP
  have IC : Hid ((Tryz.prog.info? 50).map (·.size) = some 4) := info_ver
  have HFIN := Lib.hid hfin
  generalize hV : verR pg ids = V at *
  have HV := Lib.hid hv
  generalize hRES : chainP V (K + 1) [] r = RES
  have HRES := Lib.hid hRES
  clear hP hH hM hI hO hv hV hfin hRES
  go_enter Tryz.func16, Tryz.ntmps16
  go_wp2_with fail
  go_loopg [1, 6] (K + 1) (fun gk s1 s6 wr => ∃ (out : List Nat) (rr : Nat) (Mi : List Nat), gk = K + 1 - out.length ∧ out.length ≤ K ∧ s1 = .int .u64 rr ∧ rr < W64 ∧ RidRow wr s6 out ∧ (∀ x, s6.ownBlock = some x → w.heap.size ≤ x ∧ x ∉ Mi) ∧ PoolV wr p Mi u pg (k + 2 * out.length) ∧ Step M Mi w wr ∧ chainP V (K + 1 - out.length) out rr = RES ∧ out.Nodup ∧ rr ∉ out ∧ (∀ x ∈ out, V x ≠ none) ∧ (out = [] → rr = r))
  case atStart => exact ⟨[], r, M, rfl, Nat.zero_le _, rfl, hr, ⟨rfl, .inl ⟨rfl, rfl⟩⟩, fun x hx => by simp [Value.ownBlock] at hx, HP.out, Step.refl _ _, HRES.out, List.nodup_nil, by simp, by simp, fun _ => rfl⟩
  case round =>
    obtain ⟨out, rr, Mi, hgk, hol, rfl, hrw, hrow, hnew, hPi, hSi, hres, hnd, hni, hall, h0⟩ := hrel
    have HGK := Lib.hid hgk
    have HROW := Lib.hid hrow
    have HNEW := Lib.hid hnew
    have HPI := Lib.hid hPi
    have HSI := Lib.hid hSi
    have HND := Lib.hid hnd
    have HNI := Lib.hid hni
    have HALL := Lib.hid hall
    have H0 := Lib.hid h0
    have HRW := Lib.hid hrw
    obtain ⟨d, hd⟩ : ∃ d, K + 1 - out.length = d + 1 := ⟨K - out.length, by omega⟩
    rw [hd] at hres
    have HRS := Lib.hid hres
    have HD := Lib.hid hd
    obtain ⟨ao, cap, rfl, hcap, _⟩ := hrow.at
    clear hgk hrow hnew hPi hSi hnd hni hall h0 hres hd hrw
    cases hvr : V rr with
    | none =>
      have GNi := Lib.hid (GN.out wr Mi _ rr HPI.out (by omega) HSI.out HRW.out hvr)
      have EO : Hid (out = RES) := by
        have := HRS.out
        rw [chain_stop hvr] at this
        exact this
      have hpos : 0 < out.length := by
        rcases Nat.eq_zero_or_pos out.length with h | h
        · have e := List.eq_nil_of_length_eq_zero h
          have := H0.out e
          rw [this, HV.out] at hvr; cases hvr
        · exact h
      have hposI : (0 : Int) < out.length := by omega
      have hposG : (out.length : Int) > 0 := by omega
      clear hvr
      go_wp2_with (first
        | (go_at_call 21; refine GNi.out.mono ?_; rintro e w1 ⟨rfl, M1, hP1, hS1⟩; have P1 := Lib.hid hP1; have S1 := Lib.hid hS1; have RW1 := Lib.hid (show RidRow w1 _ out from owns_later HROW.out hS1.1 (fun x hx => (HNEW.out x hx).2)); clear hP1 hS1)
        | (refine wpList_store_blk rfl 50 (.tmp 7) (.tmp 13) rfl w1.heap.size (verCells (.slice none 0 0) 0 0 0) rfl rfl (Blk.new' (verCells (.slice none 0 0) 0 0 0).toArray 50 w1 rfl) rfl IC.out verCells_one ?_; intro w2 hb2 hO2; have O2 : Hid (Only [] w1 w2) := (((Only.refl [] w1).alloc _).trans hO2 (fun x hx => by simp at hx; subst hx; exact .inr (Nat.le_refl _))); clear hb2 hO2))
      go_ret2
      rw [← EO.out]
      refine ⟨_, M1, rfl, owns_later RW1.out O2.out (by simp), fun x hx => ⟨(HNEW.out x hx).1, P.Step.keep S1.out (owns_lt HROW.out hx) (HNEW.out x hx).2⟩, (P1.out.past O2.out).more (by omega), (HSI.out.trans S1.out).then O2.out⟩
    | some v =>
      have GYi := Lib.hid (GY.out wr Mi _ rr v HPI.out (by omega) HSI.out hvr)
      have HRS2 : Hid ((if v.next = 0 ∨ v.next ∈ out ++ [rr] then out ++ [rr] else chainP V d (out ++ [rr]) v.next) = RES) := by
        have := HRS.out
        rw [chain_step hvr] at this
        exact this
      have hnd2 : (out ++ [rr]).Nodup := by
        rw [List.nodup_append]
        exact ⟨HND.out, by simp, fun x hx y hy e => by simp at hy; subst hy; subst e; exact HNI.out hx⟩
      have hall2 : ∀ x ∈ out ++ [rr], V x ≠ none := fun x hx => by
        rcases List.mem_append.1 hx with h | h
        · exact HALL.out x h
        · simp at h; subst h; rw [hvr]; simp
      have hl2 := HFIN.out _ hnd2 hall2
      rw [List.length_append, List.length_singleton] at hl2
      have HND2 := Lib.hid hnd2
      have HALL2 := Lib.hid hall2
      have NXr := Lib.hid (NX.out rr v hvr)
      clear hvr hnd2 hall2
      obtain ⟨row, xmin, xmax, next⟩ := v
      simp only at *
      by_cases hz : next = 0
      · have ER : Hid (out ++ [rr] = RES) := by
          have := HRS2.out
          rw [if_pos (.inl hz)] at this
          exact this
        have hzB : ((next : Int) == 0) = true := by rw [hz]; rfl
        clear hz
        go_wp2_with (first
          | (go_at_call 21; refine GYi.out.mono ?_; rintro e w1 ⟨g, c, M1, rfl, hr1, hg1, hn1, hP1, hS1⟩; have P1 := Lib.hid hP1; have S1 := Lib.hid hS1; have RW1 := Lib.hid (show RidRow w1 _ out from owns_later HROW.out hS1.1 (fun x hx => (HNEW.out x hx).2)); clear hP1 hS1 hr1 hg1 hn1)
          | (refine wpList_store_blk rfl 50 (.tmp 7) (.tmp 13) rfl w1.heap.size (verCells (.slice (some ⟨g, 0, none⟩) row.length c) xmin xmax next) rfl rfl (Blk.new' (verCells (.slice none 0 0) 0 0 0).toArray 50 w1 rfl) rfl IC.out verCells_one ?_; intro w2 hb2 hO2; have O2 : Hid (Only [] w1 w2) := (((Only.refl [] w1).alloc _).trans hO2 (fun x hx => by simp at hx; subst hx; exact .inr (Nat.le_refl _))); have B2 := Lib.hid hb2; clear hb2 hO2)
          | (refine wpList_push rfl (.tmp 26) (.tmp 28) 27 rfl 29 Tryz.underlying27 (info_parts info_rid) rfl (.slice ao out.length cap) out.length (u64s out) rfl (by exact owns_later RW1.out (O2.out.alloc _) (by simp)) _ _ _ rfl (by exact (Blk.new _ _ _).cell 0) rfl (by omega) (by decide) ?_; intro g6 cp w6 hown hO6 hat hg6; have hne := owns_ne (owns_later RW1.out (O2.out.alloc (.cells #[.int .u64 rr] 29)) (by simp)) (B2.out.alloc (.cells #[.int .u64 rr] 29)) (by decide); have e6 := (hO6.blk (B2.out.alloc _) (fun h => hne (Option.mem_toList.1 h))).cell 3; simp only [verCells, List.getElem?_cons_succ, List.getElem?_cons_zero] at e6; clear hg6)
          | (go_at_call 47; refine (contains_to (RidRow.at (rid_push hown)) (by rw [List.length_append, List.length_singleton]; omega) HMB.out).mono ?_; rintro e w7 ⟨rfl, rfl⟩))
        have hXn : ∀ x ∈ (Value.slice ao out.length cap).ownBlock.toList, w.heap.size ≤ x ∧ x ∉ M1 := fun x hx => by
          have hx := Option.mem_toList.1 hx
          exact ⟨(HNEW.out x hx).1, P.Step.keep S1.out (owns_lt HROW.out hx) (HNEW.out x hx).2⟩
        have S12 := (HSI.out.trans S1.out).then (O2.out.alloc (.cells #[.int .u64 rr] 29))
        have S6 : Step M M1 w w6 := ⟨S12.1.trans hO6 (fun x hx => .inr (hXn x hx).1), S12.2⟩
        have RW2 : RidRow (w2.alloc (.cells #[.int .u64 rr] 29)) _ out := owns_later RW1.out (O2.out.alloc _) (by simp)
        have P6 := ((P1.out.past O2.out).past ((Only.refl [] w2).alloc (.cells #[.int .u64 rr] 29))).later hO6 (fun x hx cs hcs => owns_ne RW2 hcs (by decide) (Option.mem_toList.1 hx)) (fun x hx hm => (hXn x hm).2 hx)
        have NW6 : w.heap.size ≤ g6 ∧ g6 ∉ M1 := by
          rcases hat with h | h
          · exact hXn g6 (Option.mem_toList.2 h)
          · have h1 := P1.out.lt
            have h2 := HSI.out.1.size
            have h3 := S1.out.1.size
            have h4 := O2.out.size
            rw [World.size_alloc] at h
            exact ⟨by omega, fun hm => by have := h1 _ hm; omega⟩
        go_ret2
        refine ⟨_, M1, rfl, by rw [← ER.out]; exact rid_push hown, fun x hx => ?_, P6.more (by omega), S6⟩
        simp [Value.ownBlock] at hx
        subst hx
        exact NW6
      · have hzB : ((next : Int) == 0) = false := beq_eq_false_iff_ne.2 (by omega)
        have hzI : ¬ (next : Int) = 0 := by omega
        by_cases hmem : next ∈ out ++ [rr]
        · have ER : Hid (out ++ [rr] = RES) := by
            have := HRS2.out
            rw [if_pos (.inr hmem)] at this
            exact this
          have HMB : Hid (decide (next ∈ out ++ [rr]) = true) := decide_eq_true hmem
          clear hmem hz
          go_wp2_with (first
            | (go_at_call 21; refine GYi.out.mono ?_; rintro e w1 ⟨g, c, M1, rfl, hr1, hg1, hn1, hP1, hS1⟩; have P1 := Lib.hid hP1; have S1 := Lib.hid hS1; have RW1 := Lib.hid (show RidRow w1 _ out from owns_later HROW.out hS1.1 (fun x hx => (HNEW.out x hx).2)); clear hP1 hS1 hr1 hg1 hn1)
            | (refine wpList_store_blk rfl 50 (.tmp 7) (.tmp 13) rfl w1.heap.size (verCells (.slice (some ⟨g, 0, none⟩) row.length c) xmin xmax next) rfl rfl (Blk.new' (verCells (.slice none 0 0) 0 0 0).toArray 50 w1 rfl) rfl IC.out verCells_one ?_; intro w2 hb2 hO2; have O2 : Hid (Only [] w1 w2) := (((Only.refl [] w1).alloc _).trans hO2 (fun x hx => by simp at hx; subst hx; exact .inr (Nat.le_refl _))); have B2 := Lib.hid hb2; clear hb2 hO2)
            | (refine wpList_push rfl (.tmp 26) (.tmp 28) 27 rfl 29 Tryz.underlying27 (info_parts info_rid) rfl (.slice ao out.length cap) out.length (u64s out) rfl (by exact owns_later RW1.out (O2.out.alloc _) (by simp)) _ _ _ rfl (by exact (Blk.new _ _ _).cell 0) rfl (by omega) (by decide) ?_; intro g6 cp w6 hown hO6 hat hg6; have hne := owns_ne (owns_later RW1.out (O2.out.alloc (.cells #[.int .u64 rr] 29)) (by simp)) (B2.out.alloc (.cells #[.int .u64 rr] 29)) (by decide); have e6 := (hO6.blk (B2.out.alloc _) (fun h => hne (Option.mem_toList.1 h))).cell 3; simp only [verCells, List.getElem?_cons_succ, List.getElem?_cons_zero] at e6; clear hg6)
            | (go_at_call 47; refine (contains_to (RidRow.at (rid_push hown)) (by rw [List.length_append, List.length_singleton]; omega) HMB.out).mono ?_; rintro e w7 ⟨rfl, rfl⟩))
          have hXn : ∀ x ∈ (Value.slice ao out.length cap).ownBlock.toList, w.heap.size ≤ x ∧ x ∉ M1 := fun x hx => by
            have hx := Option.mem_toList.1 hx
            exact ⟨(HNEW.out x hx).1, P.Step.keep S1.out (owns_lt HROW.out hx) (HNEW.out x hx).2⟩
          have S12 := (HSI.out.trans S1.out).then (O2.out.alloc (.cells #[.int .u64 rr] 29))
          have S6 : Step M M1 w w6 := ⟨S12.1.trans hO6 (fun x hx => .inr (hXn x hx).1), S12.2⟩
          have RW2 : RidRow (w2.alloc (.cells #[.int .u64 rr] 29)) _ out := owns_later RW1.out (O2.out.alloc _) (by simp)
          have P6 := ((P1.out.past O2.out).past ((Only.refl [] w2).alloc (.cells #[.int .u64 rr] 29))).later hO6 (fun x hx cs hcs => owns_ne RW2 hcs (by decide) (Option.mem_toList.1 hx)) (fun x hx hm => (hXn x hm).2 hx)
          have NW6 : w.heap.size ≤ g6 ∧ g6 ∉ M1 := by
            rcases hat with h | h
            · exact hXn g6 (Option.mem_toList.2 h)
            · have h1 := P1.out.lt
              have h2 := HSI.out.1.size
              have h3 := S1.out.1.size
              have h4 := O2.out.size
              rw [World.size_alloc] at h
              exact ⟨by omega, fun hm => by have := h1 _ hm; omega⟩
          go_ret2
          refine ⟨_, M1, rfl, by rw [← ER.out]; exact rid_push hown, fun x hx => ?_, P6.more (by omega), S6⟩
          simp [Value.ownBlock] at hx
          subst hx
          exact NW6
        · have ER : Hid (chainP V d (out ++ [rr]) next = RES) := by
            have := HRS2.out
            rw [if_neg (fun h => h.elim hz hmem)] at this
            exact this
          have HMB : Hid (decide (next ∈ out ++ [rr]) = false) := decide_eq_false hmem
          have HME := Lib.hid hmem
          clear hmem hz
          go_wp2_with (first
            | (go_at_call 21; refine GYi.out.mono ?_; rintro e w1 ⟨g, c, M1, rfl, hr1, hg1, hn1, hP1, hS1⟩; have P1 := Lib.hid hP1; have S1 := Lib.hid hS1; have RW1 := Lib.hid (show RidRow w1 _ out from owns_later HROW.out hS1.1 (fun x hx => (HNEW.out x hx).2)); clear hP1 hS1 hr1 hg1 hn1)
            | (refine wpList_store_blk rfl 50 (.tmp 7) (.tmp 13) rfl w1.heap.size (verCells (.slice (some ⟨g, 0, none⟩) row.length c) xmin xmax next) rfl rfl (Blk.new' (verCells (.slice none 0 0) 0 0 0).toArray 50 w1 rfl) rfl IC.out verCells_one ?_; intro w2 hb2 hO2; have O2 : Hid (Only [] w1 w2) := (((Only.refl [] w1).alloc _).trans hO2 (fun x hx => by simp at hx; subst hx; exact .inr (Nat.le_refl _))); have B2 := Lib.hid hb2; clear hb2 hO2)
            | (refine wpList_push rfl (.tmp 26) (.tmp 28) 27 rfl 29 Tryz.underlying27 (info_parts info_rid) rfl (.slice ao out.length cap) out.length (u64s out) rfl (by exact owns_later RW1.out (O2.out.alloc _) (by simp)) _ _ _ rfl (by exact (Blk.new _ _ _).cell 0) rfl (by omega) (by decide) ?_; intro g6 cp w6 hown hO6 hat hg6; have hne := owns_ne (owns_later RW1.out (O2.out.alloc (.cells #[.int .u64 rr] 29)) (by simp)) (B2.out.alloc (.cells #[.int .u64 rr] 29)) (by decide); have e6 := (hO6.blk (B2.out.alloc _) (fun h => hne (Option.mem_toList.1 h))).cell 3; simp only [verCells, List.getElem?_cons_succ, List.getElem?_cons_zero] at e6; clear hg6)
            | (go_at_call 47; refine (contains_to (RidRow.at (rid_push hown)) (by rw [List.length_append, List.length_singleton]; omega) HMB.out).mono ?_; rintro e w7 ⟨rfl, rfl⟩))
          have hXn : ∀ x ∈ (Value.slice ao out.length cap).ownBlock.toList, w.heap.size ≤ x ∧ x ∉ M1 := fun x hx => by
            have hx := Option.mem_toList.1 hx
            exact ⟨(HNEW.out x hx).1, P.Step.keep S1.out (owns_lt HROW.out hx) (HNEW.out x hx).2⟩
          have S12 := (HSI.out.trans S1.out).then (O2.out.alloc (.cells #[.int .u64 rr] 29))
          have S6 : Step M M1 w w6 := ⟨S12.1.trans hO6 (fun x hx => .inr (hXn x hx).1), S12.2⟩
          have RW2 : RidRow (w2.alloc (.cells #[.int .u64 rr] 29)) _ out := owns_later RW1.out (O2.out.alloc _) (by simp)
          have P6 := ((P1.out.past O2.out).past ((Only.refl [] w2).alloc (.cells #[.int .u64 rr] 29))).later hO6 (fun x hx cs hcs => owns_ne RW2 hcs (by decide) (Option.mem_toList.1 hx)) (fun x hx hm => (hXn x hm).2 hx)
          have NW6 : w.heap.size ≤ g6 ∧ g6 ∉ M1 := by
            rcases hat with h | h
            · exact hXn g6 (Option.mem_toList.2 h)
            · have h1 := P1.out.lt
              have h2 := HSI.out.1.size
              have h3 := S1.out.1.size
              have h4 := O2.out.size
              rw [World.size_alloc] at h
              exact ⟨by omega, fun hm => by have := h1 _ hm; omega⟩
          go_roundg (K + 1 - (out ++ [rr]).length)
          case measure => have := HGK.out; rw [List.length_append, List.length_singleton]; omega
          case rel =>
            refine ⟨out ++ [rr], next, M1, rfl, by rw [List.length_append, List.length_singleton]; exact hl2, rfl, NXr.out, rid_push hown, fun x hx => ?_, P6.more (by rw [List.length_append, List.length_singleton]; omega), S6, ?_, HND2.out, HME.out, HALL2.out, fun h => ?_⟩
            · simp [Value.ownBlock] at hx
              subst hx
              exact NW6
            · rw [← ER.out]
              congr 1
              have := HD.out
              rw [List.length_append, List.length_singleton]
              omega
            · exact absurd h (by simp)
end
end Go.Proofs.YtfkmjbpnjgnkbaaGreat.H
