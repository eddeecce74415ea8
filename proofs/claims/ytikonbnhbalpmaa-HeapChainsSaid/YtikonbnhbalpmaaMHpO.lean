import Derived.Test.YtikonbnhbalpmaaMHpL
import Derived.Test.YtikonbnhbalpmaaMPageL
import Derived.Test.YtikonbnhbalpmaaMRegionC
import Derived.Deep.RegionHeld3
/-
  The program's heap: Get: by contracts.
-/
namespace Go.Proofs.Ytikonbnhbalpmaa.H
set_option linter.unusedSimpArgs false
open Go Go.RowKit Go.Proofs.Ytikonbnhbalpmaa.D Go.Proofs.Ytikonbnhbalpmaa.B Go.Proofs.Ytikonbnhbalpmaa.C Go.Proofs.Ytikonbnhbalpmaa.G Go.Proofs.Ytikonbnhbalpmaa.P
set_option linter.unusedVariables false
section
variable {w : World} {hb p root k : Nat} {M : List Nat} {u : List Bool} {pg : Nat → List UInt8} {ids : List Nat}
theorem info_ver : (Try.prog.info? 40).map (·.size) = some 4 := by kernel_rfl
def verCells (v : Value) (a b c : Nat) : List Value := [v, .int .u64 a, .int .u64 b, .int .u64 c]
theorem verCells_one {ao : Option Addr} {n cap a b c : Nat} : ∀ x ∈ verCells (.slice ao n cap) a b c, x.oneCell' = true := by
  intro x hx
  simp only [verCells, List.mem_cons, List.not_mem_nil, or_false] at hx
  rcases hx with rfl | rfl | rfl | rfl <;> rfl
set_option maxRecDepth 100000 in
set_option maxHeartbeats 1000000 in
theorem hget_no (hP : PoolV w p M u pg k) (hk : k ≤ 1000000) (hH : HpAt w hb p root) (hM : hb ∉ M) (hI : HeapIs u pg root ids) (r : Nat) (hr : r < W64) (hn : NoVer u pg ids r) :
    Calls Try.prog 10 #[.pointer (some ⟨hb, 0, none⟩), .int .u64 r] w fun e w' => e = .returned (.tuple #[.agg (verCells (.slice none 0 0) 0 0 0).toArray, .int .i64 91]) ∧ ∃ M', PoolV w' p M' u pg (k + 2) ∧ Step M M' w w' := by
  have O0 : Only [] w (w.alloc (.cells (verCells (.slice none 0 0) 0 0 0).toArray 40)) := (Only.refl _ _).alloc _
  have FN := Lib.hid (find_no (hP.past O0) hk (hH.past O0) hM hI r hr hn)
  have BX : Hid (Blk (w.alloc (.cells (verCells (.slice none 0 0) 0 0 0).toArray 40)) w.heap.size (verCells (.slice none 0 0) 0 0 0) 40) := Blk.new _ _ w
  have HNM : Hid (w.heap.size ∉ M) := fun hm => Nat.lt_irrefl _ (hP.lt _ hm)
  have IC : Hid ((Try.prog.info? 40).map (·.size) = some (verCells (.slice none 0 0) 0 0 0).length) := info_ver
  have O0' := Lib.hid O0
  have UC := Try.underlying40
  clear hP hH hM hI hn hr O0
  go_enter Try.func10, Try.ntmps10
  go_wp2_with (first
    | (go_at_call 23; refine FN.out.mono ?_; rintro e w1 ⟨rfl, M1, hP1, hS1⟩; have P1 := Lib.hid hP1; have S1 := Lib.hid hS1; have B1 := Lib.hid (hS1.1.blk BX.out HNM.out); clear hP1 hS1)
    | (refine wpList_store_blk rfl 40 (.tmp 4) (.tmp 25) rfl w.heap.size (verCells (.slice none 0 0) 0 0 0) rfl rfl B1.out rfl IC.out verCells_one ?_; intro w4 hb4 hO4; have B4 := Lib.hid hb4; have O4 := Lib.hid hO4; clear hb4 hO4))
  (try simp only [Exit.inBlock, Exit.then])
  refine bodyPost_ret (results_cell_two rfl _ _ w.heap.size (verCells (.slice none 0 0) 0 0 0) _ rfl B4.out UC rfl IC.out) rfl ?_
  have hNM1 : w.heap.size ∉ M1 := P.Step.keep S1.out BX.out.lt HNM.out
  refine ⟨rfl, M1, P1.out.later O4.out (fun x hx cs hcs => ?_) (fun x hx hxm => ?_), (Step.ahead O0'.out S1.out).1.trans O4.out (fun x hx => by simp at hx; subst hx; exact .inr (Nat.le_refl _)), (Step.ahead O0'.out S1.out).2⟩
  · simp at hx; subst hx; exact absurd rfl (hcs.ne B1.out (by decide))
  · simp at hxm; subst hxm; exact hNM1 hx
set_option maxRecDepth 100000 in
set_option maxHeartbeats 1000000 in
theorem hget_yes (hP : PoolV w p M u pg k) (hk : k ≤ 1000000) (hH : HpAt w hb p root) (hM : hb ∉ M) (hI : HeapIs u pg root ids) (r : Nat) {v : Ver} (hv : IsVer pg ids r v) :
    Calls Try.prog 10 #[.pointer (some ⟨hb, 0, none⟩), .int .u64 r] w fun e w' => ∃ g c M', e = .returned (.tuple #[.agg (verCells (.slice (some ⟨g, 0, none⟩) v.row.length c) v.xmin v.xmax v.next).toArray, .int .i64 0]) ∧ ByteRow 5 w' (.slice (some ⟨g, 0, none⟩) v.row.length c) v.row ∧ w.heap.size ≤ g ∧ g ∉ M' ∧ PoolV w' p M' u pg (k + 2) ∧ Step M M' w w' := by
  have O0 : Only [] w (w.alloc (.cells (verCells (.slice none 0 0) 0 0 0).toArray 40)) := (Only.refl _ _).alloc _
  have FY := Lib.hid (find_yes (hP.past O0) hk (hH.past O0) hM hI r hv)
  have BX : Hid (Blk (w.alloc (.cells (verCells (.slice none 0 0) 0 0 0).toArray 40)) w.heap.size (verCells (.slice none 0 0) 0 0 0) 40) := Blk.new _ _ w
  have HNM : Hid (w.heap.size ∉ M) := fun hm => Nat.lt_irrefl _ (hP.lt _ hm)
  have IC : Hid ((Try.prog.info? 40).map (·.size) = some 4) := info_ver
  have O0' := Lib.hid O0
  have UC := Try.underlying40
  obtain ⟨hid, hver⟩ := hv
  obtain ⟨_, _, _, hpage⟩ := hI.at hid
  obtain ⟨hodd, s, h1, h2, h3, h4, h5, h6⟩ := verAt_some hpage hver
  have hxm : v.xmin = unle (s.take 8) := by rw [h6]; rfl
  have hxx : v.xmax = unle ((s.drop 8).take 8) := by rw [h6]; rfl
  have hxn : v.next = unle (s.drop 16) := by rw [h6]; rfl
  have GE : Hid (∀ w1 v, BytesC w1 v (pg (r / 128)) → Calls Try.prog 24 #[v, .int .i64 (r % 128 : Nat)] w1 fun e w' => ∃ g c, e = .returned (.tuple #[.slice (some ⟨g, 0, none⟩) 24 c, .int .i64 0]) ∧ ByteRow 5 w' (.slice (some ⟨g, 0, none⟩) 24 c) s ∧ 24 ≤ c ∧ Only [] w1 w') := fun w1 v hb => by
    refine (page_cell hb hpage.pg h1).mono ?_
    rintro e w' ⟨g, c, rfl, hr, hc, _, hO⟩
    rw [h3] at hr hc ⊢
    exact ⟨g, c, rfl, hr, hc, hO⟩
  have GR : Hid (∀ w1 v', BytesC w1 v' (pg (r / 128)) → Calls Try.prog 24 #[v', .int .i64 (r % 128 + 1 : Nat)] w1 fun e w' => ∃ g c, e = .returned (.tuple #[.slice (some ⟨g, 0, none⟩) v.row.length c, .int .i64 0]) ∧ ByteRow 5 w' (.slice (some ⟨g, 0, none⟩) v.row.length c) v.row ∧ v.row.length ≤ c ∧ w1.heap.size ≤ g ∧ Only [] w1 w') := fun w1 v hb => by
    refine (page_cell hb hpage.pg h2).mono ?_
    rintro e w' ⟨g, c, rfl, hr, hc, hg, hO⟩
    exact ⟨g, c, rfl, hr, hc, hg, hO⟩
  have U1 : Hid (∀ w1 g c, ByteRow 5 w1 (.slice (some ⟨g, 0, none⟩) 24 c) s → Calls Try.prog 26 #[.slice (some ⟨g, 0, none⟩) 8 c] w1 fun e w' => e = .returned (.int .u64 v.xmin) ∧ w1 = w') := fun w1 g c hb => by
    have := unlittle_any (w := w1) g 0 c ((s.drop 0).take 8) (by simp; omega) (row_part hb 0 8 (by omega))
    rw [List.drop_zero, ← hxm, List.length_take, h3] at this
    exact this
  have U2 : Hid (∀ w1 g c, ByteRow 5 w1 (.slice (some ⟨g, 0, none⟩) 24 c) s → Calls Try.prog 26 #[.slice (some ⟨g, 8, none⟩) 8 (c - 8)] w1 fun e w' => e = .returned (.int .u64 v.xmax) ∧ w1 = w') := fun w1 g c hb => by
    have := unlittle_any (w := w1) g 8 (c - 8) ((s.drop 8).take 8) (by simp; omega) (row_part hb 8 8 (by omega))
    rw [← hxx, List.length_take, List.length_drop, h3] at this
    exact this
  have U3 : Hid (∀ w1 g c, ByteRow 5 w1 (.slice (some ⟨g, 0, none⟩) 24 c) s → Calls Try.prog 26 #[.slice (some ⟨g, 16, none⟩) 8 (c - 16)] w1 fun e w' => e = .returned (.int .u64 v.next) ∧ w1 = w') := fun w1 g c hb => by
    have := unlittle_any (w := w1) g 16 (c - 16) ((s.drop 16).take 8) (by simp; omega) (row_part hb 16 8 (by omega))
    rw [List.take_of_length_le (by rw [List.length_drop]; omega), ← hxn, List.length_drop, h3] at this
    exact this
  have hsl : r % 128 < 128 := Nat.mod_lt _ (by omega)
  have HL4 := Lib.hid h4
  have HL5 := Lib.hid h5
  have hmk := make_u8s v.row.length (by omega)
  clear hP hH hM hI hid hver hpage h1 h2 h3 h4 h5 h6 hxm hxx hxn hodd O0
  obtain ⟨id, hide⟩ : ∃ id, r / 128 = id := ⟨_, rfl⟩
  obtain ⟨slot, hsle⟩ : ∃ slot, r % 128 = slot := ⟨_, rfl⟩
  rw [hide] at FY GE GR
  rw [hsle] at FY GE GR hsl
  clear hide hsle
  obtain ⟨row, xmin, xmax, next⟩ := v
  simp only at *
  generalize hlen : row.length = len at *
  have HLEN := Lib.hid hlen
  clear hlen
  have ew : wrap64 ((slot : Int) + 1) = ((slot + 1 : Nat) : Int) := by unfold wrap64; omega
  have EW := Lib.hid ew
  clear ew
  go_enter Try.func10, Try.ntmps10
  go_wp2_with (first
    | (go_at_call 23; refine FY.out.mono ?_; rintro e w1 ⟨gb, c, M1, rfl, hg⟩; have G1 := Lib.hid hg; have B1 := Lib.hid (hg.2.2.2.2.1.blk BX.out HNM.out); clear hg)
    | (go_at_call_of 24 (Value.int .i64 (slot : Int)); refine (GE.out _ _ G1.out.1.c).mono ?_; rintro e w2 ⟨g2, c2, rfl, hr2, hc2, hO2⟩; have R2 := Lib.hid hr2; have C2 := Lib.hid hc2; have O2 := Lib.hid hO2; clear hr2 hc2 hO2))
  refine (GR.out _ _ (G1.out.1.past O2.out).c).mono ?_
  rintro e w3 ⟨g3, c3, rfl, hr3, hc3, hg3, hO3⟩
  have R3 := Lib.hid hr3
  have O3 := Lib.hid (O2.out.trans hO3 (by simp))
  have R2' := Lib.hid (show ByteRow 5 w3 (.slice (some ⟨g2, 0, none⟩) 24 c2) s from owns_later R2.out hO3 (by simp))
  have c24 := C2.out
  have b1 : (8 : Int) ≤ c2 := by omega
  have b2 : (16 : Int) ≤ c2 := by omega
  have b3 : (24 : Int) ≤ c2 := by omega
  have b4 : ¬ c2 = 8 := by omega
  have b5 : ¬ c2 = 16 := by omega
  have b6 : 8 < c2 := by omega
  have b7 : 16 < c2 := by omega
  have b8 : 8 ≤ c2 := by omega
  have b9 : 16 ≤ c2 := by omega
  clear hr3 hc3 hg3 hO3 R2 C2
  go_wp2_with fail
  go_cut [14] (fun s14 wx => ∃ (a b : Nat), s14 = .pointer (some ⟨b, 0, none⟩) ∧ Blk wx a (u8s (List.replicate len 0)) 5 ∧ Blk wx b (verCells (.slice (some ⟨a, 0, none⟩) len len) xmin xmax next) 40 ∧ w3.heap.size ≤ a ∧ w3.heap.size ≤ b ∧ Only [] w3 wx)
  case first =>
    refine wp_region_held_drew (S := fun w' => ByteRow 5 w' (.slice (some ⟨g2, 0, none⟩) 24 c2) s) (by kernel_rfl) R2'.out (fun hHeld => ?_)
    refine take_at 0 40 (.slice (some ⟨g3, 0, none⟩) len c3) rfl rfl (by kernel_rfl) (by kernel_rfl) (by kernel_rfl) (fun _ _ _ h => h) (Or.inl ⟨by rfl, fun w1 hw1 => by go_simp⟩) hHeld ?_
    (try simp only [Act.put, List.setIfInBounds_toArray, List.set_cons_zero, List.set_cons_succ])
    refine take_at 1 41 (.int .i64 len) rfl rfl (by kernel_rfl) (by kernel_rfl) (by kernel_rfl) (fun _ _ _ h => h) (Or.inl ⟨by rfl, fun w1 hw1 => by go_simp⟩) hHeld ?_
    (try simp only [Act.put, List.setIfInBounds_toArray, List.set_cons_zero, List.set_cons_succ])
    refine take_at 3 43 (.slice (some ⟨g2, 0, none⟩) 24 c2) rfl rfl (by kernel_rfl) (by kernel_rfl) (by kernel_rfl) (fun _ _ _ h => h) (Or.inl ⟨by rfl, fun w1 hw1 => by go_simp⟩) hHeld ?_
    (try simp only [Act.put, List.setIfInBounds_toArray, List.set_cons_zero, List.set_cons_succ])
    refine take_at 4 44 (.slice (some ⟨g2, 0, none⟩) 8 c2) rfl rfl (by kernel_rfl) (by kernel_rfl) (by kernel_rfl) (fun _ _ _ h => h) (Or.inl ⟨by rfl, fun w1 hw1 => by go_simp⟩) hHeld ?_
    (try simp only [Act.put, List.setIfInBounds_toArray, List.set_cons_zero, List.set_cons_succ])
    refine take_at 6 46 (.slice (some ⟨g2, 0, none⟩) 24 c2) rfl rfl (by kernel_rfl) (by kernel_rfl) (by kernel_rfl) (fun _ _ _ h => h) (Or.inl ⟨by rfl, fun w1 hw1 => by go_simp⟩) hHeld ?_
    (try simp only [Act.put, List.setIfInBounds_toArray, List.set_cons_zero, List.set_cons_succ])
    refine take_at 7 47 (.slice (some ⟨g2, 8, none⟩) 8 (c2 - 8)) rfl rfl (by kernel_rfl) (by kernel_rfl) (by kernel_rfl) (fun _ _ _ h => h) (Or.inl ⟨by rfl, fun w1 hw1 => by go_simp⟩) hHeld ?_
    (try simp only [Act.put, List.setIfInBounds_toArray, List.set_cons_zero, List.set_cons_succ])
    refine take_at 9 49 (.slice (some ⟨g2, 0, none⟩) 24 c2) rfl rfl (by kernel_rfl) (by kernel_rfl) (by kernel_rfl) (fun _ _ _ h => h) (Or.inl ⟨by rfl, fun w1 hw1 => by go_simp⟩) hHeld ?_
    (try simp only [Act.put, List.setIfInBounds_toArray, List.set_cons_zero, List.set_cons_succ])
    refine take_at 10 50 (.slice (some ⟨g2, 16, none⟩) 8 (c2 - 16)) rfl rfl (by kernel_rfl) (by kernel_rfl) (by kernel_rfl) (fun _ _ _ h => h) (Or.inl ⟨by rfl, fun w1 hw1 => by go_simp⟩) hHeld ?_
    (try simp only [Act.put, List.setIfInBounds_toArray, List.set_cons_zero, List.set_cons_succ])
    refine tell_at 5 45 (.int .u64 xmin) rfl rfl (by kernel_rfl) (by kernel_rfl) (by kernel_rfl) (fun _ _ _ h => h) ⟨by rfl, fun w1 hw1 => by unfold Oper.quietAt; go_simp; exact ((U1.out _ _ _ hw1).mono fun e w2 ⟨h1, h2⟩ => ⟨h1, h2.symm⟩)⟩ hHeld ?_
    (try simp only [Act.put, List.setIfInBounds_toArray, List.set_cons_zero, List.set_cons_succ])
    refine tell_at 8 48 (.int .u64 xmax) rfl rfl (by kernel_rfl) (by kernel_rfl) (by kernel_rfl) (fun _ _ _ h => h) ⟨by rfl, fun w1 hw1 => by unfold Oper.quietAt; go_simp; exact ((U2.out _ _ _ hw1).mono fun e w2 ⟨h1, h2⟩ => ⟨h1, h2.symm⟩)⟩ hHeld ?_
    (try simp only [Act.put, List.setIfInBounds_toArray, List.set_cons_zero, List.set_cons_succ])
    refine tell_at 11 51 (.int .u64 next) rfl rfl (by kernel_rfl) (by kernel_rfl) (by kernel_rfl) (fun _ _ _ h => h) ⟨by rfl, fun w1 hw1 => by unfold Oper.quietAt; go_simp; exact ((U3.out _ _ _ hw1).mono fun e w2 ⟨h1, h2⟩ => ⟨h1, h2.symm⟩)⟩ hHeld ?_
    (try simp only [Act.put, List.setIfInBounds_toArray, List.set_cons_zero, List.set_cons_succ])
    have OA := ((Only.refl [] w3).drew).alloc (.cells (u8s (List.replicate len 0)).toArray 5)
    have OAB := OA.alloc (.cells (verCells (.slice none 0 0) 0 0 0).toArray 40)
    have OB := ((Only.refl [] w3).drew).alloc (.cells (verCells (.slice none 0 0) 0 0 0).toArray 40)
    have OBA := OB.alloc (.cells (u8s (List.replicate len 0)).toArray 5)
    have HGL : Hid (g2 < w3.heap.size) := owns_lt R2'.out rfl
    refine two_at 2 13 rfl rfl (by kernel_rfl) (by rfl) (by rfl) (fun K hK => ?_) (fun K hK => ?_)
    · go_wp2_with fail
      refine hK.out _ _ (owns_later R2'.out OA (by simp)) ?_
      clear hK K
      (try simp only [Act.put, List.setIfInBounds_toArray, List.set_cons_zero, List.set_cons_succ])
      refine take_at 12 52 (.agg (verCells (.slice (some ⟨w3.heap.size, 0, none⟩) len len) xmin xmax next).toArray) rfl rfl (by kernel_rfl) (by kernel_rfl) (by kernel_rfl) (fun _ _ _ h => h) (Or.inl ⟨by rfl, fun w1 hw1 => by go_simp; rfl⟩) (owns_later R2'.out OA (by simp)) ?_
      (try simp only [Act.put, List.setIfInBounds_toArray, List.set_cons_zero, List.set_cons_succ])
      refine one_at 13 rfl (by kernel_rfl) (by rfl) (fun K hK => ?_)
      go_wp2_with fail
      refine hK.out _ _ (owns_later R2'.out OAB (by simp)) ?_
      clear hK K
      (try simp only [Act.put, List.setIfInBounds_toArray, List.set_cons_zero, List.set_cons_succ])
      refine one_at 14 rfl (by kernel_rfl) (by rfl) (fun K hK => ?_)
      refine store_at 40 (.tmp 14) (.tmp 52) rfl rfl (w3.heap.size + 1) (verCells (.slice (some ⟨w3.heap.size, 0, none⟩) len len) xmin xmax next) rfl rfl (Blk.new' (verCells (.slice none 0 0) 0 0 0).toArray 40 (w3.drew.alloc (.cells (u8s (List.replicate len 0)).toArray 5)) (by simp)) rfl IC.out verCells_one ?_
      intro w9 hb9 hO9
      have hS9 : ByteRow 5 w9 (.slice (some ⟨g2, 0, none⟩) 24 c2) s := owns_later (owns_later R2'.out OAB (by simp)) hO9 (fun k hk hm => by simp [Value.ownBlock] at hk hm; have := HGL.out; omega)
      have hA9 : Blk w9 w3.heap.size (u8s (List.replicate len 0)) 5 := hO9.blk ((Blk.new' (u8s (List.replicate len 0)).toArray 5 w3.drew rfl).alloc _) (by simp)
      have hOO : Only [] w3 w9 := OAB.trans hO9 (fun x hx => by simp at hx; subst hx; exact .inr (by omega))
      refine hK.out _ _ hS9 ?_
      clear hK K
      (try simp only [Act.put, List.setIfInBounds_toArray, List.set_cons_zero, List.set_cons_succ])
      refine wpAnyH_done (by kernel_rfl) ?_ _
      go_wp2_with fail
      go_meet
      case rel => exact ⟨w3.heap.size, w3.heap.size + 1, rfl, hA9, hb9, Nat.le_refl _, by omega, hOO⟩
    · go_wp2_with fail
      refine hK.out _ _ (owns_later R2'.out OB (by simp)) ?_
      clear hK K
      (try simp only [Act.put, List.setIfInBounds_toArray, List.set_cons_zero, List.set_cons_succ])
      refine one_at 2 rfl (by kernel_rfl) (by rfl) (fun K hK => ?_)
      go_wp2_with fail
      refine hK.out _ _ (owns_later R2'.out OBA (by simp)) ?_
      clear hK K
      (try simp only [Act.put, List.setIfInBounds_toArray, List.set_cons_zero, List.set_cons_succ])
      refine take_at 12 52 (.agg (verCells (.slice (some ⟨w3.heap.size + 1, 0, none⟩) len len) xmin xmax next).toArray) rfl rfl (by kernel_rfl) (by kernel_rfl) (by kernel_rfl) (fun _ _ _ h => h) (Or.inl ⟨by rfl, fun w1 hw1 => by go_simp; rfl⟩) (owns_later R2'.out OBA (by simp)) ?_
      (try simp only [Act.put, List.setIfInBounds_toArray, List.set_cons_zero, List.set_cons_succ])
      refine one_at 14 rfl (by kernel_rfl) (by rfl) (fun K hK => ?_)
      refine store_at 40 (.tmp 14) (.tmp 52) rfl rfl w3.heap.size (verCells (.slice (some ⟨w3.heap.size + 1, 0, none⟩) len len) xmin xmax next) rfl rfl ((Blk.new' (verCells (.slice none 0 0) 0 0 0).toArray 40 w3.drew rfl).alloc _) rfl IC.out verCells_one ?_
      intro w9 hb9 hO9
      have hS9 : ByteRow 5 w9 (.slice (some ⟨g2, 0, none⟩) 24 c2) s := owns_later (owns_later R2'.out OBA (by simp)) hO9 (fun k hk hm => by simp [Value.ownBlock] at hk hm; have := HGL.out; omega)
      have hA9 : Blk w9 (w3.heap.size + 1) (u8s (List.replicate len 0)) 5 := hO9.blk (Blk.new' (u8s (List.replicate len 0)).toArray 5 (w3.drew.alloc (.cells (verCells (.slice none 0 0) 0 0 0).toArray 40)) (by simp)) (by simp)
      have hOO : Only [] w3 w9 := OBA.trans hO9 (fun x hx => by simp at hx; subst hx; exact .inr (by omega))
      refine hK.out _ _ hS9 ?_
      clear hK K
      (try simp only [Act.put, List.setIfInBounds_toArray, List.set_cons_zero, List.set_cons_succ])
      refine wpAnyH_done (by kernel_rfl) ?_ _
      go_wp2_with fail
      go_meet
      case rel => exact ⟨w3.heap.size + 1, w3.heap.size, rfl, hA9, hb9, by omega, Nat.le_refl _, hOO⟩
  case rest =>
    obtain ⟨a, b, rfl, hA, hB, ha, hb', hO⟩ := hcut
    have R3x : ByteRow 5 wc (.slice (some ⟨g3, 0, none⟩) len c3) row := owns_later R3.out hO (by simp)
    have hsrc : ∀ j v, (u8s row)[j]? = some v → wc.cell? ((⟨g3, 0, none⟩ : Addr).add j) = some v := fun j v hj => by
      have := R3x.src j v hj
      rw [Nat.zero_add] at this
      have hadd : (⟨g3, 0, none⟩ : Addr).add j = ⟨g3, j, none⟩ := by unfold Addr.add; split <;> simp_all
      rw [hadd]; exact this
    have HSRC := Lib.hid hsrc
    have HA := Lib.hid hA
    have HB := Lib.hid hB
    have hab : a ≠ b := hA.ne hB (by decide)
    have HAB := Lib.hid hab
    have HN1 : Hid ((u8s row).length = Nat.min len len) := by show _ = _; rw [length_u8s, HLEN.out]; exact (Nat.min_self len).symm
    have HN2 : Hid (0 + (u8s row).length ≤ (u8s (List.replicate len 0)).length) := by show _ ≤ _; rw [length_u8s, length_u8s, List.length_replicate, HLEN.out]; omega
    have ESP : Hid (splice (u8s (List.replicate len (0 : UInt8))) 0 (u8s row) = u8s row) := by
      show _ = _
      rw [u8s_splice _ _ (by rw [List.length_replicate, HLEN.out]; exact Nat.le_refl _), List.drop_of_length_le (by rw [List.length_replicate, HLEN.out]; exact Nat.le_refl _), List.append_nil]
    have hN3 : w.heap.size < w3.heap.size := by have := BX.out.lt; have := G1.out.2.2.2.2.1.size; have := O3.out.size; omega
    have HO := Lib.hid hO
    have HN3 := Lib.hid hN3
    have BN := Lib.hid (hO.blk (O3.out.blk B1.out (by simp)) (by simp))
    have HLA := Lib.hid ha
    have HLB := Lib.hid hb'
    have e0 := hB.cell 0
    simp only [verCells, List.getElem?_cons_zero] at e0
    clear hA hB ha hb' hO R3x hsrc hab hN3
    go_wp2_with (first
      | (refine wpList_copy_blk rfl (.tmp 54) (.tmp 55) 33 33 rfl 5 Try.underlying33 G.size_byte _ _ _ _ _ _ rfl rfl a 0 (u8s (List.replicate len 0)) 5 HA.out (u8s row) HN1.out (fun _ => ⟨rfl, _, rfl, HSRC.out⟩) HN2.out (u8s_oneCell _) ?_; intro w5 hb5 hO5; have A5 := Lib.hid (hb5.to ESP.out); have O5 := Lib.hid hO5; have B5 := Lib.hid (hO5.blk HB.out (by simp; exact fun h => HAB.out h.symm)); have BN5 := Lib.hid (hO5.blk BN.out (by simp; have h1 := HN3.out; have h2 := HLA.out; omega)); clear hb5 hO5)
      | (refine wpList_load_blk rfl 40 (.tmp 14) rfl b rfl B5.out _ Try.underlying40 rfl IC.out ?_)
      | (refine wpList_store_blk rfl 40 (.tmp 4) (.tmp 57) rfl w.heap.size (verCells (.slice (some ⟨a, 0, none⟩) len len) xmin xmax next) rfl rfl BN5.out rfl IC.out verCells_one ?_; intro w6 hb6 hO6; have B6 := Lib.hid hb6; have O6 := Lib.hid hO6; clear hb6 hO6))
    (try simp only [Exit.inBlock, Exit.then])
    refine bodyPost_ret (results_cell_two rfl _ _ w.heap.size (verCells (.slice (some ⟨a, 0, none⟩) len len) xmin xmax next) _ rfl B6.out UC rfl IC.out) rfl ?_
    obtain ⟨g1, g2', g3', g4, g5⟩ := G1.out
    have hsz1 : w.heap.size < w1.heap.size := B1.out.lt
    have P3 := (g4.past O3.out).past HO.out
    have hlt := g4.lt
    have hsz3 := O3.out.size
    have P5 := P3.later O5.out (fun x hx cs hcs => by simp at hx; subst hx; exact absurd rfl (hcs.ne HA.out (by decide))) (fun x hx hm => by simp at hm; subst hm; have := hlt _ hx; have := HLA.out; omega)
    have hNM1 : w.heap.size ∉ M1 := P.Step.keep g5 BX.out.lt HNM.out
    have P6 := P5.later O6.out (fun x hx cs hcs => by simp at hx; subst hx; exact absurd rfl (hcs.ne BN5.out (by decide))) (fun x hx hm => by simp at hm; subst hm; exact hNM1 hx)
    have A6 := O6.out.blk A5.out (by simp; have h1 := HN3.out; have h2 := HLA.out; omega)
    refine ⟨a, len, M1, rfl, A6.byteRow HLEN.out (by have := HL5.out; unfold maxLen; omega), by have h1 := HN3.out; have h2 := HLA.out; omega, fun hm => by have := hlt _ hm; have := HLA.out; omega, P6, ?_, ?_⟩
    · have s1 := (Step.ahead O0'.out g5).1
      refine (((s1.trans O3.out (by simp)).trans HO.out (by simp)).trans O5.out (fun x hx => ?_)).trans O6.out (fun x hx => ?_)
      · simp at hx; subst hx; have h1 := HN3.out; have h2 := HLA.out; exact .inr (by omega)
      · simp at hx; subst hx; exact .inr (Nat.le_refl _)
    · exact (Step.ahead O0'.out g5).2
end
end Go.Proofs.Ytikonbnhbalpmaa.H
