import Derived.Test.YtfkmjbpnjgnkbaaGreatMHpL
import Derived.Test.YtfkmjbpnjgnkbaaGreatMPageL
import Derived.Test.YtfkmjbpnjgnkbaaGreatMRegionY
import Derived.Deep.RegionHeld3
import Derived.Deep.LoopGhost
/-
  The program's heap: Stamp, Free: by contracts.
-/
namespace Go.Proofs.YtfkmjbpnjgnkbaaGreat.H
set_option linter.unusedSimpArgs false
open Go Go.RowKit Go.Proofs.YtfkmjbpnjgnkbaaGreat.D Go.Proofs.YtfkmjbpnjgnkbaaGreat.B Go.Proofs.YtfkmjbpnjgnkbaaGreat.C Go.Proofs.YtfkmjbpnjgnkbaaGreat.G Go.Proofs.YtfkmjbpnjgnkbaaGreat.P
set_option linter.unusedVariables false
section
variable {w : World} {hb p root k : Nat} {M : List Nat} {u : List Bool} {pg : Nat → List UInt8} {ids : List Nat}
set_option maxRecDepth 100000 in
theorem stamp_no (hP : PoolV w p M u pg k) (hk : k ≤ 1000000) (hH : HpAt w hb p root) (hM : hb ∉ M) (hI : HeapIs u pg root ids) (r : Nat) (hr : r < W64) (hn : NoVer u pg ids r) (x nx : Nat) :
    Calls Tryz.prog 15 #[.pointer (some ⟨hb, 0, none⟩), .int .u64 r, .int .u64 x, .int .u64 nx] w fun e w' => e = .returned (.int .i64 91) ∧ ∃ M', PoolV w' p M' u pg (k + 2) ∧ Step M M' w w' := by
  have FN := Lib.hid (find_no hP hk hH hM hI r hr hn)
  clear hP hH hM hI hn hr
  go_enter Tryz.func15, Tryz.ntmps15
  go_wp2_with (go_at_call 39; refine FN.out.mono ?_; rintro e w1 ⟨rfl, M1, hP1, hS1⟩; have P1 := Lib.hid hP1; have S1 := Lib.hid hS1; clear hP1 hS1)
  go_ret
  exact ⟨rfl, M1, P1.out, S1.out⟩
set_option maxRecDepth 100000 in
theorem hfree_no (hP : PoolV w p M u pg k) (hk : k ≤ 1000000) (hH : HpAt w hb p root) (hM : hb ∉ M) (hI : HeapIs u pg root ids) (r : Nat) (hr : r < W64) (hn : NoVer u pg ids r) :
    Calls Tryz.prog 9 #[.pointer (some ⟨hb, 0, none⟩), .int .u64 r] w fun e w' => e = .returned (.int .i64 91) ∧ ∃ M', PoolV w' p M' u pg (k + 2) ∧ Step M M' w w' := by
  have FN := Lib.hid (find_no hP hk hH hM hI r hr hn)
  clear hP hH hM hI hn hr
  go_enter Tryz.func9, Tryz.ntmps9
  go_wp2_with (go_at_call 39; refine FN.out.mono ?_; rintro e w1 ⟨rfl, M1, hP1, hS1⟩; have P1 := Lib.hid hP1; have S1 := Lib.hid hS1; clear hP1 hS1)
  go_ret
  exact ⟨rfl, M1, P1.out, S1.out⟩
set_option maxRecDepth 100000 in
set_option maxHeartbeats 1000000 in
theorem stamp_yes (hP : PoolV w p M u pg k) (hk : k + 10 ≤ 1000000) (hH : HpAt w hb p root) (hM : hb ∉ M) (hI : HeapIs u pg root ids) (r : Nat) {v : Ver} (hv : IsVer pg ids r v) (x nx : Nat) (hx : x < W64) (hnx : nx < W64) :
    Calls Tryz.prog 15 #[.pointer (some ⟨hb, 0, none⟩), .int .u64 r, .int .u64 x, .int .u64 nx] w fun e w' => ∃ q M', e = .returned (.int .i64 0) ∧ Rep (pg (r / 128)) (r % 128) (stampC v.xmin x nx) q ∧ PoolV w' p M' u (upd pg (r / 128) q) (k + 4) ∧ Step M M' w w' := by
  have FY := Lib.hid (find_yes hP (by omega) hH hM hI r hv)
  obtain ⟨hid, hver⟩ := hv
  have hu := hI.used _ hid
  obtain ⟨_, _, _, hpage⟩ := hI.at hid
  obtain ⟨hodd, s, h1, h2, h3, h4, h5, h6⟩ := verAt_some hpage hver
  have hxm : v.xmin = unle (s.take 8) := by rw [h6]; rfl
  have hxw : v.xmin < W64 := by rw [hxm]; exact unle_w (by rw [List.length_take]; omega)
  have GE : Hid (∀ w1 v, BytesC w1 v (pg (r / 128)) → Calls Tryz.prog 43 #[v, .int .i64 (r % 128 : Nat)] w1 fun e w' => ∃ g c, e = .returned (.tuple #[.slice (some ⟨g, 0, none⟩) 24 c, .int .i64 0]) ∧ ByteRow 5 w' (.slice (some ⟨g, 0, none⟩) 24 c) s ∧ 24 ≤ c ∧ Only [] w1 w') := fun w1 v hb => by
    refine (page_cell hb hpage.pg h1).mono ?_
    rintro e w' ⟨g, c, rfl, hr, hc, _, hO⟩
    rw [h3] at hr hc ⊢
    exact ⟨g, c, rfl, hr, hc, hO⟩
  have UL : Hid (∀ w1 g c, ByteRow 5 w1 (.slice (some ⟨g, 0, none⟩) 24 c) s → Calls Tryz.prog 46 #[.slice (some ⟨g, 0, none⟩) 8 c] w1 fun e w' => e = .returned (.int .u64 v.xmin) ∧ w1 = w') := fun w1 g c hb => by
    have := unlittle_any (w := w1) g 0 c ((s.drop 0).take 8) (by simp; omega) (row_part hb 0 8 (by omega))
    rw [List.drop_zero, ← hxm, List.length_take, h3] at this
    exact this
  have ST := Lib.hid (fun w1 => stamps_any w1 v.xmin x nx hxw hx hnx)
  have RP : Hid (∀ w1 v' vb, BytesC w1 v' (pg (r / 128)) → BytesAt w1 vb (stampC v.xmin x nx) → Calls Tryz.prog 35 #[v', .int .i64 (r % 128 : Nat), vb] w1 fun e w' => ∃ gb c r', e = .returned (.tuple #[.slice (some ⟨gb, 0, none⟩) 512 c, .int .i64 0]) ∧ Rep (pg (r / 128)) (r % 128) (stampC v.xmin x nx) r' ∧ Buf w' gb c r' ∧ w1.heap.size ≤ gb ∧ Only [] w1 w') := fun w1 v' vb g1 g2 => by
    obtain ⟨k1, k2⟩ := ct_isSome h1
    have hlen : sL (pg (r / 128)) (r % 128) = 24 := by rw [(ct_long hpage.pg.body.core h1).2.2.1, h3]
    exact replace_yes g1 g2 hpage.pg k1 k2 (by rw [stamp_len]; omega) (by rw [stamp_len]; omega) (by rw [stamp_len, hlen]; omega)
  have HU := Lib.hid hu
  have HH := Lib.hid hH
  have HM := Lib.hid hM
  clear hP hH hM hI hid hver hpage h1 h2 h3 h4 h5 h6 hxm hxw hu hodd
  obtain ⟨id, hide⟩ : ∃ id, r / 128 = id := ⟨_, rfl⟩
  obtain ⟨slot, hsle⟩ : ∃ slot, r % 128 = slot := ⟨_, rfl⟩
  rw [hide] at FY GE RP HU ⊢
  rw [hsle] at FY GE RP ⊢
  clear hide hsle
  have PT : Hid (∀ w1 M1 gb c q, PoolV w1 p M1 u pg (k + 2) → Buf w1 gb c q → gb ∉ M1 → Calls Tryz.prog 32 #[.pointer (some ⟨p, 0, none⟩), .int .i64 id, .slice (some ⟨gb, 0, none⟩) 512 c, .int .u64 0] w1 fun e w' => ∃ M', e = .returned (.int .i64 0) ∧ PoolV w' p M' u (upd pg id q) (k + 2 + 2) ∧ Step M1 M' w1 w') := fun w1 M1 gb c q h1 h2 h3 => h1.put (by omega) HU.out h2.at (fun a n c he => by simp only [Value.slice.injEq, Option.some.injEq] at he; obtain ⟨rfl, _, _⟩ := he; exact h3) h2.1
  go_enter Tryz.func15, Tryz.ntmps15
  go_wp2_with (first
    | (go_at_call 39; refine FY.out.mono ?_; rintro e w1 ⟨gb, c, M1, rfl, hg⟩; have G1 := Lib.hid hg; clear hg)
    | (go_at_call 43; refine (GE.out _ _ G1.out.1.c).mono ?_; rintro e w2 ⟨g2, c2, rfl, hr2, hc2, hO2⟩; have R2 := Lib.hid hr2; have O2 := Lib.hid hO2; have a5 : ¬ c2 = 8 := (by omega); have a6 : 8 < c2 := (by omega); have a7 : 8 ≤ c2 := (by omega); have a8 : (8 : Int) ≤ c2 := (by omega); have a9 : (24 : Int) ≤ c2 := (by omega); clear hr2 hc2 hO2)
    | (go_at_call 46; refine (UL.out _ _ _ R2.out).mono ?_; rintro e w3 ⟨rfl, rfl⟩)
    | (go_at_call 45; refine (ST.out _).mono ?_; rintro e w4 ⟨v4, rfl, hr4, hk4, hO4⟩; have R4 := Lib.hid hr4; have O4 := Lib.hid (O2.out.trans hO4 (by simp)); clear hr4 hk4 hO4)
    | (go_at_call 35; refine (RP.out _ _ _ (G1.out.1.past O4.out).c R4.out.at).mono ?_; rintro e w5 ⟨g5, c5, q, rfl, hq5, hb5, hg5, hO5⟩; have Q5 := Lib.hid hq5; have B5 := Lib.hid hb5; have N5 : Hid (g5 ∉ M1) := (fun hm => by have h1 := G1.out.2.2.2.1.lt _ hm; have h2 := O4.out.size; omega); have O5 := Lib.hid (O4.out.trans hO5 (by simp)); have hcell := (HpAt.past (show HpAt w1 hb p root from G1.out.2.2.2.2.1.blk HH.out HM.out) O5.out).cell 0; simp only [List.getElem?_cons_zero] at hcell; clear hq5 hb5 hg5 hO5)
    | (go_at_call 32; refine (PT.out _ _ _ _ _ (G1.out.2.2.2.1.past O5.out) B5.out N5.out).mono ?_; rintro e w6 ⟨M6, rfl, hP6, hS6⟩; have P6 := Lib.hid hP6; have S6 := Lib.hid hS6; clear hP6 hS6))
  go_ret
  exact ⟨q, M6, rfl, Q5.out, P6.out, (G1.out.2.2.2.2.then O5.out).trans S6.out⟩
set_option maxRecDepth 100000 in
set_option maxHeartbeats 1000000 in
theorem hfree_yes (hP : PoolV w p M u pg k) (hk : k + 10 ≤ 1000000) (hH : HpAt w hb p root) (hM : hb ∉ M) (hI : HeapIs u pg root ids) (r : Nat) {v : Ver} (hv : IsVer pg ids r v) :
    Calls Tryz.prog 9 #[.pointer (some ⟨hb, 0, none⟩), .int .u64 r] w fun e w' => ∃ q q2 M', e = .returned (.int .i64 0) ∧ Del (pg (r / 128)) (r % 128 + 1) q ∧ Del q (r % 128) q2 ∧ PoolV w' p M' u (upd pg (r / 128) q2) (k + 4) ∧ Step M M' w w' := by
  have FY := Lib.hid (find_yes hP (by omega) hH hM hI r hv)
  obtain ⟨hid, hver⟩ := hv
  have hu := hI.used _ hid
  obtain ⟨_, _, _, hpage⟩ := hI.at hid
  obtain ⟨hodd, s, h1, h2, h3, h4, h5, h6⟩ := verAt_some hpage hver
  have D1 : Hid (∀ w1 v', BytesC w1 v' (pg (r / 128)) → Calls Tryz.prog 40 #[v', .int .i64 (r % 128 + 1 : Nat)] w1 fun e w' => ∃ gb c q, e = .returned (.tuple #[.slice (some ⟨gb, 0, none⟩) 512 c, .int .i64 0]) ∧ (Del (pg (r / 128)) (r % 128 + 1) q ∧ Pg q ∧ r % 128 < nS q ∧ sP q (r % 128) ≠ 0) ∧ Buf w' gb c q ∧ w1.heap.size ≤ gb ∧ Only [] w1 w') := fun w1 v' g1 => by
    obtain ⟨k1, k2⟩ := ct_isSome h2
    refine (delete_yes g1 hpage.pg k1 k2).mono ?_
    rintro e w' ⟨gb, c, q, rfl, hq, r⟩
    have C1 := hq.cut hpage.pg k1 k2
    have hqj := C1.rest (_) (show _ ≠ _ from Nat.ne_of_lt (Nat.lt_succ_self _))
    rw [h1] at hqj
    obtain ⟨k3, k4⟩ := ct_isSome hqj
    exact ⟨gb, c, q, rfl, ⟨hq, C1.pg, k3, k4⟩, r⟩
  have hsl : r % 128 < 128 := Nat.mod_lt _ (by omega)
  have HU := Lib.hid hu
  have HH := Lib.hid hH
  have HM := Lib.hid hM
  clear hP hH hM hI hid hver hpage h1 h2 h3 h4 h5 h6 hu hodd
  obtain ⟨id, hide⟩ : ∃ id, r / 128 = id := ⟨_, rfl⟩
  obtain ⟨slot, hsle⟩ : ∃ slot, r % 128 = slot := ⟨_, rfl⟩
  rw [hide] at FY D1 HU ⊢
  rw [hsle] at FY D1 hsl ⊢
  clear hide hsle
  have ew : wrap64 ((slot : Int) + 1) = ((slot + 1 : Nat) : Int) := by unfold wrap64; omega
  have PT : Hid (∀ w1 M1 gb c q, PoolV w1 p M1 u pg (k + 2) → Buf w1 gb c q → gb ∉ M1 → Calls Tryz.prog 32 #[.pointer (some ⟨p, 0, none⟩), .int .i64 id, .slice (some ⟨gb, 0, none⟩) 512 c, .int .u64 0] w1 fun e w' => ∃ M', e = .returned (.int .i64 0) ∧ PoolV w' p M' u (upd pg id q) (k + 2 + 2) ∧ Step M1 M' w1 w') := fun w1 M1 gb c q h1 h2 h3 => h1.put (by omega) HU.out h2.at (fun a n c he => by simp only [Value.slice.injEq, Option.some.injEq] at he; obtain ⟨rfl, _, _⟩ := he; exact h3) h2.1
  have EW := Lib.hid ew
  clear ew
  go_enter Tryz.func9, Tryz.ntmps9
  go_wp2_with (go_at_call 39; refine FY.out.mono ?_; rintro e w1 ⟨gb, c, M1, rfl, hg⟩; have G1 := Lib.hid hg; clear hg)
  (try rw [EW.out])
  refine (D1.out _ _ G1.out.1.c).mono ?_
  rintro e w2 ⟨g2, c2, q, rfl, hq2, hb2, hg2, hO2⟩
  have Q2 := Lib.hid hq2
  have B2 := Lib.hid hb2
  have O2 := Lib.hid hO2
  clear hq2 hb2 hg2 hO2
  go_wp2_with fail
  refine (delete_yes B2.out.c Q2.out.2.1 Q2.out.2.2.1 Q2.out.2.2.2).mono ?_
  rintro e w3 ⟨g3, c3, q3, rfl, hq3, hb3, hg3, hO3⟩
  have Q3 := Lib.hid hq3
  have B3 := Lib.hid hb3
  have N3 : Hid (g3 ∉ M1) := (fun hm => by have h1 := G1.out.2.2.2.1.lt _ hm; have h2 := O2.out.size; omega)
  have O3 := Lib.hid (O2.out.trans hO3 (by simp))
  have hcell := (HpAt.past (show HpAt w1 hb p root from G1.out.2.2.2.2.1.blk HH.out HM.out) O3.out).cell 0
  simp only [List.getElem?_cons_zero] at hcell
  clear hq3 hb3 hg3 hO3
  go_wp2_with (go_at_call 32; refine (PT.out _ _ _ _ _ (G1.out.2.2.2.1.past O3.out) B3.out N3.out).mono ?_; rintro e w6 ⟨M6, rfl, hP6, hS6⟩; have P6 := Lib.hid hP6; have S6 := Lib.hid hS6; clear hP6 hS6)
  go_ret
  exact ⟨q, q3, M6, rfl, Q2.out.1, Q3.out, P6.out, (G1.out.2.2.2.2.then O3.out).trans S6.out⟩
end
end Go.Proofs.YtfkmjbpnjgnkbaaGreat.H

/-
  The program's heap: Get: by contracts.
-/
namespace Go.Proofs.YtfkmjbpnjgnkbaaGreat.H
set_option linter.unusedSimpArgs false
open Go Go.RowKit Go.Proofs.YtfkmjbpnjgnkbaaGreat.D Go.Proofs.YtfkmjbpnjgnkbaaGreat.B Go.Proofs.YtfkmjbpnjgnkbaaGreat.C Go.Proofs.YtfkmjbpnjgnkbaaGreat.G Go.Proofs.YtfkmjbpnjgnkbaaGreat.P
set_option linter.unusedVariables false
section
variable {w : World} {hb p root k : Nat} {M : List Nat} {u : List Bool} {pg : Nat → List UInt8} {ids : List Nat}
theorem info_ver : (Tryz.prog.info? 50).map (·.size) = some 4 := by kernel_rfl
def verCells (v : Value) (a b c : Nat) : List Value := [v, .int .u64 a, .int .u64 b, .int .u64 c]
theorem verCells_one {ao : Option Addr} {n cap a b c : Nat} : ∀ x ∈ verCells (.slice ao n cap) a b c, x.oneCell' = true := by
  intro x hx
  simp only [verCells, List.mem_cons, List.not_mem_nil, or_false] at hx
  rcases hx with rfl | rfl | rfl | rfl <;> rfl
set_option maxRecDepth 100000 in
set_option maxHeartbeats 1000000 in
theorem hget_no (hP : PoolV w p M u pg k) (hk : k ≤ 1000000) (hH : HpAt w hb p root) (hM : hb ∉ M) (hI : HeapIs u pg root ids) (r : Nat) (hr : r < W64) (hn : NoVer u pg ids r) :
    Calls Tryz.prog 21 #[.pointer (some ⟨hb, 0, none⟩), .int .u64 r] w fun e w' => e = .returned (.tuple #[.agg (verCells (.slice none 0 0) 0 0 0).toArray, .int .i64 91]) ∧ ∃ M', PoolV w' p M' u pg (k + 2) ∧ Step M M' w w' := by
  have O0 : Only [] w (w.alloc (.cells (verCells (.slice none 0 0) 0 0 0).toArray 50)) := (Only.refl _ _).alloc _
  have FN := Lib.hid (find_no (hP.past O0) hk (hH.past O0) hM hI r hr hn)
  have BX : Hid (Blk (w.alloc (.cells (verCells (.slice none 0 0) 0 0 0).toArray 50)) w.heap.size (verCells (.slice none 0 0) 0 0 0) 50) := Blk.new _ _ w
  have HNM : Hid (w.heap.size ∉ M) := fun hm => Nat.lt_irrefl _ (hP.lt _ hm)
  have IC : Hid ((Tryz.prog.info? 50).map (·.size) = some (verCells (.slice none 0 0) 0 0 0).length) := info_ver
  have O0' := Lib.hid O0
  have UC := Tryz.underlying50
  clear hP hH hM hI hn hr O0
  go_enter Tryz.func21, Tryz.ntmps21
  go_wp2_with (first
    | (go_at_call 39; refine FN.out.mono ?_; rintro e w1 ⟨rfl, M1, hP1, hS1⟩; have P1 := Lib.hid hP1; have S1 := Lib.hid hS1; have B1 := Lib.hid (hS1.1.blk BX.out HNM.out); clear hP1 hS1)
    | (refine wpList_store_blk rfl 50 (.tmp 4) (.tmp 25) rfl w.heap.size (verCells (.slice none 0 0) 0 0 0) rfl rfl B1.out rfl IC.out verCells_one ?_; intro w4 hb4 hO4; have B4 := Lib.hid hb4; have O4 := Lib.hid hO4; clear hb4 hO4))
  (try simp only [Exit.inBlock, Exit.then])
  refine bodyPost_ret (results_cell_two rfl _ _ w.heap.size (verCells (.slice none 0 0) 0 0 0) _ rfl B4.out UC rfl IC.out) rfl ?_
  have hNM1 : w.heap.size ∉ M1 := P.Step.keep S1.out BX.out.lt HNM.out
  refine ⟨rfl, M1, P1.out.later O4.out (fun x hx cs hcs => ?_) (fun x hx hxm => ?_), (Step.ahead O0'.out S1.out).1.trans O4.out (fun x hx => by simp at hx; subst hx; exact .inr (Nat.le_refl _)), (Step.ahead O0'.out S1.out).2⟩
  · simp at hx; subst hx; exact absurd rfl (hcs.ne B1.out (by decide))
  · simp at hxm; subst hxm; exact hNM1 hx
set_option maxRecDepth 100000 in
set_option maxHeartbeats 1000000 in
theorem hget_yes (hP : PoolV w p M u pg k) (hk : k ≤ 1000000) (hH : HpAt w hb p root) (hM : hb ∉ M) (hI : HeapIs u pg root ids) (r : Nat) {v : Ver} (hv : IsVer pg ids r v) :
    Calls Tryz.prog 21 #[.pointer (some ⟨hb, 0, none⟩), .int .u64 r] w fun e w' => ∃ g c M', e = .returned (.tuple #[.agg (verCells (.slice (some ⟨g, 0, none⟩) v.row.length c) v.xmin v.xmax v.next).toArray, .int .i64 0]) ∧ ByteRow 5 w' (.slice (some ⟨g, 0, none⟩) v.row.length c) v.row ∧ w.heap.size ≤ g ∧ g ∉ M' ∧ PoolV w' p M' u pg (k + 2) ∧ Step M M' w w' := by
  have O0 : Only [] w (w.alloc (.cells (verCells (.slice none 0 0) 0 0 0).toArray 50)) := (Only.refl _ _).alloc _
  have FY := Lib.hid (find_yes (hP.past O0) hk (hH.past O0) hM hI r hv)
  have BX : Hid (Blk (w.alloc (.cells (verCells (.slice none 0 0) 0 0 0).toArray 50)) w.heap.size (verCells (.slice none 0 0) 0 0 0) 50) := Blk.new _ _ w
  have HNM : Hid (w.heap.size ∉ M) := fun hm => Nat.lt_irrefl _ (hP.lt _ hm)
  have IC : Hid ((Tryz.prog.info? 50).map (·.size) = some 4) := info_ver
  have O0' := Lib.hid O0
  have UC := Tryz.underlying50
  obtain ⟨hid, hver⟩ := hv
  obtain ⟨_, _, _, hpage⟩ := hI.at hid
  obtain ⟨hodd, s, h1, h2, h3, h4, h5, h6⟩ := verAt_some hpage hver
  have hxm : v.xmin = unle (s.take 8) := by rw [h6]; rfl
  have hxx : v.xmax = unle ((s.drop 8).take 8) := by rw [h6]; rfl
  have hxn : v.next = unle (s.drop 16) := by rw [h6]; rfl
  have GE : Hid (∀ w1 v, BytesC w1 v (pg (r / 128)) → Calls Tryz.prog 43 #[v, .int .i64 (r % 128 : Nat)] w1 fun e w' => ∃ g c, e = .returned (.tuple #[.slice (some ⟨g, 0, none⟩) 24 c, .int .i64 0]) ∧ ByteRow 5 w' (.slice (some ⟨g, 0, none⟩) 24 c) s ∧ 24 ≤ c ∧ Only [] w1 w') := fun w1 v hb => by
    refine (page_cell hb hpage.pg h1).mono ?_
    rintro e w' ⟨g, c, rfl, hr, hc, _, hO⟩
    rw [h3] at hr hc ⊢
    exact ⟨g, c, rfl, hr, hc, hO⟩
  have GR : Hid (∀ w1 v', BytesC w1 v' (pg (r / 128)) → Calls Tryz.prog 43 #[v', .int .i64 (r % 128 + 1 : Nat)] w1 fun e w' => ∃ g c, e = .returned (.tuple #[.slice (some ⟨g, 0, none⟩) v.row.length c, .int .i64 0]) ∧ ByteRow 5 w' (.slice (some ⟨g, 0, none⟩) v.row.length c) v.row ∧ v.row.length ≤ c ∧ w1.heap.size ≤ g ∧ Only [] w1 w') := fun w1 v hb => by
    refine (page_cell hb hpage.pg h2).mono ?_
    rintro e w' ⟨g, c, rfl, hr, hc, hg, hO⟩
    exact ⟨g, c, rfl, hr, hc, hg, hO⟩
  have U1 : Hid (∀ w1 g c, ByteRow 5 w1 (.slice (some ⟨g, 0, none⟩) 24 c) s → Calls Tryz.prog 46 #[.slice (some ⟨g, 0, none⟩) 8 c] w1 fun e w' => e = .returned (.int .u64 v.xmin) ∧ w1 = w') := fun w1 g c hb => by
    have := unlittle_any (w := w1) g 0 c ((s.drop 0).take 8) (by simp; omega) (row_part hb 0 8 (by omega))
    rw [List.drop_zero, ← hxm, List.length_take, h3] at this
    exact this
  have U2 : Hid (∀ w1 g c, ByteRow 5 w1 (.slice (some ⟨g, 0, none⟩) 24 c) s → Calls Tryz.prog 46 #[.slice (some ⟨g, 8, none⟩) 8 (c - 8)] w1 fun e w' => e = .returned (.int .u64 v.xmax) ∧ w1 = w') := fun w1 g c hb => by
    have := unlittle_any (w := w1) g 8 (c - 8) ((s.drop 8).take 8) (by simp; omega) (row_part hb 8 8 (by omega))
    rw [← hxx, List.length_take, List.length_drop, h3] at this
    exact this
  have U3 : Hid (∀ w1 g c, ByteRow 5 w1 (.slice (some ⟨g, 0, none⟩) 24 c) s → Calls Tryz.prog 46 #[.slice (some ⟨g, 16, none⟩) 8 (c - 16)] w1 fun e w' => e = .returned (.int .u64 v.next) ∧ w1 = w') := fun w1 g c hb => by
    have := unlittle_any (w := w1) g 16 (c - 16) ((s.drop 16).take 8) (by simp; omega) (row_part hb 16 8 (by omega))
    rw [List.take_of_length_le (by rw [List.length_drop]; omega), ← hxn, List.length_drop, h3] at this
    exact this
  have hsl : r % 128 < 128 := Nat.mod_lt _ (by omega)
  have HL4 := Lib.hid h4
  have HL5 := Lib.hid h5
  have hmk := make_u8s v.row.length (by omega)
  clear hP hH hM hI hid hver hpage h1 h2 h3 h4 h5 h6 hxm hxx hxn hodd O0
  obtain ⟨id, hide⟩ : ∃ id, r / 128 = id := ⟨_, rfl⟩
  obtain ⟨slot, hsle⟩ : ∃ slot, r % 128 = slot := ⟨_, rfl⟩
  rw [hide] at FY GE GR
  rw [hsle] at FY GE GR hsl
  clear hide hsle
  obtain ⟨row, xmin, xmax, next⟩ := v
  simp only at *
  generalize hlen : row.length = len at *
  have HLEN := Lib.hid hlen
  clear hlen
  have ew : wrap64 ((slot : Int) + 1) = ((slot + 1 : Nat) : Int) := by unfold wrap64; omega
  have EW := Lib.hid ew
  clear ew
  go_enter Tryz.func21, Tryz.ntmps21
  go_wp2_with (first
    | (go_at_call 39; refine FY.out.mono ?_; rintro e w1 ⟨gb, c, M1, rfl, hg⟩; have G1 := Lib.hid hg; have B1 := Lib.hid (hg.2.2.2.2.1.blk BX.out HNM.out); clear hg)
    | (go_at_call_of 43 (Value.int .i64 (slot : Int)); refine (GE.out _ _ G1.out.1.c).mono ?_; rintro e w2 ⟨g2, c2, rfl, hr2, hc2, hO2⟩; have R2 := Lib.hid hr2; have C2 := Lib.hid hc2; have O2 := Lib.hid hO2; clear hr2 hc2 hO2))
  refine (GR.out _ _ (G1.out.1.past O2.out).c).mono ?_
  rintro e w3 ⟨g3, c3, rfl, hr3, hc3, hg3, hO3⟩
  have R3 := Lib.hid hr3
  have O3 := Lib.hid (O2.out.trans hO3 (by simp))
  have R2' := Lib.hid (show ByteRow 5 w3 (.slice (some ⟨g2, 0, none⟩) 24 c2) s from owns_later R2.out hO3 (by simp))
  have c24 := C2.out
  have b1 : (8 : Int) ≤ c2 := by omega
  have b2 : (16 : Int) ≤ c2 := by omega
  have b3 : (24 : Int) ≤ c2 := by omega
  have b4 : ¬ c2 = 8 := by omega
  have b5 : ¬ c2 = 16 := by omega
  have b6 : 8 < c2 := by omega
  have b7 : 16 < c2 := by omega
  have b8 : 8 ≤ c2 := by omega
  have b9 : 16 ≤ c2 := by omega
  clear hr3 hc3 hg3 hO3 R2 C2
  go_wp2_with fail
  go_cut [14] (fun s14 wx => ∃ (a b : Nat), s14 = .pointer (some ⟨b, 0, none⟩) ∧ Blk wx a (u8s (List.replicate len 0)) 5 ∧ Blk wx b (verCells (.slice (some ⟨a, 0, none⟩) len len) xmin xmax next) 50 ∧ w3.heap.size ≤ a ∧ w3.heap.size ≤ b ∧ Only [] w3 wx)
  case first =>
    refine wp_region_held_drew (S := fun w' => ByteRow 5 w' (.slice (some ⟨g2, 0, none⟩) 24 c2) s) (by kernel_rfl) R2'.out (fun hHeld => ?_)
    refine take_at 0 40 (.slice (some ⟨g3, 0, none⟩) len c3) rfl rfl (by kernel_rfl) (by kernel_rfl) (by kernel_rfl) (fun _ _ _ h => h) (Or.inl ⟨by rfl, fun w1 hw1 => by go_simp⟩) hHeld ?_
    (try simp only [Act.put, List.setIfInBounds_toArray, List.set_cons_zero, List.set_cons_succ])
    refine take_at 1 41 (.int .i64 len) rfl rfl (by kernel_rfl) (by kernel_rfl) (by kernel_rfl) (fun _ _ _ h => h) (Or.inl ⟨by rfl, fun w1 hw1 => by go_simp⟩) hHeld ?_
    (try simp only [Act.put, List.setIfInBounds_toArray, List.set_cons_zero, List.set_cons_succ])
    refine take_at 3 43 (.slice (some ⟨g2, 0, none⟩) 24 c2) rfl rfl (by kernel_rfl) (by kernel_rfl) (by kernel_rfl) (fun _ _ _ h => h) (Or.inl ⟨by rfl, fun w1 hw1 => by go_simp⟩) hHeld ?_
    (try simp only [Act.put, List.setIfInBounds_toArray, List.set_cons_zero, List.set_cons_succ])
    refine take_at 4 44 (.slice (some ⟨g2, 0, none⟩) 8 c2) rfl rfl (by kernel_rfl) (by kernel_rfl) (by kernel_rfl) (fun _ _ _ h => h) (Or.inl ⟨by rfl, fun w1 hw1 => by go_simp⟩) hHeld ?_
    (try simp only [Act.put, List.setIfInBounds_toArray, List.set_cons_zero, List.set_cons_succ])
    refine take_at 6 46 (.slice (some ⟨g2, 0, none⟩) 24 c2) rfl rfl (by kernel_rfl) (by kernel_rfl) (by kernel_rfl) (fun _ _ _ h => h) (Or.inl ⟨by rfl, fun w1 hw1 => by go_simp⟩) hHeld ?_
    (try simp only [Act.put, List.setIfInBounds_toArray, List.set_cons_zero, List.set_cons_succ])
    refine take_at 7 47 (.slice (some ⟨g2, 8, none⟩) 8 (c2 - 8)) rfl rfl (by kernel_rfl) (by kernel_rfl) (by kernel_rfl) (fun _ _ _ h => h) (Or.inl ⟨by rfl, fun w1 hw1 => by go_simp⟩) hHeld ?_
    (try simp only [Act.put, List.setIfInBounds_toArray, List.set_cons_zero, List.set_cons_succ])
    refine take_at 9 49 (.slice (some ⟨g2, 0, none⟩) 24 c2) rfl rfl (by kernel_rfl) (by kernel_rfl) (by kernel_rfl) (fun _ _ _ h => h) (Or.inl ⟨by rfl, fun w1 hw1 => by go_simp⟩) hHeld ?_
    (try simp only [Act.put, List.setIfInBounds_toArray, List.set_cons_zero, List.set_cons_succ])
    refine take_at 10 50 (.slice (some ⟨g2, 16, none⟩) 8 (c2 - 16)) rfl rfl (by kernel_rfl) (by kernel_rfl) (by kernel_rfl) (fun _ _ _ h => h) (Or.inl ⟨by rfl, fun w1 hw1 => by go_simp⟩) hHeld ?_
    (try simp only [Act.put, List.setIfInBounds_toArray, List.set_cons_zero, List.set_cons_succ])
    refine tell_at 5 45 (.int .u64 xmin) rfl rfl (by kernel_rfl) (by kernel_rfl) (by kernel_rfl) (fun _ _ _ h => h) ⟨by rfl, fun w1 hw1 => by unfold Oper.quietAt; go_simp; exact ((U1.out _ _ _ hw1).mono fun e w2 ⟨h1, h2⟩ => ⟨h1, h2.symm⟩)⟩ hHeld ?_
    (try simp only [Act.put, List.setIfInBounds_toArray, List.set_cons_zero, List.set_cons_succ])
    refine tell_at 8 48 (.int .u64 xmax) rfl rfl (by kernel_rfl) (by kernel_rfl) (by kernel_rfl) (fun _ _ _ h => h) ⟨by rfl, fun w1 hw1 => by unfold Oper.quietAt; go_simp; exact ((U2.out _ _ _ hw1).mono fun e w2 ⟨h1, h2⟩ => ⟨h1, h2.symm⟩)⟩ hHeld ?_
    (try simp only [Act.put, List.setIfInBounds_toArray, List.set_cons_zero, List.set_cons_succ])
    refine tell_at 11 51 (.int .u64 next) rfl rfl (by kernel_rfl) (by kernel_rfl) (by kernel_rfl) (fun _ _ _ h => h) ⟨by rfl, fun w1 hw1 => by unfold Oper.quietAt; go_simp; exact ((U3.out _ _ _ hw1).mono fun e w2 ⟨h1, h2⟩ => ⟨h1, h2.symm⟩)⟩ hHeld ?_
    (try simp only [Act.put, List.setIfInBounds_toArray, List.set_cons_zero, List.set_cons_succ])
    have OA := ((Only.refl [] w3).drew).alloc (.cells (u8s (List.replicate len 0)).toArray 5)
    have OAB := OA.alloc (.cells (verCells (.slice none 0 0) 0 0 0).toArray 50)
    have OB := ((Only.refl [] w3).drew).alloc (.cells (verCells (.slice none 0 0) 0 0 0).toArray 50)
    have OBA := OB.alloc (.cells (u8s (List.replicate len 0)).toArray 5)
    have HGL : Hid (g2 < w3.heap.size) := owns_lt R2'.out rfl
    refine two_at 2 13 rfl rfl (by kernel_rfl) (by rfl) (by rfl) (fun K hK => ?_) (fun K hK => ?_)
    · go_wp2_with fail
      refine hK.out _ _ (owns_later R2'.out OA (by simp)) ?_
      clear hK K
      (try simp only [Act.put, List.setIfInBounds_toArray, List.set_cons_zero, List.set_cons_succ])
      refine take_at 12 52 (.agg (verCells (.slice (some ⟨w3.heap.size, 0, none⟩) len len) xmin xmax next).toArray) rfl rfl (by kernel_rfl) (by kernel_rfl) (by kernel_rfl) (fun _ _ _ h => h) (Or.inl ⟨by rfl, fun w1 hw1 => by go_simp; rfl⟩) (owns_later R2'.out OA (by simp)) ?_
      (try simp only [Act.put, List.setIfInBounds_toArray, List.set_cons_zero, List.set_cons_succ])
      refine one_at 13 rfl (by kernel_rfl) (by rfl) (fun K hK => ?_)
      go_wp2_with fail
      refine hK.out _ _ (owns_later R2'.out OAB (by simp)) ?_
      clear hK K
      (try simp only [Act.put, List.setIfInBounds_toArray, List.set_cons_zero, List.set_cons_succ])
      refine one_at 14 rfl (by kernel_rfl) (by rfl) (fun K hK => ?_)
      refine store_at 50 (.tmp 14) (.tmp 52) rfl rfl (w3.heap.size + 1) (verCells (.slice (some ⟨w3.heap.size, 0, none⟩) len len) xmin xmax next) rfl rfl (Blk.new' (verCells (.slice none 0 0) 0 0 0).toArray 50 (w3.drew.alloc (.cells (u8s (List.replicate len 0)).toArray 5)) (by simp)) rfl IC.out verCells_one ?_
      intro w9 hb9 hO9
      have hS9 : ByteRow 5 w9 (.slice (some ⟨g2, 0, none⟩) 24 c2) s := owns_later (owns_later R2'.out OAB (by simp)) hO9 (fun k hk hm => by simp [Value.ownBlock] at hk hm; have := HGL.out; omega)
      have hA9 : Blk w9 w3.heap.size (u8s (List.replicate len 0)) 5 := hO9.blk ((Blk.new' (u8s (List.replicate len 0)).toArray 5 w3.drew rfl).alloc _) (by simp)
      have hOO : Only [] w3 w9 := OAB.trans hO9 (fun x hx => by simp at hx; subst hx; exact .inr (by omega))
      refine hK.out _ _ hS9 ?_
      clear hK K
      (try simp only [Act.put, List.setIfInBounds_toArray, List.set_cons_zero, List.set_cons_succ])
      refine wpAnyH_done (by kernel_rfl) ?_ _
      go_wp2_with fail
      go_meet
      case rel => exact ⟨w3.heap.size, w3.heap.size + 1, rfl, hA9, hb9, Nat.le_refl _, by omega, hOO⟩
    · go_wp2_with fail
      refine hK.out _ _ (owns_later R2'.out OB (by simp)) ?_
      clear hK K
      (try simp only [Act.put, List.setIfInBounds_toArray, List.set_cons_zero, List.set_cons_succ])
      refine one_at 2 rfl (by kernel_rfl) (by rfl) (fun K hK => ?_)
      go_wp2_with fail
      refine hK.out _ _ (owns_later R2'.out OBA (by simp)) ?_
      clear hK K
      (try simp only [Act.put, List.setIfInBounds_toArray, List.set_cons_zero, List.set_cons_succ])
      refine take_at 12 52 (.agg (verCells (.slice (some ⟨w3.heap.size + 1, 0, none⟩) len len) xmin xmax next).toArray) rfl rfl (by kernel_rfl) (by kernel_rfl) (by kernel_rfl) (fun _ _ _ h => h) (Or.inl ⟨by rfl, fun w1 hw1 => by go_simp; rfl⟩) (owns_later R2'.out OBA (by simp)) ?_
      (try simp only [Act.put, List.setIfInBounds_toArray, List.set_cons_zero, List.set_cons_succ])
      refine one_at 14 rfl (by kernel_rfl) (by rfl) (fun K hK => ?_)
      refine store_at 50 (.tmp 14) (.tmp 52) rfl rfl w3.heap.size (verCells (.slice (some ⟨w3.heap.size + 1, 0, none⟩) len len) xmin xmax next) rfl rfl ((Blk.new' (verCells (.slice none 0 0) 0 0 0).toArray 50 w3.drew rfl).alloc _) rfl IC.out verCells_one ?_
      intro w9 hb9 hO9
      have hS9 : ByteRow 5 w9 (.slice (some ⟨g2, 0, none⟩) 24 c2) s := owns_later (owns_later R2'.out OBA (by simp)) hO9 (fun k hk hm => by simp [Value.ownBlock] at hk hm; have := HGL.out; omega)
      have hA9 : Blk w9 (w3.heap.size + 1) (u8s (List.replicate len 0)) 5 := hO9.blk (Blk.new' (u8s (List.replicate len 0)).toArray 5 (w3.drew.alloc (.cells (verCells (.slice none 0 0) 0 0 0).toArray 50)) (by simp)) (by simp)
      have hOO : Only [] w3 w9 := OBA.trans hO9 (fun x hx => by simp at hx; subst hx; exact .inr (by omega))
      refine hK.out _ _ hS9 ?_
      clear hK K
      (try simp only [Act.put, List.setIfInBounds_toArray, List.set_cons_zero, List.set_cons_succ])
      refine wpAnyH_done (by kernel_rfl) ?_ _
      go_wp2_with fail
      go_meet
      case rel => exact ⟨w3.heap.size + 1, w3.heap.size, rfl, hA9, hb9, by omega, Nat.le_refl _, hOO⟩
  case rest =>
    obtain ⟨a, b, rfl, hA, hB, ha, hb', hO⟩ := hcut
    have R3x : ByteRow 5 wc (.slice (some ⟨g3, 0, none⟩) len c3) row := owns_later R3.out hO (by simp)
    have hsrc : ∀ j v, (u8s row)[j]? = some v → wc.cell? ((⟨g3, 0, none⟩ : Addr).add j) = some v := fun j v hj => by
      have := R3x.src j v hj
      rw [Nat.zero_add] at this
      have hadd : (⟨g3, 0, none⟩ : Addr).add j = ⟨g3, j, none⟩ := by unfold Addr.add; split <;> simp_all
      rw [hadd]; exact this
    have HSRC := Lib.hid hsrc
    have HA := Lib.hid hA
    have HB := Lib.hid hB
    have hab : a ≠ b := hA.ne hB (by decide)
    have HAB := Lib.hid hab
    have HN1 : Hid ((u8s row).length = Nat.min len len) := by show _ = _; rw [length_u8s, HLEN.out]; exact (Nat.min_self len).symm
    have HN2 : Hid (0 + (u8s row).length ≤ (u8s (List.replicate len 0)).length) := by show _ ≤ _; rw [length_u8s, length_u8s, List.length_replicate, HLEN.out]; omega
    have ESP : Hid (splice (u8s (List.replicate len (0 : UInt8))) 0 (u8s row) = u8s row) := by
      show _ = _
      rw [u8s_splice _ _ (by rw [List.length_replicate, HLEN.out]; exact Nat.le_refl _), List.drop_of_length_le (by rw [List.length_replicate, HLEN.out]; exact Nat.le_refl _), List.append_nil]
    have hN3 : w.heap.size < w3.heap.size := by have := BX.out.lt; have := G1.out.2.2.2.2.1.size; have := O3.out.size; omega
    have HO := Lib.hid hO
    have HN3 := Lib.hid hN3
    have BN := Lib.hid (hO.blk (O3.out.blk B1.out (by simp)) (by simp))
    have HLA := Lib.hid ha
    have HLB := Lib.hid hb'
    have e0 := hB.cell 0
    simp only [verCells, List.getElem?_cons_zero] at e0
    clear hA hB ha hb' hO R3x hsrc hab hN3
    go_wp2_with (first
      | (refine wpList_copy_blk rfl (.tmp 54) (.tmp 55) 33 33 rfl 5 Tryz.underlying33 G.size_byte _ _ _ _ _ _ rfl rfl a 0 (u8s (List.replicate len 0)) 5 HA.out (u8s row) HN1.out (fun _ => ⟨rfl, _, rfl, HSRC.out⟩) HN2.out (u8s_oneCell _) ?_; intro w5 hb5 hO5; have A5 := Lib.hid (hb5.to ESP.out); have O5 := Lib.hid hO5; have B5 := Lib.hid (hO5.blk HB.out (by simp; exact fun h => HAB.out h.symm)); have BN5 := Lib.hid (hO5.blk BN.out (by simp; have h1 := HN3.out; have h2 := HLA.out; omega)); clear hb5 hO5)
      | (refine wpList_load_blk rfl 50 (.tmp 14) rfl b rfl B5.out _ Tryz.underlying50 rfl IC.out ?_)
      | (refine wpList_store_blk rfl 50 (.tmp 4) (.tmp 57) rfl w.heap.size (verCells (.slice (some ⟨a, 0, none⟩) len len) xmin xmax next) rfl rfl BN5.out rfl IC.out verCells_one ?_; intro w6 hb6 hO6; have B6 := Lib.hid hb6; have O6 := Lib.hid hO6; clear hb6 hO6))
    (try simp only [Exit.inBlock, Exit.then])
    refine bodyPost_ret (results_cell_two rfl _ _ w.heap.size (verCells (.slice (some ⟨a, 0, none⟩) len len) xmin xmax next) _ rfl B6.out UC rfl IC.out) rfl ?_
    obtain ⟨g1, g2', g3', g4, g5⟩ := G1.out
    have hsz1 : w.heap.size < w1.heap.size := B1.out.lt
    have P3 := (g4.past O3.out).past HO.out
    have hlt := g4.lt
    have hsz3 := O3.out.size
    have P5 := P3.later O5.out (fun x hx cs hcs => by simp at hx; subst hx; exact absurd rfl (hcs.ne HA.out (by decide))) (fun x hx hm => by simp at hm; subst hm; have := hlt _ hx; have := HLA.out; omega)
    have hNM1 : w.heap.size ∉ M1 := P.Step.keep g5 BX.out.lt HNM.out
    have P6 := P5.later O6.out (fun x hx cs hcs => by simp at hx; subst hx; exact absurd rfl (hcs.ne BN5.out (by decide))) (fun x hx hm => by simp at hm; subst hm; exact hNM1 hx)
    have A6 := O6.out.blk A5.out (by simp; have h1 := HN3.out; have h2 := HLA.out; omega)
    refine ⟨a, len, M1, rfl, A6.byteRow HLEN.out (by have := HL5.out; unfold maxLen; omega), by have h1 := HN3.out; have h2 := HLA.out; omega, fun hm => by have := hlt _ hm; have := HLA.out; omega, P6, ?_, ?_⟩
    · have s1 := (Step.ahead O0'.out g5).1
      refine (((s1.trans O3.out (by simp)).trans HO.out (by simp)).trans O5.out (fun x hx => ?_)).trans O6.out (fun x hx => ?_)
      · simp at hx; subst hx; have h1 := HN3.out; have h2 := HLA.out; exact .inr (by omega)
      · simp at hx; subst hx; exact .inr (Nat.le_refl _)
    · exact (Step.ahead O0'.out g5).2
end
end Go.Proofs.YtfkmjbpnjgnkbaaGreat.H

/-
  Rows of places of versions; Chain: by contracts.
-/
namespace Go.Proofs.YtfkmjbpnjgnkbaaGreat.H
set_option linter.unusedSimpArgs false
open Go Go.RowKit Go.Proofs.YtfkmjbpnjgnkbaaGreat.D Go.Proofs.YtfkmjbpnjgnkbaaGreat.B Go.Proofs.YtfkmjbpnjgnkbaaGreat.C Go.Proofs.YtfkmjbpnjgnkbaaGreat.G Go.Proofs.YtfkmjbpnjgnkbaaGreat.P
set_option linter.unusedVariables false
theorem info_rid : (Tryz.prog.info? 29).map (fun i => (i.zero, i.size, i.bytes)) = some (some (.int .u64 0), 1, 8) := by kernel_rfl
def u64s (l : List Nat) : List Value := l.map fun (r : Nat) => .int .u64 ((r : Nat) : Int)
@[simp] theorem u64s_len (l : List Nat) : (u64s l).length = l.length := by simp [u64s]
theorem u64s_append (l k : List Nat) : u64s (l ++ k) = u64s l ++ u64s k := by simp [u64s]
/-- A slice of rids, wherever it lies. -/
def RidsAt (w : World) (v : Value) (l : List Nat) : Prop := ∃ ao cap, v = .slice ao l.length cap ∧ l.length ≤ cap ∧ (0 < l.length → ∃ b o, ao = some ⟨b, o, none⟩ ∧ ∀ j, j < l.length → w.cell? ⟨b, o + j, none⟩ = some (.int .u64 (l.getD j 0 : Nat)))
/-- A slice of rids of one's own. -/
def RidRow (w : World) (v : Value) (l : List Nat) : Prop := w.ownsRow 0 29 1 v l.length (u64s l)
theorem RidRow.at {w : World} {v : Value} {l : List Nat} (h : RidRow w v l) : RidsAt w v l := by
  rcases h.2 with ⟨rfl, hz⟩ | ⟨g, cap, cur, rfl, _, hh, h3, h4, h5, h6⟩
  · have : l = [] := List.eq_nil_of_length_eq_zero hz
    subst this
    exact ⟨none, 0, rfl, Nat.le_refl _, fun h => by simp at h⟩
  · refine ⟨_, cap, rfl, by omega, fun h0 => ⟨g, 0, rfl, fun j hj => ?_⟩⟩
    rw [Nat.zero_add, cell_of_row w g j cur 29 (0, 0) hh]
    have h7 : (u64s l)[j]? = some (.int .u64 (l.getD j 0 : Nat)) := by
      rw [u64s, List.getElem?_map, List.getElem?_eq_getElem hj, List.getD_eq_getElem?_getD, List.getElem?_eq_getElem hj]; rfl
    rw [← h6] at h7
    rw [← Array.getElem?_toList]
    exact take_get h7
theorem RidsAt.past {w w' : World} {v : Value} {l : List Nat} (h : RidsAt w v l) (hO : Only [] w w') : RidsAt w' v l := by
  obtain ⟨ao, cap, hv, hc, h⟩ := h
  refine ⟨ao, cap, hv, hc, fun h0 => ?_⟩
  obtain ⟨b, o, ho, hj⟩ := h h0
  exact ⟨b, o, ho, fun j hj' => hO.cell (hj j hj') (by simp)⟩
def u64sOk (l : List Nat) : Prop := ∀ r ∈ l, r < W64
set_option maxRecDepth 100000 in
set_option maxHeartbeats 1000000 in
theorem index_rid {w : World} {v : Value} {l : List Nat} (h : RidsAt w v l) (hm : l.length ≤ 1000000) (x : Nat) :
    Calls Tryz.prog 72 #[v, .int .u64 x] w fun e w' => ∃ z : Int, e = .returned (.int .i64 z) ∧ (0 ≤ z ↔ x ∈ l) ∧ w = w' := by
  obtain ⟨ao, cap, rfl, hcap, hc⟩ := h
  have HC := Lib.hid hc
  clear hc
  generalize hn : l.length = n at *
  have HN := Lib.hid hn
  clear hn
  go_enter Tryz.func72, Tryz.ntmps72
  go_wp2_with fail
  go_loopg [8] n (fun gk s8 wr => ∃ j : Nat, gk = n - j ∧ j ≤ n ∧ s8 = .int .i64 j ∧ wr = w ∧ ∀ i, i < j → l.getD i 0 ≠ x)
  case atStart => exact ⟨0, rfl, Nat.zero_le _, rfl, rfl, fun i hi => by omega⟩
  case round =>
    obtain ⟨j, hgk, hj, rfl, rfl, hs⟩ := hrel
    have HGK := Lib.hid hgk
    have HS := Lib.hid hs
    clear hgk hs
    by_cases hlt : j < n
    · have hj0 : (0 : Int) ≤ j := by omega
      have hj1 : (j : Int) < n := by omega
      obtain ⟨b, o, rfl, hcell⟩ := HC.out (by omega)
      have cj := hcell j hlt
      have HJ : Hid (l.getD j 0 ∈ l) := by
        show _ ∈ _
        rw [List.getD_eq_getElem?_getD, List.getElem?_eq_getElem (by rw [HN.out]; exact hlt)]
        exact List.getElem_mem _
      clear hcell
      by_cases he : l.getD j 0 = x
      · rw [he] at cj HJ
        clear he
        go_wp2_with fail
        go_ret
        exact ⟨_, rfl, ⟨fun _ => HJ.out, fun _ => by omega⟩, rfl⟩
      · have HE := Lib.hid he
        generalize hy : l.getD j 0 = y at *
        have HY := Lib.hid hy
        clear hy
        have e1 : ((x : Int) == (y : Int)) = false := beq_eq_false_iff_ne.2 (by omega)
        have e2 : ¬ (x : Int) = (y : Int) := by omega
        have e3 : ¬ (y : Int) = (x : Int) := by omega
        have e4 : ¬ x = y := by omega
        clear he
        go_wp2_with fail
        go_roundg (n - (j + 1))
        case measure => have := HGK.out; omega
        case rel => exact ⟨j + 1, rfl, by omega, by go_num, rfl, fun i hi => by
          by_cases h : i < j
          · exact HS.out i h
          · have : i = j := by omega
            rw [this, HY.out]; exact HE.out⟩
    · obtain rfl : j = n := by omega
      go_wp2_with fail
      go_ret
      refine ⟨_, rfl, ⟨fun h => absurd h (by decide), fun hm => ?_⟩, rfl⟩
      obtain ⟨i, hi, he⟩ := List.getElem_of_mem hm
      refine absurd ?_ (HS.out i (by rw [← HN.out]; exact hi))
      rw [List.getD_eq_getElem?_getD, List.getElem?_eq_getElem hi]; exact he
theorem contains_rid {w : World} {v : Value} {l : List Nat} (h : RidsAt w v l) (hm : l.length ≤ 1000000) (x : Nat) :
    Calls Tryz.prog 47 #[v, .int .u64 x] w fun e w' => e = .returned (.bool (decide (x ∈ l))) ∧ w = w' := by
  have IX := Lib.hid (index_rid h hm x)
  obtain ⟨ao, cap, rfl, _⟩ := h
  go_enter Tryz.func47, Tryz.ntmps47
  go_wp2_with (go_at_call 72; refine IX.out.mono ?_; rintro e w1 ⟨z, rfl, hz, rfl⟩)
  go_ret
  exact ⟨by simp only [ge_iff_le, hz]; rfl, rfl⟩
theorem contains_to {w : World} {v : Value} {l : List Nat} (h : RidsAt w v l) (hm : l.length ≤ 1000000) {x : Nat} {z : Bool} (hz : decide (x ∈ l) = z) :
    Calls Tryz.prog 47 #[v, .int .u64 x] w fun e w' => e = .returned (.bool z) ∧ w = w' := by
  have := contains_rid h hm x
  rw [hz] at this
  exact this
/-! ### versions by their places -/
/-- The version at a place. -/
def verR (pg : Nat → List UInt8) (ids : List Nat) (r : Nat) : Option Ver := if r / 128 ∈ ids then verAt (pg (r / 128)) (r % 128) else none
theorem verR_some {pg : Nat → List UInt8} {ids : List Nat} {r : Nat} {v : Ver} (h : verR pg ids r = some v) : IsVer pg ids r v := by
  unfold verR at h
  split at h
  · rename_i hid; exact ⟨hid, h⟩
  · cases h
theorem IsVer.verR {pg : Nat → List UInt8} {ids : List Nat} {r : Nat} {v : Ver} (h : IsVer pg ids r v) : verR pg ids r = some v := by
  unfold H.verR; rw [if_pos h.1]; exact h.2
/-- All pages that are used are the heap's. -/
def Owns (u : List Bool) (ids : List Nat) : Prop := ∀ id, u.getD id false = true → id ∈ ids
theorem verR_none {u : List Bool} {pg : Nat → List UInt8} {ids : List Nat} (hO : Owns u ids) {r : Nat} (h : verR pg ids r = none) : NoVer u pg ids r := by
  unfold verR at h
  split at h
  · rename_i hid; exact .inr (.inr ⟨hid, h⟩)
  · rename_i hid
    refine .inr (.inl ?_)
    cases hu : u.getD (r / 128) false with
    | false => rfl
    | true => exact absurd (hO _ hu) hid
/-- A chain from r on, behind what was told. -/
def chainP (V : Nat → Option Ver) : Nat → List Nat → Nat → List Nat
  | 0, out, r => out
  | n + 1, out, r => match V r with
    | none => out
    | some v => if v.next = 0 ∨ v.next ∈ out ++ [r] then out ++ [r] else chainP V n (out ++ [r]) v.next
section
variable {w : World} {hb p root k : Nat} {M : List Nat} {u : List Bool} {pg : Nat → List UInt8} {ids : List Nat}
set_option maxRecDepth 100000 in
theorem hchain_none (hP : PoolV w p M u pg k) (hk : k ≤ 1000000) (hH : HpAt w hb p root) (hM : hb ∉ M) (hI : HeapIs u pg root ids) (hO : Owns u ids) (r : Nat) (hr : r < W64) (hv : verR pg ids r = none) :
    Calls Tryz.prog 16 #[.pointer (some ⟨hb, 0, none⟩), .int .u64 r] w fun e w' => e = .returned (.tuple #[.slice none 0 0, .int .i64 91]) ∧ ∃ M', PoolV w' p M' u pg (k + 2) ∧ Step M M' w w' := by
  have GN := Lib.hid (hget_no hP hk hH hM hI r hr (verR_none hO hv))
  have HH := Lib.hid hH
  have IC : Hid ((Tryz.prog.info? 50).map (·.size) = some 4) := info_ver
  clear hP hH hM hI hO hv
  go_enter Tryz.func16, Tryz.ntmps16
  go_wp2_with fail
  go_loopg [1, 6] 1 (fun gk s1 s6 wr => s1 = .int .u64 r ∧ s6 = .slice none 0 0 ∧ wr = w)
  case atStart => exact ⟨rfl, rfl, rfl⟩
  case round =>
    obtain ⟨rfl, rfl, rfl⟩ := hrel
    go_wp2_with (first
      | (go_at_call 21; refine GN.out.mono ?_; rintro e w1 ⟨rfl, M1, hP1, hS1⟩; have P1 := Lib.hid hP1; have S1 := Lib.hid hS1; clear hP1 hS1)
      | (refine wpList_store_blk rfl 50 (.tmp 7) (.tmp 13) rfl w1.heap.size (verCells (.slice none 0 0) 0 0 0) rfl rfl (Blk.new' (verCells (.slice none 0 0) 0 0 0).toArray 50 w1 rfl) rfl IC.out verCells_one ?_; intro w2 hb2 hO2; have O2 : Hid (Only [] w1 w2) := (((Only.refl [] w1).alloc _).trans hO2 (fun x hx => by simp at hx; subst hx; exact .inr (Nat.le_refl _))); clear hb2 hO2))
    go_ret2
    exact ⟨rfl, M1, P1.out.past O2.out, S1.out.then O2.out⟩
theorem chain_step {V : Nat → Option Ver} {n : Nat} {out : List Nat} {r : Nat} {v : Ver} (h : V r = some v) : chainP V (n + 1) out r = if v.next = 0 ∨ v.next ∈ out ++ [r] then out ++ [r] else chainP V n (out ++ [r]) v.next := by
  rw [chainP, h]
theorem chain_stop {V : Nat → Option Ver} {n : Nat} {out : List Nat} {r : Nat} (h : V r = none) : chainP V (n + 1) out r = out := by
  rw [chainP, h]
theorem ver_next {root next : Nat} {p : List UInt8} (h : HPage root next p) {j : Nat} {v : Ver} (hv : verAt p j = some v) : v.next < W64 := by
  obtain ⟨_, s, _, _, h3, _, _, h6⟩ := verAt_some h hv
  rw [h6]
  exact unle_w (by rw [List.length_drop]; omega)
theorem rid_push {w : World} {v : Value} {out : List Nat} {rr : Nat} (h : w.ownsRow 0 29 1 v (out.length + 1) (u64s out ++ [.int .u64 (rr : Nat)])) : RidRow w v (out ++ [rr]) := by
  unfold RidRow
  rw [u64s_append, List.length_append, List.length_singleton]
  exact h
set_option maxRecDepth 100000 in
set_option maxHeartbeats 2000000 in
theorem hchain_some (hP : PoolV w p M u pg k) (hH : HpAt w hb p root) (hM : hb ∉ M) (hI : HeapIs u pg root ids) (hO : Owns u ids) (r : Nat) (hr : r < W64) {v0 : Ver} (hv : verR pg ids r = some v0)
    (K : Nat) (hfin : ∀ l : List Nat, l.Nodup → (∀ x ∈ l, verR pg ids x ≠ none) → l.length ≤ K) (hk : k + 2 * K + 10 ≤ 1000000) (hK : K ≤ 100000) :
    Calls Tryz.prog 16 #[.pointer (some ⟨hb, 0, none⟩), .int .u64 r] w fun e w' => ∃ v M', e = .returned (.tuple #[v, .int .i64 0]) ∧ RidRow w' v (chainP (verR pg ids) (K + 1) [] r) ∧ (∀ x, v.ownBlock = some x → w.heap.size ≤ x ∧ x ∉ M') ∧ PoolV w' p M' u pg (k + 2 * K + 4) ∧ Step M M' w w' := by
  have GN : Hid (∀ w1 M1 k1 rr, PoolV w1 p M1 u pg k1 → k1 ≤ 1000000 → Step M M1 w w1 → rr < W64 → verR pg ids rr = none → Calls Tryz.prog 21 #[.pointer (some ⟨hb, 0, none⟩), .int .u64 rr] w1 fun e w' => e = .returned (.tuple #[.agg (verCells (.slice none 0 0) 0 0 0).toArray, .int .i64 91]) ∧ ∃ M', PoolV w' p M' u pg (k1 + 2) ∧ Step M1 M' w1 w') := fun w1 M1 k1 rr h1 h2 h3 h4 h5 => hget_no h1 h2 (h3.1.blk hH hM) (P.Step.keep h3 hH.lt hM) hI rr h4 (verR_none hO h5)
  have GY : Hid (∀ w1 M1 k1 rr (v : Ver), PoolV w1 p M1 u pg k1 → k1 ≤ 1000000 → Step M M1 w w1 → verR pg ids rr = some v → Calls Tryz.prog 21 #[.pointer (some ⟨hb, 0, none⟩), .int .u64 rr] w1 fun e w' => ∃ g c M', e = .returned (.tuple #[.agg (verCells (.slice (some ⟨g, 0, none⟩) v.row.length c) v.xmin v.xmax v.next).toArray, .int .i64 0]) ∧ ByteRow 5 w' (.slice (some ⟨g, 0, none⟩) v.row.length c) v.row ∧ w1.heap.size ≤ g ∧ g ∉ M' ∧ PoolV w' p M' u pg (k1 + 2) ∧ Step M1 M' w1 w') := fun w1 M1 k1 rr v h1 h2 h3 h5 => hget_yes h1 h2 (h3.1.blk hH hM) (P.Step.keep h3 hH.lt hM) hI rr (verR_some h5)
  have NX : Hid (∀ rr v, verR pg ids rr = some v → v.next < W64) := fun rr v h => by
    obtain ⟨hid, hv⟩ := verR_some h
    obtain ⟨_, _, _, hp⟩ := hI.at hid
    exact ver_next hp hv
  have HP := Lib.hid hP
  have IC : Hid ((Tryz.prog.info? 50).map (·.size) = some 4) := info_ver
  have HFIN := Lib.hid hfin
  generalize hV : verR pg ids = V at *
  have HV := Lib.hid hv
  generalize hRES : chainP V (K + 1) [] r = RES
  have HRES := Lib.hid hRES
  clear hP hH hM hI hO hv hV hfin hRES
  go_enter Tryz.func16, Tryz.ntmps16
  go_wp2_with fail
  go_loopg [1, 6] (K + 1) (fun gk s1 s6 wr => ∃ (out : List Nat) (rr : Nat) (Mi : List Nat), gk = K + 1 - out.length ∧ out.length ≤ K ∧ s1 = .int .u64 rr ∧ rr < W64 ∧ RidRow wr s6 out ∧ (∀ x, s6.ownBlock = some x → w.heap.size ≤ x ∧ x ∉ Mi) ∧ PoolV wr p Mi u pg (k + 2 * out.length) ∧ Step M Mi w wr ∧ chainP V (K + 1 - out.length) out rr = RES ∧ out.Nodup ∧ rr ∉ out ∧ (∀ x ∈ out, V x ≠ none) ∧ (out = [] → rr = r))
  case atStart => exact ⟨[], r, M, rfl, Nat.zero_le _, rfl, hr, ⟨rfl, .inl ⟨rfl, rfl⟩⟩, fun x hx => by simp [Value.ownBlock] at hx, HP.out, Step.refl _ _, HRES.out, List.nodup_nil, by simp, by simp, fun _ => rfl⟩
  case round =>
    obtain ⟨out, rr, Mi, hgk, hol, rfl, hrw, hrow, hnew, hPi, hSi, hres, hnd, hni, hall, h0⟩ := hrel
    have HGK := Lib.hid hgk
    have HROW := Lib.hid hrow
    have HNEW := Lib.hid hnew
    have HPI := Lib.hid hPi
    have HSI := Lib.hid hSi
    have HND := Lib.hid hnd
    have HNI := Lib.hid hni
    have HALL := Lib.hid hall
    have H0 := Lib.hid h0
    have HRW := Lib.hid hrw
    obtain ⟨d, hd⟩ : ∃ d, K + 1 - out.length = d + 1 := ⟨K - out.length, by omega⟩
    rw [hd] at hres
    have HRS := Lib.hid hres
    have HD := Lib.hid hd
    obtain ⟨ao, cap, rfl, hcap, _⟩ := hrow.at
    clear hgk hrow hnew hPi hSi hnd hni hall h0 hres hd hrw
    cases hvr : V rr with
    | none =>
      have GNi := Lib.hid (GN.out wr Mi _ rr HPI.out (by omega) HSI.out HRW.out hvr)
      have EO : Hid (out = RES) := by
        have := HRS.out
        rw [chain_stop hvr] at this
        exact this
      have hpos : 0 < out.length := by
        rcases Nat.eq_zero_or_pos out.length with h | h
        · have e := List.eq_nil_of_length_eq_zero h
          have := H0.out e
          rw [this, HV.out] at hvr; cases hvr
        · exact h
      have hposI : (0 : Int) < out.length := by omega
      have hposG : (out.length : Int) > 0 := by omega
      clear hvr
      go_wp2_with (first
        | (go_at_call 21; refine GNi.out.mono ?_; rintro e w1 ⟨rfl, M1, hP1, hS1⟩; have P1 := Lib.hid hP1; have S1 := Lib.hid hS1; have RW1 := Lib.hid (show RidRow w1 _ out from owns_later HROW.out hS1.1 (fun x hx => (HNEW.out x hx).2)); clear hP1 hS1)
        | (refine wpList_store_blk rfl 50 (.tmp 7) (.tmp 13) rfl w1.heap.size (verCells (.slice none 0 0) 0 0 0) rfl rfl (Blk.new' (verCells (.slice none 0 0) 0 0 0).toArray 50 w1 rfl) rfl IC.out verCells_one ?_; intro w2 hb2 hO2; have O2 : Hid (Only [] w1 w2) := (((Only.refl [] w1).alloc _).trans hO2 (fun x hx => by simp at hx; subst hx; exact .inr (Nat.le_refl _))); clear hb2 hO2))
      go_ret2
      rw [← EO.out]
      refine ⟨_, M1, rfl, owns_later RW1.out O2.out (by simp), fun x hx => ⟨(HNEW.out x hx).1, P.Step.keep S1.out (owns_lt HROW.out hx) (HNEW.out x hx).2⟩, (P1.out.past O2.out).more (by omega), (HSI.out.trans S1.out).then O2.out⟩
    | some v =>
      have GYi := Lib.hid (GY.out wr Mi _ rr v HPI.out (by omega) HSI.out hvr)
      have HRS2 : Hid ((if v.next = 0 ∨ v.next ∈ out ++ [rr] then out ++ [rr] else chainP V d (out ++ [rr]) v.next) = RES) := by
        have := HRS.out
        rw [chain_step hvr] at this
        exact this
      have hnd2 : (out ++ [rr]).Nodup := by
        rw [List.nodup_append]
        exact ⟨HND.out, by simp, fun x hx y hy e => by simp at hy; subst hy; subst e; exact HNI.out hx⟩
      have hall2 : ∀ x ∈ out ++ [rr], V x ≠ none := fun x hx => by
        rcases List.mem_append.1 hx with h | h
        · exact HALL.out x h
        · simp at h; subst h; rw [hvr]; simp
      have hl2 := HFIN.out _ hnd2 hall2
      rw [List.length_append, List.length_singleton] at hl2
      have HND2 := Lib.hid hnd2
      have HALL2 := Lib.hid hall2
      have NXr := Lib.hid (NX.out rr v hvr)
      clear hvr hnd2 hall2
      obtain ⟨row, xmin, xmax, next⟩ := v
      simp only at *
      by_cases hz : next = 0
      · have ER : Hid (out ++ [rr] = RES) := by
          have := HRS2.out
          rw [if_pos (.inl hz)] at this
          exact this
        have hzB : ((next : Int) == 0) = true := by rw [hz]; rfl
        clear hz
        go_wp2_with (first
          | (go_at_call 21; refine GYi.out.mono ?_; rintro e w1 ⟨g, c, M1, rfl, hr1, hg1, hn1, hP1, hS1⟩; have P1 := Lib.hid hP1; have S1 := Lib.hid hS1; have RW1 := Lib.hid (show RidRow w1 _ out from owns_later HROW.out hS1.1 (fun x hx => (HNEW.out x hx).2)); clear hP1 hS1 hr1 hg1 hn1)
          | (refine wpList_store_blk rfl 50 (.tmp 7) (.tmp 13) rfl w1.heap.size (verCells (.slice (some ⟨g, 0, none⟩) row.length c) xmin xmax next) rfl rfl (Blk.new' (verCells (.slice none 0 0) 0 0 0).toArray 50 w1 rfl) rfl IC.out verCells_one ?_; intro w2 hb2 hO2; have O2 : Hid (Only [] w1 w2) := (((Only.refl [] w1).alloc _).trans hO2 (fun x hx => by simp at hx; subst hx; exact .inr (Nat.le_refl _))); have B2 := Lib.hid hb2; clear hb2 hO2)
          | (refine wpList_push rfl (.tmp 26) (.tmp 28) 27 rfl 29 Tryz.underlying27 (info_parts info_rid) rfl (.slice ao out.length cap) out.length (u64s out) rfl (by exact owns_later RW1.out (O2.out.alloc _) (by simp)) _ _ _ rfl (by exact (Blk.new _ _ _).cell 0) rfl (by omega) (by decide) ?_; intro g6 cp w6 hown hO6 hat hg6; have hne := owns_ne (owns_later RW1.out (O2.out.alloc (.cells #[.int .u64 rr] 29)) (by simp)) (B2.out.alloc (.cells #[.int .u64 rr] 29)) (by decide); have e6 := (hO6.blk (B2.out.alloc _) (fun h => hne (Option.mem_toList.1 h))).cell 3; simp only [verCells, List.getElem?_cons_succ, List.getElem?_cons_zero] at e6; clear hg6)
          | (go_at_call 47; refine (contains_to (RidRow.at (rid_push hown)) (by rw [List.length_append, List.length_singleton]; omega) HMB.out).mono ?_; rintro e w7 ⟨rfl, rfl⟩))
        have hXn : ∀ x ∈ (Value.slice ao out.length cap).ownBlock.toList, w.heap.size ≤ x ∧ x ∉ M1 := fun x hx => by
          have hx := Option.mem_toList.1 hx
          exact ⟨(HNEW.out x hx).1, P.Step.keep S1.out (owns_lt HROW.out hx) (HNEW.out x hx).2⟩
        have S12 := (HSI.out.trans S1.out).then (O2.out.alloc (.cells #[.int .u64 rr] 29))
        have S6 : Step M M1 w w6 := ⟨S12.1.trans hO6 (fun x hx => .inr (hXn x hx).1), S12.2⟩
        have RW2 : RidRow (w2.alloc (.cells #[.int .u64 rr] 29)) _ out := owns_later RW1.out (O2.out.alloc _) (by simp)
        have P6 := ((P1.out.past O2.out).past ((Only.refl [] w2).alloc (.cells #[.int .u64 rr] 29))).later hO6 (fun x hx cs hcs => owns_ne RW2 hcs (by decide) (Option.mem_toList.1 hx)) (fun x hx hm => (hXn x hm).2 hx)
        have NW6 : w.heap.size ≤ g6 ∧ g6 ∉ M1 := by
          rcases hat with h | h
          · exact hXn g6 (Option.mem_toList.2 h)
          · have h1 := P1.out.lt
            have h2 := HSI.out.1.size
            have h3 := S1.out.1.size
            have h4 := O2.out.size
            rw [World.size_alloc] at h
            exact ⟨by omega, fun hm => by have := h1 _ hm; omega⟩
        go_ret2
        refine ⟨_, M1, rfl, by rw [← ER.out]; exact rid_push hown, fun x hx => ?_, P6.more (by omega), S6⟩
        simp [Value.ownBlock] at hx
        subst hx
        exact NW6
      · have hzB : ((next : Int) == 0) = false := beq_eq_false_iff_ne.2 (by omega)
        have hzI : ¬ (next : Int) = 0 := by omega
        by_cases hmem : next ∈ out ++ [rr]
        · have ER : Hid (out ++ [rr] = RES) := by
            have := HRS2.out
            rw [if_pos (.inr hmem)] at this
            exact this
          have HMB : Hid (decide (next ∈ out ++ [rr]) = true) := decide_eq_true hmem
          clear hmem hz
          go_wp2_with (first
            | (go_at_call 21; refine GYi.out.mono ?_; rintro e w1 ⟨g, c, M1, rfl, hr1, hg1, hn1, hP1, hS1⟩; have P1 := Lib.hid hP1; have S1 := Lib.hid hS1; have RW1 := Lib.hid (show RidRow w1 _ out from owns_later HROW.out hS1.1 (fun x hx => (HNEW.out x hx).2)); clear hP1 hS1 hr1 hg1 hn1)
            | (refine wpList_store_blk rfl 50 (.tmp 7) (.tmp 13) rfl w1.heap.size (verCells (.slice (some ⟨g, 0, none⟩) row.length c) xmin xmax next) rfl rfl (Blk.new' (verCells (.slice none 0 0) 0 0 0).toArray 50 w1 rfl) rfl IC.out verCells_one ?_; intro w2 hb2 hO2; have O2 : Hid (Only [] w1 w2) := (((Only.refl [] w1).alloc _).trans hO2 (fun x hx => by simp at hx; subst hx; exact .inr (Nat.le_refl _))); have B2 := Lib.hid hb2; clear hb2 hO2)
            | (refine wpList_push rfl (.tmp 26) (.tmp 28) 27 rfl 29 Tryz.underlying27 (info_parts info_rid) rfl (.slice ao out.length cap) out.length (u64s out) rfl (by exact owns_later RW1.out (O2.out.alloc _) (by simp)) _ _ _ rfl (by exact (Blk.new _ _ _).cell 0) rfl (by omega) (by decide) ?_; intro g6 cp w6 hown hO6 hat hg6; have hne := owns_ne (owns_later RW1.out (O2.out.alloc (.cells #[.int .u64 rr] 29)) (by simp)) (B2.out.alloc (.cells #[.int .u64 rr] 29)) (by decide); have e6 := (hO6.blk (B2.out.alloc _) (fun h => hne (Option.mem_toList.1 h))).cell 3; simp only [verCells, List.getElem?_cons_succ, List.getElem?_cons_zero] at e6; clear hg6)
            | (go_at_call 47; refine (contains_to (RidRow.at (rid_push hown)) (by rw [List.length_append, List.length_singleton]; omega) HMB.out).mono ?_; rintro e w7 ⟨rfl, rfl⟩))
          have hXn : ∀ x ∈ (Value.slice ao out.length cap).ownBlock.toList, w.heap.size ≤ x ∧ x ∉ M1 := fun x hx => by
            have hx := Option.mem_toList.1 hx
            exact ⟨(HNEW.out x hx).1, P.Step.keep S1.out (owns_lt HROW.out hx) (HNEW.out x hx).2⟩
          have S12 := (HSI.out.trans S1.out).then (O2.out.alloc (.cells #[.int .u64 rr] 29))
          have S6 : Step M M1 w w6 := ⟨S12.1.trans hO6 (fun x hx => .inr (hXn x hx).1), S12.2⟩
          have RW2 : RidRow (w2.alloc (.cells #[.int .u64 rr] 29)) _ out := owns_later RW1.out (O2.out.alloc _) (by simp)
          have P6 := ((P1.out.past O2.out).past ((Only.refl [] w2).alloc (.cells #[.int .u64 rr] 29))).later hO6 (fun x hx cs hcs => owns_ne RW2 hcs (by decide) (Option.mem_toList.1 hx)) (fun x hx hm => (hXn x hm).2 hx)
          have NW6 : w.heap.size ≤ g6 ∧ g6 ∉ M1 := by
            rcases hat with h | h
            · exact hXn g6 (Option.mem_toList.2 h)
            · have h1 := P1.out.lt
              have h2 := HSI.out.1.size
              have h3 := S1.out.1.size
              have h4 := O2.out.size
              rw [World.size_alloc] at h
              exact ⟨by omega, fun hm => by have := h1 _ hm; omega⟩
          go_ret2
          refine ⟨_, M1, rfl, by rw [← ER.out]; exact rid_push hown, fun x hx => ?_, P6.more (by omega), S6⟩
          simp [Value.ownBlock] at hx
          subst hx
          exact NW6
        · have ER : Hid (chainP V d (out ++ [rr]) next = RES) := by
            have := HRS2.out
            rw [if_neg (fun h => h.elim hz hmem)] at this
            exact this
          have HMB : Hid (decide (next ∈ out ++ [rr]) = false) := decide_eq_false hmem
          have HME := Lib.hid hmem
          clear hmem hz
          go_wp2_with (first
            | (go_at_call 21; refine GYi.out.mono ?_; rintro e w1 ⟨g, c, M1, rfl, hr1, hg1, hn1, hP1, hS1⟩; have P1 := Lib.hid hP1; have S1 := Lib.hid hS1; have RW1 := Lib.hid (show RidRow w1 _ out from owns_later HROW.out hS1.1 (fun x hx => (HNEW.out x hx).2)); clear hP1 hS1 hr1 hg1 hn1)
            | (refine wpList_store_blk rfl 50 (.tmp 7) (.tmp 13) rfl w1.heap.size (verCells (.slice (some ⟨g, 0, none⟩) row.length c) xmin xmax next) rfl rfl (Blk.new' (verCells (.slice none 0 0) 0 0 0).toArray 50 w1 rfl) rfl IC.out verCells_one ?_; intro w2 hb2 hO2; have O2 : Hid (Only [] w1 w2) := (((Only.refl [] w1).alloc _).trans hO2 (fun x hx => by simp at hx; subst hx; exact .inr (Nat.le_refl _))); have B2 := Lib.hid hb2; clear hb2 hO2)
            | (refine wpList_push rfl (.tmp 26) (.tmp 28) 27 rfl 29 Tryz.underlying27 (info_parts info_rid) rfl (.slice ao out.length cap) out.length (u64s out) rfl (by exact owns_later RW1.out (O2.out.alloc _) (by simp)) _ _ _ rfl (by exact (Blk.new _ _ _).cell 0) rfl (by omega) (by decide) ?_; intro g6 cp w6 hown hO6 hat hg6; have hne := owns_ne (owns_later RW1.out (O2.out.alloc (.cells #[.int .u64 rr] 29)) (by simp)) (B2.out.alloc (.cells #[.int .u64 rr] 29)) (by decide); have e6 := (hO6.blk (B2.out.alloc _) (fun h => hne (Option.mem_toList.1 h))).cell 3; simp only [verCells, List.getElem?_cons_succ, List.getElem?_cons_zero] at e6; clear hg6)
            | (go_at_call 47; refine (contains_to (RidRow.at (rid_push hown)) (by rw [List.length_append, List.length_singleton]; omega) HMB.out).mono ?_; rintro e w7 ⟨rfl, rfl⟩))
          have hXn : ∀ x ∈ (Value.slice ao out.length cap).ownBlock.toList, w.heap.size ≤ x ∧ x ∉ M1 := fun x hx => by
            have hx := Option.mem_toList.1 hx
            exact ⟨(HNEW.out x hx).1, P.Step.keep S1.out (owns_lt HROW.out hx) (HNEW.out x hx).2⟩
          have S12 := (HSI.out.trans S1.out).then (O2.out.alloc (.cells #[.int .u64 rr] 29))
          have S6 : Step M M1 w w6 := ⟨S12.1.trans hO6 (fun x hx => .inr (hXn x hx).1), S12.2⟩
          have RW2 : RidRow (w2.alloc (.cells #[.int .u64 rr] 29)) _ out := owns_later RW1.out (O2.out.alloc _) (by simp)
          have P6 := ((P1.out.past O2.out).past ((Only.refl [] w2).alloc (.cells #[.int .u64 rr] 29))).later hO6 (fun x hx cs hcs => owns_ne RW2 hcs (by decide) (Option.mem_toList.1 hx)) (fun x hx hm => (hXn x hm).2 hx)
          have NW6 : w.heap.size ≤ g6 ∧ g6 ∉ M1 := by
            rcases hat with h | h
            · exact hXn g6 (Option.mem_toList.2 h)
            · have h1 := P1.out.lt
              have h2 := HSI.out.1.size
              have h3 := S1.out.1.size
              have h4 := O2.out.size
              rw [World.size_alloc] at h
              exact ⟨by omega, fun hm => by have := h1 _ hm; omega⟩
          go_roundg (K + 1 - (out ++ [rr]).length)
          case measure => have := HGK.out; rw [List.length_append, List.length_singleton]; omega
          case rel =>
            refine ⟨out ++ [rr], next, M1, rfl, by rw [List.length_append, List.length_singleton]; exact hl2, rfl, NXr.out, rid_push hown, fun x hx => ?_, P6.more (by rw [List.length_append, List.length_singleton]; omega), S6, ?_, HND2.out, HME.out, HALL2.out, fun h => ?_⟩
            · simp [Value.ownBlock] at hx
              subst hx
              exact NW6
            · rw [← ER.out]
              congr 1
              have := HD.out
              rw [List.length_append, List.length_singleton]
              omega
            · exact absurd h (by simp)
end
end Go.Proofs.YtfkmjbpnjgnkbaaGreat.H

/-
  The program's heap: Insert: by contracts.
-/
namespace Go.Proofs.YtfkmjbpnjgnkbaaGreat.H
set_option linter.unusedSimpArgs false
open Go Go.RowKit Go.Proofs.YtfkmjbpnjgnkbaaGreat.D Go.Proofs.YtfkmjbpnjgnkbaaGreat.B Go.Proofs.YtfkmjbpnjgnkbaaGreat.C Go.Proofs.YtfkmjbpnjgnkbaaGreat.G Go.Proofs.YtfkmjbpnjgnkbaaGreat.P
set_option linter.unusedVariables false
set_option maxRecDepth 100000 in
set_option maxHeartbeats 1000000 in
/-- Insert: a row of a length that may not be. -/
theorem hinsert_no {w : World} {hb : Nat} {v : Value} {row : List UInt8} (hv : BytesAt w v row) (xmin : Nat) (hl : row.length < 1 ∨ 370 < row.length) :
    Calls Tryz.prog 7 #[.pointer (some ⟨hb, 0, none⟩), v, .int .u64 xmin] w fun e w' => e = .returned (.tuple #[.int .u64 0, .int .i64 90]) ∧ Only [] w w' := by
  obtain ⟨ao, cap, rfl, hc⟩ := hv
  clear hc
  generalize row.length = n at *
  have O1 : Hid (Only [] w ((w.alloc (.cells #[.slice ao n cap] 33)).alloc (.cells #[.int .u64 xmin] 28))) := ((Only.refl _ _).alloc _).alloc _
  by_cases h1 : n < 1
  · have i1 : (n : Int) < 1 := by omega
    clear hl h1
    go_enter Tryz.func7, Tryz.ntmps7
    go_wp2_with fail
    go_ret2
    exact ⟨rfl, O1.out⟩
  · have i1 : ¬ (n : Int) < 1 := by omega
    have i2 : (n : Int) > 370 := by omega
    have i3 : ¬ (n : Int) ≤ 370 := by omega
    clear hl h1
    go_enter Tryz.func7, Tryz.ntmps7
    go_wp2_with fail
    go_ret2
    exact ⟨rfl, O1.out⟩
theorem boxes_made (w : World) (v : Value) (xmin : Nat) : ∃ w7, w7 = (((((((w.alloc (.cells #[v] 33)).alloc (.cells #[.int .u64 xmin] 28)).alloc (.cells #[.int .i64 (-1)] 3)).alloc (.cells #[.int .i64 0] 3)).alloc (.cells #[.int .i64 0] 3)).alloc (.cells #[.slice none 0 0] 33)).alloc (.cells #[.slice none 0 0] 33)) ∧
    Boxes w7 w.heap.size v (.int .u64 xmin) (.int .i64 (-1)) (.int .i64 0) (.int .i64 0) (.slice none 0 0) (.slice none 0 0) ∧ Only [] w w7 ∧ w7.heap.size = w.heap.size + 7 := by
  refine ⟨_, rfl, ⟨?_, ?_, ?_, ?_, ?_, ?_, ?_⟩, ((((((((Only.refl _ _).alloc _).alloc _).alloc _).alloc _).alloc _).alloc _).alloc _), by simp⟩
  · exact ((((((Blk.new' #[v] 33 w rfl).alloc _).alloc _).alloc _).alloc _).alloc _).alloc _
  · exact (((((Blk.new' #[.int .u64 xmin] 28 _ (by simp)).alloc _).alloc _).alloc _).alloc _).alloc _
  · exact ((((Blk.new' #[.int .i64 (-1)] 3 _ (by simp)).alloc _).alloc _).alloc _).alloc _
  · exact (((Blk.new' #[.int .i64 0] 3 _ (by simp)).alloc _).alloc _).alloc _
  · exact ((Blk.new' #[.int .i64 0] 3 _ (by simp)).alloc _).alloc _
  · exact (Blk.new' #[.slice none 0 0] 33 _ (by simp)).alloc _
  · exact Blk.new' #[.slice none 0 0] 33 _ (by simp)
/-- What holds when the closure was called at the first i pages, and said yes each time. -/
def InsJ (N : Nat) (v : Value) (row : List UInt8) (xmin : Nat) (pg : Nat → List UInt8) (ids M : List Nat) (i : Nat) (M1 : List Nat) (w1 : World) : Prop :=
  BytesAt w1 v row ∧ (∀ x ∈ M1, x ∈ M ∨ N + 7 ≤ x) ∧ (∀ j, j < i → laysB (pg (ids.getD j 0)) row xmin = none) ∧ ∃ vlast vend, Boxes w1 N v (.int .u64 xmin) (.int .i64 (-1)) (.int .i64 0) vlast (.slice none 0 0) vend ∧
    (0 < i → vlast = .int .i64 (ids.getD (i - 1) 0 : Nat) ∧ ∃ gb c, vend = .slice (some ⟨gb, 0, none⟩) 512 c ∧ Buf w1 gb c (pg (ids.getD (i - 1) 0)) ∧ gb ∉ M1 ∧ N + 7 ≤ gb)
def InsQ (N : Nat) (v : Value) (row : List UInt8) (xmin : Nat) (pg : Nat → List UInt8) (ids M : List Nat) (i : Nat) (M1 : List Nat) (w1 : World) : Prop :=
  (∀ x ∈ M1, x ∈ M ∨ N + 7 ≤ x) ∧ (∀ j, j < i → laysB (pg (ids.getD j 0)) row xmin = none) ∧ ∃ q g2 c2 vend, laysB (pg (ids.getD i 0)) row xmin = some q ∧
    Boxes w1 N v (.int .u64 xmin) (.int .i64 (ids.getD i 0 : Nat)) (.int .i64 (freeS (pg (ids.getD i 0)) : Nat)) (.int .i64 (ids.getD i 0 : Nat)) (.slice (some ⟨g2, 0, none⟩) 512 c2) vend ∧ Buf w1 g2 c2 q ∧ g2 ∉ M1
/-- What the pages are behind Insert, and where the version is. -/
inductive Inserted (u : List Bool) (pg : Nat → List UInt8) (root : Nat) (ids : List Nat) (row : List UInt8) (xmin : Nat) : List Bool → (Nat → List UInt8) → List Nat → Nat → Nat → Prop
  | here (i : Nat) (hi : i < ids.length) (q : List UInt8) (hq : laysB (pg (ids.getD i 0)) row xmin = some q) (hn : ∀ j, j < i → laysB (pg (ids.getD j 0)) row xmin = none) :
      Inserted u pg root ids row xmin u (upd pg (ids.getD i 0) q) ids (ids.getD i 0) (freeS (pg (ids.getD i 0)))
  | more (hn : ∀ j, j < ids.length → laysB (pg (ids.getD j 0)) row xmin = none) (hu : firstFree u < u.length) (q h : List UInt8) (hq : laysB (freshP root) row xmin = some q) (hh : Rep (pg (ids.getD (ids.length - 1) 0)) 0 (headC root (firstFree u)) h) :
      Inserted u pg root ids row xmin (u.set (firstFree u) true) (upd (upd pg (firstFree u) q) (ids.getD (ids.length - 1) 0) h) (ids ++ [firstFree u]) (firstFree u) (freeS (freshP root))
set_option maxRecDepth 100000 in
set_option maxHeartbeats 1000000 in
theorem hinsert_any {w : World} {hb p root k : Nat} {M : List Nat} {u : List Bool} {pg : Nat → List UInt8} {ids : List Nat} (hP : PoolV w p M u pg k) (hk : k + 2 * ids.length + 20 ≤ 1000000) (hH : HpAt w hb p root) (hM : hb ∉ M) (hI : HeapIs u pg root ids)
    {v : Value} {row : List UInt8} (hv : BytesAt w v row) (hvM : ∀ a n c, v = .slice (some a) n c → a.block ∉ M ∧ a.block < w.heap.size) (xmin : Nat) (hx : xmin < W64) (h1 : 1 ≤ row.length) (h2 : row.length ≤ 370) (hfull : firstFree u < u.length) :
    Calls Tryz.prog 7 #[.pointer (some ⟨hb, 0, none⟩), v, .int .u64 xmin] w fun e w' => ∃ u' pg' ids' id slot M', e = .returned (.tuple #[.int .u64 (id * 128 + slot : Nat), .int .i64 0]) ∧ Inserted u pg root ids row xmin u' pg' ids' id slot ∧ PoolV w' p M' u' pg' (k + 2 * ids.length + 8) ∧ Step M M' w w' := by
  obtain ⟨ao, cap, rfl, hc0⟩ := hv
  have hv : BytesAt w (.slice ao row.length cap) row := ⟨ao, cap, rfl, hc0⟩
  have l1 : ¬ (row.length : Int) < 1 := by omega
  have l2 : ¬ (row.length : Int) > 370 := by omega
  have l3 : (row.length : Int) ≤ 370 := by omega
  clear hc0
  obtain ⟨w7, hw7, B7, O7, S7⟩ := boxes_made w (.slice ao row.length cap) xmin
  have hMlt := hP.lt
  have hHlt := hH.lt
  have EA : Hid (Calls Tryz.prog 28 #[.pointer (some ⟨hb, 0, none⟩), .func (.func 29) #[] #[.pointer (some ⟨w.heap.size + 4, 0, none⟩), .pointer (some ⟨w.heap.size + 6, 0, none⟩), .pointer (some ⟨w.heap.size, 0, none⟩), .pointer (some ⟨w.heap.size + 1, 0, none⟩), .pointer (some ⟨w.heap.size + 2, 0, none⟩), .pointer (some ⟨w.heap.size + 3, 0, none⟩), .pointer (some ⟨w.heap.size + 5, 0, none⟩)]] w7
      fun e w' => e = .returned (.int .i64 0) ∧ ∃ M', Each w7 p M (boxX w.heap.size) u pg (k + 2 * ids.length) M' w' ∧ (InsJ w.heap.size (.slice ao row.length cap) row xmin pg ids M ids.length M' w' ∨ ∃ i, i < ids.length ∧ InsQ w.heap.size (.slice ao row.length cap) row xmin pg ids M i M' w')) := by
    refine each_any (hP.past O7) (by omega) (hH.past O7) hM (by simp [boxX]; omega) hI 29 (enters_of Tryz.func29 (by kernel_rfl) rfl) _ (InsJ w.heap.size (.slice ao row.length cap) row xmin pg ids M) (InsQ w.heap.size (.slice ao row.length cap) row xmin pg ids M) ?_ ?_ ?_
    · exact ⟨bytes_past hv O7, fun x hx => .inl hx, fun j hj => by omega, _, _, B7, fun h => by omega⟩
    · rintro i M1 w1 M2 w2 ⟨j1, j2, j3, vl, ve, j4, j5⟩ hm hS
      rw [S7] at hm
      have hX : ∀ x ∈ M1, x < w.heap.size ∨ w.heap.size + 7 ≤ x := fun x hx => by
        rcases hm x hx with h1 | h1
        · exact .inl (hMlt x h1)
        · exact .inr h1
      refine ⟨bytes_later j1 hS.1 (fun a n c he hmem => ?_), fun x hx => ?_, j3, vl, ve, j4.later hS.1 hX, fun h0 => ?_⟩
      · rcases hm _ hmem with h1 | h1
        · exact (hvM a n c he).1 h1
        · have := (hvM a n c he).2; omega
      · rcases hS.2 x hx with h1 | h1
        · exact j2 x h1
        · have := j4.end_.lt; exact .inr (by omega)
      · obtain ⟨a1, gb, c, a2, a3, a4, a5⟩ := j5 h0
        exact ⟨a1, gb, c, a2, a3.later hS.1 a4, P.Step.keep hS a3.lt a4, a5⟩
    · rintro i M1 w1 gb c hi ⟨j1, j2, j3, vl, ve, j4, j5⟩ hE hb1 hg1 hn1
      rw [S7] at hg1
      have hrow : RowLow w1 w.heap.size (.slice ao row.length cap) row := ⟨j1, fun a n c he => (hvM a n c he).2⟩
      have hNS : NoSec w1 (boxX w.heap.size) := by
        intro x hx cs hcs
        simp only [boxX, List.mem_cons, List.not_mem_nil, or_false] at hx
        rcases hx with rfl | rfl | rfl | rfl | rfl
        · exact absurd rfl (hcs.ne j4.at_ (by decide))
        · exact absurd rfl (hcs.ne j4.slot (by decide))
        · exact absurd rfl (hcs.ne j4.last (by decide))
        · exact absurd rfl (hcs.ne j4.with_ (by decide))
        · exact absurd rfl (hcs.ne j4.end_ (by decide))
      refine (visit_any (id := ids.getD i 0) j4 hb1 hg1 hrow hx).mono ?_
      rintro e w2 ⟨hO, hr⟩
      refine ⟨hE.own hO hNS (fun x hx => ?_), ?_⟩
      · simp only [boxX, List.mem_cons, List.not_mem_nil, or_false] at hx
        refine ⟨fun hxM => ?_, by omega⟩
        have := hMlt x hxM; omega
      · rcases hr with ⟨hq, rfl, hB⟩ | ⟨q, g2, c2, hq, rfl, hB, hb2, hg2⟩
        · refine .inl ⟨rfl, (hrow.later hO (fun x hx => by simp [boxX] at hx; omega)).1, j2, fun j hj => ?_, _, _, hB, fun _ => ⟨rfl, gb, c, rfl, hb1.later hO (by simp [boxX]; omega), hn1, hg1⟩⟩
          by_cases e : j = i
          · rw [e]; exact hq
          · exact j3 j (by omega)
        · refine .inr ⟨rfl, j2, j3, q, g2, c2, _, hq, hB, hb2, fun hmem => ?_⟩
          have h1 := hE.pool.lt _ hmem
          omega
  have HP := Lib.hid hP
  have HH := Lib.hid hH
  have HI := Lib.hid hI
  have HW7 := Lib.hid hw7
  have O7' := Lib.hid O7
  have S7' := Lib.hid S7
  have HV := Lib.hid hv
  have HVM := Lib.hid hvM
  have HM := Lib.hid hM
  have HMLT := Lib.hid hMlt
  have HHLT := Lib.hid hHlt
  clear hP hH hI hw7 B7 O7 S7 hv hvM hMlt hHlt hM
  go_enter Tryz.func7, Tryz.ntmps7
  go_wp2_with fail
  rw [← HW7.out]
  simp only [Nat.add_assoc, Nat.reduceAdd]
  refine EA.out.mono ?_
  rintro e w8 ⟨rfl, M8, hE8, hJQ⟩
  have hS8 : Step M M8 w w8 := by
    refine ⟨(O7'.out.mono (M' := M) (by simp)).trans hE8.only (fun x hx => ?_), fun x hx => ?_⟩
    · rcases List.mem_append.1 hx with h | h
      · simp only [boxX, List.mem_cons, List.not_mem_nil, or_false] at h
        right; omega
      · exact .inl h
    · rcases hE8.mine x hx with h | h
      · exact .inl h
      · rw [S7'.out] at h; right; omega
  have hH8 : HpAt w8 hb p root := hS8.1.blk HH.out HM.out
  have h8 := hH8.cell 0
  simp only [List.getElem?_cons_zero] at h8
  have hbM8 : hb ∉ M8 := P.Step.keep hS8 HHLT.out HM.out
  have S8 := Lib.hid hS8
  have E8 := Lib.hid hE8
  clear hE8 hS8 O7' HW7 EA
  rcases hJQ with ⟨j1, j2, j3, vl, ve, j4, j5⟩ | ⟨i, hi, q1, q2, q, g2, c2, ve, q3, q4, q5, q6⟩
  case inr =>
    have hu8 : u.getD (ids.getD i 0) false = true := HI.out.used _ (getD_mem hi)
    have hidl : ids.getD i 0 < 65536 := by have := used_lt hu8; have := HP.out.size; omega
    have hsl : freeS (pg (ids.getD i 0)) < 125 := by
      have hl := lays_page (HI.out.page i hi) hx h1 h2 q3
      exact hl.lt
    have PT : Hid (∀ w1, Only [] w8 w1 → Calls Tryz.prog 32 #[.pointer (some ⟨p, 0, none⟩), .int .i64 (ids.getD i 0 : Nat), .slice (some ⟨g2, 0, none⟩) 512 c2, .int .u64 0] w1 fun e w' => ∃ M', e = .returned (.int .i64 0) ∧ PoolV w' p M' u (upd pg (ids.getD i 0) q) (k + 2 * ids.length + 2) ∧ Step M8 M' w1 w') := fun w1 hO => (E8.out.pool.past hO).put (by omega) hu8 (q5.past hO).at (fun a n c he => by simp only [Value.slice.injEq, Option.some.injEq] at he; obtain ⟨rfl, _, _⟩ := he; exact q6) q5.1
    have INS : Hid (Inserted u pg root ids row xmin u (upd pg (ids.getD i 0) q) ids (ids.getD i 0) (freeS (pg (ids.getD i 0)))) := .here i hi q q3 q2
    obtain ⟨⟨d0, d1, d2, d3, d4, d5, d6⟩, _⟩ := q4.facts
    have nj : ∀ j, j < 7 → w.heap.size + j ∉ M8 := fun j hj hm => by
      rcases q1 _ hm with h | h
      · have := HMLT.out _ h
        omega
      · omega
    have n2 := nj 2 (by omega)
    have n3 := nj 3 (by omega)
    have n5 := nj 5 (by omega)
    have RD := Lib.hid (fun w1 => rid_any w1 (ids.getD i 0) (freeS (pg (ids.getD i 0))) hidl (by omega))
    clear q1 q2 q3 q4 q5 q6 hu8 d0 d1 d4 d6 nj
    generalize freeS (pg (ids.getD i 0)) = slot at *
    generalize ids.getD i 0 = id at *
    generalize upd pg id q = pg2 at *
    have hid0 : (0 : Int) ≤ id := by omega
    have N2 := Lib.hid n2
    have N3 := Lib.hid n3
    have N5 := Lib.hid n5
    have NB := Lib.hid hbM8
    clear n2 n3 n5 hbM8 hidl hsl
    go_wp2_with fail
    go_region_held3 (fun w' => w'.cell? ⟨hb, 0, none⟩ = some (.pointer (some ⟨p, 0, none⟩)) ∧ w'.cell? ⟨w.heap.size + 2, 0, none⟩ = some (.int .i64 id) ∧ w'.cell? ⟨w.heap.size + 3, 0, none⟩ = some (.int .i64 slot) ∧ w'.cell? ⟨w.heap.size + 5, 0, none⟩ = some (.slice (some ⟨g2, 0, none⟩) 512 c2)) (first | exact hKEEP | go_keep)
      (first
        | (go_at_call 31; refine (RD.out _).mono ?_; rintro e w9 ⟨rfl, rfl⟩)
        | (go_at_call 32; refine (PT.out _ ((Only.refl _ _).drew)).mono ?_; rintro e w9 ⟨M9, rfl, hP9, hS9⟩; have hKEEP := And.intro (hS9.1.cell (p := ⟨hb, 0, none⟩) h8 NB.out) (And.intro (hS9.1.cell (p := ⟨w.heap.size + 2, 0, none⟩) d2 N2.out) (And.intro (hS9.1.cell (p := ⟨w.heap.size + 3, 0, none⟩) d3 N3.out) (hS9.1.cell (p := ⟨w.heap.size + 5, 0, none⟩) d5 N5.out)))))
    go_wp2_with fail
    go_ret2
    exact ⟨_, _, _, id, slot, M9, rfl, INS.out, hP9.more (by omega), S8.out.trans (Step.ahead ((Only.refl _ _).drew) hS9)⟩
  case inl =>
    obtain ⟨rfl, gb, c, rfl, jb, jn, jg⟩ := j5 HI.out.some_
    have hX8 : ∀ x ∈ M8, x < w.heap.size ∨ w.heap.size + 7 ≤ x := fun x hx => by
      rcases j2 x hx with h | h
      · exact .inl (HMLT.out x h)
      · exact .inr h
    have hrow9 : ∀ w1, Only M8 w8 w1 → BytesAt w1 (.slice ao row.length cap) row := fun w1 hO => bytes_later j1 hO (fun a n c he hm => by
      rcases j2 _ hm with h | h
      · exact (HVM.out a n c he).1 h
      · have := (HVM.out a n c he).2; omega)
    have AL := Lib.hid (E8.out.pool.alloc (by omega) hfull)
    have hr : root < 65536 := by have := HI.out.id_lt HP.out.size (i := 0); rw [HI.out.head] at this; exact this
    obtain ⟨q, hq⟩ := fresh_lays root xmin h1 h2
    have hfree : freeS (freshP root) = 1 := by
      have h1 := (fresh_page root).2.1.odd.1
      have h2 := freeS_le (freshP root)
      rw [(fresh_page root).2.2.1] at h2
      omega
    have FR : Hid (∀ w1, HpAt w1 hb p root → Calls Tryz.prog 34 #[.pointer (some ⟨hb, 0, none⟩)] w1 fun e w' => ∃ g c, e = .returned (.slice (some ⟨g, 0, none⟩) 512 c) ∧ Buf w' g c (freshP root) ∧ w1.heap.size ≤ g ∧ Only [] w1 w') := fun w1 h => fresh_any h hr
    have FL : Hid (∀ w1 v, BytesC w1 v (freshP root) → BytesAt w1 (.slice ao row.length cap) row → Calls Tryz.prog 30 #[v, .slice ao row.length cap, .int .u64 xmin] w1 fun e w' => ∃ g c, e = .returned (.tuple #[.slice (some ⟨g, 0, none⟩) 512 c, .int .i64 1, .bool true]) ∧ Buf w' g c q ∧ w1.heap.size ≤ g ∧ Only [] w1 w') := fun w1 v hv hr => by
      refine (lays_any hv hr hx).mono ?_
      rintro e w' (⟨q', g, c, hq', rfl, r⟩ | ⟨hq', _⟩)
      · rw [hq] at hq'
        obtain rfl := Option.some.inj hq'
        rw [hfree]
        exact ⟨g, c, rfl, r⟩
      · rw [hq] at hq'; cases hq'
    obtain ⟨⟨d0, d1, d2, d3, d4, d5, d6⟩, f2, f3, f4, f5, f6⟩ := j4.facts
    have J4 := Lib.hid j4
    have JB := Lib.hid jb
    have JN := Lib.hid jn
    have JG := Lib.hid jg
    have J3 := Lib.hid j3
    have HR9 := Lib.hid hrow9
    have HX8 := Lib.hid hX8
    have HQ := Lib.hid hq
    have HFREE := Lib.hid hfree
    have HROOT := Lib.hid hr
    have NB := Lib.hid hbM8
    have HFF := Lib.hid hfull
    have HH8 := Lib.hid hH8
    clear j1 j2 j3 j4 j5 jb jn jg hX8 hrow9 hq hfree hr hbM8 hfull hH8
    generalize hlast : ids.getD (ids.length - 1) 0 = last at *
    have HLAST := Lib.hid hlast
    generalize hff : firstFree u = ff at *
    have HFFE := Lib.hid hff
    clear hlast hff
    go_wp2_with (go_at_call 33; refine AL.out.mono ?_; rintro e w9 ⟨M9, rfl, hP9, hS9⟩; have P9 := Lib.hid hP9; have S9 := Lib.hid hS9; clear hP9 hS9)
    have J9 := Lib.hid (J4.out.later S9.out.1 HX8.out)
    have H9 := Lib.hid (show HpAt w9 hb p root from S9.out.1.blk HH8.out NB.out)
    have R9 := Lib.hid (HR9.out w9 S9.out.1)
    have B9 := Lib.hid (JB.out.later S9.out.1 JN.out)
    have HX9 : Hid (∀ x ∈ M9, x < w.heap.size ∨ w.heap.size + 7 ≤ x) := fun x hx => by
      rcases S9.out.2 x hx with h | h
      · exact HX8.out x h
      · have := J4.out.end_.lt; exact .inr (by omega)
    have NG9 := Lib.hid (P.Step.keep S9.out JB.out.lt JN.out)
    have NB9 := Lib.hid (P.Step.keep S9.out HH8.out.lt NB.out)
    clear d0 d1 d2 d3 d4 d5 d6 f2 f3 f4 f5 f6 h8 AL HR9 HX8 J4 JB JN HH8
    obtain ⟨⟨d0, d1, d2, d3, d4, d5, d6⟩, f2, f3, f4, f5, f6⟩ := J9.out.facts
    have k1 : w.heap.size + 5 ≠ w.heap.size := by omega
    have k2 : w.heap.size + 5 ≠ w.heap.size + 1 := by omega
    have k3 : w.heap.size + 3 ≠ w.heap.size := by omega
    have k4 : w.heap.size + 3 ≠ w.heap.size + 1 := by omega
    refine wp_region_held_drew (S := fun w' => w'.cell? ⟨w.heap.size, 0, none⟩ = some (.slice ao row.length cap) ∧ w'.cell? ⟨w.heap.size + 1, 0, none⟩ = some (.int .u64 xmin)) (by kernel_rfl) ⟨d0, d1⟩ (fun hHeld => ?_)
    refine take_at 0 58 (.pointer (some ⟨hb, 0, none⟩)) rfl rfl (by kernel_rfl) (by kernel_rfl) (by kernel_rfl) (fun _ _ _ h => h) (Or.inl ⟨by rfl, fun w1 hw1 => by go_simp⟩) hHeld ?_
    (try simp only [Act.put, List.setIfInBounds_toArray, List.set_cons_zero, List.set_cons_succ])
    refine take_at 2 60 (.slice ao row.length cap) rfl rfl (by kernel_rfl) (by kernel_rfl) (by kernel_rfl) (fun _ _ _ h => h) (Or.inl ⟨by rfl, fun w1 hw1 => by have hw2 := hw1.1; go_simp⟩) hHeld ?_
    (try simp only [Act.put, List.setIfInBounds_toArray, List.set_cons_zero, List.set_cons_succ])
    refine take_at 3 61 (.int .u64 xmin) rfl rfl (by kernel_rfl) (by kernel_rfl) (by kernel_rfl) (fun _ _ _ h => h) (Or.inl ⟨by rfl, fun w1 hw1 => by have hw2 := hw1.2; go_simp⟩) hHeld ?_
    (try simp only [Act.put, List.setIfInBounds_toArray, List.set_cons_zero, List.set_cons_succ])
    refine one_at 1 rfl (by kernel_rfl) (by rfl) (fun K hK => ?_)
    go_wp2_with (go_at_call 34; refine (FR.out _ (H9.out.past ((Only.refl _ _).drew))).mono ?_; rintro e w10 ⟨gf, cf, rfl, hb10, hg10, hO10⟩)
    refine hK.out _ _ ⟨hO10.cell (p := ⟨w.heap.size, 0, none⟩) d0 (by simp), hO10.cell (p := ⟨w.heap.size + 1, 0, none⟩) d1 (by simp)⟩ ?_
    have hHeld10 := And.intro (hO10.cell (p := ⟨w.heap.size, 0, none⟩) d0 (by simp)) (hO10.cell (p := ⟨w.heap.size + 1, 0, none⟩) d1 (by simp))
    clear hK K hHeld
    (try simp only [Act.put, List.setIfInBounds_toArray, List.set_cons_zero, List.set_cons_succ])
    refine one_at 4 rfl (by kernel_rfl) (by rfl) (fun K hK => ?_)
    go_wp2_with (go_at_call 30; refine (FL.out _ _ hb10.c (bytes_past R9.out (((Only.refl [] w9).drew).trans hO10 (by simp)))).mono ?_; rintro e w11 ⟨g3, c3, rfl, hb11, hg11, hO11⟩)
    have hHeld := And.intro (hO11.cell (p := ⟨w.heap.size, 0, none⟩) hHeld10.1 (by simp)) (hO11.cell (p := ⟨w.heap.size + 1, 0, none⟩) hHeld10.2 (by simp))
    refine hK.out _ _ hHeld ?_
    clear hK K hHeld10
    (try simp only [Act.put, List.setIfInBounds_toArray, List.set_cons_zero, List.set_cons_succ])
    refine take_at 5 57 (.tuple #[.slice (some ⟨g3, 0, none⟩) 512 c3, .int .i64 1, .bool true]) rfl rfl (by kernel_rfl) (by kernel_rfl) (by kernel_rfl) (fun _ _ _ h => h) (Or.inl ⟨by rfl, fun w1 hw1 => by go_simp⟩) hHeld ?_
    (try simp only [Act.put, List.setIfInBounds_toArray, List.set_cons_zero, List.set_cons_succ])
    refine take_at 6 63 (.slice (some ⟨g3, 0, none⟩) 512 c3) rfl rfl (by kernel_rfl) (by kernel_rfl) (by kernel_rfl) (fun _ _ _ h => h) (Or.inl ⟨by rfl, fun w1 hw1 => by go_simp⟩) hHeld ?_
    (try simp only [Act.put, List.setIfInBounds_toArray, List.set_cons_zero, List.set_cons_succ])
    refine take_at 7 64 (.int .i64 1) rfl rfl (by kernel_rfl) (by kernel_rfl) (by kernel_rfl) (fun _ _ _ h => h) (Or.inl ⟨by rfl, fun w1 hw1 => by go_simp⟩) hHeld ?_
    (try simp only [Act.put, List.setIfInBounds_toArray, List.set_cons_zero, List.set_cons_succ])
    refine take_at 8 65 (.bool true) rfl rfl (by kernel_rfl) (by kernel_rfl) (by kernel_rfl) (fun _ _ _ h => h) (Or.inl ⟨by rfl, fun w1 hw1 => by go_simp⟩) hHeld ?_
    (try simp only [Act.put, List.setIfInBounds_toArray, List.set_cons_zero, List.set_cons_succ])
    have O11 : Hid (Only [] w9 w11) := (((Only.refl [] w9).drew).trans hO10 (by simp)).trans hO11 (by simp)
    have J11 := Lib.hid (J9.out.past O11.out)
    have H11 := Lib.hid (H9.out.past O11.out)
    have B11 := Lib.hid (B9.out.past O11.out)
    have P11 := Lib.hid (P9.out.past O11.out)
    have NW : Hid (Buf w11 g3 c3 q ∧ w9.heap.size ≤ g3) := ⟨hb11, by have := hO10.size; have e : w9.drew.heap.size = w9.heap.size := rfl; omega⟩
    have J12 := Lib.hid (J11.out.setWith (.slice (some ⟨g3, 0, none⟩) 512 c3))
    have J13 := Lib.hid (J12.out.setSlot (.int .i64 1))
    clear d0 d1 d2 d3 d4 d5 d6 f2 f3 f4 f5 f6 hO10 hO11 hb10 hb11 hg10 hg11
    obtain ⟨⟨_, _, _, _, _, d5, _⟩, _, _, _, f5, _⟩ := J11.out.facts
    obtain ⟨⟨e0, e1, _, d3, _, _, _⟩, _, f3, _, _, _⟩ := J12.out.facts
    obtain ⟨⟨i0, i1, _, _, _, _, _⟩, _⟩ := J13.out.facts
    refine one_at 9 rfl (by kernel_rfl) (by rfl) (fun K hK => ?_)
    go_wp2_with fail
    refine hK.out _ _ ⟨e0, e1⟩ ?_
    clear hK K
    (try simp only [Act.put, List.setIfInBounds_toArray, List.set_cons_zero, List.set_cons_succ])
    refine one_at 10 rfl (by kernel_rfl) (by rfl) (fun K hK => ?_)
    go_wp2_with fail
    refine hK.out _ _ ⟨i0, i1⟩ ?_
    clear hK K hHeld
    (try simp only [Act.put, List.setIfInBounds_toArray, List.set_cons_zero, List.set_cons_succ])
    refine wpAnyH_done (by kernel_rfl) ?_ _
    obtain ⟨w13, hw13⟩ : ∃ w13, (w11.setCell ⟨w.heap.size + 5, 0, none⟩ (.slice (some ⟨g3, 0, none⟩) 512 c3)).setCell ⟨w.heap.size + 3, 0, none⟩ (.int .i64 1) = w13 := ⟨_, rfl⟩
    have hO13 : Only (boxX w.heap.size) w11 w13 := hw13 ▸ ((only_one _ (by simp [boxX])).trans (only_one _ (X := boxX w.heap.size) (by simp [boxX])) (fun x hx => .inl hx))
    rw [hw13]
    rw [hw13] at J13
    have hbx : ∀ x, x ∈ boxX w.heap.size → w.heap.size ≤ x ∧ x < w.heap.size + 7 := fun x hx => by
      simp only [boxX, List.mem_cons, List.not_mem_nil, or_false] at hx
      omega
    have hsz9 : w.heap.size + 7 ≤ w9.heap.size := by have := J9.out.end_.lt; omega
    have H13 := Lib.hid (show HpAt w13 hb p root from hO13.blk H11.out (fun hm => by have := hbx _ hm; have := HHLT.out; omega))
    have B13 := Lib.hid (B11.out.later hO13 (fun hm => by have := hbx _ hm; have := JG.out; omega))
    have NW13 := Lib.hid (NW.out.1.later hO13 (fun hm => by have := hbx _ hm; have := NW.out.2; omega))
    have hNS : NoSec w11 (boxX w.heap.size) := by
      intro x hx cs hcs
      simp only [boxX, List.mem_cons, List.not_mem_nil, or_false] at hx
      rcases hx with rfl | rfl | rfl | rfl | rfl
      · exact absurd rfl (hcs.ne J11.out.at_ (by decide))
      · exact absurd rfl (hcs.ne J11.out.slot (by decide))
      · exact absurd rfl (hcs.ne J11.out.last (by decide))
      · exact absurd rfl (hcs.ne J11.out.with_ (by decide))
      · exact absurd rfl (hcs.ne J11.out.end_ (by decide))
    have P13 := Lib.hid (P11.out.later hO13 hNS (fun x hx hm => by
      have := hbx _ hm
      rcases HX9.out x hx with h | h <;> omega))
    have NG3 : Hid (g3 ∉ M9) := fun hm => by have := P9.out.lt _ hm; have := NW.out.2; omega
    have hu1 : (u.set ff true).getD ff false = true := getD_set_self u ff true false HFF.out
    have PT : Hid (∀ w1, Only [] w13 w1 → Calls Tryz.prog 32 #[.pointer (some ⟨p, 0, none⟩), .int .i64 ff, .slice (some ⟨g3, 0, none⟩) 512 c3, .int .u64 0] w1 fun e w' => ∃ M', e = .returned (.int .i64 0) ∧ PoolV w' p M' (u.set ff true) (upd (upd pg ff zeros) ff q) (k + 2 * ids.length + 2 + 2) ∧ Step M9 M' w1 w') := fun w1 hO => (P13.out.past hO).put (by omega) hu1 (NW13.out.past hO).at (fun a n c he => by simp only [Value.slice.injEq, Option.some.injEq] at he; obtain ⟨rfl, _, _⟩ := he; exact NG3.out) NW13.out.1
    have O13 : Hid (Only (boxX w.heap.size) w9 w13) := (O11.out.mono (M' := boxX w.heap.size) (by simp)).trans hO13 (fun x hx => .inl hx)
    have HBX := Lib.hid hbx
    have HSZ := Lib.hid hsz9
    have h13 := H13.out.cell 0
    simp only [List.getElem?_cons_zero] at h13
    clear d5 f5 e0 e1 d3 f3 i0 i1 hw13 hO13 hbx hsz9 hNS hu1 NW J12 J11 H11 B11 P11 O11
    obtain ⟨⟨d0, d1, d2, d3, d4, d5, d6⟩, f2, f3, f4, f5, f6⟩ := J13.out.facts
    have n5 : Hid (w.heap.size + 5 ∉ M9) := fun hm => by rcases HX9.out _ hm with h | h <;> omega
    go_wp2_with fail
    go_region_held3 (fun w' => w'.cell? ⟨hb, 0, none⟩ = some (.pointer (some ⟨p, 0, none⟩)) ∧ w'.cell? ⟨w.heap.size + 5, 0, none⟩ = some (.slice (some ⟨g3, 0, none⟩) 512 c3)) (first | with_reducible exact hKEEP | go_keep)
      (first
        | (go_at_call 32; refine (PT.out _ ((Only.refl _ _).drew)).mono ?_; rintro e w14 ⟨M14, rfl, hP14, hS14⟩; have hKEEP := And.intro (hS14.1.cell (p := ⟨hb, 0, none⟩) h13 NB9.out) (hS14.1.cell (p := ⟨w.heap.size + 5, 0, none⟩) d5 n5.out)))
    have hS14' : Step M9 M14 w13 w14 := Step.ahead ((Only.refl _ _).drew) hS14
    have J14 := Lib.hid (J13.out.later hS14'.1 HX9.out)
    have H14 := Lib.hid (show HpAt w14 hb p root from hS14'.1.blk H13.out NB9.out)
    have B14 := Lib.hid (B13.out.later hS14'.1 NG9.out)
    have P14 := Lib.hid hP14
    have S14 := Lib.hid hS14'
    have HX14 : Hid (∀ x ∈ M14, x < w.heap.size ∨ w.heap.size + 7 ≤ x) := fun x hx => by
      rcases hS14'.2 x hx with h | h
      · exact HX9.out x h
      · have := J13.out.end_.lt; exact .inr (by omega)
    have NB14 := Lib.hid (P.Step.keep hS14' H13.out.lt NB9.out)
    have hLP := HI.out.page (ids.length - 1) (by have := HI.out.some_; omega)
    rw [HLAST.out] at hLP
    have hffl : ff < 65536 := by have := HFF.out; have := HP.out.size; omega
    clear hP14 hS14 hS14' hKEEP PT d0 d1 d2 d3 d4 d5 d6 f2 f3 f4 f5 f6 h13 J13 H13 B13 n5
    obtain ⟨⟨d0, d1, d2, d3, d4, d5, d6⟩, f2, f3, f4, f5, f6⟩ := J14.out.facts
    have HD : Hid (∀ w1, HpAt w1 hb p root → Calls Tryz.prog 36 #[.pointer (some ⟨hb, 0, none⟩), .int .i64 ff] w1 fun e w' => ∃ v', e = .returned v' ∧ B.Own w1 w' v' (headC root ff)) := fun w1 h => head_any h HROOT.out ff hffl
    have RP : Hid (∀ w1 v vb, BytesC w1 v (pg last) → BytesAt w1 vb (headC root ff) → Calls Tryz.prog 35 #[v, .int .i64 0, vb] w1 fun e w' => ∃ gb c r, e = .returned (.tuple #[.slice (some ⟨gb, 0, none⟩) 512 c, .int .i64 0]) ∧ Rep (pg last) 0 (headC root ff) r ∧ Buf w' gb c r ∧ w1.heap.size ≤ gb ∧ Only [] w1 w') := fun w1 v vb h1 h2 => by
      obtain ⟨k1, k2⟩ := ct_isSome hLP.head
      have hlen : sL (pg last) 0 = 8 := by rw [(ct_long hLP.pg.body.core hLP.head).2.2.1, head_len]
      exact replace_yes h1 h2 hLP.pg k1 k2 (by rw [head_len]; omega) (by rw [head_len]; omega) (by rw [head_len, hlen]; omega)
    clear hLP
    go_wp2_with fail
    go_cut [15] (fun s15 wx => ∃ (g5 c5 : Nat) (h5 : List UInt8), s15 = .int .i64 0 ∧ Rep (pg last) 0 (headC root ff) h5 ∧ ∃ w16, Only [] w14 w16 ∧ Buf w16 g5 c5 h5 ∧ w14.heap.size ≤ g5 ∧ wx = w16.setCell ⟨w.heap.size + 6, 0, none⟩ (.slice (some ⟨g5, 0, none⟩) 512 c5))
    case first =>
      refine wp_region_held_drew (S := fun _ => True) (by kernel_rfl) trivial (fun hHeld => ?_)
      refine take_at 1 78 (.pointer (some ⟨hb, 0, none⟩)) rfl rfl (by kernel_rfl) (by kernel_rfl) (by kernel_rfl) (fun _ _ _ h => h) (Or.inl ⟨by rfl, fun w1 hw1 => by go_simp⟩) trivial ?_
      (try simp only [Act.put, List.setIfInBounds_toArray, List.set_cons_zero, List.set_cons_succ])
      refine take_at 2 79 (.int .i64 ff) rfl rfl (by kernel_rfl) (by kernel_rfl) (by kernel_rfl) (fun _ _ _ h => h) (Or.inl ⟨by rfl, fun w1 hw1 => by go_simp⟩) trivial ?_
      (try simp only [Act.put, List.setIfInBounds_toArray, List.set_cons_zero, List.set_cons_succ])
      refine two_at 0 3 rfl rfl (by kernel_rfl) (by rfl) (by rfl) (fun K hK => ?_) (fun K hK => ?_)
      · go_wp2_with fail
        refine hK.out _ _ trivial ?_
        clear hK K
        (try simp only [Act.put, List.setIfInBounds_toArray, List.set_cons_zero, List.set_cons_succ])
        refine one_at 3 rfl (by kernel_rfl) (by rfl) (fun K hK => ?_)
        go_wp2_with (go_at_call 36; refine (HD.out _ (H14.out.past ((Only.refl _ _).drew))).mono ?_; rintro e w15 ⟨vh, rfl, hrH, hkH, hOH⟩)
        have hOA : Only [] w14 w15 := ((Only.refl [] w14).drew).trans hOH (by simp)
        refine hK.out _ _ trivial ?_
        clear hK K
        (try simp only [Act.put, List.setIfInBounds_toArray, List.set_cons_zero, List.set_cons_succ])
        refine one_at 4 rfl (by kernel_rfl) (by rfl) (fun K hK => ?_)
        go_wp2_with (go_at_call 35; refine (RP.out _ _ _ (B14.out.past hOA).c (hrH.at)).mono ?_; rintro e w16 ⟨g5, c5, hP5, rfl, hr5, hb5, hg5, hO5⟩)
        refine hK.out _ _ trivial ?_
        clear hK K
        (try simp only [Act.put, List.setIfInBounds_toArray, List.set_cons_zero, List.set_cons_succ])
        refine take_at 5 76 (.tuple #[.slice (some ⟨g5, 0, none⟩) 512 c5, .int .i64 0]) rfl rfl (by kernel_rfl) (by kernel_rfl) (by kernel_rfl) (fun _ _ _ h => h) (Or.inl ⟨by rfl, fun w1 hw1 => by go_simp⟩) trivial ?_
        (try simp only [Act.put, List.setIfInBounds_toArray, List.set_cons_zero, List.set_cons_succ])
        refine take_at 6 82 (.slice (some ⟨g5, 0, none⟩) 512 c5) rfl rfl (by kernel_rfl) (by kernel_rfl) (by kernel_rfl) (fun _ _ _ h => h) (Or.inl ⟨by rfl, fun w1 hw1 => by go_simp⟩) trivial ?_
        (try simp only [Act.put, List.setIfInBounds_toArray, List.set_cons_zero, List.set_cons_succ])
        refine take_at 7 83 (.int .i64 0) rfl rfl (by kernel_rfl) (by kernel_rfl) (by kernel_rfl) (fun _ _ _ h => h) (Or.inl ⟨by rfl, fun w1 hw1 => by go_simp⟩) trivial ?_
        (try simp only [Act.put, List.setIfInBounds_toArray, List.set_cons_zero, List.set_cons_succ])
        have O16 : Hid (Only [] w14 w16) := hOA.trans hO5 (by simp)
        have J16 := Lib.hid (J14.out.past O16.out)
        obtain ⟨⟨_, _, _, _, _, _, y6⟩, _, _, _, _, z6⟩ := J16.out.facts
        refine one_at 8 rfl (by kernel_rfl) (by rfl) (fun K hK => ?_)
        go_wp2_with fail
        refine hK.out _ _ trivial ?_
        clear hK K
        (try simp only [Act.put, List.setIfInBounds_toArray, List.set_cons_zero, List.set_cons_succ])
        refine wpAnyH_done (by kernel_rfl) ?_ _
        go_wp2_with fail
        go_meet
        case rel => exact ⟨g5, c5, hP5, rfl, hr5, w16, O16.out, hb5, by have := hO5.size; have := hOA.size; omega, rfl⟩
      · go_wp2_with (go_at_call 36; refine (HD.out _ (H14.out.past ((Only.refl _ _).drew))).mono ?_; rintro e w15 ⟨vh, rfl, hrH, hkH, hOH⟩)
        have hOA : Only [] w14 w15 := ((Only.refl [] w14).drew).trans hOH (by simp)
        refine hK.out _ _ trivial ?_
        clear hK K
        (try simp only [Act.put, List.setIfInBounds_toArray, List.set_cons_zero, List.set_cons_succ])
        have d6b := hOA.cell (p := ⟨w.heap.size + 6, 0, none⟩) d6 (by simp)
        refine one_at 0 rfl (by kernel_rfl) (by rfl) (fun K hK => ?_)
        go_wp2_with fail
        refine hK.out _ _ trivial ?_
        clear hK K
        (try simp only [Act.put, List.setIfInBounds_toArray, List.set_cons_zero, List.set_cons_succ])
        refine one_at 4 rfl (by kernel_rfl) (by rfl) (fun K hK => ?_)
        go_wp2_with (go_at_call 35; refine (RP.out _ _ _ (B14.out.past hOA).c (hrH.at)).mono ?_; rintro e w16 ⟨g5, c5, hP5, rfl, hr5, hb5, hg5, hO5⟩)
        refine hK.out _ _ trivial ?_
        clear hK K
        (try simp only [Act.put, List.setIfInBounds_toArray, List.set_cons_zero, List.set_cons_succ])
        refine take_at 5 76 (.tuple #[.slice (some ⟨g5, 0, none⟩) 512 c5, .int .i64 0]) rfl rfl (by kernel_rfl) (by kernel_rfl) (by kernel_rfl) (fun _ _ _ h => h) (Or.inl ⟨by rfl, fun w1 hw1 => by go_simp⟩) trivial ?_
        (try simp only [Act.put, List.setIfInBounds_toArray, List.set_cons_zero, List.set_cons_succ])
        refine take_at 6 82 (.slice (some ⟨g5, 0, none⟩) 512 c5) rfl rfl (by kernel_rfl) (by kernel_rfl) (by kernel_rfl) (fun _ _ _ h => h) (Or.inl ⟨by rfl, fun w1 hw1 => by go_simp⟩) trivial ?_
        (try simp only [Act.put, List.setIfInBounds_toArray, List.set_cons_zero, List.set_cons_succ])
        refine take_at 7 83 (.int .i64 0) rfl rfl (by kernel_rfl) (by kernel_rfl) (by kernel_rfl) (fun _ _ _ h => h) (Or.inl ⟨by rfl, fun w1 hw1 => by go_simp⟩) trivial ?_
        (try simp only [Act.put, List.setIfInBounds_toArray, List.set_cons_zero, List.set_cons_succ])
        have O16 : Hid (Only [] w14 w16) := hOA.trans hO5 (by simp)
        have J16 := Lib.hid (J14.out.past O16.out)
        obtain ⟨⟨_, _, _, _, _, _, y6⟩, _, _, _, _, z6⟩ := J16.out.facts
        refine one_at 8 rfl (by kernel_rfl) (by rfl) (fun K hK => ?_)
        go_wp2_with fail
        refine hK.out _ _ trivial ?_
        clear hK K
        (try simp only [Act.put, List.setIfInBounds_toArray, List.set_cons_zero, List.set_cons_succ])
        refine wpAnyH_done (by kernel_rfl) ?_ _
        go_wp2_with fail
        go_meet
        case rel => exact ⟨g5, c5, hP5, rfl, hr5, w16, O16.out, hb5, by have := hO5.size; have := hOA.size; omega, rfl⟩
    case rest =>
      obtain ⟨g5, c5, h5, rfl, hr5, w16, hO16, hb5, hg5, rfl⟩ := hcut
      have hOw : Only (boxX w.heap.size) w16 (w16.setCell ⟨w.heap.size + 6, 0, none⟩ (.slice (some ⟨g5, 0, none⟩) 512 c5)) := only_one _ (by simp [boxX])
      have J16 := J14.out.past hO16
      have J17 := J16.setEnd (.slice (some ⟨g5, 0, none⟩) 512 c5)
      have hbx := HBX.out
      have hN14 : w.heap.size + 7 ≤ w14.heap.size := by have := J14.out.end_.lt; omega
      have H17 : HpAt (w16.setCell ⟨w.heap.size + 6, 0, none⟩ (.slice (some ⟨g5, 0, none⟩) 512 c5)) hb p root := hOw.blk (H14.out.past hO16) (fun hm => by have := hbx _ hm; have := HHLT.out; omega)
      have B17 := hb5.later hOw (fun hm => by have := hbx _ hm; omega)
      have hNS : NoSec w16 (boxX w.heap.size) := by
        intro x hx cs hcs
        simp only [boxX, List.mem_cons, List.not_mem_nil, or_false] at hx
        rcases hx with rfl | rfl | rfl | rfl | rfl
        · exact absurd rfl (hcs.ne J16.at_ (by decide))
        · exact absurd rfl (hcs.ne J16.slot (by decide))
        · exact absurd rfl (hcs.ne J16.last (by decide))
        · exact absurd rfl (hcs.ne J16.with_ (by decide))
        · exact absurd rfl (hcs.ne J16.end_ (by decide))
      have P17 := (P14.out.past hO16).later hOw hNS (fun x hx hm => by
        have := hbx _ hm
        rcases HX14.out x hx with h | h <;> omega)
      have hlu : (u.set ff true).getD last false = true := by
        have hl := HI.out.used last (by rw [← HLAST.out]; exact getD_mem (by have := HI.out.some_; omega))
        by_cases e : last = ff
        · rw [e]; exact getD_set_self u ff true false HFF.out
        · rw [P.getD_set_ne _ _ _ _ _ (fun h => e h.symm)]; exact hl
      have hSw : Step M M14 w (w16.setCell ⟨w.heap.size + 6, 0, none⟩ (.slice (some ⟨g5, 0, none⟩) 512 c5)) := by
        have hS9 : Step M M9 w w9 := S8.out.trans S9.out
        have hS13 : Step M M9 w w13 := ⟨hS9.1.trans O13.out (fun x hx => .inr (hbx x hx).1), hS9.2⟩
        have hS14 : Step M M14 w w14 := hS13.trans S14.out
        exact ⟨(hS14.1.trans hO16 (by simp)).trans hOw (fun x hx => .inr (hbx x hx).1), hS14.2⟩
      have hffl : ff < 65536 := by have := HFF.out; have := HP.out.size; omega
      have hfin : ∀ w' M', PoolV w' p M' (u.set ff true) (upd (upd (upd pg ff zeros) ff q) last h5) (k + 2 * ids.length + 2 + 2 + 2) → PoolV w' p M' (u.set ff true) (upd (upd pg ff q) last h5) (k + 2 * ids.length + 8) := fun w' M' h => by
        refine (h.more (by omega)).congr (fun j hj => ?_)
        unfold upd
        split
        · rfl
        · split <;> rfl
      have INS : Inserted u pg root ids row xmin (u.set ff true) (upd (upd pg ff q) last h5) (ids ++ [ff]) ff 1 := by
        have := Inserted.more (u := u) (pg := pg) (root := root) (ids := ids) (row := row) (xmin := xmin) J3.out (by rw [HFFE.out]; exact HFF.out) q h5 HQ.out (by rw [HLAST.out, HFFE.out]; exact hr5)
        rw [HFFE.out, HLAST.out, HFREE.out] at this
        exact this
      have NG5 : g5 ∉ M14 := fun hm => by have := P14.out.lt _ hm; omega
      obtain ⟨w17, hw17⟩ : ∃ w17, w16.setCell ⟨w.heap.size + 6, 0, none⟩ (.slice (some ⟨g5, 0, none⟩) 512 c5) = w17 := ⟨_, rfl⟩
      rw [hw17] at J17 H17 B17 P17 hSw ⊢
      have PT : Hid (∀ w1, Only [] w17 w1 → Calls Tryz.prog 32 #[.pointer (some ⟨p, 0, none⟩), .int .i64 last, .slice (some ⟨g5, 0, none⟩) 512 c5, .int .u64 0] w1 fun e w' => ∃ M', e = .returned (.int .i64 0) ∧ PoolV w' p M' (u.set ff true) (upd (upd (upd pg ff zeros) ff q) last h5) (k + 2 * ids.length + 2 + 2 + 2) ∧ Step M14 M' w1 w') := fun w1 hO => (P17.past hO).put (by omega) hlu (B17.past hO).at (fun a n c he => by simp only [Value.slice.injEq, Option.some.injEq] at he; obtain ⟨rfl, _, _⟩ := he; exact NG5) B17.1
      have RD := Lib.hid (fun w1 => rid_any w1 ff 1 hffl (by omega))
      have FIN := Lib.hid hfin
      have INS' := Lib.hid INS
      have SW := Lib.hid hSw
      have h17 := H17.cell 0
      simp only [List.getElem?_cons_zero] at h17
      obtain ⟨⟨y0, y1, y2, y3, y4, y5, y6⟩, _⟩ := J17.facts
      have nj : ∀ j, j < 7 → w.heap.size + j ∉ M14 := fun j hj hm => by rcases HX14.out _ hm with h | h <;> omega
      have n3 := Lib.hid (nj 3 (by omega))
      have n4 := Lib.hid (nj 4 (by omega))
      have n6 := Lib.hid (nj 6 (by omega))
      clear hOw J16 J17 hbx hN14 H17 B17 hNS P17 hlu hSw hffl hfin INS NG5 hw17 hr5 hO16 hb5 hg5 nj y0 y1 y2 y5 d0 d1 d2 d3 d4 d5 d6 f2 f3 f4 f5 f6
      go_wp2_with fail
      go_region_held3 (fun w' => w'.cell? ⟨hb, 0, none⟩ = some (.pointer (some ⟨p, 0, none⟩)) ∧ w'.cell? ⟨w.heap.size + 3, 0, none⟩ = some (.int .i64 1) ∧ w'.cell? ⟨w.heap.size + 4, 0, none⟩ = some (.int .i64 last) ∧ w'.cell? ⟨w.heap.size + 6, 0, none⟩ = some (.slice (some ⟨g5, 0, none⟩) 512 c5)) (first | with_reducible exact hKEEP | go_keep)
        (first
          | (go_at_call 31; refine (RD.out _).mono ?_; rintro e w9 ⟨rfl, rfl⟩)
          | (go_at_call 32; refine (PT.out _ ((Only.refl _ _).drew)).mono ?_; rintro e w18 ⟨M18, rfl, hP18, hS18⟩; have hKEEP := And.intro (hS18.1.cell (p := ⟨hb, 0, none⟩) h17 NB14.out) (And.intro (hS18.1.cell (p := ⟨w.heap.size + 3, 0, none⟩) y3 n3.out) (And.intro (hS18.1.cell (p := ⟨w.heap.size + 4, 0, none⟩) y4 n4.out) (hS18.1.cell (p := ⟨w.heap.size + 6, 0, none⟩) y6 n6.out)))))
      go_wp2_with fail
      go_ret2
      exact ⟨_, _, _, ff, 1, M18, rfl, INS'.out, FIN.out _ _ hP18, SW.out.trans (Step.ahead ((Only.refl _ _).drew) hS18)⟩
end Go.Proofs.YtfkmjbpnjgnkbaaGreat.H

/-
  What the calls of a heap do to its versions: plain data. No program in sight.
-/
namespace Go.Proofs.YtfkmjbpnjgnkbaaGreat.H
set_option linter.unusedSimpArgs false
open Go Go.RowKit Go.Proofs.YtfkmjbpnjgnkbaaGreat.D Go.Proofs.YtfkmjbpnjgnkbaaGreat.B Go.Proofs.YtfkmjbpnjgnkbaaGreat.C Go.Proofs.YtfkmjbpnjgnkbaaGreat.G Go.Proofs.YtfkmjbpnjgnkbaaGreat.P
set_option linter.unusedVariables false
theorem rid_div {id slot : Nat} (h : slot < 128) : (id * 128 + slot) / 128 = id ∧ (id * 128 + slot) % 128 = slot := by omega
/-- The heap with other versions: the same pages, or one more. -/
structure Done (u : List Bool) (pg : Nat → List UInt8) (root : Nat) (ids : List Nat) (u' : List Bool) (pg' : Nat → List UInt8) (ids' : List Nat) : Prop where
  is_ : HeapIs u' pg' root ids'
  len : u'.length = u.length
  zero : u'.getD 0 false = true
  own : Owns u ids → Owns u' ids'
theorem getD_append_lt {l k : List Nat} {i : Nat} (h : i < l.length) : (l ++ k).getD i 0 = l.getD i 0 := by
  rw [List.getD_eq_getElem?_getD, List.getElem?_append_left h, ← List.getD_eq_getElem?_getD]
theorem getD_append_at {l : List Nat} {x : Nat} : (l ++ [x]).getD l.length 0 = x := by
  rw [List.getD_eq_getElem?_getD, List.getElem?_append_right (Nat.le_refl _), Nat.sub_self]; rfl
theorem getD_inj {l : List Nat} (h : l.Nodup) {i j : Nat} (hi : i < l.length) (hj : j < l.length) (e : l.getD i 0 = l.getD j 0) : i = j := by
  rw [List.getD_eq_getElem?_getD, List.getD_eq_getElem?_getD, List.getElem?_eq_getElem hi, List.getElem?_eq_getElem hj] at e
  have e : l[i] = l[j] := e
  rcases Nat.lt_trichotomy i j with h1 | h1 | h1
  · exact absurd e (List.pairwise_iff_getElem.1 h i j hi hj h1)
  · exact h1
  · exact absurd e.symm (List.pairwise_iff_getElem.1 h j i hj hi h1)
section
variable {u : List Bool} {pg : Nat → List UInt8} {root : Nat} {ids : List Nat}
/-- One page is another one of the heap: the others stay. -/
theorem HeapIs.set (h : HeapIs u pg root ids) {id : Nat} (hid : id ∈ ids) {q : List UInt8} (hq : ∀ next, HPage root next (pg id) → HPage root next q) (hs : nS q ≤ 29) : HeapIs u (upd pg id q) root ids := by
  refine ⟨h.head, h.some_, h.nodup, h.used, fun i hi => ?_, h.pos, fun x hx => ?_⟩
  · by_cases e : ids.getD i 0 = id
    · rw [e, upd_self]; have := h.page i hi; rw [e] at this; exact hq _ this
    · rw [upd_ne e]; exact h.page i hi
  · by_cases e : x = id
    · rw [e, upd_self]; exact hs
    · rw [upd_ne e]; exact h.slots x hx
theorem verR_upd {id : Nat} {q : List UInt8} (r : Nat) : verR (upd pg id q) ids r = if r / 128 ∈ ids then (if r / 128 = id then verAt q (r % 128) else verAt (pg (r / 128)) (r % 128)) else none := by
  unfold verR upd
  split
  · split <;> rfl
  · rfl
/-- A version was put in. -/
structure Put (V V' : Nat → Option Ver) (r : Nat) (v : Ver) : Prop where
  free : V r = none
  mine : V' r = some v
  rest : ∀ x, x ≠ r → V' x = V x
theorem Inserted.done (h : HeapIs u pg root ids) (h0 : u.getD 0 false = true) (hu : u.length ≤ 65536) {row : List UInt8} {xmin : Nat} (hx : xmin < W64) (h1 : 1 ≤ row.length) (h2 : row.length ≤ 370) {u' : List Bool} {pg' : Nat → List UInt8} {ids' : List Nat} {id slot : Nat} (hi : Inserted u pg root ids row xmin u' pg' ids' id slot) :
    Done u pg root ids u' pg' ids' ∧ Put (verR pg ids) (verR pg' ids') (id * 128 + slot) ⟨row, xmin, 0, 0⟩ ∧ id < 65536 ∧ slot < 125 ∧ 1 ≤ slot ∧ id ∈ ids' ∧ slot % 2 = 1 := by
  cases hi with
  | here i hi q hq hn =>
    have hid : ids.getD i 0 ∈ ids := getD_mem hi
    have hL := lays_page (h.page i hi) hx h1 h2 hq
    have hF := lays_fill (h.page i hi) (h.slots _ hid) h1 h2 hq hx
    have hsl := hL.lt
    have hdv := rid_div (id := ids.getD i 0) (slot := freeS (pg (ids.getD i 0))) (by omega)
    refine ⟨⟨h.set hid (fun next hp => (lays_page hp hx h1 h2 hq).page) hF.2, rfl, h0, fun ho => ho⟩, ⟨?_, ?_, fun x hxr => ?_⟩, by have := used_lt (h.used _ hid); omega, hsl, by have := hL.odd; omega, hid, hL.odd⟩
    · unfold verR; rw [hdv.1, hdv.2, if_pos hid]; exact hL.free
    · rw [verR_upd, hdv.1, hdv.2, if_pos hid, if_pos rfl]; exact hL.mine
    · rw [verR_upd]
      unfold verR
      by_cases e : x / 128 ∈ ids
      · rw [if_pos e, if_pos e]
        by_cases e2 : x / 128 = ids.getD i 0
        · rw [if_pos e2, e2]
          exact hL.rest _ (fun e3 => hxr (by omega))
        · rw [if_neg e2]
      · rw [if_neg e, if_neg e]
  | more hn hfu q hh hq hr =>
    obtain ⟨f1, f2⟩ := firstFree_free hfu
    have hni : firstFree u ∉ ids := fun hm => by have := h.used _ hm; rw [f1] at this; cases this
    have hpos : 0 < firstFree u := by
      rcases Nat.eq_zero_or_pos (firstFree u) with e | e
      · rw [e] at f1; rw [h0] at f1; cases f1
      · exact e
    have hlen := h.some_
    have hlm : ids.getD (ids.length - 1) 0 ∈ ids := getD_mem (by omega)
    have hlast := h.page (ids.length - 1) (by omega)
    have hnx : ids.getD (ids.length - 1 + 1) 0 = 0 := getD_over (by omega)
    rw [hnx] at hlast
    obtain ⟨hH, hHv⟩ := head_page hlast hr
    have hlne : ids.getD (ids.length - 1) 0 ≠ firstFree u := fun e => hni (e ▸ hlm)
    obtain ⟨_, hfp, hfn, _, hfv⟩ := fresh_page root
    have hL := lays_page hfp hx h1 h2 hq
    have hF := lays_fill hfp (by rw [hfn]; omega) h1 h2 hq hx
    have hsl := hL.lt
    have hdv := rid_div (id := firstFree u) (slot := freeS (freshP root)) (by omega)
    have hpgf : upd (upd pg (firstFree u) q) (ids.getD (ids.length - 1) 0) hh (firstFree u) = q := by rw [upd_ne (fun e => hlne e.symm), upd_self]
    have hpgl : upd (upd pg (firstFree u) q) (ids.getD (ids.length - 1) 0) hh (ids.getD (ids.length - 1) 0) = hh := upd_self _ _ _
    have hpgo : ∀ x, x ≠ firstFree u → x ≠ ids.getD (ids.length - 1) 0 → upd (upd pg (firstFree u) q) (ids.getD (ids.length - 1) 0) hh x = pg x := fun x a b => by rw [upd_ne b, upd_ne a]
    have hus : ∀ x, u.getD x false = true → (u.set (firstFree u) true).getD x false = true := fun x hx => by
      rw [P.getD_set_ne _ _ _ _ _ (fun e => by rw [← e, f1] at hx; cases hx)]; exact hx
    have hve : ∀ x, x ∈ ids → ∀ j, verAt (upd (upd pg (firstFree u) q) (ids.getD (ids.length - 1) 0) hh x) j = verAt (pg x) j := fun x hx j => by
      by_cases e : x = ids.getD (ids.length - 1) 0
      · rw [e, hpgl]; exact hHv j
      · rw [hpgo x (fun e2 => hni (e2 ▸ hx)) e]
    refine ⟨⟨⟨?_, by simp, ?_, ?_, ?_, ?_, ?_⟩, by simp, hus 0 h0, ?_⟩, ⟨?_, ?_, fun x hxr => ?_⟩, by omega, hsl, by have := hL.odd; omega, by simp, hL.odd⟩
    · rw [getD_append_lt hlen]; exact h.head
    · rw [List.nodup_append]
      exact ⟨h.nodup, by simp, fun x hx y hy e => by simp at hy; subst hy; subst e; exact hni hx⟩
    · intro x hx
      rcases List.mem_append.1 hx with hx | hx
      · exact hus x (h.used x hx)
      · simp at hx; subst hx; exact P.getD_set_self u _ true false hfu
    · intro i hi
      rw [List.length_append, List.length_singleton] at hi
      by_cases e : i = ids.length
      · subst e
        rw [getD_append_at, getD_over (by simp), hpgf]
        exact hL.page
      · have hi2 : i < ids.length := by omega
        rw [getD_append_lt hi2]
        by_cases e2 : i = ids.length - 1
        · subst e2
          rw [show ids.length - 1 + 1 = ids.length by omega, getD_append_at, hpgl]
          exact hH
        · rw [getD_append_lt (by omega), hpgo _ (fun e3 => hni (e3 ▸ getD_mem hi2)) (fun e3 => e2 (getD_inj h.nodup hi2 (by omega) e3))]
          exact h.page i hi2
    · intro i hi0 hi
      rw [List.length_append, List.length_singleton] at hi
      by_cases e : i = ids.length
      · subst e; rw [getD_append_at]; exact hpos
      · rw [getD_append_lt (by omega)]; exact h.pos i hi0 (by omega)
    · intro x hx
      rcases List.mem_append.1 hx with hx | hx
      · by_cases e : x = ids.getD (ids.length - 1) 0
        · rw [e, hpgl]
          obtain ⟨k1, k2⟩ := ct_isSome hlast.head
          have hlen8 : sL (pg (ids.getD (ids.length - 1) 0)) 0 = 8 := by rw [(ct_long hlast.pg.body.core hlast.head).2.2.1, head_len]
          have S := hr.swap hlast.pg k1 k2 (by rw [head_len]; omega) (by rw [head_len]; omega) (by rw [head_len, hlen8]; omega)
          rw [S.count]; exact h.slots _ hlm
        · rw [hpgo x (fun e2 => hni (e2 ▸ hx)) e]; exact h.slots x hx
      · simp at hx; subst hx; rw [hpgf]; exact hF.2
    · intro ho x hx
      by_cases e : x = firstFree u
      · simp [e]
      · rw [P.getD_set_ne _ _ _ _ _ (fun h => e h.symm)] at hx
        exact List.mem_append.2 (.inl (ho x hx))
    · unfold verR; rw [hdv.1, if_neg hni]
    · unfold verR; rw [hdv.1, hdv.2, if_pos (by simp), hpgf]; exact hL.mine
    · unfold verR
      by_cases e : x / 128 = firstFree u
      · rw [e, if_pos (by simp), if_neg hni, hpgf, hL.rest _ (fun e3 => hxr (by omega)), hfv]
      · by_cases e2 : x / 128 ∈ ids
        · rw [if_pos (List.mem_append.2 (.inl e2)), if_pos e2, hve _ e2]
        · rw [if_neg e2, if_neg (by simp [e, e2])]
/-- Other stamps. -/
theorem stamp_done (h : HeapIs u pg root ids) {r : Nat} {v : Ver} (hv : IsVer pg ids r v) {a b c : Nat} (ha : a < W64) (hb : b < W64) (hc : c < W64) {q : List UInt8} (hr : Rep (pg (r / 128)) (r % 128) (stampC a b c) q) :
    HeapIs u (upd pg (r / 128) q) root ids ∧ verR (upd pg (r / 128) q) ids r = some ⟨v.row, a, b, c⟩ ∧ ∀ x, x ≠ r → verR (upd pg (r / 128) q) ids x = verR pg ids x := by
  obtain ⟨hid, hver⟩ := hv
  obtain ⟨i, hi, he, hp⟩ := h.at hid
  have hS := stamp_page hp hver ha hb hc hr
  obtain ⟨hj, s, c1, c2, c3, c4, c5, c6⟩ := verAt_some hp hver
  obtain ⟨k1, k2⟩ := ct_isSome c1
  have hl : sL (pg (r / 128)) (r % 128) = 24 := by rw [(ct_long hp.pg.body.core c1).2.2.1, c3]
  have S := hr.swap hp.pg k1 k2 (by rw [stamp_len]; omega) (by rw [stamp_len]; omega) (by rw [stamp_len, hl]; omega)
  refine ⟨h.set hid (fun next hp2 => (stamp_page hp2 hver ha hb hc hr).1) (by rw [S.count]; exact h.slots _ hid), ?_, fun x hx => ?_⟩
  · rw [verR_upd, if_pos hid, if_pos rfl]; exact hS.2.1
  · rw [verR_upd]
    unfold verR
    by_cases e : x / 128 ∈ ids
    · rw [if_pos e, if_pos e]
      by_cases e2 : x / 128 = r / 128
      · rw [if_pos e2, e2]; exact hS.2.2 _ (fun e3 => hx (by omega))
      · rw [if_neg e2]
    · rw [if_neg e, if_neg e]
/-- A version is gone. -/
theorem free_done (h : HeapIs u pg root ids) {r : Nat} {v : Ver} (hv : IsVer pg ids r v) {q q2 : List UInt8} (hq : Del (pg (r / 128)) (r % 128 + 1) q) (hq2 : Del q (r % 128) q2) :
    HeapIs u (upd pg (r / 128) q2) root ids ∧ verR (upd pg (r / 128) q2) ids r = none ∧ ∀ x, x ≠ r → verR (upd pg (r / 128) q2) ids x = verR pg ids x := by
  obtain ⟨hid, hver⟩ := hv
  obtain ⟨i, hi, he, hp⟩ := h.at hid
  have hS := gone_page hp hver hq hq2
  obtain ⟨hj, s, c1, c2, c3, c4, c5, c6⟩ := verAt_some hp hver
  obtain ⟨k1, k2⟩ := ct_isSome c2
  have C1 := hq.cut hp.pg k1 k2
  have C2 := hq2.cut hS.1.2.2 hS.1.1 hS.1.2.1
  refine ⟨h.set hid (fun next hp2 => (gone_page hp2 hver hq hq2).2.1) (by have := C1.le; have := C2.le; have := h.slots _ hid; omega), ?_, fun x hx => ?_⟩
  · rw [verR_upd, if_pos hid, if_pos rfl]; exact hS.2.2.1
  · rw [verR_upd]
    unfold verR
    by_cases e : x / 128 ∈ ids
    · rw [if_pos e, if_pos e]
      by_cases e2 : x / 128 = r / 128
      · rw [if_pos e2, e2]; exact hS.2.2.2 _ (fun e3 => hx (by omega))
      · rw [if_neg e2]
    · rw [if_neg e, if_neg e]
end
end Go.Proofs.YtfkmjbpnjgnkbaaGreat.H

/-
  The program's heap: New, Open, Root; the law's made: by contracts.
-/
namespace Go.Proofs.YtfkmjbpnjgnkbaaGreat.H
set_option linter.unusedSimpArgs false
open Go Go.RowKit Go.Proofs.YtfkmjbpnjgnkbaaGreat.D Go.Proofs.YtfkmjbpnjgnkbaaGreat.B Go.Proofs.YtfkmjbpnjgnkbaaGreat.C Go.Proofs.YtfkmjbpnjgnkbaaGreat.G Go.Proofs.YtfkmjbpnjgnkbaaGreat.P
set_option linter.unusedVariables false
section
variable {w : World} {hb p root k : Nat} {M : List Nat} {u : List Bool} {pg : Nat → List UInt8} {ids : List Nat}
set_option maxRecDepth 100000 in
set_option maxHeartbeats 1000000 in
theorem hnew_any (hP : PoolV w p M u pg k) (hk : k + 10 ≤ 1000000) (hfu : firstFree u < u.length) :
    Calls Tryz.prog 27 #[.pointer (some ⟨p, 0, none⟩)] w fun e w' => ∃ hb M', e = .returned (.tuple #[.pointer (some ⟨hb, 0, none⟩), .int .i64 0]) ∧ HpAt w' hb p (firstFree u) ∧ hb ∉ M' ∧ w.heap.size ≤ hb ∧ PoolV w' p M' (u.set (firstFree u) true) (upd pg (firstFree u) (freshP (firstFree u))) (k + 4) ∧ Step M M' w w' := by
  have AL := Lib.hid (hP.alloc (by omega) hfu)
  have hs := hP.size
  have FR : Hid (∀ w1 hb, HpAt w1 hb p (firstFree u) → Calls Tryz.prog 34 #[.pointer (some ⟨hb, 0, none⟩)] w1 fun e w' => ∃ gb c, e = .returned (.slice (some ⟨gb, 0, none⟩) 512 c) ∧ Buf w' gb c (freshP (firstFree u)) ∧ w1.heap.size ≤ gb ∧ Only [] w1 w') := fun w1 hb h => fresh_any h (by omega)
  have hu1 : (u.set (firstFree u) true).getD (firstFree u) false = true := P.getD_set_self u _ true false hfu
  have PT : Hid (∀ w1 M1 gb c q, PoolV w1 p M1 (u.set (firstFree u) true) (upd pg (firstFree u) zeros) (k + 2) → Buf w1 gb c q → gb ∉ M1 → Calls Tryz.prog 32 #[.pointer (some ⟨p, 0, none⟩), .int .i64 (firstFree u : Nat), .slice (some ⟨gb, 0, none⟩) 512 c, .int .u64 0] w1 fun e w' => ∃ M', e = .returned (.int .i64 0) ∧ PoolV w' p M' (u.set (firstFree u) true) (upd (upd pg (firstFree u) zeros) (firstFree u) q) (k + 2 + 2) ∧ Step M1 M' w1 w') := fun w1 M1 gb c q h1 h2 h3 => h1.put (by omega) hu1 h2.at (fun a n c he => by simp only [Value.slice.injEq, Option.some.injEq] at he; obtain ⟨rfl, _, _⟩ := he; exact h3) h2.1
  have HP := Lib.hid hP
  clear hP hfu hu1 hs
  generalize freshP (firstFree u) = F at *
  generalize firstFree u = ff at *
  go_enter Tryz.func27, Tryz.ntmps27
  go_wp2_with (go_at_call 33; refine AL.out.mono ?_; rintro e w1 ⟨M1, rfl, hP1, hS1⟩; have P1 := Lib.hid hP1; have S1 := Lib.hid hS1; clear hP1 hS1)
  have H2 : Hid (HpAt (w1.alloc (.cells #[.pointer (some ⟨p, 0, none⟩), .int .i64 ff] 77)) w1.heap.size p ff) := Blk.new' _ _ w1 rfl
  refine (FR.out _ _ H2.out).mono ?_
  rintro e w2 ⟨g2, c2, rfl, hb2, hg2, hO2⟩
  have O2 : Hid (Only [] w1 w2) := (((Only.refl [] w1).alloc _).trans hO2 (by simp))
  have H3 := Lib.hid (H2.out.past hO2)
  have B2 := Lib.hid hb2
  have hsz : w1.heap.size + 1 ≤ g2 := by rw [World.size_alloc] at hg2; exact hg2
  have N2 : Hid (g2 ∉ M1) := fun hm => by have := P1.out.lt _ hm; omega
  clear hb2 hg2 hO2 hsz
  go_wp2_with (go_at_call 32; refine (PT.out _ _ _ _ _ (P1.out.past O2.out) B2.out N2.out).mono ?_; rintro e w3 ⟨M3, rfl, hP3, hS3⟩; have P3 := Lib.hid hP3; have S3 := Lib.hid hS3; clear hP3 hS3)
  go_ret2
  have hNM : w1.heap.size ∉ M1 := fun hm => Nat.lt_irrefl _ (P1.out.lt _ hm)
  refine ⟨w1.heap.size, M3, rfl, S3.out.1.blk H3.out hNM, P.Step.keep S3.out H3.out.lt hNM, S1.out.1.size, P3.out.congr (fun j hj => ?_), (S1.out.then O2.out).trans S3.out⟩
  unfold upd
  split <;> rfl
set_option maxRecDepth 100000 in
theorem hroot_any (hH : HpAt w hb p root) : Calls Tryz.prog 20 #[.pointer (some ⟨hb, 0, none⟩)] w fun e w' => e = .returned (.int .i64 root) ∧ w = w' := by
  have c1 := hH.cell 1
  simp only [List.getElem?_cons_succ, List.getElem?_cons_zero] at c1
  go_enter Tryz.func20, Tryz.ntmps20
  go_wp2
  go_ret
  exact ⟨rfl, rfl⟩
set_option maxRecDepth 100000 in
theorem hopen_any (hP : PoolV w p M u pg k) (hk : k ≤ 1000000) (hI : HeapIs u pg root ids) :
    Calls Tryz.prog 19 #[.pointer (some ⟨p, 0, none⟩), .int .i64 root] w fun e w' => ∃ hb M', e = .returned (.tuple #[.pointer (some ⟨hb, 0, none⟩), .int .i64 0]) ∧ HpAt w' hb p root ∧ hb ∉ M' ∧ w.heap.size ≤ hb ∧ PoolV w' p M' u pg (k + 2) ∧ Step M M' w w' := by
  have OA := (Only.refl [] w).alloc (.cells #[.pointer (some ⟨p, 0, none⟩), .int .i64 root] 77)
  have H2 : Hid (HpAt (w.alloc (.cells #[.pointer (some ⟨p, 0, none⟩), .int .i64 root] 77)) w.heap.size p root) := Blk.new' _ _ w rfl
  have hNM : w.heap.size ∉ M := fun hm => Nat.lt_irrefl _ (hP.lt _ hm)
  have hrm : root ∈ ids := by have := getD_mem hI.some_; rw [hI.head] at this; exact this
  have PY := Lib.hid (page_in (hP.past OA) hk H2.out hNM hI hrm)
  have HNM := Lib.hid hNM
  have OA' := Lib.hid OA
  clear hP hI hNM hrm OA
  go_enter Tryz.func19, Tryz.ntmps19
  go_wp2_with (go_at_call 48; refine PY.out.mono ?_; rintro e w2 ⟨gb, c, M2, n, rfl, hg⟩; have G2 := Lib.hid hg; clear hg)
  go_ret2
  obtain ⟨_, _, _, h1, h2⟩ := G2.out
  exact ⟨w.heap.size, M2, rfl, h2.1.blk H2.out HNM.out, P.Step.keep h2 H2.out.lt HNM.out, Nat.le_refl _, h1, Step.ahead OA'.out h2⟩
end
/-- The first state of a heap: one page. -/
def usedN (n : Nat) : List Bool := (List.replicate n false).set 0 true
def pg0 : Nat → List UInt8 := upd (fun _ => zeros) 0 (freshP 0)
theorem heap_first {n : Nat} (hn : 1 ≤ n) : HeapIs (usedN n) pg0 0 [0] ∧ Owns (usedN n) [0] ∧ (usedN n).getD 0 false = true ∧ (usedN n).length = n ∧ ∀ r, verR pg0 [0] r = none := by
  obtain ⟨_, hp, hs, _, hv⟩ := fresh_page 0
  have h0 : (usedN n).getD 0 false = true := P.getD_set_self _ 0 true false (by rw [List.length_replicate]; omega)
  refine ⟨⟨rfl, by simp, by simp, fun id hid => by simp at hid; subst hid; exact h0, fun i hi => ?_, fun i h1 h2 => by simp at h2; omega, fun id hid => ?_⟩, fun id hid => ?_, h0, by simp [usedN], fun r => ?_⟩
  · simp at hi; subst hi
    exact hp
  · simp at hid; subst hid
    show nS (freshP 0) ≤ 29
    omega
  · by_cases e : id = 0
    · simp [e]
    · unfold usedN at hid
      rw [P.getD_set_ne _ _ _ _ _ (fun h => e h.symm), List.getD_eq_getElem?_getD, List.getElem?_replicate] at hid
      split at hid <;> cases hid
  · unfold verR
    split
    · rename_i h
      simp at h
      have : r / 128 = 0 := by omega
      rw [this]
      exact hv _
    · rfl
/-- What made tells: a heap of one page, in a pool of n pages. -/
def MadeAt (w : World) (n : Nat) (p hb : Nat) (M : List Nat) (w' : World) : Prop := HpAt w' hb p 0 ∧ hb ∉ M ∧ w.heap.size ≤ hb ∧ PoolV w' p M (usedN n) pg0 4 ∧ Step [] M w w'
set_option maxRecDepth 100000 in
set_option maxHeartbeats 1000000 in
theorem made_any (w : World) (n : Nat) (h1 : 1 ≤ n) (h2 : n ≤ 65536) :
    Calls Tryz.prog 6 #[.int .i64 n] w fun e w' => ∃ p hb M, e = .returned (.tuple #[.pointer (some ⟨p, 0, none⟩), .pointer (some ⟨hb, 0, none⟩)]) ∧ MadeAt w n p hb M w' := by
  have DN := Lib.hid (Disk.new (n := n) (w := w) h1 h2)
  have PN : Hid (∀ w1 d M1, Disk w1 d M1 (DS.fresh n) → Calls Tryz.prog 26 #[.pointer (some ⟨d, 0, none⟩), .int .i64 0, .int .i64 n, .int .i64 24] w1 fun e w' => ∃ p M', e = .returned (.tuple #[.pointer (some ⟨p, 0, none⟩), .int .i64 0]) ∧ PoolV w' p M' (List.replicate n false) (fun _ => zeros) 0 ∧ Step M1 M' w1 w') := fun w1 d M1 hD => by
    have hl : (DS.fresh n).now.length = n := by simp [DS.fresh]
    refine (P.new_ok hD ⟨rfl, rfl, rfl⟩ (Int.le_refl _) 0 (Int.le_refl _) (Nat.le_refl _) 0 n 24 ⟨by omega, by omega, by omega, by rw [hl]; omega, by omega, by omega⟩).mono ?_
    rintro e w' ⟨p, M', rfl, hP, hS⟩
    exact ⟨p, M', rfl, ⟨d, _, hP, (fun f hf => by cases hf), rfl, rfl, fun j hj => by
      rw [List.getD_eq_getElem?_getD, List.getElem?_replicate] at hj
      split at hj <;> cases hj⟩, hS⟩
  have hff : firstFree (List.replicate n false) = 0 := by
    cases n with
    | zero => omega
    | succ n => simp [firstFree, List.replicate_succ, List.findIdx_cons]
  have HN : Hid (∀ w1 p M1, PoolV w1 p M1 (List.replicate n false) (fun _ => zeros) 0 → Calls Tryz.prog 27 #[.pointer (some ⟨p, 0, none⟩)] w1 fun e w' => ∃ hb M', e = .returned (.tuple #[.pointer (some ⟨hb, 0, none⟩), .int .i64 0]) ∧ HpAt w' hb p 0 ∧ hb ∉ M' ∧ w1.heap.size ≤ hb ∧ PoolV w' p M' (usedN n) pg0 4 ∧ Step M1 M' w1 w') := fun w1 p M1 hP => by
    have := hnew_any hP (by omega) (by rw [hff, List.length_replicate]; omega)
    rw [hff] at this
    exact this
  clear hff h1 h2
  go_enter Tryz.func6, Tryz.ntmps6
  go_wp2_with (first
    | (go_at_call 25; refine DN.out.mono ?_; rintro e w1 ⟨d, M1, rfl, hD1, hS1⟩; have D1 := Lib.hid hD1; have S1 := Lib.hid hS1; clear hD1 hS1)
    | (go_at_call 26; refine (PN.out _ _ _ D1.out).mono ?_; rintro e w2 ⟨p, M2, rfl, hP2, hS2⟩; have P2 := Lib.hid hP2; have S2 := Lib.hid hS2; clear hP2 hS2)
    | (go_at_call 27; refine (HN.out _ _ _ P2.out).mono ?_; rintro e w3 ⟨hb, M3, rfl, hH3, hn3, hl3, hP3, hS3⟩; have R3 := Lib.hid (And.intro hH3 (And.intro hn3 (And.intro hl3 (And.intro hP3 hS3)))); clear hH3 hn3 hl3 hP3 hS3))
  go_ret2
  obtain ⟨r1, r2, r3, r4, r5⟩ := R3.out
  have hs := (S1.out.trans S2.out).1.size
  exact ⟨p, hb, M3, rfl, r1, r2, by omega, r4, (S1.out.trans S2.out).trans r5⟩
end Go.Proofs.YtfkmjbpnjgnkbaaGreat.H
