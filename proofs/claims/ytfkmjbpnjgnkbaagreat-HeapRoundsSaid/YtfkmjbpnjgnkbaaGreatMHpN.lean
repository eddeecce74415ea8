import Derived.Test.YtfkmjbpnjgnkbaaGreatMHpL
import Derived.Test.YtfkmjbpnjgnkbaaGreatMPageL
/-
  The program's heap: Stamp, Free: by contracts.
-/
namespace Go.Proofs.YtfkmjbpnjgnkbaaGreat.H
set_option linter.unusedSimpArgs false
open Go Go.RowKit Go.Proofs.YtfkmjbpnjgnkbaaGreat.D Go.Proofs.YtfkmjbpnjgnkbaaGreat.B Go.Proofs.YtfkmjbpnjgnkbaaGreat.C Go.Proofs.YtfkmjbpnjgnkbaaGreat.G Go.Proofs.YtfkmjbpnjgnkbaaGreat.P
set_option linter.unusedVariables false
section
variable {w : World} {hb p root k : Nat} {M : List Nat} {u : List Bool} {pg : Nat → List UInt8} {ids : List Nat}
set_option maxRecDepth 100000 in
theorem stamp_no (hP : PoolV w p M u pg k) (hk : k ≤ 1000000) (hH : HpAt w hb p root) (hM : hb ∉ M) (hI : HeapIs u pg root ids) (r : Nat) (hr : r < W64) (hn : NoVer u pg ids r) (x nx : Nat) :
    Calls Tryz.prog 15 #[.pointer (some ⟨hb, 0, none⟩), .int .u64 r, .int .u64 x, .int .u64 nx] w fun e w' => e = .returned (.int .i64 91) ∧ ∃ M', PoolV w' p M' u pg (k + 2) ∧ Step M M' w w' := by
  have FN := Lib.hid (find_no hP hk hH hM hI r hr hn)
  clear hP hH hM hI hn hr
  go_enter Tryz.func15, Tryz.ntmps15
  go_wp2_with (go_at_call 39; refine FN.out.mono ?_; rintro e w1 ⟨rfl, M1, hP1, hS1⟩; have P1 := Lib.hid hP1; have S1 := Lib.hid hS1; clear hP1 hS1)
  go_ret
  exact ⟨rfl, M1, P1.out, S1.out⟩
set_option maxRecDepth 100000 in
theorem hfree_no (hP : PoolV w p M u pg k) (hk : k ≤ 1000000) (hH : HpAt w hb p root) (hM : hb ∉ M) (hI : HeapIs u pg root ids) (r : Nat) (hr : r < W64) (hn : NoVer u pg ids r) :
    Calls Tryz.prog 9 #[.pointer (some ⟨hb, 0, none⟩), .int .u64 r] w fun e w' => e = .returned (.int .i64 91) ∧ ∃ M', PoolV w' p M' u pg (k + 2) ∧ Step M M' w w' := by
  have FN := Lib.hid (find_no hP hk hH hM hI r hr hn)
  clear hP hH hM hI hn hr
  go_enter Tryz.func9, Tryz.ntmps9
  go_wp2_with (go_at_call 39; refine FN.out.mono ?_; rintro e w1 ⟨rfl, M1, hP1, hS1⟩; have P1 := Lib.hid hP1; have S1 := Lib.hid hS1; clear hP1 hS1)
  go_ret
  exact ⟨rfl, M1, P1.out, S1.out⟩
set_option maxRecDepth 100000 in
set_option maxHeartbeats 1000000 in
theorem stamp_yes (hP : PoolV w p M u pg k) (hk : k + 10 ≤ 1000000) (hH : HpAt w hb p root) (hM : hb ∉ M) (hI : HeapIs u pg root ids) (r : Nat) {v : Ver} (hv : IsVer pg ids r v) (x nx : Nat) (hx : x < W64) (hnx : nx < W64) :
    Calls Tryz.prog 15 #[.pointer (some ⟨hb, 0, none⟩), .int .u64 r, .int .u64 x, .int .u64 nx] w fun e w' => ∃ q M', e = .returned (.int .i64 0) ∧ Rep (pg (r / 128)) (r % 128) (stampC v.xmin x nx) q ∧ PoolV w' p M' u (upd pg (r / 128) q) (k + 4) ∧ Step M M' w w' := by
  have FY := Lib.hid (find_yes hP (by omega) hH hM hI r hv)
  obtain ⟨hid, hver⟩ := hv
  have hu := hI.used _ hid
  obtain ⟨_, _, _, hpage⟩ := hI.at hid
  obtain ⟨hodd, s, h1, h2, h3, h4, h5, h6⟩ := verAt_some hpage hver
  have hxm : v.xmin = unle (s.take 8) := by rw [h6]; rfl
  have hxw : v.xmin < W64 := by rw [hxm]; exact unle_w (by rw [List.length_take]; omega)
  have GE : Hid (∀ w1 v, BytesC w1 v (pg (r / 128)) → Calls Tryz.prog 43 #[v, .int .i64 (r % 128 : Nat)] w1 fun e w' => ∃ g c, e = .returned (.tuple #[.slice (some ⟨g, 0, none⟩) 24 c, .int .i64 0]) ∧ ByteRow 5 w' (.slice (some ⟨g, 0, none⟩) 24 c) s ∧ 24 ≤ c ∧ Only [] w1 w') := fun w1 v hb => by
    refine (page_cell hb hpage.pg h1).mono ?_
    rintro e w' ⟨g, c, rfl, hr, hc, _, hO⟩
    rw [h3] at hr hc ⊢
    exact ⟨g, c, rfl, hr, hc, hO⟩
  have UL : Hid (∀ w1 g c, ByteRow 5 w1 (.slice (some ⟨g, 0, none⟩) 24 c) s → Calls Tryz.prog 46 #[.slice (some ⟨g, 0, none⟩) 8 c] w1 fun e w' => e = .returned (.int .u64 v.xmin) ∧ w1 = w') := fun w1 g c hb => by
    have := unlittle_any (w := w1) g 0 c ((s.drop 0).take 8) (by simp; omega) (row_part hb 0 8 (by omega))
    rw [List.drop_zero, ← hxm, List.length_take, h3] at this
    exact this
  have ST := Lib.hid (fun w1 => stamps_any w1 v.xmin x nx hxw hx hnx)
  have RP : Hid (∀ w1 v' vb, BytesC w1 v' (pg (r / 128)) → BytesAt w1 vb (stampC v.xmin x nx) → Calls Tryz.prog 35 #[v', .int .i64 (r % 128 : Nat), vb] w1 fun e w' => ∃ gb c r', e = .returned (.tuple #[.slice (some ⟨gb, 0, none⟩) 512 c, .int .i64 0]) ∧ Rep (pg (r / 128)) (r % 128) (stampC v.xmin x nx) r' ∧ Buf w' gb c r' ∧ w1.heap.size ≤ gb ∧ Only [] w1 w') := fun w1 v' vb g1 g2 => by
    obtain ⟨k1, k2⟩ := ct_isSome h1
    have hlen : sL (pg (r / 128)) (r % 128) = 24 := by rw [(ct_long hpage.pg.body.core h1).2.2.1, h3]
    exact replace_yes g1 g2 hpage.pg k1 k2 (by rw [stamp_len]; omega) (by rw [stamp_len]; omega) (by rw [stamp_len, hlen]; omega)
  have HU := Lib.hid hu
  have HH := Lib.hid hH
  have HM := Lib.hid hM
  clear hP hH hM hI hid hver hpage h1 h2 h3 h4 h5 h6 hxm hxw hu hodd
  obtain ⟨id, hide⟩ : ∃ id, r / 128 = id := ⟨_, rfl⟩
  obtain ⟨slot, hsle⟩ : ∃ slot, r % 128 = slot := ⟨_, rfl⟩
  rw [hide] at FY GE RP HU ⊢
  rw [hsle] at FY GE RP ⊢
  clear hide hsle
  have PT : Hid (∀ w1 M1 gb c q, PoolV w1 p M1 u pg (k + 2) → Buf w1 gb c q → gb ∉ M1 → Calls Tryz.prog 32 #[.pointer (some ⟨p, 0, none⟩), .int .i64 id, .slice (some ⟨gb, 0, none⟩) 512 c, .int .u64 0] w1 fun e w' => ∃ M', e = .returned (.int .i64 0) ∧ PoolV w' p M' u (upd pg id q) (k + 2 + 2) ∧ Step M1 M' w1 w') := fun w1 M1 gb c q h1 h2 h3 => h1.put (by omega) HU.out h2.at (fun a n c he => by simp only [Value.slice.injEq, Option.some.injEq] at he; obtain ⟨rfl, _, _⟩ := he; exact h3) h2.1
  go_enter Tryz.func15, Tryz.ntmps15
  go_wp2_with (first
    | (go_at_call 39; refine FY.out.mono ?_; rintro e w1 ⟨gb, c, M1, rfl, hg⟩; have G1 := Lib.hid hg; clear hg)
    | (go_at_call 43; refine (GE.out _ _ G1.out.1.c).mono ?_; rintro e w2 ⟨g2, c2, rfl, hr2, hc2, hO2⟩; have R2 := Lib.hid hr2; have O2 := Lib.hid hO2; have a5 : ¬ c2 = 8 := (by omega); have a6 : 8 < c2 := (by omega); have a7 : 8 ≤ c2 := (by omega); have a8 : (8 : Int) ≤ c2 := (by omega); have a9 : (24 : Int) ≤ c2 := (by omega); clear hr2 hc2 hO2)
    | (go_at_call 46; refine (UL.out _ _ _ R2.out).mono ?_; rintro e w3 ⟨rfl, rfl⟩)
    | (go_at_call 45; refine (ST.out _).mono ?_; rintro e w4 ⟨v4, rfl, hr4, hk4, hO4⟩; have R4 := Lib.hid hr4; have O4 := Lib.hid (O2.out.trans hO4 (by simp)); clear hr4 hk4 hO4)
    | (go_at_call 35; refine (RP.out _ _ _ (G1.out.1.past O4.out).c R4.out.at).mono ?_; rintro e w5 ⟨g5, c5, q, rfl, hq5, hb5, hg5, hO5⟩; have Q5 := Lib.hid hq5; have B5 := Lib.hid hb5; have N5 : Hid (g5 ∉ M1) := (fun hm => by have h1 := G1.out.2.2.2.1.lt _ hm; have h2 := O4.out.size; omega); have O5 := Lib.hid (O4.out.trans hO5 (by simp)); have hcell := (HpAt.past (show HpAt w1 hb p root from G1.out.2.2.2.2.1.blk HH.out HM.out) O5.out).cell 0; simp only [List.getElem?_cons_zero] at hcell; clear hq5 hb5 hg5 hO5)
    | (go_at_call 32; refine (PT.out _ _ _ _ _ (G1.out.2.2.2.1.past O5.out) B5.out N5.out).mono ?_; rintro e w6 ⟨M6, rfl, hP6, hS6⟩; have P6 := Lib.hid hP6; have S6 := Lib.hid hS6; clear hP6 hS6))
  go_ret
  exact ⟨q, M6, rfl, Q5.out, P6.out, (G1.out.2.2.2.2.then O5.out).trans S6.out⟩
set_option maxRecDepth 100000 in
set_option maxHeartbeats 1000000 in
theorem hfree_yes (hP : PoolV w p M u pg k) (hk : k + 10 ≤ 1000000) (hH : HpAt w hb p root) (hM : hb ∉ M) (hI : HeapIs u pg root ids) (r : Nat) {v : Ver} (hv : IsVer pg ids r v) :
    Calls Tryz.prog 9 #[.pointer (some ⟨hb, 0, none⟩), .int .u64 r] w fun e w' => ∃ q q2 M', e = .returned (.int .i64 0) ∧ Del (pg (r / 128)) (r % 128 + 1) q ∧ Del q (r % 128) q2 ∧ PoolV w' p M' u (upd pg (r / 128) q2) (k + 4) ∧ Step M M' w w' := by
  have FY := Lib.hid (find_yes hP (by omega) hH hM hI r hv)
  obtain ⟨hid, hver⟩ := hv
  have hu := hI.used _ hid
  obtain ⟨_, _, _, hpage⟩ := hI.at hid
  obtain ⟨hodd, s, h1, h2, h3, h4, h5, h6⟩ := verAt_some hpage hver
  have D1 : Hid (∀ w1 v', BytesC w1 v' (pg (r / 128)) → Calls Tryz.prog 40 #[v', .int .i64 (r % 128 + 1 : Nat)] w1 fun e w' => ∃ gb c q, e = .returned (.tuple #[.slice (some ⟨gb, 0, none⟩) 512 c, .int .i64 0]) ∧ (Del (pg (r / 128)) (r % 128 + 1) q ∧ Pg q ∧ r % 128 < nS q ∧ sP q (r % 128) ≠ 0) ∧ Buf w' gb c q ∧ w1.heap.size ≤ gb ∧ Only [] w1 w') := fun w1 v' g1 => by
    obtain ⟨k1, k2⟩ := ct_isSome h2
    refine (delete_yes g1 hpage.pg k1 k2).mono ?_
    rintro e w' ⟨gb, c, q, rfl, hq, r⟩
    have C1 := hq.cut hpage.pg k1 k2
    have hqj := C1.rest (_) (show _ ≠ _ from Nat.ne_of_lt (Nat.lt_succ_self _))
    rw [h1] at hqj
    obtain ⟨k3, k4⟩ := ct_isSome hqj
    exact ⟨gb, c, q, rfl, ⟨hq, C1.pg, k3, k4⟩, r⟩
  have hsl : r % 128 < 128 := Nat.mod_lt _ (by omega)
  have HU := Lib.hid hu
  have HH := Lib.hid hH
  have HM := Lib.hid hM
  clear hP hH hM hI hid hver hpage h1 h2 h3 h4 h5 h6 hu hodd
  obtain ⟨id, hide⟩ : ∃ id, r / 128 = id := ⟨_, rfl⟩
  obtain ⟨slot, hsle⟩ : ∃ slot, r % 128 = slot := ⟨_, rfl⟩
  rw [hide] at FY D1 HU ⊢
  rw [hsle] at FY D1 hsl ⊢
  clear hide hsle
  have ew : wrap64 ((slot : Int) + 1) = ((slot + 1 : Nat) : Int) := by unfold wrap64; omega
  have PT : Hid (∀ w1 M1 gb c q, PoolV w1 p M1 u pg (k + 2) → Buf w1 gb c q → gb ∉ M1 → Calls Tryz.prog 32 #[.pointer (some ⟨p, 0, none⟩), .int .i64 id, .slice (some ⟨gb, 0, none⟩) 512 c, .int .u64 0] w1 fun e w' => ∃ M', e = .returned (.int .i64 0) ∧ PoolV w' p M' u (upd pg id q) (k + 2 + 2) ∧ Step M1 M' w1 w') := fun w1 M1 gb c q h1 h2 h3 => h1.put (by omega) HU.out h2.at (fun a n c he => by simp only [Value.slice.injEq, Option.some.injEq] at he; obtain ⟨rfl, _, _⟩ := he; exact h3) h2.1
  have EW := Lib.hid ew
  clear ew
  go_enter Tryz.func9, Tryz.ntmps9
  go_wp2_with (go_at_call 39; refine FY.out.mono ?_; rintro e w1 ⟨gb, c, M1, rfl, hg⟩; have G1 := Lib.hid hg; clear hg)
  (try rw [EW.out])
  refine (D1.out _ _ G1.out.1.c).mono ?_
  rintro e w2 ⟨g2, c2, q, rfl, hq2, hb2, hg2, hO2⟩
  have Q2 := Lib.hid hq2
  have B2 := Lib.hid hb2
  have O2 := Lib.hid hO2
  clear hq2 hb2 hg2 hO2
  go_wp2_with fail
  refine (delete_yes B2.out.c Q2.out.2.1 Q2.out.2.2.1 Q2.out.2.2.2).mono ?_
  rintro e w3 ⟨g3, c3, q3, rfl, hq3, hb3, hg3, hO3⟩
  have Q3 := Lib.hid hq3
  have B3 := Lib.hid hb3
  have N3 : Hid (g3 ∉ M1) := (fun hm => by have h1 := G1.out.2.2.2.1.lt _ hm; have h2 := O2.out.size; omega)
  have O3 := Lib.hid (O2.out.trans hO3 (by simp))
  have hcell := (HpAt.past (show HpAt w1 hb p root from G1.out.2.2.2.2.1.blk HH.out HM.out) O3.out).cell 0
  simp only [List.getElem?_cons_zero] at hcell
  clear hq3 hb3 hg3 hO3
  go_wp2_with (go_at_call 32; refine (PT.out _ _ _ _ _ (G1.out.2.2.2.1.past O3.out) B3.out N3.out).mono ?_; rintro e w6 ⟨M6, rfl, hP6, hS6⟩; have P6 := Lib.hid hP6; have S6 := Lib.hid hS6; clear hP6 hS6)
  go_ret
  exact ⟨q, q3, M6, rfl, Q2.out.1, Q3.out, P6.out, (G1.out.2.2.2.2.then O3.out).trans S6.out⟩
end
end Go.Proofs.YtfkmjbpnjgnkbaaGreat.H
