import Derived.Test.YtfkmjbpnjgnkbaaGreatMPageJ
import Derived.Test.YtfkmjbpnjgnkbaaGreatMPageT
/-
  The program's pages: Delete, Replace: by contracts.
-/
namespace Go.Proofs.YtfkmjbpnjgnkbaaGreat.G
set_option linter.unusedSimpArgs false
open Go Go.RowKit Go.Proofs.YtfkmjbpnjgnkbaaGreat.B Go.Proofs.YtfkmjbpnjgnkbaaGreat.C
set_option linter.unusedVariables false
theorem clone_buf {w : World} {v : Value} {p : List UInt8} (h : BytesC w v p) (hl : p.length = 512) :
    Calls Tryz.prog 59 #[v] w fun e w' => ∃ gb c, e = .returned (.slice (some ⟨gb, 0, none⟩) 512 c) ∧ Buf w' gb c p ∧ w.heap.size ≤ gb ∧ Only [] w w' :=
  (clone_any h.1 (by omega)).mono fun e w' ⟨v', he, ho⟩ => by
    obtain ⟨gb, c, rfl, hb, hg, hO⟩ := own_buf ho hl
    exact ⟨gb, c, he, hb, hg, hO⟩
set_option maxRecDepth 100000 in
theorem delete_no {w : World} {v : Value} {p : List UInt8} (h : BytesC w v p) (i : Int) (hi : -9223372036854775808 ≤ i ∧ i ≤ 9223372036854775807) {z : Nat} (hz : getE p i = z) (h0 : z ≠ 0) :
    Calls Tryz.prog 40 #[v, .int .i64 i] w fun e w' => e = .returned (.tuple #[.slice none 0 0, .int .i64 z]) ∧ Only [] w w' := by
  have AT := Lib.hid (at_no h i hi hz h0)
  have hzB : ((z : Int) == 0) = false := beq_eq_false_iff_ne.2 (by omega)
  have hzI : ¬ (z : Int) = 0 := by omega
  clear h hz hi
  go_enter Tryz.func40, Tryz.ntmps40
  go_wp2_with (go_at_call 56; refine AT.out.mono ?_; rintro e w1 ⟨rfl, hO1⟩; have O1 := Lib.hid hO1; clear hO1)
  go_ret2
  exact ⟨rfl, O1.out.alloc _⟩
theorem trim_step {q : List UInt8} {m : Nat} (h : sP q m = 0) : trimN q (m + 1) = trimN q m := by
  show (if sP q m = 0 then _ else _) = _
  rw [if_pos h]
theorem trim_stop {q : List UInt8} {m : Nat} (h : sP q m ≠ 0) : trimN q (m + 1) = m + 1 := by
  show (if sP q m = 0 then _ else _) = _
  rw [if_neg h]
set_option maxRecDepth 100000 in
set_option maxHeartbeats 4000000 in
theorem delete_yes {w : World} {v : Value} {p : List UInt8} (h : BytesC w v p) (hp : Pg p) {i : Nat} (hi : i < nS p) (h0 : sP p i ≠ 0) :
    Calls Tryz.prog 40 #[v, .int .i64 i] w fun e w' => ∃ gb c r, e = .returned (.tuple #[.slice (some ⟨gb, 0, none⟩) 512 c, .int .i64 0]) ∧ Del p i r ∧ Buf w' gb c r ∧ w.heap.size ≤ gb ∧ Only [] w w' := by
  have HB := Lib.hid h
  have hl := hp.body.len
  have AT := Lib.hid (at_yes h hp hi h0)
  have CN : Hid (∀ w1, BytesC w1 v p → Calls Tryz.prog 59 #[v] w1 fun e w' => ∃ gb c, e = .returned (.slice (some ⟨gb, 0, none⟩) 512 c) ∧ Buf w' gb c p ∧ w1.heap.size ≤ gb ∧ Only [] w1 w') := fun w1 h1 => clone_buf h1 hl
  have TK : Hid (∀ w1 gb c, Buf w1 gb c p → Calls Tryz.prog 60 #[.slice (some ⟨gb, 0, none⟩) 512 c, .int .i64 i] w1 fun e w' => e = .returned (.tuple #[]) ∧ ∃ q, Buf w' gb c q ∧ Took p i q ∧ Only [gb] w1 w') := fun w1 gb c h1 => take_any h1 hp.body.core i hi h0
  have GN : Hid (∀ q, Took p i q → Gone p i q) := fun q hq => hp.body.core.take hi h0 hq
  have WH : Hid (∀ w1 gb c q, Buf w1 gb c q → Calls Tryz.prog 58 #[.slice (some ⟨gb, 0, none⟩) 512 c] w1 fun e w' => e = .returned (arr q) ∧ Only [] w1 w') := fun w1 gb c q h1 => whole_any h1.at h1.1
  have SL : Hid (∀ w1 q, Took p i q → Calls Tryz.prog 67 #[arr q] w1 fun e w' => ∃ v, e = .returned v ∧ w'.ownsRow 0 111 2 v (nS q) (rowC (cells q)) ∧ (∀ k, v.ownBlock = some k → w1.heap.size ≤ k) ∧ Only [] w1 w') := fun w1 q hq => slots_any hq.len (by have := (GN.out q hq).core.most; omega)
  generalize sL p i = L at *
  generalize sP p i = P at *
  clear h hp
  go_enter Tryz.func40, Tryz.ntmps40
  go_wp2_with (first
    | (go_at_call 56; refine AT.out.mono ?_; rintro e w1 ⟨rfl, hO1⟩; have O1 := Lib.hid (hO1.alloc (.cells #[.int .i64 P, .int .i64 L] 111)); clear hO1)
    | (go_at_call 59; refine (CN.out _ (HB.out.past O1.out)).mono ?_; rintro e w2 ⟨gb, c, rfl, hb2, hg2, hO2⟩; have B2 := Lib.hid hb2; have G2 := Lib.hid (Nat.le_trans O1.out.size hg2); have O2 := Lib.hid (O1.out.trans hO2 (by simp)); clear hb2 hg2 hO2)
    | (go_at_call 60; refine (TK.out _ _ _ B2.out).mono ?_; rintro e w3 ⟨rfl, q, hb3, hq, hO3⟩; have B3 := Lib.hid hb3; have TQ := Lib.hid hq; have O3 := Lib.hid (O2.out.trans hO3 (fun x hx => by simp at hx; subst hx; exact .inr G2.out)); clear hb3 hq hO3)
    | (go_at_call 58; refine (WH.out _ _ _ _ B3.out).mono ?_; rintro e w4 ⟨rfl, hO4⟩; have B4 := Lib.hid (B3.out.past hO4); have O4 := Lib.hid (O3.out.trans hO4 (by simp)); clear hO4)
    | (go_at_call 67; refine (SL.out _ _ TQ.out).mono ?_; rintro e w5 ⟨v5, rfl, hr5, hg5, hO5⟩; have R5 := Lib.hid hr5; have B5 := Lib.hid (B4.out.past hO5); have O5 := Lib.hid (O4.out.trans hO5 (by simp)); obtain ⟨a5, c5, rfl⟩ := owns_form hr5; clear hr5 hg5 hO5))
  have GQ := Lib.hid (GN.out q TQ.out)
  have DD : Hid (∀ m, trimN q m = trimN q (nS q) → trimN q m = m → Del p i (sealedP (put q 6 m))) := fun m h1 h2 => ⟨q, TQ.out, by rw [← h1, h2]⟩
  have hm5 := GQ.out.core.most
  have CL : Hid (∀ k, k < nS q → (cells q)[k]? = some (sP q k, sL q k)) := fun k hk => by rw [List.getElem?_eq_getElem (by rw [cells_len]; exact hk), cells_get]
  have SOME : Hid (0 < nS q → ∃ g, a5 = some ⟨g, 0, none⟩) := fun h => by
    obtain ⟨g, c, he, _⟩ := owns_some R5.out h
    simp only [Value.slice.injEq, true_and] at he
    exact ⟨g, he.1⟩
  clear SL WH TK CN AT
  go_loopg [10] (nS q + 1) (fun gk s10 wx => ∃ m : Nat, gk = m + 1 ∧ m ≤ nS q ∧ s10 = .int .i64 m ∧ trimN q m = trimN q (nS q) ∧ wx = w5)
  case atStart => exact ⟨nS q, rfl, Nat.le_refl _, rfl, rfl, rfl⟩
  case round =>
    obtain ⟨m, hgk, hm, rfl, htr, rfl⟩ := hrel
    have HGK := Lib.hid hgk
    have TR := Lib.hid htr
    clear hgk htr
    have PU : Hid (∀ (m : Nat) w1, m ≤ 125 → Buf w1 gb c q → Calls Tryz.prog 68 #[.slice (some ⟨gb, 0, none⟩) 512 c, .int .i64 6, .int .i64 m] w1 fun e w' => e = .returned (.tuple #[]) ∧ Buf w' gb c (put q 6 m) ∧ Only [gb] w1 w') := fun m w1 h0 h1 => put_any h1 6 m (by omega) (by omega)
    cases m with
    | zero =>
      have DM := Lib.hid (DD.out 0 TR.out rfl)
      have P0 := Lib.hid (PU.out 0 _ (by omega) B5.out)
      go_wp2_with (first
        | (go_at_call 68; refine P0.out.mono ?_; rintro e w8 ⟨rfl, hb8, hO8⟩; have B8 := Lib.hid hb8; have O8 := Lib.hid (O5.out.trans hO8 (fun x hx => by simp at hx; subst hx; exact .inr G2.out)); clear hb8 hO8)
        | (go_at_call 62; refine (sealed_any B8.out.at B8.out.1).mono ?_; rintro e wA ⟨gb2, c2, rfl, hbA, hgA, hOA⟩; have BA := Lib.hid hbA; have GA := Lib.hid (Nat.le_trans O8.out.size hgA); have OA := Lib.hid (O8.out.trans hOA (by simp)); clear hbA hgA hOA))
      go_ret2
      exact ⟨gb2, c2, _, rfl, DM.out, BA.out, GA.out, OA.out⟩
    | succ m =>
      obtain ⟨k, hk⟩ : ∃ k, m + 1 = k := ⟨_, rfl⟩
      rw [hk]
      obtain ⟨g5, rfl⟩ := SOME.out (by omega)
      have y5 := row_range R5.out (show m < nS q by omega) (CL.out m (by omega)) 0 _ rfl
      rw [Nat.add_zero] at y5
      have i1 : (k : Int) > 0 := by omega
      have i2 : (k : Int) - 1 = m := by omega
      have i3 : (0 : Int) ≤ m := by omega
      have i4 : (m : Int) < (nS q : Nat) := by omega
      have DK := DD.out (m + 1) TR.out
      by_cases hz : sP q m = 0
      · have T2 := Lib.hid ((trim_step hz).symm.trans TR.out)
        rw [hz] at y5
        have HK := Lib.hid hk
        clear hk DK
        go_wp2_with fail
        go_roundg (m + 1)
        case measure => have := HGK.out; have := HK.out; omega
        case rel => exact ⟨m, rfl, by have := HK.out; omega, by go_num, T2.out, rfl⟩
      · have DM := DK (trim_stop hz)
        rw [hk] at DM
        have DM := Lib.hid DM
        have zI : ¬ (sP q m : Int) = 0 := by omega
        have zB : ((sP q m : Int) == 0) = false := beq_eq_false_iff_ne.2 zI
        have PK := Lib.hid (PU.out k _ (by omega) B5.out)
        generalize sP q m = a at *
        clear hk DK
        go_wp2_with (first
          | (go_at_call 68; refine PK.out.mono ?_; rintro e w8 ⟨rfl, hb8, hO8⟩; have B8 := Lib.hid hb8; have O8 := Lib.hid (O5.out.trans hO8 (fun x hx => by simp at hx; subst hx; exact .inr G2.out)); clear hb8 hO8)
          | (go_at_call 62; refine (sealed_any B8.out.at B8.out.1).mono ?_; rintro e wA ⟨gb2, c2, rfl, hbA, hgA, hOA⟩; have BA := Lib.hid hbA; have GA := Lib.hid (Nat.le_trans O8.out.size hgA); have OA := Lib.hid (O8.out.trans hOA (by simp)); clear hbA hgA hOA))
        go_ret2
        exact ⟨gb2, c2, _, rfl, DM.out, BA.out, GA.out, OA.out⟩
end Go.Proofs.YtfkmjbpnjgnkbaaGreat.G

/-
  The program's pages: Replace: by contracts.
-/
namespace Go.Proofs.YtfkmjbpnjgnkbaaGreat.G
set_option linter.unusedSimpArgs false
open Go Go.RowKit Go.Proofs.YtfkmjbpnjgnkbaaGreat.B Go.Proofs.YtfkmjbpnjgnkbaaGreat.C
set_option linter.unusedVariables false
set_option maxRecDepth 100000 in
theorem replace_get {w : World} {v vb : Value} {p : List UInt8} (h : BytesC w v p) (i : Int) (hi : -9223372036854775808 ≤ i ∧ i ≤ 9223372036854775807) {z : Nat} (hz : getE p i = z) (h0 : z ≠ 0) :
    Calls Tryz.prog 35 #[v, .int .i64 i, vb] w fun e w' => e = .returned (.tuple #[.slice none 0 0, .int .i64 z]) ∧ Only [] w w' := by
  have AT := Lib.hid (at_no h i hi hz h0)
  have hzB : ((z : Int) == 0) = false := beq_eq_false_iff_ne.2 (by omega)
  have hzI : ¬ (z : Int) = 0 := by omega
  clear h hz hi
  go_enter Tryz.func35, Tryz.ntmps35
  go_wp2_with (go_at_call 56; refine AT.out.mono ?_; rintro e w1 ⟨rfl, hO1⟩; have O1 := Lib.hid hO1; clear hO1)
  go_ret2
  exact ⟨rfl, O1.out.alloc _⟩
set_option maxRecDepth 100000 in
theorem replace_len {w : World} {v vb : Value} {p b : List UInt8} (h : BytesC w v p) (hv : BytesAt w vb b) (hp : Pg p) {i : Nat} (hi : i < nS p) (h0 : sP p i ≠ 0) (hb : b.length < 1 ∨ 400 < b.length) :
    Calls Tryz.prog 35 #[v, .int .i64 i, vb] w fun e w' => e = .returned (.tuple #[.slice none 0 0, .int .i64 43]) ∧ Only [] w w' := by
  have AT := Lib.hid (at_yes h hp hi h0)
  obtain ⟨ao, cap, rfl, hc⟩ := hv
  clear h hp hc hi h0
  generalize sP p i = P at *
  generalize sL p i = L at *
  generalize b.length = n at *
  by_cases h1 : n < 1
  · have i1 : (n : Int) < 1 := by omega
    clear hb h1
    go_enter Tryz.func35, Tryz.ntmps35
    go_wp2_with (go_at_call 56; refine AT.out.mono ?_; rintro e w1 ⟨rfl, hO1⟩; have O1 := Lib.hid hO1; clear hO1)
    go_ret2
    exact ⟨rfl, O1.out.alloc _⟩
  · have i1 : ¬ (n : Int) < 1 := by omega
    have i2 : (n : Int) > 400 := by omega
    have i3 : ¬ (n : Int) ≤ 400 := by omega
    clear hb h1
    go_enter Tryz.func35, Tryz.ntmps35
    go_wp2_with (go_at_call 56; refine AT.out.mono ?_; rintro e w1 ⟨rfl, hO1⟩; have O1 := Lib.hid hO1; clear hO1)
    go_ret2
    exact ⟨rfl, O1.out.alloc _⟩
/-- What Replace tells of a page, a slot that is used, and a cell that may be laid. -/
def RepRes (w : World) (p : List UInt8) (i : Nat) (b : List UInt8) (e : Ending) (w' : World) : Prop :=
  (freeB p + sL p i < b.length ∧ e = .returned (.tuple #[.slice none 0 0, .int .i64 42]) ∧ Only [] w w') ∨
  (b.length ≤ freeB p + sL p i ∧ ∃ gb c r, e = .returned (.tuple #[.slice (some ⟨gb, 0, none⟩) 512 c, .int .i64 0]) ∧ Rep p i b r ∧ Buf w' gb c r ∧ w.heap.size ≤ gb ∧ Only [] w w')
set_option maxRecDepth 100000 in
set_option maxHeartbeats 4000000 in
theorem replace_ok {w : World} {v vb : Value} {p b : List UInt8} (h : BytesC w v p) (hv : BytesAt w vb b) (hp : Pg p) {i : Nat} (hi : i < nS p) (h0 : sP p i ≠ 0) (hb1 : 1 ≤ b.length) (hb2 : b.length ≤ 400) :
    Calls Tryz.prog 35 #[v, .int .i64 i, vb] w (RepRes w p i b) := by
  have HB := Lib.hid h
  have HV := Lib.hid hv
  have hl := hp.body.len
  have AT := Lib.hid (at_yes h hp hi h0)
  have CN : Hid (∀ w1, BytesC w1 v p → Calls Tryz.prog 59 #[v] w1 fun e w' => ∃ gb c, e = .returned (.slice (some ⟨gb, 0, none⟩) 512 c) ∧ Buf w' gb c p ∧ w1.heap.size ≤ gb ∧ Only [] w1 w') := fun w1 h1 => clone_buf h1 hl
  have TK : Hid (∀ w1 gb c, Buf w1 gb c p → Calls Tryz.prog 60 #[.slice (some ⟨gb, 0, none⟩) 512 c, .int .i64 i] w1 fun e w' => e = .returned (.tuple #[]) ∧ ∃ q, Buf w' gb c q ∧ Took p i q ∧ Only [gb] w1 w') := fun w1 gb c h1 => take_any h1 hp.body.core i hi h0
  have GN : Hid (∀ q, Took p i q → Gone p i q) := fun q hq => hp.body.core.take hi h0 hq
  have WH : Hid (∀ w4 : World, BytesC w4 v p → ∀ x : Later w4, Calls Tryz.prog 58 #[v] x.v fun e w' => e = .returned (arr p) ∧ ∃ y : Later w4, w' = y.v) := fun (w4 : World) h4 x => Calls.later (fun w1 hO => whole_any (h4.past hO).1 hl) x
  have FR : Hid (∀ w4 : World, ∀ x : Later w4, Calls Tryz.prog 57 #[arr p] x.v fun e w' => e = .returned (.int .i64 (freeB p : Nat)) ∧ ∃ y : Later w4, w' = y.v) := fun (w4 : World) x => Calls.later (fun w1 hO => free_any hl hp.body.fit) x
  have LY : Hid (b.length ≤ freeB p + sL p i → ∀ w1 gb c q, Took p i q → Buf w1 gb c q → BytesAt w1 vb b → Calls Tryz.prog 61 #[.slice (some ⟨gb, 0, none⟩) 512 c, .int .i64 i, vb] w1 fun e w' => e = .returned (.tuple #[]) ∧ Buf w' gb c (layP q i b) ∧ Only [gb] w1 w') := fun hx w1 gb c q hq h1 h2 => by
    have hG := GN.out q hq
    have h5 := hG.core.fin
    have h6 := hG.beg
    have h7 := hp.body.fit
    unfold freeB at hx
    exact lay_any h1 h2 i hb1 (by omega) h5
  have hin := hp.body.core.in_ hi h0
  have hfr : freeB p + sL p i ≤ 1024 := by unfold freeB; have := hp.body.fin; omega
  obtain ⟨ao, cap2, rfl, hc⟩ := hv
  unfold RepRes
  clear hc h hp hin
  generalize sP p i = P at *
  generalize sL p i = L at *
  generalize freeB p = f at *
  generalize hbl : b.length = n at *
  obtain ⟨t, ht⟩ : ∃ t, f + L = t := ⟨_, rfl⟩
  have e1 : (f : Int) + L = t := by omega
  have b1 : ¬ (n : Int) < 1 := by omega
  have b2 : ¬ (n : Int) > 400 := by omega
  have b3 : (n : Int) ≤ 400 := by omega
  have HT := Lib.hid ht
  have HBL := Lib.hid hbl
  have ew : IntKind.i64.wrap ((f : Int) + L) = t := by simp [IntKind.wrap_i64]; omega
  clear ht hbl hb1 hb2 e1
  go_enter Tryz.func35, Tryz.ntmps35
  go_wp2_with (go_at_call 56; refine AT.out.mono ?_; rintro e w1 ⟨rfl, hO1⟩; have O1 := Lib.hid (hO1.alloc (.cells #[.int .i64 P, .int .i64 L] 111)); have A1 := Lib.hid (Blk.new [.int .i64 P, .int .i64 L] 111 w1); clear hO1)
  have y1 := A1.out.cell 1
  simp only [List.getElem?_cons_succ, List.getElem?_cons_zero] at y1
  have Y1 := Later.cell y1
  have WH1 := Lib.hid (WH.out _ (HB.out.past O1.out))
  have FR1 := Lib.hid (FR.out (w1.alloc (.cells #[.int .i64 P, .int .i64 L] 111)))
  have Y1 := fun x => Y1 x
  by_cases hx : n ≤ t
  · have i1 : ¬ (n : Int) > t := by omega
    have i2 : (n : Int) ≤ t := by omega
    have LY1 := Lib.hid (LY.out (by rw [HT.out]; exact hx))
    clear LY hx
    refine wp_region_later (Only.refl _ _) (by kernel_rfl) (by kernel_rfl) ?_
    repeat (go_big_quiet_step ((first | (go_at_call 58; exact WH1.out _) | (go_at_call 57; exact FR1.out _))))
    refine wpQuiet_nil ?_
    rintro _ ⟨xq, rfl⟩
    have OQ := Lib.hid (O1.out.trans xq.h (by simp))
    go_wp2_with (first
      | (go_at_call 59; refine (CN.out _ (HB.out.past OQ.out)).mono ?_; rintro e w2 ⟨gb, c, rfl, hb2, hg2, hO2⟩; have B2 := Lib.hid hb2; have G2 := Lib.hid (Nat.le_trans OQ.out.size hg2); have O2 := Lib.hid (OQ.out.trans hO2 (by simp)); clear hb2 hg2 hO2)
      | (go_at_call 60; refine (TK.out _ _ _ B2.out).mono ?_; rintro e w3 ⟨rfl, q, hb3, hq, hO3⟩; have B3 := Lib.hid hb3; have TQ := Lib.hid hq; have O3 := Lib.hid (O2.out.trans hO3 (fun x hx => by simp at hx; subst hx; exact .inr G2.out)); clear hb3 hq hO3)
      | (go_at_call 61; refine (LY1.out _ _ _ _ TQ.out B3.out (bytes_past HV.out O3.out)).mono ?_; rintro e w9 ⟨rfl, hb9, hO9⟩; have B9 := Lib.hid hb9; have O9 := Lib.hid (O3.out.trans hO9 (fun x hx => by simp at hx; subst hx; exact .inr G2.out)); clear hb9 hO9)
      | (go_at_call 62; refine (sealed_any B9.out.at B9.out.1).mono ?_; rintro e wA ⟨gb2, c2, rfl, hbA, hgA, hOA⟩; have BA := Lib.hid hbA; have GA := Lib.hid (Nat.le_trans O9.out.size hgA); have OA := Lib.hid (O9.out.trans hOA (by simp)); clear hbA hgA hOA))
    go_ret2
    exact .inr ⟨by have := HT.out; omega, gb2, c2, _, rfl, ⟨q, TQ.out, rfl⟩, BA.out, GA.out, OA.out⟩
  · have i1 : (n : Int) > t := by omega
    have i2 : ¬ (n : Int) ≤ t := by omega
    refine wp_region_later (Only.refl _ _) (by kernel_rfl) (by kernel_rfl) ?_
    repeat (go_big_quiet_step ((first | (go_at_call 58; exact WH1.out _) | (go_at_call 57; exact FR1.out _))))
    refine wpQuiet_nil ?_
    rintro _ ⟨xq, rfl⟩
    have OQ := Lib.hid (O1.out.trans xq.h (by simp))
    go_wp2_with fail
    go_ret2
    exact .inl ⟨by have := HT.out; omega, rfl, OQ.out⟩
/-- Replace: refused. -/
theorem replace_no {w : World} {v vb : Value} {p b : List UInt8} (h : BytesC w v p) (hv : BytesAt w vb b) (i : Int) (hi : -9223372036854775808 ≤ i ∧ i ≤ 9223372036854775807) {z : Nat} (hz : repE p i b = z) (h0 : z ≠ 0) :
    Calls Tryz.prog 35 #[v, .int .i64 i, vb] w fun e w' => e = .returned (.tuple #[.slice none 0 0, .int .i64 z]) ∧ Only [] w w' := by
  unfold repE at hz
  by_cases hg : getE p i = 0
  · rw [if_neg (by simp [hg])] at hz
    obtain ⟨hp, k, rfl, hk, hk0⟩ := getE_ok hg
    by_cases hb : b.length < 1 ∨ 400 < b.length
    · rw [if_pos hb] at hz
      subst hz
      exact replace_len h hv hp hk hk0 hb
    · rw [if_neg hb] at hz
      simp only [Int.toNat_natCast] at hz
      by_cases hf : freeB p + sL p k < b.length
      · rw [if_pos hf] at hz
        subst hz
        refine (replace_ok h hv hp hk hk0 (by omega) (by omega)).mono ?_
        rintro e w' (⟨_, he, hO⟩ | ⟨hn, _⟩)
        · exact ⟨he, hO⟩
        · omega
      · rw [if_neg hf] at hz
        exact absurd hz.symm h0
  · rw [if_pos hg] at hz
    exact replace_get h i hi hz h0
theorem repE_ok {p b : List UInt8} {i : Int} (h : repE p i b = 0) : Pg p ∧ ∃ k : Nat, i = k ∧ k < nS p ∧ sP p k ≠ 0 ∧ 1 ≤ b.length ∧ b.length ≤ 400 ∧ b.length ≤ freeB p + sL p k := by
  unfold repE at h
  by_cases hg : getE p i = 0
  · rw [if_neg (by simp [hg])] at h
    obtain ⟨hp, k, rfl, hk, hk0⟩ := getE_ok hg
    by_cases hb : b.length < 1 ∨ 400 < b.length
    · rw [if_pos hb] at h; cases h
    · rw [if_neg hb] at h
      simp only [Int.toNat_natCast] at h
      by_cases hf : freeB p + sL p k < b.length
      · rw [if_pos hf] at h; cases h
      · exact ⟨hp, k, rfl, hk, hk0, by omega, by omega, by omega⟩
  · rw [if_pos hg] at h
    exact absurd h hg
/-- Replace: done. -/
theorem replace_yes {w : World} {v vb : Value} {p b : List UInt8} (h : BytesC w v p) (hv : BytesAt w vb b) (hp : Pg p) {k : Nat} (hk : k < nS p) (hk0 : sP p k ≠ 0) (h1 : 1 ≤ b.length) (h2 : b.length ≤ 400) (h3 : b.length ≤ freeB p + sL p k) :
    Calls Tryz.prog 35 #[v, .int .i64 k, vb] w fun e w' => ∃ gb c r, e = .returned (.tuple #[.slice (some ⟨gb, 0, none⟩) 512 c, .int .i64 0]) ∧ Rep p k b r ∧ Buf w' gb c r ∧ w.heap.size ≤ gb ∧ Only [] w w' := by
  refine (replace_ok h hv hp hk hk0 h1 h2).mono ?_
  rintro e w' (⟨hn, _⟩ | ⟨_, hr⟩)
  · omega
  · exact hr
end Go.Proofs.YtfkmjbpnjgnkbaaGreat.G
