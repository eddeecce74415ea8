/-
  The document's pages: Replace: by contracts.
-/
import Derived.Test.YtdgnndcnpmlifaaRefF
namespace Go.Proofs.Ytdgnndcnpmlifaa.G
set_option linter.unusedSimpArgs false
open Go Go.RowKit Go.Proofs.Ytdgnndcnpmlifaa.B Go.Proofs.Ytdgnndcnpmlifaa.C
set_option linter.unusedVariables false
set_option maxRecDepth 100000 in
theorem rreplace_get {w : World} {v vb : Value} {p b : List UInt8} (h : BytesC w v p) (hv : BytesAt w vb b) (i : Int) (hi : -9223372036854775808 ≤ i ∧ i ≤ 9223372036854775807) {z : Nat} (hz : getE p i = z) (h0 : z ≠ 0) :
    Calls Try.prog 45 #[v, .int .i64 i, vb] w fun e w' => e = .returned (.tuple #[.slice none 0 0, .int .i64 z]) ∧ Only [] w w' := by
  have TH := Lib.hid (rthere_of h i hi hz)
  have hzB : ((z : Int) == 0) = false := beq_eq_false_iff_ne.2 (by omega)
  have hzC : ((z : Int) != 0) = true := bne_iff_ne.2 (by omega)
  have hzI : ¬ (z : Int) = 0 := by omega
  obtain ⟨ao, cap, rfl, hc⟩ := hv
  clear h hz hi hc
  generalize b.length = n at *
  go_enter Try.func45, Try.ntmps45
  go_wp2_with (go_at_call 63; refine TH.out.mono ?_; rintro e w1 ⟨rfl, hO1⟩; have O1 := Lib.hid hO1; clear hO1)
  go_ret2
  exact ⟨rfl, O1.out⟩
set_option maxRecDepth 100000 in
theorem rreplace_len {w : World} {v vb : Value} {p b : List UInt8} (h : BytesC w v p) (hv : BytesAt w vb b) (hp : Pg p) {i : Nat} (hi : i < nS p) (h0 : sP p i ≠ 0) (hb : b.length < 1 ∨ 400 < b.length) :
    Calls Try.prog 45 #[v, .int .i64 i, vb] w fun e w' => e = .returned (.tuple #[.slice none 0 0, .int .i64 43]) ∧ Only [] w w' := by
  have hm := hp.body.most
  have TH := Lib.hid (rthere_of h i (by omega) (getE_of hp hi h0))
  obtain ⟨ao, cap, rfl, hc⟩ := hv
  clear h hp hc hi h0
  generalize b.length = n at *
  by_cases h1 : n < 1
  · have i1 : (n : Int) < 1 := by omega
    clear hb h1
    go_enter Try.func45, Try.ntmps45
    go_wp2_with (go_at_call 63; refine TH.out.mono ?_; rintro e w1 ⟨rfl, hO1⟩; have O1 := Lib.hid hO1; clear hO1)
    go_ret2
    exact ⟨rfl, O1.out⟩
  · have i1 : ¬ (n : Int) < 1 := by omega
    have i2 : (n : Int) > 400 := by omega
    have i3 : ¬ (n : Int) ≤ 400 := by omega
    clear hb h1
    go_enter Try.func45, Try.ntmps45
    go_wp2_with (go_at_call 63; refine TH.out.mono ?_; rintro e w1 ⟨rfl, hO1⟩; have O1 := Lib.hid hO1; clear hO1)
    go_ret2
    exact ⟨rfl, O1.out⟩
set_option maxRecDepth 100000 in
set_option maxHeartbeats 4000000 in
theorem rreplace_ok {w : World} {v vb : Value} {p b : List UInt8} (h : BytesC w v p) (hv : BytesAt w vb b) (hp : Pg p) {i : Nat} (hi : i < nS p) (h0 : sP p i ≠ 0) (hb1 : 1 ≤ b.length) (hb2 : b.length ≤ 400) :
    Calls Try.prog 45 #[v, .int .i64 i, vb] w (RepRes w p i b) := by
  have HV := Lib.hid hv
  have hl := hp.body.len
  have hm := hp.body.most
  have TH := Lib.hid (rthere_of h i (by omega) (getE_of hp hi h0))
  obtain ⟨pb, po, pc, rfl, hpa⟩ := h.page hl
  have HP := Lib.hid hpa
  have hfit := hp.body.fit
  have TK : Hid (∀ w1 gb c, Buf w1 gb c p → Calls Try.prog 64 #[.slice (some ⟨gb, 0, none⟩) 512 c, .int .i64 i] w1 fun e w' => e = .returned (.slice (some ⟨gb, 0, none⟩) 512 c) ∧ ∃ q, Buf w' gb c q ∧ Took p i q ∧ Only [gb] w1 w') := fun w1 gb c h1 => rtaken_any h1 hp.body.core i hi h0
  have GN : Hid (∀ q, Took p i q → Gone p i q) := fun q hq => hp.body.core.take hi h0 hq
  have RS : Hid (∀ w1 gb c q, Took p i q → Buf w1 gb c q → Calls Try.prog 49 #[.slice (some ⟨gb, 0, none⟩) 512 c] w1 fun e w' => e = .returned (.int .i64 (nS p : Nat)) ∧ Only [] w1 w') := fun w1 gb c q hq h1 => by
    have := rslots_any h1.page
    rw [(GN.out q hq).count] at this
    exact this
  have RB : Hid (∀ w1 gb c q, Took p i q → Buf w1 gb c q → Calls Try.prog 50 #[.slice (some ⟨gb, 0, none⟩) 512 c] w1 fun e w' => e = .returned (.int .i64 (bg p + sL p i : Nat)) ∧ Only [] w1 w') := fun w1 gb c q hq h1 => by
    have := rbegin_any h1.page
    rw [(GN.out q hq).beg] at this
    exact this
  have LY : Hid (b.length ≤ freeB p + sL p i → ∀ w1 gb c q, Took p i q → Buf w1 gb c q → BytesAt w1 vb b → Calls Try.prog 62 #[.slice (some ⟨gb, 0, none⟩) 512 c, .int .i64 i, vb] w1 fun e w' => e = .returned (.slice (some ⟨gb, 0, none⟩) 512 c) ∧ Buf w' gb c (layP q i b) ∧ Only [gb] w1 w') := fun hx w1 gb c q hq h1 h2 => by
    have hG := GN.out q hq
    have h5 := hG.core.fin
    have h6 := hG.beg
    unfold freeB at hx
    exact rlaid_any h1 h2 i hb1 (by omega) h5
  have hin := hp.body.core.in_ hi h0
  have HL : Hid ((u8s p).length = 512) := by show _ = _; rw [length_u8s, hl]
  have HLP := Lib.hid hl
  obtain ⟨s, hs⟩ : ∃ s, bg p + sL p i = s := ⟨_, rfl⟩
  obtain ⟨t, ht⟩ : ∃ t, freeB p + sL p i = t := ⟨_, rfl⟩
  have et : (s : Int) - 10 - 4 * (nS p : Nat) = t := by unfold freeB at ht; omega
  have hs2 : s ≤ 1024 := by have := hp.body.fin; omega
  obtain ⟨ao, cap2, rfl, hc⟩ := hv
  unfold RepRes
  rw [ht] at LY
  rw [hs] at RB
  have HT := Lib.hid ht
  clear hc h hp hin hfit hpa
  generalize nS p = n at *
  generalize hbl : b.length = bl at *
  have b1 : ¬ (bl : Int) < 1 := by omega
  have b2 : ¬ (bl : Int) > 400 := by omega
  have b3 : (bl : Int) ≤ 400 := by omega
  have HBL := Lib.hid hbl
  clear ht hbl hb1 hb2 hs
  by_cases hx : bl ≤ t
  · have i1 : ¬ (bl : Int) > t := by omega
    have LY1 := Lib.hid (LY.out hx)
    have HX := Lib.hid hx
    clear LY hx
    go_enter Try.func45, Try.ntmps45
    go_wp2_with (first
      | (go_at_call 63; refine TH.out.mono ?_; rintro e w1 ⟨rfl, hO1⟩; have O1 := Lib.hid hO1; have P1 := Lib.hid (HP.out.past hO1); clear hO1)
      | (refine wpList_clone rfl _ _ _ rfl 5 Try.underlying23 (info_parts B.info_byte) rfl rfl pb po 512 pc (u8s p) rfl HL.out P1.out.src (u8s_oneCell _) (by omega) (by omega) (by omega) ?_; intro c2 w2 hr2 hO2 hs2; have B2 := Lib.hid (buf_clone HLP.out hr2); have O2 := Lib.hid (O1.out.trans hO2 (by simp)); clear hr2 hO2 hs2)
      | (go_at_call 64; refine (TK.out _ _ _ B2.out).mono ?_; rintro e w3 ⟨rfl, q, hb3, hq, hO3⟩; have B3 := Lib.hid hb3; have TQ := Lib.hid hq; have O3 := Lib.hid (O2.out.trans hO3 (fun x hx => by simp at hx; subst hx; exact .inr O1.out.size)); clear hb3 hq hO3)
      | (go_at_call 50; refine (RB.out _ _ _ _ TQ.out B3.out).mono ?_; rintro e w4 ⟨rfl, hO4⟩; have B4 := Lib.hid (B3.out.past hO4); have O4 := Lib.hid (O3.out.trans hO4 (by simp)); clear hO4)
      | (go_at_call 49; refine (RS.out _ _ _ _ TQ.out B4.out).mono ?_; rintro e w5 ⟨rfl, hO5⟩; have B5 := Lib.hid (B4.out.past hO5); have O5 := Lib.hid (O4.out.trans hO5 (by simp)); clear hO5)
      | (go_at_call 62; refine (LY1.out _ _ _ _ TQ.out B5.out (bytes_past HV.out O5.out)).mono ?_; rintro e w6 ⟨rfl, hb6, hO6⟩; have B6 := Lib.hid hb6; have O6 := Lib.hid (O5.out.trans hO6 (fun x hx => by simp at hx; subst hx; exact .inr O1.out.size)); clear hb6 hO6)
      | (go_at_call 43; refine (rsealed_any B6.out).mono ?_; rintro e w7 ⟨rfl, hb7, hO7⟩; have B7 := Lib.hid hb7; have O7 := Lib.hid (O6.out.trans hO7 (fun x hx => by simp at hx; subst hx; exact .inr O1.out.size)); clear hb7 hO7))
    go_ret2
    exact .inr ⟨by rw [HT.out]; exact HX.out, _, _, _, rfl, ⟨q, TQ.out, rfl⟩, B7.out, O1.out.size, O7.out⟩
  · have i1 : (bl : Int) > t := by omega
    have HX : Hid (t < bl) := by show _ < _; omega
    clear LY hx
    go_enter Try.func45, Try.ntmps45
    go_wp2_with (first
      | (go_at_call 63; refine TH.out.mono ?_; rintro e w1 ⟨rfl, hO1⟩; have O1 := Lib.hid hO1; have P1 := Lib.hid (HP.out.past hO1); clear hO1)
      | (refine wpList_clone rfl _ _ _ rfl 5 Try.underlying23 (info_parts B.info_byte) rfl rfl pb po 512 pc (u8s p) rfl HL.out P1.out.src (u8s_oneCell _) (by omega) (by omega) (by omega) ?_; intro c2 w2 hr2 hO2 hs2; have B2 := Lib.hid (buf_clone HLP.out hr2); have O2 := Lib.hid (O1.out.trans hO2 (by simp)); clear hr2 hO2 hs2)
      | (go_at_call 64; refine (TK.out _ _ _ B2.out).mono ?_; rintro e w3 ⟨rfl, q, hb3, hq, hO3⟩; have B3 := Lib.hid hb3; have TQ := Lib.hid hq; have O3 := Lib.hid (O2.out.trans hO3 (fun x hx => by simp at hx; subst hx; exact .inr O1.out.size)); clear hb3 hq hO3)
      | (go_at_call 50; refine (RB.out _ _ _ _ TQ.out B3.out).mono ?_; rintro e w4 ⟨rfl, hO4⟩; have B4 := Lib.hid (B3.out.past hO4); have O4 := Lib.hid (O3.out.trans hO4 (by simp)); clear hO4)
      | (go_at_call 49; refine (RS.out _ _ _ _ TQ.out B4.out).mono ?_; rintro e w5 ⟨rfl, hO5⟩; have B5 := Lib.hid (B4.out.past hO5); have O5 := Lib.hid (O4.out.trans hO5 (by simp)); clear hO5))
    go_ret2
    exact .inl ⟨by rw [HT.out]; exact HX.out, rfl, O5.out⟩
theorem rreplace_no {w : World} {v vb : Value} {p b : List UInt8} (h : BytesC w v p) (hv : BytesAt w vb b) (i : Int) (hi : -9223372036854775808 ≤ i ∧ i ≤ 9223372036854775807) {z : Nat} (hz : repE p i b = z) (h0 : z ≠ 0) :
    Calls Try.prog 45 #[v, .int .i64 i, vb] w fun e w' => e = .returned (.tuple #[.slice none 0 0, .int .i64 z]) ∧ Only [] w w' := by
  unfold repE at hz
  by_cases hg : getE p i = 0
  · rw [if_neg (by simp [hg])] at hz
    obtain ⟨hp, k, rfl, hk, hk0⟩ := getE_ok hg
    by_cases hb : b.length < 1 ∨ 400 < b.length
    · rw [if_pos hb] at hz
      subst hz
      exact rreplace_len h hv hp hk hk0 hb
    · rw [if_neg hb] at hz
      simp only [Int.toNat_natCast] at hz
      by_cases hf : freeB p + sL p k < b.length
      · rw [if_pos hf] at hz
        subst hz
        refine (rreplace_ok h hv hp hk hk0 (by omega) (by omega)).mono ?_
        rintro e w' (⟨_, he, hO⟩ | ⟨hn, _⟩)
        · exact ⟨he, hO⟩
        · omega
      · rw [if_neg hf] at hz
        exact absurd hz.symm h0
  · rw [if_pos hg] at hz
    exact rreplace_get h hv i hi hz h0
theorem rreplace_yes {w : World} {v vb : Value} {p b : List UInt8} (h : BytesC w v p) (hv : BytesAt w vb b) (hp : Pg p) {k : Nat} (hk : k < nS p) (hk0 : sP p k ≠ 0) (h1 : 1 ≤ b.length) (h2 : b.length ≤ 400) (h3 : b.length ≤ freeB p + sL p k) :
    Calls Try.prog 45 #[v, .int .i64 k, vb] w fun e w' => ∃ gb c r, e = .returned (.tuple #[.slice (some ⟨gb, 0, none⟩) 512 c, .int .i64 0]) ∧ Rep p k b r ∧ Buf w' gb c r ∧ w.heap.size ≤ gb ∧ Only [] w w' := by
  refine (rreplace_ok h hv hp hk hk0 h1 h2).mono ?_
  rintro e w' (⟨hn, _⟩ | ⟨_, hr⟩)
  · omega
  · exact hr
end Go.Proofs.Ytdgnndcnpmlifaa.G
