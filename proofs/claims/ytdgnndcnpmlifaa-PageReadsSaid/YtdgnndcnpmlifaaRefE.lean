/-
  The document's pages: Insert, Replace, Delete: by contracts.
-/
import Derived.Test.YtdgnndcnpmlifaaRefD
import Derived.Test.YtdgnndcnpmlifaaPageL
namespace Go.Proofs.Ytdgnndcnpmlifaa.G
set_option linter.unusedSimpArgs false
open Go Go.RowKit Go.Proofs.Ytdgnndcnpmlifaa.B Go.Proofs.Ytdgnndcnpmlifaa.C
set_option linter.unusedVariables false
theorem freeS_at {p : List UInt8} {f : Nat} (h1 : ∀ k, k < f → sP p k ≠ 0) (h2 : f ≤ nS p) (h3 : f = nS p ∨ sP p f = 0) : freeS p = f := by
  have hle := freeS_le p
  rcases Nat.lt_trichotomy (freeS p) f with h | h | h
  · exact absurd (freeS_free (by omega)) (h1 _ h)
  · exact h
  · rcases h3 with h3 | h3
    · omega
    · exact absurd h3 (freeS_used h)
set_option maxRecDepth 100000 in
set_option maxHeartbeats 1000000 in
theorem rinsert_form {w : World} {v vb : Value} {p b : List UInt8} (h : BytesC w v p) (hv : BytesAt w vb b) (hb : ¬ Pg p ∨ b.length < 1 ∨ 400 < b.length) {z : Nat} (hz : insE p b = z) :
    Calls Try.prog 44 #[v, vb] w fun e w' => e = .returned (.tuple #[.slice none 0 0, .int .i64 0, .int .i64 z]) ∧ Only [] w w' := by
  by_cases hp : Pg p
  case neg =>
    have CK := Lib.hid (rcheck_of h (err_no hp))
    obtain rfl : 40 = z := by rw [← hz]; unfold insE; rw [if_pos (ok_no.2 hp)]
    clear h hp hz hb
    go_enter Try.func44, Try.ntmps44
    go_wp2_with (go_at_call 26; refine CK.out.mono ?_; rintro e w1 ⟨rfl, hO1⟩; have O1 := Lib.hid hO1; clear hO1)
    go_ret3
    exact ⟨rfl, O1.out⟩
  case pos =>
    have CK := Lib.hid (rcheck_of h (err_ok hp))
    have hb : b.length < 1 ∨ 400 < b.length := by
      rcases hb with hb | hb
      · exact absurd hp hb
      · exact hb
    obtain rfl : 43 = z := by rw [← hz]; unfold insE; rw [if_neg (by rw [ok_iff.2 hp]; simp), if_pos hb]
    obtain ⟨ao, cap, rfl, hc⟩ := hv
    clear h hp hz hc
    generalize b.length = n at *
    by_cases h1 : n < 1
    · have i1 : (n : Int) < 1 := by omega
      clear hb h1
      go_enter Try.func44, Try.ntmps44
      go_wp2_with (go_at_call 26; refine CK.out.mono ?_; rintro e w1 ⟨rfl, hO1⟩; have O1 := Lib.hid hO1; clear hO1)
      go_ret3
      exact ⟨rfl, O1.out⟩
    · have i1 : ¬ (n : Int) < 1 := by omega
      have i2 : (n : Int) > 400 := by omega
      have i3 : ¬ (n : Int) ≤ 400 := by omega
      clear hb h1
      go_enter Try.func44, Try.ntmps44
      go_wp2_with (go_at_call 26; refine CK.out.mono ?_; rintro e w1 ⟨rfl, hO1⟩; have O1 := Lib.hid hO1; clear hO1)
      go_ret3
      exact ⟨rfl, O1.out⟩
set_option maxRecDepth 100000 in
set_option maxHeartbeats 4000000 in
theorem rinsert_ok {w : World} {v vb : Value} {p b : List UInt8} (h : BytesC w v p) (hv : BytesAt w vb b) (hp : Pg p) (hb1 : 1 ≤ b.length) (hb2 : b.length ≤ 400) :
    Calls Try.prog 44 #[v, vb] w (InsRes w p b) := by
  have CK := Lib.hid (rcheck_of h (err_ok hp))
  have hl := hp.body.len
  have hmost := hp.body.most
  obtain ⟨pb, po, pc, rfl, hpa⟩ := h.page hl
  have HP := Lib.hid hpa
  have HV := Lib.hid hv
  have RS : Hid (∀ w1, PAt w1 pb po pc p → Calls Try.prog 49 #[.slice (some ⟨pb, po, none⟩) 512 pc] w1 fun e w' => e = .returned (.int .i64 (nS p : Nat)) ∧ Only [] w1 w') := fun w1 h1 => rslots_any h1
  have RB : Hid (∀ w1, PAt w1 pb po pc p → Calls Try.prog 50 #[.slice (some ⟨pb, po, none⟩) 512 pc] w1 fun e w' => e = .returned (.int .i64 (bg p : Nat)) ∧ Only [] w1 w') := fun w1 h1 => rbegin_any h1
  have RT : Hid (∀ w1, PAt w1 pb po pc p → ∀ k q : Nat, 10 + 4 * k = q → q + 2 ≤ 512 → Calls Try.prog 61 #[.slice (some ⟨pb, po, none⟩) 512 pc, .int .i64 q] w1 fun e w' => e = .returned (.int .i64 (sP p k : Nat)) ∧ Only [] w1 w') := fun w1 h1 k q hq h2 => by
    have := rtwo_any h1 q h2
    unfold sP; rw [hq]; exact this
  have EI : Hid (insP p b = sealedP (layP (put p 6 (max (nS p) (freeS p + 1))) (freeS p) b)) := rfl
  have IW : Hid (¬ (freeB p < need p b ∨ freeS p = 125) → 14 + 4 * freeS p + b.length ≤ bg (put p 6 (max (nS p) (freeS p + 1))) ∧ bg (put p 6 (max (nS p) (freeS p + 1))) ≤ 512) := fun hx => by
    simp only [not_or, Nat.not_lt] at hx
    obtain ⟨hW, h0, hr⟩ := ins_wide hp hx.1 hx.2 hb1
    have h1 := hW.core.fin
    rw [hW.beg] at h1 ⊢
    exact ⟨by omega, h1⟩
  have PSAME : Hid (freeS p < nS p → put p 6 (max (nS p) (freeS p + 1)) = p) := fun hx => by
    rw [(ins_max (p := p)).1 hx]; exact put_two (by omega)
  have PMORE : Hid (¬ freeS p < nS p → put p 6 (max (nS p) (freeS p + 1)) = put p 6 (nS p + 1)) := fun hx => by rw [((ins_max (p := p)).2 hx).2]
  have PU : Hid (∀ w1 gb c, Buf w1 gb c p → Calls Try.prog 42 #[.slice (some ⟨gb, 0, none⟩) 512 c, .int .i64 6, .int .i64 (nS p + 1 : Nat)] w1 fun e w' => e = .returned (.tuple #[]) ∧ Buf w' gb c (put p 6 (nS p + 1)) ∧ Only [gb] w1 w') := fun w1 gb c h1 => rlay_any h1 6 _ (by omega) (by omega)
  have LY : Hid (¬ (freeB p < need p b ∨ freeS p = 125) → ∀ w1 gb c, Buf w1 gb c (put p 6 (max (nS p) (freeS p + 1))) → BytesAt w1 vb b → Calls Try.prog 62 #[.slice (some ⟨gb, 0, none⟩) 512 c, .int .i64 (freeS p : Nat), vb] w1 fun e w' => e = .returned (.slice (some ⟨gb, 0, none⟩) 512 c) ∧ Buf w' gb c (layP (put p 6 (max (nS p) (freeS p + 1))) (freeS p) b) ∧ Only [gb] w1 w') := fun hx w1 gb c h1 h2 => rlaid_any h1 h2 (freeS p) hb1 (IW.out hx).1 (IW.out hx).2
  have NE : Hid (need p b = if freeS p < nS p then b.length else b.length + 4) := rfl
  have FSA : Hid (∀ f, (∀ k, k < f → sP p k ≠ 0) → f ≤ nS p → (f = nS p ∨ sP p f = 0) → freeS p = f) := fun f h1 h2 h3 => freeS_at h1 h2 h3
  have FBE : Hid (bg p - 10 - 4 * nS p = freeB p) := rfl
  have hfit := hp.body.fit
  have hfin := hp.body.fin
  have HL : Hid ((u8s p).length = 512) := by show _ = _; rw [length_u8s, hl]
  have HLP := Lib.hid hl
  obtain ⟨ao, cap, rfl, hc⟩ := hv
  unfold InsRes
  rw [EI.out]
  clear hc h hp EI hpa IW
  generalize layP (put p 6 (max (nS p) (freeS p + 1))) (freeS p) b = p7 at *
  generalize put p 6 (max (nS p) (freeS p + 1)) = p6 at *
  generalize put p 6 (nS p + 1) = p5 at *
  generalize need p b = nd at *
  generalize freeB p = f at *
  generalize nS p = n at *
  generalize bg p = bv at *
  generalize b.length = bl at *
  have b1 : ¬ (bl : Int) < 1 := by omega
  have b2 : ¬ (bl : Int) > 400 := by omega
  have b3 : (bl : Int) ≤ 400 := by omega
  have HBL : Hid (bl ≤ 400) := hb2
  clear hb1 hb2
  go_enter Try.func44, Try.ntmps44
  go_wp2_with (first
    | (go_at_call 26; refine CK.out.mono ?_; rintro e w1 ⟨rfl, hO1⟩; have O1 := Lib.hid hO1; have P1 := Lib.hid (HP.out.past hO1); clear hO1)
    | (go_at_call 49; refine (RS.out _ P1.out).mono ?_; rintro e w2 ⟨rfl, hO2⟩; have O2 := Lib.hid (O1.out.trans hO2 (by simp)); clear hO2))
  go_loopg [8] n (fun gk s8 wx => ∃ i : Nat, gk = n - i ∧ i ≤ n ∧ s8 = .int .i64 i ∧ (∀ k, k < i → sP p k ≠ 0) ∧ Only [] w wx)
  case atStart => exact ⟨0, rfl, Nat.zero_le _, rfl, fun k hk => by omega, O2.out⟩
  case round =>
    obtain ⟨i, hgk, hi, rfl, hall, hO⟩ := hrel
    have HGK := Lib.hid hgk
    have HALL := Lib.hid hall
    have OO := Lib.hid hO
    have PP := Lib.hid (HP.out.past hO)
    clear hgk hall hO O1 O2 P1
    have i0 : (0 : Int) ≤ i := by omega
    obtain ⟨z, hz⟩ : ∃ z : Bool, (z = true ↔ i < n ∧ sP p i ≠ 0) := by
      classical
      exact ⟨decide (i < n ∧ sP p i ≠ 0), by simp⟩
    have HZ := Lib.hid hz
    go_upto_region 7 with fail
    go_cut [34] (fun s34 wx => s34 = .bool z ∧ Only [] w wx)
    case first => as_aux_lemma =>
      by_cases hlt : i < n
      · have i1 : (i : Int) < n := by omega
        obtain ⟨q, hq⟩ : ∃ q, 10 + 4 * i = q := ⟨_, rfl⟩
        have hqI : (10 : Int) + 4 * (i : Int) = q := by omega
        have RTi := Lib.hid (RT.out _ PP.out i q hq (by omega))
        by_cases hz0 : sP p i = 0
        · obtain rfl : z = false := by rw [Bool.eq_false_iff]; exact fun h => (hz.1 h).2 hz0
          rw [hz0] at RTi
          clear hz hz0 hq
          go_wp2_with (go_at_call 61; refine RTi.out.mono ?_; rintro e w3 ⟨rfl, hO3⟩; have O3 := Lib.hid (OO.out.trans hO3 (by simp)); clear hO3)
          go_meet
          case rel => exact ⟨rfl, O3.out⟩
        · obtain rfl : z = true := hz.2 ⟨hlt, hz0⟩
          generalize sP p i = a at *
          have aB : ((a : Int) != 0) = true := bne_iff_ne.2 (by omega)
          have aI : ¬ (a : Int) = 0 := by omega
          clear hz hz0 hq
          go_wp2_with (go_at_call 61; refine RTi.out.mono ?_; rintro e w3 ⟨rfl, hO3⟩; have O3 := Lib.hid (OO.out.trans hO3 (by simp)); clear hO3)
          go_meet
          case rel => exact ⟨rfl, O3.out⟩
      · have i1 : ¬ (i : Int) < n := by omega
        obtain rfl : z = false := by rw [Bool.eq_false_iff]; exact fun h => hlt (hz.1 h).1
        clear hz
        go_wp2_with fail
        go_meet
        case rel => exact ⟨rfl, OO.out⟩
    case rest =>
      obtain ⟨rfl, hO⟩ := hcut
      have OC := Lib.hid hO
      have PC := Lib.hid (HP.out.past hO)
      clear hz hO OO PP
      cases z with
      | true =>
        go_wp2_with fail
        go_roundg (n - (i + 1))
        case measure =>
          have h12 : i < n ∧ sP p i ≠ 0 := by simpa using HZ.out
          have := HGK.out; omega
        case rel =>
          have h12 : i < n ∧ sP p i ≠ 0 := by simpa using HZ.out
          refine ⟨i + 1, rfl, by omega, by go_num, fun k hk => ?_, OC.out⟩
          by_cases hki : k = i
          · rw [hki]; exact h12.2
          · exact HALL.out k (by omega)
      | false =>
        have hzn : ¬ (i < n ∧ sP p i ≠ 0) := by simpa using HZ.out
        have hfs : freeS p = i := FSA.out i HALL.out hi (by
          rcases Nat.lt_or_ge i n with h | h
          · exact .inr (Classical.byContradiction fun hx => hzn ⟨h, hx⟩)
          · exact .inl (by omega))
        rw [hfs] at NE LY PSAME PMORE
        have HFS := Lib.hid hfs
        clear hfs
        clear hzn HZ FSA RT HALL
        have HF0 : Hid (i < n ∨ i = n) := by show _ ∨ _; omega
        obtain ⟨fr, hfr⟩ : ∃ fr, bv - 10 - 4 * n = fr := ⟨_, rfl⟩
        have hfI : (bv : Int) - 10 - 4 * n = fr := by omega
        have HFR : Hid (fr = f) := by show _ = _; rw [← hfr]; exact FBE.out
        clear hfr
        go_upto_if 41 with fail
        go_cut [9] (fun s9 wx => s9 = .int .i64 nd ∧ wx = wc)
        case first => as_aux_lemma =>
          rcases HF0.out with hin | hin
          · have k1 : ¬ (i : Int) = n := by omega
            have k2 : ((i : Int) == (n : Int)) = false := beq_eq_false_iff_ne.2 k1
            go_wp2_with fail
            go_meet
            case rel => exact ⟨by rw [NE.out, if_pos hin], rfl⟩
          · have k2 : ((i : Int) == (n : Int)) = true := beq_iff_eq.2 (by omega)
            have HIN := Lib.hid hin
            clear hin
            go_wp2_with fail
            go_meet
            case rel => exact ⟨by rw [NE.out, if_neg (by have := HIN.out; omega)]; rfl, rfl⟩
        case rest =>
          obtain ⟨rfl, rfl⟩ := hcut
          by_cases h125 : i = 125
          · subst h125
            go_wp2_with fail
            go_ret3
            exact .inl ⟨.inr HFS.out, rfl, OC.out⟩
          · have k1 : ¬ (i : Int) = 125 := by omega
            have k2 : ((i : Int) == 125) = false := beq_eq_false_iff_ne.2 k1
            have H125 := Lib.hid h125
            clear h125
            by_cases hfn : fr < nd
            · have k3 : (nd : Int) > fr := by omega
              have HFN : Hid (f < nd) := by show _ < _; rw [← HFR.out]; exact hfn
              clear hfn
              go_wp2_with (go_at_call 50; refine (RB.out _ PC.out).mono ?_; rintro e w3 ⟨rfl, hO3⟩; have O3 := Lib.hid (OC.out.trans hO3 (by simp)); have P3 := Lib.hid (PC.out.past hO3); clear hO3)
              go_ret3
              exact .inl ⟨.inl HFN.out, rfl, O3.out⟩
            · have k3 : ¬ (nd : Int) > fr := by omega
              have HNO : Hid (¬ (f < nd ∨ i = 125)) := fun h => h.elim (by rw [← HFR.out]; exact hfn) H125.out
              have LY6 := Lib.hid (LY.out HNO.out)
              clear hfn LY
              rcases HF0.out with hin | hin
              · have k4 : ¬ (i : Int) = n := by omega
                have k5 : ((i : Int) == (n : Int)) = false := beq_eq_false_iff_ne.2 k4
                rw [PSAME.out hin] at LY6
                clear hin
                go_wp2_with (first
                  | (go_at_call 50; refine (RB.out _ PC.out).mono ?_; rintro e w3 ⟨rfl, hO3⟩; have O3 := Lib.hid (OC.out.trans hO3 (by simp)); have P3 := Lib.hid (PC.out.past hO3); clear hO3)
                  | (refine wpList_clone rfl _ _ _ rfl 5 Try.underlying23 (info_parts B.info_byte) rfl rfl pb po 512 pc (u8s p) rfl HL.out P3.out.src (u8s_oneCell _) (by omega) (by omega) (by omega) ?_; intro c4 w4 hr4 hO4 hs4; have B6 := Lib.hid (buf_clone HLP.out hr4); have O6 := Lib.hid (O3.out.trans hO4 (by simp)); clear hr4 hO4 hs4)
                  | (go_at_call 62; refine (LY6.out _ _ _ B6.out (bytes_past HV.out O6.out)).mono ?_; rintro e w7 ⟨rfl, hb7, hO7⟩; have B7 := Lib.hid hb7; have O7 := Lib.hid (O6.out.trans hO7 (fun x hx => by simp at hx; subst hx; exact .inr O3.out.size)); clear hb7 hO7)
                  | (go_at_call 43; refine (rsealed_any B7.out).mono ?_; rintro e w8 ⟨rfl, hb8, hO8⟩; have B8 := Lib.hid hb8; have O8 := Lib.hid (O7.out.trans hO8 (fun x hx => by simp at hx; subst hx; exact .inr O3.out.size)); clear hb8 hO8))
                go_ret3
                exact .inr ⟨by rw [HFS.out]; exact HNO.out, _, _, by rw [HFS.out]; rfl, B8.out, O3.out.size, O8.out⟩
              · have e5 : p6 = p5 := PMORE.out (by omega)
                rw [e5] at LY6
                clear e5
                subst hin
                have e6 : (i : Int) + 1 = ((i + 1 : Nat) : Int) := by omega
                obtain ⟨n1, hn1⟩ : ∃ n1, i + 1 = n1 := ⟨_, rfl⟩
                rw [hn1] at PU e6
                clear hn1
                go_wp2_with (first
                  | (go_at_call 50; refine (RB.out _ PC.out).mono ?_; rintro e w3 ⟨rfl, hO3⟩; have O3 := Lib.hid (OC.out.trans hO3 (by simp)); have P3 := Lib.hid (PC.out.past hO3); clear hO3)
                  | (refine wpList_clone rfl _ _ _ rfl 5 Try.underlying23 (info_parts B.info_byte) rfl rfl pb po 512 pc (u8s p) rfl HL.out P3.out.src (u8s_oneCell _) (by omega) (by omega) (by omega) ?_; intro c4 w4 hr4 hO4 hs4; have B4 := Lib.hid (buf_clone HLP.out hr4); have O4 := Lib.hid (O3.out.trans hO4 (by simp)); clear hr4 hO4 hs4)
                  | (go_at_call 42; refine (PU.out _ _ _ B4.out).mono ?_; rintro e w6 ⟨rfl, hb6, hO6⟩; have B6 := Lib.hid hb6; have O6 := Lib.hid (O4.out.trans hO6 (fun x hx => by simp at hx; subst hx; exact .inr O3.out.size)); clear hb6 hO6)
                  | (go_at_call 62; refine (LY6.out _ _ _ B6.out (bytes_past HV.out O6.out)).mono ?_; rintro e w7 ⟨rfl, hb7, hO7⟩; have B7 := Lib.hid hb7; have O7 := Lib.hid (O6.out.trans hO7 (fun x hx => by simp at hx; subst hx; exact .inr O3.out.size)); clear hb7 hO7)
                  | (go_at_call 43; refine (rsealed_any B7.out).mono ?_; rintro e w8 ⟨rfl, hb8, hO8⟩; have B8 := Lib.hid hb8; have O8 := Lib.hid (O7.out.trans hO8 (fun x hx => by simp at hx; subst hx; exact .inr O3.out.size)); clear hb8 hO8))
                go_ret3
                exact .inr ⟨by rw [HFS.out]; exact HNO.out, _, _, by rw [HFS.out]; rfl, B8.out, O3.out.size, O8.out⟩
end Go.Proofs.Ytdgnndcnpmlifaa.G
