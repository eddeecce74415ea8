/-
  The document's pages: Insert's two answers; Delete, Replace: by contracts.
-/
import Derived.Test.YtdgnndcnpmlifaaRefE
namespace Go.Proofs.Ytdgnndcnpmlifaa.G
set_option linter.unusedSimpArgs false
open Go Go.RowKit Go.Proofs.Ytdgnndcnpmlifaa.B Go.Proofs.Ytdgnndcnpmlifaa.C
set_option linter.unusedVariables false
theorem rinsert_no {w : World} {v vb : Value} {p b : List UInt8} (h : BytesC w v p) (hv : BytesAt w vb b) {z : Nat} (hz : insE p b = z) (h0 : z ≠ 0) :
    Calls Try.prog 44 #[v, vb] w fun e w' => e = .returned (.tuple #[.slice none 0 0, .int .i64 0, .int .i64 z]) ∧ Only [] w w' := by
  rcases insE_no (p := p) (b := b) (by rw [hz]; exact h0) with h1 | ⟨hp, h1, h2, h3, h4⟩
  · exact rinsert_form h hv h1 hz
  · refine (rinsert_ok h hv hp h1 h2).mono ?_
    rintro e w' (⟨_, he, hO⟩ | ⟨hn, _⟩)
    · rw [← hz, h3]; exact ⟨he, hO⟩
    · exact absurd h4 hn
theorem rinsert_yes {w : World} {v vb : Value} {p b : List UInt8} (h : BytesC w v p) (hv : BytesAt w vb b) (hz : insE p b = 0) :
    Calls Try.prog 44 #[v, vb] w fun e w' => ∃ gb c, e = .returned (.tuple #[.slice (some ⟨gb, 0, none⟩) 512 c, .int .i64 (freeS p : Nat), .int .i64 0]) ∧ Buf w' gb c (insP p b) ∧ w.heap.size ≤ gb ∧ Only [] w w' := by
  obtain ⟨hp, h1, h2, h3, h4⟩ := insE_ok hz
  refine (rinsert_ok h hv hp h1 h2).mono ?_
  rintro e w' (⟨hn, _⟩ | ⟨_, hr⟩)
  · rcases hn with hn | hn
    · omega
    · exact absurd hn h4
  · exact hr
set_option maxRecDepth 100000 in
theorem rdelete_no {w : World} {v : Value} {p : List UInt8} (h : BytesC w v p) (i : Int) (hi : -9223372036854775808 ≤ i ∧ i ≤ 9223372036854775807) {z : Nat} (hz : getE p i = z) (h0 : z ≠ 0) :
    Calls Try.prog 46 #[v, .int .i64 i] w fun e w' => e = .returned (.tuple #[.slice none 0 0, .int .i64 z]) ∧ Only [] w w' := by
  have TH := Lib.hid (rthere_of h i hi hz)
  have hzB : ((z : Int) == 0) = false := beq_eq_false_iff_ne.2 (by omega)
  have hzI : ¬ (z : Int) = 0 := by omega
  clear h hz hi
  go_enter Try.func46, Try.ntmps46
  go_wp2_with (go_at_call 63; refine TH.out.mono ?_; rintro e w1 ⟨rfl, hO1⟩; have O1 := Lib.hid hO1; clear hO1)
  go_ret2
  exact ⟨rfl, O1.out⟩
set_option maxRecDepth 100000 in
set_option maxHeartbeats 4000000 in
theorem rdelete_yes {w : World} {v : Value} {p : List UInt8} (h : BytesC w v p) (hp : Pg p) {i : Nat} (hi : i < nS p) (h0 : sP p i ≠ 0) :
    Calls Try.prog 46 #[v, .int .i64 i] w fun e w' => ∃ gb c r, e = .returned (.tuple #[.slice (some ⟨gb, 0, none⟩) 512 c, .int .i64 0]) ∧ Del p i r ∧ Buf w' gb c r ∧ w.heap.size ≤ gb ∧ Only [] w w' := by
  have hl := hp.body.len
  have hm := hp.body.most
  have TH := Lib.hid (rthere_of h i (by omega) (getE_of hp hi h0))
  obtain ⟨pb, po, pc, rfl, hpa⟩ := h.page hl
  have HP := Lib.hid hpa
  have TK : Hid (∀ w1 gb c, Buf w1 gb c p → Calls Try.prog 64 #[.slice (some ⟨gb, 0, none⟩) 512 c, .int .i64 i] w1 fun e w' => e = .returned (.slice (some ⟨gb, 0, none⟩) 512 c) ∧ ∃ q, Buf w' gb c q ∧ Took p i q ∧ Only [gb] w1 w') := fun w1 gb c h1 => rtaken_any h1 hp.body.core i hi h0
  have GN : Hid (∀ q, Took p i q → Gone p i q) := fun q hq => hp.body.core.take hi h0 hq
  have HL : Hid ((u8s p).length = 512) := by show _ = _; rw [length_u8s, hl]
  have HLP := Lib.hid hl
  have RS : Hid (∀ w1 gb c q, Buf w1 gb c q → Calls Try.prog 49 #[.slice (some ⟨gb, 0, none⟩) 512 c] w1 fun e w' => e = .returned (.int .i64 (nS q : Nat)) ∧ Only [] w1 w') := fun w1 gb c q h1 => rslots_any h1.page
  clear h hp hpa
  go_enter Try.func46, Try.ntmps46
  go_wp2_with (first
    | (go_at_call 63; refine TH.out.mono ?_; rintro e w1 ⟨rfl, hO1⟩; have O1 := Lib.hid hO1; have P1 := Lib.hid (HP.out.past hO1); clear hO1)
    | (refine wpList_clone rfl _ _ _ rfl 5 Try.underlying23 (info_parts B.info_byte) rfl rfl pb po 512 pc (u8s p) rfl HL.out P1.out.src (u8s_oneCell _) (by omega) (by omega) (by omega) ?_; intro c2 w2 hr2 hO2 hs2; have B2 := Lib.hid (buf_clone HLP.out hr2); have O2 := Lib.hid (O1.out.trans hO2 (by simp)); clear hr2 hO2 hs2)
    | (go_at_call 64; refine (TK.out _ _ _ B2.out).mono ?_; rintro e w3 ⟨rfl, q, hb3, hq, hO3⟩; have B3 := Lib.hid hb3; have TQ := Lib.hid hq; have O3 := Lib.hid (O2.out.trans hO3 (fun x hx => by simp at hx; subst hx; exact .inr O1.out.size)); clear hb3 hq hO3)
    | (go_at_call 49; refine (RS.out _ _ _ _ B3.out).mono ?_; rintro e w4 ⟨rfl, hO4⟩; have B4 := Lib.hid (B3.out.past hO4); have O4 := Lib.hid (O3.out.trans hO4 (by simp)); clear hO4))
  have GQ := Lib.hid (GN.out q TQ.out)
  have hm5 := GQ.out.core.most
  have hql := TQ.out.len
  have G1 : Hid (w.heap.size ≤ w1.heap.size) := O1.out.size
  obtain ⟨gbn, hgbn⟩ : ∃ x, w1.heap.size = x := ⟨_, rfl⟩
  rw [hgbn] at B4 G1
  rw [hgbn]
  have BQ : Hid (Buf w4 gbn c2 (put q 6 (nS q))) := by
    show Buf _ _ _ _
    have e : put q 6 (nS q) = q := put_two (by omega)
    rw [e]; exact B4.out
  have DD : Hid (∀ m, trimN q m = trimN q (nS q) → trimN q m = m → Del p i (sealedP (put q 6 m))) := fun m h1 h2 => ⟨q, TQ.out, by rw [← h1, h2]⟩
  have PP : Hid (∀ a b : Nat, a < 65536 → b < 65536 → put (put q 6 a) 6 b = put q 6 b) := fun a b h1 h2 => put_put (by omega) h1 h2
  have NC : Hid (∀ m : Nat, m ≤ 125 → nS (put q 6 m) = m) := fun m h1 => six_count hql (by omega)
  have PC : Hid (∀ m k : Nat, m ≤ 125 → sP (put q 6 m) k = sP q k) := fun m k h1 => six_place hql (by omega) k
  have RS2 : Hid (∀ w1 m, m ≤ 125 → Buf w1 gbn c2 (put q 6 m) → Calls Try.prog 49 #[.slice (some ⟨gbn, 0, none⟩) 512 c2] w1 fun e w' => e = .returned (.int .i64 (m : Nat)) ∧ Only [] w1 w') := fun w1 m h1 h2 => by
    have := rslots_any h2.page
    rw [NC.out m h1] at this
    exact this
  clear TH TK RS B2 B3 O2 O3 HP GN
  go_loopg [8] (nS q + 1) (fun gk s8 wx => ∃ m : Nat, gk = m + 1 ∧ m ≤ nS q ∧ s8 = .int .i64 m ∧ trimN q m = trimN q (nS q) ∧ Buf wx gbn c2 (put q 6 m) ∧ Only [] w wx)
  case atStart => exact ⟨nS q, rfl, Nat.le_refl _, rfl, rfl, BQ.out, O4.out⟩
  case round =>
    obtain ⟨m, hgk, hmle, rfl, htr, hb, hO⟩ := hrel
    have HGK := Lib.hid hgk
    have TR := Lib.hid htr
    have BM := Lib.hid hb
    have OM := Lib.hid hO
    clear hgk htr hb hO BQ B4 O4
    cases m with
    | zero =>
      have DM := Lib.hid (DD.out 0 TR.out rfl)
      go_wp2_with (first
        | (go_at_call 43; refine (rsealed_any BM.out).mono ?_; rintro e wA ⟨rfl, hbA, hOA⟩; have BA := Lib.hid hbA; have OA := Lib.hid (OM.out.trans hOA (fun x hx => by simp at hx; subst hx; exact .inr G1.out)); clear hbA hOA))
      go_ret2
      exact ⟨gbn, c2, _, rfl, DM.out, BA.out, G1.out, OA.out⟩
    | succ m =>
      have hm125 : m + 1 ≤ 125 := by omega
      have RT : Hid (∀ w1 u : _, ∀ (k : Nat), 10 + 4 * m = k → u = w1 → Buf w1 gbn c2 (put q 6 (m + 1)) → Calls Try.prog 61 #[.slice (some ⟨gbn, 0, none⟩) 512 c2, .int .i64 k] w1 fun e w' => e = .returned (.int .i64 (sP q m : Nat)) ∧ Only [] w1 w') := fun w1 u k hk _ h1 => by
        have := rtwo_any h1.page k (by omega)
        rw [← hk] at this ⊢
        have e : two (put q 6 (m + 1)) (10 + 4 * m) = sP q m := PC.out (m + 1) m hm125
        rw [e] at this
        exact this
      obtain ⟨k, hk⟩ : ∃ k, m + 1 = k := ⟨_, rfl⟩
      obtain ⟨a2, ha2⟩ : ∃ a2, 10 + 4 * m = a2 := ⟨_, rfl⟩
      have RTm := Lib.hid (fun w1 h1 => RT.out w1 w1 a2 ha2 rfl h1)
      have LY : Hid (∀ w1, Buf w1 gbn c2 (put q 6 (m + 1)) → Calls Try.prog 42 #[.slice (some ⟨gbn, 0, none⟩) 512 c2, .int .i64 6, .int .i64 m] w1 fun e w' => e = .returned (.tuple #[]) ∧ Buf w' gbn c2 (put q 6 m) ∧ Only [gbn] w1 w') := fun w1 h1 => by
        have := rlay_any h1 6 m (by omega) (by omega)
        rw [PP.out (m + 1) m (by omega) (by omega)] at this
        exact this
      rw [hk] at BM RTm LY
      rw [hk]
      have i1 : (k : Int) > 0 := by omega
      have i2 : (k : Int) - 1 = m := by omega
      have i3 : (10 : Int) + 4 * (m : Int) = a2 := by omega
      have DK := DD.out (m + 1) TR.out
      by_cases hz : sP q m = 0
      · have T2 := Lib.hid ((trim_step hz).symm.trans TR.out)
        rw [hz] at RTm
        have RSm := Lib.hid (RS2.out · m (by omega))
        have HK := Lib.hid hk
        clear hk DK ha2 RT hz
        go_wp2_with (first
          | (go_at_call 61; refine (RTm.out _ BM.out).mono ?_; rintro e w5 ⟨rfl, hO5⟩; have B5 := Lib.hid (BM.out.past hO5); have O5 := Lib.hid (OM.out.trans hO5 (by simp)); clear hO5)
          | (go_at_call 42; refine (LY.out _ B5.out).mono ?_; rintro e w6 ⟨rfl, hb6, hO6⟩; have B6 := Lib.hid hb6; have O6 := Lib.hid (O5.out.trans hO6 (fun x hx => by simp at hx; subst hx; exact .inr G1.out)); clear hb6 hO6)
          | (go_at_call 49; refine (RSm.out _ B6.out).mono ?_; rintro e w7 ⟨rfl, hO7⟩; have B7 := Lib.hid (B6.out.past hO7); have O7 := Lib.hid (O6.out.trans hO7 (by simp)); clear hO7))
        go_roundg (m + 1)
        case measure => have := HGK.out; have := HK.out; omega
        case rel => exact ⟨m, rfl, by have := HK.out; omega, rfl, T2.out, B7.out, O7.out⟩
      · have DM := DK (trim_stop hz)
        rw [hk] at DM
        have DM := Lib.hid DM
        have zI : ¬ (sP q m : Int) = 0 := by omega
        have zB : ((sP q m : Int) == 0) = false := beq_eq_false_iff_ne.2 zI
        generalize sP q m = a at *
        clear hk DK ha2 RT hz
        go_wp2_with (first
          | (go_at_call 61; refine (RTm.out _ BM.out).mono ?_; rintro e w5 ⟨rfl, hO5⟩; have B5 := Lib.hid (BM.out.past hO5); have O5 := Lib.hid (OM.out.trans hO5 (by simp)); clear hO5)
          | (go_at_call 43; refine (rsealed_any B5.out).mono ?_; rintro e wA ⟨rfl, hbA, hOA⟩; have BA := Lib.hid hbA; have OA := Lib.hid (O5.out.trans hOA (fun x hx => by simp at hx; subst hx; exact .inr G1.out)); clear hbA hOA))
        go_ret2
        exact ⟨gbn, c2, _, rfl, DM.out, BA.out, G1.out, OA.out⟩
end Go.Proofs.Ytdgnndcnpmlifaa.G
