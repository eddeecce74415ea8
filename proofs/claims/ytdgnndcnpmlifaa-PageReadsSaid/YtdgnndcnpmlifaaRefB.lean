/-
  The document's pages: Check: by a contract: it tells what the program's Check tells.
-/
import Derived.Test.YtdgnndcnpmlifaaRefA
import Derived.Test.YtdgnndcnpmlifaaLaidR
import Derived.Test.YtdgnndcnpmlifaaTakeM
import Derived.Test.YtdgnndcnpmlifaaQuietL
import Derived.Deep.DeepCutAuto
namespace Go.Proofs.Ytdgnndcnpmlifaa.G
set_option linter.unusedSimpArgs false
open Go Go.RowKit Go.Proofs.Ytdgnndcnpmlifaa.B Go.Proofs.Ytdgnndcnpmlifaa.C
set_option linter.unusedVariables false
theorem PAt.part' {w : World} {b o cap : Nat} {p : List UInt8} (h : PAt w b o cap p) {a n : Nat} (ha : a + n ≤ 512) (m : Nat) : BytesAt w (.slice (some ⟨b, o + a, none⟩) n m) (cutP p a n) := by
  have hl : (cutP p a n).length = n := cut_len (by rw [h.len]; exact ha)
  refine ⟨some ⟨b, o + a, none⟩, m, by rw [hl], fun _ => ⟨b, o + a, rfl, fun j hj => ?_⟩⟩
  rw [hl] at hj
  have e : ((cutP p a n).getD j 0).toNat = g (cutP p a n) j := rfl
  rw [e, g_cut, if_pos hj, Nat.add_assoc]
  exact h.cell (a + j) (by omega)
theorem cut_tail {p : List UInt8} (hl : p.length = 512) : cutP p 4 508 = p.drop 4 := by
  unfold cutP
  exact List.take_of_length_le (by rw [List.length_drop]; omega)
/-- Is the form right, ahead of the cells? -/
theorem take_used {cs : List (Nat × Nat)} {j : Nat} {c : Nat × Nat} (h : cs[j]? = some c) : (cs.take (j + 1)).filter used = (cs.take j).filter used ++ (if used c = true then [c] else []) := by
  rw [List.take_add_one, h, List.filter_append]
  simp only [Option.toList_some, List.filter_cons, List.filter_nil]
theorem good_take {cs : List (Nat × Nat)} {j : Nat} {c : Nat × Nat} (h : cs[j]? = some c) (hg : ∀ x ∈ cs.take j, goodC x) (hc : goodC c) : ∀ x ∈ cs.take (j + 1), goodC x := fun x hx => by
  rw [List.take_add_one, h, List.mem_append] at hx
  rcases hx with hx | hx
  · exact hg x hx
  · simp at hx; subst hx; exact hc
set_option maxRecDepth 100000 in
set_option maxHeartbeats 4000000 in
theorem rcheck_short {w : World} {v : Value} {p : List UInt8} (h : BytesAt w v p) (hl : ¬ p.length = 512) :
    Calls Try.prog 26 #[v] w fun e w' => e = .returned (.int .i64 40) ∧ Only [] w w' := by
  obtain ⟨ao, cap, rfl, hc⟩ := h
  have hlI : ((p.length : Int) != 512) = true := bne_iff_ne.2 (by omega)
  have hl2 : ¬ (p.length : Int) = 512 := by omega
  clear hc
  generalize p.length = n at *
  go_enter Try.func26, Try.ntmps26
  go_wp2_with fail
  go_quiet (fail)
  go_wp2_with fail
  go_ret
  exact ⟨rfl, (Only.refl _ _).drewN _⟩
set_option maxRecDepth 100000 in
set_option maxHeartbeats 16000000 in
theorem rcheck_page {w : World} {b o cap : Nat} {p : List UInt8} (h : PAt w b o cap p) :
    Calls Try.prog 26 #[.slice (some ⟨b, o, none⟩) 512 cap] w fun e w' => e = .returned (.int .i64 (errE p : Nat)) ∧ Only [] w w' := by
  have HP := Lib.hid h
  have hcap := h.cap
  have hl := h.len
  have SI := Lib.hid (sealed_iff (p := p) (by omega))
  have hsl := sum_lt (p.drop 4)
  have NU : Hid (∀ x : Later w, Calls Try.prog 51 #[.slice (some ⟨b, o, none⟩) 512 cap] x.v fun e w' => e = .returned (.int .u32 (unle (p.take 4) : Nat)) ∧ ∃ y : Later w, w' = y.v) := fun x => Calls.later (fun w1 hO => number_any (o := o) hl (by omega) (fun j hj => (h.past hO).cell j hj)) x
  have SU : Hid (∀ x : Later w, Calls Try.prog 52 #[.slice (some ⟨b, o + 4, none⟩) 508 (cap - 4)] x.v fun e w' => e = .returned (.int .u32 (sum (p.drop 4) : Nat)) ∧ ∃ y : Later w, w' = y.v) := fun x => by
    refine Calls.later (fun w1 hO => ?_) x
    have hp := ((h.past hO).part' (a := 4) (n := 508) (by omega) (cap - 4))
    rw [cut_tail hl] at hp
    refine (rsum_any hp (by rw [List.length_drop]; omega)).mono ?_
    rintro e w' ⟨he, rfl⟩
    exact ⟨he, Only.refl _ _⟩
  have C5 := Later.cell (h.cell 5 (by omega))
  generalize unle (p.take 4) = nb at *
  generalize hss : sum (p.drop 4) = s at *
  have a5 : ¬ cap = 4 := by omega
  have a6 : 4 < cap := by omega
  have a8 : (4 : Int) ≤ cap := by omega
  have a9 : (512 : Int) ≤ cap := by omega
  by_cases hs : nb = s
  case neg =>
    have EE : Hid (errE p = 40) := err_no fun hx => hs (SI.out.1 hx.sums)
    have hsB : ((nb : Int) != (s : Int)) = true := bne_iff_ne.2 (by omega)
    have hsI : ¬ (nb : Int) = (s : Int) := by omega
    clear h SI hs hl
    go_enter Try.func26, Try.ntmps26
    go_wp2_with fail
    refine wp_region_later (Only.refl _ _) (by kernel_rfl) (by kernel_rfl) ?_
    repeat (go_big_quiet_step ((first | (go_at_call 51; exact NU.out _) | (go_at_call 52; exact SU.out _))))
    refine wpQuiet_nil ?_
    rintro _ ⟨xq, rfl⟩
    go_wp2_with fail
    go_ret
    exact ⟨by rw [EE.out]; rfl, xq.h⟩
  case pos =>
    subst hs
    by_cases h5 : g p 5 = 0
    case neg =>
      have EE : Hid (errE p = 40) := err_no fun hx => h5 hx.body.zero
      have h5I : ¬ (g p 5 : Int) = 0 := by omega
      have h5B : ((g p 5 : Int) != 0) = true := bne_iff_ne.2 h5I
      generalize g p 5 = g5 at *
      clear h SI h5 hl
      go_enter Try.func26, Try.ntmps26
      go_wp2_with fail
      refine wp_region_later (Only.refl _ _) (by kernel_rfl) (by kernel_rfl) ?_
      repeat (go_big_quiet_step ((first | (go_at_call 51; exact NU.out _) | (go_at_call 52; exact SU.out _))))
      refine wpQuiet_nil ?_
      rintro _ ⟨xq, rfl⟩
      go_wp2_with fail
      go_ret
      exact ⟨by rw [EE.out]; rfl, xq.h⟩
    case pos =>
      have HS := Lib.hid (SI.out.2 rfl)
      have H5 := Lib.hid h5
      have HL := Lib.hid hl
      rw [h5] at C5
      have RS : Hid (∀ w1, PAt w1 b o cap p → Calls Try.prog 49 #[.slice (some ⟨b, o, none⟩) 512 cap] w1 fun e w' => e = .returned (.int .i64 (nS p : Nat)) ∧ Only [] w1 w') := fun w1 h1 => rslots_any h1
      have RB : Hid (∀ w1, PAt w1 b o cap p → Calls Try.prog 50 #[.slice (some ⟨b, o, none⟩) 512 cap] w1 fun e w' => e = .returned (.int .i64 (bg p : Nat)) ∧ Only [] w1 w') := fun w1 h1 => rbegin_any h1
      have EF : Hid (¬ (nS p ≤ 125 ∧ bg p ≤ 512 ∧ 10 + 4 * nS p ≤ bg p) → errE p = 40) := fun hx => err_no fun hp => hx ⟨hp.body.most, hp.body.fin, hp.body.fit⟩
      have EG : Hid (∀ i, i < nS p → ¬ goodC (sP p i, sL p i) → errE p = 40) := fun i hi hx => err_no fun hp => hx (hp.body.core.goodAt hi)
      have EL : Hid (∀ i, i < nS p → i + 1 = nS p → sP p i = 0 → errE p = 40) := fun i hi hx h0 => err_no fun hp => hp.body.last (by omega) (by rw [← hx, Nat.add_sub_cancel]; exact h0)
      have EC : Hid (laidB (cells p) (bg p) = false → errE p = 40) := fun hx => err_no fun hp => by
        rw [Bool.eq_false_iff] at hx
        exact hx (laid_iff.2 ⟨hp.body.good, hp.body.row⟩)
      have E7 : Hid (∀ i, 10 + 4 * nS p ≤ i → i < bg p → g p i ≠ 0 → errE p = 40) := fun i h1 h2 h3 => err_no fun hp => h3 (hp.body.gap i h1 h2)
      have E0 : Hid (nS p ≤ 125 → 10 + 4 * nS p ≤ bg p → bg p ≤ 512 → laidB (cells p) (bg p) = true → (∀ i, i < nS p → i + 1 = nS p → sP p i ≠ 0) → (∀ i, 10 + 4 * nS p ≤ i → i < bg p → g p i = 0) → errE p = 0) := fun h1 h2 h3 h4 h6 h7 => err_ok ⟨⟨HL.out, H5.out, h1, h2, h3, (laid_iff.1 h4).1, (laid_iff.1 h4).2, fun h8 => h6 _ (by omega) (by omega), h7⟩, HS.out⟩
      have CG : Hid (∀ k, k < nS p → (cells p)[k]? = some (sP p k, sL p k)) := fun k hk => by rw [List.getElem?_eq_getElem (by rw [cells_len]; exact hk), cells_get]
      have CLN := Lib.hid (cells_len p)
      have CM : Hid (∀ c ∈ cells p, ∃ i, i < nS p ∧ c = (sP p i, sL p i)) := fun c hc => of_mem_cells hc
      have SLT : Hid (∀ w1, PAt w1 b o cap p → ∀ (i : Nat), 14 + 4 * i ≤ 512 → Calls Try.prog 53 #[.slice (some ⟨b, o, none⟩) 512 cap, .int .i64 i] w1 fun e w' => e = .returned (.tuple #[.int .i64 (sP p i : Nat), .int .i64 (sL p i : Nat)]) ∧ Only [] w1 w') := fun w1 h1 i hi => rslot_any h1 i hi
      have PB : Hid (∀ k, sP p k < 65536 ∧ sL p k < 65536) := fun k => ⟨two_lt _ _, two_lt _ _⟩
      have hnl : nS p < 65536 := two_lt p 6
      have hbl : bg p < 65536 := two_lt p 8
      generalize nS p = n at *
      generalize bg p = bv at *
      generalize cells p = cs at *
      clear h SI h5 hl
      go_enter Try.func26, Try.ntmps26
      go_wp2_with fail
      refine wp_region_later (Only.refl _ _) (by kernel_rfl) (by kernel_rfl) ?_
      repeat (go_big_quiet_step ((first | (go_at_call 51; exact NU.out _) | (go_at_call 52; exact SU.out _))))
      refine wpQuiet_nil ?_
      rintro _ ⟨xq, rfl⟩
      have O1 := Lib.hid xq.h
      have P1 := Lib.hid (HP.out.past xq.h)
      clear NU SU C5
      obtain ⟨q, hq⟩ : ∃ q, 10 + 4 * n = q := ⟨_, rfl⟩
      have hqI : (10 : Int) + 4 * (n : Int) = q := by omega
      by_cases hn1 : n ≤ 125
      case neg =>
        have EE := Lib.hid (EF.out (fun h => hn1 h.1))
        have i1 : (n : Int) > 125 := by omega
        clear hn1
        go_wp2_with (first
          | (go_at_call 49; refine (RS.out _ P1.out).mono ?_; rintro e w2 ⟨rfl, hO2⟩; have O2 := Lib.hid (O1.out.trans hO2 (by simp)); have P2 := Lib.hid (P1.out.past hO2); clear hO2))
        go_ret
        exact ⟨by rw [EE.out]; rfl, O2.out⟩
      have i1 : ¬ (n : Int) > 125 := by omega
      by_cases hn2 : bv ≤ 512
      case neg =>
        have EE := Lib.hid (EF.out (fun h => hn2 h.2.1))
        have i2 : (bv : Int) > 512 := by omega
        clear hn2
        go_wp2_with (first
          | (go_at_call 49; refine (RS.out _ P1.out).mono ?_; rintro e w2 ⟨rfl, hO2⟩; have O2 := Lib.hid (O1.out.trans hO2 (by simp)); have P2 := Lib.hid (P1.out.past hO2); clear hO2)
          | (go_at_call 50; refine (RB.out _ P2.out).mono ?_; rintro e w3 ⟨rfl, hO3⟩; have O3 := Lib.hid (O2.out.trans hO3 (by simp)); have P3 := Lib.hid (P2.out.past hO3); clear hO3))
        go_ret
        exact ⟨by rw [EE.out]; rfl, O3.out⟩
      have i2 : ¬ (bv : Int) > 512 := by omega
      by_cases hn3 : q ≤ bv
      case neg =>
        have EE := Lib.hid (EF.out (fun h => hn3 (by omega)))
        have i3 : (q : Int) > bv := by omega
        clear hn3
        go_wp2_with (first
          | (go_at_call 49; refine (RS.out _ P1.out).mono ?_; rintro e w2 ⟨rfl, hO2⟩; have O2 := Lib.hid (O1.out.trans hO2 (by simp)); have P2 := Lib.hid (P1.out.past hO2); clear hO2)
          | (go_at_call 50; first | (refine (RB.out _ P3.out).mono ?_; rintro e w4 ⟨rfl, hO4⟩; have O4 := Lib.hid (O3.out.trans hO4 (by simp)); have P4 := Lib.hid (P3.out.past hO4); clear hO4) | (refine (RB.out _ P2.out).mono ?_; rintro e w3 ⟨rfl, hO3⟩; have O3 := Lib.hid (O2.out.trans hO3 (by simp)); have P3 := Lib.hid (P2.out.past hO3); clear hO3)))
        go_ret
        exact ⟨by rw [EE.out]; rfl, O4.out⟩
      have i3 : ¬ (q : Int) > bv := by omega
      have d1 : decide ((125 : Int) < n) = false := decide_eq_false (by omega)
      have d2 : decide ((512 : Int) < bv) = false := decide_eq_false (by omega)
      have d3 : decide (bv < q) = false := decide_eq_false (by omega)
      have d4 : decide ((bv : Int) < q) = false := decide_eq_false (by omega)
      go_wp2_with (first
        | (go_at_call 49; refine (RS.out _ P1.out).mono ?_; rintro e w2 ⟨rfl, hO2⟩; have O2 := Lib.hid (O1.out.trans hO2 (by simp)); have P2 := Lib.hid (P1.out.past hO2); clear hO2)
        | (go_at_call 50; first | (refine (RB.out _ P3.out).mono ?_; rintro e w4 ⟨rfl, hO4⟩; have O4 := Lib.hid (O3.out.trans hO4 (by simp)); have P4 := Lib.hid (P3.out.past hO4); clear hO4) | (refine (RB.out _ P2.out).mono ?_; rintro e w3 ⟨rfl, hO3⟩; have O3 := Lib.hid (O2.out.trans hO3 (by simp)); have P3 := Lib.hid (P2.out.past hO3); clear hO3)))
      have HN3 := Lib.hid hn3
      clear hn3 i3 i1 i2 d1 d2 d3 d4
      go_loopg [4, 5] n (fun gk s4 s5 wx => ∃ j : Nat, gk = n - j ∧ j ≤ n ∧ s5 = .int .i64 j ∧ s4 = .int .i64 ((cs.take j).filter used).length ∧ (∀ c ∈ cs.take j, goodC c) ∧ (∀ i, i < j → i + 1 = n → sP p i ≠ 0) ∧ Only [] w wx)
      case atStart => exact ⟨0, rfl, Nat.zero_le _, rfl, rfl, fun c hc => by simp at hc, fun i hi => by omega, O4.out⟩
      case round =>
        obtain ⟨j, hgk, hj, rfl, rfl, hgood, hlast, hO⟩ := hrel
        have HGK := Lib.hid hgk
        have GOOD := Lib.hid hgood
        have LAST := Lib.hid hlast
        have OO := Lib.hid hO
        have PP := Lib.hid (HP.out.past hO)
        clear hgk hgood hlast hO
        by_cases hlt : j < n
        · have j1 : (j : Int) < n := by omega
          have SJ := Lib.hid (SLT.out _ PP.out j (by omega))
          have EGj := Lib.hid (EG.out j hlt)
          have ELj := Lib.hid (EL.out j hlt)
          have CJ := Lib.hid (CG.out j hlt)
          have LJ : Hid (sP p j ≠ 0 → ∀ i, i < j + 1 → i + 1 = n → sP p i ≠ 0) := fun h i hi hx => by
            by_cases hij : i = j
            · rw [hij]; exact h
            · exact LAST.out i (by omega) hx
          have LJ2 : Hid (¬ j + 1 = n → ∀ i, i < j + 1 → i + 1 = n → sP p i ≠ 0) := fun h i hi hx => by
            by_cases hij : i = j
            · subst hij; exact absurd hx h
            · exact LAST.out i (by omega) hx
          obtain ⟨hba, hbb⟩ := PB.out j
          have hml : ((cs.take j).filter used).length ≤ 125 := Nat.le_trans (List.length_filter_le _ _) (by rw [List.length_take]; omega)
          have TU : Hid ((cs.take (j + 1)).filter used = (cs.take j).filter used ++ (if used (sP p j, sL p j) = true then [(sP p j, sL p j)] else [])) := take_used CJ.out
          have TG : Hid (goodC (sP p j, sL p j) → ∀ c ∈ cs.take (j + 1), goodC c) := fun h => good_take CJ.out GOOD.out h
          generalize hlm : ((cs.take j).filter used).length = m at *
          have HLM := Lib.hid hlm
          generalize sP p j = a at *
          generalize sL p j = l2 at *
          clear hlm
          by_cases ha : a = 0
          · subst ha
            by_cases hb : l2 = 0
            · subst hb
              by_cases hx : j + 1 = n
              · have EE := Lib.hid (ELj.out hx rfl)
                have k1 : (n : Int) - 1 = j := by omega
                clear hx
                go_wp2_with (go_at_call 53; refine SJ.out.mono ?_; rintro e w5 ⟨rfl, hO5⟩; have O5 := Lib.hid (OO.out.trans hO5 (by simp)); clear hO5)
                go_ret
                exact ⟨by rw [EE.out]; rfl, O5.out⟩
              · obtain ⟨n1, hn1'⟩ : ∃ n1 : Int, (n : Int) - 1 = n1 := ⟨_, rfl⟩
                have k1 : ¬ (j : Int) = n1 := by omega
                have k2 : ((j : Int) == n1) = false := beq_eq_false_iff_ne.2 k1
                have LX := Lib.hid (LJ2.out hx)
                clear hx
                go_wp2_with (go_at_call 53; refine SJ.out.mono ?_; rintro e w5 ⟨rfl, hO5⟩; have O5 := Lib.hid (OO.out.trans hO5 (by simp)); clear hO5)
                go_roundg (n - (j + 1))
                case measure => have := HGK.out; omega
                case rel => exact ⟨j + 1, rfl, by omega, by go_num, by rw [TU.out]; simp [used, HLM.out], TG.out ⟨fun _ => rfl, fun h => absurd rfl h, by omega⟩, LX.out, O5.out⟩
            · have EE := Lib.hid (EGj.out (fun h => hb (h.1 rfl)))
              have k1 : ¬ (l2 : Int) = 0 := by omega
              have k2 : ((l2 : Int) != 0) = true := bne_iff_ne.2 k1
              clear hb
              go_wp2_with (go_at_call 53; refine SJ.out.mono ?_; rintro e w5 ⟨rfl, hO5⟩; have O5 := Lib.hid (OO.out.trans hO5 (by simp)); clear hO5)
              go_ret
              exact ⟨by rw [EE.out]; rfl, O5.out⟩
          · have a1 : ¬ (a : Int) = 0 := by omega
            have a2 : ((a : Int) == 0) = false := beq_eq_false_iff_ne.2 a1
            have a3 : ((a : Int) != 0) = true := bne_iff_ne.2 a1
            by_cases hb : 1 ≤ l2 ∧ l2 ≤ 400
            · have k1 : ¬ (l2 : Int) < 1 := by omega
              have k2 : ¬ (l2 : Int) > 400 := by omega
              have LX := Lib.hid (LJ.out ha)
              have GX : Hid (goodC (a, l2)) := ⟨fun h => absurd h ha, fun _ => hb.1, hb.2⟩
              have HA := Lib.hid ha
              clear hb ha
              go_wp2_with (go_at_call 53; refine SJ.out.mono ?_; rintro e w5 ⟨rfl, hO5⟩; have O5 := Lib.hid (OO.out.trans hO5 (by simp)); clear hO5)
              go_roundg (n - (j + 1))
              case measure => have := HGK.out; omega
              case rel => exact ⟨j + 1, rfl, by omega, by go_num, by rw [TU.out, if_pos (by simp [used, HA.out]), List.length_append, HLM.out]; rfl, TG.out GX.out, LX.out, O5.out⟩
            · have EE := Lib.hid (EGj.out (fun h => hb ⟨h.2.1 ha, h.2.2⟩))
              clear ha
              by_cases hb1 : l2 < 1
              · have k1 : (l2 : Int) < 1 := by omega
                clear hb hb1
                go_wp2_with (go_at_call 53; refine SJ.out.mono ?_; rintro e w5 ⟨rfl, hO5⟩; have O5 := Lib.hid (OO.out.trans hO5 (by simp)); clear hO5)
                go_ret
                exact ⟨by rw [EE.out]; rfl, O5.out⟩
              · have k1 : ¬ (l2 : Int) < 1 := by omega
                have k2 : (l2 : Int) > 400 := by omega
                clear hb hb1
                go_wp2_with (go_at_call 53; refine SJ.out.mono ?_; rintro e w5 ⟨rfl, hO5⟩; have O5 := Lib.hid (OO.out.trans hO5 (by simp)); clear hO5)
                go_ret
                exact ⟨by rw [EE.out]; rfl, O5.out⟩
        · obtain rfl : j = n := by omega
          have ET : cs.take j = cs := List.take_of_length_le (Nat.le_of_eq CLN.out)
          have hml : ((cs.take j).filter used).length ≤ 125 := Nat.le_trans (List.length_filter_le _ _) (by rw [List.length_take]; omega)
          rw [ET] at GOOD hml
          simp only [ET]
          have hbv0 : 0 < bv := by have := HN3.out; omega
          have FS : Hid (Found cs bv (cs.filter used).length bv []) := found_start cs bv
          generalize (cs.filter used).length = left0 at *
          clear EG EL ET HGK
          go_wp2_with (go_at_call 50; refine (RB.out _ PP.out).mono ?_; rintro e w5 ⟨rfl, hO5⟩; have O5 := Lib.hid (OO.out.trans hO5 (by simp)); clear hO5)
          go_loopg [4, 8, 9, 10] left0 (fun gk s4 s8 s9 s10 wx => ∃ (left e : Nat) (d : List (Nat × Nat)), gk = left ∧ left ≤ 125 ∧ s4 = .int .i64 left ∧ s8 = .int .i64 e ∧ Found cs bv left e d ∧ e + 400 * left ≤ 50512 ∧ bv ≤ e ∧ Only [] w wx)
          case atStart => exact ⟨left0, bv, [], rfl, hml, rfl, rfl, FS.out, by omega, Nat.le_refl _, O5.out⟩
          case round =>
            obtain ⟨left, e, d, hgk, hle, rfl, rfl, hfound, hbnd, hbe, hO⟩ := hrel
            have HGK := Lib.hid hgk
            have FO := Lib.hid hfound
            have OO := Lib.hid hO
            have PP := Lib.hid (HP.out.past hO)
            clear hgk hfound hO
            by_cases h0 : 0 < left
            · have k0 : (0 : Int) < left := by omega
              have H0 := Lib.hid h0
              have d0 : decide ((0 : Int) < (left : Int)) = true := decide_eq_true k0
              have d1 : decide (0 < left) = true := decide_eq_true h0
              go_wp2_with fail
              clear h0 k0 d0 d1
              go_loopg [4, 8, 9, 10] j (fun gk s4 s8 s9 s10 wx => ∃ (i lf e' : Nat) (fd : Bool), gk = j - i ∧ i ≤ j ∧ s10 = .int .i64 i ∧ s4 = .int .i64 lf ∧ s8 = .int .i64 e' ∧ s9 = .bool fd ∧ (fd = false → lf = left ∧ e' = e ∧ ∀ i', i' < i → sP p i' ≠ e) ∧ (fd = true → lf + 1 = left ∧ ∃ i0, i0 < j ∧ sP p i0 = e ∧ e' = e + sL p i0) ∧ Only [] w wx)
              case atStart => exact ⟨0, left, e, false, rfl, Nat.zero_le _, rfl, rfl, rfl, rfl, fun _ => ⟨rfl, rfl, fun i hi => by omega⟩, (fun h => nomatch h), OO.out⟩
              case round =>
                obtain ⟨i, lf, e2, fd, hgk, hi, rfl, rfl, rfl, rfl, hff, hft, hO⟩ := hrel
                have HGK2 := Lib.hid hgk
                have OI := Lib.hid hO
                have PI := Lib.hid (HP.out.past hO)
                clear hgk hO
                cases fd with
                | false =>
                  obtain ⟨rfl, rfl, hno⟩ := hff rfl
                  have NO := Lib.hid hno
                  clear hff hft hno
                  by_cases hlt : i < j
                  · have i1 : (i : Int) < j := by omega
                    have SJ := Lib.hid (SLT.out _ PI.out i (by omega))
                    obtain ⟨hba, hbb⟩ := PB.out i
                    have MATCH : Hid (sP p i = e2 → ∃ i0, i0 < j ∧ sP p i0 = e2 ∧ e2 + sL p i = e2 + sL p i0) := fun h => ⟨i, hlt, h, rfl⟩
                    have NO2 : Hid (sP p i ≠ e2 → ∀ i', i' < i + 1 → sP p i' ≠ e2) := fun h i' hi' => by
                      by_cases hx : i' = i
                      · rw [hx]; exact h
                      · exact NO.out i' (by omega)
                    generalize sP p i = a at *
                    generalize sL p i = l2 at *
                    by_cases ha : a = e2
                    · subst ha
                      have MM := Lib.hid (MATCH.out rfl)
                      obtain ⟨lm, hlm⟩ : ∃ lm, lf - 1 = lm := ⟨_, rfl⟩
                      have e5 : (lf : Int) - 1 = lm := by have := H0.out; omega
                      have HLM : Hid (lm + 1 = lf) := by show _ = _; have := H0.out; omega
                      clear hlm
                      go_wp2_with (go_at_call 53; refine SJ.out.mono ?_; rintro e w6 ⟨rfl, hO6⟩; have O6 := Lib.hid (OI.out.trans hO6 (by simp)); clear hO6)
                      go_roundg (j - (i + 1))
                      case measure => have := HGK2.out; omega
                      case rel => exact ⟨i + 1, lm, a + l2, true, rfl, by omega, by go_num, by go_num, by go_num, rfl, (fun h => nomatch h), fun _ => ⟨HLM.out, MM.out⟩, O6.out⟩
                    · have a1 : ¬ (a : Int) = e2 := by omega
                      have a2 : ((a : Int) == (e2 : Int)) = false := beq_eq_false_iff_ne.2 a1
                      have NN := Lib.hid (NO2.out ha)
                      clear ha
                      go_wp2_with (go_at_call 53; refine SJ.out.mono ?_; rintro e w6 ⟨rfl, hO6⟩; have O6 := Lib.hid (OI.out.trans hO6 (by simp)); clear hO6)
                      go_roundg (j - (i + 1))
                      case measure => have := HGK2.out; omega
                      case rel => exact ⟨i + 1, lf, e2, false, rfl, by omega, by go_num, rfl, rfl, rfl, fun _ => ⟨rfl, rfl, NN.out⟩, (fun h => nomatch h), O6.out⟩
                  · obtain rfl : i = j := by omega
                    have EE := Lib.hid (EC.out (FO.out.none GOOD.out H0.out (fun c hc => by
                      obtain ⟨i', hi', rfl⟩ := CM.out c hc
                      exact NO.out i' hi')))
                    go_wp2_with fail
                    go_ret
                    exact ⟨by rw [EE.out]; rfl, OI.out⟩
                | true =>
                  have hft := hft rfl
                  have FT := Lib.hid hft
                  clear hff hft
                  by_cases hlt : i < j
                  · have i1 : (i : Int) < j := by omega
                    have SJ := Lib.hid (SLT.out _ PI.out i (by omega))
                    generalize hPi : sP p i = a at *
                    generalize sL p i = l2 at *
                    have FT2 := Lib.hid FT.out
                    clear hPi
                    by_cases ha : a = e2
                    · subst ha
                      go_wp2_with (go_at_call 53; refine SJ.out.mono ?_; rintro e w6 ⟨rfl, hO6⟩; have O6 := Lib.hid (OI.out.trans hO6 (by simp)); clear hO6)
                      go_roundg (j - (i + 1))
                      case measure => have := HGK2.out; omega
                      case rel => exact ⟨i + 1, lf, a, true, rfl, by omega, by go_num, rfl, rfl, rfl, (fun h => nomatch h), fun _ => FT2.out, O6.out⟩
                    · have a1 : ¬ (a : Int) = e2 := by omega
                      have a2 : ((a : Int) == (e2 : Int)) = false := beq_eq_false_iff_ne.2 a1
                      clear ha
                      go_wp2_with (go_at_call 53; refine SJ.out.mono ?_; rintro e w6 ⟨rfl, hO6⟩; have O6 := Lib.hid (OI.out.trans hO6 (by simp)); clear hO6)
                      go_roundg (j - (i + 1))
                      case measure => have := HGK2.out; omega
                      case rel => exact ⟨i + 1, lf, e2, true, rfl, by omega, by go_num, rfl, rfl, rfl, (fun h => nomatch h), fun _ => FT2.out, O6.out⟩
                  · obtain rfl : i = j := by omega
                    obtain ⟨hl1, i0, hi0, he0, he2⟩ := FT.out
                    have hm : (sP p i0, sL p i0) ∈ cs := List.mem_of_getElem? (CG.out i0 hi0)
                    have FM := FO.out.more H0.out hm he0 (by omega)
                    have hg0 := (GOOD.out _ hm).2.2
                    simp only at FM hg0
                    rw [← he2, show left - 1 = lf by omega] at FM
                    have FM := Lib.hid FM
                    have HB : Hid (e2 + 400 * lf ≤ 50512 ∧ bv ≤ e2 ∧ lf ≤ 125) := by show _ ∧ _ ∧ _; omega
                    clear hl1 hi0 he0 he2 hm hg0
                    go_wp2_with fail
                    go_roundg lf
                    case measure => have := FT.out.1; have := HGK.out; omega
                    case rel => exact ⟨lf, e2, _, rfl, HB.out.2.2, rfl, rfl, FM.out, HB.out.1, HB.out.2.1, OI.out⟩
            · obtain rfl : left = 0 := by omega
              have FF := Lib.hid (FO.out.fin GOOD.out)
              have k0 : ¬ (0 : Int) < ((0 : Nat) : Int) := by omega
              clear FO h0
              go_wp2_with fail
              go_loopg [13] (bv - q) (fun gk s13 wx => ∃ k : Nat, gk = bv - k ∧ q ≤ k ∧ k ≤ bv ∧ s13 = .int .i64 k ∧ (∀ i, q ≤ i → i < k → g p i = 0) ∧ Only [] w wx)
              case atStart => exact ⟨q, rfl, Nat.le_refl _, HN3.out, rfl, fun i h1 h2 => by omega, OO.out⟩
              case round =>
                obtain ⟨k, hgk, hk1, hk2, rfl, hz, hO⟩ := hrel
                have HGK2 := Lib.hid hgk
                have HZ := Lib.hid hz
                have OK := Lib.hid hO
                have PK := Lib.hid (HP.out.past hO)
                clear hgk hz hO
                by_cases hlt : k < bv
                · have i1 : (k : Int) < bv := by omega
                  have i0 : (0 : Int) ≤ k := by omega
                  have i2 : (k : Int) < 512 := by omega
                  have ck := PK.out.cell k (by omega)
                  by_cases hx : g p k = 0
                  · have HX := Lib.hid hx
                    rw [hx] at ck
                    clear hx
                    go_wp2_with (go_at_call 50; refine (RB.out _ PK.out).mono ?_; rintro e w7 ⟨rfl, hO7⟩; have O7 := Lib.hid (OK.out.trans hO7 (by simp)); have ck7 := hO7.cell ck (by simp); clear hO7)
                    go_roundg (bv - (k + 1))
                    case measure => have := HGK2.out; omega
                    case rel =>
                      refine ⟨k + 1, rfl, by omega, by omega, by go_num, fun i h1 h2 => ?_, O7.out⟩
                      by_cases hi : i = k
                      · rw [hi]; exact HX.out
                      · exact HZ.out i h1 (by omega)
                  · have EE := Lib.hid (E7.out k (by omega) hlt hx)
                    have hxI : ¬ (g p k : Int) = 0 := by omega
                    have hxB : ((g p k : Int) != 0) = true := bne_iff_ne.2 hxI
                    generalize g p k = z at *
                    clear hx
                    go_wp2_with (go_at_call 50; refine (RB.out _ PK.out).mono ?_; rintro e w7 ⟨rfl, hO7⟩; have O7 := Lib.hid (OK.out.trans hO7 (by simp)); have ck7 := hO7.cell ck (by simp); clear hO7)
                    go_ret
                    exact ⟨by rw [EE.out]; rfl, O7.out⟩
                · obtain rfl : k = bv := by omega
                  by_cases he : e = 512
                  · subst he
                    have EE := Lib.hid (E0.out hn1 (by have := HN3.out; omega) hn2 (by rw [FF.out]; rfl) LAST.out (fun i h1 h2 => HZ.out i (by omega) h2))
                    go_wp2_with (go_at_call 50; refine (RB.out _ PK.out).mono ?_; rintro e w7 ⟨rfl, hO7⟩; have O7 := Lib.hid (OK.out.trans hO7 (by simp)); clear hO7)
                    go_ret
                    exact ⟨by rw [EE.out]; rfl, O7.out⟩
                  · have EE := Lib.hid (EC.out (by rw [FF.out]; exact decide_eq_false he))
                    have heI : ¬ (e : Int) = 512 := by omega
                    have heB : ((e : Int) != 512) = true := bne_iff_ne.2 heI
                    clear he FF
                    go_wp2_with (go_at_call 50; refine (RB.out _ PK.out).mono ?_; rintro e w7 ⟨rfl, hO7⟩; have O7 := Lib.hid (OK.out.trans hO7 (by simp)); clear hO7)
                    go_ret
                    exact ⟨by rw [EE.out]; rfl, O7.out⟩
theorem rcheck_any {w : World} {v : Value} {p : List UInt8} (h : BytesC w v p) :
    Calls Try.prog 26 #[v] w fun e w' => e = .returned (.int .i64 (errE p : Nat)) ∧ Only [] w w' := by
  by_cases hl : p.length = 512
  · obtain ⟨b, o, cap, rfl, hp⟩ := h.page hl
    exact rcheck_page hp
  · rw [err_no fun hx => hl hx.body.len]
    exact rcheck_short h.1 hl
end Go.Proofs.Ytdgnndcnpmlifaa.G
