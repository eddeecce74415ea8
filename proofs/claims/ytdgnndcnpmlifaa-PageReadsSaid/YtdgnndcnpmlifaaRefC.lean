/-
  The document's pages: Kind, Slots, Free, there, Get, laid: by contracts.
-/
import Derived.Test.YtdgnndcnpmlifaaRefB
import Derived.Test.YtdgnndcnpmlifaaPageH
import Derived.Test.YtdgnndcnpmlifaaPageS
namespace Go.Proofs.Ytdgnndcnpmlifaa.G
set_option linter.unusedSimpArgs false
open Go Go.RowKit Go.Proofs.Ytdgnndcnpmlifaa.B Go.Proofs.Ytdgnndcnpmlifaa.C
set_option linter.unusedVariables false
theorem rcheck_of {w : World} {v : Value} {p : List UInt8} (h : BytesC w v p) {z : Nat} (hz : errE p = z) : Calls Try.prog 26 #[v] w fun e w' => e = .returned (.int .i64 z) ∧ Only [] w w' := by
  rw [← hz]; exact rcheck_any h
set_option maxRecDepth 100000 in
theorem rkind_any {w : World} {v : Value} {p : List UInt8} (h : BytesC w v p) : Calls Try.prog 27 #[v] w fun e w' => e = .returned (.int .u8 (kindE p : Nat)) ∧ Only [] w w' := by
  by_cases hp : Pg p
  · have CK := Lib.hid (rcheck_of h (err_ok hp))
    obtain ⟨b, o, cap, rfl, hpa⟩ := h.page hp.body.len
    have KE := Lib.hid (kind_ok hp)
    rw [KE.out]
    clear h hp
    go_enter Try.func27, Try.ntmps27
    go_wp2_with (go_at_call 26; refine CK.out.mono ?_; rintro e w1 ⟨rfl, hO1⟩; have O1 := Lib.hid hO1; have c4 := (hpa.past hO1).cell 4 (by omega); clear hO1)
    go_ret
    exact ⟨rfl, O1.out⟩
  · have CK := Lib.hid (rcheck_of h (err_no hp))
    rw [kind_no hp]
    clear hp
    go_enter Try.func27, Try.ntmps27
    go_wp2_with (go_at_call 26; refine CK.out.mono ?_; rintro e w1 ⟨rfl, hO1⟩; have O1 := Lib.hid hO1; clear hO1)
    go_ret
    exact ⟨rfl, O1.out⟩
set_option maxRecDepth 100000 in
theorem rslotsf_any {w : World} {v : Value} {p : List UInt8} (h : BytesC w v p) : Calls Try.prog 22 #[v] w fun e w' => e = .returned (.int .i64 (slotsE p : Nat)) ∧ Only [] w w' := by
  by_cases hp : Pg p
  · have CK := Lib.hid (rcheck_of h (err_ok hp))
    obtain ⟨b, o, cap, rfl, hpa⟩ := h.page hp.body.len
    have HP := Lib.hid hpa
    rw [slots_ok hp]
    clear h hp hpa
    go_enter Try.func22, Try.ntmps22
    go_wp2_with (first
      | (go_at_call 26; refine CK.out.mono ?_; rintro e w1 ⟨rfl, hO1⟩; have O1 := Lib.hid hO1; clear hO1)
      | (go_at_call 49; refine (rslots_any (HP.out.past O1.out)).mono ?_; rintro e w2 ⟨rfl, hO2⟩; have O2 := Lib.hid (O1.out.trans hO2 (by simp)); clear hO2))
    go_ret
    exact ⟨rfl, O2.out⟩
  · have CK := Lib.hid (rcheck_of h (err_no hp))
    rw [slots_no hp]
    clear hp
    go_enter Try.func22, Try.ntmps22
    go_wp2_with (go_at_call 26; refine CK.out.mono ?_; rintro e w1 ⟨rfl, hO1⟩; have O1 := Lib.hid hO1; clear hO1)
    go_ret
    exact ⟨rfl, O1.out⟩
set_option maxRecDepth 100000 in
theorem rfreef_any {w : World} {v : Value} {p : List UInt8} (h : BytesC w v p) : Calls Try.prog 23 #[v] w fun e w' => e = .returned (.int .i64 (freeE p : Nat)) ∧ Only [] w w' := by
  by_cases hp : Pg p
  · have CK := Lib.hid (rcheck_of h (err_ok hp))
    obtain ⟨b, o, cap, rfl, hpa⟩ := h.page hp.body.len
    have HP := Lib.hid hpa
    have RB : Hid (∀ w1, PAt w1 b o cap p → Calls Try.prog 50 #[.slice (some ⟨b, o, none⟩) 512 cap] w1 fun e w' => e = .returned (.int .i64 (bg p : Nat)) ∧ Only [] w1 w') := fun w1 h1 => rbegin_any h1
    have RS : Hid (∀ w1, PAt w1 b o cap p → Calls Try.prog 49 #[.slice (some ⟨b, o, none⟩) 512 cap] w1 fun e w' => e = .returned (.int .i64 (nS p : Nat)) ∧ Only [] w1 w') := fun w1 h1 => rslots_any h1
    have hfit := hp.body.fit
    have hbl : bg p < 65536 := two_lt p 8
    rw [free_ok hp]
    unfold freeB
    generalize bg p = bv at *
    generalize nS p = n at *
    obtain ⟨f, hf⟩ : ∃ f, bv - 10 - 4 * n = f := ⟨_, rfl⟩
    have ef : (bv : Int) - 10 - 4 * n = f := by omega
    rw [hf]
    clear h hp hpa hf
    go_enter Try.func23, Try.ntmps23
    go_wp2_with (first
      | (go_at_call 26; refine CK.out.mono ?_; rintro e w1 ⟨rfl, hO1⟩; have O1 := Lib.hid hO1; have P1 := Lib.hid (HP.out.past hO1); clear hO1)
      | (go_at_call 50; refine (RB.out _ P1.out).mono ?_; rintro e w2 ⟨rfl, hO2⟩; have O2 := Lib.hid (O1.out.trans hO2 (by simp)); have P2 := Lib.hid (P1.out.past hO2); clear hO2)
      | (go_at_call 49; refine (RS.out _ P2.out).mono ?_; rintro e w3 ⟨rfl, hO3⟩; have O3 := Lib.hid (O2.out.trans hO3 (by simp)); clear hO3))
    go_ret
    exact ⟨rfl, O3.out⟩
  · have CK := Lib.hid (rcheck_of h (err_no hp))
    rw [free_no hp]
    clear hp
    go_enter Try.func23, Try.ntmps23
    go_wp2_with (go_at_call 26; refine CK.out.mono ?_; rintro e w1 ⟨rfl, hO1⟩; have O1 := Lib.hid hO1; clear hO1)
    go_ret
    exact ⟨rfl, O1.out⟩
set_option maxRecDepth 100000 in
set_option maxHeartbeats 1000000 in
theorem rthere_any {w : World} {v : Value} {p : List UInt8} (h : BytesC w v p) (i : Int) (hi : -9223372036854775808 ≤ i ∧ i ≤ 9223372036854775807) :
    Calls Try.prog 63 #[v, .int .i64 i] w fun e w' => e = .returned (.int .i64 (getE p i : Nat)) ∧ Only [] w w' := by
  by_cases hp : Pg p
  case neg =>
    have CK := Lib.hid (rcheck_of h (err_no hp))
    rw [getE_no i hp]
    clear hp
    go_enter Try.func63, Try.ntmps63
    go_wp2_with (go_at_call 26; refine CK.out.mono ?_; rintro e w1 ⟨rfl, hO1⟩; have O1 := Lib.hid hO1; clear hO1)
    go_ret
    exact ⟨rfl, O1.out⟩
  case pos =>
    have CK := Lib.hid (rcheck_of h (err_ok hp))
    obtain ⟨b, o, cap, rfl, hpa⟩ := h.page hp.body.len
    have HP := Lib.hid hpa
    have hm := hp.body.most
    have RS : Hid (∀ w1, PAt w1 b o cap p → Calls Try.prog 49 #[.slice (some ⟨b, o, none⟩) 512 cap] w1 fun e w' => e = .returned (.int .i64 (nS p : Nat)) ∧ Only [] w1 w') := fun w1 h1 => rslots_any h1
    have GB : Hid ((i < 0 ∨ (nS p : Int) ≤ i ∨ sP p i.toNat = 0) → getE p i = 41) := getE_bad hp
    have GO : Hid (∀ k : Nat, k < nS p → sP p k ≠ 0 → getE p (k : Int) = 0) := fun k h1 h2 => getE_of hp h1 h2
    clear h hp hpa
    generalize nS p = n at *
    by_cases h1 : i < 0
    · rw [GB.out (.inl h1)]
      clear GB GO
      go_enter Try.func63, Try.ntmps63
      go_wp2_with (go_at_call 26; refine CK.out.mono ?_; rintro e w1 ⟨rfl, hO1⟩; have O1 := Lib.hid hO1; clear hO1)
      go_ret
      exact ⟨rfl, O1.out⟩
    · by_cases h2 : (n : Int) ≤ i
      · rw [GB.out (.inr (.inl h2))]
        clear GB GO
        go_enter Try.func63, Try.ntmps63
        go_wp2_with (first
          | (go_at_call 26; refine CK.out.mono ?_; rintro e w1 ⟨rfl, hO1⟩; have O1 := Lib.hid hO1; have P1 := Lib.hid (HP.out.past hO1); clear hO1)
          | (go_at_call 49; refine (RS.out _ P1.out).mono ?_; rintro e w2 ⟨rfl, hO2⟩; have O2 := Lib.hid (O1.out.trans hO2 (by simp)); clear hO2))
        go_ret
        exact ⟨rfl, O2.out⟩
      · obtain ⟨k, rfl⟩ : ∃ k : Nat, i = k := ⟨i.toNat, by omega⟩
        obtain ⟨q, hq⟩ : ∃ q, 10 + 4 * k = q := ⟨_, rfl⟩
        have hqI : (10 : Int) + 4 * (k : Int) = q := by omega
        have RT : Hid (∀ w1, PAt w1 b o cap p → Calls Try.prog 61 #[.slice (some ⟨b, o, none⟩) 512 cap, .int .i64 q] w1 fun e w' => e = .returned (.int .i64 (sP p k : Nat)) ∧ Only [] w1 w') := fun w1 h1 => by
          have := rtwo_any h1 q (by omega)
          unfold sP; rw [hq]; exact this
        have hk : k < n := by omega
        have k1 : (k : Int) < n := by omega
        have GB2 : Hid (sP p k = 0 → getE p (k : Int) = 41) := fun h => GB.out (.inr (.inr (by simpa using h)))
        have GO2 := Lib.hid (GO.out k hk)
        clear GB GO hq hk
        by_cases h3 : sP p k = 0
        · rw [GB2.out h3]
          rw [h3] at RT
          clear GB2 GO2 h3
          go_enter Try.func63, Try.ntmps63
          go_wp2_with (first
            | (go_at_call 26; refine CK.out.mono ?_; rintro e w1 ⟨rfl, hO1⟩; have O1 := Lib.hid hO1; have P1 := Lib.hid (HP.out.past hO1); clear hO1)
            | (go_at_call 49; refine (RS.out _ P1.out).mono ?_; rintro e w2 ⟨rfl, hO2⟩; have O2 := Lib.hid (O1.out.trans hO2 (by simp)); have P2 := Lib.hid (P1.out.past hO2); clear hO2)
            | (go_at_call 61; refine (RT.out _ P2.out).mono ?_; rintro e w3 ⟨rfl, hO3⟩; have O3 := Lib.hid (O2.out.trans hO3 (by simp)); clear hO3))
          go_ret
          exact ⟨rfl, O3.out⟩
        · rw [GO2.out h3]
          have h3B : ((sP p k : Int) == 0) = false := beq_eq_false_iff_ne.2 (by omega)
          have h3I : ¬ (sP p k : Int) = 0 := by omega
          clear GB2 GO2
          generalize sP p k = a at *
          go_enter Try.func63, Try.ntmps63
          go_wp2_with (first
            | (go_at_call 26; refine CK.out.mono ?_; rintro e w1 ⟨rfl, hO1⟩; have O1 := Lib.hid hO1; have P1 := Lib.hid (HP.out.past hO1); clear hO1)
            | (go_at_call 49; refine (RS.out _ P1.out).mono ?_; rintro e w2 ⟨rfl, hO2⟩; have O2 := Lib.hid (O1.out.trans hO2 (by simp)); have P2 := Lib.hid (P1.out.past hO2); clear hO2)
            | (go_at_call 61; refine (RT.out _ P2.out).mono ?_; rintro e w3 ⟨rfl, hO3⟩; have O3 := Lib.hid (O2.out.trans hO3 (by simp)); clear hO3))
          go_ret
          exact ⟨rfl, O3.out⟩
theorem rthere_of {w : World} {v : Value} {p : List UInt8} (h : BytesC w v p) (i : Int) (hi : -9223372036854775808 ≤ i ∧ i ≤ 9223372036854775807) {z : Nat} (hz : getE p i = z) :
    Calls Try.prog 63 #[v, .int .i64 i] w fun e w' => e = .returned (.int .i64 (z : Nat)) ∧ Only [] w w' := by rw [← hz]; exact rthere_any h i hi
set_option maxRecDepth 100000 in
theorem rget_no {w : World} {v : Value} {p : List UInt8} (h : BytesC w v p) (i : Int) (hi : -9223372036854775808 ≤ i ∧ i ≤ 9223372036854775807) {z : Nat} (hz : getE p i = z) (h0 : z ≠ 0) :
    Calls Try.prog 47 #[v, .int .i64 i] w fun e w' => e = .returned (.tuple #[.slice none 0 0, .int .i64 z]) ∧ Only [] w w' := by
  have TH := Lib.hid (rthere_of h i hi hz)
  have hzB : ((z : Int) == 0) = false := beq_eq_false_iff_ne.2 (by omega)
  have hzI : ¬ (z : Int) = 0 := by omega
  clear h hz hi
  go_enter Try.func47, Try.ntmps47
  go_wp2_with (go_at_call 63; refine TH.out.mono ?_; rintro e w1 ⟨rfl, hO1⟩; have O1 := Lib.hid hO1; clear hO1)
  go_ret2
  exact ⟨rfl, O1.out⟩
theorem own_row {w w' : World} {cap n : Nat} {p : List UInt8} (hl : p.length = n) (h : w'.ownsRow 0 5 1 (.slice (some ⟨w.heap.size, 0, none⟩) n cap) n (u8s p)) (hO : Only [] w w') : Own w w' (.slice (some ⟨w.heap.size, 0, none⟩) n cap) p := by
  subst hl
  exact ⟨h, fun k hk => by simp [Value.ownBlock] at hk; omega, hO⟩
set_option maxRecDepth 100000 in
theorem rget_yes {w : World} {v : Value} {p : List UInt8} (h : BytesC w v p) (hp : Pg p) {k : Nat} (hk : k < nS p) (h0 : sP p k ≠ 0) :
    Calls Try.prog 47 #[v, .int .i64 k] w fun e w' => ∃ v', e = .returned (.tuple #[v', .int .i64 0]) ∧ Own w w' v' (cutP p (sP p k) (sL p k)) := by
  obtain ⟨b, o, cap, rfl, hpa⟩ := h.page hp.body.len
  have hcap := hpa.cap
  have HP := Lib.hid hpa
  have hm := hp.body.most
  have TH := Lib.hid (rthere_of h k (by omega) (getE_of hp hk h0))
  obtain ⟨h1, h2⟩ := hp.body.core.in_ hk h0
  have h3 := (hp.body.core.goodAt hk).2.1 h0
  have RS : Hid (∀ w1, PAt w1 b o cap p → Calls Try.prog 53 #[.slice (some ⟨b, o, none⟩) 512 cap, .int .i64 k] w1 fun e w' => e = .returned (.tuple #[.int .i64 (sP p k : Nat), .int .i64 (sL p k : Nat)]) ∧ Only [] w1 w') := fun w1 hw => rslot_any hw k (by omega)
  have CL : Hid ((u8s (cutP p (sP p k) (sL p k))).length = sL p k) := by show _ = _; rw [length_u8s, cut_len (by rw [hpa.len]; omega)]
  have CS : Hid (∀ w1, PAt w1 b o cap p → ∀ j u, (u8s (cutP p (sP p k) (sL p k)))[j]? = some u → w1.cell? ⟨b, o + sP p k + j, none⟩ = some u) := fun w1 hw j u hj => by
    have := hw.src (sP p k + j) u (by
      unfold cutP at hj
      rw [u8s_take] at hj
      have := take_get hj
      rw [u8s_drop, List.getElem?_drop] at this
      exact this)
    rw [Nat.add_assoc]; exact this
  have CLN : Hid ((cutP p (sP p k) (sL p k)).length = sL p k) := cut_len (by rw [hpa.len]; omega)
  generalize cutP p (sP p k) (sL p k) = q at *
  generalize sP p k = a at *
  generalize sL p k = n at *
  obtain ⟨f, hf⟩ : ∃ f, a + n = f := ⟨_, rfl⟩
  have e1 : (a : Int) + n = f := by omega
  have e2 : f - a = n := by omega
  have e3 : ¬ cap = a := by omega
  have e9 : a < cap := by omega
  have e4 : (0 : Int) ≤ a := by omega
  have e5 : (a : Int) ≤ f := by omega
  have e6 : (f : Int) ≤ 512 := by omega
  have e7 : (f : Int) ≤ cap := by omega
  have e8 : (0 : Int) ≤ f := by omega
  have hn1 : 0 < n := by omega
  have hn2 : n ≤ 512 := by omega
  clear h hp hpa h1 h2 hk hf h0
  go_enter Try.func47, Try.ntmps47
  go_wp2_with (first
    | (go_at_call 63; refine TH.out.mono ?_; rintro e w1 ⟨rfl, hO1⟩; have O1 := Lib.hid hO1; have P1 := Lib.hid (HP.out.past hO1); clear hO1)
    | (go_at_call 53; refine (RS.out _ P1.out).mono ?_; rintro e w2 ⟨rfl, hO2⟩; have O2 := Lib.hid (O1.out.trans hO2 (by simp)); have P2 := Lib.hid (P1.out.past hO2); clear hO2)
    | (refine wpList_clone rfl _ _ _ rfl 5 Try.underlying23 (info_parts B.info_byte) rfl rfl b (o + a) n _ (u8s q) rfl CL.out (CS.out _ P2.out) (u8s_oneCell _) hn1 (by omega) (by omega) ?_; intro c3 w3 hr3 hO3 hs3; have OW := Lib.hid (own_row CLN.out hr3 hO3); clear hr3 hO3 hs3))
  go_ret2
  exact ⟨_, rfl, OW.out.1, fun x hx => Nat.le_trans O2.out.size (OW.out.2.1 x hx), O2.out.trans OW.out.2.2 (by simp)⟩
set_option maxRecDepth 100000 in
set_option maxHeartbeats 1000000 in
theorem rlaid_any {w : World} {gb c : Nat} {p b : List UInt8} {vb : Value} (h : Buf w gb c p) (hv : BytesAt w vb b) (i : Nat) (h1 : 1 ≤ b.length) (hf : 14 + 4 * i + b.length ≤ bg p) (he : bg p ≤ 512) :
    Calls Try.prog 62 #[.slice (some ⟨gb, 0, none⟩) 512 c, .int .i64 i, vb] w fun e w' => e = .returned (.slice (some ⟨gb, 0, none⟩) 512 c) ∧ Buf w' gb c (layP p i b) ∧ Only [gb] w w' := by
  obtain ⟨ao, cap, rfl, hc⟩ := hv
  obtain ⟨bb, o, rfl, hcells⟩ := hc (by omega)
  have HC := Lib.hid hcells
  have HB := Lib.hid h
  have hcap := h.cap
  obtain ⟨q, hq⟩ : ∃ q, bg p - b.length = q := ⟨_, rfl⟩
  obtain ⟨q1, hq1⟩ : ∃ q, 10 + 4 * i = q := ⟨_, rfl⟩
  obtain ⟨q2, hq2⟩ : ∃ q, 12 + 4 * i = q := ⟨_, rfl⟩
  have T8 : Hid (Calls Try.prog 50 #[.slice (some ⟨gb, 0, none⟩) 512 c] w fun e w' => e = .returned (.int .i64 (bg p : Nat)) ∧ Only [] w w') := rbegin_any h.page
  have P1 : Hid (∀ w1, Buf w1 gb c (over p q b) → Calls Try.prog 42 #[.slice (some ⟨gb, 0, none⟩) 512 c, .int .i64 8, .int .i64 q] w1 fun e w' => e = .returned (.tuple #[]) ∧ Buf w' gb c (put (over p q b) 8 q) ∧ Only [gb] w1 w') := fun w1 hb => rlay_any hb 8 q (by omega) (by omega)
  have P2 : Hid (∀ w1, Buf w1 gb c (put (over p q b) 8 q) → Calls Try.prog 42 #[.slice (some ⟨gb, 0, none⟩) 512 c, .int .i64 q1, .int .i64 q] w1 fun e w' => e = .returned (.tuple #[]) ∧ Buf w' gb c (put (put (over p q b) 8 q) q1 q) ∧ Only [gb] w1 w') := fun w1 hb => rlay_any hb q1 q (by omega) (by omega)
  have P3 : Hid (∀ w1, Buf w1 gb c (put (put (over p q b) 8 q) q1 q) → Calls Try.prog 42 #[.slice (some ⟨gb, 0, none⟩) 512 c, .int .i64 q2, .int .i64 b.length] w1 fun e w' => e = .returned (.tuple #[]) ∧ Buf w' gb c (layP p i b) ∧ Only [gb] w1 w') := fun w1 hb => by
    have := rlay_any hb q2 b.length (by omega) (by omega)
    unfold layP
    rw [hq, hq1, hq2]
    exact this
  have HMN : Hid ((u8s b).length = Nat.min b.length (512 - q)) := by
    show _ = _
    rw [length_u8s]
    exact (Nat.min_eq_left (by omega)).symm
  have HQ : Hid (q + (u8s b).length ≤ 512) := by show _ ≤ _; rw [length_u8s]; omega
  generalize layP p i b = r at *
  have e1 : (bg p : Int) - b.length = q := by omega
  have e2 : (10 : Int) + 4 * (i : Int) = q1 := by omega
  have e3 : (12 : Int) + 4 * (i : Int) = q2 := by omega
  have hbg : bg p ≤ 512 := he
  generalize bg p = bv at *
  generalize hn : b.length = n at *
  have a0 : (0 : Int) ≤ q := by omega
  have a1 : (q : Int) ≤ 512 := by omega
  have a2 : q < c := by omega
  have a3 : (q : Int) < c := by omega
  have a4 : (512 : Int) ≤ c := by omega
  have a5 : ¬ c = q := by omega
  have HN := Lib.hid hn
  clear h hcells hc hn hq hq1 hq2
  go_enter Try.func62, Try.ntmps62
  go_wp2_with (first
    | (go_at_call 50; refine T8.out.mono ?_; rintro e w2 ⟨rfl, hO2⟩; have O2 := Lib.hid hO2; have B2 := Lib.hid (HB.out.past hO2); obtain ⟨cur, hcb, hcl, _⟩ := B2.out.blk; have HCB := Lib.hid hcb; have HCL : Hid (q + (u8s b).length ≤ cur.length) := (by show _ ≤ _; have := HQ.out; omega); clear hO2 hcb hcl)
    | (refine wpList_copy_blk rfl (.tmp 15) (.tmp 16) 23 23 rfl 5 Try.underlying23 size_byte _ _ _ _ _ _ rfl rfl gb q cur 5 HCB.out (u8s b) HMN.out (fun _ => ⟨rfl, _, rfl, cells_src (fun j hj => O2.out.cell (HC.out j (by rw [← HN.out]; exact hj)) (by simp))⟩) HCL.out (u8s_oneCell _) ?_; intro w3 hb3 hO3; have B3 := Lib.hid (B2.out.copied HCB.out hb3 (by have := HQ.out; rw [length_u8s] at this; exact this)); have O3 := Lib.hid ((O2.out.mono (by simp)).trans hO3 (fun x hx => .inl hx)); clear hb3 hO3)
    | (go_at_call_of 42 (Value.int .i64 8); refine (P1.out _ B3.out).mono ?_; rintro e w4 ⟨rfl, hb4, hO4⟩; have B4 := Lib.hid hb4; have O4 := Lib.hid (O3.out.trans hO4 (fun x hx => .inl hx)); clear hb4 hO4)
    | (go_at_call_of 42 (Value.int .i64 (q1 : Int)); refine (P2.out _ B4.out).mono ?_; rintro e w5 ⟨rfl, hb5, hO5⟩; have B5 := Lib.hid hb5; have O5 := Lib.hid (O4.out.trans hO5 (fun x hx => .inl hx)); clear hb5 hO5)
    | (go_at_call 42; refine (P3.out _ B5.out).mono ?_; rintro e w6 ⟨rfl, hb6, hO6⟩; have B6 := Lib.hid hb6; have O6 := Lib.hid (O5.out.trans hO6 (fun x hx => .inl hx)); clear hb6 hO6))
  go_ret
  exact ⟨rfl, B6.out, O6.out⟩
end Go.Proofs.Ytdgnndcnpmlifaa.G
