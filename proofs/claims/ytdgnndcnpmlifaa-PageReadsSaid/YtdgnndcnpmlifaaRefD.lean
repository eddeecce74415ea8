/-
  The document's pages: taken: by a contract.
-/
import Derived.Test.YtdgnndcnpmlifaaRefC
namespace Go.Proofs.Ytdgnndcnpmlifaa.G
set_option linter.unusedSimpArgs false
open Go Go.RowKit Go.Proofs.Ytdgnndcnpmlifaa.B Go.Proofs.Ytdgnndcnpmlifaa.C
set_option linter.unusedVariables false
/-- Bytes are moved from the end on, down to m. -/
structure Sliding (p : List UInt8) (i m : Nat) (r : List UInt8) : Prop where
  len : r.length = 512
  at_ : ∀ t, g r t = if m ≤ t ∧ t < sP p i + sL p i then mv p i t else g p t
theorem sliding_start {p : List UInt8} {i : Nat} (hl : p.length = 512) : Sliding p i (sP p i + sL p i) p := ⟨hl, fun t => by rw [if_neg (by omega)]⟩
theorem Sliding.step {p r : List UInt8} {i m : Nat} (h : Sliding p i (m + 1) r) (hm : m < sP p i + sL p i) (h5 : sP p i + sL p i ≤ 512) {x : UInt8} (hx : x.toNat = mv p i m) : Sliding p i m (r.set m x) := by
  refine ⟨by rw [List.length_set]; exact h.len, fun t => ?_⟩
  rw [g_set (by rw [h.len]; omega), h.at_]
  by_cases ht : t = m
  · subst ht
    rw [if_pos rfl, if_pos (by omega)]; exact hx
  · rw [if_neg ht]
    by_cases h1 : m ≤ t ∧ t < sP p i + sL p i
    · rw [if_pos h1, if_pos (by omega)]
    · rw [if_neg h1, if_neg (by omega)]
theorem Sliding.start {p r : List UInt8} {i : Nat} (h : Sliding p i (bg p) r) (hf : 10 + 4 * nS p ≤ bg p) (hb : bg p ≤ sP p i) : Taking p i 0 r := by
  have hlow : ∀ t, t < bg p → g r t = g p t := fun t ht => by rw [h.at_, if_neg (by omega)]
  refine ⟨h.len, fun t ht => hlow t (by omega), fun k hk => by omega, fun k _ hk => ?_, fun t h1 h2 => ?_⟩
  · unfold sP sL
    exact ⟨two_congr (hlow _ (by omega)) (hlow _ (by omega)), two_congr (hlow _ (by omega)) (hlow _ (by omega))⟩
  · rw [h.at_]
    by_cases hx : bg p ≤ t ∧ t < sP p i + sL p i
    · rw [if_pos hx]
    · rw [if_neg hx]
      unfold mv
      by_cases h3 : t < bg p
      · rw [if_pos h3]
      · rw [if_neg h3, if_neg (by omega), if_neg (by omega)]
/-- The byte that goes to m. -/
theorem Sliding.from_ {p r : List UInt8} {i m : Nat} (h : Sliding p i (m + 1) r) (hb : bg p + sL p i ≤ m) (hm : m < sP p i + sL p i) (h1 : 1 ≤ sL p i) : (r.getD (m - sL p i) 0).toNat = mv p i m := by
  have e : (r.getD (m - sL p i) 0).toNat = g r (m - sL p i) := rfl
  rw [e, h.at_, if_neg (by omega)]
  unfold mv
  rw [if_neg (by omega), if_neg (by omega), if_pos (by omega)]
theorem mv_zero {p : List UInt8} {i m : Nat} (h1 : bg p ≤ m) (h2 : ¬ bg p + sL p i ≤ m) : (0 : UInt8).toNat = mv p i m := by
  unfold mv
  rw [if_neg (by omega), if_pos (by omega)]; rfl
theorem Taking.lay {p r : List UInt8} {i j : Nat} (h : Taking p i j r) (hj : j < nS p) (hn : 10 + 4 * nS p ≤ 512) (hc : ahead p i j) (hi : sP p i + sL p i ≤ 512) : Taking p i (j + 1) (put r (10 + 4 * j) (sP p j + sL p i)) := by
  have hx : sP p j < sP p i := hc.2.2
  have hl := h.len
  refine h.move hj hn hc (by rw [put_len _ (by omega)]; exact hl) (two_put (by omega) (by omega)) ?_ (fun t ht => by rw [g_put (by omega) (by omega), if_neg (by omega), if_neg (by omega)])
  have := (h.left j (Nat.le_refl _) hj).2
  unfold sL at this ⊢
  rw [two_put_ne (by omega) (by unfold sL at hi; omega) (by omega)]
  exact this
theorem Taking.count {p r : List UInt8} {i j : Nat} (h : Taking p i j r) : nS r = nS p := two_congr (h.head 6 (by omega)) (h.head 7 (by omega))
set_option maxRecDepth 100000 in
set_option maxHeartbeats 4000000 in
theorem rtaken_any {w : World} {gb c : Nat} {p : List UInt8} (h : Buf w gb c p) (hcore : Core p) (i : Nat) (hi : i < nS p) (h0 : sP p i ≠ 0) :
    Calls Try.prog 64 #[.slice (some ⟨gb, 0, none⟩) 512 c, .int .i64 i] w fun e w' => e = .returned (.slice (some ⟨gb, 0, none⟩) 512 c) ∧ ∃ q, Buf w' gb c q ∧ Took p i q ∧ Only [gb] w w' := by
  have HB := Lib.hid h
  have hcap := h.cap
  have hl := h.1
  obtain ⟨hin1, hin2⟩ := hcore.in_ hi h0
  have hL1 := (hcore.goodAt hi).2.1 h0
  have hfit := hcore.fit
  have hmost := hcore.most
  have RS0 : Hid (Calls Try.prog 53 #[.slice (some ⟨gb, 0, none⟩) 512 c, .int .i64 i] w fun e w' => e = .returned (.tuple #[.int .i64 (sP p i : Nat), .int .i64 (sL p i : Nat)]) ∧ Only [] w w') := rslot_any h.page i (by omega)
  have RB : Hid (∀ w1, Buf w1 gb c p → Calls Try.prog 50 #[.slice (some ⟨gb, 0, none⟩) 512 c] w1 fun e w' => e = .returned (.int .i64 (bg p : Nat)) ∧ Only [] w1 w') := fun w1 h1 => rbegin_any h1.page
  have S0 : Hid (Sliding p i (sP p i + sL p i) p) := sliding_start hl
  have SST : Hid (∀ m r x, Sliding p i (m + 1) r → m < sP p i + sL p i → x.toNat = mv p i m → Sliding p i m (r.set m x)) := fun m r x h1 h2 h3 => h1.step h2 hin2 h3
  have SFR : Hid (∀ m r, Sliding p i (m + 1) r → bg p + sL p i ≤ m → m < sP p i + sL p i → (r.getD (m - sL p i) 0).toNat = mv p i m) := fun m r h1 h2 h3 => h1.from_ h2 h3 hL1
  have SZ : Hid (∀ m, bg p ≤ m → ¬ bg p + sL p i ≤ m → (0 : UInt8).toNat = mv p i m) := fun m h1 h2 => mv_zero h1 h2
  have STK : Hid (∀ r, Sliding p i (bg p) r → Taking p i 0 r) := fun r h1 => h1.start hfit hin1
  have STEP : Hid (∀ j r, Taking p i j r → j < nS p → ahead p i j → Taking p i (j + 1) (put r (10 + 4 * j) (sP p j + sL p i))) := fun j r h1 h2 h3 => h1.lay h2 (by omega) h3 hin2
  have SKIP : Hid (∀ j r, Taking p i j r → j < nS p → ¬ ahead p i j → Taking p i (j + 1) r) := fun j r h1 h2 h3 => h1.skip h2 h3
  have FIN : Hid (∀ r, Taking p i (nS p) r → Took p i (put (put (put r 8 (bg p + sL p i)) (10 + 4 * i) 0) (12 + 4 * i) 0)) := fun r h1 => h1.fin' hi (by omega) (by omega)
  have AH : Hid (∀ j, ahead p i j ↔ (j ≠ i ∧ sP p j ≠ 0 ∧ sP p j < sP p i)) := fun _ => Iff.rfl
  have NSR : Hid (∀ j r, Taking p i j r → nS r = nS p) := fun j r h1 => h1.count
  have LEFT : Hid (∀ j r, Taking p i j r → j < nS p → sP r j = sP p j ∧ sL r j = sL p j) := fun j r h1 h2 => h1.left j (Nat.le_refl _) h2
  have SAME : Hid (∀ j, j = i → sP p j = sP p i) := fun j h => by rw [h]
  have PB : Hid (∀ k, sP p k < 65536 ∧ sL p k < 65536) := fun k => ⟨two_lt _ _, two_lt _ _⟩
  generalize sP p i = P at *
  generalize sL p i = L at *
  generalize nS p = n at *
  generalize bg p = bv at *
  clear h hcore
  obtain ⟨E, hE⟩ : ∃ E, P + L = E := ⟨_, rfl⟩
  rw [hE] at S0 SST SFR
  have e1 : (P : Int) + L = E := by omega
  obtain ⟨q2, hq2⟩ : ∃ q, bv + L = q := ⟨_, rfl⟩
  rw [hq2] at FIN
  have e2 : (bv : Int) + L = q2 := by omega
  have hE5 : E ≤ 512 := by omega
  have HCAP := Lib.hid hcap
  go_enter Try.func64, Try.ntmps64
  go_wp2_with (first
    | (go_at_call 53; refine RS0.out.mono ?_; rintro e w1 ⟨rfl, hO1⟩; have O1 := Lib.hid hO1; have B1 := Lib.hid (HB.out.past hO1); clear hO1)
    | (go_at_call 50; refine (RB.out _ B1.out).mono ?_; rintro e w2 ⟨rfl, hO2⟩; have O2 := Lib.hid (O1.out.trans hO2 (by simp)); have B2 := Lib.hid (B1.out.past hO2); clear hO2))
  go_loopg [8] E (fun gk s8 wx => ∃ (m : Nat) (r : List UInt8), gk = m ∧ bv ≤ m ∧ m ≤ E ∧ s8 = .int .i64 ((m : Int) - 1) ∧ Sliding p i m r ∧ Buf wx gb c r ∧ Only [gb] w wx)
  case atStart => exact ⟨E, p, rfl, by omega, Nat.le_refl _, rfl, S0.out, B2.out, O2.out.mono (by simp)⟩
  case round =>
    obtain ⟨m, r, hgk, hm1, hm2, rfl, hsl, hb, hO⟩ := hrel
    have HGK := Lib.hid hgk
    have SL := Lib.hid hsl
    have BR := Lib.hid hb
    have OR := Lib.hid hO
    clear hgk hsl hb hO B1 B2 O1 O2
    by_cases hgt : bv < m
    · obtain ⟨k, rfl⟩ : ∃ k, m = k + 1 := ⟨m - 1, by omega⟩
      have ek : ((k + 1 : Nat) : Int) - 1 = k := by omega
      rw [ek]
      have k1 : (bv : Int) ≤ k := by omega
      have k2 : (0 : Int) ≤ k := by omega
      have k3 : (k : Int) < 512 := by omega
      have ck := BR.out.cell (j := k) (by omega)
      obtain ⟨cur, hcur, -⟩ := BR.out.blk
      have fk := hcur.frozen k
      have SET := Lib.hid (fun x => BR.out.set (i := k) (by omega) x)
      have OSET := Lib.hid (fun (x : Value) => OR.out.setCell (p := ⟨gb, k, none⟩) (.inl (by simp)) x)
      by_cases hz : bv + L ≤ k
      · obtain ⟨f, hf⟩ : ∃ f, k - L = f := ⟨_, rfl⟩
        have ef : (k : Int) - L = f := by omega
        have f1 : (bv : Int) ≤ f := by omega
        have f2 : (0 : Int) ≤ f := by omega
        have f3 : (f : Int) < 512 := by omega
        have cf := BR.out.cell (j := f) (by omega)
        have SN := Lib.hid (SST.out k r _ SL.out (by omega) (SFR.out k r SL.out hz (by omega)))
        rw [hf] at SN
        have SETf := Lib.hid (SET.out (r.getD f 0))
        generalize r.getD f 0 = x at *
        clear hf hz hcur
        go_wp2_with fail
        go_roundg k
        case measure => have := HGK.out; omega
        case rel => exact ⟨k, _, rfl, by omega, by omega, rfl, SN.out, SETf.out, OSET.out _⟩
      · obtain ⟨f, hf⟩ : ∃ f : Int, (k : Int) - L = f := ⟨_, rfl⟩
        have f1 : ¬ (bv : Int) ≤ f := by omega
        have f4 : -1000 ≤ f ∧ f ≤ 1000 := by omega
        have SN := Lib.hid (SST.out k r 0 SL.out (by omega) (SZ.out k (by omega) hz))
        have SETf := Lib.hid (SET.out 0)
        clear hz hcur
        go_wp2_with fail
        go_roundg k
        case measure => have := HGK.out; omega
        case rel => exact ⟨k, _, rfl, by omega, by omega, rfl, SN.out, SETf.out, OSET.out _⟩
    · obtain rfl : m = bv := by omega
      have TK0 := Lib.hid (STK.out r SL.out)
      have k1 : ¬ (m : Int) ≤ (m : Int) - 1 := by omega
      have k0 : decide ((m : Int) ≤ (m : Int) - 1) = false := decide_eq_false k1
      go_wp2_with fail
      clear k0 k1 SST SFR SZ STK S0
      go_loopg [9] n (fun gk s9 wx => ∃ (j : Nat) (r : List UInt8), gk = n - j ∧ j ≤ n ∧ s9 = .int .i64 j ∧ Taking p i j r ∧ Buf wx gb c r ∧ Only [gb] w wx)
      case atStart => exact ⟨0, r, rfl, Nat.zero_le _, rfl, TK0.out, BR.out, OR.out⟩
      case round =>
        obtain ⟨j, r2, hgk, hj, rfl, htk, hb, hO⟩ := hrel
        have HGK2 := Lib.hid hgk
        have TK := Lib.hid htk
        have B2 := Lib.hid hb
        have O2 := Lib.hid hO
        clear hgk htk hb hO TK0 SL
        have RN : Hid (∀ w1, Buf w1 gb c r2 → Calls Try.prog 49 #[.slice (some ⟨gb, 0, none⟩) 512 c] w1 fun e w' => e = .returned (.int .i64 (n : Nat)) ∧ Only [] w1 w') := fun w1 h1 => by
          have := rslots_any h1.page
          rw [NSR.out j r2 TK.out] at this
          exact this
        by_cases hlt : j < n
        · have j1 : (j : Int) < n := by omega
          obtain ⟨q, hq⟩ : ∃ q, 10 + 4 * j = q := ⟨_, rfl⟩
          have hqI : (10 : Int) + 4 * (j : Int) = q := by omega
          obtain ⟨lf1, lf2⟩ := LEFT.out j r2 TK.out hlt
          have RS : Hid (∀ w1, Buf w1 gb c r2 → Calls Try.prog 53 #[.slice (some ⟨gb, 0, none⟩) 512 c, .int .i64 j] w1 fun e w' => e = .returned (.tuple #[.int .i64 (sP p j : Nat), .int .i64 (sL p j : Nat)]) ∧ Only [] w1 w') := fun w1 h1 => by
            have := rslot_any h1.page j (by omega)
            rw [lf1, lf2] at this
            exact this
          have STEPj := Lib.hid (STEP.out j r2 TK.out hlt)
          have SKIPj := Lib.hid (SKIP.out j r2 TK.out hlt)
          have AHj := Lib.hid (AH.out j)
          have SAMEj := Lib.hid (SAME.out j)
          obtain ⟨hba, hbb⟩ := PB.out j
          rw [hq] at STEPj
          generalize sP p j = a at *
          generalize sL p j = b at *
          generalize ahead p i j = A at *
          clear lf1 lf2 STEP SKIP AH FIN SAME
          by_cases ha : a = 0
          · subst ha
            have SK := Lib.hid (SKIPj.out (fun h => (AHj.out.1 h).2.1 rfl))
            clear SKIPj STEPj hq
            go_wp2_with (first
              | (go_at_call 49; refine (RN.out _ B2.out).mono ?_; rintro e w3 ⟨rfl, hO3⟩; have B3 := Lib.hid (B2.out.past hO3); have O3 := Lib.hid (O2.out.trans hO3 (by simp)); clear hO3)
              | (go_at_call 53; refine (RS.out _ B3.out).mono ?_; rintro e w4 ⟨rfl, hO4⟩; have B4 := Lib.hid (B3.out.past hO4); have O4 := Lib.hid (O3.out.trans hO4 (by simp)); clear hO4))
            go_roundg (n - (j + 1))
            case measure => have := HGK2.out; omega
            case rel => exact ⟨j + 1, r2, rfl, by omega, by go_num, SK.out, B4.out, O4.out⟩
          · have haB : ((a : Int) != 0) = true := bne_iff_ne.2 (by omega)
            have haI : ¬ (a : Int) = 0 := by omega
            by_cases hlp : a < P
            · have hji : j ≠ i := fun h => by have := SAMEj.out h; omega
              have ST := Lib.hid (STEPj.out (AHj.out.2 ⟨hji, ha, hlp⟩))
              obtain ⟨q3, hq3⟩ : ∃ q, a + L = q := ⟨_, rfl⟩
              rw [hq3] at ST
              have e8 : (a : Int) + L = q3 := by omega
              have hl3 : (a : Int) < P := by omega
              have RL : Hid (∀ w1, Buf w1 gb c r2 → Calls Try.prog 42 #[.slice (some ⟨gb, 0, none⟩) 512 c, .int .i64 q, .int .i64 q3] w1 fun e w' => e = .returned (.tuple #[]) ∧ Buf w' gb c (put r2 q q3) ∧ Only [gb] w1 w') := fun w1 h1 => rlay_any h1 q q3 (by omega) (by omega)
              clear SKIPj STEPj hq hq3 ha hji
              go_wp2_with (first
                | (go_at_call 49; refine (RN.out _ B2.out).mono ?_; rintro e w3 ⟨rfl, hO3⟩; have B3 := Lib.hid (B2.out.past hO3); have O3 := Lib.hid (O2.out.trans hO3 (by simp)); clear hO3)
                | (go_at_call 53; refine (RS.out _ B3.out).mono ?_; rintro e w4 ⟨rfl, hO4⟩; have B4 := Lib.hid (B3.out.past hO4); have O4 := Lib.hid (O3.out.trans hO4 (by simp)); clear hO4)
                | (go_at_call 42; refine (RL.out _ B4.out).mono ?_; rintro e w5 ⟨rfl, hb5, hO5⟩; have B5 := Lib.hid hb5; have O5 := Lib.hid (O4.out.trans hO5 (fun x hx => .inl hx)); clear hb5 hO5))
              go_roundg (n - (j + 1))
              case measure => have := HGK2.out; omega
              case rel => exact ⟨j + 1, _, rfl, by omega, by go_num, ST.out, B5.out, O5.out⟩
            · have SK := Lib.hid (SKIPj.out (fun h => hlp (AHj.out.1 h).2.2))
              have hl3 : ¬ (a : Int) < P := by omega
              have hl4 : decide ((a : Int) < P) = false := decide_eq_false hl3
              clear SKIPj STEPj hq ha
              go_wp2_with (first
                | (go_at_call 49; refine (RN.out _ B2.out).mono ?_; rintro e w3 ⟨rfl, hO3⟩; have B3 := Lib.hid (B2.out.past hO3); have O3 := Lib.hid (O2.out.trans hO3 (by simp)); clear hO3)
                | (go_at_call 53; refine (RS.out _ B3.out).mono ?_; rintro e w4 ⟨rfl, hO4⟩; have B4 := Lib.hid (B3.out.past hO4); have O4 := Lib.hid (O3.out.trans hO4 (by simp)); clear hO4))
              go_roundg (n - (j + 1))
              case measure => have := HGK2.out; omega
              case rel => exact ⟨j + 1, r2, rfl, by omega, by go_num, SK.out, B4.out, O4.out⟩
        · obtain rfl : j = n := by omega
          have FI := Lib.hid (FIN.out r2 TK.out)
          obtain ⟨u1, hu1⟩ : ∃ q, 10 + 4 * i = q := ⟨_, rfl⟩
          obtain ⟨u2, hu2⟩ : ∃ q, 12 + 4 * i = q := ⟨_, rfl⟩
          have g1 : (10 : Int) + 4 * (i : Int) = u1 := by omega
          have g2 : (12 : Int) + 4 * (i : Int) = u2 := by omega
          rw [hu1, hu2] at FI
          have P1 : Hid (∀ w1, Buf w1 gb c r2 → Calls Try.prog 42 #[.slice (some ⟨gb, 0, none⟩) 512 c, .int .i64 8, .int .i64 q2] w1 fun e w' => e = .returned (.tuple #[]) ∧ Buf w' gb c (put r2 8 q2) ∧ Only [gb] w1 w') := fun w1 h1 => rlay_any h1 8 q2 (by omega) (by omega)
          have P2 : Hid (∀ w1, Buf w1 gb c (put r2 8 q2) → Calls Try.prog 42 #[.slice (some ⟨gb, 0, none⟩) 512 c, .int .i64 u1, .int .i64 0] w1 fun e w' => e = .returned (.tuple #[]) ∧ Buf w' gb c (put (put r2 8 q2) u1 0) ∧ Only [gb] w1 w') := fun w1 h1 => rlay_any h1 u1 0 (by omega) (by omega)
          have P3 : Hid (∀ w1, Buf w1 gb c (put (put r2 8 q2) u1 0) → Calls Try.prog 42 #[.slice (some ⟨gb, 0, none⟩) 512 c, .int .i64 u2, .int .i64 0] w1 fun e w' => e = .returned (.tuple #[]) ∧ Buf w' gb c (put (put (put r2 8 q2) u1 0) u2 0) ∧ Only [gb] w1 w') := fun w1 h1 => rlay_any h1 u2 0 (by omega) (by omega)
          clear STEP SKIP AH FIN SAME LEFT TK hu1 hu2
          go_wp2_with (first
            | (go_at_call 49; refine (RN.out _ B2.out).mono ?_; rintro e w3 ⟨rfl, hO3⟩; have B3 := Lib.hid (B2.out.past hO3); have O3 := Lib.hid (O2.out.trans hO3 (by simp)); clear hO3)
            | (go_at_call_of 42 (Value.int .i64 8); refine (P1.out _ B3.out).mono ?_; rintro e w4 ⟨rfl, hb4, hO4⟩; have B4 := Lib.hid hb4; have O4 := Lib.hid (O3.out.trans hO4 (fun x hx => .inl hx)); clear hb4 hO4)
            | (go_at_call_of 42 (Value.int .i64 (u1 : Int)); refine (P2.out _ B4.out).mono ?_; rintro e w5 ⟨rfl, hb5, hO5⟩; have B5 := Lib.hid hb5; have O5 := Lib.hid (O4.out.trans hO5 (fun x hx => .inl hx)); clear hb5 hO5)
            | (go_at_call 42; refine (P3.out _ B5.out).mono ?_; rintro e w6 ⟨rfl, hb6, hO6⟩; have B6 := Lib.hid hb6; have O6 := Lib.hid (O5.out.trans hO6 (fun x hx => .inl hx)); clear hb6 hO6))
          go_ret
          exact ⟨rfl, _, B6.out, FI.out, O6.out⟩
end Go.Proofs.Ytdgnndcnpmlifaa.G
