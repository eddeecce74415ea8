/-
  PageFills, walked: it answers true.
-/
import Derived.Test.YtdgnndcnpmlifaaPageU
import Derived.Test.YtdgnndcnpmlifaaFillsM
import Derived.Deep.DeepCutAuto
namespace Go.Proofs.Ytdgnndcnpmlifaa.G
set_option linter.unusedSimpArgs false
open Go Go.RowKit Go.Proofs.Ytdgnndcnpmlifaa.B Go.Proofs.Ytdgnndcnpmlifaa.C
set_option linter.unusedVariables false
/-- What the law's loops hold: a page of one's own. -/
structure Mine (w wx : World) (v : Value) (p : List UInt8) : Prop where
  is : ∃ gb c, v = .slice (some ⟨gb, 0, none⟩) 512 c ∧ Buf wx gb c p ∧ w.heap.size ≤ gb
  only : Only [] w wx
theorem Mine.mk' {w wx : World} {gb c : Nat} {p : List UInt8} (h1 : Buf wx gb c p) (h2 : w.heap.size ≤ gb) (h3 : Only [] w wx) : Mine w wx (.slice (some ⟨gb, 0, none⟩) 512 c) p := ⟨⟨gb, c, rfl, h1, h2⟩, h3⟩
theorem Mine.past {w wx wy : World} {v : Value} {p : List UInt8} (h : Mine w wx v p) (hO : Only [] wx wy) : Mine w wy v p := by
  obtain ⟨⟨gb, c, rfl, h1, h2⟩, h3⟩ := h
  exact .mk' (h1.past hO) h2 (h3.trans hO (by simp))
theorem Mine.c {w wx : World} {v : Value} {p : List UInt8} (h : Mine w wx v p) : BytesC wx v p := by
  obtain ⟨⟨gb, c, rfl, h1, h2⟩, h3⟩ := h
  exact h1.c
theorem fills_min {m sz : Nat} (h1 : m ≤ 125) (h2 : m * (sz + 4) ≤ 502) (h3 : ¬ (m < 125 ∧ m * (sz + 4) + (sz + 4) ≤ 502)) : min (125 : Int) ((502 : Int) / ((sz : Int) + 4)) = m := by
  have e : (502 : Int) / ((sz : Int) + 4) = ((502 / (sz + 4) : Nat) : Int) := rfl
  rw [e]
  have hq : m ≤ 502 / (sz + 4) := (Nat.le_div_iff_mul_le (by omega)).2 h2
  by_cases hm : m < 125
  · have : ¬ m + 1 ≤ 502 / (sz + 4) := fun hx => by
      have := (Nat.le_div_iff_mul_le (by omega)).1 hx
      rw [Nat.succ_mul] at this
      exact h3 ⟨hm, this⟩
    omega
  · omega
set_option maxRecDepth 100000 in
set_option maxHeartbeats 4000000 in
theorem fills_main {w : World} (sz : Nat) (h1 : 1 ≤ sz) (h2 : sz ≤ 400) : Calls Try.prog 3 #[.int .i64 sz] w fun e w' => e = .returned (.bool true) ∧ Below w.heap.size w w' := by
  have NW : Hid (∀ w1, Calls Try.prog 9 #[.int .u8 3] w1 fun e w' => ∃ gb c, e = .returned (.slice (some ⟨gb, 0, none⟩) 512 c) ∧ Buf w' gb c (newP 3) ∧ w1.heap.size ≤ gb ∧ Only [] w1 w') := fun w1 => new_any 3
  have HF : Hid (Full (newP 3) sz 0) := full_new (new_fresh 3) sz
  generalize newP 3 = p0 at *
  have mk0 := make_u8s sz (by omega)
  have MORE : Hid (∀ p m, Full p sz m → m < 125 → m * (sz + 4) + (sz + 4) ≤ 502 → insE p (List.replicate sz 0) = 0 ∧ freeS p = m ∧ Full (insP p (List.replicate sz 0)) sz (m + 1)) := fun p m h3 h4 h5 => h3.more h1 h2 h4 h5
  have FNO : Hid (∀ p m, Full p sz m → ¬ (m < 125 ∧ m * (sz + 4) + (sz + 4) ≤ 502) → insE p (List.replicate sz 0) = 42) := fun p m h3 h4 => h3.no h1 h2 h4
  have BMORE : Hid (∀ p n e t, Back p sz n e t → n ≤ 125 → n * (sz + 4) ≤ 502 → 2 * t < n → t < e → insE p (List.replicate sz 0) = 0 ∧ freeS p = 2 * t ∧ Back (insP p (List.replicate sz 0)) sz n e (t + 1)) := fun p n e t h3 h4 h5 h6 h7 => h3.more h1 h2 h4 h5 h6 h7
  have HZL : Hid ((List.replicate sz (0 : UInt8)).length = sz) := by show _ = _; simp
  generalize List.replicate sz (0 : UInt8) = z at *
  have mk : ∀ w : World, (Instr.makeSlice 23 (.int .i64 (sz : Int)) (.int .i64 (sz : Int))).run Try.prog w = .ok (.slice (some ⟨w.heap.size, 0, none⟩) sz sz) (w.alloc (.cells (u8s z).toArray 5)) := mk0
  clear mk0
  have BM : Hid (∀ w1 : World, BytesAt (w1.alloc (.cells (u8s z).toArray 5)) (.slice (some ⟨w1.heap.size, 0, none⟩) sz sz) z) := fun w1 => bytes_made _ HZL.out.symm
  have i1 : ¬ (sz : Int) < 1 := by omega
  have i2 : ¬ (sz : Int) > 400 := by omega
  have i3 : (sz : Int) ≤ 400 := by omega
  have HS1 := Lib.hid h1
  have HS2 := Lib.hid h2
  clear h1 h2
  go_enter Try.func3, Try.ntmps3
  go_wp2_with (first
    | (go_at_call 8; refine (known_any w).mono ?_; rintro e w1 ⟨rfl, hO1⟩; have O1 := Lib.hid hO1; clear hO1)
    | (go_at_call 9; refine (NW.out _).mono ?_; rintro e w2 ⟨gb, c, rfl, hb2, hg2, hO2⟩; have M2 := Lib.hid (Mine.mk' hb2 (Nat.le_trans O1.out.size hg2) (O1.out.trans hO2 (by simp))); clear hb2 hg2 hO2))
  go_loopg [3, 4, 5, 6, 7] 126 (fun gk s3 s4 s5 s6 s7 wx => ∃ (m : Nat) (p : List UInt8), gk = 126 - m ∧ m ≤ 125 ∧ m * (sz + 4) ≤ 502 ∧ s4 = .int .i64 m ∧ Full p sz m ∧ Mine w wx s3 p)
  case atStart => exact ⟨0, p0, rfl, by omega, by omega, rfl, HF.out, M2.out⟩
  case round =>
    obtain ⟨m, p, hgk, hm, hmr, rfl, hfull, hmine⟩ := hrel
    have HGK := Lib.hid hgk
    have FU := Lib.hid hfull
    have MI := Lib.hid hmine
    have HMR := Lib.hid hmr
    obtain ⟨⟨gb2, c2, rfl, hb2, hg2⟩, hO2⟩ := hmine
    clear hgk hfull hO2 hmr hb2 hg2 M2 O1
    by_cases hx : m < 125 ∧ m * (sz + 4) + (sz + 4) ≤ 502
    · obtain ⟨hE, hFS, hFU⟩ := MORE.out p m FU.out hx.1 hx.2
      have IN : Hid (∀ w1 vb, Mine w w1 (.slice (some ⟨gb2, 0, none⟩) 512 c2) p → BytesAt w1 vb z → Calls Try.prog 10 #[.slice (some ⟨gb2, 0, none⟩) 512 c2, vb] w1 fun e w' => ∃ gb c, e = .returned (.tuple #[.slice (some ⟨gb, 0, none⟩) 512 c, .int .i64 (m : Nat), .int .i64 0]) ∧ Mine w w' (.slice (some ⟨gb, 0, none⟩) 512 c) (insP p z)) := fun w1 vb h3 h4 => by
        refine (insert_yes h3.c h4 hE).mono ?_
        rintro e w' ⟨gb, c, he, hb, hg, hO⟩
        rw [hFS] at he
        exact ⟨gb, c, he, .mk' hb (Nat.le_trans h3.only.size hg) (h3.only.trans hO (by simp))⟩
      have FX := Lib.hid hFU
      have HX := Lib.hid hx
      have i4 : (m : Int) < 125 := by omega
      clear hE hFS hFU hx MORE FNO BMORE
      go_wp2_with (go_at_call 10; refine (IN.out _ _ (MI.out.past ((Only.refl [] wr).alloc _)) (BM.out _)).mono ?_; rintro e w3 ⟨gb3, c3, rfl, hm3⟩; have M3 := Lib.hid hm3; clear hm3)
      go_roundg (126 - (m + 1))
      case measure => have := HGK.out; omega
      case rel => exact ⟨m + 1, insP p z, rfl, by omega, by rw [Nat.succ_mul]; exact HX.out.2, by go_num, FX.out, M3.out⟩
    · have hE := FNO.out p m FU.out hx
      have IN : Hid (∀ w1 vb, Mine w w1 (.slice (some ⟨gb2, 0, none⟩) 512 c2) p → BytesAt w1 vb z → Calls Try.prog 10 #[.slice (some ⟨gb2, 0, none⟩) 512 c2, vb] w1 fun e w' => e = .returned (.tuple #[.slice none 0 0, .int .i64 0, .int .i64 42]) ∧ Only [] w1 w') := fun w1 vb h3 h4 => insert_no (z := 42) h3.c h4 hE (by decide)
      have MN := fills_min hm HMR.out hx
      obtain ⟨q, hq⟩ : ∃ q, m * (sz + 4) = q := ⟨_, rfl⟩
      obtain ⟨r, hr⟩ : ∃ r, 502 - q = r := ⟨_, rfl⟩
      have hqI : (m : Int) * ((sz : Int) + 4) = q := by rw [← hq]; push_cast; rfl
      have hrI : (502 : Int) - q = r := by have h5 := HMR.out; rw [hq] at h5; omega
      have HX := Lib.hid hx
      have FR : Hid (∀ w1, Mine w w1 (.slice (some ⟨gb2, 0, none⟩) 512 c2) p → Calls Try.prog 11 #[.slice (some ⟨gb2, 0, none⟩) 512 c2] w1 fun e w' => e = .returned (.int .i64 (r : Nat)) ∧ Only [] w1 w') := fun w1 h3 => by
        have := freef_any h3.c
        rw [free_ok FU.out.pg, FU.out.free, hq, hr] at this
        exact this
      clear hE hx MORE hq hr
      go_wp2_with (first
        | (go_at_call 10; refine (IN.out _ _ (MI.out.past ((Only.refl [] wr).alloc _)) (BM.out _)).mono ?_; rintro e w3 ⟨rfl, hO3⟩; have M3 := Lib.hid ((MI.out.past ((Only.refl [] wr).alloc _)).past hO3); clear hO3)
        | (go_at_call 11; refine (FR.out _ M3.out).mono ?_; rintro e w4 ⟨rfl, hO4⟩; have M4 := Lib.hid (M3.out.past hO4); clear hO4))
      go_loopg [3, 8, 9, 10] (m + 2) (fun gk s3 s8 s9 s10 wx => ∃ (i t : Nat) (p : List UInt8), gk = m + 2 - i ∧ i ≤ m + 1 ∧ Hid (i = 2 * t) ∧ s8 = .int .i64 i ∧ Half p sz m t ∧ Mine w wx s3 p)
      case atStart => exact ⟨0, 0, p, rfl, by omega, rfl, rfl, FU.out.half, M4.out⟩
      case round =>
        obtain ⟨i, t, p3, hgk, hi, HIT, rfl, hhalf, hmine⟩ := hrel
        have HGK2 := Lib.hid hgk
        have HA := Lib.hid hhalf
        have MI3 := Lib.hid hmine
        obtain ⟨⟨gb3, c3, rfl, hb3, hg3⟩, hO3⟩ := hmine
        clear hgk hhalf hb3 hg3 hO3 MI M3 M4 IN FR MN FU hqI hrI
        by_cases hlt : i < m
        · have i4 : (i : Int) < m := by omega
          have hi2 : 2 * t < m := by have := HIT.out; omega
          obtain ⟨hg1, hg2⟩ := HA.out.is hi2
          have DL : Hid (∀ w1, Mine w w1 (.slice (some ⟨gb3, 0, none⟩) 512 c3) p3 → Calls Try.prog 12 #[.slice (some ⟨gb3, 0, none⟩) 512 c3, .int .i64 i] w1 fun e w' => ∃ gb c r, e = .returned (.tuple #[.slice (some ⟨gb, 0, none⟩) 512 c, .int .i64 0]) ∧ Half r sz m (t + 1) ∧ Mine w w' (.slice (some ⟨gb, 0, none⟩) 512 c) r) := fun w1 h3 => by
            have := delete_yes h3.c HA.out.pg hg1 hg2
            rw [← HIT.out] at this
            refine this.mono ?_
            rintro e w' ⟨gb, c, r, he, hr, hb, hg, hO⟩
            rw [HIT.out] at hr
            exact ⟨gb, c, r, he, HA.out.more hi2 hr, .mk' hb (Nat.le_trans h3.only.size hg) (h3.only.trans hO (by simp))⟩
          clear hg1 hg2 hi2
          go_wp2_with (go_at_call 12; refine (DL.out _ MI3.out).mono ?_; rintro e w5 ⟨gb5, c5, r5, rfl, hh5, hm5⟩; have H5 := Lib.hid hh5; have M5 := Lib.hid hm5; clear hh5 hm5)
          go_roundg (m + 2 - (i + 2))
          case measure => have := HGK2.out; omega
          case rel => exact ⟨i + 2, t + 1, r5, rfl, by omega, by have := HIT.out; show _ = _; omega, by go_num, H5.out, M5.out⟩
        · have i4 : ¬ (i : Int) < m := by omega
          have BK := Lib.hid (HA.out.back (e := t) (by have := HIT.out; omega))
          have HTE : Hid (2 * t ≤ m + 1 ∧ m ≤ 2 * t) := by have := HIT.out; show _ ∧ _; omega
          go_wp2_with fail
          go_loopg [3, 11, 12, 13, 14] (m + 2) (fun gk s3 s11 s12 s13 s14 wx => ∃ (i2 t2 : Nat) (p : List UInt8), gk = m + 2 - i2 ∧ i2 ≤ m + 1 ∧ Hid (i2 = 2 * t2) ∧ s11 = .int .i64 i2 ∧ Back p sz m t t2 ∧ Mine w wx s3 p)
          case atStart => exact ⟨0, 0, p3, rfl, by omega, rfl, rfl, BK.out, MI3.out⟩
          case round =>
            obtain ⟨i2, t2, p4, hgk, hi, HIT2, rfl, hback, hmine⟩ := hrel
            have HGK3 := Lib.hid hgk
            have HBK := Lib.hid hback
            have MI4 := Lib.hid hmine
            obtain ⟨⟨gb4, c4, rfl, hb4, hg4⟩, hO4⟩ := hmine
            clear hgk hback hb4 hg4 hO4 MI3 HA BK
            by_cases hlt2 : i2 < m
            · have i5 : (i2 : Int) < m := by omega
              obtain ⟨hE, hFS, hBB⟩ := BMORE.out p4 m t t2 HBK.out hm HMR.out (by have := HIT2.out; omega) (by have := HIT2.out; have := HTE.out; omega)
              rw [← HIT2.out] at hFS
              have IN : Hid (∀ w1 vb, Mine w w1 (.slice (some ⟨gb4, 0, none⟩) 512 c4) p4 → BytesAt w1 vb z → Calls Try.prog 10 #[.slice (some ⟨gb4, 0, none⟩) 512 c4, vb] w1 fun e w' => ∃ gb c, e = .returned (.tuple #[.slice (some ⟨gb, 0, none⟩) 512 c, .int .i64 (i2 : Nat), .int .i64 0]) ∧ Mine w w' (.slice (some ⟨gb, 0, none⟩) 512 c) (insP p4 z)) := fun w1 vb h3 h4 => by
                refine (insert_yes h3.c h4 hE).mono ?_
                rintro e w' ⟨gb, c, he, hb, hg, hO⟩
                rw [hFS] at he
                exact ⟨gb, c, he, .mk' hb (Nat.le_trans h3.only.size hg) (h3.only.trans hO (by simp))⟩
              have B5 := Lib.hid hBB
              clear hE hFS hBB
              go_wp2_with (go_at_call 10; refine (IN.out _ _ (MI4.out.past ((Only.refl [] _).alloc _)) (BM.out _)).mono ?_; rintro e w5 ⟨gb5, c5, rfl, hm5⟩; have M5 := Lib.hid hm5; clear hm5)
              go_roundg (m + 2 - (i2 + 2))
              case measure => have := HGK3.out; omega
              case rel => exact ⟨i2 + 2, t2 + 1, _, rfl, by omega, by have := HIT2.out; show _ = _; omega, by go_num, B5.out, M5.out⟩
            · have i5 : ¬ (i2 : Int) < m := by omega
              have FU2 := HBK.out.full (by have := HIT2.out; omega) (by have := HIT2.out; have := HTE.out; omega)
              have hE := FNO.out p4 m FU2 HX.out
              have IN : Hid (∀ w1 vb, Mine w w1 (.slice (some ⟨gb4, 0, none⟩) 512 c4) p4 → BytesAt w1 vb z → Calls Try.prog 10 #[.slice (some ⟨gb4, 0, none⟩) 512 c4, vb] w1 fun e w' => e = .returned (.tuple #[.slice none 0 0, .int .i64 0, .int .i64 42]) ∧ Only [] w1 w') := fun w1 vb h3 h4 => insert_no (z := 42) h3.c h4 hE (by decide)
              have SL : Hid (∀ w1, Mine w w1 (.slice (some ⟨gb4, 0, none⟩) 512 c4) p4 → Calls Try.prog 13 #[.slice (some ⟨gb4, 0, none⟩) 512 c4] w1 fun e w' => e = .returned (.int .i64 (m : Nat)) ∧ Only [] w1 w') := fun w1 h3 => by
                have := slotsf_any h3.c
                rw [slots_ok FU2.pg, FU2.facts.1] at this
                exact this
              have CK : Hid (∀ w1, Mine w w1 (.slice (some ⟨gb4, 0, none⟩) 512 c4) p4 → Calls Try.prog 14 #[.slice (some ⟨gb4, 0, none⟩) 512 c4] w1 fun e w' => e = .returned (.int .i64 0) ∧ Only [] w1 w') := fun w1 h3 => check_of h3.c (err_ok FU2.pg)
              clear hE FU2
              go_wp2_with (first
                | (go_at_call 10; refine (IN.out _ _ (MI4.out.past ((Only.refl [] _).alloc _)) (BM.out _)).mono ?_; rintro e w5 ⟨rfl, hO5⟩; have M5 := Lib.hid ((MI4.out.past ((Only.refl [] _).alloc _)).past hO5); clear hO5)
                | (go_at_call 13; refine (SL.out _ M5.out).mono ?_; rintro e w6 ⟨rfl, hO6⟩; have M6 := Lib.hid (M5.out.past hO6); clear hO6)
                | (go_at_call 14; refine (CK.out _ M6.out).mono ?_; rintro e w7 ⟨rfl, hO7⟩; have M7 := Lib.hid (M6.out.past hO7); clear hO7))
              go_ret
              exact ⟨rfl, M7.out.only.below (Nat.le_refl _) (by simp)⟩
set_option maxRecDepth 100000 in
theorem fills_law (n : Int) (hb : -9223372036854775808 ≤ n ∧ n ≤ 9223372036854775807) (w : World) : Calls Try.prog 3 #[.int .i64 n] w fun e w' => e = .returned (.bool true) ∧ Below w.heap.size w w' := by
  by_cases h : 1 ≤ n ∧ n ≤ 400
  · obtain ⟨sz, rfl⟩ : ∃ sz : Nat, n = sz := ⟨n.toNat, by omega⟩
    exact fills_main sz (by omega) (by omega)
  · by_cases h1 : n < 1
    · clear h
      go_enter Try.func3, Try.ntmps3
      go_wp2_with (go_at_call 8; refine (known_any w).mono ?_; rintro e w1 ⟨rfl, hO1⟩; have O1 := Lib.hid hO1; clear hO1)
      go_ret
      exact ⟨rfl, O1.out.below (Nat.le_refl _) (by simp)⟩
    · have h2 : n > 400 := by omega
      clear h
      go_enter Try.func3, Try.ntmps3
      go_wp2_with (go_at_call 8; refine (known_any w).mono ?_; rintro e w1 ⟨rfl, hO1⟩; have O1 := Lib.hid hO1; clear hO1)
      go_ret
      exact ⟨rfl, O1.out.below (Nat.le_refl _) (by simp)⟩
end Go.Proofs.Ytdgnndcnpmlifaa.G
