/-
  PageTurned, walked: it answers true.
-/
import Derived.Test.YtdgnndcnpmlifaaLFills
import Derived.Test.YtdgnndcnpmlifaaPageV
namespace Go.Proofs.Ytdgnndcnpmlifaa.G
set_option linter.unusedSimpArgs false
open Go Go.RowKit Go.Proofs.Ytdgnndcnpmlifaa.B Go.Proofs.Ytdgnndcnpmlifaa.C
set_option linter.unusedVariables false
theorem bits_xor_u8 (a b : UInt8) : bits .xor .u8 (a.toNat : Int) (b.toNat : Int) = ((a ^^^ b).toNat : Int) := by
  have ha := a.toNat_lt
  have hb := b.toNat_lt
  have e1 : BitVec.ofInt 8 (a.toNat : Int) = a.toBitVec := by apply BitVec.eq_of_toNat_eq; simp [BitVec.toNat_ofInt]
  have e2 : BitVec.ofInt 8 (b.toNat : Int) = b.toBitVec := by apply BitVec.eq_of_toNat_eq; simp [BitVec.toNat_ofInt]
  have hx : (a ^^^ b).toNat < 256 := (a ^^^ b).toNat_lt
  show IntKind.wrap .u8 ((BitVec.ofInt 8 (a.toNat : Int) ^^^ BitVec.ofInt 8 (b.toNat : Int)).toNat : Int) = _
  rw [e1, e2]
  show IntKind.wrap .u8 (((a ^^^ b).toNat : Nat) : Int) = _
  generalize (a ^^^ b).toNat = n at *
  simp [IntKind.wrap, IntKind.signed, IntKind.bits]
  omega
theorem xor_ne {a b : UInt8} (h : b ≠ 0) : a ^^^ b ≠ a := fun hx => by
  have : a ^^^ (a ^^^ b) = a ^^^ a := by rw [hx]
  rw [← UInt8.xor_assoc, UInt8.xor_self, UInt8.zero_xor] at this
  exact h this
set_option maxRecDepth 100000 in
set_option maxHeartbeats 4000000 in
theorem turned_main {w : World} {v : Value} {l : List StepD} (hl : StepsAt w v l) (at_ : Nat) (ha : at_ < 512) (b : UInt8) (hb : b ≠ 0) (hf : fewB l = true) :
    Calls Try.prog 4 #[v, .int .i64 at_, .int .u8 b.toNat] w fun e w' => e = .returned (.bool true) ∧ Below w.heap.size w w' := by
  have NW : Hid (∀ w1, Calls Try.prog 9 #[.int .u8 9] w1 fun e w' => ∃ gb c, e = .returned (.slice (some ⟨gb, 0, none⟩) 512 c) ∧ Buf w' gb c (newP 9) ∧ w1.heap.size ≤ gb ∧ Only [] w1 w') := fun w1 => new_any 9
  have HP0 : Hid (Pg (newP 9)) := (new_fresh 9).pg
  generalize newP 9 = p0 at *
  have FW : Hid (∀ w1, Only [] w w1 → Calls Try.prog 15 #[v] w1 fun e w' => e = .returned (.bool true) ∧ w1 = w') := fun w1 hO => by
    have := few_any (hl.past hO)
    rw [hf] at this
    exact this
  obtain ⟨ao, cap, rfl, hm, hc⟩ := hl
  have hmn : l.length ≤ 9223372036854775807 := by unfold maxLen at hm; omega
  have HC := Lib.hid hc
  generalize l.length = n at *
  have j0 : ¬ (at_ : Int) < 0 := by omega
  have j1 : ¬ (at_ : Int) > 511 := by omega
  have j2 : (at_ : Int) ≤ 511 := by omega
  have j3 : (0 : Int) ≤ at_ := by omega
  have j4 : (at_ : Int) < 512 := by omega
  have jb : ((b.toNat : Int) == 0) = false := beq_eq_false_iff_ne.2 (fun h => hb (UInt8.toNat_inj.1 (by show b.toNat = 0; omega)))
  have jb2 : ¬ (b.toNat : Int) = 0 := fun h => hb (UInt8.toNat_inj.1 (by show b.toNat = 0; omega))
  have HBN := Lib.hid hb
  clear hc hm hf hb
  go_enter Try.func4, Try.ntmps4
  go_wp2_with (first
    | (go_at_call 8; refine (known_any w).mono ?_; rintro e w1 ⟨rfl, hO1⟩; have O1 := Lib.hid hO1; clear hO1)
    | (go_at_call 15; refine (FW.out _ O1.out).mono ?_; rintro e w3 ⟨rfl, rfl⟩)
    | (go_at_call 9; refine (NW.out _).mono ?_; rintro e w2 ⟨gb, c, rfl, hb2, hg2, hO2⟩; have M2 := Lib.hid (Mine.mk' hb2 (Nat.le_trans O1.out.size hg2) (O1.out.trans hO2 (by simp))); clear hb2 hg2 hO2))
  go_loopg [7, 8, 9, 10, 11] n (fun gk s7 s8 s9 s10 s11 wx => ∃ (j : Nat) (p : List UInt8), gk = n - j ∧ j ≤ n ∧ s8 = .int .i64 j ∧ Pg p ∧ Mine w wx s7 p)
  case atStart => exact ⟨0, p0, rfl, Nat.zero_le _, rfl, HP0.out, M2.out⟩
  case round =>
    obtain ⟨j, p, hgk, hj, rfl, hpg, hmine⟩ := hrel
    have HGK := Lib.hid hgk
    have PG := Lib.hid hpg
    have MI := Lib.hid hmine
    obtain ⟨⟨gb2, c2, rfl, hb2, hg2⟩, hO2⟩ := hmine
    have BF := Lib.hid hb2
    have OM := Lib.hid hO2
    clear hgk hpg hb2 hg2 hO2 M2 O1
    by_cases hlt : j < n
    · have i0 : (0 : Int) ≤ j := by omega
      have i1 : (j : Int) < n := by omega
      obtain ⟨sb, so, rfl, hst⟩ := HC.out (by omega)
      obtain ⟨kv, hk⟩ := hst j hlt
      have hk := hk.past OM.out
      have y2 := hk.c.2.2
      have KB := Lib.hid hk.bytes.1
      clear hst hk
      generalize (l.getD j stepZ).cell = z at *
      by_cases hE : insE p z = 0
      · have PQ : Hid (Pg (insP p z)) := (ins_ok hE).pg
        have IN : Hid (∀ w1, Only [] wr w1 → Calls Try.prog 10 #[.slice (some ⟨gb2, 0, none⟩) 512 c2, kv] w1 fun e w' => ∃ gb c, e = .returned (.tuple #[.slice (some ⟨gb, 0, none⟩) 512 c, .int .i64 (freeS p : Nat), .int .i64 0]) ∧ Mine w w' (.slice (some ⟨gb, 0, none⟩) 512 c) (insP p z)) := fun w1 hO => by
          have h3 := MI.out.past hO
          refine (insert_yes h3.c (bytes_past KB.out hO) hE).mono ?_
          rintro e w' ⟨gb, c, he, hb, hg, hO⟩
          exact ⟨gb, c, he, .mk' hb (Nat.le_trans h3.only.size hg) (h3.only.trans hO (by simp))⟩
        clear hE
        go_wp2_with (go_at_call 10; refine (IN.out _ (Only.refl _ _)).mono ?_; rintro e w3 ⟨gb3, c3, rfl, hm3⟩; have M3 := Lib.hid hm3; clear hm3)
        go_roundg (n - (j + 1))
        case measure => have := HGK.out; omega
        case rel => exact ⟨j + 1, _, rfl, by omega, by go_num, PQ.out, M3.out⟩
      · have IN : Hid (∀ w1, Only [] wr w1 → Calls Try.prog 10 #[.slice (some ⟨gb2, 0, none⟩) 512 c2, kv] w1 fun e w' => e = .returned (.tuple #[.slice none 0 0, .int .i64 0, .int .i64 (insE p z : Nat)]) ∧ Only [] w1 w') := fun w1 hO => insert_no (MI.out.past hO).c (bytes_past KB.out hO) rfl hE
        generalize insE p z = er at *
        have k1 : ¬ (er : Int) = 0 := by omega
        have k2 : ((er : Int) == 0) = false := beq_eq_false_iff_ne.2 k1
        clear hE
        go_wp2_with (go_at_call 10; refine (IN.out _ (Only.refl _ _)).mono ?_; rintro e w3 ⟨rfl, hO3⟩; have M3 := Lib.hid (MI.out.past hO3); clear hO3)
        go_roundg (n - (j + 1))
        case measure => have := HGK.out; omega
        case rel => exact ⟨j + 1, p, rfl, by omega, by go_num, PG.out, M3.out⟩
    · obtain rfl : j = n := by omega
      have HL : Hid ((u8s p).length = 512) := by show _ = _; rw [length_u8s, BF.out.1]
      have HLP := Lib.hid BF.out.1
      have PA := Lib.hid BF.out.page
      obtain ⟨y, hy⟩ : ∃ y : UInt8, p.getD at_ 0 ^^^ b = y := ⟨_, rfl⟩
      have ex : bits BinOp.xor IntKind.u8 ((p[at_]?.getD 0).toNat : Int) (b.toNat : Int) = (y.toNat : Int) := by
        rw [← hy, ← List.getD_eq_getElem?_getD]; exact bits_xor_u8 _ _
      have NP : Hid (¬ Pg (p.set at_ y)) := fun h => turned_no HLP.out PG.out.sums ha (by rw [← hy]; exact xor_ne HBN.out) h.sums
      clear hy
      obtain ⟨q, hq⟩ : ∃ q, p.set at_ y = q := ⟨_, rfl⟩
      rw [hq] at NP
      have SETB : Hid (∀ w1 gb c, Buf w1 gb c p → Buf (w1.setCell ⟨gb, at_, none⟩ (.int .u8 y.toNat)) gb c q) := fun w1 gb c h => by rw [← hq]; exact h.set ha y
      clear hq
      have GT : Hid (∀ w1 gb c, Buf w1 gb c q → Calls Try.prog 16 #[.slice (some ⟨gb, 0, none⟩) 512 c, .int .i64 0] w1 fun e w' => e = .returned (.tuple #[.slice none 0 0, .int .i64 40]) ∧ Only [] w1 w') := fun w1 gb c h => get_no h.c 0 (by omega) (getE_no 0 NP.out) (by decide)
      have IS : Hid (∀ w1 gb c, Buf w1 gb c q → ∀ vb, BytesAt w1 vb [1] → Calls Try.prog 10 #[.slice (some ⟨gb, 0, none⟩) 512 c, vb] w1 fun e w' => e = .returned (.tuple #[.slice none 0 0, .int .i64 0, .int .i64 40]) ∧ Only [] w1 w') := fun w1 gb c h vb h2 => insert_no (z := 40) h.c h2 (by unfold insE; rw [if_pos (ok_no.2 NP.out)]) (by decide)
      have CK : Hid (∀ w1 gb c, Buf w1 gb c q → Calls Try.prog 14 #[.slice (some ⟨gb, 0, none⟩) 512 c] w1 fun e w' => e = .returned (.int .i64 40) ∧ Only [] w1 w') := fun w1 gb c h => check_of h.c (err_no NP.out)
      have KD : Hid (∀ w1 gb c, Buf w1 gb c q → Calls Try.prog 17 #[.slice (some ⟨gb, 0, none⟩) 512 c] w1 fun e w' => e = .returned (.int .u8 0) ∧ Only [] w1 w') := fun w1 gb c h => by
        have := kind_any h.c
        rw [kind_no NP.out] at this
        exact this
      have SF : Hid (∀ w1 gb c, Buf w1 gb c q → Calls Try.prog 13 #[.slice (some ⟨gb, 0, none⟩) 512 c] w1 fun e w' => e = .returned (.int .i64 0) ∧ Only [] w1 w') := fun w1 gb c h => by
        have := slotsf_any h.c
        rw [slots_no NP.out] at this
        exact this
      have HAT := Lib.hid ha
      go_wp2_with (first
        | (refine wpList_clone rfl _ _ _ rfl 5 Try.underlying23 (info_parts B.info_byte) rfl rfl gb2 0 512 c2 (u8s p) rfl HL.out PA.out.src (u8s_oneCell _) (by omega) (by omega) (by omega) ?_; intro c1 w1 hr1 hO1 hs1; have B1 := Lib.hid (buf_clone HLP.out hr1); have O1 := Lib.hid hO1; have c4 := B1.out.cell ha; obtain ⟨cur, hcb, _, _⟩ := B1.out.blk; have f4 := hcb.frozen at_; clear hr1 hO1 hs1 hcb)
        | (go_at_call 16; refine (GT.out _ _ _ (SETB.out _ _ _ B1.out)).mono ?_; rintro e w4 ⟨rfl, hO4⟩; have B4 := Lib.hid ((SETB.out _ _ _ B1.out).past hO4); have O4 := Lib.hid ((OM.out.trans O1.out (by simp)).mono (M' := [wr.heap.size]) (by simp)); have O5 := Lib.hid ((O4.out.setCell (.inl (by simp)) _).trans hO4 (by simp)); clear hO4)
        | (go_at_call 10; refine (IS.out _ _ _ (B4.out.past ((Only.refl [] _).alloc _)) _ (bytes_made (l := [1]) (0, 0) rfl)).mono ?_; rintro e w6 ⟨rfl, hO6⟩; have B6 := Lib.hid ((B4.out.past ((Only.refl [] _).alloc _)).past hO6); have O6 := Lib.hid ((O5.out.alloc _).trans hO6 (by simp)); clear hO6)
        | (go_at_call 14; refine (CK.out _ _ _ B6.out).mono ?_; rintro e w7 ⟨rfl, hO7⟩; have B7 := Lib.hid (B6.out.past hO7); have O7 := Lib.hid (O6.out.trans hO7 (by simp)); clear hO7)
        | (go_at_call 17; refine (KD.out _ _ _ B7.out).mono ?_; rintro e w8 ⟨rfl, hO8⟩; have B8 := Lib.hid (B7.out.past hO8); have O8 := Lib.hid (O7.out.trans hO8 (by simp)); clear hO8)
        | (go_at_call 13; refine (SF.out _ _ _ B8.out).mono ?_; rintro e w9 ⟨rfl, hO9⟩; have O9 := Lib.hid (O8.out.trans hO9 (by simp)); clear hO9))
      go_ret
      exact ⟨rfl, O9.out.below (Nat.le_refl _) (fun x hx => by simp at hx; subst hx; exact OM.out.size)⟩
set_option maxRecDepth 100000 in
theorem turned_law {w : World} (v : Value) (l : List StepD) (hl : StepsAt w v l) (a : Int) (ha : -9223372036854775808 ≤ a ∧ a ≤ 9223372036854775807) (b : UInt8) :
    Calls Try.prog 4 #[v, .int .i64 a, .int .u8 b.toNat] w fun e w' => e = .returned (.bool true) ∧ Below w.heap.size w w' := by
  have FW0 : ∀ w1, Only [] w w1 → Calls Try.prog 15 #[v] w1 fun e w' => e = .returned (.bool (fewB l)) ∧ w1 = w' := fun w1 hO => few_any (hl.past hO)
  by_cases hf : fewB l = true
  · rw [hf] at FW0
    have FW := Lib.hid FW0
    by_cases h1 : a < 0
    · clear hf
      clear FW0
      go_enter Try.func4, Try.ntmps4
      go_wp2_with (first
        | (go_at_call 8; refine (known_any w).mono ?_; rintro e w1 ⟨rfl, hO1⟩; have O1 := Lib.hid hO1; clear hO1)
        | (go_at_call 15; refine (FW.out _ O1.out).mono ?_; rintro e w3 ⟨rfl, rfl⟩))
      go_ret
      exact ⟨rfl, O1.out.below (Nat.le_refl _) (by simp)⟩
    · by_cases h2 : a > 511
      · clear hf
        clear FW0
        go_enter Try.func4, Try.ntmps4
        go_wp2_with (first
          | (go_at_call 8; refine (known_any w).mono ?_; rintro e w1 ⟨rfl, hO1⟩; have O1 := Lib.hid hO1; clear hO1)
          | (go_at_call 15; refine (FW.out _ O1.out).mono ?_; rintro e w3 ⟨rfl, rfl⟩))
        go_ret
        exact ⟨rfl, O1.out.below (Nat.le_refl _) (by simp)⟩
      · by_cases h3 : b = 0
        · subst h3
          have h4 : ¬ a > 511 := h2
          have e0 : ((0 : UInt8).toNat : Int) = 0 := rfl
          rw [e0]
          clear hf
          clear FW0
          go_enter Try.func4, Try.ntmps4
          go_wp2_with (first
            | (go_at_call 8; refine (known_any w).mono ?_; rintro e w1 ⟨rfl, hO1⟩; have O1 := Lib.hid hO1; clear hO1)
            | (go_at_call 15; refine (FW.out _ O1.out).mono ?_; rintro e w3 ⟨rfl, rfl⟩))
          go_ret
          exact ⟨rfl, O1.out.below (Nat.le_refl _) (by simp)⟩
        · clear FW FW0
          obtain ⟨k, rfl⟩ : ∃ k : Nat, a = k := ⟨a.toNat, by omega⟩
          exact turned_main hl k (by omega) b h3 hf
  · have hf : fewB l = false := by simpa using hf
    rw [hf] at FW0
    have FW := Lib.hid FW0
    clear hf
    clear FW0
    go_enter Try.func4, Try.ntmps4
    go_wp2_with (first
      | (go_at_call 8; refine (known_any w).mono ?_; rintro e w1 ⟨rfl, hO1⟩; have O1 := Lib.hid hO1; clear hO1)
      | (go_at_call 15; refine (FW.out _ O1.out).mono ?_; rintro e w3 ⟨rfl, rfl⟩))
    go_ret
    exact ⟨rfl, O1.out.below (Nat.le_refl _) (by simp)⟩
end Go.Proofs.Ytdgnndcnpmlifaa.G
