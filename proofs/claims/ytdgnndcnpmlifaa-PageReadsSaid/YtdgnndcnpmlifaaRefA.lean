/-
  The document's pages: numbers in them, slots, lay, sealed, New, Seal: by contracts.
-/
import Derived.Test.YtdgnndcnpmlifaaPageV
import Derived.Test.YtdgnndcnpmlifaaRefSum
namespace Go.Proofs.Ytdgnndcnpmlifaa.G
set_option linter.unusedSimpArgs false
open Go Go.RowKit Go.Proofs.Ytdgnndcnpmlifaa.B Go.Proofs.Ytdgnndcnpmlifaa.C
set_option linter.unusedVariables false
theorem cap_facts {c : Nat} (h : 512 ≤ c) : ¬ c = 4 ∧ 4 < c ∧ 4 ≤ c ∧ (4 : Int) ≤ c ∧ (512 : Int) ≤ c := by omega
set_option maxRecDepth 100000 in
theorem rtwo_any {w : World} {b o c : Nat} {p : List UInt8} (h : PAt w b o c p) (at_ : Nat) (ha : at_ + 2 ≤ 512) :
    Calls Try.prog 61 #[.slice (some ⟨b, o, none⟩) 512 c, .int .i64 at_] w fun e w' => e = .returned (.int .i64 (two p at_ : Nat)) ∧ Only [] w w' := by
  have c0 := h.cell at_ (by omega)
  have c1 := h.cell (at_ + 1) (by omega)
  have ET : Hid (two p at_ = g p at_ + 256 * g p (at_ + 1)) := rfl
  have l0 := g_lt p at_
  have l1 := g_lt p (at_ + 1)
  rw [ET.out]
  generalize g p at_ = x at *
  generalize g p (at_ + 1) = y at *
  clear h
  have ew0 : IntKind.i64.wrap (x : Int) = x := by simp [IntKind.wrap_i64]; omega
  have ew1 : IntKind.i64.wrap (y : Int) = y := by simp [IntKind.wrap_i64]; omega
  have a0 : (0 : Int) ≤ at_ := by omega
  have a1 : (at_ : Int) < 512 := by omega
  have a2 : (at_ : Int) + 1 < 512 := by omega
  have ES : Hid ((x : Int) + 256 * y = ((x + 256 * y : Nat) : Int)) := by show _ = _; omega
  have RQ : ∀ w' : World, w' = w.drew → w'.cell? ⟨b, o + at_, none⟩ = some (.int .u8 x) := fun w' e => by rw [e]; exact c0
  go_enter Try.func61, Try.ntmps61
  go_wp2_with fail
  go_quiet (fail)
  go_wp2_with fail
  go_ret
  exact ⟨by first | exact ret_int ES.out | rfl, (Only.refl _ _).drewN _⟩
set_option maxRecDepth 100000 in
theorem rslots_any {w : World} {b o c : Nat} {p : List UInt8} (h : PAt w b o c p) : Calls Try.prog 49 #[.slice (some ⟨b, o, none⟩) 512 c] w fun e w' => e = .returned (.int .i64 (nS p : Nat)) ∧ Only [] w w' := by
  have T := Lib.hid (rtwo_any h 6 (by omega))
  go_enter Try.func49, Try.ntmps49
  go_wp2_with (go_at_call 61; refine T.out.mono ?_; rintro e w1 ⟨rfl, hO1⟩; have O1 := Lib.hid hO1; clear hO1)
  go_ret
  exact ⟨rfl, O1.out⟩
set_option maxRecDepth 100000 in
theorem rbegin_any {w : World} {b o c : Nat} {p : List UInt8} (h : PAt w b o c p) : Calls Try.prog 50 #[.slice (some ⟨b, o, none⟩) 512 c] w fun e w' => e = .returned (.int .i64 (bg p : Nat)) ∧ Only [] w w' := by
  have T := Lib.hid (rtwo_any h 8 (by omega))
  go_enter Try.func50, Try.ntmps50
  go_wp2_with (go_at_call 61; refine T.out.mono ?_; rintro e w1 ⟨rfl, hO1⟩; have O1 := Lib.hid hO1; clear hO1)
  go_ret
  exact ⟨rfl, O1.out⟩
set_option maxRecDepth 100000 in
theorem rslot_any {w : World} {b o c : Nat} {p : List UInt8} (h : PAt w b o c p) (i : Nat) (hi : 14 + 4 * i ≤ 512) : Calls Try.prog 53 #[.slice (some ⟨b, o, none⟩) 512 c, .int .i64 i] w fun e w' => e = .returned (.tuple #[.int .i64 (sP p i : Nat), .int .i64 (sL p i : Nat)]) ∧ Only [] w w' := by
  obtain ⟨q1, hq1⟩ : ∃ q, 10 + 4 * i = q := ⟨_, rfl⟩
  obtain ⟨q2, hq2⟩ : ∃ q, 12 + 4 * i = q := ⟨_, rfl⟩
  have T1 : Hid (∀ w1, PAt w1 b o c p → Calls Try.prog 61 #[.slice (some ⟨b, o, none⟩) 512 c, .int .i64 q1] w1 fun e w' => e = .returned (.int .i64 (sP p i : Nat)) ∧ Only [] w1 w') := fun w1 h1 => by
    have := rtwo_any h1 q1 (by omega)
    unfold sP; rw [hq1]; exact this
  have T2 : Hid (∀ w1, PAt w1 b o c p → Calls Try.prog 61 #[.slice (some ⟨b, o, none⟩) 512 c, .int .i64 q2] w1 fun e w' => e = .returned (.int .i64 (sL p i : Nat)) ∧ Only [] w1 w') := fun w1 h1 => by
    have := rtwo_any h1 q2 (by omega)
    unfold sL; rw [hq2]; exact this
  have HP := Lib.hid h
  have e1 : (10 : Int) + 4 * (i : Int) = q1 := by omega
  have e2 : (12 : Int) + 4 * (i : Int) = q2 := by omega
  have ne : Hid (q1 ≠ q2) := by show _ ≠ _; omega
  clear h hq1 hq2
  generalize sP p i = x at *
  generalize sL p i = y at *
  go_enter Try.func53, Try.ntmps53
  go_wp2_with (first
    | (go_at_call_of 61 (Value.int .i64 (q1 : Int)); refine (T1.out _ HP.out).mono ?_; rintro e w1 ⟨rfl, hO1⟩; have O1 := Lib.hid hO1; have P1 := Lib.hid (HP.out.past hO1); clear hO1)
    | (go_at_call 61; refine (T2.out _ P1.out).mono ?_; rintro e w2 ⟨rfl, hO2⟩; have O2 := Lib.hid (O1.out.trans hO2 (by simp)); clear hO2))
  go_ret2
  exact ⟨rfl, O2.out⟩
set_option maxRecDepth 100000 in
theorem rlay_any {w : World} {gb c : Nat} {p : List UInt8} (h : Buf w gb c p) (at_ n : Nat) (ha : at_ + 2 ≤ 512) (hn : n < 65536) :
    Calls Try.prog 42 #[.slice (some ⟨gb, 0, none⟩) 512 c, .int .i64 at_, .int .i64 n] w fun e w' => e = .returned (.tuple #[]) ∧ Buf w' gb c (put p at_ n) ∧ Only [gb] w w' := by
  obtain ⟨cur, hb, hcl, hct⟩ := h.blk
  have c0 := h.cell (j := at_) (by omega)
  have c1 := h.cell (j := at_ + 1) (by omega)
  have f0 := hb.frozen at_
  have f1 := hb.frozen (at_ + 1)
  have a0 : (0 : Int) ≤ at_ := by omega
  have a1 : (at_ : Int) < 512 := by omega
  have a2 : (at_ : Int) + 1 < 512 := by omega
  have q0 : (0 : Int) ≤ n := by omega
  have EP := Lib.hid (put_sets (p := p) (a := at_) (n := n) (by rw [h.1]; exact ha) hn)
  have HH := Lib.hid h
  have e0 : IntKind.u8.wrap (((n % 256 : Nat)) : Int) = ((n % 256 : Nat) : Int) := by simp [IntKind.wrap, IntKind.signed, IntKind.bits]
  have e1 : IntKind.u8.wrap (((n / 256 : Nat)) : Int) = ((n / 256 : Nat) : Int) := by simp [IntKind.wrap, IntKind.signed, IntKind.bits]; omega
  have d0 : (n : Int).tmod 256 = ((n % 256 : Nat) : Int) := by rw [Int.tmod_eq_emod_of_nonneg q0]; omega
  have d1 : (n : Int).tdiv 256 = ((n / 256 : Nat) : Int) := by rw [Int.tdiv_eq_ediv_of_nonneg q0]; omega
  clear h hb hcl hct
  have EX : Hid ((UInt8.ofNat (n % 256)).toNat = n % 256) := by show _ = _; simp
  have EY : Hid ((UInt8.ofNat (n / 256)).toNat = n / 256) := by show _ = _; simp; omega
  have EW : Hid (wrap64 ((n / 256 : Nat) : Int) % 256 = ((n / 256 : Nat) : Int)) := by show _ = _; simp only [wrap64]; omega
  generalize n % 256 = x at *
  generalize n / 256 = y at *
  go_enter Try.func42, Try.ntmps42
  go_wp2_with fail
  go_end0
  refine ⟨rfl, ?_, ?_⟩
  · rw [EP.out]
    have h1 := (HH.out.set (i := at_) (by omega) (UInt8.ofNat x)).set (i := at_ + 1) (by omega) (UInt8.ofNat y)
    rw [EX.out, EY.out] at h1
    first | exact h1 | (rw [EW.out]; exact h1)
  · exact ((Only.refl [gb] w).setCell (.inl (by simp)) _).setCell (.inl (by simp)) _
theorem own_src {w w' : World} {a : Option Addr} {n k : Nat} {l : List UInt8} (h : Own w w' (.slice a n k) l) (hn : l.length = n) (h0 : 0 < n) : ∃ g, a = some ⟨g, 0, none⟩ ∧ ∀ j v, (u8s l)[j]? = some v → w'.cell? ((⟨g, 0, none⟩ : Addr).add j) = some v := by
  have h1 := h.1
  unfold ByteRow at h1
  rw [hn] at h1
  rcases h1.2 with ⟨_, h2⟩ | ⟨g, cap, cur, hv, _, hh, h3, _, h5, h6⟩
  · omega
  · simp only [Value.slice.injEq] at hv
    refine ⟨g, hv.1, fun j v hj => ?_⟩
    have hb : Blk w' g cur.toList 5 := by unfold Blk; rw [Array.toArray_toList]; exact hh
    refine hb.add_cell j v ?_
    rw [← h6, List.getElem?_take] at hj
    split at hj
    · exact hj
    · cases hj
set_option maxRecDepth 100000 in
theorem rsealed_any {w : World} {gb c : Nat} {p : List UInt8} (h : Buf w gb c p) :
    Calls Try.prog 43 #[.slice (some ⟨gb, 0, none⟩) 512 c] w fun e w' => e = .returned (.slice (some ⟨gb, 0, none⟩) 512 c) ∧ Buf w' gb c (sealedP p) ∧ Only [gb] w w' := by
  have HH := Lib.hid h
  obtain ⟨a5, a6, a7, a8, a9⟩ := cap_facts h.cap
  have hsl := sum_lt (p.drop 4)
  have SM : Hid (Calls Try.prog 52 #[.slice (some ⟨gb, 4, none⟩) 508 (c - 4)] w fun e w' => e = .returned (.int .u32 (sum (p.drop 4) : Nat)) ∧ w = w') := rsum_any (h.tail 4 (by omega)) (by rw [List.length_drop, h.1]; omega)
  have FO : Hid (∀ w1, Calls Try.prog 60 #[.slice none 0 0, .int .u32 (sum (p.drop 4) : Nat)] w1 fun e w' => ∃ a c, e = .returned (.slice a 4 c) ∧ Own w1 w' (.slice a 4 c) (le (sum (p.drop 4)) 4)) := fun w1 => four_any _ hsl
  have ES : Hid (over p 0 (le (sum (p.drop 4)) 4) = sealedP p) := by
    show _ = _
    unfold over sealedP
    rw [List.take_zero, List.nil_append, le_len]
  generalize hss : sum (p.drop 4) = s at *
  clear hss
  have HMN : Hid ((u8s (le s 4)).length = Nat.min 4 512) := by show _ = _; rw [length_u8s, le_len]; rfl
  have GN := Lib.hid h.lt
  go_enter Try.func43, Try.ntmps43
  go_wp2_with (first
    | (go_at_call 52; refine SM.out.mono ?_; rintro e w2 ⟨rfl, rfl⟩)
    | (go_at_call 60; refine (FO.out _).mono ?_; rintro e w3 ⟨a3, k3, rfl, ho3⟩; have HG3 := Lib.hid ho3; have B3 := Lib.hid (HH.out.past ho3.2.2); have O3 := Lib.hid ho3.2.2; obtain ⟨cur, hcb, hcl, _⟩ := B3.out.blk; have HCB := Lib.hid hcb; have HCL : Hid (0 + (u8s (le s 4)).length ≤ cur.length) := (by show _ ≤ _; rw [length_u8s, le_len]; omega); clear ho3 hcb hcl)
    | (refine wpList_copy_blk rfl (.tmp 3) (.tmp 7) 23 23 rfl 5 Try.underlying23 size_byte _ _ _ _ _ _ rfl rfl gb 0 cur 5 HCB.out (u8s (le s 4)) HMN.out (fun _ => ⟨rfl, by obtain ⟨g3, rfl, hs3⟩ := own_src HG3.out (by rw [le_len]) (by omega); exact ⟨_, rfl, hs3⟩⟩) HCL.out (u8s_oneCell _) ?_; intro w5 hb5 hO5; have B5 := Lib.hid (B3.out.copied HCB.out hb5 (by rw [le_len]; omega)); have O5 := Lib.hid ((O3.out.mono (by simp)).trans hO5 (fun x hx => .inl hx)); clear hb5 hO5))
  go_ret
  exact ⟨rfl, by rw [← ES.out]; exact B5.out, O5.out⟩
set_option maxRecDepth 100000 in
theorem rnew_any {w : World} (kind : UInt8) :
    Calls Try.prog 20 #[.int .u8 kind.toNat] w fun e w' => ∃ gb c, e = .returned (.slice (some ⟨gb, 0, none⟩) 512 c) ∧ Buf w' gb c (newP kind) ∧ w.heap.size ≤ gb ∧ Only [] w w' := by
  have mk0 := make_u8s 512 (by omega)
  obtain ⟨z, hz⟩ : ∃ z : List UInt8, List.replicate 512 0 = z := ⟨_, rfl⟩
  have hzl : z.length = 512 := by rw [← hz]; simp
  have hz4 : z[4]? = some 0 := by rw [← hz, List.getElem?_replicate]; rfl
  have EN : Hid (newP kind = sealedP (put (z.set 4 kind) 8 512)) := by show _ = _; rw [← hz]; rfl
  rw [hz] at mk0
  clear hz
  have mk : ∀ w : World, (Instr.makeSlice 23 (.int .i64 512) (.int .i64 512)).run Try.prog w = .ok (.slice (some ⟨w.heap.size, 0, none⟩) 512 512) (w.alloc (.cells (u8s z).toArray 5)) := mk0
  clear mk0
  have hb0 : Blk (w.alloc (.cells (u8s z).toArray 5)) w.heap.size (u8s z) 5 := Blk.new _ _ _
  have c4 := hb0.cell 4
  have f4 := hb0.frozen 4
  rw [u8s_get, hz4] at c4
  have c4 : (w.alloc (.cells (u8s z).toArray 5)).cell? ⟨w.heap.size, 4, none⟩ = some (.int .u8 0) := c4
  have es : (u8s z).set 4 (.int .u8 kind.toNat) = u8s (z.set 4 kind) := by simp [u8s, List.map_set]
  have B1 : Hid (Buf (w.alloc (.cells ((u8s z).set 4 (.int .u8 kind.toNat)).toArray 5)) w.heap.size 512 (z.set 4 kind)) := by
    refine ⟨by simpa using hzl, ?_⟩
    have hl : (u8s (z.set 4 kind)).length = 512 := by rw [length_u8s]; simpa using hzl
    have := ((Blk.new ((u8s z).set 4 (.int .u8 kind.toNat)) 5 w).to es).owns (by rw [hl]; simp [maxLen])
    rw [hl] at this
    exact this
  have P2 : Hid (∀ w1, Buf w1 w.heap.size 512 (z.set 4 kind) → Calls Try.prog 42 #[.slice (some ⟨w.heap.size, 0, none⟩) 512 512, .int .i64 8, .int .i64 512] w1 fun e w' => e = .returned (.tuple #[]) ∧ Buf w' w.heap.size 512 (put (z.set 4 kind) 8 512) ∧ Only [w.heap.size] w1 w') := fun w1 hb => rlay_any hb 8 512 (by omega) (by omega)
  have O1 : Hid (Only [] w (w.alloc (.cells ((u8s z).set 4 (.int .u8 kind.toNat)).toArray 5))) := (Only.refl [] w).alloc _
  rw [EN.out]
  clear hz4 es hb0
  go_enter Try.func20, Try.ntmps20
  go_wp2_with (first
    | (go_at_call 42; refine (P2.out _ B1.out).mono ?_; rintro e w2 ⟨rfl, hb2, hO2⟩; have B2 := Lib.hid hb2; have O2 := Lib.hid (O1.out.trans hO2 (fun x hx => by simp at hx; subst hx; exact .inr (Nat.le_refl _))); clear hb2 hO2)
    | (go_at_call 43; refine (rsealed_any B2.out).mono ?_; rintro e w3 ⟨rfl, hb3, hO3⟩; have B3 := Lib.hid hb3; have O3 := Lib.hid (O2.out.trans hO3 (fun x hx => by simp at hx; subst hx; exact .inr (Nat.le_refl _))); clear hb3 hO3))
  go_ret
  exact ⟨w.heap.size, 512, rfl, B3.out, Nat.le_refl _, O3.out⟩
/-- What Seal tells. -/
def sealE (p : List UInt8) : Nat := if p.length = 512 then 0 else 40
set_option maxRecDepth 100000 in
theorem rseal_no {w : World} {v : Value} {p : List UInt8} (h : BytesAt w v p) (hl : ¬ p.length = 512) :
    Calls Try.prog 25 #[v] w fun e w' => e = .returned (.tuple #[.slice none 0 0, .int .i64 40]) ∧ Only [] w w' := by
  obtain ⟨ao, cap, rfl, hc⟩ := h
  have hlI : ¬ (p.length : Int) = 512 := by omega
  clear hc
  generalize p.length = n at *
  go_enter Try.func25, Try.ntmps25
  go_wp2_with fail
  go_ret2
  exact ⟨rfl, Only.refl _ _⟩
set_option maxRecDepth 100000 in
theorem rseal_yes {w : World} {v : Value} {p : List UInt8} (h : BytesC w v p) (hl : p.length = 512) :
    Calls Try.prog 25 #[v] w fun e w' => ∃ gb c, e = .returned (.tuple #[.slice (some ⟨gb, 0, none⟩) 512 c, .int .i64 0]) ∧ Buf w' gb c (sealedP p) ∧ w.heap.size ≤ gb ∧ Only [] w w' := by
  obtain ⟨b, o, cap, rfl, hp⟩ := h.page hl
  have HP := Lib.hid hp
  have HL : Hid ((u8s p).length = 512) := by show _ = _; rw [length_u8s, hl]
  have HLP := Lib.hid hl
  clear h hp hl
  go_enter Try.func25, Try.ntmps25
  go_wp2_with (first
    | (refine wpList_clone rfl _ _ _ rfl 5 Try.underlying23 (info_parts B.info_byte) rfl rfl b o 512 cap (u8s p) rfl HL.out HP.out.src (u8s_oneCell _) (by omega) (by omega) (by omega) ?_; intro c1 w1 hr1 hO1 hs1; have B1 := Lib.hid (buf_clone HLP.out hr1); have O1 := Lib.hid hO1; clear hr1 hO1 hs1)
    | (go_at_call 43; refine (rsealed_any B1.out).mono ?_; rintro e w3 ⟨rfl, hb3, hO3⟩; have B3 := Lib.hid hb3; have O3 := Lib.hid (O1.out.trans hO3 (fun x hx => by simp at hx; subst hx; exact .inr (Nat.le_refl _))); clear hb3 hO3))
  go_ret2
  exact ⟨w.heap.size, c1, rfl, B3.out, Nat.le_refl _, O3.out⟩
end Go.Proofs.Ytdgnndcnpmlifaa.G
