import Derived.Test.YtikonbnhbalpmaaMPageJ
import Derived.Test.YtikonbnhbalpmaaMPageT
/-
  The program's pages: Delete, Replace: by contracts.
-/
namespace Go.Proofs.Ytikonbnhbalpmaa.G
set_option linter.unusedSimpArgs false
open Go Go.RowKit Go.Proofs.Ytikonbnhbalpmaa.B Go.Proofs.Ytikonbnhbalpmaa.C
set_option linter.unusedVariables false
theorem clone_buf {w : World} {v : Value} {p : List UInt8} (h : BytesC w v p) (hl : p.length = 512) :
    Calls Try.prog 38 #[v] w fun e w' => ∃ gb c, e = .returned (.slice (some ⟨gb, 0, none⟩) 512 c) ∧ Buf w' gb c p ∧ w.heap.size ≤ gb ∧ Only [] w w' :=
  (clone_any h.1 (by omega)).mono fun e w' ⟨v', he, ho⟩ => by
    obtain ⟨gb, c, rfl, hb, hg, hO⟩ := own_buf ho hl
    exact ⟨gb, c, he, hb, hg, hO⟩
theorem trim_step {q : List UInt8} {m : Nat} (h : sP q m = 0) : trimN q (m + 1) = trimN q m := by
  show (if sP q m = 0 then _ else _) = _
  rw [if_pos h]
theorem trim_stop {q : List UInt8} {m : Nat} (h : sP q m ≠ 0) : trimN q (m + 1) = m + 1 := by
  show (if sP q m = 0 then _ else _) = _
  rw [if_neg h]
end Go.Proofs.Ytikonbnhbalpmaa.G

/-
  The program's pages: Replace: by contracts.
-/
namespace Go.Proofs.Ytikonbnhbalpmaa.G
set_option linter.unusedSimpArgs false
open Go Go.RowKit Go.Proofs.Ytikonbnhbalpmaa.B Go.Proofs.Ytikonbnhbalpmaa.C
set_option linter.unusedVariables false
set_option maxRecDepth 100000 in
theorem replace_get {w : World} {v vb : Value} {p : List UInt8} (h : BytesC w v p) (i : Int) (hi : -9223372036854775808 ≤ i ∧ i ≤ 9223372036854775807) {z : Nat} (hz : getE p i = z) (h0 : z ≠ 0) :
    Calls Try.prog 21 #[v, .int .i64 i, vb] w fun e w' => e = .returned (.tuple #[.slice none 0 0, .int .i64 z]) ∧ Only [] w w' := by
  have AT := Lib.hid (at_no h i hi hz h0)
  have hzB : ((z : Int) == 0) = false := beq_eq_false_iff_ne.2 (by omega)
  have hzI : ¬ (z : Int) = 0 := by omega
  clear h hz hi
  go_enter Try.func21, Try.ntmps21
  go_wp2_with (go_at_call 35; refine AT.out.mono ?_; rintro e w1 ⟨rfl, hO1⟩; have O1 := Lib.hid hO1; clear hO1)
  go_ret2
  exact ⟨rfl, O1.out.alloc _⟩
set_option maxRecDepth 100000 in
theorem replace_len {w : World} {v vb : Value} {p b : List UInt8} (h : BytesC w v p) (hv : BytesAt w vb b) (hp : Pg p) {i : Nat} (hi : i < nS p) (h0 : sP p i ≠ 0) (hb : b.length < 1 ∨ 400 < b.length) :
    Calls Try.prog 21 #[v, .int .i64 i, vb] w fun e w' => e = .returned (.tuple #[.slice none 0 0, .int .i64 43]) ∧ Only [] w w' := by
  have AT := Lib.hid (at_yes h hp hi h0)
  obtain ⟨ao, cap, rfl, hc⟩ := hv
  clear h hp hc hi h0
  generalize sP p i = P at *
  generalize sL p i = L at *
  generalize b.length = n at *
  by_cases h1 : n < 1
  · have i1 : (n : Int) < 1 := by omega
    clear hb h1
    go_enter Try.func21, Try.ntmps21
    go_wp2_with (go_at_call 35; refine AT.out.mono ?_; rintro e w1 ⟨rfl, hO1⟩; have O1 := Lib.hid hO1; clear hO1)
    go_ret2
    exact ⟨rfl, O1.out.alloc _⟩
  · have i1 : ¬ (n : Int) < 1 := by omega
    have i2 : (n : Int) > 400 := by omega
    have i3 : ¬ (n : Int) ≤ 400 := by omega
    clear hb h1
    go_enter Try.func21, Try.ntmps21
    go_wp2_with (go_at_call 35; refine AT.out.mono ?_; rintro e w1 ⟨rfl, hO1⟩; have O1 := Lib.hid hO1; clear hO1)
    go_ret2
    exact ⟨rfl, O1.out.alloc _⟩
/-- What Replace tells of a page, a slot that is used, and a cell that may be laid. -/
def RepRes (w : World) (p : List UInt8) (i : Nat) (b : List UInt8) (e : Ending) (w' : World) : Prop :=
  (freeB p + sL p i < b.length ∧ e = .returned (.tuple #[.slice none 0 0, .int .i64 42]) ∧ Only [] w w') ∨
  (b.length ≤ freeB p + sL p i ∧ ∃ gb c r, e = .returned (.tuple #[.slice (some ⟨gb, 0, none⟩) 512 c, .int .i64 0]) ∧ Rep p i b r ∧ Buf w' gb c r ∧ w.heap.size ≤ gb ∧ Only [] w w')
set_option maxRecDepth 100000 in
set_option maxHeartbeats 4000000 in
theorem replace_ok {w : World} {v vb : Value} {p b : List UInt8} (h : BytesC w v p) (hv : BytesAt w vb b) (hp : Pg p) {i : Nat} (hi : i < nS p) (h0 : sP p i ≠ 0) (hb1 : 1 ≤ b.length) (hb2 : b.length ≤ 400) :
    Calls Try.prog 21 #[v, .int .i64 i, vb] w (RepRes w p i b) := by
  have HB := Lib.hid h
  have HV := Lib.hid hv
  have hl := hp.body.len
  have AT := Lib.hid (at_yes h hp hi h0)
  have CN : Hid (∀ w1, BytesC w1 v p → Calls Try.prog 38 #[v] w1 fun e w' => ∃ gb c, e = .returned (.slice (some ⟨gb, 0, none⟩) 512 c) ∧ Buf w' gb c p ∧ w1.heap.size ≤ gb ∧ Only [] w1 w') := fun w1 h1 => clone_buf h1 hl
  have TK : Hid (∀ w1 gb c, Buf w1 gb c p → Calls Try.prog 39 #[.slice (some ⟨gb, 0, none⟩) 512 c, .int .i64 i] w1 fun e w' => e = .returned (.tuple #[]) ∧ ∃ q, Buf w' gb c q ∧ Took p i q ∧ Only [gb] w1 w') := fun w1 gb c h1 => take_any h1 hp.body.core i hi h0
  have GN : Hid (∀ q, Took p i q → Gone p i q) := fun q hq => hp.body.core.take hi h0 hq
  have WH : Hid (∀ w4 : World, BytesC w4 v p → ∀ x : Later w4, Calls Try.prog 37 #[v] x.v fun e w' => e = .returned (arr p) ∧ ∃ y : Later w4, w' = y.v) := fun (w4 : World) h4 x => Calls.later (fun w1 hO => whole_any (h4.past hO).1 hl) x
  have FR : Hid (∀ w4 : World, ∀ x : Later w4, Calls Try.prog 36 #[arr p] x.v fun e w' => e = .returned (.int .i64 (freeB p : Nat)) ∧ ∃ y : Later w4, w' = y.v) := fun (w4 : World) x => Calls.later (fun w1 hO => free_any hl hp.body.fit) x
  have LY : Hid (b.length ≤ freeB p + sL p i → ∀ w1 gb c q, Took p i q → Buf w1 gb c q → BytesAt w1 vb b → Calls Try.prog 40 #[.slice (some ⟨gb, 0, none⟩) 512 c, .int .i64 i, vb] w1 fun e w' => e = .returned (.tuple #[]) ∧ Buf w' gb c (layP q i b) ∧ Only [gb] w1 w') := fun hx w1 gb c q hq h1 h2 => by
    have hG := GN.out q hq
    have h5 := hG.core.fin
    have h6 := hG.beg
    have h7 := hp.body.fit
    unfold freeB at hx
    exact lay_any h1 h2 i hb1 (by omega) h5
  have hin := hp.body.core.in_ hi h0
  have hfr : freeB p + sL p i ≤ 1024 := by unfold freeB; have := hp.body.fin; omega
  obtain ⟨ao, cap2, rfl, hc⟩ := hv
  unfold RepRes
  clear hc h hp hin
  generalize sP p i = P at *
  generalize sL p i = L at *
  generalize freeB p = f at *
  generalize hbl : b.length = n at *
  obtain ⟨t, ht⟩ : ∃ t, f + L = t := ⟨_, rfl⟩
  have e1 : (f : Int) + L = t := by omega
  have b1 : ¬ (n : Int) < 1 := by omega
  have b2 : ¬ (n : Int) > 400 := by omega
  have b3 : (n : Int) ≤ 400 := by omega
  have HT := Lib.hid ht
  have HBL := Lib.hid hbl
  have ew : IntKind.i64.wrap ((f : Int) + L) = t := by simp [IntKind.wrap_i64]; omega
  clear ht hbl hb1 hb2 e1
  go_enter Try.func21, Try.ntmps21
  go_wp2_with (go_at_call 35; refine AT.out.mono ?_; rintro e w1 ⟨rfl, hO1⟩; have O1 := Lib.hid (hO1.alloc (.cells #[.int .i64 P, .int .i64 L] 87)); have A1 := Lib.hid (Blk.new [.int .i64 P, .int .i64 L] 87 w1); clear hO1)
  have y1 := A1.out.cell 1
  simp only [List.getElem?_cons_succ, List.getElem?_cons_zero] at y1
  have Y1 := Later.cell y1
  have WH1 := Lib.hid (WH.out _ (HB.out.past O1.out))
  have FR1 := Lib.hid (FR.out (w1.alloc (.cells #[.int .i64 P, .int .i64 L] 87)))
  have Y1 := fun x => Y1 x
  by_cases hx : n ≤ t
  · have i1 : ¬ (n : Int) > t := by omega
    have i2 : (n : Int) ≤ t := by omega
    have LY1 := Lib.hid (LY.out (by rw [HT.out]; exact hx))
    clear LY hx
    refine wp_region_later (Only.refl _ _) (by kernel_rfl) (by kernel_rfl) ?_
    repeat (go_big_quiet_step ((first | (go_at_call 37; exact WH1.out _) | (go_at_call 36; exact FR1.out _))))
    refine wpQuiet_nil ?_
    rintro _ ⟨xq, rfl⟩
    have OQ := Lib.hid (O1.out.trans xq.h (by simp))
    go_wp2_with (first
      | (go_at_call 38; refine (CN.out _ (HB.out.past OQ.out)).mono ?_; rintro e w2 ⟨gb, c, rfl, hb2, hg2, hO2⟩; have B2 := Lib.hid hb2; have G2 := Lib.hid (Nat.le_trans OQ.out.size hg2); have O2 := Lib.hid (OQ.out.trans hO2 (by simp)); clear hb2 hg2 hO2)
      | (go_at_call 39; refine (TK.out _ _ _ B2.out).mono ?_; rintro e w3 ⟨rfl, q, hb3, hq, hO3⟩; have B3 := Lib.hid hb3; have TQ := Lib.hid hq; have O3 := Lib.hid (O2.out.trans hO3 (fun x hx => by simp at hx; subst hx; exact .inr G2.out)); clear hb3 hq hO3)
      | (go_at_call 40; refine (LY1.out _ _ _ _ TQ.out B3.out (bytes_past HV.out O3.out)).mono ?_; rintro e w9 ⟨rfl, hb9, hO9⟩; have B9 := Lib.hid hb9; have O9 := Lib.hid (O3.out.trans hO9 (fun x hx => by simp at hx; subst hx; exact .inr G2.out)); clear hb9 hO9)
      | (go_at_call 41; refine (sealed_any B9.out.at B9.out.1).mono ?_; rintro e wA ⟨gb2, c2, rfl, hbA, hgA, hOA⟩; have BA := Lib.hid hbA; have GA := Lib.hid (Nat.le_trans O9.out.size hgA); have OA := Lib.hid (O9.out.trans hOA (by simp)); clear hbA hgA hOA))
    go_ret2
    exact .inr ⟨by have := HT.out; omega, gb2, c2, _, rfl, ⟨q, TQ.out, rfl⟩, BA.out, GA.out, OA.out⟩
  · have i1 : (n : Int) > t := by omega
    have i2 : ¬ (n : Int) ≤ t := by omega
    refine wp_region_later (Only.refl _ _) (by kernel_rfl) (by kernel_rfl) ?_
    repeat (go_big_quiet_step ((first | (go_at_call 37; exact WH1.out _) | (go_at_call 36; exact FR1.out _))))
    refine wpQuiet_nil ?_
    rintro _ ⟨xq, rfl⟩
    have OQ := Lib.hid (O1.out.trans xq.h (by simp))
    go_wp2_with fail
    go_ret2
    exact .inl ⟨by have := HT.out; omega, rfl, OQ.out⟩
/-- Replace: refused. -/
theorem replace_no {w : World} {v vb : Value} {p b : List UInt8} (h : BytesC w v p) (hv : BytesAt w vb b) (i : Int) (hi : -9223372036854775808 ≤ i ∧ i ≤ 9223372036854775807) {z : Nat} (hz : repE p i b = z) (h0 : z ≠ 0) :
    Calls Try.prog 21 #[v, .int .i64 i, vb] w fun e w' => e = .returned (.tuple #[.slice none 0 0, .int .i64 z]) ∧ Only [] w w' := by
  unfold repE at hz
  by_cases hg : getE p i = 0
  · rw [if_neg (by simp [hg])] at hz
    obtain ⟨hp, k, rfl, hk, hk0⟩ := getE_ok hg
    by_cases hb : b.length < 1 ∨ 400 < b.length
    · rw [if_pos hb] at hz
      subst hz
      exact replace_len h hv hp hk hk0 hb
    · rw [if_neg hb] at hz
      simp only [Int.toNat_natCast] at hz
      by_cases hf : freeB p + sL p k < b.length
      · rw [if_pos hf] at hz
        subst hz
        refine (replace_ok h hv hp hk hk0 (by omega) (by omega)).mono ?_
        rintro e w' (⟨_, he, hO⟩ | ⟨hn, _⟩)
        · exact ⟨he, hO⟩
        · omega
      · rw [if_neg hf] at hz
        exact absurd hz.symm h0
  · rw [if_pos hg] at hz
    exact replace_get h i hi hz h0
theorem repE_ok {p b : List UInt8} {i : Int} (h : repE p i b = 0) : Pg p ∧ ∃ k : Nat, i = k ∧ k < nS p ∧ sP p k ≠ 0 ∧ 1 ≤ b.length ∧ b.length ≤ 400 ∧ b.length ≤ freeB p + sL p k := by
  unfold repE at h
  by_cases hg : getE p i = 0
  · rw [if_neg (by simp [hg])] at h
    obtain ⟨hp, k, rfl, hk, hk0⟩ := getE_ok hg
    by_cases hb : b.length < 1 ∨ 400 < b.length
    · rw [if_pos hb] at h; cases h
    · rw [if_neg hb] at h
      simp only [Int.toNat_natCast] at h
      by_cases hf : freeB p + sL p k < b.length
      · rw [if_pos hf] at h; cases h
      · exact ⟨hp, k, rfl, hk, hk0, by omega, by omega, by omega⟩
  · rw [if_pos hg] at h
    exact absurd h hg
/-- Replace: done. -/
theorem replace_yes {w : World} {v vb : Value} {p b : List UInt8} (h : BytesC w v p) (hv : BytesAt w vb b) (hp : Pg p) {k : Nat} (hk : k < nS p) (hk0 : sP p k ≠ 0) (h1 : 1 ≤ b.length) (h2 : b.length ≤ 400) (h3 : b.length ≤ freeB p + sL p k) :
    Calls Try.prog 21 #[v, .int .i64 k, vb] w fun e w' => ∃ gb c r, e = .returned (.tuple #[.slice (some ⟨gb, 0, none⟩) 512 c, .int .i64 0]) ∧ Rep p k b r ∧ Buf w' gb c r ∧ w.heap.size ≤ gb ∧ Only [] w w' := by
  refine (replace_ok h hv hp hk hk0 h1 h2).mono ?_
  rintro e w' (⟨hn, _⟩ | ⟨_, hr⟩)
  · omega
  · exact hr
end Go.Proofs.Ytikonbnhbalpmaa.G
