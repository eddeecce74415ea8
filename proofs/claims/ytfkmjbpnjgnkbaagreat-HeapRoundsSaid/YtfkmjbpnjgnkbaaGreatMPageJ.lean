import Derived.Test.YtfkmjbpnjgnkbaaGreatMPageH
import Derived.Test.YtfkmjbpnjgnkbaaGreatMPageS
import Derived.Deep.DeepCutAuto
/-
  The program's pages: Insert: by contracts.
-/
namespace Go.Proofs.YtfkmjbpnjgnkbaaGreat.G
set_option linter.unusedSimpArgs false
open Go Go.RowKit Go.Proofs.YtfkmjbpnjgnkbaaGreat.B Go.Proofs.YtfkmjbpnjgnkbaaGreat.C
set_option linter.unusedVariables false
theorem ins_max {p : List UInt8} : (freeS p < nS p → max (nS p) (freeS p + 1) = nS p) ∧ (¬ freeS p < nS p → freeS p = nS p ∧ max (nS p) (freeS p + 1) = nS p + 1) := by
  have := freeS_le p
  exact ⟨fun h => by omega, fun h => ⟨by omega, by omega⟩⟩
set_option maxRecDepth 100000 in
set_option maxHeartbeats 1000000 in
theorem insert_form {w : World} {v vb : Value} {p b : List UInt8} (h : BytesC w v p) (hv : BytesAt w vb b) (hb : ¬ Pg p ∨ b.length < 1 ∨ 400 < b.length) {z : Nat} (hz : insE p b = z) :
    Calls Tryz.prog 51 #[v, vb] w fun e w' => e = .returned (.tuple #[.slice none 0 0, .int .i64 0, .int .i64 z]) ∧ Only [] w w' := by
  by_cases hp : Pg p
  case neg =>
    have CK := Lib.hid (check_of h (err_no hp))
    obtain rfl : 40 = z := by rw [← hz]; unfold insE; rw [if_pos (ok_no.2 hp)]
    clear h hp hz hb
    go_enter Tryz.func51, Tryz.ntmps51
    go_wp2_with (go_at_call 69; refine CK.out.mono ?_; rintro e w1 ⟨rfl, hO1⟩; have O1 := Lib.hid hO1; clear hO1)
    go_ret3
    exact ⟨rfl, O1.out⟩
  case pos =>
    have CK := Lib.hid (check_of h (err_ok hp))
    have hb : b.length < 1 ∨ 400 < b.length := by
      rcases hb with hb | hb
      · exact absurd hp hb
      · exact hb
    obtain rfl : 43 = z := by rw [← hz]; unfold insE; rw [if_neg (by rw [ok_iff.2 hp]; simp), if_pos hb]
    obtain ⟨ao, cap, rfl, hc⟩ := hv
    clear h hp hz hc
    generalize b.length = n at *
    by_cases h1 : n < 1
    · have i1 : (n : Int) < 1 := by omega
      clear hb h1
      go_enter Tryz.func51, Tryz.ntmps51
      go_wp2_with (go_at_call 69; refine CK.out.mono ?_; rintro e w1 ⟨rfl, hO1⟩; have O1 := Lib.hid hO1; clear hO1)
      go_ret3
      exact ⟨rfl, O1.out⟩
    · have i1 : ¬ (n : Int) < 1 := by omega
      have i2 : (n : Int) > 400 := by omega
      have i3 : ¬ (n : Int) ≤ 400 := by omega
      clear hb h1
      go_enter Tryz.func51, Tryz.ntmps51
      go_wp2_with (go_at_call 69; refine CK.out.mono ?_; rintro e w1 ⟨rfl, hO1⟩; have O1 := Lib.hid hO1; clear hO1)
      go_ret3
      exact ⟨rfl, O1.out⟩
/-- What Insert tells of a page and a cell that may be laid. -/
def InsRes (w : World) (p b : List UInt8) (e : Ending) (w' : World) : Prop :=
  ((freeB p < need p b ∨ freeS p = 125) ∧ e = .returned (.tuple #[.slice none 0 0, .int .i64 0, .int .i64 42]) ∧ Only [] w w') ∨
  (¬ (freeB p < need p b ∨ freeS p = 125) ∧ ∃ gb c, e = .returned (.tuple #[.slice (some ⟨gb, 0, none⟩) 512 c, .int .i64 (freeS p : Nat), .int .i64 0]) ∧ Buf w' gb c (insP p b) ∧ w.heap.size ≤ gb ∧ Only [] w w')
set_option maxRecDepth 100000 in
set_option maxHeartbeats 4000000 in
theorem insert_ok {w : World} {v vb : Value} {p b : List UInt8} (h : BytesC w v p) (hv : BytesAt w vb b) (hp : Pg p) (hb1 : 1 ≤ b.length) (hb2 : b.length ≤ 400) :
    Calls Tryz.prog 51 #[v, vb] w (InsRes w p b) := by
  have CK := Lib.hid (check_of h (err_ok hp))
  have hl := hp.body.len
  have hmost := hp.body.most
  have HB := Lib.hid h
  have HV := Lib.hid hv
  have WH : Hid (∀ w1, BytesC w1 v p → Calls Tryz.prog 58 #[v] w1 fun e w' => e = .returned (.agg (u8s p).toArray) ∧ Only [] w1 w') := fun w1 h1 => whole_any h1.1 hl
  have SL : Hid (∀ w1, Calls Tryz.prog 67 #[.agg (u8s p).toArray] w1 fun e w' => ∃ v, e = .returned v ∧ w'.ownsRow 0 111 2 v (nS p) (rowC (cells p)) ∧ (∀ k, v.ownBlock = some k → w1.heap.size ≤ k) ∧ Only [] w1 w') := fun w1 => slots_any hl (by omega)
  have IX : Hid (∀ w1 v1, w1.ownsRow 0 111 2 v1 (nS p) (rowC (cells p)) → Calls Tryz.prog 75 #[v1, .func (.func 76) #[] #[]] w1 fun e w' => e = .returned (.int .i64 (if freeS p < nS p then (freeS p : Int) else -1)) ∧ Only [] w1 w') := fun w1 v1 h1 => by
    have := index_any h1 (cells_len p) hmost
    unfold idxF at this
    rw [cells_len] at this
    exact this
  have FR : Hid (∀ w1, Calls Tryz.prog 57 #[.agg (u8s p).toArray] w1 fun e w' => e = .returned (.int .i64 (freeB p : Nat)) ∧ Only [] w1 w') := fun w1 => free_any hl hp.body.fit
  have CN : Hid (∀ w1, BytesC w1 v p → Calls Tryz.prog 59 #[v] w1 fun e w' => ∃ gb c, e = .returned (.slice (some ⟨gb, 0, none⟩) 512 c) ∧ Buf w' gb c p ∧ w1.heap.size ≤ gb ∧ Only [] w1 w') := fun w1 h1 =>
    (clone_any h1.1 (by omega)).mono fun e w' ⟨v', he, ho⟩ => by
      obtain ⟨gb, c, rfl, hb, hg, hO⟩ := own_buf ho hl
      exact ⟨gb, c, he, hb, hg, hO⟩
  have HI : Hid ((Tryz.prog.info? 115).map (·.size) = some (u8s p).length) := by show _ = _; rw [info_arr, length_u8s, hl]
  have HLZ : Hid ((u8s p).length = Tryz.zeroCells115.toList.length) := by show _ = _; rw [length_u8s, hl]; kernel_rfl
  have EI : Hid (insP p b = sealedP (layP (put p 6 (max (nS p) (freeS p + 1))) (freeS p) b)) := rfl
  have IW : Hid (¬ (freeB p < need p b ∨ freeS p = 125) → (put p 6 (max (nS p) (freeS p + 1))).length = 512 ∧ 14 + 4 * freeS p + b.length ≤ bg (put p 6 (max (nS p) (freeS p + 1))) ∧ bg (put p 6 (max (nS p) (freeS p + 1))) ≤ 512) := fun hx => by
    simp only [not_or, Nat.not_lt] at hx
    obtain ⟨hW, h0, hr⟩ := ins_wide hp hx.1 hx.2 hb1
    have h1 := hW.core.fin
    rw [hW.beg] at h1 ⊢
    exact ⟨hW.core.len, by omega, h1⟩
  have PU : Hid (∀ w1 gb c, Buf w1 gb c p → Calls Tryz.prog 68 #[.slice (some ⟨gb, 0, none⟩) 512 c, .int .i64 6, .int .i64 (max (nS p) (freeS p + 1) : Nat)] w1 fun e w' => e = .returned (.tuple #[]) ∧ Buf w' gb c (put p 6 (max (nS p) (freeS p + 1))) ∧ Only [gb] w1 w') := fun w1 gb c h1 => put_any h1 6 _ (by omega) (by have := freeS_le p; omega)
  have LY : Hid (¬ (freeB p < need p b ∨ freeS p = 125) → ∀ w1 gb c, Buf w1 gb c (put p 6 (max (nS p) (freeS p + 1))) → BytesAt w1 vb b → Calls Tryz.prog 61 #[.slice (some ⟨gb, 0, none⟩) 512 c, .int .i64 (freeS p : Nat), vb] w1 fun e w' => e = .returned (.tuple #[]) ∧ Buf w' gb c (layP (put p 6 (max (nS p) (freeS p + 1))) (freeS p) b) ∧ Only [gb] w1 w') := fun hx w1 gb c h1 h2 => lay_any h1 h2 (freeS p) hb1 (IW.out hx).2.1 (IW.out hx).2.2
  have NE : Hid (need p b = if freeS p < nS p then b.length else b.length + 4) := rfl
  have MX := Lib.hid (ins_max (p := p))
  have HSL := Lib.hid (freeS_le p)
  obtain ⟨ao, cap, rfl, hc⟩ := hv
  unfold InsRes
  rw [EI.out]
  clear hc h hp EI
  generalize layP (put p 6 (max (nS p) (freeS p + 1))) (freeS p) b = p7 at *
  generalize put p 6 (max (nS p) (freeS p + 1)) = p6 at *
  generalize max (nS p) (freeS p + 1) = M at *
  generalize need p b = nd at *
  generalize freeB p = f at *
  generalize freeS p = s at *
  generalize nS p = n at *
  generalize b.length = bl at *
  obtain ⟨ix, hix⟩ : ∃ ix : Int, (if s < n then (s : Int) else -1) = ix := ⟨_, rfl⟩
  rw [hix] at IX
  have HIX := Lib.hid hix
  have b1 : ¬ (bl : Int) < 1 := by omega
  have b2 : ¬ (bl : Int) > 400 := by omega
  have b3 : (bl : Int) ≤ 400 := by omega
  have HBL : Hid (bl ≤ 400) := hb2
  clear hix hb1 hb2
  go_enter Tryz.func51, Tryz.ntmps51
  go_upto_if 34 with (first
    | (go_at_call 69; refine CK.out.mono ?_; rintro e w1 ⟨rfl, hO1⟩; have O1 := Lib.hid hO1; clear hO1)
    | (go_at_call 58; refine (WH.out _ (HB.out.past O1.out)).mono ?_; rintro e w2 ⟨rfl, hO2⟩; have O2 := Lib.hid (O1.out.trans hO2 (by simp)); clear hO2)
    | (refine wpList_store_blk rfl 115 (.tmp 7) (.tmp 26) rfl w2.heap.size (u8s p) rfl rfl (Blk.new' _ _ _ rfl) HLZ.out HI.out (u8s_oneCell _) ?_; intro w3 hb3 hO3; have A3 := Lib.hid hb3; have O3 := Lib.hid ((O2.out.alloc _).trans hO3 (fun x hx => .inr (by simp at hx; subst hx; exact O2.out.size))); clear hb3 hO3)
    | (refine wpList_load_blk rfl 115 (.tmp 7) rfl w2.heap.size rfl A3.out _ Tryz.underlying115 rfl HI.out ?_)
    | (go_at_call 67; refine (SL.out _).mono ?_; rintro e w4 ⟨v4, rfl, hr4, hb4, hO4⟩; have R4 := Lib.hid hr4; have O4 := Lib.hid (O3.out.trans hO4 (by simp)); have A4 := Lib.hid (hO4.blk A3.out (by simp)); clear hr4 hb4 hO4)
    | (go_at_call 75; refine (IX.out _ _ R4.out).mono ?_; rintro e w5 ⟨rfl, hO5⟩; have O5 := Lib.hid (O4.out.trans hO5 (by simp)); have A5 := Lib.hid (hO5.blk A4.out (by simp)); clear hO5))
  obtain ⟨a4, c4, rfl⟩ := owns_form R4.out
  clear IX SL WH CK R4 A3 A4 HLZ
  go_cut [9, 10] (fun s9 s10 wx => s9 = .int .i64 s ∧ s10 = .int .i64 nd ∧ wx = w5)
  case first =>
    by_cases hf : s < n
    · obtain rfl : (s : Int) = ix := by rw [← HIX.out, if_pos hf]
      have i1 : ¬ (s : Int) < 0 := by omega
      go_wp2_with fail
      go_meet
      case rel => exact ⟨rfl, by rw [NE.out, if_pos hf], rfl⟩
    · obtain rfl : -1 = ix := by rw [← HIX.out, if_neg hf]
      go_wp2_with fail
      go_meet
      case rel => exact ⟨by rw [(MX.out.2 hf).1], by rw [NE.out, if_neg hf]; rfl, rfl⟩
  case rest =>
    obtain ⟨rfl, rfl, rfl⟩ := hcut
    by_cases hx : f < nd
    · have i1 : (nd : Int) > f := by omega
      have i2 : ¬ (nd : Int) ≤ f := by omega
      go_wp2_with (first
        | (refine wpList_load_blk rfl 115 (.tmp 7) rfl w2.heap.size rfl A5.out _ Tryz.underlying115 rfl HI.out ?_)
        | (go_at_call 57; refine (FR.out _).mono ?_; rintro e w6 ⟨rfl, hO6⟩; have O6 := Lib.hid (O5.out.trans hO6 (by simp)); clear hO6))
      go_ret3
      exact .inl ⟨.inl hx, rfl, O6.out⟩
    · have i1 : ¬ (nd : Int) > f := by omega
      have i2 : (nd : Int) ≤ f := by omega
      by_cases hs : s = 125
      · subst hs
        go_wp2_with (first
          | (refine wpList_load_blk rfl 115 (.tmp 7) rfl w2.heap.size rfl A5.out _ Tryz.underlying115 rfl HI.out ?_)
          | (go_at_call 57; refine (FR.out _).mono ?_; rintro e w6 ⟨rfl, hO6⟩; have O6 := Lib.hid (O5.out.trans hO6 (by simp)); clear hO6))
        go_ret3
        first | exact .inl ⟨.inr rfl, rfl, O6.out⟩ | exact ⟨rfl, O6.out⟩
      · have i3 : ¬ (s : Int) = 125 := by omega
        have i4 : ((s : Int) == 125) = false := beq_eq_false_iff_ne.2 i3
        have HF : Hid (¬ (f < nd ∨ s = 125)) := fun h => h.elim hx hs
        have LY6 := Lib.hid (LY.out HF.out)
        have IW6 := Lib.hid (IW.out HF.out)
        have MX' : Hid (max (n : Int) (wrap64 ((s : Int) + 1)) = (M : Nat)) := by
          show _ = _
          have hsn := HSL.out
          have hw : wrap64 ((s : Int) + 1) = (s : Int) + 1 := by unfold wrap64; omega
          rw [hw]
          by_cases hf : s < n
          · have := MX.out.1 hf; omega
          · have := MX.out.2 hf; omega
        clear LY IW MX NE HIX hx hs
        go_wp2_with (first
          | (refine wpList_load_blk rfl 115 (.tmp 7) rfl w2.heap.size rfl A5.out _ Tryz.underlying115 rfl HI.out ?_)
          | (go_at_call 57; refine (FR.out _).mono ?_; rintro e w6 ⟨rfl, hO6⟩; have O6 := Lib.hid (O5.out.trans hO6 (by simp)); clear hO6)
          | (go_at_call 59; refine (CN.out _ (HB.out.past O6.out)).mono ?_; rintro e w7 ⟨gb, c, rfl, hb7, hg7, hO7⟩; have B7 := Lib.hid hb7; have G7 := Lib.hid (Nat.le_trans O6.out.size hg7); have O7 := Lib.hid (O6.out.trans hO7 (by simp)); clear hb7 hg7 hO7)
          | (go_at_call 68; rw [MX'.out]; refine (PU.out _ _ _ B7.out).mono ?_; rintro e w8 ⟨rfl, hb8, hO8⟩; have B8 := Lib.hid hb8; have O8 := Lib.hid (O7.out.trans hO8 (fun x hx => by simp at hx; subst hx; exact .inr G7.out)); clear hb8 hO8)
          | (go_at_call 61; refine (LY6.out _ _ _ B8.out (bytes_past HV.out O8.out)).mono ?_; rintro e w9 ⟨rfl, hb9, hO9⟩; have B9 := Lib.hid hb9; have O9 := Lib.hid (O8.out.trans hO9 (fun x hx => by simp at hx; subst hx; exact .inr G7.out)); clear hb9 hO9)
          | (go_at_call 62; refine (sealed_any B9.out.at B9.out.1).mono ?_; rintro e wA ⟨gb2, c2, rfl, hbA, hgA, hOA⟩; have BA := Lib.hid hbA; have GA := Lib.hid (Nat.le_trans O9.out.size hgA); have OA := Lib.hid (O9.out.trans hOA (by simp)); clear hbA hgA hOA))
        go_ret3
        exact .inr ⟨HF.out, gb2, c2, rfl, BA.out, GA.out, OA.out⟩
theorem insE_no {p b : List UInt8} (h : insE p b ≠ 0) : (¬ Pg p ∨ b.length < 1 ∨ 400 < b.length) ∨ (Pg p ∧ 1 ≤ b.length ∧ b.length ≤ 400 ∧ insE p b = 42 ∧ (freeB p < need p b ∨ freeS p = 125)) := by
  by_cases hp : Pg p
  · by_cases hb : b.length < 1 ∨ 400 < b.length
    · exact .inl (.inr hb)
    · unfold insE at h ⊢
      rw [if_neg (by rw [ok_iff.2 hp]; simp), if_neg hb] at h ⊢
      by_cases hc : freeB p < need p b ∨ freeS p = 125
      · rw [if_pos hc]
        exact .inr ⟨hp, by omega, by omega, rfl, hc⟩
      · rw [if_neg hc] at h; exact absurd rfl h
  · exact .inl (.inl hp)
/-- Insert: refused. -/
theorem insert_no {w : World} {v vb : Value} {p b : List UInt8} (h : BytesC w v p) (hv : BytesAt w vb b) {z : Nat} (hz : insE p b = z) (h0 : z ≠ 0) :
    Calls Tryz.prog 51 #[v, vb] w fun e w' => e = .returned (.tuple #[.slice none 0 0, .int .i64 0, .int .i64 z]) ∧ Only [] w w' := by
  rcases insE_no (p := p) (b := b) (by rw [hz]; exact h0) with h1 | ⟨hp, h1, h2, h3, h4⟩
  · exact insert_form h hv h1 hz
  · refine (insert_ok h hv hp h1 h2).mono ?_
    rintro e w' (⟨_, he, hO⟩ | ⟨hn, _⟩)
    · rw [← hz, h3]; exact ⟨he, hO⟩
    · exact absurd h4 hn
/-- Insert: done. -/
theorem insert_yes {w : World} {v vb : Value} {p b : List UInt8} (h : BytesC w v p) (hv : BytesAt w vb b) (hz : insE p b = 0) :
    Calls Tryz.prog 51 #[v, vb] w fun e w' => ∃ gb c, e = .returned (.tuple #[.slice (some ⟨gb, 0, none⟩) 512 c, .int .i64 (freeS p : Nat), .int .i64 0]) ∧ Buf w' gb c (insP p b) ∧ w.heap.size ≤ gb ∧ Only [] w w' := by
  obtain ⟨hp, h1, h2, h3, h4⟩ := insE_ok hz
  refine (insert_ok h hv hp h1 h2).mono ?_
  rintro e w' (⟨hn, _⟩ | ⟨_, hr⟩)
  · rcases hn with hn | hn
    · omega
    · exact absurd hn h4
  · exact hr
end Go.Proofs.YtfkmjbpnjgnkbaaGreat.G
