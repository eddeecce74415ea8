import Derived.Test.YtikonbnhbalpmaaMPageQ
/-
  The program's pages: a cell is laid ahead of the others: by a contract.
-/
namespace Go.Proofs.Ytikonbnhbalpmaa.G
set_option linter.unusedSimpArgs false
open Go Go.RowKit Go.Proofs.Ytikonbnhbalpmaa.B Go.Proofs.Ytikonbnhbalpmaa.C
set_option linter.unusedVariables false
theorem cells_src {w : World} {b o : Nat} {l : List UInt8} (h : ∀ j, j < l.length → w.cell? ⟨b, o + j, none⟩ = some (.int .u8 (l.getD j 0).toNat)) : ∀ j v, (u8s l)[j]? = some v → w.cell? ((⟨b, o, none⟩ : Addr).add j) = some v := fun j v hj => by
  have hl : j < l.length := by
    rcases Nat.lt_or_ge j l.length with h1 | h1
    · exact h1
    · rw [List.getElem?_eq_none (by rw [length_u8s]; exact h1)] at hj; cases hj
  rw [add_plain, h j hl, ← hj, u8s_get, List.getElem?_eq_getElem hl, List.getD_eq_getElem?_getD, List.getElem?_eq_getElem hl]; rfl
set_option maxRecDepth 100000 in
theorem lay_any {w : World} {gb c : Nat} {p b : List UInt8} {vb : Value} (h : Buf w gb c p) (hv : BytesAt w vb b) (i : Nat) (h1 : 1 ≤ b.length) (hf : 14 + 4 * i + b.length ≤ bg p) (he : bg p ≤ 512) :
    Calls Try.prog 40 #[.slice (some ⟨gb, 0, none⟩) 512 c, .int .i64 i, vb] w fun e w' => e = .returned (.tuple #[]) ∧ Buf w' gb c (layP p i b) ∧ Only [gb] w w' := by
  obtain ⟨ao, cap, rfl, hc⟩ := hv
  obtain ⟨bb, o, rfl, hcells⟩ := hc (by omega)
  have HC := Lib.hid hcells
  have HB := Lib.hid h
  have hcap := h.cap
  obtain ⟨q, hq⟩ : ∃ q, bg p - b.length = q := ⟨_, rfl⟩
  have WH : Hid (Calls Try.prog 37 #[.slice (some ⟨gb, 0, none⟩) 512 c] w fun e w' => e = .returned (arr p) ∧ Only [] w w') := whole_any h.at h.1
  have T8 : Hid (∀ w1, Calls Try.prog 54 #[arr p, .int .i64 8] w1 fun e w' => e = .returned (.int .i64 (bg p : Nat)) ∧ Only [] w1 w') := fun w1 => two_any h.1 8 (by omega)
  have PU : Hid (∀ w1, Buf w1 gb c (over p q b) → Calls Try.prog 51 #[.slice (some ⟨gb, 0, none⟩) 512 c, .int .i64 8, .int .i64 q] w1 fun e w' => e = .returned (.tuple #[]) ∧ Buf w' gb c (put (over p q b) 8 q) ∧ Only [gb] w1 w') := fun w1 hb => put_any hb 8 q (by omega) (by omega)
  have SE : Hid (∀ w1, Buf w1 gb c (put (over p q b) 8 q) → Calls Try.prog 55 #[.slice (some ⟨gb, 0, none⟩) 512 c, .int .i64 i, .agg #[.int .i64 q, .int .i64 b.length]] w1 fun e w' => e = .returned (.tuple #[]) ∧ Buf w' gb c (layP p i b) ∧ Only [gb] w1 w') := fun w1 hb => by
    have := set_any hb i q b.length (by omega) (by omega) (by omega)
    unfold layP
    rw [hq]
    exact this
  have HMN : Hid ((u8s b).length = Nat.min b.length (512 - q)) := by
    show _ = _
    rw [length_u8s]
    exact (Nat.min_eq_left (by omega)).symm
  have HQ : Hid (q + (u8s b).length ≤ 512) := by show _ ≤ _; rw [length_u8s]; omega
  generalize layP p i b = r at *
  have e1 : (bg p : Int) - b.length = q := by omega
  have hbg : bg p ≤ 512 := he
  generalize bg p = bv at *
  generalize hn : b.length = n at *
  have a0 : (0 : Int) ≤ q := by omega
  have a1 : (q : Int) ≤ 512 := by omega
  have a2 : q < c := by omega
  have a3 : (q : Int) < c := by omega
  have a4 : (512 : Int) ≤ c := by omega
  have a5 : ¬ c = q := by omega
  have HN := Lib.hid hn
  clear h hcells hc hn hq
  go_enter Try.func40, Try.ntmps40
  go_wp2_with (first
    | (go_at_call 37; refine WH.out.mono ?_; rintro e w1 ⟨rfl, hO1⟩; have O1 := Lib.hid hO1; clear hO1)
    | (go_at_call 54; refine (T8.out _).mono ?_; rintro e w2 ⟨rfl, hO2⟩; have O2 := Lib.hid (O1.out.trans hO2 (by simp)); have B2 := Lib.hid (HB.out.past O2.out); obtain ⟨cur, hcb, hcl, _⟩ := B2.out.blk; have HCB := Lib.hid hcb; have HCL : Hid (q + (u8s b).length ≤ cur.length) := (by show _ ≤ _; have := HQ.out; omega); clear hO2 hcb hcl)
    | (refine wpList_copy_blk rfl (.tmp 15) (.tmp 16) 33 33 rfl 5 Try.underlying33 size_byte _ _ _ _ _ _ rfl rfl gb q cur 5 HCB.out (u8s b) HMN.out (fun _ => ⟨rfl, _, rfl, cells_src (fun j hj => O2.out.cell (HC.out j (by rw [← HN.out]; exact hj)) (by simp))⟩) HCL.out (u8s_oneCell _) ?_; intro w3 hb3 hO3; have B3 := Lib.hid (B2.out.copied HCB.out hb3 (by have := HQ.out; rw [length_u8s] at this; exact this)); have O3 := Lib.hid ((O2.out.mono (by simp)).trans hO3 (fun x hx => .inl hx)); clear hb3 hO3)
    | (go_at_call 51; refine (PU.out _ B3.out).mono ?_; rintro e w4 ⟨rfl, hb4, hO4⟩; have B4 := Lib.hid hb4; have O4 := Lib.hid (O3.out.trans hO4 (fun x hx => .inl hx)); clear hb4 hO4)
    | (go_at_call 55; refine (SE.out _ B4.out).mono ?_; rintro e w5 ⟨rfl, hb5, hO5⟩; have B5 := Lib.hid hb5; have O5 := Lib.hid (O4.out.trans hO5 (fun x hx => .inl hx)); clear hb5 hO5))
  go_end0
  exact ⟨rfl, B5.out, O5.out⟩
end Go.Proofs.Ytikonbnhbalpmaa.G
