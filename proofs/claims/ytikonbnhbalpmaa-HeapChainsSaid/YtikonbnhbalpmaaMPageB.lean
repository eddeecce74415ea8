import Derived.Test.YtikonbnhbalpmaaMPageR
import Derived.Deep.RegionHeld3
/-
  The program's pages: a page of one's own that is written: put, set, sealed, New: by contracts.
-/
namespace Go.Proofs.Ytikonbnhbalpmaa.G
set_option linter.unusedSimpArgs false
open Go Go.RowKit Go.Proofs.Ytikonbnhbalpmaa.B Go.Proofs.Ytikonbnhbalpmaa.C
set_option linter.unusedVariables false
theorem size_byte : (Try.prog.info? 5).map (·.size) = some 1 := by kernel_rfl
/-- A page of one's own. -/
def Buf (w : World) (gb c : Nat) (p : List UInt8) : Prop := p.length = 512 ∧ w.ownsRow 0 5 1 (.slice (some ⟨gb, 0, none⟩) 512 c) 512 (u8s p)
theorem Buf.row {w : World} {gb c : Nat} {p : List UInt8} (h : Buf w gb c p) : ByteRow 5 w (.slice (some ⟨gb, 0, none⟩) 512 c) p := by
  have := h.2
  unfold ByteRow
  rw [h.1]; exact this
theorem Buf.later {w w' : World} {gb c : Nat} {p : List UInt8} {M : List Nat} (h : Buf w gb c p) (hO : Only M w w') (hg : gb ∉ M) : Buf w' gb c p :=
  ⟨h.1, owns_later h.2 hO (fun k hk hm => by simp [Value.ownBlock] at hk; subst hk; exact hg hm)⟩
theorem Buf.past {w w' : World} {gb c : Nat} {p : List UInt8} (h : Buf w gb c p) (hO : Only [] w w') : Buf w' gb c p := h.later hO (by simp)
theorem Buf.cap {w : World} {gb c : Nat} {p : List UInt8} (h : Buf w gb c p) : 512 ≤ c := by
  rcases h.2.2 with ⟨h0, _⟩ | ⟨_, _, _, hv, _, _, h3, _⟩
  · cases h0
  · simp only [Value.slice.injEq] at hv
    rw [hv.2.2]; exact h3
theorem Buf.at {w : World} {gb c : Nat} {p : List UInt8} (h : Buf w gb c p) : BytesAt w (.slice (some ⟨gb, 0, none⟩) 512 c) p := h.row.at
theorem Buf.lt {w : World} {gb c : Nat} {p : List UInt8} (h : Buf w gb c p) : gb < w.heap.size := owns_lt h.2 (by simp [Value.ownBlock])
theorem Buf.cell {w : World} {gb c : Nat} {p : List UInt8} (h : Buf w gb c p) {j : Nat} (hj : j < 512) : w.cell? ⟨gb, j, none⟩ = some (.int .u8 (p.getD j 0).toNat) := by
  rw [h.2.cellAt j hj, u8s_get, List.getElem?_eq_getElem (by rw [h.1]; exact hj), List.getD_eq_getElem?_getD, List.getElem?_eq_getElem (by rw [h.1]; exact hj)]; rfl
theorem splice_take {α : Type} (cur vs : List α) (o n : Nat) (h : o + vs.length ≤ n) (hn : n ≤ cur.length) : (splice cur o vs).take n = splice (cur.take n) o vs := by
  simp only [splice]
  rw [List.take_append, List.take_append, List.take_take, List.take_take, List.take_of_length_le (l := vs) (by rw [List.length_take]; omega), List.drop_take]
  simp only [List.length_append, List.length_take]
  rw [Nat.min_eq_right (by omega : o ≤ n), Nat.min_eq_left (by omega : o ≤ n), Nat.min_eq_left (by omega : o ≤ cur.length), Nat.sub_sub]
theorem u8s_over (p b : List UInt8) (at_ : Nat) : u8s (over p at_ b) = splice (u8s p) at_ (u8s b) := by
  unfold over splice
  rw [u8s_append, u8s_append, u8s_take, u8s_drop, length_u8s, List.append_assoc]
/-- What was appended to nothing, as a source. -/
theorem grew_src {w w' : World} {a : Option Addr} {n k : Nat} {l : List UInt8} (h : Grew w w' 5 1 (.slice none 0 0) (.slice a n k) n (u8s l)) (h0 : 0 < n) : ∃ g, a = some ⟨g, 0, none⟩ ∧ ∀ j v, (u8s l)[j]? = some v → w'.cell? ((⟨g, 0, none⟩ : Addr).add j) = some v := by
  rcases h.own.2 with ⟨_, h1⟩ | ⟨g, cap, cur, hv, _, hh, h3, _, h5, h6⟩
  · omega
  · simp only [Value.slice.injEq] at hv
    refine ⟨g, hv.1, fun j v hj => ?_⟩
    have hb : Blk w' g cur.toList 5 := by unfold Blk; rw [Array.toArray_toList]; exact hh
    refine hb.add_cell j v ?_
    rw [← h6, List.getElem?_take] at hj
    split at hj
    · exact hj
    · cases hj
/-- The block that was copied into, known by its list. -/
theorem Buf.copied {w w' : World} {gb c : Nat} {p b : List UInt8} {at_ : Nat} (h : Buf w gb c p) {cur : List Value} (hb : Blk w gb cur 5) (hb' : Blk w' gb (splice cur at_ (u8s b)) 5) (hl : at_ + b.length ≤ 512) : Buf w' gb c (over p at_ b) := by
  obtain ⟨cur2, hb2, hl2, ht2, hle⟩ := owns_blk h.2
  obtain ⟨rfl, _⟩ := hb2.inj hb
  refine ⟨by rw [over_len (by rw [h.1]; exact hl)]; exact h.1, ?_⟩
  have hp := h.1
  refine ⟨by rw [length_u8s, over_len (by rw [hp]; exact hl), hp], .inr ⟨gb, c, (splice cur2 at_ (u8s b)).toArray, rfl, Nat.zero_le _, hb', hle, ?_, ?_, ?_⟩⟩
  · rcases h.2.2 with ⟨h0, _⟩ | ⟨_, _, _, hv, _, _, _, h4, _⟩
    · cases h0
    · simp only [Value.slice.injEq] at hv
      rw [hv.2.2]; exact h4
  · simp [splice, length_u8s]; have := h.cap; omega
  · have hcap := h.cap
    show (splice cur2 at_ (u8s b)).take (512 * 1) = _
    rw [splice_take cur2 (u8s b) at_ (512 * 1) (by rw [length_u8s]; omega) (by omega), ht2, u8s_over]
set_option maxRecDepth 100000 in
theorem put_any {w : World} {gb c : Nat} {p : List UInt8} (h : Buf w gb c p) (at_ n : Nat) (ha : at_ + 2 ≤ 512) (hn : n < 65536) :
    Calls Try.prog 51 #[.slice (some ⟨gb, 0, none⟩) 512 c, .int .i64 at_, .int .i64 n] w fun e w' => e = .returned (.tuple #[]) ∧ Buf w' gb c (put p at_ n) ∧ Only [gb] w w' := by
  have HH := Lib.hid h
  have hcap := h.cap
  have L : Hid (∀ w1, Calls Try.prog 42 #[.slice none 0 0, .int .u64 n, .int .i64 2] w1 fun e w' => ∃ a k, e = .returned (.slice a 2 k) ∧ Grew w1 w' 5 1 (.slice none 0 0) (.slice a 2 k) 2 (u8s (le n 2))) := fun w1 => by
    refine (little_n (w := w1) (v := .slice none 0 0) (l := []) (m := 0) (m' := 2) ⟨rfl, .inl ⟨rfl, rfl⟩⟩ rfl n (by omega) 2 (by omega) (by omega) rfl).mono ?_
    rintro e w' ⟨a, k, rfl, hg, _⟩
    exact ⟨a, k, rfl, by simpa using hg⟩
  obtain ⟨cur, hb, hcl, hct, _⟩ := owns_blk h.2
  have HB := Lib.hid hb
  have HCL : Hid (at_ + (u8s (le n 2)).length ≤ cur.length) := by show _ ≤ _; rw [length_u8s, le_len]; omega
  have HMN : Hid ((u8s (le n 2)).length = Nat.min 2 (512 - at_)) := by
    show _ = _
    rw [length_u8s, le_len]
    exact (Nat.min_eq_left (by omega)).symm
  have ew : IntKind.u64.wrap (n : Int) = n := by simp [IntKind.wrap, IntKind.signed, IntKind.bits]; omega
  have a0 : (0 : Int) ≤ at_ := by omega
  have a1 : (at_ : Int) ≤ 512 := by omega
  have a2 : at_ < c := by omega
  have a3 : (at_ : Int) < c := by omega
  have a4 : (512 : Int) ≤ c := by omega
  have a5 : ¬ c = at_ := by omega
  clear h hb hcl hct
  go_enter Try.func51, Try.ntmps51
  go_wp2_with fail
  go_region_held3 (fun _ => True) (trivial)
    (first
      | (go_at_call 42; refine (L.out _).mono ?_; rintro e w3 ⟨a3, k3, rfl, hg3⟩)
      | (refine step_copy_blk rfl (.tmp 8) (.tmp 11) 33 33 rfl 5 Try.underlying33 size_byte _ _ _ _ _ _ rfl rfl gb at_ cur 5 (by exact hg3.only.blk HB.out.drew (by simp [Value.ownBlock])) (u8s (le n 2)) HMN.out (by exact fun _ => ⟨rfl, by obtain ⟨g3, rfl, hs3⟩ := grew_src hg3 (by omega); exact ⟨_, rfl, hs3⟩⟩) HCL.out (u8s_oneCell _) ?_; intro w5 hb5 hO5))
  have O3 := Lib.hid (hg3.only)
  have O5 := Lib.hid hO5
  have B5 := Lib.hid hb5
  clear hg3 hO5 hb5
  go_end0
  refine ⟨rfl, HH.out.copied HB.out B5.out (by rw [le_len]; omega), ?_⟩
  exact (((Only.refl [gb] w).drew).trans O3.out (by simp [Value.ownBlock])).trans O5.out (fun x hx => .inl hx)
/-- The slot, written. -/
def setP (p : List UInt8) (i pl ln : Nat) : List UInt8 := put (put p (10 + 4 * i) pl) (12 + 4 * i) ln
set_option maxRecDepth 100000 in
theorem set_any {w : World} {gb c : Nat} {p : List UInt8} (h : Buf w gb c p) (i pl ln : Nat) (hi : 14 + 4 * i ≤ 512) (hp : pl < 65536) (hn : ln < 65536) :
    Calls Try.prog 55 #[.slice (some ⟨gb, 0, none⟩) 512 c, .int .i64 i, .agg #[.int .i64 pl, .int .i64 ln]] w fun e w' => e = .returned (.tuple #[]) ∧ Buf w' gb c (setP p i pl ln) ∧ Only [gb] w w' := by
  have HX := Lib.hid (Blk.new [.int .i64 pl, .int .i64 ln] 87 w)
  have OX : Hid (Only [] w (w.alloc (.cells #[.int .i64 pl, .int .i64 ln] 87))) := (Only.refl _ _).alloc _
  have HB := Lib.hid (h.past OX.out)
  obtain ⟨q1, hq1⟩ : ∃ q, 10 + 4 * i = q := ⟨_, rfl⟩
  obtain ⟨q2, hq2⟩ : ∃ q, 12 + 4 * i = q := ⟨_, rfl⟩
  have P1 : Hid (∀ w1, Buf w1 gb c p → Calls Try.prog 51 #[.slice (some ⟨gb, 0, none⟩) 512 c, .int .i64 q1, .int .i64 pl] w1 fun e w' => e = .returned (.tuple #[]) ∧ Buf w' gb c (put p q1 pl) ∧ Only [gb] w1 w') := fun w1 hb => put_any hb q1 pl (by omega) hp
  have P2 : Hid (∀ w1, Buf w1 gb c (put p q1 pl) → Calls Try.prog 51 #[.slice (some ⟨gb, 0, none⟩) 512 c, .int .i64 q2, .int .i64 ln] w1 fun e w' => e = .returned (.tuple #[]) ∧ Buf w' gb c (put (put p q1 pl) q2 ln) ∧ Only [gb] w1 w') := fun w1 hb => put_any hb q2 ln (by omega) hn
  have ES : Hid (setP p i pl ln = put (put p q1 pl) q2 ln) := by show _ = _; rw [← hq1, ← hq2]; rfl
  have e1 : (10 : Int) + 4 * (i : Int) = q1 := by omega
  have e2 : (q1 : Int) + 2 = q2 := by omega
  have GNE : Hid (w.heap.size ≠ gb) := by show _ ≠ _; have := h.lt; omega
  have x0 := HX.out.cell 0
  have x1 := HX.out.cell 1
  simp only [List.getElem?_cons_succ, List.getElem?_cons_zero] at x0 x1
  clear h hq1 hq2
  rw [ES.out]
  go_enter Try.func55, Try.ntmps55
  go_wp2_with (first
    | (go_at_call_of 51 (Value.int .i64 (q1 : Int)); refine (P1.out _ HB.out).mono ?_; rintro e w1 ⟨rfl, hb1, hO1⟩; have B1 := Lib.hid hb1; have O1 := Lib.hid hO1; have y1 := (hO1.blk HX.out (by simpa using GNE.out)).cell 1; simp only [List.getElem?_cons_succ, List.getElem?_cons_zero] at y1; clear hb1 hO1)
    | (go_at_call 51; refine (P2.out _ B1.out).mono ?_; rintro e w2 ⟨rfl, hb2, hO2⟩; have B2 := Lib.hid hb2; have O2 := Lib.hid hO2; clear hb2 hO2))
  go_end0
  exact ⟨rfl, B2.out, ((OX.out.mono (by simp)).trans O1.out (fun x hx => .inl hx)).trans O2.out (fun x hx => .inl hx)⟩
end Go.Proofs.Ytikonbnhbalpmaa.G
