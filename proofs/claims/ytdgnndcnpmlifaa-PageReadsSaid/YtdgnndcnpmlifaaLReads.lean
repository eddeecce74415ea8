/-
  PageReads, walked: it answers true.
-/
import Derived.Test.YtdgnndcnpmlifaaDoesB
namespace Go.Proofs.Ytdgnndcnpmlifaa.G
set_option linter.unusedSimpArgs false
open Go Go.RowKit Go.Proofs.Ytdgnndcnpmlifaa.B Go.Proofs.Ytdgnndcnpmlifaa.C
set_option linter.unusedVariables false
section
open Go.ChangeShapes Go.WideShapes
variable {H : Type} {enc : TypeId × Value → H} {w : World} {base : Nat} {spare : Nat → Bool} {held : Bool}
/-- A step by value. -/
def StepV (w : World) (v : Value) (s : StepD) : Prop := ∃ kv, v = .agg #[.int .i64 s.what, .int .i64 s.slot, kv] ∧ BytesC w kv s.cell ∧ (-9223372036854775808 ≤ s.slot ∧ s.slot ≤ 9223372036854775807)
set_option maxRecDepth 100000 in
theorem open_step {b0 : Nat} {r : Reach} {v : Value} {d : DataW H} {ps : List MemPlace} (hv : Value.okWide Try.prog w r b0 36 v) (h : DataW.Trod enc Try.prog w base spare held 36 v d ps) : ∃ s : StepD, StepV w v s := by
  unfold Value.okWide at hv
  rw [Try.underlying36] at hv
  obtain ⟨cs, rfl, hsz, _⟩ := hv
  obtain ⟨fuel, hf⟩ := h
  obtain ⟨s, kv, he, hb, hs⟩ := step_trod (es := cs.toList) (by rw [Array.length_toList, hsz, cells_step]) hf
  refine ⟨s, kv, ?_, hb, hs⟩
  congr 1
  rw [← Array.toArray_toList (xs := cs), he]; rfl
end
theorem reads_long {w : World} {v kv : Value} {p cell : List UInt8} {what slot : Int} (h : BytesC w v p) (hk : BytesC w kv cell) (hl : 600 < p.length ∨ 600 < cell.length) :
    Calls Try.prog 7 #[v, .agg #[.int .i64 what, .int .i64 slot, kv]] w fun e w' => e = .returned (.bool true) ∧ Below w.heap.size w w' := by
  obtain ⟨po, pc, rfl, _⟩ := h.1
  obtain ⟨ko, kc, rfl, _⟩ := hk.1
  have SB := Lib.hid (Blk.new [.int .i64 what, .int .i64 slot, .slice ko cell.length kc] 36 w)
  have OA : Hid (Only [] w (w.alloc (.cells #[.int .i64 what, .int .i64 slot, .slice ko cell.length kc] 36))) := (Only.refl _ _).alloc _
  clear h hk
  generalize p.length = pn at *
  generalize cell.length = kn at *
  by_cases h1 : 600 < pn
  · have i1 : (pn : Int) > 600 := by omega
    clear hl h1
    go_enter Try.func7, Try.ntmps7
    go_wp2_with (go_at_call 8; refine (known_any _).mono ?_; rintro e w1 ⟨rfl, hO1⟩; have O1 := Lib.hid (OA.out.trans hO1 (by simp)); clear hO1)
    go_ret
    exact ⟨rfl, O1.out.below (Nat.le_refl _) (by simp)⟩
  · have i1 : ¬ (pn : Int) > 600 := by omega
    have i2 : (kn : Int) > 600 := by omega
    have y2 := SB.out.cell 2
    simp only [List.getElem?_cons_succ, List.getElem?_cons_zero] at y2
    clear hl h1
    go_enter Try.func7, Try.ntmps7
    go_wp2_with (go_at_call 8; refine (known_any _).mono ?_; rintro e w1 ⟨rfl, hO1⟩; have O1 := Lib.hid (OA.out.trans hO1 (by simp)); have z2 := hO1.cell y2 (by simp); clear hO1)
    go_ret
    exact ⟨rfl, O1.out.below (Nat.le_refl _) (by simp)⟩
set_option maxRecDepth 100000 in
set_option maxHeartbeats 8000000 in
theorem reads_main {w : World} {v kv : Value} {p cell : List UInt8} {what slot : Int} (h : BytesC w v p) (hk : BytesC w kv cell) (hs : -9223372036854775808 ≤ slot ∧ slot ≤ 9223372036854775807) (hl1 : p.length ≤ 600) (hl2 : cell.length ≤ 600) :
    Calls Try.prog 7 #[v, .agg #[.int .i64 what, .int .i64 slot, kv]] w fun e w' => e = .returned (.bool true) ∧ Below w.heap.size w w' := by
  have HB := Lib.hid h
  have HK := Lib.hid hk
  obtain ⟨po, pc, rfl, _⟩ := h.1
  obtain ⟨ko, kc, rfl, _⟩ := hk.1
  have SB := Lib.hid (Blk.new [.int .i64 what, .int .i64 slot, .slice ko cell.length kc] 36 w)
  have OA : Hid (Only [] w (w.alloc (.cells #[.int .i64 what, .int .i64 slot, .slice ko cell.length kc] 36))) := (Only.refl _ _).alloc _
  have DO : Hid (∀ w1, Only [] w w1 → Calls Try.prog 21 #[.slice po p.length pc, .agg #[.int .i64 what, .int .i64 slot, .slice ko cell.length kc]] w1 (DoesRes w1 p)) := fun w1 hO => does_any (HB.out.past hO) hl1 (HK.out.past hO) hl2 hs
  have DB : Hid (∀ w1 gb c q, Only [] w w1 → Buf w1 gb c q → Calls Try.prog 21 #[.slice (some ⟨gb, 0, none⟩) 512 c, .agg #[.int .i64 what, .int .i64 slot, .slice ko cell.length kc]] w1 (DoesRes w1 q)) := fun w1 gb c q hO hb => does_any hb.c (by rw [hb.1]; omega) (HK.out.past hO) hl2 hs
  have SRC : Hid (∀ w1, Only [] w w1 → p.length = p.length ∧ (0 < p.length → ∃ ad, po = some ad ∧ ∀ j u, (u8s p)[j]? = some u → w1.cell? (ad.add j) = some u)) := fun w1 hO => bytes_src (bytes_past HB.out.1 hO)
  have LP : Hid ((u8s p).length = p.length * 1) := by show _ = _; rw [length_u8s, Nat.mul_one]
  have NIL : Hid (∀ w1 : World, BytesAt w1 (.slice none 0 0) []) := fun w1 => ⟨none, 0, rfl, fun h => by simp at h⟩
  clear h hk
  generalize hpn : p.length = pn at *
  generalize cell.length = kn at *
  have HPN := Lib.hid hpn
  have i1 : ¬ (pn : Int) > 600 := by omega
  have i2 : ¬ (kn : Int) > 600 := by omega
  have y2 := SB.out.cell 2
  simp only [List.getElem?_cons_succ, List.getElem?_cons_zero] at y2
  have IS : Hid ((Try.prog.info? 36).map (·.size) = some 3) := by show _ = _; kernel_rfl
  clear hpn
  by_cases h512 : pn = 512
  · have SY : Hid (∀ w1 w2 v1, Own w1 w2 v1 p → Calls Try.prog 24 #[v1] w2 fun e w' => ∃ gb c, e = .returned (.tuple #[.slice (some ⟨gb, 0, none⟩) 512 c, .int .i64 0]) ∧ Buf w' gb c (sealedP p) ∧ w2.heap.size ≤ gb ∧ Only [] w2 w') := fun w1 w2 v1 ho => seal_yes ho.1.at (by rw [HPN.out]; exact h512)
    have RY : Hid (∀ w1, Only [] w w1 → Calls Try.prog 25 #[.slice po pn pc] w1 fun e w' => ∃ gb c, e = .returned (.tuple #[.slice (some ⟨gb, 0, none⟩) 512 c, .int .i64 0]) ∧ Buf w' gb c (sealedP p) ∧ w1.heap.size ≤ gb ∧ Only [] w1 w') := fun w1 hO => rseal_yes (HB.out.past hO) (by rw [HPN.out]; exact h512)
    generalize sealedP p = q at *
    clear h512
    go_enter Try.func7, Try.ntmps7
    go_wp2_with (first
      | (go_at_call 8; refine (known_any _).mono ?_; rintro e w1 ⟨rfl, hO1⟩; have OC := Lib.hid (OA.out.trans hO1 (by simp)); have SC := Lib.hid (hO1.blk SB.out (by simp)); have z2 := hO1.cell y2 (by simp); clear hO1)
      | (refine wpList_grow rfl (.const (.slice none 0 0)) (.tmp 23) 23 rfl 5 Try.underlying23 (info_parts B.info_byte) rfl (by decide) (.slice none 0 0) 0 [] rfl ⟨rfl, .inl ⟨rfl, rfl⟩⟩ po pn pc rfl (u8s p) LP.out (SRC.out _ OC.out).2 (u8s_oneCell _) (by omega) (by decide) ?_; intro v2 w2 hg2; have G2 := Lib.hid (grew_own hg2 HPN.out); have OC := Lib.hid (OC.out.trans G2.out.2.2 (by simp)); have SC := Lib.hid (G2.out.2.2.blk SC.out (by simp)); clear hg2)
      | (go_at_call 24; refine (SY.out _ _ _ G2.out).mono ?_; rintro e w3 ⟨gA, cA, rfl, hA, -, hO⟩; have BA := Lib.hid hA; have OC := Lib.hid (OC.out.trans hO (by simp)); have SC := Lib.hid (hO.blk SC.out (by simp)); clear hO hA)
      | (go_at_call 25; refine (RY.out _ OC.out).mono ?_; rintro e w3 ⟨gB, cB, rfl, hB, -, hO⟩; have BB := Lib.hid hB; have BA := Lib.hid (BA.out.past hO); have OC := Lib.hid (OC.out.trans hO (by simp)); have SC := Lib.hid (hO.blk SC.out (by simp)); clear hO hB)
      | (go_at_call 19; refine (bytesf_yes BA.out.at BB.out.at rfl).mono ?_; rintro e w3 ⟨rfl, rfl⟩)
      | (go_at_call 14; (first | with_reducible refine (check_any (HB.out.past OC.out)).mono ?_ | with_reducible refine (check_any BB.out.c).mono ?_); rintro e w3 ⟨rfl, hO⟩; have BB := Lib.hid (BB.out.past hO); have OC := Lib.hid (OC.out.trans hO (by simp)); have SC := Lib.hid (hO.blk SC.out (by simp)); clear hO)
      | (go_at_call 26; (first | with_reducible refine (rcheck_any (HB.out.past OC.out)).mono ?_ | with_reducible refine (rcheck_any BB.out.c).mono ?_); rintro e w3 ⟨rfl, hO⟩; have BB := Lib.hid (BB.out.past hO); have OC := Lib.hid (OC.out.trans hO (by simp)); have SC := Lib.hid (hO.blk SC.out (by simp)); clear hO)
      | (go_at_call 17; (first | with_reducible refine (kind_any (HB.out.past OC.out)).mono ?_ | with_reducible refine (kind_any BB.out.c).mono ?_); rintro e w3 ⟨rfl, hO⟩; have BB := Lib.hid (BB.out.past hO); have OC := Lib.hid (OC.out.trans hO (by simp)); have SC := Lib.hid (hO.blk SC.out (by simp)); clear hO)
      | (go_at_call 27; (first | with_reducible refine (rkind_any (HB.out.past OC.out)).mono ?_ | with_reducible refine (rkind_any BB.out.c).mono ?_); rintro e w3 ⟨rfl, hO⟩; have BB := Lib.hid (BB.out.past hO); have OC := Lib.hid (OC.out.trans hO (by simp)); have SC := Lib.hid (hO.blk SC.out (by simp)); clear hO)
      | (go_at_call 13; (first | with_reducible refine (slotsf_any (HB.out.past OC.out)).mono ?_ | with_reducible refine (slotsf_any BB.out.c).mono ?_); rintro e w3 ⟨rfl, hO⟩; have BB := Lib.hid (BB.out.past hO); have OC := Lib.hid (OC.out.trans hO (by simp)); have SC := Lib.hid (hO.blk SC.out (by simp)); clear hO)
      | (go_at_call 22; (first | with_reducible refine (rslotsf_any (HB.out.past OC.out)).mono ?_ | with_reducible refine (rslotsf_any BB.out.c).mono ?_); rintro e w3 ⟨rfl, hO⟩; have BB := Lib.hid (BB.out.past hO); have OC := Lib.hid (OC.out.trans hO (by simp)); have SC := Lib.hid (hO.blk SC.out (by simp)); clear hO)
      | (go_at_call 11; (first | with_reducible refine (freef_any (HB.out.past OC.out)).mono ?_ | with_reducible refine (freef_any BB.out.c).mono ?_); rintro e w3 ⟨rfl, hO⟩; have BB := Lib.hid (BB.out.past hO); have OC := Lib.hid (OC.out.trans hO (by simp)); have SC := Lib.hid (hO.blk SC.out (by simp)); clear hO)
      | (go_at_call 23; (first | with_reducible refine (rfreef_any (HB.out.past OC.out)).mono ?_ | with_reducible refine (rfreef_any BB.out.c).mono ?_); rintro e w3 ⟨rfl, hO⟩; have BB := Lib.hid (BB.out.past hO); have OC := Lib.hid (OC.out.trans hO (by simp)); have SC := Lib.hid (hO.blk SC.out (by simp)); clear hO)
      | (refine wpList_load_blk rfl 36 (.tmp 3) rfl w.heap.size rfl SC.out _ Try.underlying36 rfl IS.out ?_)
      | (go_at_call 21; (first | with_reducible refine (DO.out _ OC.out).mono ?_ | with_reducible refine (DB.out _ _ _ _ OC.out BB.out).mono ?_); rintro e w3 ⟨v3, p3, rfl, -, -, hO⟩; have BB := Lib.hid (BB.out.past hO); have OC := Lib.hid (OC.out.trans hO (by simp)); have SC := Lib.hid (hO.blk SC.out (by simp)); clear hO))
    go_ret
    exact ⟨rfl, OC.out.below (Nat.le_refl _) (by simp)⟩
  · have SN : Hid (∀ w1 w2 v1, Own w1 w2 v1 p → Calls Try.prog 24 #[v1] w2 fun e w' => e = .returned (.tuple #[.slice none 0 0, .int .i64 40]) ∧ Only [] w2 w') := fun w1 w2 v1 ho => seal_no ho.1.at (by rw [HPN.out]; exact h512)
    have RN : Hid (∀ w1, Only [] w w1 → Calls Try.prog 25 #[.slice po pn pc] w1 fun e w' => e = .returned (.tuple #[.slice none 0 0, .int .i64 40]) ∧ Only [] w1 w') := fun w1 hO => rseal_no (bytes_past HB.out.1 hO) (by rw [HPN.out]; exact h512)
    clear h512
    go_enter Try.func7, Try.ntmps7
    go_wp2_with (first
      | (go_at_call 8; refine (known_any _).mono ?_; rintro e w1 ⟨rfl, hO1⟩; have OC := Lib.hid (OA.out.trans hO1 (by simp)); have SC := Lib.hid (hO1.blk SB.out (by simp)); have z2 := hO1.cell y2 (by simp); clear hO1)
      | (refine wpList_grow rfl (.const (.slice none 0 0)) (.tmp 23) 23 rfl 5 Try.underlying23 (info_parts B.info_byte) rfl (by decide) (.slice none 0 0) 0 [] rfl ⟨rfl, .inl ⟨rfl, rfl⟩⟩ po pn pc rfl (u8s p) LP.out (SRC.out _ OC.out).2 (u8s_oneCell _) (by omega) (by decide) ?_; intro v2 w2 hg2; have G2 := Lib.hid (grew_own hg2 HPN.out); have OC := Lib.hid (OC.out.trans G2.out.2.2 (by simp)); have SC := Lib.hid (G2.out.2.2.blk SC.out (by simp)); clear hg2)
      | (go_at_call 24; refine (SN.out _ _ _ G2.out).mono ?_; rintro e w3 ⟨rfl, hO⟩; have OC := Lib.hid (OC.out.trans hO (by simp)); have SC := Lib.hid (hO.blk SC.out (by simp)); clear hO)
      | (go_at_call 25; refine (RN.out _ OC.out).mono ?_; rintro e w3 ⟨rfl, hO⟩; have OC := Lib.hid (OC.out.trans hO (by simp)); have SC := Lib.hid (hO.blk SC.out (by simp)); clear hO)
      | (go_at_call 19; refine (bytesf_yes (NIL.out _) (NIL.out _) rfl).mono ?_; rintro e w3 ⟨rfl, rfl⟩)
      | (go_at_call 14; refine (check_any (HB.out.past OC.out)).mono ?_; rintro e w3 ⟨rfl, hO⟩; have OC := Lib.hid (OC.out.trans hO (by simp)); have SC := Lib.hid (hO.blk SC.out (by simp)); clear hO)
      | (go_at_call 26; refine (rcheck_any (HB.out.past OC.out)).mono ?_; rintro e w3 ⟨rfl, hO⟩; have OC := Lib.hid (OC.out.trans hO (by simp)); have SC := Lib.hid (hO.blk SC.out (by simp)); clear hO)
      | (go_at_call 17; refine (kind_any (HB.out.past OC.out)).mono ?_; rintro e w3 ⟨rfl, hO⟩; have OC := Lib.hid (OC.out.trans hO (by simp)); have SC := Lib.hid (hO.blk SC.out (by simp)); clear hO)
      | (go_at_call 27; refine (rkind_any (HB.out.past OC.out)).mono ?_; rintro e w3 ⟨rfl, hO⟩; have OC := Lib.hid (OC.out.trans hO (by simp)); have SC := Lib.hid (hO.blk SC.out (by simp)); clear hO)
      | (go_at_call 13; refine (slotsf_any (HB.out.past OC.out)).mono ?_; rintro e w3 ⟨rfl, hO⟩; have OC := Lib.hid (OC.out.trans hO (by simp)); have SC := Lib.hid (hO.blk SC.out (by simp)); clear hO)
      | (go_at_call 22; refine (rslotsf_any (HB.out.past OC.out)).mono ?_; rintro e w3 ⟨rfl, hO⟩; have OC := Lib.hid (OC.out.trans hO (by simp)); have SC := Lib.hid (hO.blk SC.out (by simp)); clear hO)
      | (go_at_call 11; refine (freef_any (HB.out.past OC.out)).mono ?_; rintro e w3 ⟨rfl, hO⟩; have OC := Lib.hid (OC.out.trans hO (by simp)); have SC := Lib.hid (hO.blk SC.out (by simp)); clear hO)
      | (go_at_call 23; refine (rfreef_any (HB.out.past OC.out)).mono ?_; rintro e w3 ⟨rfl, hO⟩; have OC := Lib.hid (OC.out.trans hO (by simp)); have SC := Lib.hid (hO.blk SC.out (by simp)); clear hO)
      | (refine wpList_load_blk rfl 36 (.tmp 3) rfl w.heap.size rfl SC.out _ Try.underlying36 rfl IS.out ?_)
      | (go_at_call 21; refine (DO.out _ OC.out).mono ?_; rintro e w3 ⟨v3, p3, rfl, -, -, hO⟩; have OC := Lib.hid (OC.out.trans hO (by simp)); have SC := Lib.hid (hO.blk SC.out (by simp)); clear hO))
    go_ret
    exact ⟨rfl, OC.out.below (Nat.le_refl _) (by simp)⟩
theorem reads_law {w : World} (v : Value) (p : List UInt8) (h : BytesC w v p) (sv : Value) (s : StepD) (hs : StepV w sv s) : Calls Try.prog 7 #[v, sv] w fun e w' => e = .returned (.bool true) ∧ Below w.heap.size w w' := by
  obtain ⟨kv, rfl, hk, hs⟩ := hs
  by_cases h1 : 600 < p.length
  · exact reads_long h hk (.inl h1)
  · by_cases h2 : 600 < s.cell.length
    · exact reads_long h hk (.inr h2)
    · exact reads_main h hk hs (by omega) (by omega)
end Go.Proofs.Ytdgnndcnpmlifaa.G
