import Derived.Test.YtfkmjbpnjgnkbaaGreatMPageS
import Derived.Test.YtfkmjbpnjgnkbaaGreatMPageR
import Derived.Test.YtfkmjbpnjgnkbaaGreatMHpF
import Derived.Lib.SliceRun
import Derived.Deep.DeepCutAuto
import Derived.Deep.CutBlock
/-
  The program's pages: a slot's cell is taken out: by a contract.
-/
namespace Go.Proofs.YtfkmjbpnjgnkbaaGreat.G
set_option linter.unusedSimpArgs false
open Go Go.RowKit Go.Proofs.YtfkmjbpnjgnkbaaGreat.B Go.Proofs.YtfkmjbpnjgnkbaaGreat.C
set_option linter.unusedVariables false
theorem zero_byte : ∀ w, (zeroValue 5).run Tryz.prog w = .ok (.int .u8 0) w := by
  obtain ⟨i0, hi, hz0, -, -⟩ := info_parts B.info_byte
  intro w
  simp [zeroValue, typeInfo, hi, hz0]
theorem range_off1 {w w' : World} {b o : Nat} {cs : List Value} {M : List Nat} (h : w.rangeAt b o cs) (hO : Only M w w') (hn : b ∉ M) : w'.rangeAt b o cs := fun j v hv => hO.cell (h j v hv) hn
theorem cut_src {w : World} {b : Nat} {p : List UInt8} {t : TypeId} (h : Blk w b (u8s p) t) (a n : Nat) : ∀ j v, (u8s (cutP p a n))[j]? = some v → w.cell? ((⟨b, a, none⟩ : Addr).add j) = some v := fun j v hj => by
  unfold cutP at hj
  rw [u8s_take] at hj
  have := take_get hj
  rw [u8s_drop, List.getElem?_drop] at this
  rw [add_plain, h.cell]
  exact this
/-- clear, at a block that is known whole. -/
theorem wpList_clear_blk {P : Program} {w : World} {ops : Array Oper} {rest : List Oper} {o : Oper} {a : Act} {Q : Exit → Act → World → Prop} (hgd : o.guard = none) (s : Operand) (t : TypeId)
    (ho : o.op = .call { callee := .builtin .clear, args := #[s], argTypes := #[t] }) (e : TypeId) (ht : P.underlying t = some (.slice e)) (z : Value) (hv : ∀ w, (zeroValue e).run P w = .ok z w) (hz : z.cells = #[z]) (h1 : z.oneCell' = true)
    (b off n c : Nat) (hs : a.eval s = .slice (some ⟨b, off, none⟩) n c) (hn : 0 < n) {cur : List Value} {et : TypeId} (hb : Blk w b cur et) (hfit : off + n ≤ cur.length)
    (h : ∀ w', Blk w' b (splice cur off (List.replicate n z)) et → Only [b] w w' → wpList P ops Q rest (a.put o.dst (.tuple #[])) w') : wpList P ops Q (o :: rest) a w := by
  refine wpList_plain hgd fun K hK => ?_
  have hrun := Go.Lib.run_clear_slice (P := P) w t e o.type z ht hv hz h1 b off n c hn (fun j hj => by rw [hb.cell, List.getElem?_eq_getElem (by omega)]; rfl) (fun j hj => hb.frozen _)
  unfold Oper.wp
  simp [execOp, ho, resolve, invoke, builtin, hs, hrun, Result.andThen]
  exact hK _ _ (h _ (hb.setCells _ _ (by simpa using hfit)) (Only.setCells _ _ (Only.refl _ _) (.inl (by simp))))
set_option maxRecDepth 100000 in
set_option maxHeartbeats 2000000 in
theorem take_any {w : World} {gb c : Nat} {p : List UInt8} (h : Buf w gb c p) (hcore : Core p) (i : Nat) (hi : i < nS p) (h0 : sP p i ≠ 0) :
    Calls Tryz.prog 60 #[.slice (some ⟨gb, 0, none⟩) 512 c, .int .i64 i] w fun e w' => e = .returned (.tuple #[]) ∧ ∃ q, Buf w' gb c q ∧ Took p i q ∧ Only [gb] w w' := by
  have HB := Lib.hid h
  have hcap := h.cap
  have HLT := Lib.hid h.lt
  have hl := h.1
  obtain ⟨hin1, hin2⟩ := hcore.in_ hi h0
  have hL1 := (hcore.goodAt hi).2.1 h0
  have hfit := hcore.fit
  have hmost := hcore.most
  have WH : Hid (Calls Tryz.prog 58 #[.slice (some ⟨gb, 0, none⟩) 512 c] w fun e w' => e = .returned (.agg (u8s p).toArray) ∧ Only [] w w') := whole_any h.at hl
  have SL : Hid (∀ w1, Calls Tryz.prog 67 #[.agg (u8s p).toArray] w1 fun e w' => ∃ v, e = .returned v ∧ w'.ownsRow 0 111 2 v (nS p) (rowC (cells p)) ∧ (∀ k, v.ownBlock = some k → w1.heap.size ≤ k) ∧ Only [] w1 w') := fun w1 => slots_any hl (by omega)
  have T8 : Hid (∀ w1, Calls Tryz.prog 70 #[.agg (u8s p).toArray, .int .i64 8] w1 fun e w' => e = .returned (.int .i64 (bg p : Nat)) ∧ Only [] w1 w') := fun w1 => two_any hl 8 (by omega)
  have HI : Hid ((Tryz.prog.info? 115).map (·.size) = some (u8s p).length) := by show _ = _; rw [info_arr, length_u8s, hl]
  have CL : Hid (∀ k, k < nS p → (cells p)[k]? = some (sP p k, sL p k)) := fun k hk => by rw [List.getElem?_eq_getElem (by rw [cells_len]; exact hk), cells_get]
  obtain ⟨q2, hq2⟩ : ∃ q, bg p + sL p i = q := ⟨_, rfl⟩
  have START : Hid (Taking p i 0 (over (over p q2 (cutP p (bg p) (sP p i - bg p))) (bg p) (List.replicate (sL p i) 0))) := by
    have := moved_start hl hfit hin1 hin2
    unfold movedP at this
    rw [hq2] at this
    exact this
  have STEP : Hid (∀ j r, Taking p i j r → j < nS p → ahead p i j → Taking p i (j + 1) (setP r j (sP p j + sL p i) (sL p j))) := fun j r h1 h2 h3 => h1.set h2 (by omega) h3 hin2
  have SKIP : Hid (∀ j r, Taking p i j r → j < nS p → ¬ ahead p i j → Taking p i (j + 1) r) := fun j r h1 h2 h3 => h1.skip h2 h3
  have FIN : Hid (∀ r, Taking p i (nS p) r → Took p i (put (setP r i 0 0) 8 q2)) := fun r h1 => by rw [← hq2]; exact h1.fin hi (by omega) (by omega)
  have CUT : Hid ((cutP p (bg p) (sP p i - bg p)).length = sP p i - bg p) := cut_len (by omega)
  have HLZ : Hid ((u8s p).length = Tryz.zeroCells115.toList.length) := by show _ = _; rw [length_u8s, hl]; kernel_rfl
  have AH : Hid (∀ j, ahead p i j ↔ (j ≠ i ∧ sP p j ≠ 0 ∧ sP p j < sP p i)) := fun _ => Iff.rfl
  have CI := Lib.hid (CL.out i hi)
  have PB : Hid (∀ k, sP p k < 65536 ∧ sL p k < 65536) := fun k => ⟨two_lt _ _, two_lt _ _⟩
  generalize sP p i = P at *
  generalize sL p i = L at *
  generalize nS p = n at *
  generalize bg p = bv at *
  clear h hfit
  go_enter Tryz.func60, Tryz.ntmps60
  go_upto_region 2 with (first
    | (go_at_call 58; refine WH.out.mono ?_; rintro e w0 ⟨rfl, hO0⟩; have O0 := Lib.hid hO0; clear hO0)
    | (refine wpList_store_blk rfl 115 (.tmp 4) (.tmp 11) rfl w0.heap.size (u8s p) rfl rfl (Blk.new' _ _ _ rfl) HLZ.out HI.out (u8s_oneCell _) ?_; intro w1 hb1 hO1; have A1 := Lib.hid hb1; have O1 := Lib.hid ((O0.out.alloc _).trans hO1 (fun x hx => .inr (by simp at hx; subst hx; exact O0.out.size))); clear hb1 hO1)
    | (refine wpList_load_blk rfl 115 (.tmp 4) rfl w0.heap.size rfl A1.out _ Tryz.underlying115 rfl HI.out ?_)
    | (go_at_call 67; refine (SL.out _).mono ?_; rintro e w2 ⟨v5, rfl, hr2, hb2, hO2⟩; obtain ⟨g5, c5, rfl, hc5⟩ := owns_some hr2 (by omega); have R2 := Lib.hid hr2; have O2 := Lib.hid (O1.out.trans hO2 (by simp)); have A2 := Lib.hid (hO2.blk A1.out (by simp)); have G5 : Hid (w.heap.size ≤ g5) := Nat.le_trans O1.out.size (hb2 g5 rfl); clear hr2 hb2 hO2))
  have RI : Hid (w2.rangeAt g5 (i * 2) [.int .i64 P, .int .i64 L]) := row_range R2.out hi CI.out
  have RA : Hid (w2.rangeAt w0.heap.size 0 (u8s p)) := fun j v hv => by rw [Nat.zero_add, A2.out.cell, hv]
  have HG5 : Hid (g5 < w2.heap.size) := owns_lt R2.out rfl
  have UA := Tryz.underlying115
  have UC := Tryz.underlying111
  have IC : (Tryz.prog.info? 111).map (·.size) = some 2 := by kernel_rfl
  have IA := HI.out
  have hi0 : (0 : Int) ≤ i := by omega
  have hi1 : (i : Int) < n := by omega
  go_cut [6, 7] (fun s6 s7 wx => ∃ cb, s6 = .pointer (some ⟨cb, 0, none⟩) ∧ s7 = .int .i64 bv ∧ Blk wx cb [.int .i64 P, .int .i64 L] 111 ∧ w.heap.size ≤ cb ∧ Only [] w2 wx)
  case first =>
    refine wp_region_held_drew (S := fun w' => w'.rangeAt w0.heap.size 0 (u8s p) ∧ w'.rangeAt g5 (i * 2) [.int .i64 P, .int .i64 L]) (by kernel_rfl) ⟨range_off RA.out (Only.refl [] _).drew, range_off RI.out (Only.refl [] _).drew⟩ (fun hHeld => ?_)
    refine take_at 0 14 (.slice (some ⟨g5, 0, none⟩) n c5) rfl rfl (by kernel_rfl) (by kernel_rfl) (by kernel_rfl) (fun _ _ _ h => h) (Or.inl ⟨by rfl, fun w1 hw1 => by go_simp⟩) hHeld ?_
    (try simp only [Act.put, List.setIfInBounds_toArray, List.set_cons_zero, List.set_cons_succ])
    refine take_at 1 15 (.int .i64 i) rfl rfl (by kernel_rfl) (by kernel_rfl) (by kernel_rfl) (fun _ _ _ h => h) (Or.inl ⟨by rfl, fun w1 hw1 => by go_simp⟩) hHeld ?_
    (try simp only [Act.put, List.setIfInBounds_toArray, List.set_cons_zero, List.set_cons_succ])
    refine take_at 2 16 (.pointer (some ⟨g5, i * 2, none⟩)) rfl rfl (by kernel_rfl) (by kernel_rfl) (by kernel_rfl) (fun _ _ _ h => h) (Or.inl ⟨by rfl, fun w1 hw1 => by go_simp⟩) hHeld ?_
    (try simp only [Act.put, List.setIfInBounds_toArray, List.set_cons_zero, List.set_cons_succ])
    refine take_at 3 17 (.agg #[.int .i64 P, .int .i64 L]) rfl rfl (by kernel_rfl) (by kernel_rfl) (by kernel_rfl) (fun _ _ _ h => h) (yieldsIf_load_mid (by rfl) _ _ rfl _ _ rfl _ _ (fun w1 hw1 => hw1.2) UC rfl IC) hHeld ?_
    (try simp only [Act.put, List.setIfInBounds_toArray, List.set_cons_zero, List.set_cons_succ])
    refine take_at 4 18 (.agg (u8s p).toArray) rfl rfl (by kernel_rfl) (by kernel_rfl) (by kernel_rfl) (fun _ _ _ h => h) (yieldsIf_load_mid (by rfl) _ _ rfl _ _ rfl _ _ (fun w1 hw1 => hw1.1) UA rfl IA) hHeld ?_
    (try simp only [Act.put, List.setIfInBounds_toArray, List.set_cons_zero, List.set_cons_succ])
    refine two_at 5 6 rfl rfl (by kernel_rfl) (by rfl) (by rfl) (fun K hK => ?_) (fun K hK => ?_)
    · go_wp2_with (go_at_call 70; refine (T8.out _).mono ?_; rintro e w3 ⟨rfl, hO3⟩)
      have O3 := Lib.hid ((Only.refl [] w2).drew.trans hO3 (by simp))
      refine hK.out _ _ ⟨range_off hHeld.1 hO3, range_off hHeld.2 hO3⟩ ?_
      have hHeld := And.intro (range_off hHeld.1 hO3) (range_off hHeld.2 hO3)
      clear hK K hO3
      (try simp only [Act.put, List.setIfInBounds_toArray, List.set_cons_zero, List.set_cons_succ])
      refine one_at 6 rfl (by kernel_rfl) (by rfl) (fun K hK => ?_)
      go_wp2_with fail
      refine hK.out _ _ ⟨range_off hHeld.1 ((Only.refl [] _).alloc _), range_off hHeld.2 ((Only.refl [] _).alloc _)⟩ ?_
      have hHeld := And.intro (range_off hHeld.1 ((Only.refl [] _).alloc (.cells #[.int .i64 0, .int .i64 0] 111))) (range_off hHeld.2 ((Only.refl [] _).alloc (.cells #[.int .i64 0, .int .i64 0] 111)))
      have O4 := Lib.hid (O3.out.alloc (.cells #[.int .i64 0, .int .i64 0] 111))
      have HZ := Lib.hid (Blk.new [.int .i64 0, .int .i64 0] 111 w3)
      have HGE := Lib.hid O3.out.size
      have HN1 : Hid (w0.heap.size ≠ w3.heap.size) := Nat.ne_of_lt (Nat.lt_of_lt_of_le A2.out.lt O3.out.size)
      have HN2 : Hid (g5 ≠ w3.heap.size) := Nat.ne_of_lt (Nat.lt_of_lt_of_le HG5.out O3.out.size)
      clear hK K
      (try simp only [Act.put, List.setIfInBounds_toArray, List.set_cons_zero, List.set_cons_succ])
      refine one_at 7 rfl (by kernel_rfl) (by rfl) (fun K hK => ?_)
      refine store_at 111 (.tmp 6) (.tmp 17) rfl rfl w3.heap.size [.int .i64 P, .int .i64 L] rfl rfl HZ.out rfl IC (by intro v hv; simp at hv; rcases hv with rfl | rfl <;> rfl) ?_
      intro w5 hb5 hO5
      have B5 := Lib.hid hb5
      have hS5 := And.intro (range_off1 hHeld.1 hO5 (by simpa using HN1.out)) (range_off1 hHeld.2 hO5 (by simpa using HN2.out))
      have O5 := Lib.hid (O4.out.trans hO5 (fun x hx => .inr (by simp at hx; subst hx; exact HGE.out)))
      refine hK.out _ _ hS5 ?_
      clear hK K hO5 hb5 hHeld
      (try simp only [Act.put, List.setIfInBounds_toArray, List.set_cons_zero, List.set_cons_succ])
      refine take_at 8 7 (.int .i64 bv) rfl rfl (by kernel_rfl) (by kernel_rfl) (by kernel_rfl) (fun _ _ _ h => h) (Or.inl ⟨by rfl, fun w1 hw1 => by go_simp⟩) hS5 ?_
      (try simp only [Act.put, List.setIfInBounds_toArray, List.set_cons_zero, List.set_cons_succ])
      refine wpAnyH_done (by kernel_rfl) ?_ _
      go_wp2_with fail
      go_meet
      case rel => exact ⟨w3.heap.size, rfl, rfl, B5.out, Nat.le_trans O2.out.size HGE.out, O5.out⟩
    · go_wp2_with fail
      refine hK.out _ _ ⟨range_off hHeld.1 ((Only.refl [] _).alloc _), range_off hHeld.2 ((Only.refl [] _).alloc _)⟩ ?_
      have hHeld := And.intro (range_off hHeld.1 ((Only.refl [] _).alloc (.cells #[.int .i64 0, .int .i64 0] 111))) (range_off hHeld.2 ((Only.refl [] _).alloc (.cells #[.int .i64 0, .int .i64 0] 111)))
      clear hK K
      (try simp only [Act.put, List.setIfInBounds_toArray, List.set_cons_zero, List.set_cons_succ])
      refine one_at 5 rfl (by kernel_rfl) (by rfl) (fun K hK => ?_)
      go_wp2_with (go_at_call 70; refine (T8.out _).mono ?_; rintro e w3 ⟨rfl, hO3⟩)
      have O4 := Lib.hid (((Only.refl [] w2).alloc (.cells #[.int .i64 0, .int .i64 0] 111)).drew.trans hO3 (by simp))
      have HZ := Lib.hid (hO3.blk (Blk.new [.int .i64 0, .int .i64 0] 111 w2).drew (by simp))
      refine hK.out _ _ ⟨range_off hHeld.1 hO3, range_off hHeld.2 hO3⟩ ?_
      have hHeld := And.intro (range_off hHeld.1 hO3) (range_off hHeld.2 hO3)
      have HGE : Hid (w2.heap.size ≤ w2.heap.size) := Nat.le_refl _
      have HN1 : Hid (w0.heap.size ≠ w2.heap.size) := Nat.ne_of_lt A2.out.lt
      have HN2 : Hid (g5 ≠ w2.heap.size) := Nat.ne_of_lt HG5.out
      clear hK K hO3
      (try simp only [Act.put, List.setIfInBounds_toArray, List.set_cons_zero, List.set_cons_succ])
      refine one_at 7 rfl (by kernel_rfl) (by rfl) (fun K hK => ?_)
      refine store_at 111 (.tmp 6) (.tmp 17) rfl rfl w2.heap.size [.int .i64 P, .int .i64 L] rfl rfl HZ.out rfl IC (by intro v hv; simp at hv; rcases hv with rfl | rfl <;> rfl) ?_
      intro w5 hb5 hO5
      have B5 := Lib.hid hb5
      have hS5 := And.intro (range_off1 hHeld.1 hO5 (by simpa using HN1.out)) (range_off1 hHeld.2 hO5 (by simpa using HN2.out))
      have O5 := Lib.hid (O4.out.trans hO5 (fun x hx => .inr (by simp at hx; subst hx; exact HGE.out)))
      refine hK.out _ _ hS5 ?_
      clear hK K hO5 hb5 hHeld
      (try simp only [Act.put, List.setIfInBounds_toArray, List.set_cons_zero, List.set_cons_succ])
      refine take_at 8 7 (.int .i64 bv) rfl rfl (by kernel_rfl) (by kernel_rfl) (by kernel_rfl) (fun _ _ _ h => h) (Or.inl ⟨by rfl, fun w1 hw1 => by go_simp⟩) hS5 ?_
      (try simp only [Act.put, List.setIfInBounds_toArray, List.set_cons_zero, List.set_cons_succ])
      refine wpAnyH_done (by kernel_rfl) ?_ _
      go_wp2_with fail
      go_meet
      case rel => exact ⟨w2.heap.size, rfl, rfl, B5.out, Nat.le_trans O2.out.size HGE.out, O5.out⟩
  case rest =>
    obtain ⟨cb, rfl, rfl, hcb, hlt, hO⟩ := hcut
    have CB := Lib.hid hcb
    have OC := Lib.hid (O2.out.trans hO (by simp))
    have BC := Lib.hid (HB.out.past OC.out)
    have RC := Lib.hid (owns_past R2.out hO)
    have AC := Lib.hid (hO.blk A2.out (by simp))
    have HLC := Lib.hid hlt
    have G5C : Hid (g5 ≠ gb) := by show _ ≠ _; have := G5.out; have := HLT.out; omega
    have CBC : Hid (cb ≠ gb) := by show _ ≠ _; have := HLT.out; omega
    have y0 := hcb.cell 0
    have y1 := hcb.cell 1
    simp only [List.getElem?_cons_succ, List.getElem?_cons_zero] at y0 y1
    obtain ⟨cur, hcur, hcl, hct⟩ := BC.out.blk
    have HCUR := Lib.hid hcur
    have HCL : Hid (q2 + (u8s (cutP p bv (P - bv))).length ≤ cur.length) := by show _ ≤ _; rw [length_u8s, CUT.out]; omega
    have HMN : Hid ((u8s (cutP p bv (P - bv))).length = Nat.min (P - bv) (512 - q2)) := by
      show _ = _
      rw [length_u8s, CUT.out]
      exact (Nat.min_eq_left (by omega)).symm
    have HNIL : Hid (c = q2 → ¬ 0 < (u8s (cutP p bv (P - bv))).length) := fun h => by rw [length_u8s, CUT.out]; omega
    have HFIT : Hid (q2 + (cutP p bv (P - bv)).length ≤ 512) := by show _ ≤ _; rw [CUT.out]; omega
    have HZF : Hid (bv + (List.replicate L (0 : UInt8)).length ≤ 512) := by show _ ≤ _; rw [List.length_replicate]; omega
    have HCAP := Lib.hid hcap
    have k0 : (0 : Int) ≤ q2 := by omega
    have k1 : (q2 : Int) ≤ 512 := by omega
    have k2 : (0 : Int) ≤ bv := by omega
    have k3 : (bv : Int) ≤ P := by omega
    have k4 : (P : Int) ≤ 512 := by omega
    have k5 : ¬ 512 = bv := by omega
    have k6 : (512 : Int) ≤ c := by omega
    clear hcb hO hlt hcur hcl hct A1 A2 O1 O2 R2 RI RA UA UC IC IA hi0 hi1 HG5 SL WH T8 HI HLZ
    go_upto_region 3 with fail
    generalize wc = wq at *
    go_cut [] (fun wx => Buf wx gb c (over p q2 (cutP p bv (P - bv))) ∧ Only [gb] wq wx)
    case first =>
      by_cases hE : c = q2
      · obtain rfl : q2 = 512 := by omega
        obtain rfl : c = 512 := hE
        clear k0 k1 k6
        have e2 : IntKind.i64.wrap ((bv : Int) + L) = 512 := by simp [IntKind.wrap_i64]; omega
        go_region_held3 (fun w' => w'.cell? ⟨cb, 0, none⟩ = some (.int .i64 P) ∧ w'.cell? ⟨cb, 1, none⟩ = some (.int .i64 L)) (first | exact hKEEP | go_keep)
          (first | (refine step_copy_blk (by rfl) (.tmp 25) (.tmp 29) 33 33 rfl 5 Tryz.underlying33 size_byte _ _ _ _ _ _ rfl rfl gb 512 cur 5 (by exact HCUR.out.drew) (u8s (cutP p bv (P - bv))) HMN.out (by exact fun h0 => absurd h0 (HNIL.out rfl)) HCL.out (u8s_oneCell _) ?_; intro w5 hb5 hO5; have hKEEP := And.intro (hO5.cell y0 (by simpa using CBC.out)) (hO5.cell y1 (by simpa using CBC.out))))
        go_wp2_with fail
        go_meet
        case rel => exact ⟨BC.out.copied HCUR.out hb5 HFIT.out, (Only.refl [gb] wq).drew.trans hO5 (fun x hx => .inl hx)⟩
      · have j0 : ¬ c = q2 := hE
        have j1 : q2 < c := by omega
        have e2 : IntKind.i64.wrap ((bv : Int) + L) = q2 := by simp [IntKind.wrap_i64]; omega
        go_region_held3 (fun w' => w'.cell? ⟨cb, 0, none⟩ = some (.int .i64 P) ∧ w'.cell? ⟨cb, 1, none⟩ = some (.int .i64 L)) (first | exact hKEEP | go_keep)
          (first | (refine step_copy_blk (by rfl) (.tmp 25) (.tmp 29) 33 33 rfl 5 Tryz.underlying33 size_byte _ _ _ _ _ _ rfl rfl gb q2 cur 5 (by exact HCUR.out.drew) (u8s (cutP p bv (P - bv))) HMN.out (by exact fun h0 => ⟨rfl, _, rfl, cut_src AC.out.drew _ _⟩) HCL.out (u8s_oneCell _) ?_; intro w5 hb5 hO5; have hKEEP := And.intro (hO5.cell y0 (by simpa using CBC.out)) (hO5.cell y1 (by simpa using CBC.out))))
        go_wp2_with fail
        go_meet
        case rel => exact ⟨BC.out.copied HCUR.out hb5 HFIT.out, (Only.refl [gb] wq).drew.trans hO5 (fun x hx => .inl hx)⟩
    case rest =>
      obtain ⟨hb, hO⟩ := hcut
      have B5 := Lib.hid hb
      have O5 := Lib.hid hO
      obtain ⟨cur5, hcur5, hcl5, hct5⟩ := hb.blk
      have HCUR5 := Lib.hid hcur5
      have HCL5 : Hid (bv + L ≤ cur5.length) := by show _ ≤ _; have := HCAP.out; omega
      have ER : Hid (List.replicate L (.int .u8 0) = u8s (List.replicate L 0)) := (u8s_replicate L).symm
      have z0 := hO.cell y0 (by simpa using CBC.out)
      have z1 := hO.cell y1 (by simpa using CBC.out)
      have e2 : (bv : Int) + L = q2 := by omega
      have e3 : q2 - bv = L := by omega
      have e4 : ¬ c = bv := by omega
      have e5 : bv < c := by omega
      have e6 : (bv : Int) ≤ q2 := by omega
      have e7 : (q2 : Int) ≤ c := by omega
      have HL1 := Lib.hid hL1
      clear hb hO hcur5 hcl5 hct5 k5
      go_wp2_with (first | (refine wpList_clear_blk rfl (.tmp 37) 33 rfl 5 Tryz.underlying33 (.int .u8 0) zero_byte rfl rfl gb bv L _ rfl HL1.out HCUR5.out HCL5.out ?_; intro w6 hb6 hO6; have B6 := Lib.hid (B5.out.copied HCUR5.out (hb6.to (by rw [ER.out])) HZF.out); have O6 := Lib.hid (O5.out.trans hO6 (fun x hx => .inl hx)); have v0 := hO6.cell z0 (by simpa using CBC.out); have v1 := hO6.cell z1 (by simpa using CBC.out); clear hb6 hO6))
      clear z0 z1 v0 v1 e2 e3 e4 e5 e6 e7
      go_loopg [8, 9, 40] n (fun gk s8 s9 s40 wx => ∃ (j : Nat) (r : List UInt8), gk = n - j ∧ j ≤ n ∧ s40 = .int .i64 j ∧ Taking p i j r ∧ Buf wx gb c r ∧ Only [gb] wq wx)
      case atStart => exact ⟨0, _, rfl, Nat.zero_le _, rfl, START.out, B6.out, O6.out⟩
      case round =>
        obtain ⟨j, r, hgk, hj, rfl, htk, hbr, hOr⟩ := hrel
        have HGK := Lib.hid hgk
        have TK := Lib.hid htk
        have BR := Lib.hid hbr
        have OR := Lib.hid hOr
        have x0 := hOr.cell y0 (by simpa using CBC.out)
        have x1 := hOr.cell y1 (by simpa using CBC.out)
        clear hgk htk hbr hOr y0 y1 HCUR HCUR5 B5 O5 B6 O6 ER
        by_cases hlt : j < n
        · have hj0 : (0 : Int) ≤ j := by omega
          have hj1 : (j : Int) < n := by omega
          have RNG : Hid (wr.rangeAt g5 (j * 2) [.int .i64 (sP p j), .int .i64 (sL p j)]) := range_off1 (row_range RC.out hlt (CL.out j hlt)) OR.out (by simpa using G5C.out)
          have UC := Tryz.underlying111
          have IC : (Tryz.prog.info? 111).map (·.size) = some 2 := by kernel_rfl
          have STEPj := Lib.hid (STEP.out j r TK.out hlt)
          have SKIPj := Lib.hid (SKIP.out j r TK.out hlt)
          have AHj := Lib.hid (AH.out j)
          obtain ⟨hba, hbb⟩ := PB.out j
          have BA := Lib.hid (fun o => BR.out.past ((Only.refl [] wr).alloc o))
          have OA := Lib.hid (fun o => OR.out.alloc o)
          generalize sP p j = a at *
          generalize sL p j = b at *
          generalize ahead p i j = A at *
          clear STEP SKIP AH FIN
          by_cases hji : j = i
          · have SK := Lib.hid (SKIPj.out (fun h => (AHj.out.1 h).1 hji))
            have hB : ((j : Int) != (i : Int)) = false := by rw [hji]; exact bne_self_eq_false _
            clear SKIPj STEPj hji
            go_wp2_with (refine wpList_load_mid rfl 111 (.tmp 43) rfl g5 (j * 2) rfl [.int .i64 a, .int .i64 b] _ RNG.out UC rfl IC ?_)
            go_roundg (n - (j + 1))
            case measure => have := HGK.out; omega
            case rel => exact ⟨j + 1, r, rfl, by omega, by go_num, SK.out, BA.out _, OA.out _⟩
          · have hB : ((j : Int) != (i : Int)) = true := bne_iff_ne.2 (by omega)
            by_cases ha : a = 0
            · subst ha
              have SK := Lib.hid (SKIPj.out (fun h => (AHj.out.1 h).2.1 rfl))
              clear SKIPj STEPj hji
              go_wp2_with (refine wpList_load_mid rfl 111 (.tmp 43) rfl g5 (j * 2) rfl [.int .i64 0, .int .i64 b] _ RNG.out UC rfl IC ?_)
              go_roundg (n - (j + 1))
              case measure => have := HGK.out; omega
              case rel => exact ⟨j + 1, r, rfl, by omega, by go_num, SK.out, BA.out _, OA.out _⟩
            · have xa0 := Blk.cellAlloc (.cells #[.int .i64 a, .int .i64 b] 111) x0
              have xa1 := Blk.cellAlloc (.cells #[.int .i64 a, .int .i64 b] 111) x1
              have haB : ((a : Int) != 0) = true := bne_iff_ne.2 (by omega)
              by_cases hlt2 : a < P
              · obtain ⟨q3, hq3⟩ : ∃ q, a + L = q := ⟨_, rfl⟩
                have ST := Lib.hid (STEPj.out (AHj.out.2 ⟨hji, ha, hlt2⟩))
                have e8 : (a : Int) + L = q3 := by omega
                have hl3 : (a : Int) < P := by omega
                rw [hq3] at ST
                have SET : Hid (∀ w1, Buf w1 gb c r → Calls Tryz.prog 79 #[.slice (some ⟨gb, 0, none⟩) 512 c, .int .i64 j, .agg #[.int .i64 q3, .int .i64 b]] w1 fun e w' => e = .returned (.tuple #[]) ∧ Buf w' gb c (setP r j q3 b) ∧ Only [gb] w1 w') := fun w1 h1 => set_any h1 j q3 b (by omega) (by omega) hbb
                clear SKIPj STEPj hji hq3 ha
                go_wp2_with (first | (refine wpList_load_mid rfl 111 (.tmp 43) rfl g5 (j * 2) rfl [.int .i64 a, .int .i64 b] _ RNG.out UC rfl IC ?_) | (go_at_call 79; refine (SET.out _ (BA.out _)).mono ?_; rintro e w7 ⟨rfl, hb7, hO7⟩; have B7 := Lib.hid hb7; have O7 := Lib.hid ((OA.out _).trans hO7 (fun x hx => .inl hx)); clear hb7 hO7))
                go_roundg (n - (j + 1))
                case measure => have := HGK.out; omega
                case rel => exact ⟨j + 1, _, rfl, by omega, by go_num, ST.out, B7.out, O7.out⟩
              · have SK := Lib.hid (SKIPj.out (fun h => hlt2 (AHj.out.1 h).2.2))
                have hl3 : ¬ (a : Int) < P := by omega
                have hl4 : (P : Int) ≤ a := by omega
                clear SKIPj STEPj hji
                go_wp2_with (refine wpList_load_mid rfl 111 (.tmp 43) rfl g5 (j * 2) rfl [.int .i64 a, .int .i64 b] _ RNG.out UC rfl IC ?_)
                go_roundg (n - (j + 1))
                case measure => have := HGK.out; omega
                case rel => exact ⟨j + 1, r, rfl, by omega, by go_num, SK.out, BA.out _, OA.out _⟩
        · obtain rfl : j = n := by omega
          have FI := Lib.hid (FIN.out r TK.out)
          have SET : Hid (∀ w1, Buf w1 gb c r → Calls Tryz.prog 79 #[.slice (some ⟨gb, 0, none⟩) 512 c, .int .i64 i, .agg #[.int .i64 0, .int .i64 0]] w1 fun e w' => e = .returned (.tuple #[]) ∧ Buf w' gb c (setP r i 0 0) ∧ Only [gb] w1 w') := fun w1 h1 => set_any h1 i 0 0 (by omega) (by omega) (by omega)
          have PU : Hid (∀ w1, Buf w1 gb c (setP r i 0 0) → Calls Tryz.prog 68 #[.slice (some ⟨gb, 0, none⟩) 512 c, .int .i64 8, .int .i64 q2] w1 fun e w' => e = .returned (.tuple #[]) ∧ Buf w' gb c (put (setP r i 0 0) 8 q2) ∧ Only [gb] w1 w') := fun w1 h1 => put_any h1 8 q2 (by omega) (by omega)
          have e2 : (bv : Int) + L = q2 := by omega
          clear STEP SKIP AH FIN TK START
          go_wp2_with (first | (go_at_call 79; refine (SET.out _ BR.out).mono ?_; rintro e w7 ⟨rfl, hb7, hO7⟩; have B7 := Lib.hid hb7; have O7 := Lib.hid (OR.out.trans hO7 (fun x hx => .inl hx)); have t0 := hO7.cell x0 (by simpa using CBC.out); have t1 := hO7.cell x1 (by simpa using CBC.out); clear hb7 hO7) | (go_at_call 68; refine (PU.out _ B7.out).mono ?_; rintro e w8 ⟨rfl, hb8, hO8⟩; have B8 := Lib.hid hb8; have O8 := Lib.hid (O7.out.trans hO8 (fun x hx => .inl hx)); clear hb8 hO8))
          go_end0
          exact ⟨rfl, _, B8.out, FI.out, (OC.out.mono (by simp)).trans O8.out (fun x hx => .inl hx)⟩
end Go.Proofs.YtfkmjbpnjgnkbaaGreat.G
