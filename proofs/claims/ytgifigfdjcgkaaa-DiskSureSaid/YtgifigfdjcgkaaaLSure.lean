/-
  The walk of DiskSure: the Go text answers true at every input; nothing that was there is changed.
-/
import Derived.Test.YtgifigfdjcgkaaaSureW
namespace Go.Proofs.Ytgifigfdjcgkaaa.D
open Go.RowKit
set_option linter.unusedVariables false

set_option maxRecDepth 100000 in
/-- Outside the bounds the law says nothing. -/
theorem sure_out (v : Value) (F : List UInt8) (v2 : Value) (Mo : List UInt8) (v3 : Value) (K : List Int) (w : World) (h : BytesAt w v F) (h2 : BytesAt w v2 Mo) (h3 : IntsAt w v3 K) (ho : F.length < 1 ∨ 30 < F.length ∨ 40 < Mo.length) :
    Calls Try.prog 3 #[v, v2, v3] w fun e w' => e = .returned (.bool true) ∧ Below w.heap.size w w' := by
  obtain ⟨ao, cap, rfl, _⟩ := h
  obtain ⟨ao2, cap2, rfl, _⟩ := h2
  obtain ⟨ao3, cap3, rfl, _⟩ := h3
  have HH := Lib.hid ho
  clear ho
  go_enter Try.func3, Try.ntmps3
  go_wp2_with (go_at_call 8; refine (known_yes _).mono ?_; rintro e w1 ⟨rfl, hb⟩; have HB := Lib.hid hb; clear hb)
  all_goals first | (go_ret; exact ⟨rfl, HB.out⟩) | (exfalso; have := HH.out; omega)

set_option maxRecDepth 100000 in
set_option maxHeartbeats 4000000 in
theorem sure_main (b o cap : Nat) (F : List UInt8) (v2 : Value) (Mo : List UInt8) (v3 : Value) (K : List Int) (w : World)
    (h : ∀ j, j < F.length → w.cell? ⟨b, o + j, none⟩ = some (.int .u8 (F.getD j 0).toNat)) (h2 : BytesAt w v2 Mo) (h3 : IntsAt w v3 K) (hF0 : 1 ≤ F.length) (hF1 : F.length ≤ 30) (hM : Mo.length ≤ 40) :
    Calls Try.prog 3 #[.slice (some ⟨b, o, none⟩) F.length cap, v2, v3] w fun e w' => e = .returned (.bool true) ∧ Below w.heap.size w w' := by
  obtain ⟨n, hn⟩ : ∃ n, F.length = n := ⟨_, rfl⟩
  obtain ⟨m, hm⟩ : ∃ m, Mo.length = m := ⟨_, rfl⟩
  have HF := Lib.hid h
  have H2 := Lib.hid h2
  have H3 := Lib.hid h3
  obtain ⟨ao2, cap2, rfl, hc2⟩ := h2
  obtain ⟨ao3, cap3, rfl, hc3⟩ := h3
  have HC2 := Lib.hid hc2
  have HC3 := Lib.hid hc3
  clear h hc2 hc3
  have hn' : 1 ≤ n ∧ n ≤ 30 := by omega
  have hm' : m ≤ 40 := by omega
  clear hF0 hF1 hM
  rw [hn] at HF ⊢
  rw [hm] at H2 HC2 ⊢
  have HN := Lib.hid hn
  have HM := Lib.hid hm
  clear hn hm
  have N : ∀ w, Calls Try.prog 9 #[.int .i64 n] w fun e w' => ∃ d M, e = .returned (.tuple #[.pointer (some ⟨d, 0, none⟩), .int .i64 0]) ∧ Disk w' d M (DS.fresh n) ∧ Step [] M w w' := fun w => Disk.new (n := n) (by omega) (by omega)
  have NN := Lib.hid N
  clear N
  have hn0 : (1 : Int) ≤ n := by omega
  have hn1 : (n : Int) ≤ 30 := by omega
  have hm1 : (m : Int) ≤ 40 := by omega
  go_enter Try.func3, Try.ntmps3
  go_wp2_with (go_at_call 8; refine (known_yes _).mono ?_; rintro e w1 ⟨rfl, hb⟩; have HB := Lib.hid hb; clear hb)
  refine (NN.out _).mono ?_
  rintro e w2 ⟨da, M2, rfl, hD2, hS2⟩
  have D2 := Lib.hid hD2
  have S2 := Lib.hid hS2
  clear hD2 hS2
  go_wp2_with fail
  refine (NN.out _).mono ?_
  rintro e w3 ⟨db, M3, rfl, hD3, hS3⟩
  have T3 := Lib.hid (Two.make D2.out S2.out hD3 hS3)
  clear hD3 hS3 D2 S2 NN
  go_wp2_with fail
  have HF1 : Hid (∀ j, j < n → w1.cell? ⟨b, o + j, none⟩ = some (.int .u8 (F.getD j 0).toNat)) := fun j hj => (Only.of_below HB.out []).cell (HF.out j hj) (by simp)
  have T4 : Hid (Two w1 w3 da db (stF F 0) (stF F 0) M2 M3) := by
    show Two _ _ _ _ _ _ _ _
    rw [← stF_zero, HN.out]; exact T3.out
  go_loopw [12] (fun i wr => ∃ (k : Nat) (Ma Mb : List Nat), k ≤ n ∧ i = .int .i64 k ∧ Two w1 wr da db (stF F k) (stF F k) Ma Mb) (fun i _ => n - (intOf i).toNat)
  case atStart => exact ⟨0, M2, M3, Nat.zero_le _, rfl, T4.out⟩
  case round =>
    obtain ⟨k, Ma, Mb, hk, rfl, hT⟩ := hrel
    have TT := Lib.hid hT
    clear hT
    have hk0 : (0 : Int) ≤ k := by omega
    by_cases hlt : k < n
    · have hk1 : (k : Int) < n := by omega
      have hwr : Hid ((stF F k).write k (sec (F.getD k 0) 512) = (stF F (k + 1), 0)) := stF_write F k (by rw [HN.out]; exact hlt)
      have hnum := Lib.hid (stF_num F k (by omega))
      have cF := TT.out.own.cell (HF1.out k hlt) (by simp)
      go_wp2_with fail
      refine (sector_at _ _).mono ?_
      rintro e w5 ⟨rfl, hb5, hO5⟩
      have T5 := Lib.hid (TT.out.past hO5)
      have B5 := Lib.hid hb5
      have V5 := Lib.hid (TT.out.a.newer (Nat.le_refl _))
      clear hb5 hO5
      go_wp2_with fail
      refine (T5.out.a.write' hwr.out hnum.out.1 hnum.out.2.1 hnum.out.2.2 (Blk.bytes B5.out (sec_len _ _).symm) (notIn rfl V5.out)).mono ?_
      rintro e w6 ⟨rfl, M6, hD6, hS6⟩
      have T6 := Lib.hid (T5.out.stepA hD6 hS6)
      clear hD6 hS6
      have cF := T6.out.own.cell (HF1.out k hlt) (by simp)
      go_wp2_with fail
      refine (sector_at _ _).mono ?_
      rintro e w7 ⟨rfl, hb7, hO7⟩
      have T7 := Lib.hid (T6.out.past hO7)
      have B7 := Lib.hid hb7
      have V7 := Lib.hid (T6.out.b.newer (Nat.le_refl _))
      clear hb7 hO7
      go_wp2_with fail
      refine (T7.out.b.write' hwr.out hnum.out.1 hnum.out.2.1 hnum.out.2.2 (Blk.bytes B7.out (sec_len _ _).symm) (notIn rfl V7.out)).mono ?_
      rintro e w8 ⟨rfl, M8, hD8, hS8⟩
      have T8 := Lib.hid (T7.out.stepB hD8 hS8)
      clear hD8 hS8
      go_wp2_with fail
      exact ⟨⟨k + 1, M6, M8, by omega, by go_num, T8.out⟩, by simp [intOf]; omega⟩
    · obtain rfl : k = n := by omega
      have hsy : Hid ((stF F k).sync = (stM F Mo 0, 0)) := by
        have := stF_sync F Mo
        rw [HN.out] at this; exact this
      have hnum := Lib.hid (stF_num F k (by omega))
      go_wp2_with fail
      refine (TT.out.a.sync' hsy.out hnum.out.1 hnum.out.2.1 (by have := hnum.out.2.2; omega)).mono ?_
      rintro e w5 ⟨rfl, M5, hD5, hS5⟩
      have T5 := Lib.hid (TT.out.stepA hD5 hS5)
      clear hD5 hS5
      go_wp2_with fail
      refine (T5.out.b.sync' hsy.out hnum.out.1 hnum.out.2.1 (by have := hnum.out.2.2; omega)).mono ?_
      rintro e w6 ⟨rfl, M6, hD6, hS6⟩
      have T6 := Lib.hid (T5.out.stepB hD6 hS6)
      clear hD6 hS6
      go_wp2_with fail
      clear hk hk0 hlt TT T5 hsy hnum
      go_loopw [15, 13] (fun i v wr => ∃ (j : Nat) (vs : List Value), j ≤ k ∧ i = .int .i64 j ∧ Two w1 wr da db (stM F Mo 0) (stM F Mo 0) M5 M6 ∧ wr.ownsRow 0 22 1 v j vs ∧ ByteRows 5 wr vs ((W0 F).take j) ∧ (∀ x, v.ownBlock = some x → w1.heap.size ≤ x)) (fun i _ _ => k - (intOf i).toNat)
      case atStart => exact ⟨0, [], Nat.zero_le _, rfl, T6.out, ⟨rfl, .inl ⟨rfl, rfl⟩⟩, ByteRows.nil _ _, fun x hx => by cases hx⟩
      case round =>
        obtain ⟨j, vs, hj, rfl, hT, hO, hB, hx⟩ := hrel
        have TT := Lib.hid hT
        have OW := Lib.hid hO
        have RR := Lib.hid hB
        have HX := Lib.hid hx
        clear hT hO hB hx
        have hj0 : (0 : Int) ≤ j := by omega
        have jsmall : Hid (j ≤ 16777216) := by show _ ≤ _; omega
        by_cases hlt : j < k
        · have hj1 : (j : Int) < k := by omega
          have cF := TT.out.own.cell (HF1.out j hlt) (by simp)
          go_wp2_with fail
          refine (sector_at _ _).mono ?_
          rintro e w7 ⟨rfl, hb7, hO7⟩
          have T7 := Lib.hid (TT.out.past hO7)
          have B7 := Lib.hid hb7
          have O7 := Lib.hid (owns_past OW.out hO7)
          have R7 := Lib.hid (RR.out.past hO7)
          clear hb7 hO7
          go_wp2_with (refine wpList_push rfl (.tmp 96) (.tmp 102) 32 rfl 22 Try.underlying32 (info_parts info_bytes) rfl u13 j vs rfl (owns_past O7.out ((Only.refl _ _).alloc _)) _ _ _ rfl (by exact (Blk.new _ _ _).cell 0) rfl (by exact jsmall.out) (by omega) ?_)
          intro g cp w8 hown hO8 hat hg
          have al : Only [] w7 (w7.alloc (.cells #[.slice (some ⟨wr.heap.size, 0, none⟩) 512 512] 22)) := (Only.refl _ _).alloc _
          have o8 := owns_past O7.out al
          have T8 := Lib.hid ((T7.out.past al).row o8 HX.out (by decide) (by decide) (by decide) (by decide) hO8)
          have B8 := hO8.blk (al.blk B7.out (by simp)) (fun hm => owns_foot o8 (t := 5) (by decide) _ hm _ (al.blk B7.out (by simp)))
          have R8 := Lib.hid ((((R7.out.past al).off hO8 (owns_foot o8 (by decide))).snoc (B8.byteRow (sec_len _ _) (by unfold maxLen; omega))).to (W0_step F j (by rw [HN.out]; exact hlt)).symm)
          have X8 : Hid (∀ x, (Value.slice (some ⟨g, 0, none⟩) (j + 1) cp).ownBlock = some x → w1.heap.size ≤ x) := fun x hx => by
            simp only [Value.ownBlock, Option.some.injEq] at hx
            subst hx
            rcases hat with hat | rfl
            · exact HX.out _ hat
            · have := T7.out.own.size; simp; omega
          have O8 := Lib.hid hown
          clear al o8 B8 hO8 hown hat hg
          go_wp2_with fail
          exact ⟨⟨j + 1, _, by omega, by go_num, T8.out, O8.out, R8.out, X8.out⟩, by simp [intOf]; omega⟩
        · obtain rfl : j = k := by omega
          obtain ⟨gw, cw, rfl, _, hgw⟩ := OW.out.form (by omega)
          obtain ⟨cur, hbw, hcl, htk, hle⟩ := owns_blk OW.out
          have hwz := RR.out.to (show (W0 F).take j = want F Mo K 0 by rw [want_zero, List.take_of_length_le (by rw [W0_len, HN.out]; exact Nat.le_refl _)])
          have RW := Lib.hid hwz
          have CW : Hid (∀ i u, vs[i]? = some u → wr.cell? ⟨gw, 0 + i, none⟩ = some u) := fun i u hu => by
            rw [Nat.zero_add, hbw.cell]
            rw [← htk, List.getElem?_take] at hu
            split at hu
            · exact hu
            · cases hu
          have VL : Hid (vs.length = j) := OW.out.1.trans (Nat.mul_one _)
          have OC := Lib.hid RR.out.oneCell
          have GW := Lib.hid (HX.out gw rfl)
          have GL := Lib.hid hgw
          clear hbw hcl htk hle hwz hgw
          go_wp2_with (refine wpList_clone rfl (.const (.slice none 0 0)) (.tmp 104) 32 rfl 22 Try.underlying32 (info_parts info_bytes) rfl rfl gw 0 j cw vs rfl VL.out CW.out OC.out (by omega) (by omega) (by omega) ?_)
          intro cf w7 hown hO7 hg7
          have T7 := Lib.hid (TT.out.past hO7)
          have R7 : Hid (Rows3 w1 w7 j 0 gw cw wr.heap.size cf (.slice none 0 0) vs vs (want F Mo K 0) (full F Mo 0)) :=
            ⟨owns_past OW.out hO7, hown, RW.out.past hO7, RW.out.past hO7, ⟨rfl, .inl ⟨rfl, rfl⟩⟩, by have := GL.out; omega, GW.out, TT.out.own.size, fun x hx => by cases hx⟩
          generalize wr.heap.size = w7g at *
          clear hO7 hown hg7 OC CW VL RW GW GL HX RR OW TT
          go_wp2_with fail
          go_loopw [17, 14] (fun i va wr => ∃ (q : Nat) (Ma Mb : List Nat) (ws fs : List Value), q ≤ m ∧ i = .int .i64 q ∧ Two w1 wr da db (stM F Mo q) (stM F Mo q) Ma Mb ∧ Rows3 w1 wr j q gw cw w7g cf va ws fs (want F Mo K q) (full F Mo q)) (fun i _ _ => m - (intOf i).toNat)
          case atStart => exact ⟨0, M5, M6, vs, vs, Nat.zero_le _, rfl, T7.out, R7.out⟩
          case round =>
            obtain ⟨q, Ma, Mb, ws, fs, hq, rfl, hT, hR⟩ := hrel
            have TT := Lib.hid hT
            have RR := Lib.hid hR
            clear hT hR T7 R7
            have hq0 : (0 : Int) ≤ q := by omega
            by_cases hlt : q < m
            · have hq1 : (q : Int) < m := by omega
              obtain ⟨b2, o2, rfl, hc2⟩ := HC2.out (by omega)
              have HC2' := Lib.hid hc2
              have cM := TT.out.own.cell ((Only.of_below HB.out []).cell (hc2 q hlt) (by simp)) (by simp)
              clear hc2
              obtain ⟨x, hx⟩ : ∃ x, Mo.getD q 0 = x := ⟨_, rfl⟩
              rw [hx] at cM
              obtain ⟨A, hA⟩ : ∃ A, x.toNat % j = A := ⟨_, rfl⟩
              have hwr : Hid ((stM F Mo q).write A (sec (x + 1) 512) = (stM F Mo (q + 1), 0)) := by
                have := stM_write F Mo q (by rw [HN.out]; omega) (by rw [HM.out]; exact hlt)
                rw [hx, HN.out, hA] at this; exact this
              have hnum := Lib.hid (stM_num F Mo q (by rw [HN.out]; omega) (by rw [HM.out]; omega) (by rw [HM.out]; omega))
              have hmod := at_mod x j
              rw [hA] at hmod
              have hnx := u8_next x
              obtain ⟨y, hy⟩ : ∃ y, x + 1 = y := ⟨_, rfl⟩
              rw [hy] at hwr hnx
              have HY := Lib.hid hy
              clear hy
              have HX := Lib.hid hx
              have HAA := Lib.hid hA
              have hA0 : (0 : Int) ≤ A := by omega
              have hA1 : (A : Int) < j := by have := Nat.mod_lt x.toNat (by omega : 0 < j); omega
              clear hx hA
              go_wp2_with fail
              refine (sector_at y _).mono ?_
              rintro e w8 ⟨rfl, hb8, hO8⟩
              have T8 := Lib.hid (TT.out.past hO8)
              have R8 := Lib.hid (RR.out.past hO8)
              have B8 := Lib.hid hb8
              have V8 := Lib.hid (TT.out.a.newer (Nat.le_refl _))
              have V8b := Lib.hid (TT.out.b.newer (Nat.le_refl _))
              clear hb8 hO8 cM TT RR
              generalize wr.heap.size = sg at *
              go_wp2_with fail
              refine (T8.out.a.write' hwr.out hnum.out.1 hnum.out.2.1 hnum.out.2.2 (Blk.bytes B8.out (sec_len _ _).symm) (notIn rfl V8.out)).mono ?_
              rintro e w9 ⟨rfl, M9, hD9, hS9⟩
              have T9 := Lib.hid (T8.out.stepA hD9 hS9)
              have F9 := T8.out.a.far hS9
              have R9 := Lib.hid (R8.out.far F9)
              have B9 := Lib.hid (F9.blk B8.out)
              clear hD9 hS9 F9
              go_wp2_with fail
              refine (T9.out.b.write' hwr.out hnum.out.1 hnum.out.2.1 hnum.out.2.2 (Blk.bytes B9.out (sec_len _ _).symm) (notIn rfl V8b.out)).mono ?_
              rintro e w10 ⟨rfl, M10, hD10, hS10⟩
              have T10 := Lib.hid (T9.out.stepB hD10 hS10)
              have F10 := T9.out.b.far hS10
              have R10 := Lib.hid (R9.out.far F10)
              have B10 := Lib.hid (F10.blk B9.out)
              clear hD10 hS10 F10 T8 R8 B8 T9 R9 B9 V8 V8b hwr hnum hmod hnx
              have hAj : A < j := by omega
              have HAJ := Lib.hid hAj
              have HL5 : Hid (((want F Mo K q).getD A []).length = 512) := want_sec F Mo K (by rw [HN.out]; omega) q A (by rw [want_len, HN.out]; exact hAj)
              have HL6 : Hid (((full F Mo q).getD A []).length = 512) := full_sec F Mo q A (by rw [full_len, HN.out]; exact hAj)
              have HW : Hid (want F Mo K (q + 1) = (want F Mo K q).set A (tear ((want F Mo K q).getD A []) (sec y 512) (kept K q))) := by
                show want F Mo K (q + 1) = _
                rw [want, HX.out, HN.out, HAA.out, HY.out]
              have HFu : Hid (full F Mo (q + 1) = (full F Mo q).set A (sec y 512)) := by
                show full F Mo (q + 1) = _
                rw [full, HX.out, HN.out, HAA.out, HY.out]
              obtain ⟨gx, cx, cw10, fw10, rx, _⟩ := rows_cell R10.out.ow R10.out.wr hAj (by rw [want_len]; exact HN.out) HL5.out
              have CXS := Lib.hid rx.src
              clear rx hAj fw10
              by_cases hkq : q < K.length
              · have hkq' : (q : Int) < K.length := by omega
                obtain ⟨b3, o3, rfl, hc3⟩ := HC3.out (by omega)
                have cK := T10.out.own.cell ((Only.of_below HB.out []).cell (hc3 q hkq) (by simp)) (by simp)
                clear hc3
                obtain ⟨mj, hmj⟩ : ∃ mj, (if (512 : Int) < K.getD q 0 then 512 else K.getD q 0) = mj := ⟨_, rfl⟩
                have hp1 := kept_if K q mj hmj
                have hp2 : kept K q ≤ 512 := by unfold kept; omega
                obtain ⟨p, hp⟩ : ∃ p, kept K q = p := ⟨_, rfl⟩
                rw [hp] at hp1 hp2 HW
                have HPL := Lib.hid hp2
                obtain ⟨kj, hkj⟩ : ∃ kj, K.getD q 0 = kj := ⟨_, rfl⟩
                rw [hkj] at cK hmj
                have hq2 : (0 : Int) ≤ p := by omega
                have hq3 : (p : Int) ≤ 512 := by omega
                have T1 : Hid ((u8s ((sec y 512).take p)).length = Nat.min p 512) := by
                  show _ = _
                  rw [length_u8s, List.length_take, sec_len]
                clear hp hkj

                go_wp2_with (refine wpList_clone rfl _ _ _ rfl 5 Try.underlying22 (info_parts info_byte) rfl rfl gx 0 512 cx (u8s ((want F Mo K q).getD A [])) rfl (by rw [length_u8s]; exact HL5.out) CXS.out (u8s_oneCell _) (by omega) (by omega) (by omega) ?_)
                intro ccp w11 hown hO11 hg11
                have OWN11 := Lib.hid hown
                have O11 := Lib.hid hO11
                have B11 := Lib.hid (hO11.blk B10.out (by simp))
                clear hown hO11 hg11
                go_wp2_with (refine wpList_copy_owned rfl _ _ _ _ rfl 5 Try.underlying22 size_byte w10.heap.size 512 ccp (u8s ((want F Mo K q).getD A [])) (by exact OWN11.out) _ p _ rfl rfl (u8s ((sec y 512).take p)) (by exact T1.out) (by exact fun _ => ⟨_, rfl, fun i v hv => B11.out.add_cell i v (take_get (by rw [← u8s_take]; exact hv))⟩) (u8s_oneCell _) ?_)
                intro w12 hown hO12
                have hO := O11.out.trans hO12 (by simp)
                have C12 : Hid (ByteRow 5 w12 (.slice (some ⟨w10.heap.size, 0, none⟩) 512 ccp) (tear ((want F Mo K q).getD A []) (sec y 512) p)) := by
                  have hl := tear_len (p := p) HL5.out (sec_len y 512)
                  show World.ownsRow _ _ _ _ _ _ _
                  rw [hl]
                  refine cast ?_ hown
                  congr 1 <;> simp only [tear, u8s_append, u8s_drop, sec_len, List.getD_eq_getElem?_getD, List.take_zero, List.drop_zero, Nat.zero_min, Nat.min_eq_left HPL.out, List.nil_append, show u8s [] = [] from rfl, List.length_take, length_u8s]
                have T12 := Lib.hid (T10.out.past hO)
                have R12 := Lib.hid (R10.out.past hO)
                have B12 := Lib.hid (hO.blk B10.out (by simp))
                clear hown hO12 hO OWN11 O11 B11 T10 CXS
                obtain ⟨gy, cy, cW, fW, _, _⟩ := rows_cell R12.out.ow R12.out.wr HAJ.out (by rw [want_len]; exact HN.out) HL5.out
                obtain ⟨gz, cz, cF, fF, _, _⟩ := rows_cell R12.out.ofl R12.out.fr HAJ.out (by rw [full_len]; exact HN.out) HL6.out
                have hne := R12.out.ne
                have hne' := R12.out.ne.symm
                have B13 := (only_set w12 gw A (.slice (some ⟨w10.heap.size, 0, none⟩) 512 ccp)).blk B12.out (by
                  obtain ⟨cur, hbw, _⟩ := owns_blk R12.out.ow
                  simp only [List.mem_cons, List.not_mem_nil, or_false]
                  exact B12.out.ne hbw (by decide))
                have r13 := R12.out.setW A HAJ.out C12.out
                have R14 := Lib.hid (r13.setF A HAJ.out (B13.byteRow (sec_len y 512) (by unfold maxLen; omega)))
                have T14 := Lib.hid ((T12.out.set R12.out.ow R12.out.ngw A (.slice (some ⟨w10.heap.size, 0, none⟩) 512 ccp)).set r13.ofl r13.ngf A (.slice (some ⟨sg, 0, none⟩) 512 512))
                rw [← HW.out, ← HFu.out] at R14
                have QS : Hid (q ≤ 16777216) := by show _ ≤ _; omega
                clear r13 B13 R12 T12 B12 C12 R10 B10
                go_wp2_with (refine wpList_push rfl (.tmp 165) (.tmp 166) 23 rfl 3 Try.underlying23 (info_parts info_int) rfl u14 q (List.replicate q (.int .i64 512)) rfl (owns_past R14.out.oa ((Only.refl _ _).alloc (.cells #[.int .i64 512] 3))) _ _ (.int .i64 512) rfl (by exact (Blk.new' #[.int .i64 512] 3 _ (by simp)).cell 0) rfl (by exact QS.out) (by omega) ?_)
                intro g cp w15 hown hO15 hat hg
                have al : Only [] _ _ := (Only.refl [] ((w12.setCell ⟨gw, A, none⟩ (.slice (some ⟨w10.heap.size, 0, none⟩) 512 ccp)).setCell ⟨w7g, A, none⟩ (.slice (some ⟨sg, 0, none⟩) 512 512))).alloc (.cells #[.int .i64 512] 3)
                have T15 := Lib.hid ((T14.out.past al).row (owns_past R14.out.oa al) R14.out.na (by decide) (by decide) (by decide) (by decide) hO15)
                have R15 := Lib.hid ((R14.out.past al).push hO15 hown (by simpa using hat) (T14.out.past al).own.size)
                clear al hown hO15 hat hg T14 R14 cW cF fW fF
                go_wp2_with fail
                exact ⟨⟨q + 1, M9, M10, _, _, by omega, by go_num, T15.out, R15.out⟩, by simp [intOf]; omega⟩
              · have hkq' : (K.length : Int) ≤ q := by omega
                have HW0 : Hid (kept K q = 0) := by
                  show kept K q = 0
                  unfold kept
                  rw [List.getD_eq_getElem?_getD, List.getElem?_eq_none (by omega)]
                  decide
                rw [HW0.out] at HW
                have HPL : Hid (0 ≤ 512) := by show 0 ≤ 512; omega
                have T1 : Hid ((u8s ((sec y 512).take 0)).length = Nat.min 0 512) := by
                  show _ = _
                  rw [length_u8s, List.length_take, sec_len]

                go_wp2_with (refine wpList_clone rfl _ _ _ rfl 5 Try.underlying22 (info_parts info_byte) rfl rfl gx 0 512 cx (u8s ((want F Mo K q).getD A [])) rfl (by rw [length_u8s]; exact HL5.out) CXS.out (u8s_oneCell _) (by omega) (by omega) (by omega) ?_)
                intro ccp w11 hown hO11 hg11
                have OWN11 := Lib.hid hown
                have O11 := Lib.hid hO11
                have B11 := Lib.hid (hO11.blk B10.out (by simp))
                clear hown hO11 hg11
                go_wp2_with (refine wpList_copy_owned rfl _ _ _ _ rfl 5 Try.underlying22 size_byte w10.heap.size 512 ccp (u8s ((want F Mo K q).getD A [])) (by exact OWN11.out) _ 0 _ rfl rfl (u8s ((sec y 512).take 0)) (by exact T1.out) (by exact fun _ => ⟨_, rfl, fun i v hv => B11.out.add_cell i v (take_get (by rw [← u8s_take]; exact hv))⟩) (u8s_oneCell _) ?_)
                intro w12 hown hO12
                have hO := O11.out.trans hO12 (by simp)
                have C12 : Hid (ByteRow 5 w12 (.slice (some ⟨w10.heap.size, 0, none⟩) 512 ccp) (tear ((want F Mo K q).getD A []) (sec y 512) 0)) := by
                  have hl := tear_len (p := 0) HL5.out (sec_len y 512)
                  show World.ownsRow _ _ _ _ _ _ _
                  rw [hl]
                  refine cast ?_ hown
                  congr 1 <;> simp only [tear, u8s_append, u8s_drop, sec_len, List.getD_eq_getElem?_getD, List.take_zero, List.drop_zero, Nat.zero_min, Nat.min_eq_left HPL.out, List.nil_append, show u8s [] = [] from rfl, List.length_take, length_u8s]
                have T12 := Lib.hid (T10.out.past hO)
                have R12 := Lib.hid (R10.out.past hO)
                have B12 := Lib.hid (hO.blk B10.out (by simp))
                clear hown hO12 hO OWN11 O11 B11 T10 CXS
                obtain ⟨gy, cy, cW, fW, _, _⟩ := rows_cell R12.out.ow R12.out.wr HAJ.out (by rw [want_len]; exact HN.out) HL5.out
                obtain ⟨gz, cz, cF, fF, _, _⟩ := rows_cell R12.out.ofl R12.out.fr HAJ.out (by rw [full_len]; exact HN.out) HL6.out
                have hne := R12.out.ne
                have hne' := R12.out.ne.symm
                have B13 := (only_set w12 gw A (.slice (some ⟨w10.heap.size, 0, none⟩) 512 ccp)).blk B12.out (by
                  obtain ⟨cur, hbw, _⟩ := owns_blk R12.out.ow
                  simp only [List.mem_cons, List.not_mem_nil, or_false]
                  exact B12.out.ne hbw (by decide))
                have r13 := R12.out.setW A HAJ.out C12.out
                have R14 := Lib.hid (r13.setF A HAJ.out (B13.byteRow (sec_len y 512) (by unfold maxLen; omega)))
                have T14 := Lib.hid ((T12.out.set R12.out.ow R12.out.ngw A (.slice (some ⟨w10.heap.size, 0, none⟩) 512 ccp)).set r13.ofl r13.ngf A (.slice (some ⟨sg, 0, none⟩) 512 512))
                rw [← HW.out, ← HFu.out] at R14
                have QS : Hid (q ≤ 16777216) := by show _ ≤ _; omega
                clear r13 B13 R12 T12 B12 C12 R10 B10
                go_wp2_with (refine wpList_push rfl (.tmp 165) (.tmp 166) 23 rfl 3 Try.underlying23 (info_parts info_int) rfl u14 q (List.replicate q (.int .i64 512)) rfl (owns_past R14.out.oa ((Only.refl _ _).alloc (.cells #[.int .i64 512] 3))) _ _ (.int .i64 512) rfl (by exact (Blk.new' #[.int .i64 512] 3 _ (by simp)).cell 0) rfl (by exact QS.out) (by omega) ?_)
                intro g cp w15 hown hO15 hat hg
                have al : Only [] _ _ := (Only.refl [] ((w12.setCell ⟨gw, A, none⟩ (.slice (some ⟨w10.heap.size, 0, none⟩) 512 ccp)).setCell ⟨w7g, A, none⟩ (.slice (some ⟨sg, 0, none⟩) 512 512))).alloc (.cells #[.int .i64 512] 3)
                have T15 := Lib.hid ((T14.out.past al).row (owns_past R14.out.oa al) R14.out.na (by decide) (by decide) (by decide) (by decide) hO15)
                have R15 := Lib.hid ((R14.out.past al).push hO15 hown (by simpa using hat) (T14.out.past al).own.size)
                clear al hown hO15 hat hg T14 R14 cW cF fW fF
                go_wp2_with fail
                exact ⟨⟨q + 1, M9, M10, _, _, by omega, by go_num, T15.out, R15.out⟩, by simp [intOf]; omega⟩
            · obtain rfl : q = m := by omega
              have hRa : Hid ((stM F Mo q).restart K = stR F Mo (want F Mo K q)) := by
                have := restart_want F Mo K (by rw [HN.out]; omega)
                rw [HM.out] at this; exact this
              have hRb : Hid ((stM F Mo q).restart (List.replicate q 512) = stR F Mo (full F Mo q)) := by
                have := restart_full F Mo (by rw [HN.out]; omega)
                rw [HM.out] at this; exact this
              have hnum := Lib.hid (stM_num F Mo q (by rw [HN.out]; omega) (by rw [HM.out]; exact Nat.le_refl _) (by rw [HM.out]; omega))
              have KI := Lib.hid (H3.out.past (Only.of_below HB.out []))
              clear T6 HC2 HC3 hq0 hlt hq
              obtain ⟨ao4, cap4, rfl, _⟩ := owns_shape RR.out.oa
              go_wp2_with fail
              refine (TT.out.a.restart0 (by have := hnum.out.2.2; omega) (KI.out.past TT.out.own) (fun h0 => ints_old KI.out h0 TT.out.na)).mono ?_
              rw [hRa.out]
              rintro e w8 ⟨rfl, M8, hD8, hS8⟩
              have T8 := Lib.hid (TT.out.stepA hD8 hS8)
              have R8 := Lib.hid (RR.out.far (TT.out.a.far hS8))
              clear hD8 hS8 TT RR
              go_wp2_with fail
              refine (T8.out.b.restart0 (by have := hnum.out.2.2; omega) (all_ints R8.out.oa) (fun _ => ints_off R8.out.oa T8.out.offB)).mono ?_
              rw [hRb.out]
              rintro e w9 ⟨rfl, M9, hD9, hS9⟩
              have T9 := Lib.hid (T8.out.stepB hD9 hS9)
              have R9 := Lib.hid (R8.out.far (T8.out.b.far hS9))
              clear hD9 hS9 T8 R8 hRa hRb hnum KI
              go_wp2_with fail
              go_loopw [22] (fun i wr => ∃ k : Nat, k ≤ j ∧ i = .int .i64 k ∧ Two w1 wr da db (stR F Mo (want F Mo K q)) (stR F Mo (full F Mo q)) M8 M9 ∧ Rows3 w1 wr j q gw cw w7g cf (.slice ao4 q cap4) ws fs (want F Mo K q) (full F Mo q)) (fun i _ => j - (intOf i).toNat)
              case atStart => exact ⟨0, Nat.zero_le _, rfl, T9.out, R9.out⟩
              case round =>
                obtain ⟨k, hk, rfl, hT, hR⟩ := hrel
                have TT := Lib.hid hT
                have RR := Lib.hid hR
                clear hT hR T9 R9
                have hk0 : (0 : Int) ≤ k := by omega
                have hRE : Hid (∀ W : List Sector, W.length = j → k < j → (stR F Mo W).read k = (W.getD k [], 0)) := fun W hW hk => stR_read F Mo W k (by rw [hW]; exact hk)
                by_cases hlt : k < j
                · have hk1 : (k : Int) < j := by omega
                  have LW : Hid ((want F Mo K q).length = j) := (want_len F Mo K q).trans HN.out
                  have LF : Hid ((full F Mo q).length = j) := (full_len F Mo q).trans HN.out
                  have RA := Lib.hid (TT.out.a.read' (hRE.out _ LW.out hlt))
                  go_wp2_with fail
                  refine RA.out.mono ?_
                  rintro e w10 ⟨v1, rfl, hv1, hO10⟩
                  have T10 := Lib.hid (TT.out.past hO10)
                  have R10 := Lib.hid (RR.out.past hO10)
                  have V10 := Lib.hid hv1.at
                  clear hv1 hO10 TT RR RA
                  have RB := Lib.hid (T10.out.b.read' (hRE.out _ LF.out hlt))
                  go_wp2_with fail
                  refine RB.out.mono ?_
                  rintro e w11 ⟨v2, rfl, hv2, hO11⟩
                  have T11 := Lib.hid (T10.out.past hO11)
                  have R11 := Lib.hid (R10.out.past hO11)
                  have V11 := Lib.hid (V10.out.past hO11)
                  have V11' := Lib.hid hv2.at
                  clear hv2 hO11 T10 R10 V10 RB
                  obtain ⟨gx, cx, cW, fW, _, bW⟩ := rows_cell R11.out.ow R11.out.wr hlt LW.out (want_sec F Mo K (by rw [HN.out]; omega) q k (by rw [LW.out]; exact hlt))
                  obtain ⟨gy, cy, cF, fF, _, bF⟩ := rows_cell R11.out.ofl R11.out.fr hlt LF.out (full_sec F Mo q k (by rw [LF.out]; exact hlt))
                  have BW := Lib.hid bW
                  have BF := Lib.hid bF
                  clear bW bF fW fF
                  go_wp2_with fail
                  have hbt := bytes_any V11.out BW.out
                  rw [show ((want F Mo K q).getD k [] == (want F Mo K q).getD k []) = true from beq_self_eq_true _] at hbt
                  refine hbt.mono ?_
                  rintro e w' ⟨rfl, rfl⟩
                  clear hbt
                  go_wp2_with fail
                  have hbt := bytes_any V11'.out BF.out
                  rw [show ((full F Mo q).getD k [] == (full F Mo q).getD k []) = true from beq_self_eq_true _] at hbt
                  refine hbt.mono ?_
                  rintro e w' ⟨rfl, rfl⟩
                  clear hbt
                  go_wp2_with fail
                  exact ⟨⟨k + 1, by omega, by go_num, T11.out, R11.out⟩, by simp [intOf]; omega⟩
                · obtain rfl : k = j := by omega
                  have PA : Hid (Calls Try.prog 16 #[.pointer (some ⟨da, 0, none⟩)] wr fun e w' => e = .returned (.int .i64 0) ∧ wr = w') := TT.out.a.pending
                  have PB : Hid (Calls Try.prog 16 #[.pointer (some ⟨db, 0, none⟩)] wr fun e w' => e = .returned (.int .i64 0) ∧ wr = w') := TT.out.b.pending
                  go_wp2_with fail
                  refine PA.out.mono ?_
                  rintro e w' ⟨rfl, rfl⟩
                  go_wp2_with fail
                  refine PB.out.mono ?_
                  rintro e w' ⟨rfl, rfl⟩
                  go_wp2_with fail
                  go_ret
                  exact ⟨rfl, HB.out.trans (TT.out.own.below HB.out.size (by simp))⟩

theorem sure_walk {W : World} (v : Value) (F : List UInt8) (h : BytesAt W v F) (v2 : Value) (Mo : List UInt8) (h2 : BytesAt W v2 Mo) (v3 : Value) (K : List Int) (h3 : IntsAt W v3 K) :
    Calls Try.prog 3 #[v, v2, v3] W fun e w' => e = .returned (.bool true) ∧ Below W.heap.size W w' := by
  by_cases ho : F.length < 1 ∨ 30 < F.length ∨ 40 < Mo.length
  · exact sure_out v F v2 Mo v3 K W h h2 h3 ho
  · obtain ⟨ao, cap, rfl, hc⟩ := h
    obtain ⟨b, o, rfl, hc2⟩ := hc (by omega)
    exact sure_main b o cap F v2 Mo v3 K W hc2 h2 h3 (by omega) (by omega) (by omega)
end Go.Proofs.Ytgifigfdjcgkaaa.D
