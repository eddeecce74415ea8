/-
  PageKeeps, walked: it answers true.
-/
import Derived.Test.YtdgnndcnpmlifaaLKeepsA
import Derived.Test.YtdgnndcnpmlifaaQuietC
namespace Go.Proofs.Ytdgnndcnpmlifaa.G
set_option linter.unusedSimpArgs false
open Go Go.RowKit Go.Proofs.Ytdgnndcnpmlifaa.B Go.Proofs.Ytdgnndcnpmlifaa.C
set_option linter.unusedVariables false
set_option maxRecDepth 100000 in
set_option maxHeartbeats 16000000 in
theorem keeps_main {w : World} {v : Value} {l : List StepD} (hl : StepsAt w v l) (hf : fewB l = true) :
    Calls Try.prog 5 #[v] w fun e w' => e = .returned (.bool true) ∧ Below w.heap.size w w' := by
  have NW : Hid (∀ w1, Calls Try.prog 9 #[.int .u8 7] w1 fun e w' => ∃ gb c, e = .returned (.slice (some ⟨gb, 0, none⟩) 512 c) ∧ Buf w' gb c (newP 7) ∧ w1.heap.size ≤ gb ∧ Only [] w1 w') := fun w1 => new_any 7
  have HK0 : Hid (Keep (newP 7) [] []) := keep_new (new_fresh 7)
  generalize newP 7 = p0 at *
  have FW : Hid (∀ w1, Only [] w w1 → Calls Try.prog 15 #[v] w1 fun e w' => e = .returned (.bool true) ∧ w1 = w') := fun w1 hO => by
    have := few_any (hl.past hO)
    rw [hf] at this
    exact this
  have FE : Hid (∀ i, i < l.length → (l.getD i stepZ).cell.length ≤ 600) := (few_yes.1 hf).2
  have hmn : l.length ≤ 160 := (few_yes.1 hf).1
  obtain ⟨ao, cap, rfl, hm, hc⟩ := hl
  have HC := Lib.hid hc
  generalize l.length = n at *
  clear hc hm hf
  go_enter Try.func5, Try.ntmps5
  go_wp2_with (first
    | (go_at_call 8; refine (known_any w).mono ?_; rintro e w1 ⟨rfl, hO1⟩; have O1 := Lib.hid hO1; clear hO1)
    | (go_at_call 15; refine (FW.out _ O1.out).mono ?_; rintro e w3 ⟨rfl, rfl⟩)
    | (go_at_call 9; refine (NW.out _).mono ?_; rintro e w2 ⟨gb, c, rfl, hb2, hg2, hO2⟩; have M2 := Lib.hid (Mine.mk' hb2 (Nat.le_trans O1.out.size hg2) (O1.out.trans hO2 (by simp))); clear hb2 hg2 hO2))
  go_loopg [3, 4, 5, 6] n (fun gk s3 s4 s5 s6 wx => ∃ (j : Nat) (p : List UInt8) (cs : List (List UInt8)) (th : List Bool), gk = n - j ∧ j ≤ n ∧ s6 = .int .i64 j ∧ Held w wx s3 s4 s5 p cs th)
  case atStart => exact ⟨0, p0, [], [], rfl, Nat.zero_le _, rfl, M2.out, HK0.out, ⟨rfl, .inl ⟨rfl, rfl⟩⟩, ⟨rfl, .inl ⟨rfl, rfl⟩⟩, fun k hk => by simp [Value.ownBlock] at hk, fun k hk => by simp [Value.ownBlock] at hk⟩
  case round =>
    obtain ⟨j, p, cs, th, hgk, hj, rfl, hheld⟩ := hrel
    have HGK := Lib.hid hgk
    have HE := Lib.hid hheld
    obtain ⟨gb, cb, rfl, -, -⟩ := hheld.mine.is
    obtain ⟨ac, cc, rfl⟩ := owns_form hheld.rc
    obtain ⟨at_, ct_, rfl⟩ := owns_form hheld.rt
    have hcl := hheld.keep.most
    have SOME : Hid (0 < cs.length → (∃ g, ac = some ⟨g, 0, none⟩) ∧ ∃ g, at_ = some ⟨g, 0, none⟩) := fun h0 => by
      obtain ⟨g, c, he, _⟩ := owns_some hheld.rc h0
      obtain ⟨g2, c2, he2, _⟩ := owns_some hheld.rt h0
      simp only [Value.slice.injEq, true_and] at he he2
      exact ⟨⟨g, he.1⟩, g2, he2.1⟩
    clear hgk hheld M2 O1 NW HK0
    by_cases hlt : j < n
    · have i0 : (0 : Int) ≤ j := by omega
      have i1 : (j : Int) < n := by omega
      obtain ⟨sb, so, rfl, hst⟩ := HC.out (by omega)
      obtain ⟨kv, hk⟩ := hst j hlt
      have hst0 := hk
      have hk := hk.past HE.out.only
      have hcell := FE.out j hlt
      have KS := Lib.hid hk
      have hs := hk.slot
      obtain ⟨ak, kc, rfl, _⟩ := hk.bytes.1
      have RNG : Hid (wr.rangeAt sb (so + j * 3) (stepCells (l.getD j stepZ) (.slice ak (l.getD j stepZ).cell.length kc))) := fun i v hv => by
        have hi : i < 3 := by
          rcases Nat.lt_or_ge i 3 with h | h
          · exact h
          · rw [List.getElem?_eq_none (by simp [stepCells]; exact h)] at hv; cases hv
        rw [hk.cells i hi, hv]
      clear hst hk
      generalize l.getD j stepZ = s at *
      obtain ⟨what, slot, cell⟩ := s
      have US := Try.underlying36
      have IS : (Try.prog.info? 36).map (·.size) = some 3 := by kernel_rfl
      simp only [stepCells] at RNG hs hcell
      have KB := Lib.hid KS.out.bytes
      simp only at KB
      have KB0 := Lib.hid hst0.bytes.1
      simp only at KB0
      clear hst0
      clear KS
      generalize hkl : cell.length = kl at *
      have HKL := Lib.hid hkl
      clear hkl
      go_upto_region 12 with (refine wpList_load_mid rfl 36 (.tmp 35) rfl sb (so + j * 3) rfl [.int .i64 what, .int .i64 slot, .slice ak kl kc] _ RNG.out US rfl IS ?_)
      obtain ⟨W1, hW1⟩ : ∃ x, x = wr.alloc (.cells #[.int .i64 what, .int .i64 slot, .slice ak kl kc] 36) := ⟨_, rfl⟩
      have HE1 : Hid (Held w W1 (.slice (some ⟨gb, 0, none⟩) 512 cb) (.slice ac cs.length cc) (.slice at_ cs.length ct_) p cs th) := by rw [hW1]; exact HE.out.past ((Only.refl _ _).alloc _)
      have B7 : Hid (Blk W1 wr.heap.size [.int .i64 what, .int .i64 slot, .slice ak kl kc] 36) := by rw [hW1]; exact Blk.new _ _ _
      have KB1 : Hid (BytesAt W1 (.slice ak kl kc) cell) := by rw [hW1]; exact bytes_past KB.out.1 ((Only.refl _ _).alloc _)
      rw [← hW1]
      clear hW1 HE KB RNG
      obtain ⟨sp, hsp⟩ : ∃ x, wr.heap.size = x := ⟨_, rfl⟩
      rw [hsp] at B7 ⊢
      clear hsp
      have y0 := B7.out.cell 0
      have y1 := B7.out.cell 1
      have y2 := B7.out.cell 2
      simp only [List.getElem?_cons_succ, List.getElem?_cons_zero] at y0 y1 y2
      obtain ⟨inB, hinB⟩ : ∃ b : Bool, (b = true ↔ inK cs th slot) := by
        classical
        exact ⟨decide (inK cs th slot), by simp⟩
      have HIN := Lib.hid hinB
      go_cut [8] (fun s8 wx => s8 = .bool inB ∧ wx = W1)
      case first => as_aux_lemma =>
        by_cases h1 : slot < 0
        · obtain rfl : inB = false := by rw [Bool.eq_false_iff]; exact fun h => by have := (hinB.1 h).1; omega
          clear hinB
          go_wp2_with fail
          go_meet
          case rel => exact ⟨rfl, rfl⟩
        · by_cases h2 : slot < cs.length
          · obtain ⟨k, rfl⟩ : ∃ k : Nat, slot = k := ⟨slot.toNat, by omega⟩
            have hk : k < cs.length := by omega
            have hk0 : (0 : Int) ≤ k := by omega
            obtain ⟨⟨gc, rfl⟩, gt, rfl⟩ := SOME.out (by omega)
            have z0 := HE1.out.rt.cellAt k (by omega)
            rw [bools_get (by rw [HE1.out.keep.len]; exact hk)] at z0
            have e1 : inB = th.getD k false := by
              rw [Bool.eq_iff_iff, hinB]
              exact ⟨fun h => by simpa using h.2.2, fun h => ⟨by omega, by omega, by simpa using h⟩⟩
            rw [← e1] at z0
            clear hinB e1 h1
            go_wp2_with fail
            go_meet
            case rel => exact ⟨rfl, rfl⟩
          · obtain rfl : inB = false := by rw [Bool.eq_false_iff]; exact fun h => by have := (hinB.1 h).2.1; omega
            clear hinB
            go_wp2_with fail
            go_meet
            case rel => exact ⟨rfl, rfl⟩
      case rest =>
        obtain ⟨rfl, rfl⟩ := hcut
        obtain ⟨fitB, hfitB⟩ : ∃ b : Bool, (b = true ↔ 1 ≤ kl ∧ kl ≤ 400) := ⟨decide (1 ≤ kl ∧ kl ≤ 400), by simp⟩
        have HFIT := Lib.hid hfitB
        go_upto_region 13 with fail
        go_cut [9] (fun s9 wx => s9 = .bool fitB ∧ wx = wc)
        case first => as_aux_lemma =>
          by_cases h1 : 1 ≤ kl
          · have k1 : (1 : Int) ≤ kl := by omega
            by_cases h2 : kl ≤ 400
            · have k2 : (kl : Int) ≤ 400 := by omega
              obtain rfl : fitB = true := hfitB.2 ⟨h1, h2⟩
              clear hfitB hinB
              go_wp2_with fail
              go_meet
              case rel => exact ⟨rfl, rfl⟩
            · have k2 : ¬ (kl : Int) ≤ 400 := by omega
              obtain rfl : fitB = false := by rw [Bool.eq_false_iff]; exact fun h => h2 (hfitB.1 h).2
              clear hfitB hinB
              go_wp2_with fail
              go_meet
              case rel => exact ⟨rfl, rfl⟩
          · have k1 : ¬ (1 : Int) ≤ kl := by omega
            obtain rfl : fitB = false := by rw [Bool.eq_false_iff]; exact fun h => h1 (hfitB.1 h).1
            clear hfitB hinB
            go_wp2_with fail
            go_meet
            case rel => exact ⟨rfl, rfl⟩
        case rest =>
          obtain ⟨rfl, rfl⟩ := hcut
          clear hfitB hinB
          go_upto_block 2 with fail
          generalize wc = W1 at *
          have hsl := hs
          go_cut [3, 4, 5] (fun s3 s4 s5 wx => ∃ (p' : List UInt8) (cs' : List (List UInt8)) (th' : List Bool), Held w wx s3 s4 s5 p' cs' th')
          case first =>
            by_cases h3 : what = 3
            · subst h3
              by_cases hE : repE p slot cell = 0
              · as_aux_lemma =>
                obtain ⟨hp, k, rfl, hk, hk0, l1, l2, l3⟩ := repE_ok hE
                obtain ⟨j1, j2, j3⟩ := (HE1.out.keep.getE k).1 (getE_of hp hk hk0)
                have j3 : th.getD k false = true := by simpa using j3
                obtain rfl : inB = true := HIN.out.2 ⟨j1, j2, by simpa using j3⟩
                obtain rfl : fitB = true := HFIT.out.2 ⟨by rw [← HKL.out]; exact l1, by rw [← HKL.out]; exact l2⟩
                have hkc : k < cs.length := by omega
                obtain ⟨⟨gc, rfl⟩, gt, rfl⟩ := SOME.out (by omega)
                have RP : Hid (Calls Try.prog 18 #[.slice (some ⟨gb, 0, none⟩) 512 cb, .int .i64 k, .slice ak kl kc] W1 fun e w' => ∃ gb' c' r, e = .returned (.tuple #[.slice (some ⟨gb', 0, none⟩) 512 c', .int .i64 0]) ∧ Mine w w' (.slice (some ⟨gb', 0, none⟩) 512 c') r ∧ Keep r (cs.set k cell) th ∧ Only [] W1 w') := by
                  refine (replace_yes HE1.out.mine.c KB1.out hp hk hk0 l1 l2 l3).mono ?_
                  rintro e w' ⟨gb', c', r, he, hr, hb, hg, hO⟩
                  exact ⟨gb', c', r, he, .mk' hb (Nat.le_trans HE1.out.only.size hg) (HE1.out.only.trans hO (by simp)), HE1.out.keep.rep hkc j3 l1 l2 l3 hr, hO⟩
                have z0 := HE1.out.rc.cellAt k (by omega)
                rw [strs_get hkc] at z0
                generalize cs.getD k [] = old at *
                have HKC := Lib.hid hkc
                clear hE hp hk hk0 l1 l2 l3 j1 j3 hs hsl hkc
                go_wp2_with (go_at_call 18; refine RP.out.mono ?_; rintro e w3 ⟨gb', c', r, rfl, hm3, hk3, hO3⟩; have M3 := Lib.hid hm3; have K3 := Lib.hid hk3; have H3 := Lib.hid (HE1.out.past hO3); have y1' := hO3.cell y1 (by simp); have y2' := hO3.cell y2 (by simp); have z0' := hO3.cell z0 (by simp); obtain ⟨cur3, hcur3, -⟩ := owns_blk H3.out.rc; have f0 := hcur3.frozen k; have cv := bytes_string (bytes_past KB1.out hO3); clear hm3 hk3 hO3 hcur3)
                go_meet
                case rel => exact ⟨r, cs.set k cell, th, H3.out.setC M3.out HKC.out K3.out⟩
              · as_aux_lemma =>
                have REP := Lib.hid hE
                obtain ⟨zr, hzr⟩ : ∃ z, repE p slot cell = z := ⟨_, rfl⟩
                have RN := Lib.hid (replace_no HE1.out.mine.c KB1.out slot hs hzr (by rw [← hzr]; exact hE))
                rw [hzr] at hE
                clear hsl hzr
                have zI : ¬ (zr : Int) = 0 := by omega
                have zB : ((zr : Int) == 0) = false := beq_eq_false_iff_ne.2 zI
                clear hE
                cases hIB : inB with
                | false =>
                  subst hIB
                  go_wp2_with (go_at_call 18; refine RN.out.mono ?_; rintro e w3 ⟨rfl, hO3⟩; have H3 := Lib.hid (HE1.out.past hO3); have y1' := hO3.cell y1 (by simp); have y2' := hO3.cell y2 (by simp); clear hO3)
                  go_quiet (fail)
                  go_wp2_with fail
                  go_meet
                  case rel => exact ⟨p, cs, th, H3.out.past ((Only.refl [] _).drewN _)⟩
                | true =>
                  subst hIB
                  cases hFB : fitB with
                  | false =>
                    subst hFB
                    go_wp2_with (go_at_call 18; refine RN.out.mono ?_; rintro e w3 ⟨rfl, hO3⟩; have H3 := Lib.hid (HE1.out.past hO3); have y1' := hO3.cell y1 (by simp); have y2' := hO3.cell y2 (by simp); clear hO3)
                    go_quiet (fail)
                    go_wp2_with fail
                    go_meet
                    case rel => exact ⟨p, cs, th, H3.out.past ((Only.refl [] _).drewN _)⟩
                  | true =>
                    subst hFB
                    obtain ⟨j1, j2, j3⟩ := HIN.out.1 rfl
                    obtain ⟨l1, l2⟩ := HFIT.out.1 rfl
                    obtain ⟨k, rfl⟩ : ∃ k : Nat, slot = k := ⟨slot.toNat, by omega⟩
                    have j3 : th.getD k false = true := by simpa using j3
                    have hkc : k < cs.length := by omega
                    obtain ⟨⟨gc, rfl⟩, gt, rfl⟩ := SOME.out (by omega)
                    have z0 := HE1.out.rc.cellAt k (by omega)
                    rw [strs_get hkc] at z0
                    have hnle : ¬ kl ≤ (cs.getD k []).length := fun hx => REP.out (HE1.out.keep.repE hkc j3 (by rw [HKL.out]; exact l1) (by rw [HKL.out]; exact l2) (by rw [HKL.out]; exact hx))
                    have hsz : (⟨(cs.getD k []).toArray⟩ : ByteArray).size = (cs.getD k []).length := rfl
                    rw [← hsz] at hnle
                    clear hsz
                    generalize (⟨(cs.getD k []).toArray⟩ : ByteArray) = sv at *
                    have i5 : ¬ (kl : Int) ≤ (sv.size : Nat) := by omega
                    have i6 : ((sv.size : Nat) : Int) < kl := by omega
                    have i7 : (0 : Int) ≤ k := by omega
                    have i8 : (k : Int) < cs.length := by omega
                    clear hnle l1 l2 j3 REP
                    go_wp2_with (go_at_call 18; refine RN.out.mono ?_; rintro e w3 ⟨rfl, hO3⟩; have H3 := Lib.hid (HE1.out.past hO3); have y1' := hO3.cell y1 (by simp); have y2' := hO3.cell y2 (by simp); have z0' := hO3.cell z0 (by simp); clear hO3)
                    go_quiet (fail)
                    go_wp2_with fail
                    go_meet
                    case rel => exact ⟨p, cs, th, H3.out.past ((Only.refl [] _).drewN _)⟩
            · by_cases h4 : what = 4
              · subst h4
                by_cases hin : inK cs th slot
                · as_aux_lemma =>
                  have hE := (HE1.out.keep.getE slot).2 hin
                  obtain ⟨hp, k, rfl, hk, hk0⟩ := getE_ok hE
                  obtain rfl : inB = true := HIN.out.2 hin
                  obtain ⟨j1, j2, j3⟩ := hin
                  have j3 : th.getD k false = true := by simpa using j3
                  have hkc : k < cs.length := by omega
                  obtain ⟨⟨gc, rfl⟩, gt, rfl⟩ := SOME.out (by omega)
                  have DL : Hid (Calls Try.prog 12 #[.slice (some ⟨gb, 0, none⟩) 512 cb, .int .i64 k] W1 fun e w' => ∃ gb' c' r, e = .returned (.tuple #[.slice (some ⟨gb', 0, none⟩) 512 c', .int .i64 0]) ∧ Mine w w' (.slice (some ⟨gb', 0, none⟩) 512 c') r ∧ Keep r cs (th.set k false) ∧ Only [] W1 w') := by
                    refine (delete_yes HE1.out.mine.c hp hk hk0).mono ?_
                    rintro e w' ⟨gb', c', r, he, hr, hb, hg, hO⟩
                    exact ⟨gb', c', r, he, .mk' hb (Nat.le_trans HE1.out.only.size hg) (HE1.out.only.trans hO (by simp)), HE1.out.keep.del hkc j3 hr, hO⟩
                  have z0 := HE1.out.rt.cellAt k (by omega)
                  rw [bools_get (by rw [HE1.out.keep.len]; exact hkc), j3] at z0
                  have HKC := Lib.hid hkc
                  clear hE hp hk hk0 j1 j3 hs hsl hkc
                  go_wp2_with (go_at_call 12; refine DL.out.mono ?_; rintro e w3 ⟨gb', c', r, rfl, hm3, hk3, hO3⟩; have M3 := Lib.hid hm3; have K3 := Lib.hid hk3; have H3 := Lib.hid (HE1.out.past hO3); have y1' := hO3.cell y1 (by simp); have z0' := hO3.cell z0 (by simp); obtain ⟨cur3, hcur3, -⟩ := owns_blk H3.out.rt; have f0 := hcur3.frozen k; clear hm3 hk3 hO3 hcur3)
                  go_meet
                  case rel => exact ⟨r, cs, th.set k false, H3.out.setT M3.out HKC.out K3.out⟩
                · as_aux_lemma =>
                  obtain rfl : inB = false := by rw [Bool.eq_false_iff]; exact fun h => hin (HIN.out.1 h)
                  have DN := Lib.hid (delete_no HE1.out.mine.c slot hs (HE1.out.keep.getE_no hin) (by decide))
                  clear hin
                  go_wp2_with (go_at_call 12; refine DN.out.mono ?_; rintro e w3 ⟨rfl, hO3⟩; have H3 := Lib.hid (HE1.out.past hO3); clear hO3)
                  go_meet
                  case rel => exact ⟨p, cs, th, H3.out⟩
              · as_aux_lemma =>
                have hB3 : (what == 3) = false := beq_eq_false_iff_ne.2 h3
                have hB4 : (what == 4) = false := beq_eq_false_iff_ne.2 h4
                clear h3 h4
                go_wp2_with fail
                go_loopg [14] (cs.length + 1) (fun gk s14 wx => ∃ f : Nat, gk = cs.length + 1 - f ∧ f ≤ cs.length ∧ s14 = .int .i64 f ∧ (∀ k, k < f → th.getD k false = true) ∧ wx = W1)
                case atStart => exact ⟨0, rfl, Nat.zero_le _, rfl, fun k hk => by omega, rfl⟩
                case round =>
                  obtain ⟨f, hgk, hf, rfl, hall, hwx⟩ := hrel
                  subst hwx
                  have HGK2 := Lib.hid hgk
                  have HALL := Lib.hid hall
                  clear hgk hall
                  obtain ⟨z, hz⟩ : ∃ z : Bool, (z = true ↔ f < cs.length ∧ th.getD f false = true) := by
                    classical
                    exact ⟨decide (f < cs.length ∧ th.getD f false = true), by simp⟩
                  have HZ := Lib.hid hz
                  have hf0 : (0 : Int) ≤ f := by omega
                  go_upto_region 16 with fail
                  generalize wr = W2 at *
                  go_cut [75] (fun s75 wx => s75 = .bool z ∧ wx = W2)
                  case first => as_aux_lemma =>
                    by_cases hfl : f < cs.length
                    · have hf1 : (f : Int) < cs.length := by omega
                      obtain ⟨⟨gc, rfl⟩, gt, rfl⟩ := SOME.out (by omega)
                      have z0 := HE1.out.rt.cellAt f (by omega)
                      rw [bools_get (by rw [HE1.out.keep.len]; exact hfl)] at z0
                      have e1 : z = th.getD f false := by
                        rw [Bool.eq_iff_iff, hz]
                        exact ⟨fun h => h.2, fun h => ⟨hfl, h⟩⟩
                      rw [← e1] at z0
                      clear hz e1
                      go_wp2_with fail
                      go_meet
                      case rel => exact ⟨rfl, rfl⟩
                    · have hf1 : ¬ (f : Int) < cs.length := by omega
                      obtain rfl : z = false := by rw [Bool.eq_false_iff]; exact fun h => hfl (hz.1 h).1
                      clear hz
                      go_wp2_with fail
                      go_meet
                      case rel => exact ⟨rfl, rfl⟩
                  case rest =>
                    obtain ⟨rfl, rfl⟩ := hcut
                    clear hz
                    cases z with
                    | true =>
                      go_wp2_with fail
                      go_roundg (cs.length + 1 - (f + 1))
                      case measure => have := HGK2.out; omega
                      case rel =>
                        have h12 : f < cs.length ∧ th.getD f false = true := by simpa using HZ.out
                        obtain ⟨h1, h2⟩ := h12
                        refine ⟨f + 1, rfl, by omega, by go_num, fun k hk => ?_, rfl⟩
                        by_cases hkf : k = f
                        · rw [hkf]; exact h2
                        · exact HALL.out k (by omega)
                    | false =>
                      have HFS : Hid (freeS p = f) := HE1.out.keep.free (fun k hk => ⟨by omega, HALL.out k hk⟩) (fun h => by have := HZ.out.2 h; cases this)
                      by_cases hE : insE p cell = 0
                      · have hins := insE_ok hE
                        obtain rfl : fitB = true := HFIT.out.2 (by rw [← HKL.out]; exact ⟨hins.2.1, hins.2.2.1⟩)
                        have h125 : f ≠ 125 := by rw [← HFS.out]; exact hins.2.2.2.2
                        have KI : Hid (∀ cs' th', (f < cs.length ∧ cs' = cs ∧ th' = th) ∨ (f = cs.length ∧ cs' = cs ++ [[]] ∧ th' = th ++ [false]) → Keep (insP p cell) (cs'.set f cell) (th'.set f true)) := fun cs' th' h => HE1.out.keep.ins hE HFS.out h
                        have IN : Hid (Calls Try.prog 10 #[.slice (some ⟨gb, 0, none⟩) 512 cb, .slice ak kl kc] wc fun e w' => ∃ gb' c', e = .returned (.tuple #[.slice (some ⟨gb', 0, none⟩) 512 c', .int .i64 (f : Nat), .int .i64 0]) ∧ Mine w w' (.slice (some ⟨gb', 0, none⟩) 512 c') (insP p cell) ∧ Only [] wc w') := by
                          refine (insert_yes HE1.out.mine.c KB1.out hE).mono ?_
                          rintro e w' ⟨gb', c', he, hb, hg, hO⟩
                          rw [HFS.out] at he
                          exact ⟨gb', c', he, .mk' hb (Nat.le_trans HE1.out.only.size hg) (HE1.out.only.trans hO (by simp)), hO⟩
                        clear hE hins hs hsl
                        go_upto_if 98 with (go_at_call 10; refine IN.out.mono ?_; rintro e w3 ⟨gb', c', rfl, hm3, hO3⟩; have M3 := Lib.hid hm3; have H3 := Lib.hid (HE1.out.past hO3); have B3 := Lib.hid (hO3.blk B7.out (by simp)); clear hm3 hO3)
                        go_cut [4, 5] (fun s4 s5 wx => ∃ (cs' : List (List UInt8)) (th' : List Bool), f < cs'.length ∧ Held w wx (.slice (some ⟨gb, 0, none⟩) 512 cb) s4 s5 p cs' th' ∧ Mine w wx (.slice (some ⟨gb', 0, none⟩) 512 c') (insP p cell) ∧ Keep (insP p cell) (cs'.set f cell) (th'.set f true) ∧ Blk wx sp [.int .i64 what, .int .i64 slot, .slice ak kl kc] 36)
                        case first => as_aux_lemma =>
                          by_cases hfl : f < cs.length
                          · have KK := Lib.hid (KI.out cs th (.inl ⟨hfl, rfl, rfl⟩))
                            have hf1 : ¬ (f : Int) = cs.length := by omega
                            have hf2 : ((f : Int) == (cs.length : Nat)) = false := beq_eq_false_iff_ne.2 hf1
                            have HFL := Lib.hid hfl
                            clear hfl
                            go_wp2_with fail
                            go_meet
                            case rel => exact ⟨cs, th, HFL.out, H3.out, M3.out, KK.out, B3.out⟩
                          · have hfe : f = cs.length := by omega
                            have KK := Lib.hid (KI.out _ _ (.inr ⟨hfe, rfl, rfl⟩))
                            have hl125 : cs.length < 125 := by omega
                            have HLEN : Hid (f < (cs ++ [([] : List UInt8)]).length) := by show _ < _; simp; omega
                            have RC3 := Lib.hid H3.out.rc
                            have RT3 := Lib.hid H3.out.rt
                            have HFE := Lib.hid hfe
                            have hf2 : ((f : Int) == (cs.length : Nat)) = true := beq_iff_eq.2 (by omega)
                            clear hfl hfe h125 KI
                            go_wp2_with (first
                              | (refine wpList_grow rfl (.tmp 99) (.tmp 100) 39 rfl 9 Try.underlying39 (info_parts info_string) rfl (by omega) (.slice ac cs.length cc) cs.length (strs cs) rfl (by exact owns_past RC3.out ((Only.refl _ _).alloc _)) (some ⟨w3.heap.size, 0, none⟩) 1 1 rfl [.string ⟨#[]⟩] rfl (fun _ => ⟨_, rfl, fun j u hj => (Blk.new [.string ⟨#[]⟩] 9 w3).add_cell j u hj⟩) (by intro u hu; simp at hu; subst hu; rfl) (by omega) (by decide) ?_; intro v4 w4 hg4; have G4 := Lib.hid (hg4.pre ((Only.refl [] w3).alloc (.cells #[.string ⟨#[]⟩] 9))); obtain ⟨a4, c4, rfl⟩ := hg4.shape; clear hg4)
                              | (refine wpList_grow rfl (.tmp 102) (.tmp 103) 40 rfl 4 Try.underlying40 (info_parts info_bool) rfl (by omega) (.slice at_ cs.length ct_) cs.length (bools th) rfl (by exact owns_past (owns_off RT3.out G4.out.only (owns_foot RC3.out (by decide))) ((Only.refl _ _).alloc _)) (some ⟨w4.heap.size, 0, none⟩) 1 1 rfl [.bool false] rfl (fun _ => ⟨_, rfl, fun j u hj => (Blk.new [.bool false] 4 w4).add_cell j u hj⟩) (by intro u hu; simp at hu; subst hu; rfl) (by omega) (by decide) ?_; intro v5 w5 hg5; have G5 := Lib.hid (hg5.pre ((Only.refl [] w4).alloc (.cells #[.bool false] 4))); obtain ⟨a5, c5, rfl⟩ := hg5.shape; clear hg5))
                            go_meet
                            case rel => exact ⟨cs ++ [[]], th ++ [false], HLEN.out, H3.out.grow hl125 G4.out G5.out, M3.out.grow H3.out.rc H3.out.rt H3.out.nc H3.out.nt G4.out G5.out, KK.out, grow_far H3.out.rc H3.out.rt G4.out G5.out B3.out (by decide) (by decide)⟩
                        case rest => as_aux_lemma =>
                          obtain ⟨cs2, th2, hfl, hH, hM, hK, hB⟩ := hcut
                          obtain ⟨a4, c4, rfl⟩ := owns_form hH.rc
                          obtain ⟨a5, c5, rfl⟩ := owns_form hH.rt
                          obtain ⟨g4, _, he4, _⟩ := owns_some hH.rc (by omega)
                          obtain ⟨g5, _, he5, _⟩ := owns_some hH.rt (by omega)
                          simp only [Value.slice.injEq, true_and] at he4 he5
                          obtain ⟨rfl, -⟩ := he4
                          obtain ⟨rfl, -⟩ := he5
                          have q2 := hB.cell 2
                          simp only [List.getElem?_cons_succ, List.getElem?_cons_zero] at q2
                          have cv := bytes_string (bytes_past KB0.out hH.only)
                          have z1 := hH.rc.cellAt f (by omega)
                          rw [strs_get hfl] at z1
                          obtain ⟨u1, hu1, -⟩ := owns_blk hH.rc
                          obtain ⟨u2, hu2, -⟩ := owns_blk hH.rt
                          have f1 := hu1.frozen f
                          have z2 := hH.rt.cellAt f (by omega)
                          rw [bools_get (by rw [hH.keep.len]; exact hfl)] at z2
                          have hne := hu2.ne hu1 (by decide)
                          have z2' := (only_set wc g4 f (.string ⟨cell.toArray⟩)).cell z2 (by simpa using hne)
                          have f2' := (hu2.far (a := ⟨g4, f, none⟩) (.string ⟨cell.toArray⟩) hne).frozen f
                          have hf1 : (f : Int) < cs2.length := by omega
                          have FIN := Lib.hid (hH.setBoth hM hfl hK)
                          generalize cs2.getD f [] = oc at *
                          generalize th2.getD f false = ob at *
                          clear hH hM hK hB hu1 hu2 hfl KI H3 M3 B3
                          go_wp2_with fail
                          go_meet
                          case rel => exact ⟨_, _, _, FIN.out⟩
                      · have REP := Lib.hid hE
                        obtain ⟨zr, hzr⟩ : ∃ z, insE p cell = z := ⟨_, rfl⟩
                        have IN := Lib.hid (insert_no HE1.out.mine.c KB1.out hzr (by rw [← hzr]; exact hE))
                        rw [hzr] at hE
                        have zI : ¬ (zr : Int) = 0 := by omega
                        have zB : ((zr : Int) == 0) = false := beq_eq_false_iff_ne.2 zI
                        clear hE hzr
                        cases hFB : fitB with
                        | false =>
                          subst hFB
                          go_wp2_with (go_at_call 10; refine IN.out.mono ?_; rintro e w3 ⟨rfl, hO3⟩; have H3 := Lib.hid (HE1.out.past hO3); have y2' := hO3.cell y2 (by simp); clear hO3)
                          go_quiet (fail)
                          go_wp2_with fail
                          go_meet
                          case rel => exact ⟨p, cs, th, H3.out.past ((Only.refl [] _).drewN _)⟩
                        | true =>
                          subst hFB
                          obtain ⟨l1, l2⟩ := HFIT.out.1 rfl
                          obtain ⟨k4, hk4⟩ : ∃ k, kl + 4 = k := ⟨_, rfl⟩
                          have e4 : IntKind.i64.wrap ((kl : Int) + 4) = k4 := by simp [IntKind.wrap_i64]; omega
                          have FR : Hid (∀ w4, Held w w4 (.slice (some ⟨gb, 0, none⟩) 512 cb) (.slice ac cs.length cc) (.slice at_ cs.length ct_) p cs th → ∀ x : Later w4, Calls Try.prog 11 #[.slice (some ⟨gb, 0, none⟩) 512 cb] x.v fun e w' => e = .returned (.int .i64 (freeB p : Nat)) ∧ ∃ y : Later w4, w' = y.v) := fun w4 h4 x => Calls.later (fun w5 hO => by
                            have := freef_any (h4.past hO).mine.c
                            rw [free_ok h4.keep.pg] at this
                            exact this) x
                          have HIE : Hid (k4 ≤ freeB p → ¬ f < 125) := fun h1 h2 => REP.out (HE1.out.keep.insE HFS.out (by rw [HKL.out]; exact l1) (by rw [HKL.out]; exact l2) (by rw [HKL.out]; omega) h2)
                          generalize freeB p = fr at *
                          clear hk4 l1 l2
                          by_cases hfr : k4 ≤ fr
                          · have i5 : (k4 : Int) ≤ fr := by omega
                            have i6 : ¬ (f : Int) < 125 := by have := HIE.out hfr; omega
                            clear HIE hfr
                            go_wp2_with (go_at_call 10; refine IN.out.mono ?_; rintro e w3 ⟨rfl, hO3⟩; have H3 := Lib.hid (HE1.out.past hO3); have y2' := hO3.cell y2 (by simp); have FR3 := Lib.hid (FR.out _ H3.out); clear hO3)
                            have Y2 := Later.cell y2'
                            refine wp_region_later (Only.refl _ _) (by kernel_rfl) (by kernel_rfl) ?_
                            repeat (go_big_quiet_step ((go_at_call 11; exact FR3.out _)))
                            refine wpQuiet_nil ?_
                            rintro _ ⟨xq, rfl⟩
                            go_wp2_with fail
                            go_meet
                            case rel => exact ⟨p, cs, th, H3.out.past xq.h⟩
                          · have i5 : ¬ (k4 : Int) ≤ fr := by omega
                            have i6 : decide ((k4 : Int) ≤ (fr : Int)) = false := decide_eq_false i5
                            have i7 : ¬ k4 ≤ fr := hfr
                            have i8 : fr < k4 := by omega
                            have i9 : decide (k4 ≤ fr) = false := decide_eq_false hfr
                            clear HIE hfr
                            go_wp2_with (go_at_call 10; refine IN.out.mono ?_; rintro e w3 ⟨rfl, hO3⟩; have H3 := Lib.hid (HE1.out.past hO3); have y2' := hO3.cell y2 (by simp); have FR3 := Lib.hid (FR.out _ H3.out); clear hO3)
                            have Y2 := Later.cell y2'
                            refine wp_region_later (Only.refl _ _) (by kernel_rfl) (by kernel_rfl) ?_
                            repeat (go_big_quiet_step ((go_at_call 11; exact FR3.out _)))
                            refine wpQuiet_nil ?_
                            rintro _ ⟨xq, rfl⟩
                            go_wp2_with fail
                            go_meet
                            case rel => exact ⟨p, cs, th, H3.out.past xq.h⟩
          case rest => as_aux_lemma =>
            obtain ⟨p2, cs2, th2, hH⟩ := hcut
            have HH := Lib.hid hH
            obtain ⟨gb2, cb2, rfl, -, -⟩ := hH.mine.is
            obtain ⟨a4, c4, rfl⟩ := owns_form hH.rc
            obtain ⟨a5, c5, rfl⟩ := owns_form hH.rt
            have hcl2 := hH.keep.most
            have SOME2 : Hid (0 < cs2.length → (∃ g, a4 = some ⟨g, 0, none⟩) ∧ ∃ g, a5 = some ⟨g, 0, none⟩) := fun h0 => by
              obtain ⟨g, c, he, _⟩ := owns_some hH.rc h0
              obtain ⟨g2, c2, he2, _⟩ := owns_some hH.rt h0
              simp only [Value.slice.injEq, true_and] at he he2
              exact ⟨⟨g, he.1⟩, g2, he2.1⟩
            clear hH HE1 KB1 KB0 B7 SOME HIN HFIT y0 y1 y2 hcl hs hcell
            go_wp2_with fail
            go_loopg [18] cs2.length (fun gk s18 wx => ∃ k : Nat, gk = cs2.length - k ∧ k ≤ cs2.length ∧ s18 = .int .i64 k ∧ Only [] wc wx)
            case atStart => exact ⟨0, rfl, Nat.zero_le _, rfl, Only.refl _ _⟩
            case round =>
              obtain ⟨k, hgk, hk, rfl, hO⟩ := hrel
              have HGK2 := Lib.hid hgk
              have OO := Lib.hid hO
              have HW := Lib.hid (HH.out.past hO)
              clear hgk hO
              by_cases hlt : k < cs2.length
              · have i5 : (k : Int) < cs2.length := by omega
                have i6 : (0 : Int) ≤ k := by omega
                obtain ⟨⟨gc, rfl⟩, gt, rfl⟩ := SOME2.out (by omega)
                have z0 := HW.out.rt.cellAt k (by omega)
                rw [bools_get (by rw [HW.out.keep.len]; exact hlt)] at z0
                by_cases ht : th2.getD k false = true
                · rw [ht] at z0
                  obtain ⟨k1, k2, k3, k4⟩ := HW.out.keep.is hlt ht
                  have GT := Lib.hid (get_yes HW.out.mine.c HW.out.keep.pg k1 k2)
                  rw [← k4] at GT
                  have z1 := HW.out.rc.cellAt k (by omega)
                  rw [strs_get hlt] at z1
                  generalize cs2.getD k [] = cc2 at *
                  clear k1 k2 k3 k4 ht
                  go_wp2_with (go_at_call 16; refine GT.out.mono ?_; rintro e w5 ⟨v5, rfl, ho⟩; have z0' := ho.2.2.cell z0 (by simp); have z1' := ho.2.2.cell z1 (by simp); have cv := bytes_string ho.1.at; have O5 := Lib.hid (OO.out.trans ho.2.2 (by simp)); have BV := Lib.hid ho.1.at; clear ho)
                  have CV := Lib.hid (fun (y : Later w5) => bytes_string (bytes_past BV.out y.h))
                  have Z0 := Later.cell z0'
                  have Z1 := Later.cell z1'
                  refine wp_region_later (Only.refl _ _) (by kernel_rfl) (by kernel_rfl) ?_
                  repeat (first
                    | (go_big_quiet_want; refine quiet_conv 23 9 (.tmp 212) rfl (.string ⟨cc2.toArray⟩) (by rintro _ ⟨y, rfl⟩; exact CV.out y) ?_; go_big_quiet_on; simp only [Act.put, List.setIfInBounds_toArray, List.set_cons_succ, List.set_cons_zero])
                    | go_big_quiet_step (fail))
                  refine wpQuiet_nil ?_
                  rintro _ ⟨xq, rfl⟩
                  go_wp2_with fail
                  go_roundg (cs2.length - (k + 1))
                  case measure => have := HGK2.out; omega
                  case rel => exact ⟨k + 1, rfl, by omega, by go_num, O5.out.trans xq.h (by simp)⟩
                · have ht : th2.getD k false = false := by simpa using ht
                  rw [ht] at z0
                  have GN := Lib.hid (get_no HW.out.mine.c k (by omega) (HW.out.keep.getE_no (fun hx => by have := hx.2.2; rw [Int.toNat_natCast, ht] at this; cases this)) (by decide))
                  clear ht
                  go_wp2_with (go_at_call 16; refine GN.out.mono ?_; rintro e w5 ⟨rfl, hO5⟩; have z0' := hO5.cell z0 (by simp); have O5 := Lib.hid (OO.out.trans hO5 (by simp)); clear hO5)
                  go_quiet (fail)
                  go_wp2_with fail
                  go_roundg (cs2.length - (k + 1))
                  case measure => have := HGK2.out; omega
                  case rel => exact ⟨k + 1, rfl, by omega, by go_num, O5.out.drewN _⟩
              · obtain rfl : k = cs2.length := by omega
                go_wp2_with fail
                go_roundg (n - (j + 1))
                case measure => have := HGK.out; omega
                case rel => exact ⟨j + 1, p2, cs2, th2, rfl, by omega, by go_num, HW.out⟩
    · obtain rfl : j = n := by omega
      go_wp2_with fail
      go_ret
      exact ⟨rfl, HE.out.only.below (Nat.le_refl _) (by simp)⟩
end Go.Proofs.Ytdgnndcnpmlifaa.G
