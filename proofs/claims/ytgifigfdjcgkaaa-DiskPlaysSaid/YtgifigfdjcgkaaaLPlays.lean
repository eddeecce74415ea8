/-
  The walk of DiskPlays.
-/
import Derived.Test.YtgifigfdjcgkaaaPlaysA
import Derived.Test.YtgifigfdjcgkaaaPlaysM
import Derived.Test.YtgifigfdjcgkaaaGrow
import Derived.Deep.CutBlock
namespace Go.Proofs.Ytgifigfdjcgkaaa.D
set_option linter.unusedSimpArgs false
open Go.RowKit
set_option linter.unusedVariables false
theorem read_len {w : World} {d : Nat} {M : List Nat} {s : DS} (h : Disk w d M s) (i : Int) : (s.read i).1.length ≤ 512 := by
  unfold DS.read
  split
  · simp
  · split
    · simp
    · next h1 h2 => exact Nat.le_of_eq (h.secLen.1 i.toNat (by omega))
theorem what_cases (x : Int) : x = 0 ∨ x = 1 ∨ x = 2 ∨ x = 3 ∨ x = 4 ∨ x = 5 ∨ x = 6 ∨ x = 7 ∨ ((x == 0) = false ∧ (x == 1) = false ∧ (x == 2) = false ∧ (x == 3) = false ∧ (x == 4) = false ∧ (x == 5) = false ∧ (x == 6) = false ∧ (x == 7) = false) := by
  simp only [beq_eq_false_iff_ne, ne_eq]
  omega

set_option maxRecDepth 100000 in
set_option maxHeartbeats 1000000 in
theorem plays_main {W : World} {ao : Option Addr} {cap : Nat} {l : List StepD} (n : Nat) (h1 : 1 ≤ n) (h2 : n ≤ 40) (hl : l.length ≤ 60) (hkp : ∀ i, i < l.length → (l.getD i stepZ).keep.length ≤ 100) (h : StepsAt W (.slice ao l.length cap) l) (hfew : ∀ w, Only [] W w → Calls Try.prog 21 #[.slice ao l.length cap] w fun e w' => e = .returned (.bool true) ∧ w = w') :
    Calls Try.prog 7 #[.int .i64 n, .slice ao l.length cap] W fun e w' => e = .returned (.bool true) ∧ Below W.heap.size W w' := by
  have HFEW := Lib.hid hfew
  have HH := Lib.hid h
  have HKP := Lib.hid hkp
  clear hfew h hkp
  generalize hm : l.length = m at *
  have HM := Lib.hid hm
  clear hm
  have HN := Lib.hid (fun w => Disk.new (n := n) (w := w) h1 (by omega))
  have HRN := Lib.hid (fun w => Ref.new (n := n) (w := w) h1 (by omega))
  have b1 : ¬ 40 < (n : Int) := by omega
  go_enter Try.func7, Try.ntmps7
  go_wp2_with fail
  refine (known_yes _).mono ?_
  rintro e w1 ⟨rfl, hb⟩
  have HB := Lib.hid (Only.of_below hb [])
  clear hb
  go_wp2_with fail
  refine (HFEW.out _ HB.out).mono ?_
  rintro e w' ⟨rfl, rfl⟩
  go_wp2_with fail
  refine (HN.out _).mono ?_
  rintro e w2 ⟨d, M2, rfl, hD2, hS2⟩
  have D2 := Lib.hid hD2
  have S2 := Lib.hid hS2
  clear hD2 hS2
  go_wp2_with fail
  refine (HRN.out _).mono ?_
  rintro e w3 ⟨rd, F3, rfl, hD3, hS3⟩
  have P3 : Hid (Pair W w3 d rd (DS.fresh n) (DS.fresh n) M2 F3) := by
    refine ⟨D2.out.past hS3.1, hD3, fun x hx hm => ?_, (HB.out.trans S2.out.1 (by simp)).trans hS3.1 (by simp), fun x hx => ?_, fun x hx => ?_⟩
    · rcases hS3.2.1 x hm with h | h
      · simp at h
      · have := D2.out.lt x hx; omega
    · rcases S2.out.2 x hx with h | h
      · simp at h
      · have := HB.out.size; omega
    · rcases hS3.2.1 x hx with h | h
      · simp at h
      · have := HB.out.size
        have := S2.out.1.size
        omega
  clear hD3 hS3
  go_wp2_with fail
  go_loopg [9] m (fun gk i wr => ∃ (k : Nat) (a b : DS) (M F : List Nat), gk = m - k ∧ k ≤ m ∧ i = .int .i64 k ∧ Pair W wr d rd a b M F ∧ Twin a b ∧ a.count ≤ k ∧ a.row.length ≤ k ∧ a.now.length = n)
  case atStart => exact ⟨0, _, _, M2, F3, by omega, Nat.zero_le _, rfl, P3.out, Twin.fresh n, by simp [DS.fresh], by simp [DS.fresh], by simp [DS.fresh]⟩
  case round =>
    obtain ⟨k, a, b, M, F, hgk, hk, rfl, hP, hT, hc, hr, hnow⟩ := hrel
    have HGK := Lib.hid hgk
    have P := Lib.hid hP
    have T := Lib.hid hT
    have HC := Lib.hid hc
    have HR := Lib.hid hr
    have HNOW := Lib.hid hnow
    clear hgk hP hT hc hr hnow P3
    by_cases hlt : k < m
    · obtain ⟨ao', cap', he, _, hst⟩ := HH.out
      simp only [Value.slice.injEq] at he
      obtain ⟨rfl, hx, rfl⟩ := he
      clear hx
      obtain ⟨sb0, so, rfl, hst2⟩ := hst (by rw [HM.out]; omega)
      obtain ⟨kv, hcell, hkv, hni⟩ := hst2 k (by rw [HM.out]; exact hlt)
      have q0 := P.out.own.cell (hcell 0 (by omega)) (by simp)
      have q1 := P.out.own.cell (hcell 1 (by omega)) (by simp)
      have q2 := P.out.own.cell (hcell 2 (by omega)) (by simp)
      have q3 := P.out.own.cell (hcell 3 (by omega)) (by simp)
      have q4 := P.out.own.cell (hcell 4 (by omega)) (by simp)
      have q5 := P.out.own.cell (hcell 5 (by omega)) (by simp)
      have HKV := Lib.hid hkv
      obtain ⟨ko, kcap, rfl, _⟩ := hkv
      have HNI := Lib.hid hni
      have HKL : Hid ((l.getD k stepZ).keep.length ≤ 100) := HKP.out k hlt
      generalize l.getD k stepZ = st at *
      clear hcell hst hst2 hni
      obtain ⟨what, ii, nn, fill, short, keep⟩ := st
      simp only [stepCells, Nat.add_zero] at q0 q1 q2 q3 q4 q5
      have hk0 : (0 : Int) ≤ k := by omega
      have hk1 : (k : Int) < m := by omega
      go_upto_block 2 with fail
      have SB := Lib.hid (Blk.new' #[.int .i64 what, .int .i64 ii, .int .i64 nn, .int .u8 fill.toNat, .bool short, .slice ko keep.length kcap] 51 wr rfl)
      have P4 := Lib.hid (P.out.past ((Only.refl [] _).alloc (.cells #[.int .i64 what, .int .i64 ii, .int .i64 nn, .int .u8 fill.toNat, .bool short, .slice ko keep.length kcap] 51)))
      have sM : Hid (wr.heap.size ∉ M) := fun hm => by have := P.out.a.lt _ hm; omega
      have sF : Hid (wr.heap.size ∉ F) := fun hm => by have := P.out.b.lt _ hm; omega
      generalize wr.alloc (.cells #[.int .i64 what, .int .i64 ii, .int .i64 nn, .int .u8 fill.toNat, .bool short, .slice ko keep.length kcap] 51) = w4 at *
      generalize wr.heap.size = sb at *
      clear q0 q1 q2 q3 q4 q5 P
      have HST4 : Hid (∃ ko', Value.slice ko keep.length kcap = ko') := ⟨_, rfl⟩
      go_cut [11] from 58 to 184 (fun s11 wx => s11 = .bool true ∧ ∃ (a' b' : DS) (M' F' : List Nat), Pair W wx d rd a' b' M' F' ∧ Twin a' b' ∧ a'.count ≤ k + 1 ∧ a'.row.length ≤ k + 1 ∧ a'.now.length = n)
      case first =>
        rcases what_cases what with rfl | rfl | rfl | rfl | rfl | rfl | rfl | rfl | ⟨x0, x1, x2, x3, x4, x5, x6, x7⟩
        iterate 4
          · have c1 := SB.out.cell 1
            have c3 := SB.out.cell 3
            have c4 := SB.out.cell 4
            simp only [List.getElem?_cons_zero, List.getElem?_cons_succ] at c1 c3 c4
            go_wp2_with fail
            refine (sector_any fill short _).mono ?_
            rintro e w5 ⟨rfl, hb5, hO5⟩
            have P5 := Lib.hid ((P4.out.past hO5).past (Only.refl [] _).drew)
            have SB5 := Lib.hid (hO5.blk SB.out (by simp))
            have B5 := Lib.hid hb5.drew
            have g5 : Hid (W.heap.size ≤ w4.heap.size) := P4.out.own.size
            have gM : Hid (w4.heap.size ∉ M) := fun hm => by have := P4.out.a.lt _ hm; omega
            have gF : Hid (w4.heap.size ∉ F) := fun hm => by have := P4.out.b.lt _ hm; omega
            clear hb5 hO5 c1 c3 c4
            have c1 := SB5.out.cell 1
            have c3 := SB5.out.cell 3
            have c4 := SB5.out.cell 4
            simp only [List.getElem?_cons_zero, List.getElem?_cons_succ] at c1 c3 c4
            obtain ⟨a', b', r, e1, e2, hT', hc', hr', hn'⟩ := pair_write T.out (by have := HC.out; omega) ii (sec fill (secLen short))
            have E1 := Lib.hid e1
            have E2 := Lib.hid e2
            have T' := Lib.hid hT'
            have HC' := Lib.hid hc'
            have HR' := Lib.hid hr'
            have HN' := Lib.hid hn'
            clear e1 e2 hT' hc' hr' hn'
            generalize w4.heap.size = g at *
            go_wp2_with fail
            go_region_held3 (fun w' => w'.cell? ⟨sb, 1, none⟩ = some (.int .i64 ii) ∧ w'.cell? ⟨sb, 3, none⟩ = some (.int .u8 fill.toNat) ∧ w'.cell? ⟨sb, 4, none⟩ = some (.bool short))
              (first | go_keep | exact hKEEP)
              (first
                | (go_at_call 10; refine (P5.out.a.write' E1.out T.out.c0 (by have := HC.out; omega) (by have := HR.out; omega) (Blk.bytes B5.out (sec_len _ _).symm) (notIn rfl gM.out)).mono ?_; rintro e w6 ⟨rfl, M6, hD6, hS6⟩; have hKEEP := And.intro (hS6.1.cell (p := ⟨sb, 1, none⟩) c1 sM.out) (And.intro (hS6.1.cell (p := ⟨sb, 3, none⟩) c3 sM.out) (hS6.1.cell (p := ⟨sb, 4, none⟩) c4 sM.out)))
                | (go_at_call 11; refine (sector_any fill short _).mono ?_; rintro e w7 ⟨rfl, hb7, hO7⟩; have hKEEP := And.intro (hO7.cell (p := ⟨sb, 1, none⟩) hKEEP.1 (by simp)) (And.intro (hO7.cell (p := ⟨sb, 3, none⟩) hKEEP.2.1 (by simp)) (hO7.cell (p := ⟨sb, 4, none⟩) hKEEP.2.2 (by simp))))
                | (go_at_call 23; refine ((((P5.out.stepA hD6 hS6).past hO7).b).write' (T.out.fits (by have := HR.out; omega)) E2.out (Blk.bytes hb7 (sec_len _ _).symm) (notIn rfl (fun hm => Nat.lt_irrefl _ ((P5.out.stepA hD6 hS6).b.lt _ hm)))).mono ?_; rintro e w8 ⟨rfl, G8, hD8, hS8⟩; have hKEEP := And.intro (hS8.1.cell (p := ⟨sb, 1, none⟩) hKEEP.1 sF.out) (And.intro (hS8.1.cell (p := ⟨sb, 3, none⟩) hKEEP.2.1 sF.out) (hS8.1.cell (p := ⟨sb, 4, none⟩) hKEEP.2.2 sF.out))))
            have P8 := Lib.hid ((((P5.out.stepA hD6 hS6).past hO7)).stepB hD8 hS8)
            have B8 := Lib.hid (hS8.1.blk (hO7.blk (hS6.1.blk B5.out gM.out) (by simp)) gF.out)
            have gM6 : Hid (g ∉ M6) := fun hm => by
              rcases hS6.2 _ hm with h | h
              · exact gM.out h
              · have := B5.out.lt; omega
            have gG8 : Hid (g ∉ G8) := fun hm => by
              rcases hS8.2.1 _ hm with h | h
              · exact gF.out h
              · have := B5.out.lt
                have := hS6.1.size
                have := hO7.size
                omega
            clear hD6 hS6 hb7 hO7 hD8 hS8 hKEEP c1 c3 c4
            go_wp2_with fail
            refine (spoil_any B8.out (by rw [length_u8s, sec_len]) (by cases short <;> decide)).mono ?_
            rintro e w9 ⟨rfl, hO9⟩
            have P9 := Lib.hid (P8.out.bytes B8.out hO9 g5.out gM6.out gG8.out)
            clear hO9
            go_wp2_with fail
            go_meet
            case rel => exact ⟨rfl, a', b', M6, G8, P9.out, T'.out, by have := HC'.out; have := HC.out; omega, by have := HR'.out; have := HR.out; omega, HN'.out.trans HNOW.out⟩
        · go_wp2_with fail
          obtain ⟨a', b', r, e1, e2, hT', hc', hr', hn'⟩ := pair_sync T.out (by have := HC.out; omega)
          have E1 := Lib.hid e1
          have E2 := Lib.hid e2
          have T' := Lib.hid hT'
          have HC' := Lib.hid hc'
          have HR' := Lib.hid hr'
          have HN' := Lib.hid hn'
          clear e1 e2 hT' hc' hr' hn'
          refine (P4.out.a.sync' E1.out T.out.c0 (by have := HC.out; omega) (by have := HR.out; omega)).mono ?_
          rintro e w6 ⟨rfl, M6, hD6, hS6⟩
          have P6 := Lib.hid (P4.out.stepA hD6 hS6)
          clear hD6 hS6
          go_wp2_with fail
          refine (P6.out.b.sync' (T.out.fits (by have := HR.out; omega)) E2.out).mono ?_
          rintro e w8 ⟨rfl, hD8, hS8⟩
          have P8 := Lib.hid (P6.out.stepB hD8 hS8)
          clear hD8 hS8
          go_wp2_with fail
          go_meet
          case rel => exact ⟨rfl, a', b', M6, F, P8.out, T'.out, by have := HC'.out; have := HC.out; omega, by have := HR'.out; have := HR.out; omega, HN'.out.trans HNOW.out⟩
        · have c2 := SB.out.cell 2
          simp only [List.getElem?_cons_zero, List.getElem?_cons_succ] at c2
          go_wp2_with fail
          refine (P4.out.a.fail nn).mono ?_
          rintro e w6 ⟨rfl, hD6, hS6⟩
          have P6 := Lib.hid (P4.out.stepA hD6 hS6)
          have SB6 := Lib.hid (hS6.1.blk SB.out sM.out)
          clear hD6 hS6 c2
          have c2 := SB6.out.cell 2
          simp only [List.getElem?_cons_zero, List.getElem?_cons_succ] at c2
          go_wp2_with fail
          refine (P6.out.b.fail nn).mono ?_
          rintro e w8 ⟨rfl, hD8, hS8⟩
          have P8 := Lib.hid (P6.out.stepB hD8 hS8)
          clear hD8 hS8
          go_wp2_with fail
          go_meet
          case rel => exact ⟨rfl, _, _, M, F, P8.out, T.out.setFail nn HNI.out, by have := HC.out; simp only; omega, by have := HR.out; simp only; omega, HNOW.out⟩
        · have c2 := SB.out.cell 2
          simp only [List.getElem?_cons_zero, List.getElem?_cons_succ] at c2
          go_wp2_with fail
          refine (P4.out.a.halt nn).mono ?_
          rintro e w6 ⟨rfl, hD6, hS6⟩
          have P6 := Lib.hid (P4.out.stepA hD6 hS6)
          have SB6 := Lib.hid (hS6.1.blk SB.out sM.out)
          clear hD6 hS6 c2
          have c2 := SB6.out.cell 2
          simp only [List.getElem?_cons_zero, List.getElem?_cons_succ] at c2
          go_wp2_with fail
          refine (P6.out.b.halt nn).mono ?_
          rintro e w8 ⟨rfl, hD8, hS8⟩
          have P8 := Lib.hid (P6.out.stepB hD8 hS8)
          clear hD8 hS8
          go_wp2_with fail
          go_meet
          case rel => exact ⟨rfl, _, _, M, F, P8.out, T.out.setHalt nn HNI.out, by have := HC.out; simp only; omega, by have := HR.out; simp only; omega, HNOW.out⟩
        · have c5 := SB.out.cell 5
          simp only [List.getElem?_cons_zero, List.getElem?_cons_succ] at c5
          have KL : Hid ((keep.map (Value.int .i64)).length = keep.length * 1) := by show _ = _; simp
          have KC : Hid (0 < keep.length → ∃ ad, ko = some ad ∧ ∀ j u, (keep.map (Value.int .i64))[j]? = some u → w4.cell? (ad.add j) = some u) := by
            intro h0
            obtain ⟨ao, cap, he, hc⟩ := HKV.out
            simp only [Value.slice.injEq, true_and] at he
            obtain ⟨rfl, rfl⟩ := he
            obtain ⟨b, o, rfl, hc2⟩ := hc h0
            refine ⟨_, rfl, fun j u hu => ?_⟩
            rw [add_plain]
            rw [List.getElem?_map] at hu
            have hj : j < keep.length := by
              rcases Nat.lt_or_ge j keep.length with h | h
              · exact h
              · rw [List.getElem?_eq_none h] at hu; cases hu
            have := hc2 j hj
            rw [List.getD_eq_getElem?_getD, List.getElem?_eq_getElem hj] at this
            rw [List.getElem?_eq_getElem hj] at hu
            simp only [Option.map_some, Option.some.injEq] at hu
            rw [← hu]
            exact P4.out.own.cell this (by simp)
          go_wp2_with (refine wpList_grow rfl _ _ _ rfl 3 Try.underlying23 (info_parts info_int) rfl (by omega) (.slice none 0 0) 0 [] rfl ⟨rfl, .inl ⟨rfl, rfl⟩⟩ ko keep.length kcap rfl (keep.map (Value.int .i64)) KL.out (by exact KC.out) (by simp [Value.oneCell']) (by have := HKL.out; simp only at this; omega) (by omega) ?_)
          intro v5 w5 hg5
          have hO5 : Only [] w4 w5 := hg5.only
          have hown5 := hg5.own
          obtain ⟨ao5, cap5, rfl⟩ := hg5.shape
          have P5 := Lib.hid (P4.out.past hO5)
          have SB5 := Lib.hid (hO5.blk SB.out (by simp))
          have OW5 := Lib.hid hown5
          clear hg5
          clear hown5 hO5 c5
          go_wp2_with fail
          have OX : Hid (Only [] w5 (w5.alloc (.cells #[.slice ao5 keep.length cap5] 35))) := (Only.refl _ _).alloc _
          have P6 := Lib.hid (P5.out.past OX.out)
          have SB6 := Lib.hid (OX.out.blk SB5.out (by simp))
          have OW6 := Lib.hid (owns_past OW5.out OX.out)
          generalize w5.alloc (.cells #[.slice ao5 keep.length cap5] 35) = w6 at *
          refine (P6.out.a.restart0 (by have := HR.out; omega) (ints_own OW6.out) (fun _ => ints_off OW6.out (P6.out.a.off (by decide) (by decide) (by decide)))).mono ?_
          rintro e w7 ⟨rfl, M7, hD7, hS7⟩
          have P7 := Lib.hid (P6.out.stepA hD7 hS7)
          have SB7 := Lib.hid (hS7.1.blk SB6.out sM.out)
          clear hD7 hS7
          have c5 := SB7.out.cell 5
          simp only [List.getElem?_cons_zero, List.getElem?_cons_succ] at c5
          go_wp2_with fail
          refine (P7.out.b.restart (T.out.fits (by have := HR.out; omega)) (HKV.out.past P7.out.own) (fun h0 => ints_old HKV.out h0 P7.out.nb)).mono ?_
          rintro e w8 ⟨rfl, G8, hD8, hS8⟩
          have P8 := Lib.hid (P7.out.stepB hD8 hS8)
          clear hD8 hS8
          go_wp2_with fail
          go_meet
          case rel => exact ⟨rfl, _, _, M7, G8, P8.out, T.out.restart keep, by have := HC.out; simp only [DS.restart]; omega, by simp [DS.restart], by simp only [DS.restart]; rw [tornTo_length]; exact (P6.out.a.len.1).trans HNOW.out⟩
        · have c1 := SB.out.cell 1
          simp only [List.getElem?_cons_zero, List.getElem?_cons_succ] at c1
          obtain ⟨rl, r, e1, e2⟩ := pair_read T.out ii
          have E1 := Lib.hid e1
          have E2 := Lib.hid e2
          clear e1 e2
          go_wp2_with fail
          refine (P4.out.a.read' E1.out).mono ?_
          rintro e w6 ⟨v6, rfl, hv6, hO6⟩
          have P6 := Lib.hid (P4.out.past hO6)
          have SB6 := Lib.hid (hO6.blk SB.out (by simp))
          have V6 := Lib.hid hv6
          have g6 : Hid (w4.heap.size ∉ M ∧ w4.heap.size ∉ F ∧ W.heap.size ≤ w4.heap.size) := ⟨fun hm => by have := P4.out.a.lt _ hm; omega, fun hm => by have := P4.out.b.lt _ hm; omega, P4.out.own.size⟩
          clear hv6 hO6 c1
          have c1 := SB6.out.cell 1
          simp only [List.getElem?_cons_zero, List.getElem?_cons_succ] at c1
          go_wp2_with fail
          refine (P6.out.b.read' E2.out).mono ?_
          rintro e w7 ⟨v7, rfl, hv7, hO7⟩
          have P7 := Lib.hid (P6.out.past hO7)
          have V7 := Lib.hid hv7
          have V6' := Lib.hid (V6.out.at.past hO7)
          have O7 := Lib.hid hO7
          clear hv7 hO7
          go_wp2_with fail
          have hbt := bytes_any V6'.out V7.out
          rw [show (rl == rl) = true from beq_self_eq_true _] at hbt
          refine hbt.mono ?_
          rintro e w' ⟨rfl, rfl⟩
          clear hbt
          go_wp2_with fail
          rcases V6.out with ⟨rfl, h0⟩ | ⟨rfl, hb6⟩
          · refine (spoil_nil none 0).mono ?_
            rintro e w' ⟨rfl, rfl⟩
            go_wp2_with fail
            go_meet
            case rel => exact ⟨rfl, _, _, M, F, P7.out, T.out, by have := HC.out; omega, by have := HR.out; omega, HNOW.out⟩
          · have B7 := Lib.hid (O7.out.blk hb6 (by simp))
            clear hb6
            refine (spoil_any B7.out (length_u8s _) ?_).mono ?_
            · have := read_len P4.out.a ii
              rw [E1.out] at this
              simp only at this
              omega
            rintro e w9 ⟨rfl, hO9⟩
            have P9 := Lib.hid (P7.out.bytes B7.out hO9 g6.out.2.2 g6.out.1 g6.out.2.1)
            clear hO9
            go_wp2_with fail
            go_meet
            case rel => exact ⟨rfl, _, _, M, F, P9.out, T.out, by have := HC.out; omega, by have := HR.out; omega, HNOW.out⟩
      case rest =>
        obtain ⟨rfl, a', b', M', F', hP', hT', hc', hr', hn'⟩ := hcut
        have P' := Lib.hid hP'
        have T' := Lib.hid hT'
        have HC' := Lib.hid hc'
        have HR' := Lib.hid hr'
        have HN' := Lib.hid hn'
        clear hP' hT' hc' hr' hn'
        have CS := Lib.hid P'.out.a.sectors
        have CR : Hid (Calls Try.prog 30 #[.pointer (some ⟨rd, 0, none⟩)] wc fun e w' => e = .returned (.int .i64 a'.now.length) ∧ wc = w') := by
          have := P'.out.b.sectors
          rw [T'.out.now] at this
          exact this
        have CC := Lib.hid P'.out.a.count
        have CD : Hid (Calls Try.prog 31 #[.pointer (some ⟨rd, 0, none⟩)] wc fun e w' => e = .returned (.int .i64 a'.count) ∧ wc = w') := by
          have := P'.out.b.count
          rw [T'.out.count] at this
          exact this
        have CP := Lib.hid P'.out.a.pending
        have CQ : Hid (Calls Try.prog 32 #[.pointer (some ⟨rd, 0, none⟩)] wc fun e w' => e = .returned (.int .i64 a'.row.length) ∧ wc = w') := by
          have := P'.out.b.pending
          rw [T'.out.row] at this
          exact this
        go_wp2_with (first
          | (go_at_call 17; refine CS.out.mono ?_; rintro e w' ⟨rfl, rfl⟩)
          | (go_at_call 30; refine CR.out.mono ?_; rintro e w' ⟨rfl, rfl⟩)
          | (go_at_call 18; refine CC.out.mono ?_; rintro e w' ⟨rfl, rfl⟩)
          | (go_at_call 31; refine CD.out.mono ?_; rintro e w' ⟨rfl, rfl⟩)
          | (go_at_call 16; refine CP.out.mono ?_; rintro e w' ⟨rfl, rfl⟩)
          | (go_at_call 32; refine CQ.out.mono ?_; rintro e w' ⟨rfl, rfl⟩))
        go_roundg (m - (k + 1))
        case measure => have := HGK.out; omega
        case rel => exact ⟨k + 1, a', b', M', F', rfl, by omega, by go_num, P'.out, T'.out, by have := HC'.out; omega, by have := HR'.out; omega, HN'.out⟩
    · obtain rfl : k = m := by omega
      go_wp2_with fail
      go_loopg [18] n (fun gj i wr => ∃ j : Nat, gj = n - j ∧ j ≤ n ∧ i = .int .i64 j ∧ Pair W wr d rd a b M F)
      case atStart => exact ⟨0, by omega, Nat.zero_le _, rfl, P.out⟩
      case round =>
        obtain ⟨j, hgj, hj, rfl, hP⟩ := hrel
        have HGJ := Lib.hid hgj
        have P1 := Lib.hid hP
        clear hgj hP P
        by_cases hlj : j < n
        · have hj0 : (0 : Int) ≤ j := by omega
          have hj1 : (j : Int) < n := by omega
          obtain ⟨rl, r, e1, e2⟩ := pair_read T.out j
          have E1 := Lib.hid e1
          have E2 := Lib.hid e2
          clear e1 e2
          go_wp2_with fail
          refine (P1.out.a.read' E1.out).mono ?_
          rintro e w6 ⟨v6, rfl, hv6, hO6⟩
          have P6 := Lib.hid (P1.out.past hO6)
          have V6 := Lib.hid hv6
          clear hv6 hO6
          go_wp2_with fail
          refine (P6.out.b.read' E2.out).mono ?_
          rintro e w7 ⟨v7, rfl, hv7, hO7⟩
          have P7 := Lib.hid (P6.out.past hO7)
          have V7 := Lib.hid hv7
          have V6' := Lib.hid (V6.out.at.past hO7)
          clear hv7 hO7
          go_wp2_with fail
          have hbt := bytes_any V6'.out V7.out
          rw [show (rl == rl) = true from beq_self_eq_true _] at hbt
          refine hbt.mono ?_
          rintro e w' ⟨rfl, rfl⟩
          clear hbt
          go_wp2_with fail
          go_roundg (n - (j + 1))
          case measure => have := HGJ.out; omega
          case rel => exact ⟨j + 1, rfl, by omega, by go_num, P7.out⟩
        · obtain rfl : j = n := by omega
          go_wp2_with fail
          go_ret
          exact ⟨rfl, P1.out.own.below (Nat.le_refl _) (by simp)⟩

set_option maxRecDepth 100000 in
theorem plays_many {W : World} {v : Value} {l : List StepD} (x : Int) (h : StepsAt W v l) (hno : ∀ w, Only [] W w → Calls Try.prog 21 #[v] w fun e w' => e = .returned (.bool false) ∧ w = w') :
    Calls Try.prog 7 #[.int .i64 x, v] W fun e w' => e = .returned (.bool true) ∧ Below W.heap.size W w' := by
  obtain ⟨ao, cap, rfl, _⟩ := h
  have HNO := Lib.hid hno
  clear hno
  go_enter Try.func7, Try.ntmps7
  go_wp2_with fail
  refine (known_yes _).mono ?_
  rintro e w1 ⟨rfl, hb⟩
  have HB := Lib.hid hb
  clear hb
  go_wp2_with fail
  refine (HNO.out _ (Only.of_below HB.out [])).mono ?_
  rintro e w' ⟨rfl, rfl⟩
  go_wp2_with fail
  go_ret
  exact ⟨rfl, HB.out⟩
set_option maxRecDepth 100000 in
theorem plays_size {W : World} {v : Value} {l : List StepD} (x : Int) (hx : x < 1 ∨ 40 < x) (h : StepsAt W v l) (hfew : ∀ w, Only [] W w → Calls Try.prog 21 #[v] w fun e w' => e = .returned (.bool true) ∧ w = w') :
    Calls Try.prog 7 #[.int .i64 x, v] W fun e w' => e = .returned (.bool true) ∧ Below W.heap.size W w' := by
  obtain ⟨ao, cap, rfl, _⟩ := h
  have HFEW := Lib.hid hfew
  clear hfew
  by_cases hs : 40 < x ∧ x ≤ 65536
  · obtain ⟨s1, s2⟩ := hs
    go_enter Try.func7, Try.ntmps7
    go_wp2_with fail
    refine (known_yes _).mono ?_
    rintro e w1 ⟨rfl, hb⟩
    have HB := Lib.hid hb
    clear hb
    go_wp2_with fail
    refine (HFEW.out _ (Only.of_below HB.out [])).mono ?_
    rintro e w' ⟨rfl, rfl⟩
    go_wp2_with fail
    go_ret
    exact ⟨rfl, HB.out⟩
  · have hbad : x < 1 ∨ 65536 < x := by omega
    have HBAD := Lib.hid hbad
    clear hx hs
    rcases hbad with hx | hx
    · have b1 : ¬ 40 < x := by omega
      go_enter Try.func7, Try.ntmps7
      go_wp2_with fail
      refine (known_yes _).mono ?_
      rintro e w1 ⟨rfl, hb⟩
      have HB := Lib.hid hb
      clear hb
      go_wp2_with fail
      refine (HFEW.out _ (Only.of_below HB.out [])).mono ?_
      rintro e w' ⟨rfl, rfl⟩
      go_wp2_with fail
      refine (new_bad x _ HBAD.out).mono ?_
      rintro e w' ⟨rfl, rfl⟩
      go_wp2_with fail
      refine (rnew_bad x _ HBAD.out).mono ?_
      rintro e w' ⟨rfl, rfl⟩
      go_wp2_with fail
      go_ret
      exact ⟨rfl, HB.out⟩
    · have b1 : 40 < x := by omega
      have b2 : ¬ x ≤ 65536 := by omega
      go_enter Try.func7, Try.ntmps7
      go_wp2_with fail
      refine (known_yes _).mono ?_
      rintro e w1 ⟨rfl, hb⟩
      have HB := Lib.hid hb
      clear hb
      go_wp2_with fail
      refine (HFEW.out _ (Only.of_below HB.out [])).mono ?_
      rintro e w' ⟨rfl, rfl⟩
      go_wp2_with fail
      refine (new_bad x _ HBAD.out).mono ?_
      rintro e w' ⟨rfl, rfl⟩
      go_wp2_with fail
      refine (rnew_bad x _ HBAD.out).mono ?_
      rintro e w' ⟨rfl, rfl⟩
      go_wp2_with fail
      go_ret
      exact ⟨rfl, HB.out⟩
theorem StepsAt.past {w w' : World} {v : Value} {l : List StepD} (h : StepsAt w v l) (hO : Only [] w w') : StepsAt w' v l := by
  obtain ⟨ao, cap, rfl, hl, hc⟩ := h
  refine ⟨ao, cap, rfl, hl, fun h0 => ?_⟩
  obtain ⟨b, o, rfl, hc2⟩ := hc h0
  refine ⟨b, o, rfl, fun i hi => ?_⟩
  obtain ⟨kv, h1, h2, h3⟩ := hc2 i hi
  refine ⟨kv, fun j hj => ?_, h2.past hO, h3⟩
  have h4 := h1 j hj
  rw [List.getElem?_eq_getElem (by simp [stepCells]; omega)] at h4 ⊢
  exact hO.cell h4 (by simp)
theorem plays_walk {W : World} (x : Int) (hx : -9223372036854775808 ≤ x ∧ x ≤ 9223372036854775807) (v : Value) (l : List StepD) (h : StepsAt W v l) :
    Calls Try.prog 7 #[.int .i64 x, v] W fun e w' => e = .returned (.bool true) ∧ Below W.heap.size W w' := by
  by_cases hf : l.length ≤ 60 ∧ ∀ i, i < l.length → (l.getD i stepZ).keep.length ≤ 100
  · have hfew : ∀ w, Only [] W w → Calls Try.prog 21 #[v] w fun e w' => e = .returned (.bool true) ∧ w = w' := by
      intro w hO
      refine (few_any (h.past hO)).mono ?_
      rintro e w' ⟨r, rfl, rfl, hr, hr2⟩
      exact ⟨by rw [hr2 hf], rfl⟩
    by_cases hs : x < 1 ∨ 40 < x
    · exact plays_size x hs h hfew
    · obtain ⟨n, rfl⟩ := Int.eq_ofNat_of_zero_le (show 0 ≤ x by omega)
      obtain ⟨ao, cap, rfl, hl, hc⟩ := h
      exact plays_main n (by omega) (by omega) hf.1 hf.2 ⟨ao, cap, rfl, hl, hc⟩ hfew
  · refine plays_many x h ?_
    intro w hO
    refine (few_any (h.past hO)).mono ?_
    rintro e w' ⟨r, rfl, rfl, hr, hr2⟩
    refine ⟨?_, rfl⟩
    cases r
    · rfl
    · exact absurd (hr rfl) hf
end Go.Proofs.Ytgifigfdjcgkaaa.D
