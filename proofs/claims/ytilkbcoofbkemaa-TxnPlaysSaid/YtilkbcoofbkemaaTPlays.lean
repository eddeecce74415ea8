/-
  The walk of TxnPlays.
-/
import Derived.Test.YtilkbcoofbkemaaPlaysN
import Derived.Test.YtilkbcoofbkemaaTxnG
namespace Go.Proofs.Ytilkbcoofbkemaa.T
set_option linter.unusedSimpArgs false
open Go Go.RowKit Go.Proofs.Ytilkbcoofbkemaa.I
set_option linter.unusedVariables false
set_option maxRecDepth 100000 in
set_option maxHeartbeats 4000000 in
theorem plays_main {w : World} (next : Nat) (hnext : next < 18446744073709551616) (v : Value) (l : List StepD) (hv : StepsAt w v l) :
    Calls Try.prog 7 #[.int .u64 next, v] w fun e w' => e = .returned (.bool true) ∧ Below w.heap.size w w' := by
  have K := Lib.hid (known_any w)
  have N := Lib.hid (fun w1 (hO : Only [] w w1) => new_tab hO next hnext)
  have RN := Lib.hid (fun w1 => rnew_any next hnext w1)
  obtain ⟨ao, cap, rfl, hml, hc⟩ := hv
  have CC := Lib.hid hc
  clear hc hml
  generalize hm : l.length = m at *
  have HM := Lib.hid hm
  clear hm
  by_cases h100 : 100 < m
  · have h100i : (100 : Int) < m := by omega
    go_enter Try.func7, Try.ntmps7
    go_wp2_with (go_at_call 8; refine K.out.mono ?_; rintro e w1 ⟨rfl, hO1⟩; have O1 := Lib.hid hO1; clear hO1)
    go_ret
    exact ⟨rfl, O1.out.below (Nat.le_refl _) (by simp)⟩
  have h100i : ¬ (100 : Int) < m := by omega
  have ec : max (1 : Int) (min (next : Int) 4611686018427387904) = ((clamp next : Nat) : Int) := by unfold clamp; omega
  have hcl : clamp next ≤ 4611686018427387904 := by unfold clamp; omega
  go_enter Try.func7, Try.ntmps7
  go_wp2_with (first | (go_at_call 8; refine K.out.mono ?_; rintro e w1 ⟨rfl, hO1⟩; have O1 := Lib.hid hO1; clear hO1) | (go_at_call 9; refine (N.out _ O1.out).mono ?_; rintro e w2 ⟨t, bo, bg, rfl, hT2, hO2⟩; have T2 := Lib.hid hT2; clear hT2 hO2) | (go_at_call 22; refine (RN.out w2).mono ?_; rintro e w3 ⟨r, rfl, hR3, hO3, hr3⟩; have R3 := Lib.hid hR3; have T3 := Lib.hid (T2.out.past hO3); have HR3 := Lib.hid (Nat.le_trans T2.out.own.size hr3); clear hR3 hO3 hr3))
  have P3 : Hid (PlayAt w w3 t bo bg 0 (TS.new next) r (clamp next) (.slice none 0 0) [] (TS.new next) (.slice none 0 0) [] []) :=
    ⟨T3.out.tabX, R3.out, ⟨⟨rfl, .inl ⟨rfl, rfl⟩⟩, fun p hp => (by cases hp)⟩, HR3.out, fun x hx => (by cases hx), fun x hx => (by cases hx), Nat.le_refl _, fun p hp => (by cases hp), Nat.le_refl _, fun p hp => (by cases hp), fun p hp => (by cases hp), fun p hp => (by cases hp), fun x hx => (by cases hx)⟩
  generalize clamp next = n0 at *
  clear ec
  go_loopg [8, 9] m (fun gk s8 s9 wx => ∃ (k : Nat) (S : TS) (v : Value) (R : RRows) (Q : SRows), gk = m - k ∧ k ≤ m ∧ s9 = .int .i64 k ∧ PlayAt w wx t bo bg k S r n0 v R S s8 Q [])
  case atStart => exact ⟨0, _, _, _, _, rfl, Nat.zero_le _, rfl, P3.out⟩
  case round =>
    obtain ⟨k, S, v, R, Q, hgk, hk, rfl, hP⟩ := hrel
    have HGK := Lib.hid hgk
    have PP := Lib.hid hP
    clear hgk hP P3
    by_cases hlt : k < m
    · obtain ⟨eb, eo, rfl, hce⟩ := CC.out (by omega)
      obtain ⟨hok, hc⟩ := hce k hlt
      have q0 := PP.out.tab.own.cell (hc 0 (by omega)) (by simp)
      have q1 := PP.out.tab.own.cell (hc 1 (by omega)) (by simp)
      have q2 := PP.out.tab.own.cell (hc 2 (by omega)) (by simp)
      have q3 := PP.out.tab.own.cell (hc 3 (by omega)) (by simp)
      have q4 := PP.out.tab.own.cell (hc 4 (by omega)) (by simp)
      have OK := Lib.hid hok
      have hwhat := hok.what
      have ha := hok.a
      have hb := hok.b
      have hcc := hok.c
      generalize l.getD k stepZ = st at *
      obtain ⟨what, sa, sb, sc, which⟩ := st
      simp only [stepCells, List.getElem?_cons_succ, List.getElem?_cons_zero, Nat.add_zero] at q0 q1 q2 q3 q4 hwhat ha hb hcc
      clear hce hc CC hok
      have hki : (k : Int) < m := by omega
      have hk0 : (0 : Int) ≤ k := by omega
      have hk100 : k < 100 := by omega
      obtain ⟨id0, hid0⟩ : ∃ id, n0 + sa % 12 = id := ⟨_, rfl⟩
      have eid : (n0 : Int) + (sa : Int) % 12 = (id0 : Int) := by omega
      have hidb : id0 < 18446744073709551616 := by omega
      clear hid0
      go_upto_if 54 with fail
      go_cut [12] from 36 to 244 (fun s12 wx => ∃ id : Nat, id < 18446744073709551616 ∧ s12 = .int .u64 id ∧ PlayAt w wx t bo bg k S r n0 v R S u8 Q [] ∧ Blk wx wr.heap.size [.int .i64 what, .int .u64 sa, .int .u64 sb, .int .u64 sc, .int .i64 which] 49)
      case first => as_aux_lemma =>
        have P4 := Lib.hid (PP.out.past ((Only.refl [] wr).alloc (.cells #[.int .i64 what, .int .u64 sa, .int .u64 sb, .int .u64 sc, .int .i64 which] 49)))
        have B4 := Lib.hid (Blk.new [.int .i64 what, .int .u64 sa, .int .u64 sb, .int .u64 sc, .int .i64 which] 49 wr)
        by_cases h4 : which.tmod 5 = 4
        · go_wp2_with fail
          go_meet
          case rel => exact ⟨sa, ha, rfl, P4.out, B4.out⟩
        · go_wp2_with fail
          go_meet
          case rel => exact ⟨id0, hidb, rfl, P4.out, B4.out⟩
      case rest =>
        obtain ⟨id, hid, rfl, hP4, hB4⟩ := hcut
        have P4 := Lib.hid hP4
        have B4 := Lib.hid hB4
        have q0 := hB4.cell 0
        simp only [List.getElem?_cons_succ, List.getElem?_cons_zero] at q0
        clear hP4 hB4 PP q1 q2 q3 q4 eid hidb
        go_upto_block 2 with fail
        go_cut [8, 11, 13, 14, 15, 16, 17, 18, 19, 20, 21, 22, 23] from 36 to 244 (fun s8 s11 _ _ _ _ _ _ _ _ _ _ _ wx => s11 = .bool true ∧ ∃ (S' : TS) (v' : Value) (R' : RRows) (Q' : SRows), PlayAt w wx t bo bg (k + 1) S' r n0 v' R' S' s8 Q' [])
        case first =>
          by_cases h2 : what = 2
          · as_aux_lemma =>
            subst h2
            obtain ⟨S', hS'⟩ : ∃ S', (S.commit id).1 = S' := ⟨_, rfl⟩
            obtain ⟨z, hz⟩ : ∃ z, (S.commit id).2 = z := ⟨_, rfl⟩
            have E : Hid (S.commit id = (S', z)) := by show _ = _; rw [← hS', ← hz]
            have NX : Hid (S.next ≤ S'.next) := by show _ ≤ _; rw [← hS']; exact (Grows.commit id).next
            have RC : Hid (∀ w1, RefAt w1 r n0 v R S → Calls Try.prog 24 #[.pointer (some ⟨r, 0, none⟩), .int .u64 id] w1 fun e w' => e = .returned (.int .i64 z) ∧ ∃ R', RefAt w' r n0 v R' S' ∧ SameRows R R' ∧ Only v.ownBlock.toList w1 w') := fun w1 hR => by
              have := rcommit_any hR hid
              rwa [hS', hz] at this
            have hzz : (z == z) = true := by simp
            clear hS' hz
            go_wp2_with (first
              | (go_at_call 14; refine (P4.out.tab.commit' id E.out).mono ?_; rintro e w5 ⟨rfl, hT5, hO5⟩; have P5 := Lib.hid (P4.out.call (Nat.le_refl _) NX.out hT5 hO5); clear hT5 hO5)
              | (go_at_call 24; refine (RC.out _ P5.out.ref).mono ?_; rintro e w6 ⟨rfl, R', hR6, hs6, hO6⟩; have P6 := Lib.hid (P5.out.rend hR6 hs6 hO6); clear hR6 hs6 hO6))
            go_meet
            case rel => exact ⟨rfl, S', v, R', Q, P6.out.more (Nat.le_succ _)⟩
          by_cases h3 : what = 3
          · as_aux_lemma =>
            subst h3
            obtain ⟨S', hS'⟩ : ∃ S', (S.abort id).1 = S' := ⟨_, rfl⟩
            obtain ⟨z, hz⟩ : ∃ z, (S.abort id).2 = z := ⟨_, rfl⟩
            have E : Hid (S.abort id = (S', z)) := by show _ = _; rw [← hS', ← hz]
            have NX : Hid (S.next ≤ S'.next) := by show _ ≤ _; rw [← hS']; exact (Grows.abort id).next
            have RC : Hid (∀ w1, RefAt w1 r n0 v R S → Calls Try.prog 25 #[.pointer (some ⟨r, 0, none⟩), .int .u64 id] w1 fun e w' => e = .returned (.int .i64 z) ∧ ∃ R', RefAt w' r n0 v R' S' ∧ SameRows R R' ∧ Only v.ownBlock.toList w1 w') := fun w1 hR => by
              have := rabort_any hR hid
              rwa [hS', hz] at this
            have hzz : (z == z) = true := by simp
            clear hS' hz
            go_wp2_with (first
              | (go_at_call 15; refine (P4.out.tab.abort' id E.out).mono ?_; rintro e w5 ⟨rfl, hT5, hO5⟩; have P5 := Lib.hid (P4.out.call (Nat.le_refl _) NX.out hT5 hO5); clear hT5 hO5)
              | (go_at_call 25; refine (RC.out _ P5.out.ref).mono ?_; rintro e w6 ⟨rfl, R', hR6, hs6, hO6⟩; have P6 := Lib.hid (P5.out.rend hR6 hs6 hO6); clear hR6 hs6 hO6))
            go_meet
            case rel => exact ⟨rfl, S', v, R', Q, P6.out.more (Nat.le_succ _)⟩
          by_cases h4 : what = 4
          · as_aux_lemma =>
            subst h4
            obtain ⟨L, hTA, _⟩ := P4.out.tab.at_
            cases ho : S.isOpen id with
            | false =>
              have SN := Lib.hid (snapshot_no hTA P4.out.tab.fine.rise.once ho)
              have RSN := Lib.hid (fun (w1 : World) (hO : Only [] wc w1) => rsnapshot_no (P4.out.past hO).ref hid ho)
              clear hTA ho
              go_wp2_with (first
                | (go_at_call 26; refine SN.out.mono ?_; rintro e w5 ⟨rfl, hO5⟩; have O5 := Lib.hid (hO5.alloc (.cells #[.int .u64 0, .int .u64 0, .slice none 0 0] 29)); have B5 := Lib.hid (Blk.new [.int .u64 0, .int .u64 0, .slice none 0 0] 29 w5); clear hO5)
                | (go_at_call 27; refine (RSN.out _ O5.out).mono ?_; rintro e w6 ⟨rfl, hO6⟩; have O6 := Lib.hid ((O5.out.trans hO6 (by simp)).alloc (.cells #[.int .u64 0, .int .u64 0, .slice none 0 0] 29)); have B6 := (hO6.blk B5.out (by simp)).alloc (.cells #[.int .u64 0, .int .u64 0, .slice none 0 0] 29); have x0 := B6.cell 0; have x1 := B6.cell 1; have x2 := B6.cell 2; simp only [List.getElem?_cons_succ, List.getElem?_cons_zero] at x0 x1 x2; clear hO6 B6)
                | (go_at_call 16; refine (hsnap_eq (op := []) (NatsAt.none_ _ none 0) (NatsAt.none_ _ none 0) (by simp) 0 0).mono ?_; rintro e w7 ⟨rfl, hO7⟩; have P7 := Lib.hid (P4.out.past (O6.out.trans hO7 (by simp))); clear hO7))
              go_meet
              case rel => exact ⟨rfl, S, v, R, Q, P7.out.more (Nat.le_succ _)⟩
            | true =>
              obtain ⟨pn, n, op, hln, hn, hsn, hrs⟩ := P4.out.shots (by omega) hid ho
              have SN := Lib.hid hsn
              have RSN := Lib.hid hrs
              have HL := Lib.hid hn
              have HLO : Hid (op.length ≤ 1048576) := by show _ ≤ _; rw [hln]; exact hn
              clear hTA ho hsn hrs hln hn
              go_wp2_with (first
                | (go_at_call 26; refine (SN.out _ (Only.refl _ _)).mono ?_; rintro e w5 ⟨a5, c5, rfl, hn5, hO5⟩; have O5 := Lib.hid (hO5.alloc (.cells #[.int .u64 id, .int .u64 pn, .slice a5 n c5] 29)); have B5 := Lib.hid (Blk.new [.int .u64 id, .int .u64 pn, .slice a5 n c5] 29 w5); have N5 := Lib.hid (hn5.past ((Only.refl [] w5).alloc (.cells #[.int .u64 id, .int .u64 pn, .slice a5 n c5] 29))); clear hO5 hn5)
                | (go_at_call 27; refine (RSN.out _ O5.out).mono ?_; rintro e w6 ⟨a6, c6, rfl, hn6, hO6⟩; have O6 := Lib.hid ((O5.out.trans hO6 (by simp)).alloc (.cells #[.int .u64 id, .int .u64 pn, .slice a6 n c6] 29)); have N6 := Lib.hid (hn6.past ((Only.refl [] w6).alloc (.cells #[.int .u64 id, .int .u64 pn, .slice a6 n c6] 29))); have M6 := Lib.hid ((N5.out.past hO6).past ((Only.refl [] w6).alloc (.cells #[.int .u64 id, .int .u64 pn, .slice a6 n c6] 29))); have B6 := (hO6.blk B5.out (by simp)).alloc (.cells #[.int .u64 id, .int .u64 pn, .slice a6 n c6] 29); have x0 := B6.cell 0; have x1 := B6.cell 1; have x2 := B6.cell 2; simp only [List.getElem?_cons_succ, List.getElem?_cons_zero] at x0 x1 x2; clear hO6 hn6 B6)
                | (go_at_call 16; refine (hsnap_eq M6.out N6.out HLO.out id pn).mono ?_; rintro e w7 ⟨rfl, hO7⟩; have P7 := Lib.hid (P4.out.past (O6.out.trans hO7 (by simp))); clear hO7))
              go_meet
              case rel => exact ⟨rfl, S, v, R, Q, P7.out.more (Nat.le_succ _)⟩
          by_cases h01 : what = 0 ∨ what = 1
          · as_aux_lemma =>
            obtain ⟨nx, hnx⟩ : ∃ nx, S.next = nx := ⟨_, rfl⟩
            obtain ⟨n1, hn1⟩ : ∃ n1, S.opens.length = n1 := ⟨_, rfl⟩
            have HNX := Lib.hid hnx
            have HN1 := Lib.hid hn1
            have hQL : Q.length ≤ 100 := by have := P4.out.qlen; omega
            have HQ1 : Hid (Q.length + 1 ≤ k + 1) := by have := P4.out.qlen; show _ ≤ _; omega
            have HNL : Hid (S.nums.length = n1) := by show _ = _; rw [TS.nums_len, hn1]
            have hn1k : n1 ≤ k := by have := P4.out.tab.fine.len; omega
            have BG := Lib.hid (P4.out.begun (by omega) hnx hn1)
            have RB := Lib.hid (fun (w1 : World) (F : List Nat) (hP : PlayAt w w1 t bo bg (k + 1) S.begin r n0 v R S u8 Q F) => hP.rbegun (by have := P4.out.len; omega) (by omega) (by have := P4.out.tab.fine.nx; omega) (by omega) hnx hn1)
            have HSP : Hid (nx < S.begin.next) := by show _ < S.next + 1; omega
            have hxx : ((nx : Int) == nx) = true := by simp
            clear hnx hn1
            go_upto_if 143 with fail
            go_cut [143] from 144 to 244 (fun s143 wx => s143 = .bool true ∧ wx = wc)
            case first =>
              rcases h01 with rfl | rfl
              · go_wp2_with fail
                go_meet
                case rel => exact ⟨rfl, rfl⟩
              · go_wp2_with fail
                go_meet
                case rel => exact ⟨rfl, rfl⟩
            case rest =>
              obtain ⟨rfl, rfl⟩ := hcut
              have HL2 : Hid (S.nums.length ≤ 1048576) := by show _ ≤ _; rw [HNL.out]; omega
              go_wp2_with (first
                | (go_at_call 10; refine BG.out.mono ?_; rintro e w5 ⟨a5, c5, rfl, hr5, hP5⟩; have R5 := Lib.hid (owns_past hr5 ((Only.refl [] w5).alloc (.cells #[.int .u64 nx, .int .u64 nx, .slice a5 n1 c5] 29))); have L5 := Lib.hid (fun hx => Nat.lt_irrefl _ (owns_lt hP5.snaps.own (k := w5.heap.size) hx)); have B5 := Lib.hid (Blk.new [.int .u64 nx, .int .u64 nx, .slice a5 n1 c5] 29 w5); have P5 := Lib.hid (hP5.past ((Only.refl [] w5).alloc (.cells #[.int .u64 nx, .int .u64 nx, .slice a5 n1 c5] 29))); clear hr5 hP5)
                | (go_at_call 23; refine (RB.out _ _ P5.out).mono ?_; rintro e w6 ⟨a6, c6, v6, R6, rfl, hr6, hap6, hP6, hO6⟩; have AP6 := Lib.hid hap6; have RX6 := Lib.hid (owns_past (owns_off R5.out hO6 (P5.out.refOff (by decide) (by decide))) ((Only.refl [] w6).alloc (.cells #[.int .u64 nx, .int .u64 nx, .slice a6 n1 c6] 29))); have RY6 := Lib.hid (owns_past hr6 ((Only.refl [] w6).alloc (.cells #[.int .u64 nx, .int .u64 nx, .slice a6 n1 c6] 29))); have P6 := Lib.hid (hP6.past ((Only.refl [] w6).alloc (.cells #[.int .u64 nx, .int .u64 nx, .slice a6 n1 c6] 29))); have BX6 := Lib.hid ((hO6.blk B5.out (fun hx => P5.out.refOff (e := 29) (by decide) (by decide) _ hx _ B5.out)).alloc (.cells #[.int .u64 nx, .int .u64 nx, .slice a6 n1 c6] 29)); have BY6 := Lib.hid (Blk.new [.int .u64 nx, .int .u64 nx, .slice a6 n1 c6] 29 w6); have x0 := BX6.out.cell 0; have x1 := BX6.out.cell 1; have x2 := BX6.out.cell 2; simp only [List.getElem?_cons_succ, List.getElem?_cons_zero] at x0 x1 x2; clear hr6 hap6 hP6 hO6)
                | (go_at_call 16; refine (hsnap_eq (op := S.nums) (nats_owned (rowN RX6.out HNL.out)) (nats_owned (rowN RY6.out HNL.out)) HL2.out nx nx).mono ?_; rintro e w7 ⟨rfl, hO7⟩; have P7 := Lib.hid (P6.out.past hO7); have RX7 := Lib.hid (owns_past RX6.out hO7); have RY7 := Lib.hid (owns_past RY6.out hO7); have BX7 := Lib.hid (hO7.blk BX6.out (by simp)); have BY7 := hO7.blk BY6.out (by simp); have z0 := BY7.cell 0; have z1 := BY7.cell 1; have z2 := BY7.cell 2; simp only [List.getElem?_cons_succ, List.getElem?_cons_zero] at z0 z1 z2; have A7 := Lib.hid ((Only.refl [] w7).alloc (.cells #[.int .u64 nx, .int .u64 nx, .slice a6 n1 c6] 29)); have N7 := Lib.hid (Blk.new [.int .u64 nx, .int .u64 nx, .slice a6 n1 c6] 29 w7); clear hO7 BY7)
                | (refine wpList_grow rfl (.tmp 164) (.tmp 166) 44 rfl 29 Try.underlying44 (info_parts info_snap) rfl (by omega) u8 Q.length (Q.flatMap snapCells) rfl (P7.out.past A7.out).snaps.own (some ⟨w7.heap.size, 0, none⟩) 1 1 rfl [.int .u64 nx, .int .u64 nx, .slice a6 n1 c6] rfl (fun _ => ⟨_, rfl, fun j u hj => N7.out.add_cell j u hj⟩) (by intro u hu; simp at hu; rcases hu with rfl | rfl | rfl <;> rfl) (by omega) (by decide) ?_; intro v8 w8 hg8; obtain ⟨a8, c8, rfl⟩ := hg8.shape; have P8 := Lib.hid ((P7.out.past A7.out).push (s := ⟨nx, nx, S.nums⟩) (sv := .slice a6 n1 c6) hg8 (rowN (owns_past RY7.out A7.out) HNL.out) HQ1.out ⟨by show S.nums.length ≤ k + 1; rw [HNL.out]; omega, HSP.out⟩ AP6.out); have BX8 := Lib.hid (hg8.only.blk (A7.out.blk BX7.out (by simp)) (fun hx => L5.out (by simpa using hx))); have RX8 := Lib.hid (owns_off (owns_past RX7.out A7.out) hg8.only (owns_foot (P7.out.past A7.out).snaps.own (by decide))); clear hg8))
              go_loopg [17] n1 (fun gk s17 wx => ∃ (q : Nat) (xs : List Value), gk = n1 - q ∧ q ≤ n1 ∧ s17 = .int .i64 q ∧ Only (Value.slice a5 n1 c5).ownBlock.toList w8 wx ∧ wx.ownsRow 0 26 1 (.slice a5 n1 c5) n1 xs)
              case atStart => exact ⟨0, _, rfl, Nat.zero_le _, rfl, Only.refl _ _, RX8.out⟩
              case round =>
                obtain ⟨q, xs, hgk2, hq, rfl, hO9, hr9⟩ := hrel
                have HG2 := Lib.hid hgk2
                have O9 := Lib.hid hO9
                have R9 := Lib.hid hr9
                have hxb : w5.heap.size ∉ (Value.slice a5 n1 c5).ownBlock.toList := fun hx => by
                  obtain ⟨_, _, cs, hb⟩ := P8.out.fr _ hx
                  exact BX8.out.ne hb (by decide) rfl
                have x2 := (hO9.blk BX8.out hxb).cell 2
                simp only [List.getElem?_cons_succ, List.getElem?_cons_zero] at x2
                clear hgk2 hO9 hr9 hxb x0 x1 z0 z1 z2
                by_cases hlt2 : q < n1
                · obtain ⟨g, rfl⟩ : ∃ g, a5 = some ⟨g, 0, none⟩ := by
                    rcases R9.out.2 with ⟨_, h0⟩ | ⟨g, cap', cur, h0, _⟩
                    · omega
                    · simp only [Value.slice.injEq] at h0
                      exact ⟨g, h0.1⟩
                  have hxl := R9.out.1
                  have cq := R9.out.cellAt q (by omega)
                  rw [List.getElem?_eq_getElem (by omega)] at cq
                  have fq := R9.out.frozenAt q
                  generalize xs[q] = old at *
                  have hqi : (q : Int) < n1 := by omega
                  have hq0 : (0 : Int) ≤ q := by omega
                  go_wp2_with fail
                  go_roundg (n1 - (q + 1))
                  case measure => rw [HG2.out]; omega
                  exact ⟨q + 1, _, rfl, by omega, by go_num, O9.out.setCell (.inl (by simp [Value.ownBlock])) _, owns_set R9.out q hlt2 _⟩
                · obtain rfl : q = n1 := by omega
                  go_wp2_with fail
                  go_meet
                  case rel => exact ⟨rfl, S.begin, v6, R6, _, (P8.out.wrote O9.out (fun x hx => owns_own R9.out (by simpa using hx))).free⟩
          · have h0 : what ≠ 0 := fun e => h01 (.inl e)
            have h1 : what ≠ 1 := fun e => h01 (.inr e)
            have P5 := Lib.hid (P4.out.past ((Only.refl [] wc).alloc (.cells #[.slice none 0 0, .int .u64 id, .int .u64 sc, .int .u64 0] 47)))
            have B5 := Lib.hid (B4.out.alloc (.cells #[.slice none 0 0, .int .u64 id, .int .u64 sc, .int .u64 0] 47))
            have V5 := Lib.hid (Blk.new [.slice none 0 0, .int .u64 id, .int .u64 sc, .int .u64 0] 47 wc)
            have p2 := B5.out.cell 2
            have p3 := B5.out.cell 3
            have p3' := B4.out.cell 3
            simp only [List.getElem?_cons_succ, List.getElem?_cons_zero] at p2 p3 p3'
            go_upto_region 18 with fail
            go_cut [71] from 72 to 244 (fun s71 wx => wx = wc.alloc (.cells #[.slice none 0 0, .int .u64 id, .int .u64 sc, .int .u64 0] 47) ∧ ∃ gb : Bool, s71 = .bool gb)
            case first => as_aux_lemma =>
              by_cases g1 : sb % 4 = 0
              · have g1i : ¬ (0 : Int) < (sb : Int) % 4 := by omega
                clear g1
                go_wp2_with fail
                go_meet
                case rel => exact ⟨rfl, _, rfl⟩
              · have g1i : (0 : Int) < (sb : Int) % 4 := by omega
                clear g1
                go_wp2_with fail
                go_meet
                case rel => exact ⟨rfl, _, rfl⟩
            case rest =>
              obtain ⟨rfl, gb, rfl⟩ := hcut
              go_upto_if 71 with fail
              go_cut [22] from 36 to 244 (fun s22 wx => ∃ (xm b : Nat), xm < 18446744073709551616 ∧ s22 = .pointer (some ⟨b, 0, none⟩) ∧ PlayAt w wx t bo bg k S r n0 v R S u8 Q [] ∧ Blk wx b [.slice none 0 0, .int .u64 id, .int .u64 xm, .int .u64 0] 47)
              case first => as_aux_lemma =>
                cases gb with
                | false =>
                  go_wp2_with fail
                  go_meet
                  case rel => exact ⟨sc, _, hcc, rfl, P5.out, V5.out⟩
                | true =>
                  obtain ⟨xm, hxm⟩ : ∃ xm, n0 + sc % 12 = xm := ⟨_, rfl⟩
                  have exm : (n0 : Int) + (sc : Int) % 12 = (xm : Int) := by omega
                  have hxmb : xm < 18446744073709551616 := by omega
                  have W5 := Lib.hid (Blk.new [.slice none 0 0, .int .u64 id, .int .u64 xm, .int .u64 0] 47 wc)
                  have Q5 := Lib.hid (P4.out.past ((Only.refl [] wc).alloc (.cells #[.slice none 0 0, .int .u64 id, .int .u64 xm, .int .u64 0] 47)))
                  have fv := V5.out.frozen 2
                  clear hxm
                  go_wp2_with fail
                  go_meet
                  case rel => exact ⟨xm, _, hxmb, rfl, Q5.out, W5.out⟩
              case rest => as_aux_lemma =>
                obtain ⟨xm, vb, hxm, rfl, hP6, hV6⟩ := hcut
                rename World => w6
                have P6 := Lib.hid hP6
                have V6 := Lib.hid hV6
                obtain ⟨zd, hd1, hd2⟩ := hP6.deads (by omega) hid hxm
                have D1 := Lib.hid hd1
                have D2 := Lib.hid hd2
                have y0 := hV6.cell 0
                have y1 := hV6.cell 1
                have y2 := hV6.cell 2
                have y3 := hV6.cell 3
                simp only [List.getElem?_cons_succ, List.getElem?_cons_zero] at y0 y1 y2 y3
                have HY0 := Later.cell y0
                have HY1 := Later.cell y1
                have HY2 := Later.cell y2
                have HY3 := Later.cell y3
                have hzz : (zd == zd) = true := by simp
                clear hP6 hV6 hd1 hd2 P4 B4 P5 B5 V5 p2 p3 p3' y0 y1 y2 y3 q0
                go_wp2_with fail
                refine wp_region_later (Only.refl _ _) (by kernel_rfl) (by kernel_rfl) ?_
                repeat (go_big_quiet_step ((first | (go_at_call 20; exact D1.out _) | (go_at_call 28; exact D2.out _))))
                refine wpQuiet_nil ?_
                rintro _ ⟨x7, rfl⟩
                obtain ⟨nq, hnq⟩ : ∃ nq, Q.length = nq := ⟨_, rfl⟩
                have HNQ := Lib.hid hnq
                obtain ⟨a8, c8, rfl⟩ : ∃ a8 c8, u8 = .slice a8 nq c8 := by
                  rw [← hnq]; exact owns_form P6.out.snaps.own
                have hnq100 : nq ≤ 100 := by have := P6.out.qlen; omega
                clear hnq hzz
                go_wp2_with fail
                go_loopg [11, 23] nq (fun gk s11 s23 wx => ∃ q : Nat, gk = nq - q ∧ q ≤ nq ∧ s11 = .bool true ∧ s23 = .int .i64 q ∧ Only [] w6 wx)
                case atStart => exact ⟨0, rfl, Nat.zero_le _, rfl, rfl, x7.h⟩
                case round =>
                  obtain ⟨q, hgk2, hq, rfl, rfl, hO8⟩ := hrel
                  rename World => wy
                  have HG2 := Lib.hid hgk2
                  have P8 := Lib.hid (P6.out.past hO8)
                  have O8 := Lib.hid hO8
                  have V8 := hO8.blk V6.out (by simp)
                  have y0 := V8.cell 0
                  have y1 := V8.cell 1
                  have y2 := V8.cell 2
                  have y3 := V8.cell 3
                  simp only [List.getElem?_cons_succ, List.getElem?_cons_zero] at y0 y1 y2 y3
                  have HY0 := Later.cell y0
                  have HY1 := Later.cell y1
                  have HY2 := Later.cell y2
                  have HY3 := Later.cell y3
                  clear hgk2 hO8 V8 y0 y1 y2 y3
                  by_cases hql : q < nq
                  · obtain ⟨g, c9, e9, own, pn, ap, np, cp, hc0, hc1, hc2, z1, z2, z3, ⟨hs1, hs2⟩, ⟨hv1, hv2⟩, hw1, hw2⟩ := P8.out.six (q := q) (by omega) (by rw [HNQ.out]; exact hql) hid hxm
                    simp only [Value.slice.injEq] at e9
                    obtain ⟨rfl, -, rfl⟩ := e9
                    have A1 := Lib.hid hs1
                    have A2 := Lib.hid hs2
                    have A3 := Lib.hid hv1
                    have A4 := Lib.hid hv2
                    have A5 := Lib.hid hw1
                    have A6 := Lib.hid hw2
                    have e1 : (z1 == z1) = true := by simp
                    have e2 : (z2 == z2) = true := by simp
                    have e3 : (z3 == z3) = true := by simp
                    have hqi : (q : Int) < nq := by omega
                    have hq0 : (0 : Int) ≤ q := by omega
                    clear hs1 hs2 hv1 hv2 hw1 hw2 hql
                    go_wp2_with fail
                    refine wp_region_later (Only.refl _ _) (by kernel_rfl) (by kernel_rfl) ?_
                    repeat (go_big_quiet_step ((first | (go_at_call 13; exact A1.out _) | (go_at_call 29; exact A2.out _) | (go_at_call 19; exact A3.out _) | (go_at_call 30; exact A4.out _) | (go_at_call 21; exact A5.out _) | (go_at_call 31; exact A6.out _))))
                    refine wpQuiet_nil ?_
                    rintro _ ⟨x9, rfl⟩
                    go_wp2_with fail
                    go_roundg (nq - (q + 1))
                    case measure => rw [HG2.out]; omega
                    exact ⟨q + 1, rfl, by omega, rfl, by go_num, O8.out.trans x9.h (by simp)⟩
                  · obtain rfl : q = nq := by omega
                    go_wp2_with fail
                    go_meet
                    case rel => exact ⟨rfl, S, v, R, Q, P8.out.more (Nat.le_succ _)⟩
        case rest => as_aux_lemma =>
          obtain ⟨rfl, S', v', R', Q', hP5⟩ := hcut
          rename World => w5
          have P5 := Lib.hid hP5
          clear hP5 P4 B4 q0
          obtain ⟨z, hz⟩ : ∃ z, S'.state id = z := ⟨_, rfl⟩
          obtain ⟨hh, hhh⟩ : ∃ hh, S'.horizon = hh := ⟨_, rfl⟩
          have ST : Hid (∀ w1, Only [] w5 w1 → Calls Try.prog 12 #[.pointer (some ⟨t, 0, none⟩), .int .u64 id] w1 fun e w' => e = .returned (.int .i64 z) ∧ Only [] w1 w') := fun w1 hO => (P5.out.past hO).tab.tab.state' id hz
          have RST : Hid (∀ w1, Only [] w5 w1 → Calls Try.prog 32 #[.pointer (some ⟨r, 0, none⟩), .int .u64 id] w1 fun e w' => e = .returned (.int .i64 z) ∧ Only [] w1 w') := fun w1 hO => by
            have := rstate_any (P5.out.past hO).ref id hid
            rwa [hz] at this
          have HO : Hid (∀ w1, Only [] w5 w1 → Calls Try.prog 11 #[.pointer (some ⟨t, 0, none⟩)] w1 fun e w' => e = .returned (.int .u64 hh) ∧ Only [] w1 w') := fun w1 hO => (P5.out.past hO).tab.tab.horizon' (by omega) hhh
          have RHO : Hid (∀ w1, Only [] w5 w1 → Calls Try.prog 33 #[.pointer (some ⟨r, 0, none⟩)] w1 fun e w' => e = .returned (.int .u64 hh) ∧ Only [] w1 w') := fun w1 hO => by
            have := rhor_any (P5.out.past hO).ref (by have := P5.out.len; omega) (fun p hp => by have := P5.out.ops p hp; omega)
            rwa [hhh] at this
          have OP : Hid (∀ w1, Only [] w5 w1 → Calls Try.prog 18 #[.pointer (some ⟨t, 0, none⟩)] w1 fun e w' => ∃ v, e = .returned v ∧ NatRow w1 w' v S'.nums) := fun w1 hO => (P5.out.past hO).tab.tab.openl (by omega)
          have ROP : Hid (∀ w1, Only [] w5 w1 → Calls Try.prog 34 #[.pointer (some ⟨r, 0, none⟩)] w1 fun e w' => ∃ v, e = .returned v ∧ NatRow w1 w' v S'.nums) := fun w1 hO => ropen_any (P5.out.past hO).ref (by have := P5.out.len; omega)
          have NL : Hid (S'.nums.length ≤ 1048576) := by
            show _ ≤ _
            have h1 := P5.out.tab.fine.len
            rw [TS.nums_len]; omega
          have hzz : (z != z) = false := by simp
          have hhz : ((hh : Int) != hh) = false := by simp
          clear hz hhh
          go_wp2_with (first
            | (go_at_call 12; refine (ST.out _ (Only.refl _ _)).mono ?_; rintro e w6 ⟨rfl, hO6⟩)
            | (go_at_call 32; refine (RST.out _ hO6).mono ?_; rintro e w7 ⟨rfl, hO7⟩; have hO67 := hO6.trans hO7 (by simp))
            | (go_at_call 11; refine (HO.out _ hO67).mono ?_; rintro e w8 ⟨rfl, hO8⟩; have hO68 := hO67.trans hO8 (by simp))
            | (go_at_call 33; refine (RHO.out _ hO68).mono ?_; rintro e w9 ⟨rfl, hO9⟩; have hO69 := hO68.trans hO9 (by simp))
            | (go_at_call 18; refine (OP.out _ hO69).mono ?_; rintro e w10 ⟨vo, rfl, hro, hno, hO10⟩; have hO610 := hO69.trans hO10 (by simp); have RO := Lib.hid hro; clear hro hno)
            | (go_at_call 34; refine (ROP.out _ hO610).mono ?_; rintro e w11 ⟨vr, rfl, hrr, hnr, hO11⟩; have hO611 := hO610.trans hO11 (by simp); have RR := Lib.hid hrr; have RO2 := Lib.hid (owns_past RO.out hO11); clear hrr hnr)
            | (go_at_call 17; refine (numbers_any (nats_owned RO2.out) (nats_owned RR.out) NL.out NL.out).mono ?_; rintro e w12 ⟨rfl, hO12⟩; have hO612 := hO611.trans hO12 (by simp)))
          go_roundg (m - (k + 1))
          case measure => rw [HGK.out]; omega
          exact ⟨k + 1, S', v', R', Q', rfl, by omega, by go_num, P5.out.past hO612⟩
    · obtain rfl : k = m := by omega
      go_wp2_with fail
      go_ret
      exact ⟨rfl, PP.out.tab.own.below (Nat.le_refl _) (by simp)⟩
end Go.Proofs.Ytilkbcoofbkemaa.T
