import Derived.Test.YtfkmjbpnjgnkbaaGreatMHqK
import Derived.Deep.LoopGhost
import Derived.Deep.MidRow
/-
  The walk of HeapPlays.
-/
namespace Go.Proofs.YtfkmjbpnjgnkbaaGreat.H
set_option linter.unusedSimpArgs false
open Go Go.RowKit Go.Proofs.YtfkmjbpnjgnkbaaGreat Go.Proofs.YtfkmjbpnjgnkbaaGreat.D Go.Proofs.YtfkmjbpnjgnkbaaGreat.B Go.Proofs.YtfkmjbpnjgnkbaaGreat.C Go.Proofs.YtfkmjbpnjgnkbaaGreat.G Go.Proofs.YtfkmjbpnjgnkbaaGreat.P
set_option linter.unusedVariables false
theorem fewH_yes {l : List StepD} (h : fewH l = true) : l.length ≤ 150 ∧ sumF l l.length ≤ 12000 := by
  unfold fewH at h
  simpa using h
theorem sumF_mono (l : List StepD) {a b : Nat} (h : a ≤ b) : sumF l a ≤ sumF l b := by
  induction b with
  | zero => have : a = 0 := by omega
            subst this; exact Nat.le_refl _
  | succ b ih =>
    rcases Nat.lt_or_ge a (b + 1) with h1 | h1
    · have := ih (by omega); show _ ≤ sumF l b + _; omega
    · have : a = b + 1 := by omega
      subst this; exact Nat.le_refl _
theorem info_step : (Tryz.prog.info? 45).map (·.size) = some 5 := by kernel_rfl
theorem pick_lt {V : Nat → Option Ver} {rows : List MRow} (h : Tells V rows) (i : Int) : pickR rows i < W64 := by
  unfold pickR
  split
  · have h1 : (0 : Int) ≤ IntKind.u64.wrap i ∧ IntKind.u64.wrap i < 18446744073709551616 := by rw [IntKind.wrap_u64]; omega
    unfold W64; omega
  · rename_i hc
    exact (h.ok (Nat.mod_lt _ (by omega))).2
/-- What holds between two steps. -/
def Plays (w : World) (p : Nat) (l : List StepD) (i hb B Mx : Nat) (rows : List MRow) (v : Value) (M : List Nat) (u : List Bool) (pg : Nat → List UInt8) (ids : List Nat) (wr : World) : Prop :=
  PlayL w p hb B Mx rows v (4 + 1000 * i) M u pg ids wr ∧ rows.length ≤ i ∧ Mx ≤ i ∧ rows.length ≤ Mx ∧ sumRows rows ≤ B ∧ B ≤ sumF l i
set_option maxRecDepth 100000 in
set_option maxHeartbeats 40000000 in
theorem hplays_main {w : World} {v : Value} {l : List StepD} (hl : StepsAt w v l) (hf : fewH l = true) (hbk : ∀ i, (l.getD i stepZ).row.length ≤ 1048576) :
    Calls Tryz.prog 4 #[v] w fun e w' => e = .returned (.bool true) ∧ Below w.heap.size w w' := by
  have K := Lib.hid (known_any w)
  have FW : Hid (∀ w1, Only [] w w1 → Calls Tryz.prog 11 #[v] w1 fun e w' => e = .returned (.bool true) ∧ w1 = w') := fun w1 hO => by
    have h := few_any (hl.past hO)
    rw [hf] at h
    exact h
  have MD : Hid (∀ w1, Only [] w w1 → Calls Tryz.prog 6 #[.int .i64 400] w1 fun e w' => ∃ p hb M, e = .returned (.tuple #[.pointer (some ⟨p, 0, none⟩), .pointer (some ⟨hb, 0, none⟩)]) ∧ Plays w p l 0 hb 0 0 [] (.slice none 0 0) M (usedN 400) pg0 [0] w') := fun w1 hO => by
    refine (made_any w1 400 (by omega) (by omega)).mono ?_
    rintro e w' ⟨p, hb, M, rfl, hM⟩
    exact ⟨p, hb, M, rfl, ⟨HeapL.made (by omega) hO hM, Tells.nil (heap_first (n := 400) (by omega)).2.2.2.2, Fits.first (n := 400) (by omega) _ _, RowOn.nil _ _ _, fun x hx => by simp [Value.ownBlock] at hx, by simp⟩, Nat.le_refl _, Nat.le_refl _, Nat.le_refl _, Nat.le_refl _, Nat.le_refl _⟩
  obtain ⟨f1, f2⟩ := fewH_yes hf
  obtain ⟨ao, cap, rfl, hm, hc⟩ := hl
  have HC := Lib.hid hc
  have F2 := Lib.hid f2
  have BK := Lib.hid hbk
  have MONO : Hid (∀ a b, a ≤ b → sumF l a ≤ sumF l b) := fun a b h => sumF_mono l h
  clear hc hm hf f2 hbk
  generalize l.length = n at *
  go_enter Tryz.func4, Tryz.ntmps4
  go_wp2_with (first
    | (go_at_call 5; refine K.out.mono ?_; rintro e w1 ⟨rfl, hO1⟩; have O1 := Lib.hid hO1; clear hO1)
    | (go_at_call 11; refine (FW.out _ O1.out).mono ?_; rintro e w3 ⟨rfl, rfl⟩)
    | (go_at_call 6; refine (MD.out _ O1.out).mono ?_; rintro e w2 ⟨p, hb, M2, rfl, hH2⟩; have H2 := Lib.hid hH2; clear hH2))
  go_loopg [4, 5, 6, 7, 8] n (fun gk s4 s5 s6 s7 s8 wr => ∃ (i hb B Mx : Nat) (rows : List MRow) (M : List Nat) (u : List Bool) (pg : Nat → List UInt8) (ids : List Nat), gk = n - i ∧ i ≤ n ∧ s4 = .pointer (some ⟨hb, 0, none⟩) ∧ s6 = .int .i64 Mx ∧ s7 = .int .i64 B ∧ s8 = .int .i64 i ∧ Plays w p l i hb B Mx rows s5 M u pg ids wr)
  case atStart => exact ⟨0, hb, 0, 0, [], M2, usedN 400, pg0, [0], rfl, Nat.zero_le _, rfl, rfl, rfl, rfl, H2.out⟩
  case round =>
    obtain ⟨i, hb, B, Mx, rows, M, u, pg, ids, hgk, hi, rfl, rfl, rfl, rfl, hP⟩ := hrel
    rename World => wr
    have HGK := Lib.hid hgk
    have PP := Lib.hid hP
    clear hgk hP H2 K FW MD
    by_cases hlt : i < n
    · have i0 : (0 : Int) ≤ i := by omega
      have i1 : (i : Int) < n := by omega
      obtain ⟨sb, so, rfl, hst⟩ := HC.out (by omega)
      obtain ⟨kv, hk⟩ := hst i hlt
      have SW := Lib.hid hk
      have hk := hk.past PP.out.1.heap.only
      have RNG : Hid (wr.rangeAt sb (so + i * 5) (stepCells (l.getD i stepZ) kv)) := fun t v hv => by
        have ht : t < 5 := by
          rcases Nat.lt_or_ge t 5 with h | h
          · exact h
          · rw [List.getElem?_eq_none (by simp [stepCells]; exact h)] at hv; cases hv
        rw [hk.cells t ht, hv]
      have SK := Lib.hid hk
      have SF : Hid (sumF l (i + 1) = sumF l i + min (l.getD i stepZ).row.length 500) := rfl
      have RLEN := Lib.hid (BK.out i)
      have SUMB : Hid (sumF l (i + 1) ≤ 12000) := by have := MONO.out (i + 1) n (by omega); have := F2.out; show _ ≤ _; omega
      clear hst hk
      generalize l.getD i stepZ = s at *
      obtain ⟨what, si, sk, row, x⟩ := s
      simp only [stepCells] at RNG
      have US := Tryz.underlying45
      have IS : (Tryz.prog.info? 45).map (·.size) = some 5 := info_step
      have O9 : Hid (Only [] wr (wr.alloc (.cells #[.int .i64 0, .int .i64 0, .int .i64 0, .slice none 0 0, .int .u64 0] 45))) := (Only.refl _ _).alloc _
      have ONE : Hid (∀ u ∈ [Value.int .i64 what, .int .i64 si, .int .i64 sk, kv, .int .u64 (x : Nat)], u.oneCell' = true) := by
        obtain ⟨ak, kc, e, _⟩ := SK.out.bytes.1
        intro u hu
        rw [e] at hu
        simp only [List.mem_cons, List.not_mem_nil, or_false] at hu
        rcases hu with rfl | rfl | rfl | rfl | rfl <;> rfl
      obtain ⟨ao5, cap5, rfl, hc5, _⟩ := PP.out.1.row.shape
      have RA := Lib.hid (rows_at PP.out.1.row)
      have RL : Hid (rows.length ≤ 150) := by have := PP.out.2.1; show _ ≤ _; omega
      have RP : Hid (∀ w1, Only [] wr w1 → RowsAt w1 (.slice ao5 rows.length cap5) rows) := fun w1 hO => rows_at (PP.out.1.row.past hO)
      have PK : Hid (∀ w1, Only [] wr w1 → Calls Tryz.prog 12 #[.slice ao5 rows.length cap5, .int .i64 si] w1 fun e w' => e = .returned (.int .u64 (pickR rows si : Nat)) ∧ w1 = w') := fun w1 hO => pick_any (RP.out w1 hO) (by have := RL.out; omega) si SK.out.i
      have AT : Hid (∀ w1 r, Only [] wr w1 → Calls Tryz.prog 13 #[.slice ao5 rows.length cap5, .int .u64 (r : Nat)] w1 fun e w' => e = .returned (.int .i64 (atR rows r)) ∧ w1 = w') := fun w1 r hO => at_any (RP.out w1 hO) (by have := RL.out; omega) r
      have RW := Lib.hid (pick_lt PP.out.1.tells si)
      obtain ⟨r, hr⟩ : ∃ r, pickR rows si = r := ⟨_, rfl⟩
      rw [hr] at PK RW
      have HPR := Lib.hid hr
      clear hr
      obtain ⟨kz, hkz⟩ : ∃ kz, atR rows r = kz := ⟨_, rfl⟩
      have ATr : Hid (∀ w1, Only [] wr w1 → Calls Tryz.prog 13 #[.slice ao5 rows.length cap5, .int .u64 (r : Nat)] w1 fun e w' => e = .returned (.int .i64 kz) ∧ w1 = w') := fun w1 hO => by
        have := AT.out w1 r hO
        rwa [hkz] at this
      have KZ := Lib.hid hkz
      clear hkz
      go_upto_if 62 with (first
        | (refine wpList_load_mid rfl 45 (.tmp 52) rfl sb (so + i * 5) rfl [.int .i64 what, .int .i64 si, .int .i64 sk, kv, .int .u64 (x : Nat)] _ RNG.out US rfl IS ?_)
        | (refine wpList_store_blk rfl 45 (.tmp 9) (.tmp 53) rfl wr.heap.size [.int .i64 what, .int .i64 si, .int .i64 sk, kv, .int .u64 (x : Nat)] rfl rfl (Blk.new' #[.int .i64 0, .int .i64 0, .int .i64 0, .slice none 0 0, .int .u64 0] 45 wr rfl) rfl IS ONE.out ?_; intro w2 hb2 hO2; have O2 : Hid (Only [] wr w2) := ((O9.out).trans hO2 (fun y hy => by simp at hy; subst hy; exact .inr (Nat.le_refl _))); have B2 := Lib.hid hb2; have c0 := hb2.cell 0; have c1 := hb2.cell 1; have c2 := hb2.cell 2; have c3 := hb2.cell 3; have c4 := hb2.cell 4; simp only [List.getElem?_cons_succ, List.getElem?_cons_zero] at c0 c1 c2 c3 c4; clear hb2 hO2)
        | (go_at_call 12; refine (PK.out _ O2.out).mono ?_; rintro e w3 ⟨rfl, rfl⟩)
        | (go_at_call 13; refine (ATr.out _ O2.out).mono ?_; rintro e w4 ⟨rfl, rfl⟩))
      obtain ⟨wv, hwv⟩ : ∃ wv : Int, (if kz < 0 then 91 else 0) = wv := ⟨_, rfl⟩
      have WV := Lib.hid hwv
      go_cut [12] from 44 to 259 (fun s12 wx => s12 = .int .i64 wv ∧ wx = w2)
      case first =>
        by_cases hneg : kz < 0
        · rw [if_pos hneg] at hwv
          subst hwv
          go_wp2_with fail
          go_meet
          case rel => exact ⟨rfl, rfl⟩
        · rw [if_neg hneg] at hwv
          subst hwv
          go_wp2_with fail
          go_meet
          case rel => exact ⟨rfl, rfl⟩
      case rest =>
        obtain ⟨rfl, rfl⟩ := hcut
        clear hwv
        by_cases hins : what = 0 ∨ what = 1 ∨ what = 2 ∨ what = 3
        · as_aux_lemma =>
          go_upto_if 91 with fail
          go_cut [91] from 92 to 259 (fun s91 wx => s91 = .bool true ∧ wx = wc)
          case first =>
            rcases hins with rfl | rfl | rfl | rfl
            · go_wp2_with fail
              go_meet
              case rel => exact ⟨rfl, rfl⟩
            · go_wp2_with fail
              go_meet
              case rel => exact ⟨rfl, rfl⟩
            · go_wp2_with fail
              go_meet
              case rel => exact ⟨rfl, rfl⟩
            · go_wp2_with fail
              go_meet
              case rel => exact ⟨rfl, rfl⟩
          case rest =>
            obtain ⟨rfl, rfl⟩ := hcut
            clear hins PK
            obtain ⟨ak, kc, hkv, _⟩ := SK.out.bytes.1
            subst hkv
            have NEWS := Lib.hid (bytes_news (SK.out.past O2.out).bytes.1).2
            go_upto_region 29 with (at_builtin; refine wpList_grow rfl (.const (.slice none 0 0)) (.tmp 97) 33 rfl 5 Tryz.underlying33 (info_parts info_byteH) rfl (by decide) (.slice none 0 0) 0 [] rfl ⟨rfl, .inl ⟨rfl, rfl⟩⟩ ak row.length kc rfl (u8s row) (by rw [length_u8s, Nat.mul_one]) NEWS.out (u8s_oneCell _) (by have h0 : row.length ≤ 1048576 := RLEN.out; omega) (by decide) ?_; intro v5 w5 hg5; obtain ⟨hr5, hO5, hn5, a5, cp5, rfl⟩ := lent_row hg5 rfl; have R5 := Lib.hid hr5; have N5 := Lib.hid hn5; have O5 := Lib.hid hO5; have d3 := hO5.cell c3 (by simp); have d4 := hO5.cell c4 (by simp); clear hg5 hr5 hO5 hn5)
            by_cases hbad : row.length < 1 ∨ 370 < row.length
            · have INO : Hid (∀ v1, BytesAt w5 v1 row → Calls Tryz.prog 7 #[.pointer (some ⟨hb, 0, none⟩), v1, .int .u64 (x : Nat)] w5 fun e w' => e = .returned (.tuple #[.int .u64 0, .int .i64 90]) ∧ Only [] w5 w') := fun v1 hv => hinsert_no hv x hbad
              have HBAD := Lib.hid hbad
              clear hbad
              go_upto_region 31 with (first
                | (go_at_call 7; refine (INO.out _ R5.out.at).mono ?_; rintro e w6 ⟨rfl, hO6⟩; have R6 := Lib.hid (owns_past R5.out hO6); have O6 := Lib.hid (O5.out.trans hO6 (by simp)); clear hO6)
                | (go_at_call 14; refine (spoil_row R6.out RLEN.out).mono ?_; rintro e w7 ⟨rfl, hO7⟩; have O7 : Hid (Only [] wc w7) := O6.out.trans hO7 (fun y hy => .inr (N5.out y (Option.mem_toList.1 hy))); have e3 := O7.out.cell c3 (by simp); have e4 := O7.out.cell c4 (by simp); clear hO7))
              clear d3 d4 c0 c1 c2 c3 c4
              have NXT : Hid (Plays w p l (i + 1) hb B Mx rows (.slice ao5 rows.length cap5) M u pg ids w7) := ⟨(PP.out.1.past (O2.out.trans O7.out (by simp))).more (by omega), by have := PP.out.2.1; omega, by have := PP.out.2.2.1; omega, PP.out.2.2.2.1, PP.out.2.2.2.2.1, Nat.le_trans PP.out.2.2.2.2.2 (MONO.out _ _ (by omega))⟩
              rcases HBAD.out with h1 | h1
              · have h2 : (row.length : Int) < 1 := by omega
                go_wp2_with fail
                go_roundg (n - (i + 1))
                case measure => have := HGK.out; omega
                case rel => exact ⟨i + 1, hb, B, Mx, rows, M, u, pg, ids, rfl, by omega, rfl, rfl, rfl, by go_num, NXT.out⟩
              · have h2 : ¬ (row.length : Int) < 1 := by omega
                have h3 : (370 : Int) < row.length := by omega
                go_wp2_with fail
                go_roundg (n - (i + 1))
                case measure => have := HGK.out; omega
                case rel => exact ⟨i + 1, hb, B, Mx, rows, M, u, pg, ids, rfl, by omega, rfl, rfl, rfl, by go_num, NXT.out⟩
            · have hg1 : 1 ≤ row.length := by omega
              have hg2 : row.length ≤ 370 := by omega
              obtain ⟨B', hB'⟩ : ∃ B', max B (sumRows rows + row.length) = B' := ⟨_, rfl⟩
              obtain ⟨Mx', hMx'⟩ : ∃ Mx', max Mx (rows.length + 1) = Mx' := ⟨_, rfl⟩
              have BB : Hid (B ≤ B' ∧ Mx ≤ Mx' ∧ sumRows rows + row.length ≤ B' ∧ rows.length + 1 ≤ Mx' ∧ Mx' ≤ i + 1 ∧ B' ≤ sumF l (i + 1)) := by
                have hsf : sumF l (i + 1) = sumF l i + min row.length 500 := SF.out
                obtain ⟨q1, q2, q3, q4, q5⟩ := PP.out.2
                show _ ∧ _ ∧ _ ∧ _ ∧ _ ∧ _
                omega
              have EB := Lib.hid hB'
              have EM := Lib.hid hMx'
              have ILEN : Hid (ids.length ≤ 147) := by
                have h1 := PP.out.1.fits.few
                have h2 := MONO.out i (i + 1) (by omega)
                have h3 : sumF l (i + 1) ≤ 12000 := SUMB.out
                have h4 := PP.out.2.2.2.2.2
                have h5 := PP.out.2.2.1
                show _ ≤ _
                omega
              have INS : Hid (∀ v1, BytesAt w5 v1 row → (∀ a n c, v1 = .slice (some a) n c → a.block ∉ M ∧ a.block < w5.heap.size) → Calls Tryz.prog 7 #[.pointer (some ⟨hb, 0, none⟩), v1, .int .u64 (x : Nat)] w5 fun e w' => ∃ r' u' pg' ids' M', e = .returned (.tuple #[.int .u64 (r' : Nat), .int .i64 0]) ∧ 1 ≤ r' ∧ r' < W64 ∧ atR rows r' = -1 ∧ HeapL w p hb 400 M' u' pg' ids' (4 + 1000 * i + 2 * ids.length + 8) w' ∧ (∀ rv, Tells (verR pg' ids') (rows ++ [⟨r', rv, ⟨row, x, 0, 0⟩⟩])) ∧ Fits pg' ids' B' Mx' ∧ Step M M' w5 w') := fun v1 hv hM => by
                have h0 := ILEN.out
                obtain ⟨q1, q2, q3, q4, q5, q6⟩ := BB.out
                have h3 : sumF l (i + 1) ≤ 12000 := SUMB.out
                exact (PP.out.1.past (O2.out.trans O5.out (by simp))).insert (by omega) (by omega) hv hM x SK.out.x hg1 hg2 q1 q2 q3 q4 (by omega) (by omega)
              have MB : Hid (∀ a n c, (Value.slice a5 row.length cp5) = .slice (some a) n c → a.block ∉ M ∧ a.block < w5.heap.size) := fun a n c h => by
                have h1 := N5.out _ (own_at h)
                have h2 := owns_lt R5.out (own_at h)
                have h3 := PP.out.1.heap.pool.lt
                have h4 := O2.out.size
                exact ⟨fun hm => by have := h3 _ hm; omega, h2⟩
              have BX5 := Lib.hid (O5.out.blk B2.out (by simp))
              have WRM : Hid (wr.heap.size ∉ M) := fun hm => Nat.lt_irrefl _ (PP.out.1.heap.pool.lt _ hm)
              have V5M : Hid (∀ y, (Value.slice a5 row.length cp5).ownBlock = some y → y ∉ M) := fun y hy hm => by
                have h1 := N5.out y hy
                have h3 := PP.out.1.heap.pool.lt _ hm
                have h4 := O2.out.size
                omega
              have P5 := Lib.hid (PP.out.1.past (O2.out.trans O5.out (by simp)))
              have h2 : ¬ (row.length : Int) < 1 := by omega
              have h3 : ¬ (370 : Int) < row.length := by omega
              clear hB' hMx' hbad
              go_upto_region 31 with (first
                | (go_at_call 7; refine (INS.out _ R5.out.at MB.out).mono ?_; rintro e w6 ⟨r', u', pg', ids', M', rfl, hr1, hr2, hat, hH, hT, hF, hS⟩; have AT6 := Lib.hid hat; have H6 := Lib.hid hH; have T6 := Lib.hid hT; have F6 := Lib.hid hF; have S6 := Lib.hid hS; have R6 := Lib.hid (owns_later R5.out hS.1 V5M.out); have BX6 := Lib.hid (hS.1.blk BX5.out WRM.out); clear hat hH hT hF hS)
                | (go_at_call 14; refine (spoil_row R6.out RLEN.out).mono ?_; rintro e w7 ⟨rfl, hO7⟩; have O7 := Lib.hid hO7; have bx7 := hO7.blk BX6.out (fun hm => owns_ne R6.out BX6.out (by decide) (Option.mem_toList.1 hm)); have e3 := bx7.cell 3; have e4 := bx7.cell 4; simp only [List.getElem?_cons_succ, List.getElem?_cons_zero] at e3 e4; clear hO7 bx7))
              clear d3 d4 c0 c1 c2 c3 c4
              have r1 : ((r' : Int) == 0) = false := beq_eq_false_iff_ne.2 (by omega)
              have r2 : ¬ (r' : Int) = 0 := by omega
              have RW7 : Hid (RowOn w7 52 5 (.slice ao5 rows.length cap5) rows.length (flatR rows)) := (P5.out.row.later S6.out.1 (fun y hy => (P5.out.rowNew y hy).2.1)).later O7.out (fun y hy hy2 => by
                have h1 := N5.out y (Option.mem_toList.1 hy2)
                have h3 := PP.out.1.row.lt hy
                have h4 := O2.out.size
                omega)
              have AT7 : Hid (Calls Tryz.prog 13 #[.slice ao5 rows.length cap5, .int .u64 (r' : Nat)] w7 fun e w' => e = .returned (.int .i64 (-1)) ∧ w7 = w') := by
                have h := at_any (rows_at RW7.out) (by have := RL.out; omega) r'
                rw [AT6.out] at h
                exact h
              go_upto_region 36 with (go_at_call 13; refine AT7.out.mono ?_; rintro e w8 ⟨rfl, rfl⟩)
              have ONL7 : Hid (Only [] w w7) := H6.out.only.trans O7.out (fun y hy => .inr (by have h1 := N5.out y (Option.mem_toList.1 hy); have h2 := PP.out.1.heap.only.size; have h3 := O2.out.size; omega))
              have NEWS7 := Lib.hid (bytes_news (SW.out.past ONL7.out.drew).bytes.1).2
              have P2 := Lib.hid (PP.out.1.past O2.out)
              have WV5 : Hid (∀ y ∈ (Value.slice ao5 rows.length cap5).ownBlock.toList, y < wr.heap.size) := fun y hy => PP.out.1.row.lt (Option.mem_toList.1 hy)
              clear h2 h3 r1 r2 NEWS AT7 INS MB V5M
              refine wp_region_held_drew (S := fun w' => w'.cell? ⟨wr.heap.size, 3, none⟩ = some (.slice ak row.length kc) ∧ w'.cell? ⟨wr.heap.size, 4, none⟩ = some (.int .u64 (x : Nat))) (by kernel_rfl) ⟨e3, e4⟩ (fun hHeld => ?_)
              refine take_at 0 137 (.slice ao5 rows.length cap5) rfl rfl (by kernel_rfl) (by kernel_rfl) (by kernel_rfl) (fun _ _ _ h => h) (yields_move (by rfl) (.tmp 5) rfl rfl) hHeld ?_
              (try simp only [Act.put, List.setIfInBounds_toArray, List.set_cons_zero, List.set_cons_succ])
              refine take_at 1 138 (.int .u64 (r' : Nat)) rfl rfl (by kernel_rfl) (by kernel_rfl) (by kernel_rfl) (fun _ _ _ h => h) (yields_move (by rfl) (.tmp 14) rfl rfl) hHeld ?_
              (try simp only [Act.put, List.setIfInBounds_toArray, List.set_cons_zero, List.set_cons_succ])
              refine take_at 2 139 (.pointer (some ⟨wr.heap.size, 3, none⟩)) rfl rfl (by kernel_rfl) (by kernel_rfl) (by kernel_rfl) (fun _ _ _ h => h) (yields_field (by rfl) 45 (.tmp 9) 3 rfl (.pointer (some ⟨wr.heap.size, 0, none⟩)) rfl (step_f3 _)) hHeld ?_
              (try simp only [Act.put, List.setIfInBounds_toArray, List.set_cons_zero, List.set_cons_succ])
              refine take_at 3 140 (.slice ak row.length kc) rfl rfl (by kernel_rfl) (by kernel_rfl) (by kernel_rfl) (fun _ _ _ h => h) (yields_load (by rfl) 33 (.tmp 139) rfl (.pointer (some ⟨wr.heap.size, 3, none⟩)) rfl (fun w1 h1 => load_slice h1.1)) hHeld ?_
              (try simp only [Act.put, List.setIfInBounds_toArray, List.set_cons_zero, List.set_cons_succ])
              refine take_at 5 142 (.pointer (some ⟨wr.heap.size, 4, none⟩)) rfl rfl (by kernel_rfl) (by kernel_rfl) (by kernel_rfl) (fun _ _ _ h => h) (yields_field (by rfl) 45 (.tmp 9) 4 rfl (.pointer (some ⟨wr.heap.size, 0, none⟩)) rfl (step_f4 _)) hHeld ?_
              (try simp only [Act.put, List.setIfInBounds_toArray, List.set_cons_zero, List.set_cons_succ])
              refine take_at 6 143 (.int .u64 (x : Nat)) rfl rfl (by kernel_rfl) (by kernel_rfl) (by kernel_rfl) (fun _ _ _ h => h) (yields_load (by rfl) 28 (.tmp 142) rfl (.pointer (some ⟨wr.heap.size, 4, none⟩)) rfl (fun w1 h1 => load_u64 h1.2)) hHeld ?_
              (try simp only [Act.put, List.setIfInBounds_toArray, List.set_cons_zero, List.set_cons_succ])
              refine one_at 4 rfl (by kernel_rfl) (by rfl) (fun K hK => ?_)
              refine grow_at 141 rfl (.const (.slice none 0 0)) (.tmp 140) 33 rfl 5 Tryz.underlying33 (info_parts info_byteH) rfl (by decide) (.slice none 0 0) 0 [] rfl ⟨rfl, .inl ⟨rfl, rfl⟩⟩ ak row.length kc rfl (u8s row) (by rw [length_u8s, Nat.mul_one]) NEWS7.out (u8s_oneCell _) (by omega) (by decide) ?_
              intro v8 w8 hg8
              obtain ⟨hr8, hO8, hn8, a8, cp8, rfl⟩ := lent_row hg8 rfl
              have f3 := hO8.cell (p := ⟨wr.heap.size, 3, none⟩) hHeld.1 (by simp)
              have f4 := hO8.cell (p := ⟨wr.heap.size, 4, none⟩) hHeld.2 (by simp)
              refine hK.out _ _ ⟨f3, f4⟩ ?_
              clear hK K hHeld hg8 e3 e4
              have hHeld := And.intro f3 f4
              (try simp only [Act.put, List.setIfInBounds_toArray, List.set_cons_zero, List.set_cons_succ])
              refine take_at 7 144 (.agg #[.slice a8 row.length cp8, .int .u64 (x : Nat), .int .u64 0, .int .u64 0]) rfl rfl (by kernel_rfl) (by kernel_rfl) (by kernel_rfl) (fun _ _ _ h => h) (yields_build (by rfl) 50 #[(0, .tmp 141), (1, .tmp 143)] rfl #[(0, .slice a8 row.length cp8), (1, .int .u64 (x : Nat))] (by simp only [List.map_toArray, List.map_cons, List.map_nil]; rfl) (build_ver _ _ _ _)) hHeld ?_
              (try simp only [Act.put, List.setIfInBounds_toArray, List.set_cons_zero, List.set_cons_succ])
              refine take_at 8 145 (.agg #[.int .u64 (r' : Nat), .slice a8 row.length cp8, .int .u64 (x : Nat), .int .u64 0, .int .u64 0]) rfl rfl (by kernel_rfl) (by kernel_rfl) (by kernel_rfl) (fun _ _ _ h => h) (yields_build (by rfl) 52 #[(0, .tmp 138), (1, .tmp 144)] rfl #[(0, .int .u64 (r' : Nat)), (1, .agg #[.slice a8 row.length cp8, .int .u64 (x : Nat), .int .u64 0, .int .u64 0])] (by simp only [List.map_toArray, List.map_cons, List.map_nil]; rfl) (build_row _ _ _ _ _)) hHeld ?_
              (try simp only [Act.put, List.setIfInBounds_toArray, List.set_cons_zero, List.set_cons_succ])
              have OA8 : Hid (Only [] w8 (w8.alloc (.cells #[.int .u64 (r' : Nat), .slice a8 row.length cp8, .int .u64 (x : Nat), .int .u64 0, .int .u64 0] 52))) := (Only.refl [] w8).alloc _
              have BA8 := Lib.hid (Blk.new' #[.int .u64 (r' : Nat), .slice a8 row.length cp8, .int .u64 (x : Nat), .int .u64 0, .int .u64 0] 52 w8 rfl)
              have g3 := OA8.out.cell f3 (by simp)
              have g4 := OA8.out.cell f4 (by simp)
              have RWC : Hid (RowOn (w8.alloc (.cells #[.int .u64 (r' : Nat), .slice a8 row.length cp8, .int .u64 (x : Nat), .int .u64 0, .int .u64 0] 52)) 52 5 (.slice ao5 rows.length cap5) rows.length (flatR rows)) := RW7.out.past (((Only.refl [] w7).drew.trans hO8 (by simp)).trans OA8.out (by simp))
              refine one_at 9 rfl (by kernel_rfl) (by rfl) (fun K hK => ?_)
              refine buildSlice_at 146 rfl 43 1 #[(0, .tmp 145)] rfl #[(0, .agg #[.int .u64 (r' : Nat), .slice a8 row.length cp8, .int .u64 (x : Nat), .int .u64 0, .int .u64 0])] (by simp only [List.map_toArray, List.map_cons, List.map_nil]; rfl) (slice_row _ _ _ _ _ _) ?_
              refine hK.out _ _ ⟨g3, g4⟩ ?_
              clear hK K hHeld
              (try simp only [Act.put, List.setIfInBounds_toArray, List.set_cons_zero, List.set_cons_succ])
              refine one_at 10 rfl (by kernel_rfl) (by rfl) (fun K hK => ?_)
              refine on_at 147 rfl (.tmp 137) (.tmp 146) 43 rfl 52 Tryz.underlying43 (info_parts info_mrow) rfl (.slice ao5 rows.length cap5) rows.length (flatR rows) rfl RWC.out (some ⟨w8.heap.size, 0, none⟩) 1 1 rfl (rowC ⟨r', .slice a8 row.length cp8, ⟨row, x, 0, 0⟩⟩) rfl (fun _ => ⟨_, rfl, fun j u hj => by rw [add_plain, Nat.zero_add]; exact (BA8.out.cell j).trans hj⟩) (rowC_one _ rfl) (by have := RL.out; omega) (by decide) ?_
              intro v9 w9 hg9 hsh9
              obtain ⟨a9, c9, rfl⟩ := hsh9
              have i3 := hg9.only.cell g3 (fun hm => Nat.lt_irrefl _ (WV5.out _ hm))
              have i4 := hg9.only.cell g4 (fun hm => Nat.lt_irrefl _ (WV5.out _ hm))
              refine hK.out _ _ ⟨i3, i4⟩ ?_
              clear hK K
              have P9 := Lib.hid (P2.out.insertedAll O5.out H6.out T6.out F6.out S6.out R5.out N5.out O7.out ((Only.refl [] w7).drew.trans hO8 (by simp)) hr8 hn8 OA8.out hg9)
              clear f3 f4 g3 g4 hr8 hO8 hn8 hg9
              (try simp only [Act.put, List.setIfInBounds_toArray, List.set_cons_zero, List.set_cons_succ])
              refine take_at 11 5 (.slice a9 (rows.length + 1) c9) rfl rfl (by kernel_rfl) (by kernel_rfl) (by kernel_rfl) (fun _ _ _ h => h) (yields_assign (by rfl) (.tmp 147) rfl rfl) ⟨i3, i4⟩ ?_
              (try simp only [Act.put, List.setIfInBounds_toArray, List.set_cons_zero, List.set_cons_succ])
              clear i3 i4
              refine wpAnyH_done (by kernel_rfl) ?_ _
              have ROWS := Lib.hid (rows_at P9.out.row)
              have L2 : Hid ((rows ++ [(⟨r', .slice a8 row.length cp8, ⟨row, x, 0, 0⟩⟩ : MRow)]).length = rows.length + 1) := by show _ = _; rw [List.length_append]; rfl
              have S2 : Hid (sumRows (rows ++ [(⟨r', .slice a8 row.length cp8, ⟨row, x, 0, 0⟩⟩ : MRow)]) = sumRows rows + row.length) := by show _ = _; rw [sumRows_append]; simp [sumRows]
              have rl150 : rows.length ≤ 150 := RL.out
              generalize rows ++ [(⟨r', .slice a8 row.length cp8, ⟨row, x, 0, 0⟩⟩ : MRow)] = rows2 at *
              go_wp2_with fail
              go_loopg [16, 17] (rows.length + 1) (fun gz s16 s17 wx => ∃ j : Nat, gz = rows.length + 1 - j ∧ j ≤ rows.length + 1 ∧ s16 = .int .i64 (sumRows (rows2.take j) : Nat) ∧ s17 = .int .i64 j ∧ wx = w9)
              case atStart => exact ⟨0, rfl, Nat.zero_le _, rfl, rfl, rfl⟩
              case round =>
                obtain ⟨j, hgz, hj, rfl, rfl, rfl⟩ := hrel
                have HGZ := Lib.hid hgz
                clear hgz
                have BS : Hid (sumRows rows2 ≤ 12000) := by
                  have h1 := S2.out
                  have h2 := BB.out
                  have h3 : sumF l (i + 1) ≤ 12000 := SUMB.out
                  show _ ≤ _
                  omega
                by_cases hlj : j < rows.length + 1
                · have j0 : (0 : Int) ≤ j := by omega
                  have j1 : (j : Int) < (rows.length : Int) + 1 := by omega
                  have j2 : (j : Int) < ((rows.length + 1 : Nat) : Int) := by omega
                  obtain ⟨b, o, rfl, hcap, hcell⟩ := ROWS.out.row L2.out hlj
                  obtain ⟨ra, rc, hrv⟩ := P9.out.shape (i := j) (by rw [L2.out]; exact hlj)
                  have cj := hcell 1 (by omega)
                  simp only [rowC, List.getElem?_cons_succ, List.getElem?_cons_zero] at cj
                  rw [hrv] at cj
                  have STK := Lib.hid (sumRows_take (l := rows2) (j := j) (by rw [L2.out]; exact hlj))
                  have hsm : sumRows (rows2.take j) + (rows2.getD j mz).ver.row.length ≤ 12000 := by
                    have h1 := sumRows_le (l := rows2) (j := j + 1)
                    have h2 := BS.out
                    have h3 := STK.out
                    omega
                  clear hcell hrv
                  generalize (rows2.getD j mz).ver.row.length = ml at *
                  generalize sumRows (rows2.take j) = sj at *
                  go_wp2_with fail
                  go_roundg (rows.length + 1 - (j + 1))
                  case measure => have := HGZ.out; omega
                  case rel => exact ⟨j + 1, rfl, by omega, by first | (rw [STK.out]; done) | (rw [STK.out]; congr 1; done) | (rw [STK.out]; congr 1; omega), by go_num, rfl⟩
                · obtain rfl : j = rows.length + 1 := by omega
                  have j1 : ¬ ((rows.length : Int) + 1 < (rows.length : Int) + 1) := by omega
                  have E1 : Hid (sumRows (rows2.take (rows.length + 1)) = sumRows rows + row.length) := by
                    have h := L2.out
                    show _ = _
                    rw [← h, List.take_length, S2.out]
                  have hs2 : sumRows (rows2.take (rows.length + 1)) ≤ 12000 := by have h1 := E1.out; have h2 := S2.out; have h3 := BS.out; omega
                  generalize sumRows (rows2.take (rows.length + 1)) = sj at *
                  go_wp2_with fail
                  go_roundg (n - (i + 1))
                  case measure => have := HGK.out; omega
                  case rel => exact ⟨i + 1, hb, B', Mx', rows2, M', u', pg', ids', rfl, by omega, rfl, by have := EM.out; first | (congr 1; done) | (congr 1; omega), by have := EB.out; have := E1.out; first | (congr 1; done) | (congr 1; omega), by go_num, P9.out.more (by have := ILEN.out; omega), by rw [L2.out]; have := PP.out.2.1; omega, BB.out.2.2.2.2.1, by rw [L2.out]; exact BB.out.2.2.2.1, by rw [S2.out]; exact BB.out.2.2.1, BB.out.2.2.2.2.2⟩
        · by_cases h45 : what = 4 ∨ what = 5
          · as_aux_lemma =>
            have n0 : (what == (0 : Int)) = false := by rcases h45 with rfl | rfl <;> rfl
            have n1 : (what == (1 : Int)) = false := by rcases h45 with rfl | rfl <;> rfl
            have n2 : (what == (2 : Int)) = false := by rcases h45 with rfl | rfl <;> rfl
            have n3 : (what == (3 : Int)) = false := by rcases h45 with rfl | rfl <;> rfl
            go_upto_if 170 with fail
            go_cut [170] from 171 to 259 (fun s170 wx => s170 = .bool true ∧ wx = wc)
            case first =>
              rcases h45 with rfl | rfl
              · go_wp2_with fail
                go_meet
                case rel => exact ⟨rfl, rfl⟩
              · go_wp2_with fail
                go_meet
                case rel => exact ⟨rfl, rfl⟩
            case rest =>
              obtain ⟨rfl, rfl⟩ := hcut
              clear h45 hins n0 n1 n2 n3
              have PKk : Hid (Calls Tryz.prog 12 #[.slice ao5 rows.length cap5, .int .i64 sk] wc fun e w' => e = .returned (.int .u64 (pickR rows sk : Nat)) ∧ wc = w') := pick_any (RP.out wc O2.out) (by have := RL.out; omega) sk SK.out.k
              have NXW := Lib.hid (pick_lt PP.out.1.tells sk)
              obtain ⟨nx, hnx⟩ : ∃ nx, pickR rows sk = nx := ⟨_, rfl⟩
              rw [hnx] at PKk NXW
              have XW : Hid (x < W64) := SK.out.x
              have P2 := Lib.hid (PP.out.1.past O2.out)
              have PQ := Lib.hid PP.out.2
              clear hnx PK c0 c1
              rcases atR_cases rows r with hno | ⟨k, hk, hyes, hrid⟩
              · have hk1 : kz = -1 := by rw [← KZ.out, hno]
                have hw1 : wv = 91 := by rw [← WV.out, hk1]; rfl
                subst hk1 hw1
                have ST := Lib.hid (P2.out.stampNo (by omega) (by exact RW.out) hno x nx)
                clear hno
                go_wp2_with (first
                  | (go_at_call 12; refine PKk.out.mono ?_; rintro e w5 ⟨rfl, rfl⟩)
                  | (go_at_call 15; refine ST.out.mono ?_; rintro e w6 ⟨M6, rfl, hP6⟩; have P6 := Lib.hid hP6; clear hP6))
                go_roundg (n - (i + 1))
                case measure => have := HGK.out; omega
                case rel => exact ⟨i + 1, hb, B, Mx, rows, M6, u, pg, ids, rfl, by omega, rfl, rfl, rfl, by go_num, P6.out.more (by omega), by have := PQ.out.1; omega, by have := PQ.out.2.1; omega, PQ.out.2.2.1, PQ.out.2.2.2.1, Nat.le_trans PQ.out.2.2.2.2 (MONO.out _ _ (by omega))⟩
              · have hk1 : kz = (k : Int) := by rw [← KZ.out, hyes]
                have hw1 : wv = 0 := by rw [← WV.out, hk1]; exact if_neg (by omega)
                subst hk1 hw1
                obtain ⟨g, rfl⟩ : ∃ g, ao5 = some ⟨g, 0, none⟩ := by
                  obtain ⟨_, _, he, _, hx⟩ := PP.out.1.row.shape
                  simp only [Value.slice.injEq] at he
                  obtain ⟨g, hg, _⟩ := hx (by omega)
                  exact ⟨g, by rw [he.1]; exact hg⟩
                have ST := Lib.hid (P2.out.stampYes (by omega) hyes x nx XW.out NXW.out)
                have CELLS : Hid (∀ w' M', Step M M' wc w' → ∀ t, t < rows.length * 5 → w'.frozen? ⟨g, t, none⟩ = false ∧ ∃ y, w'.cell? ⟨g, t, none⟩ = some y) := fun w' M' hS t ht =>
                  ((P2.out.row.later hS.1 (fun y hy => (P2.out.rowNew y hy).2.1)).set t (.int .u64 0)).2 ht
                have BOX : Hid (∀ w' M', Step M M' wc w' → w'.cell? ⟨wr.heap.size, 4, none⟩ = some (.int .u64 (x : Nat))) := fun w' M' hS => hS.1.cell c4 (fun hm => Nat.lt_irrefl _ (PP.out.1.heap.pool.lt _ hm))
                have k0 : (0 : Int) ≤ k := by omega
                have k1 : (k : Int) < rows.length := by omega
                clear hyes hrid
                go_wp2_with (first
                  | (go_at_call 12; refine PKk.out.mono ?_; rintro e w5 ⟨rfl, rfl⟩)
                  | (go_at_call 15; refine ST.out.mono ?_; rintro e w6 ⟨pg6, M6, rfl, hH6, hT6, hF6, hS6⟩; have H6 := Lib.hid hH6; have T6 := Lib.hid hT6; have F6 := Lib.hid hF6; have S6 := Lib.hid hS6; have d4 := BOX.out _ _ hS6; obtain ⟨f3, y3, g3⟩ := CELLS.out _ _ hS6 (k * 5 + 3) (by omega); obtain ⟨f4, y4, g4⟩ := CELLS.out _ _ hS6 (k * 5 + 4) (by omega); clear hH6 hT6 hF6 hS6))
                have P9 : Hid (PlayL w p hb B Mx (setVer rows k ⟨(rows.getD k mz).ver.row, (rows.getD k mz).ver.xmin, x, nx⟩) (.slice (some ⟨g, 0, none⟩) rows.length cap5) (4 + 1000 * (i + 1)) M6 u pg6 ids ((w6.setCell ⟨g, k * 5 + 1 + 2, none⟩ (.int .u64 (x : Nat))).setCell ⟨g, k * 5 + 1 + 3, none⟩ (.int .u64 (nx : Nat)))) := (P2.out.stamped hk H6.out T6.out F6.out S6.out).more (by omega)
                have L9 : Hid ((setVer rows k ⟨(rows.getD k mz).ver.row, (rows.getD k mz).ver.xmin, x, nx⟩).length = rows.length ∧ sumRows (setVer rows k ⟨(rows.getD k mz).ver.row, (rows.getD k mz).ver.xmin, x, nx⟩) = sumRows rows) := ⟨setVer_len _ _ _, sumRows_set hk rfl⟩
                clear f3 g3 f4 g4 d4
                go_roundg (n - (i + 1))
                case measure => have := HGK.out; omega
                case rel => exact ⟨i + 1, hb, B, Mx, _, M6, u, pg6, ids, rfl, by omega, rfl, rfl, rfl, by go_num, P9.out, by rw [L9.out.1]; have := PQ.out.1; omega, by have := PQ.out.2.1; omega, by rw [L9.out.1]; exact PQ.out.2.2.1, by rw [L9.out.2]; exact PQ.out.2.2.2.1, Nat.le_trans PQ.out.2.2.2.2 (MONO.out _ _ (by omega))⟩
          · by_cases h6 : what = 6
            · as_aux_lemma =>
              subst h6
              clear hins h45 PK
              have P2 := Lib.hid (PP.out.1.past O2.out)
              have PQ := Lib.hid PP.out.2
              clear c1 c2 c3 c4
              rcases atR_cases rows r with hno | ⟨k, hk, hyes, hrid⟩
              · have hk1 : kz = -1 := by rw [← KZ.out, hno]
                have hw1 : wv = 91 := by rw [← WV.out, hk1]; rfl
                subst hk1 hw1
                have FR := Lib.hid (P2.out.freeNo (by omega) (by exact RW.out) hno)
                clear hno
                go_wp2_with (go_at_call 9; refine FR.out.mono ?_; rintro e w6 ⟨M6, rfl, hP6⟩; have P6 := Lib.hid hP6; clear hP6)
                go_roundg (n - (i + 1))
                case measure => have := HGK.out; omega
                case rel => exact ⟨i + 1, hb, B, Mx, rows, M6, u, pg, ids, rfl, by omega, rfl, rfl, rfl, by go_num, P6.out.more (by omega), by have := PQ.out.1; omega, by have := PQ.out.2.1; omega, PQ.out.2.2.1, PQ.out.2.2.2.1, Nat.le_trans PQ.out.2.2.2.2 (MONO.out _ _ (by omega))⟩
              · have hk1 : kz = (k : Int) := by rw [← KZ.out, hyes]
                have hw1 : wv = 0 := by rw [← WV.out, hk1]; exact if_neg (by omega)
                subst hk1 hw1
                obtain ⟨g, rfl⟩ : ∃ g, ao5 = some ⟨g, 0, none⟩ := by
                  obtain ⟨g, c, he⟩ := PP.out.1.cut hk
                  simp only [Value.slice.injEq] at he
                  exact ⟨g, he.1⟩
                have FR := Lib.hid (P2.out.freeYes (by omega) hyes)
                have k0 : (0 : Int) ≤ k := by omega
                have k1 : (k : Int) < rows.length := by omega
                have k2 : (rows.length : Int) ≤ cap5 := by omega
                have k3 : (k : Int) + 1 ≤ rows.length := by omega
                have ew : IntKind.i64.wrap ((k : Int) + 1) = (k : Int) + 1 := by have := RL.out; rw [IntKind.wrap_i64]; omega
                clear hyes hrid
                go_upto_region 54 with (go_at_call 9; refine FR.out.mono ?_; rintro e w6 ⟨pg6, M6, rfl, hH6, hT6, hF6, hS6⟩; have H6 := Lib.hid hH6; have T6 := Lib.hid hT6; have F6 := Lib.hid hF6; have S6 := Lib.hid hS6; clear hH6 hT6 hF6 hS6)
                obtain ⟨z, hz⟩ : ∃ z, (if cap5 = k + 1 then 0 else (k + 1) * 5) = z := ⟨_, rfl⟩
                have SL := Lib.hid (slice_tail (g := g) (n := rows.length) (cap := cap5) (k := k) (z := z) (by omega) hz.symm)
                have H7 := Lib.hid (H6.out.past (Only.refl [] w6).drew)
                have S7 : Hid (Step M M6 wc w6.drew) := ⟨S6.out.1.drew, S6.out.2⟩
                have RC : Hid (RowOn w6.drew 52 5 (.slice (some ⟨g, 0, none⟩) k k) k (flatR (rows.take k))) := by
                  obtain ⟨ao, cp, he, _, hr⟩ := (P2.out.row.later S7.out.1 (fun y hy => (P2.out.rowNew y hy).2.1)).cut (k := k) (by omega)
                  simp only [Value.slice.injEq] at he
                  rw [← he.1, flatR_take] at hr
                  exact hr
                have TL : Hid (0 < rows.length - (k + 1) → ∃ ad, (some ⟨g, z, none⟩ : Option Addr) = some ad ∧ ∀ j u, (flatR (rows.drop (k + 1)))[j]? = some u → w6.drew.cell? (ad.add j) = some u) := fun h0 => by
                  refine ⟨_, rfl, fun j u hj => ?_⟩
                  have hne : ¬ cap5 = k + 1 := by omega
                  rw [if_neg hne] at hz
                  obtain ⟨ao, cp, he, _, hx⟩ := (P2.out.row.later S7.out.1 (fun y hy => (P2.out.rowNew y hy).2.1)).shape
                  obtain ⟨g', hg', hc⟩ := hx (by omega)
                  simp only [Value.slice.injEq] at he
                  rw [← he.1] at hg'
                  simp only [Option.some.injEq, Addr.mk.injEq, and_true] at hg'
                  subst hg'
                  rw [add_plain, ← hz]
                  rw [← flatR_drop, List.getElem?_drop] at hj
                  have hlt : (k + 1) * 5 + j < rows.length * 5 := by
                    rcases Nat.lt_or_ge ((k + 1) * 5 + j) (rows.length * 5) with h | h
                    · exact h
                    · rw [List.getElem?_eq_none (by rw [flatR_len]; exact h)] at hj; cases hj
                  rw [hc _ hlt, hj]
                have ONE5 : Hid (∀ u ∈ flatR (rows.drop (k + 1)), u.oneCell' = true) := fun u hu => by
                  obtain ⟨m, hm, hu⟩ := List.mem_flatMap.1 hu
                  obtain ⟨a, c, he, _⟩ := ByteRow.at (P2.out.bytes m (List.mem_of_mem_drop hm)).1
                  exact rowC_one m (by rw [he]; rfl) u hu
                have NL : Hid ((flatR (rows.drop (k + 1))).length = (rows.length - (k + 1)) * 5) := by show _ = _; rw [flatR_len, List.length_drop]
                refine wp_region_quiet_tail 8 (C := fun w' => w' = w6.drew) (by kernel_rfl) (by kernel_rfl) rfl ?_
                simp only [List.take_succ_cons, List.take_zero, List.drop_succ_cons, List.drop_zero]
                repeat (first
                  | (go_big_quiet_want; refine quiet_slice 43 (.tmp 213) (some (.tmp 215)) none none rfl (.slice (some ⟨g, z, none⟩) (rows.length - (k + 1)) (cap5 - (k + 1))) (by rintro _ rfl; exact SL.out _) ?_; go_big_quiet_on; simp only [Act.put, List.setIfInBounds_toArray, List.set_cons_succ, List.set_cons_zero])
                  | go_big_quiet_step (fail))
                refine wpQuiet_nil ?_
                rintro _ rfl
                go_wp2_with (at_builtin; refine wpList_on rfl (.tmp 212) (.tmp 216) 43 rfl 52 Tryz.underlying43 (info_parts info_mrow) rfl (.slice (some ⟨g, 0, none⟩) k k) k (flatR (rows.take k)) rfl RC.out (some ⟨g, z, none⟩) (rows.length - (k + 1)) (cap5 - (k + 1)) rfl (flatR (rows.drop (k + 1))) NL.out TL.out ONE5.out (by have := RL.out; omega) (by decide) ?_; intro v8 w8 hg8 hsh8; obtain ⟨a8, c8, rfl⟩ := hsh8; have G8 := Lib.hid hg8; clear hg8)
                have P9 : Hid (PlayL w p hb B Mx (rows.take k ++ rows.drop (k + 1)) (.slice a8 (k + (rows.length - (k + 1))) c8) (4 + 1000 * (i + 1)) M6 u pg6 ids w8) := by
                  refine (P2.out.regrown (rows' := rows.take k ++ rows.drop (k + 1)) (v1 := .slice (some ⟨g, 0, none⟩) k k) (fun m hm => ?_) H7.out T6.out F6.out S7.out (fun y hy => hy) RC.out ?_).more (by omega)
                  · rcases List.mem_append.1 hm with h | h
                    · exact List.mem_of_mem_take h
                    · exact List.mem_of_mem_drop h
                  · rw [cut_len hk, flatR_append]; exact G8.out
                have L9 : Hid ((rows.take k ++ rows.drop (k + 1)).length = k + (rows.length - (k + 1)) ∧ sumRows (rows.take k ++ rows.drop (k + 1)) ≤ sumRows rows) := ⟨cut_len hk, sumRows_cut⟩
                go_roundg (n - (i + 1))
                case measure => have := HGK.out; omega
                case rel => exact ⟨i + 1, hb, B, Mx, _, M6, u, pg6, ids, rfl, by omega, rfl, rfl, rfl, by go_num, P9.out, by rw [L9.out.1]; have := PQ.out.1; omega, by have := PQ.out.2.1; omega, by rw [L9.out.1]; have := PQ.out.2.2.1; omega, Nat.le_trans L9.out.2 PQ.out.2.2.2.1, Nat.le_trans PQ.out.2.2.2.2 (MONO.out _ _ (by omega))⟩
            · by_cases h7 : what = 7
              · as_aux_lemma =>
                subst h7
                clear hins h45 h6 PK
                have P2 := Lib.hid (PP.out.1.past O2.out)
                have PQ := Lib.hid PP.out.2
                clear c1 c2 c3 c4
                have MC : Hid (∀ w1 M1 k1, PlayL w p hb B Mx rows (.slice ao5 rows.length cap5) k1 M1 u pg ids w1 → Calls Tryz.prog 18 #[.slice ao5 rows.length cap5, .int .u64 (r : Nat)] w1 fun e w' => ∃ v', e = .returned v' ∧ RidRow w' v' (chainP (verL rows) (rows.length + 1) [] r) ∧ Only [] w1 w') := fun w1 M1 k1 hP => hP.mchain (by have := RL.out; omega) RW.out
                rcases atR_cases rows r with hno | ⟨k, hk, hyes, hrid⟩
                · have hk1 : kz = -1 := by rw [← KZ.out, hno]
                  have hw1 : wv = 91 := by rw [← WV.out, hk1]; rfl
                  subst hk1 hw1
                  have CH := Lib.hid (P2.out.chainNo (by omega) (by exact RW.out) hno)
                  have CE : Hid (chainP (verL rows) (rows.length + 1) [] r = []) := chain_stop (verL_none hno)
                  clear hno
                  go_wp2_with (first
                    | (go_at_call 16; refine CH.out.mono ?_; rintro e w5 ⟨M5, rfl, hP5⟩; have P5 := Lib.hid hP5; clear hP5)
                    | (go_at_call 18; refine (MC.out _ _ _ P5.out).mono ?_; rintro e w6 ⟨v6, rfl, hr6, hO6⟩; rw [CE.out] at hr6; have R6 := Lib.hid hr6.at; have P6 := Lib.hid (P5.out.past hO6); clear hr6 hO6)
                    | (go_at_call 17; refine (rids_any (RidsAt.nil _) R6.out (by simp) (z := true) rfl).mono ?_; rintro e w7 ⟨rfl, hO7⟩; have P7 := Lib.hid (P6.out.past hO7); clear hO7))
                  go_roundg (n - (i + 1))
                  case measure => have := HGK.out; omega
                  case rel => exact ⟨i + 1, hb, B, Mx, rows, M5, u, pg, ids, rfl, by omega, rfl, rfl, rfl, by go_num, P7.out.more (by omega), by have := PQ.out.1; omega, by have := PQ.out.2.1; omega, PQ.out.2.2.1, PQ.out.2.2.2.1, Nat.le_trans PQ.out.2.2.2.2 (MONO.out _ _ (by omega))⟩
                · have hk1 : kz = (k : Int) := by rw [← KZ.out, hyes]
                  have hw1 : wv = 0 := by rw [← WV.out, hk1]; exact if_neg (by omega)
                  subst hk1 hw1
                  have CH := Lib.hid (P2.out.chainYes (by have := RL.out; omega) (by have := RL.out; omega) (by exact RW.out) hyes)
                  have CL : Hid ((chainP (verL rows) (rows.length + 1) [] r).length ≤ 1000000) := by
                    have h1 := chainP_len (V := verL rows) (rows.length + 1) [] r
                    have h2 := RL.out
                    show _ ≤ _
                    simp only [List.length_nil] at h1
                    omega
                  clear hyes hrid
                  generalize chainP (verL rows) (rows.length + 1) [] r = cs at *
                  go_wp2_with (first
                    | (go_at_call 16; refine CH.out.mono ?_; rintro e w5 ⟨v5, M5, rfl, hr5, hP5⟩; have P5 := Lib.hid hP5; have R5 := Lib.hid hr5.at; clear hP5 hr5)
                    | (go_at_call 18; refine (MC.out _ _ _ P5.out).mono ?_; rintro e w6 ⟨v6, rfl, hr6, hO6⟩; have R6 := Lib.hid hr6.at; have Q6 := Lib.hid (R5.out.past hO6); have P6 := Lib.hid (P5.out.past hO6); clear hr6 hO6)
                    | (go_at_call 17; refine (rids_any Q6.out R6.out CL.out (z := true) (decide_eq_true rfl)).mono ?_; rintro e w7 ⟨rfl, hO7⟩; have P7 := Lib.hid (P6.out.past hO7); clear hO7))
                  go_roundg (n - (i + 1))
                  case measure => have := HGK.out; omega
                  case rel => exact ⟨i + 1, hb, B, Mx, rows, M5, u, pg, ids, rfl, by omega, rfl, rfl, rfl, by go_num, P7.out.more (by have := RL.out; omega), by have := PQ.out.1; omega, by have := PQ.out.2.1; omega, PQ.out.2.2.1, PQ.out.2.2.2.1, Nat.le_trans PQ.out.2.2.2.2 (MONO.out _ _ (by omega))⟩
              · by_cases h8 : what = 8
                · as_aux_lemma =>
                  subst h8
                  clear hins h45 h6 h7 PK
                  have P2 := Lib.hid (PP.out.1.past O2.out)
                  have PQ := Lib.hid PP.out.2
                  clear c1 c2 c3 c4
                  have OP := Lib.hid (P2.out.open_ (by omega))
                  have R1 := Lib.hid (hroot_any P2.out.heap.hp)
                  go_wp2_with (first
                    | (go_at_call 19; refine OP.out.mono ?_; rintro e w6 ⟨hb6, M6, rfl, hA6, hB6, hP6⟩; have RN := Lib.hid (hroot_any hA6); have RO := Lib.hid (hroot_any hB6); have P6 := Lib.hid hP6; clear hA6 hB6 hP6)
                    | (go_at_call 20; (first | with_reducible refine RN.out.mono ?_ | with_reducible refine RO.out.mono ?_ | with_reducible refine R1.out.mono ?_); rintro e w7 ⟨rfl, rfl⟩))
                  go_roundg (n - (i + 1))
                  case measure => have := HGK.out; omega
                  case rel => exact ⟨i + 1, hb6, B, Mx, rows, M6, u, pg, ids, rfl, by omega, rfl, rfl, rfl, by go_num, P6.out.more (by omega), by have := PQ.out.1; omega, by have := PQ.out.2.1; omega, PQ.out.2.2.1, PQ.out.2.2.2.1, Nat.le_trans PQ.out.2.2.2.2 (MONO.out _ _ (by omega))⟩
                · as_aux_lemma =>
                  have n0 : (what == (0 : Int)) = false := beq_eq_false_iff_ne.2 (by omega)
                  have n1 : (what == (1 : Int)) = false := beq_eq_false_iff_ne.2 (by omega)
                  have n2 : (what == (2 : Int)) = false := beq_eq_false_iff_ne.2 (by omega)
                  have n3 : (what == (3 : Int)) = false := beq_eq_false_iff_ne.2 (by omega)
                  have n4 : (what == (4 : Int)) = false := beq_eq_false_iff_ne.2 (by omega)
                  have n5 : (what == (5 : Int)) = false := beq_eq_false_iff_ne.2 (by omega)
                  have n6 : (what == (6 : Int)) = false := beq_eq_false_iff_ne.2 (by omega)
                  have n7 : (what == (7 : Int)) = false := beq_eq_false_iff_ne.2 (by omega)
                  have n8 : (what == (8 : Int)) = false := beq_eq_false_iff_ne.2 (by omega)
                  clear hins h45 h6 h7 h8 PK
                  have P2 := Lib.hid (PP.out.1.past O2.out)
                  have PQ := Lib.hid PP.out.2
                  have IC : Hid ((Tryz.prog.info? 50).map (·.size) = some 4) := info_ver
                  clear c1 c2 c3 c4
                  rcases atR_cases rows r with hno | ⟨k, hk, hyes, hrid⟩
                  · have hk1 : kz = -1 := by rw [← KZ.out, hno]
                    have hw1 : wv = 91 := by rw [← WV.out, hk1]; rfl
                    subst hk1 hw1
                    have GE := Lib.hid (P2.out.getNo (by omega) (by exact RW.out) hno)
                    clear hno
                    go_upto_region 21 with (first
                      | (go_at_call 21; refine GE.out.mono ?_; rintro e w5 ⟨M5, rfl, hP5⟩; have P5 := Lib.hid hP5; clear hP5)
                      | (refine wpList_store_blk rfl 50 (.tmp 23) (.tmp 69) rfl w5.heap.size (verCells (.slice none 0 0) 0 0 0) rfl rfl (Blk.new' (verCells (.slice none 0 0) 0 0 0).toArray 50 w5 rfl) rfl IC.out verCells_one ?_; intro w6 hb6 hO6; have O6 : Hid (Only [] w5 w6) := (((Only.refl [] w5).alloc _).trans hO6 (fun x hx => by simp at hx; subst hx; exact .inr (Nat.le_refl _))); have d0 := hb6.cell 0; simp only [verCells, List.getElem?_cons_succ, List.getElem?_cons_zero] at d0; clear hb6 hO6))
                    clear n0 n1 n2 n3 n4 n5 n6 n7 n8 c0
                    refine wp_region_later (Only.refl _ _) (by kernel_rfl) (by kernel_rfl) ?_
                    repeat (go_big_quiet_step (fail))
                    refine wpQuiet_nil ?_
                    rintro _ ⟨x7, rfl⟩
                    have d7 := Later.cell d0 x7
                    have P7 := Lib.hid (P5.out.past (O6.out.trans x7.h (by simp)))
                    generalize x7.v = w7 at *
                    go_wp2_with (go_at_call 14; refine (spoil_nil _ _).mono ?_; rintro e w8 ⟨rfl, rfl⟩)
                    go_roundg (n - (i + 1))
                    case measure => have := HGK.out; omega
                    case rel => exact ⟨i + 1, hb, B, Mx, rows, M5, u, pg, ids, rfl, by omega, rfl, rfl, rfl, by go_num, P7.out.more (by omega), by have := PQ.out.1; omega, by have := PQ.out.2.1; omega, PQ.out.2.2.1, PQ.out.2.2.2.1, Nat.le_trans PQ.out.2.2.2.2 (MONO.out _ _ (by omega))⟩
                  · have hk1 : kz = (k : Int) := by rw [← KZ.out, hyes]
                    have hw1 : wv = 0 := by rw [← WV.out, hk1]; exact if_neg (by omega)
                    subst hk1 hw1
                    obtain ⟨g, rfl⟩ : ∃ g, ao5 = some ⟨g, 0, none⟩ := by
                      obtain ⟨g, c, he⟩ := PP.out.1.cut hk
                      simp only [Value.slice.injEq] at he
                      exact ⟨g, he.1⟩
                    have GE := Lib.hid (P2.out.getYes (by omega) hyes)
                    have RVB : Hid (∀ w1 M1 k1 , PlayL w p hb B Mx rows (.slice (some ⟨g, 0, none⟩) rows.length cap5) k1 M1 u pg ids w1 → ByteRow 5 w1 (rows.getD k mz).rv (rows.getD k mz).ver.row ∧ w1.rangeAt g (k * 5 + 1) (verCells (rows.getD k mz).rv (rows.getD k mz).ver.xmin (rows.getD k mz).ver.xmax (rows.getD k mz).ver.next)) := fun w1 M1 k1 hP => ⟨(hP.bytes _ (by rw [List.getD_eq_getElem?_getD, List.getElem?_eq_getElem hk]; exact List.getElem_mem hk)).1, fun t v hv => by
                      obtain ⟨_, _, he, _, hx⟩ := rows_at hP.row
                      obtain ⟨b, o, ho, hc⟩ := hx (by omega)
                      simp only [Value.slice.injEq] at he
                      rw [← he.1] at ho
                      simp only [Option.some.injEq, Addr.mk.injEq, and_true] at ho
                      obtain ⟨rfl, rfl⟩ := ho
                      have ht : t < 4 := by
                        rcases Nat.lt_or_ge t 4 with h | h
                        · exact h
                        · rw [List.getElem?_eq_none (by simp [verCells]; exact h)] at hv; cases hv
                      have h := hc k hk (t + 1) (by omega)
                      rw [Nat.zero_add] at h
                      rw [show k * 5 + 1 + t = k * 5 + (t + 1) by omega, h, ← hv]
                      rfl⟩
                    have VL : Hid ((rows.getD k mz).ver.row.length ≤ 1048576) := by
                      obtain ⟨_, _, hv⟩ := P2.out.ver hyes
                      have h1 := sumRows_take hk
                      have h2 := sumRows_le (l := rows) (j := k + 1)
                      have h3 := PQ.out.2.2.2.1
                      have h4 := PQ.out.2.2.2.2
                      have h5 := MONO.out i (i + 1) (by omega)
                      have h6 : sumF l (i + 1) ≤ 12000 := SUMB.out
                      show _ ≤ _
                      omega
                    generalize rows.getD k mz = m at *
                    obtain ⟨mrid, mv, ver⟩ := m
                    simp only at RVB VL hrid GE
                    have k0 : (0 : Int) ≤ k := by omega
                    have k1 : (k : Int) < rows.length := by omega
                    clear hyes hrid
                    go_upto_region 21 with (first
                      | (go_at_call 21; refine GE.out.mono ?_; rintro e w5 ⟨g5, c5, M5, rfl, hr5, hg5, hM5, hP5⟩; have P5 := Lib.hid hP5; have R5 := Lib.hid hr5; have G5 := Lib.hid hg5; have GM5 := Lib.hid hM5; clear hP5 hr5 hg5 hM5)
                      | (refine wpList_store_blk rfl 50 (.tmp 23) (.tmp 69) rfl w5.heap.size (verCells (.slice (some ⟨g5, 0, none⟩) ver.row.length c5) ver.xmin ver.xmax ver.next) rfl rfl (Blk.new' (verCells (.slice none 0 0) 0 0 0).toArray 50 w5 rfl) rfl IC.out verCells_one ?_; intro w6 hb6 hO6; have O6 : Hid (Only [] w5 w6) := (((Only.refl [] w5).alloc _).trans hO6 (fun x hx => by simp at hx; subst hx; exact .inr (Nat.le_refl _))); have d0 := hb6.cell 0; simp only [verCells, List.getElem?_cons_succ, List.getElem?_cons_zero] at d0; have B6 := Lib.hid hb6; clear hb6 hO6))
                    clear n0 n1 n2 n3 n4 n5 n6 n7 n8 c0
                    have P6 := Lib.hid (P5.out.past O6.out)
                    have R6 := Lib.hid (owns_past R5.out O6.out)
                    have L1 : Hid (∀ y : Later w6, (Instr.loadAt 50 (.pointer (some ⟨w5.heap.size, 0, none⟩))).run Tryz.prog y.v = .ok (verAgg (.slice (some ⟨g5, 0, none⟩) ver.row.length c5) ver) y.v) := fun y => run_loadAt_mid y.v w5.heap.size 0 50 (verCells (.slice (some ⟨g5, 0, none⟩) ver.row.length c5) ver.xmin ver.xmax ver.next) _ (fun t v hv => by rw [Nat.zero_add]; exact ((y.h.blk B6.out (by simp)).cell t).trans hv) Tryz.underlying50 rfl IC.out
                    have L2 : Hid (∀ y : Later w6, (Instr.loadAt 50 (.pointer (some ⟨g, k * 5 + 1, none⟩))).run Tryz.prog y.v = .ok (verAgg mv ver) y.v) := fun y => run_loadAt_mid y.v g (k * 5 + 1) 50 (verCells mv ver.xmin ver.xmax ver.next) _ (RVB.out y.v _ _ (P6.out.past y.h)).2 Tryz.underlying50 rfl IC.out
                    have SM : Hid (∀ y : Later w6, Calls Tryz.prog 22 #[verAgg (.slice (some ⟨g5, 0, none⟩) ver.row.length c5) ver, verAgg mv ver] y.v fun e w' => e = .returned (.bool true) ∧ ∃ z : Later w6, w' = z.v) := Calls.later (fun w1 hO => same_yes (ByteRow.at (owns_past R6.out hO)) (ByteRow.at (RVB.out w1 _ _ (P6.out.past hO)).1))
                    refine wp_region_later (Only.refl _ _) (by kernel_rfl) (by kernel_rfl) ?_
                    repeat (first
                      | (go_big_quiet_want; refine quiet_load 50 (.tmp 23) rfl (verAgg (.slice (some ⟨g5, 0, none⟩) ver.row.length c5) ver) (by rintro _ ⟨y, rfl⟩; exact L1.out y) ?_; go_big_quiet_on; simp only [Act.put, List.setIfInBounds_toArray, List.set_cons_succ, List.set_cons_zero])
                      | (go_big_quiet_want; refine quiet_load 50 (.tmp 82) rfl (verAgg mv ver) (by rintro _ ⟨y, rfl⟩; exact L2.out y) ?_; go_big_quiet_on; simp only [Act.put, List.setIfInBounds_toArray, List.set_cons_succ, List.set_cons_zero])
                      | go_big_quiet_step ((go_at_call 22; exact SM.out _)))
                    refine wpQuiet_nil ?_
                    rintro _ ⟨x7, rfl⟩
                    have d7 := Later.cell d0 x7
                    have P7 := Lib.hid (P6.out.past x7.h)
                    have R7 := Lib.hid (owns_past R6.out x7.h)
                    generalize x7.v = w7 at *
                    go_wp2_with (go_at_call 14; refine (spoil_row R7.out VL.out).mono ?_; rintro e w8 ⟨rfl, hO8⟩; have O8 := Lib.hid hO8; clear hO8)
                    have P8 : Hid (PlayL w p hb B Mx rows (.slice (some ⟨g, 0, none⟩) rows.length cap5) (4 + 1000 * (i + 1)) M5 u pg ids w8) := (P2.out.aside P7.out O8.out (fun y hy => by
                      simp only [Value.ownBlock, Option.mem_toList, Option.some.injEq] at hy
                      subst hy
                      exact ⟨G5.out, GM5.out⟩) (fun y hy cs hcs => owns_ne R7.out hcs (by decide) (Option.mem_toList.1 hy))).more (by omega)
                    go_roundg (n - (i + 1))
                    case measure => have := HGK.out; omega
                    case rel => exact ⟨i + 1, hb, B, Mx, rows, M5, u, pg, ids, rfl, by omega, rfl, rfl, rfl, by go_num, P8.out, by have := PQ.out.1; omega, by have := PQ.out.2.1; omega, PQ.out.2.2.1, PQ.out.2.2.2.1, Nat.le_trans PQ.out.2.2.2.2 (MONO.out _ _ (by omega))⟩
    · as_aux_lemma =>
      obtain rfl : i = n := by omega
      have hnn : ¬ (i : Int) < i := by omega
      obtain ⟨ao5, cap5, rfl, hc5, _⟩ := PP.out.1.row.shape
      have PQ := Lib.hid PP.out.2
      have NB : Hid (ids.length ≤ 147 ∧ rows.length ≤ 150 ∧ B ≤ 12000 ∧ Mx ≤ 150 ∧ ids.length ≤ 2 + B / 100 + Mx / 6) := by
        have h1 := PP.out.1.fits.few
        obtain ⟨q1, q2, q3, q4, q5⟩ := PQ.out
        have h2 := F2.out
        show _ ∧ _ ∧ _ ∧ _ ∧ _
        omega
      have ALL := PP.out.1.heap.all (by have := NB.out.1; omega) (by have := NB.out.1; omega)
      obtain ⟨hr, hrl⟩ := Tells.all PP.out.1.heap.is_ PP.out.1.tells
      rw [hr, hrl] at ALL
      have ALL := Lib.hid ALL
      have TOR : Hid (∀ (w1 : World) v1, w1.ownsRow 0 29 1 v1 rows.length (risen (rows.map MRow.rid)) → RidsAt w1 v1 (ris (rows.map MRow.rid))) := fun w1 v1 h => risen_at h (by rw [List.length_map])
      have RLN : Hid ((ris (rows.map MRow.rid)).length ≤ 1000000) := by have := NB.out.2.1; show _ ≤ _; rw [ris_len, List.length_map]; omega
      have MALL : Hid (∀ w1 M1 k1, PlayL w p hb B Mx rows (.slice ao5 rows.length cap5) k1 M1 u pg ids w1 → Calls Tryz.prog 23 #[.slice ao5 rows.length cap5] w1 fun e w' => ∃ v', e = .returned v' ∧ RidsAt w' v' (ris (rows.map MRow.rid)) ∧ Only [] w1 w') := fun w1 M1 k1 hP => (mall_any (rows_at hP.row) (by have := NB.out.2.1; omega)).mono fun e w' ⟨v', he, h1, _, h2⟩ => ⟨v', he, TOR.out _ _ h1, h2⟩
      clear hr hrl
      generalize ris (rows.map MRow.rid) = rs at *
      go_upto_region 67 with (first
        | (go_at_call 10; refine ALL.out.mono ?_; rintro e w1 ⟨a1, c1, M1, rfl, hr1, hH1, hS1⟩; have P1 := Lib.hid (PP.out.1.step hH1 hS1); have R1 := Lib.hid (TOR.out _ _ hr1); clear hr1 hH1 hS1)
        | (go_at_call 23; refine (MALL.out _ _ _ P1.out).mono ?_; rintro e w2 ⟨v2, rfl, hr2, hO2⟩; have R2 := Lib.hid hr2; have Q2 := Lib.hid (R1.out.past hO2); have P2 := Lib.hid (P1.out.past hO2); clear hr2 hO2)
        | (go_at_call 17; refine (rids_any Q2.out R2.out RLN.out (z := true) (decide_eq_true rfl)).mono ?_; rintro e w3 ⟨rfl, hO3⟩; have P3 := Lib.hid ((P2.out.past hO3).more (k' := 4 + 1000 * i + 300) (by have := NB.out.1; omega)); clear hO3))
      clear ALL TOR MALL
      have rb150 : rows.length ≤ 150 := NB.out.2.1
      go_wp2_with fail
      have IC : Hid ((Tryz.prog.info? 50).map (·.size) = some 4) := info_ver
      go_loopg [27] rows.length (fun gk s27 wx => ∃ (j : Nat) (Mj : List Nat), gk = rows.length - j ∧ j ≤ rows.length ∧ s27 = .int .i64 j ∧ PlayL w p hb B Mx rows (.slice ao5 rows.length cap5) (4 + 1000 * i + 300 + 2 * j) Mj u pg ids wx)
      case atStart => exact ⟨0, M1, rfl, Nat.zero_le _, rfl, P3.out⟩
      case round =>
        obtain ⟨j, Mj, hgk, hj, rfl, hPj⟩ := hrel
        rename World => wj
        have HGJ := Lib.hid hgk
        have PJ := Lib.hid hPj
        clear hgk hPj P3
        by_cases hlj : j < rows.length
        · as_aux_lemma =>
          have j0 : (0 : Int) ≤ j := by omega
          have j1 : (j : Int) < rows.length := by omega
          obtain ⟨g, rfl⟩ : ∃ g, ao5 = some ⟨g, 0, none⟩ := by
            obtain ⟨g, c, he⟩ := PJ.out.cut hlj
            simp only [Value.slice.injEq] at he
            exact ⟨g, he.1⟩
          have GE := Lib.hid (PJ.out.getYes (by have := NB.out.2.1; omega) (Tells.atR_get PJ.out.tells hlj))
          have RVB : Hid (∀ w1 M1 k1, PlayL w p hb B Mx rows (.slice (some ⟨g, 0, none⟩) rows.length cap5) k1 M1 u pg ids w1 → ByteRow 5 w1 (rows.getD j mz).rv (rows.getD j mz).ver.row ∧ w1.rangeAt g (j * 5 + 1) (verCells (rows.getD j mz).rv (rows.getD j mz).ver.xmin (rows.getD j mz).ver.xmax (rows.getD j mz).ver.next)) := fun w1 M1 k1 hP => ⟨(hP.bytes _ (getD_memR hlj)).1, hP.range hlj⟩
          obtain ⟨b0, o0, hb0, _, hcell⟩ := (rows_at PJ.out.row).row rfl hlj
          simp only [Option.some.injEq, Addr.mk.injEq, and_true] at hb0
          obtain ⟨rfl, rfl⟩ := hb0
          have cr := hcell 0 (by omega)
          simp only [rowC, List.getElem?_cons_zero, Nat.add_zero, Nat.zero_add] at cr
          clear hcell
          generalize rows.getD j mz = m at *
          obtain ⟨mrid, mv, ver⟩ := m
          simp only at RVB GE cr
          go_upto_region 71 with (first
            | (go_at_call 21; refine GE.out.mono ?_; rintro e w5 ⟨g5, c5, M5, rfl, hr5, _, _, hP5⟩; have P5 := Lib.hid hP5; have R5 := Lib.hid hr5; clear hP5 hr5)
            | (refine wpList_store_blk rfl 50 (.tmp 28) (.tmp 288) rfl w5.heap.size (verCells (.slice (some ⟨g5, 0, none⟩) ver.row.length c5) ver.xmin ver.xmax ver.next) rfl rfl (Blk.new' (verCells (.slice none 0 0) 0 0 0).toArray 50 w5 rfl) rfl IC.out verCells_one ?_; intro w6 hb6 hO6; have O6 : Hid (Only [] w5 w6) := (((Only.refl [] w5).alloc _).trans hO6 (fun x hx => by simp at hx; subst hx; exact .inr (Nat.le_refl _))); have B6 := Lib.hid hb6; clear hb6 hO6))
          have P6 := Lib.hid (P5.out.past O6.out)
          have R6 := Lib.hid (owns_past R5.out O6.out)
          have L1 : Hid (∀ y : Later w6, (Instr.loadAt 50 (.pointer (some ⟨w5.heap.size, 0, none⟩))).run Tryz.prog y.v = .ok (verAgg (.slice (some ⟨g5, 0, none⟩) ver.row.length c5) ver) y.v) := fun y => run_loadAt_mid y.v w5.heap.size 0 50 (verCells (.slice (some ⟨g5, 0, none⟩) ver.row.length c5) ver.xmin ver.xmax ver.next) _ (fun t v hv => by rw [Nat.zero_add]; exact ((y.h.blk B6.out (by simp)).cell t).trans hv) Tryz.underlying50 rfl IC.out
          have L2 : Hid (∀ y : Later w6, (Instr.loadAt 50 (.pointer (some ⟨g, j * 5 + 1, none⟩))).run Tryz.prog y.v = .ok (verAgg mv ver) y.v) := fun y => run_loadAt_mid y.v g (j * 5 + 1) 50 (verCells mv ver.xmin ver.xmax ver.next) _ (RVB.out y.v _ _ (P6.out.past y.h)).2 Tryz.underlying50 rfl IC.out
          have SM : Hid (∀ y : Later w6, Calls Tryz.prog 22 #[verAgg (.slice (some ⟨g5, 0, none⟩) ver.row.length c5) ver, verAgg mv ver] y.v fun e w' => e = .returned (.bool true) ∧ ∃ z : Later w6, w' = z.v) := Calls.later (fun w1 hO => same_yes (ByteRow.at (owns_past R6.out hO)) (ByteRow.at (RVB.out w1 _ _ (P6.out.past hO)).1))
          refine wp_region_later (Only.refl _ _) (by kernel_rfl) (by kernel_rfl) ?_
          repeat (first
            | (go_big_quiet_want; refine quiet_load 50 (.tmp 28) rfl (verAgg (.slice (some ⟨g5, 0, none⟩) ver.row.length c5) ver) (by rintro _ ⟨y, rfl⟩; exact L1.out y) ?_; go_big_quiet_on; simp only [Act.put, List.setIfInBounds_toArray, List.set_cons_succ, List.set_cons_zero])
            | (go_big_quiet_want; refine quiet_load 50 (.tmp 297) rfl (verAgg mv ver) (by rintro _ ⟨y, rfl⟩; exact L2.out y) ?_; go_big_quiet_on; simp only [Act.put, List.setIfInBounds_toArray, List.set_cons_succ, List.set_cons_zero])
            | go_big_quiet_step ((go_at_call 22; exact SM.out _)))
          refine wpQuiet_nil ?_
          rintro _ ⟨x7, rfl⟩
          have P7 := Lib.hid ((P6.out.past x7.h).more (k' := 4 + 1000 * i + 300 + 2 * (j + 1)) (by omega))
          go_wp2_with fail
          go_roundg (rows.length - (j + 1))
          case measure => have := HGJ.out; omega
          case rel => exact ⟨j + 1, M5, rfl, by omega, by go_num, P7.out⟩
        · as_aux_lemma =>
          obtain rfl : j = rows.length := by omega
          have hnj : ¬ (rows.length : Int) < rows.length := by omega
          have PG := Lib.hid (PJ.out.heap.pages (by have := NB.out; omega) (by have := NB.out; omega))
          have RT : Hid (∀ w1, Only [] wj w1 → True) := fun _ _ => trivial
          obtain ⟨G, t0, hG, ht0, hG0, hGs⟩ := rise_root PJ.out.heap.is_
          have CNT := Lib.hid (pages_used PJ.out.heap.is_)
          have HG := Lib.hid hG
          have HG0 := Lib.hid hG0
          have HGS := Lib.hid hGs
          have LAST : Hid ((ids.length : Int) ≤ 2 + (B : Int) / 100 + (Mx : Int) / 6) := by have := NB.out.2.2.2.2; show _ ≤ _; omega
          clear hG hG0 hGs
          generalize hq : ids.length = q at *
          have HQ := Lib.hid hq
          clear hq
          go_wp2_with (go_at_call 8; refine PG.out.mono ?_; rintro e w4 ⟨a4, c4, M4, rfl, hr4, hH4, _⟩; have H4 := Lib.hid hH4; have R4 := Lib.hid hr4; clear hr4 hH4)
          obtain ⟨gb, hgb, hqc, hcell⟩ : ∃ gb, a4 = some ⟨gb, 0, none⟩ ∧ q ≤ c4 ∧ ∀ t, t < q → w4.cell? ⟨gb, t, none⟩ = some (.int .i64 (G t)) := by
            obtain ⟨ao, cp, he, hc, hx⟩ := (RowOn.of R4.out).shape
            simp only [Value.slice.injEq] at he
            obtain ⟨gb, hg, hc2⟩ := hx (by omega)
            exact ⟨gb, by rw [he.1]; exact hg, by rw [he.2.2]; exact hc, fun t ht => by rw [hc2 t (by omega), List.getElem?_map, HG.out t ht]; rfl⟩
          subst hgb
          have CELL := Lib.hid hcell
          have HRT : Hid (∀ wy, Only [] w4 wy → Calls Tryz.prog 20 #[.pointer (some ⟨hb, 0, none⟩)] wy fun e w' => e = .returned (.int .i64 0) ∧ wy = w') := fun wy hO => hroot_any (H4.out.past hO).hp
          clear hcell PG
          go_loopg [31, 32] q (fun gz s31 s32 wy => ∃ t : Nat, gz = q - t ∧ t ≤ q ∧ s31 = .bool (decide (t0 < t)) ∧ s32 = .int .i64 t ∧ Only [] w4 wy)
          case atStart => exact ⟨0, rfl, Nat.zero_le _, by simp, rfl, Only.refl _ _⟩
          case round =>
            obtain ⟨t, hgz, ht, rfl, rfl, hOy⟩ := hrel
            rename World => wy
            have HGZ := Lib.hid hgz
            have OY := Lib.hid hOy
            have hq150 : q ≤ 147 := NB.out.1
            clear hgz hOy
            by_cases hlt : t < q
            · have i0 : (0 : Int) ≤ t := by omega
              have i1 : (t : Int) < q := by omega
              have RTL : Hid (∀ y : Later wy, Calls Tryz.prog 20 #[.pointer (some ⟨hb, 0, none⟩)] y.v fun e w' => e = .returned (.int .i64 0) ∧ ∃ z : Later wy, w' = z.v) := fun y => (HRT.out y.v (OY.out.trans y.h (by simp))).mono fun e w' ⟨he, hw⟩ => ⟨he, y, hw.symm⟩
              have cy : ∀ y : Later wy, y.v.cell? ⟨gb, t, none⟩ = some (.int .i64 (G t)) := Later.cell (OY.out.cell (CELL.out t hlt) (by simp))
              by_cases hbt : t0 < t
              · obtain ⟨k, hk⟩ : ∃ k, t - 1 = k := ⟨_, rfl⟩
                have hkt : k < q := by omega
                have e1 : decide (t0 < t) = true := decide_eq_true hbt
                have e2 : Hid (decide (t0 < t + 1) = true) := decide_eq_true (by omega)
                have ck : ∀ y : Later wy, y.v.cell? ⟨gb, k, none⟩ = some (.int .i64 (G k)) := Later.cell (OY.out.cell (CELL.out k hkt) (by simp))
                have hlt2 : G k < G t := by have := HGS.out t (by omega) hlt; rw [hk] at this; exact this
                have k0 : (0 : Int) ≤ k := by omega
                have k1 : (k : Int) < q := by omega
                have tp : (0 : Int) < t := by omega
                have tq : 0 < t := by omega
                have ew : IntKind.i64.wrap ((t : Int) - 1) = (k : Int) := by rw [IntKind.wrap_i64]; omega
                have ew2 : (t : Int) - 1 = (k : Int) := by omega
                have g1 : decide (G t ≤ G k) = false := decide_eq_false (by omega)
                have g2 : ¬ G t ≤ G k := by omega
                clear hk
                rw [e1]
                generalize G k = gk at *
                generalize G t = gt at *
                go_wp2_with fail
                refine wp_region_later (Only.refl _ _) (by kernel_rfl) (by kernel_rfl) ?_
                repeat (go_big_quiet_step (fail))
                refine wpQuiet_nil ?_
                rintro _ ⟨x7, rfl⟩
                have O7 := Lib.hid (OY.out.trans x7.h (by simp))
                have cy7 := cy x7
                have ck7 := ck x7
                clear cy ck RTL
                generalize x7.v = w7 at *
                go_wp2_with fail
                go_quiet (fail)
                go_wp2_with fail
                go_roundg (q - (t + 1))
                case measure => have := HGZ.out; omega
                case rel => exact ⟨t + 1, rfl, by omega, by rw [e2.out], by go_num, O7.out.drewN _⟩
              · have e1 : decide (t0 < t) = false := decide_eq_false hbt
                obtain ⟨zb, hzb⟩ : ∃ zb, (G t == (0 : Int)) = zb := ⟨_, rfl⟩
                have e2 : Hid (decide (t0 < t + 1) = zb) := by
                  show _ = _
                  rw [← hzb]
                  by_cases h : t = t0
                  · rw [(HG0.out t hlt).2 h, h]; simp
                  · have h2 : ¬ G t = 0 := fun e => h ((HG0.out t hlt).1 e)
                    rw [beq_eq_false_iff_ne.2 h2]
                    exact decide_eq_false (by omega)
                rw [e1]
                by_cases ht00 : t = 0
                · subst ht00
                  generalize G 0 = gt at *
                  go_wp2_with fail
                  refine wp_region_later (Only.refl _ _) (by kernel_rfl) (by kernel_rfl) ?_
                  repeat (go_big_quiet_step ((go_at_call 20; exact RTL.out _)))
                  refine wpQuiet_nil ?_
                  rintro _ ⟨x7, rfl⟩
                  have O7 := Lib.hid (OY.out.trans x7.h (by simp))
                  clear cy RTL
                  generalize x7.v = w7 at *
                  go_wp2_with fail
                  go_quiet (fail)
                  go_wp2_with fail
                  go_roundg (q - (0 + 1))
                  case measure => have := HGZ.out; omega
                  case rel => exact ⟨0 + 1, rfl, by omega, by rw [e2.out], by go_num, O7.out.drewN _⟩
                · obtain ⟨k, hk⟩ : ∃ k, t - 1 = k := ⟨_, rfl⟩
                  have hkt : k < q := by omega
                  have ck : ∀ y : Later wy, y.v.cell? ⟨gb, k, none⟩ = some (.int .i64 (G k)) := Later.cell (OY.out.cell (CELL.out k hkt) (by simp))
                  have hlt2 : G k < G t := by have := HGS.out t (by omega) hlt; rw [hk] at this; exact this
                  have k0 : (0 : Int) ≤ k := by omega
                  have k1 : (k : Int) < q := by omega
                  have tp : (0 : Int) < t := by omega
                  have tq : 0 < t := by omega
                  have ew : IntKind.i64.wrap ((t : Int) - 1) = (k : Int) := by rw [IntKind.wrap_i64]; omega
                  have ew2 : (t : Int) - 1 = (k : Int) := by omega
                  have g1 : decide (G t ≤ G k) = false := decide_eq_false (by omega)
                  have g2 : ¬ G t ≤ G k := by omega
                  clear hk
                  generalize G k = gk at *
                  generalize G t = gt at *
                  go_wp2_with fail
                  refine wp_region_later (Only.refl _ _) (by kernel_rfl) (by kernel_rfl) ?_
                  repeat (go_big_quiet_step ((go_at_call 20; exact RTL.out _)))
                  refine wpQuiet_nil ?_
                  rintro _ ⟨x7, rfl⟩
                  have O7 := Lib.hid (OY.out.trans x7.h (by simp))
                  have cy7 := cy x7
                  have ck7 := ck x7
                  clear cy ck RTL
                  generalize x7.v = w7 at *
                  go_wp2_with fail
                  go_quiet (fail)
                  go_wp2_with fail
                  go_roundg (q - (t + 1))
                  case measure => have := HGZ.out; omega
                  case rel => exact ⟨t + 1, rfl, by omega, by rw [e2.out], by go_num, O7.out.drewN _⟩
            · obtain rfl : t = q := by omega
              have e1 : decide (t0 < t) = true := decide_eq_true ht0
              rw [e1]
              have hnt : ¬ (t : Int) < t := by omega
              have hl := LAST.out
              have hb1 : B ≤ 12000 := NB.out.2.2.1
              have hb2 : Mx ≤ 150 := NB.out.2.2.2.1
              have US := Lib.hid (PoolV.usedList (H4.out.past OY.out).pool)
              have hcn := CNT.out
              generalize P.count u = cu at *
              have hcn2 : (t : Int) ≤ cu := by omega
              go_wp2_with (go_at_call 24; refine US.out.mono ?_; rintro e w9 ⟨a9, c9, rfl, hO9⟩; have O9 := Lib.hid (H4.out.only.trans (OY.out.trans hO9 (by simp)) (by simp)); clear hO9)
              go_ret
              exact ⟨rfl, O9.out.below (Nat.le_refl _) (by simp)⟩
set_option maxRecDepth 100000 in
set_option maxHeartbeats 4000000 in
theorem hplays_out {w : World} {v : Value} {l : List StepD} (hl : StepsAt w v l) (hf : fewH l = false) :
    Calls Tryz.prog 4 #[v] w fun e w' => e = .returned (.bool true) ∧ Below w.heap.size w w' := by
  have K := Lib.hid (known_any w)
  have FW : Hid (∀ w1, Only [] w w1 → Calls Tryz.prog 11 #[v] w1 fun e w' => e = .returned (.bool false) ∧ w1 = w') := fun w1 hO => by
    have h := few_any (hl.past hO)
    rw [hf] at h
    exact h
  clear hl hf
  go_enter Tryz.func4, Tryz.ntmps4
  go_wp2_with (first
    | (go_at_call 5; refine K.out.mono ?_; rintro e w1 ⟨rfl, hO1⟩; have O1 := Lib.hid hO1; clear hO1)
    | (go_at_call 11; refine (FW.out _ O1.out).mono ?_; rintro e w3 ⟨rfl, rfl⟩))
  go_ret
  exact ⟨rfl, O1.out.below (Nat.le_refl _) (by simp)⟩
theorem hplays_law {w : World} {v : Value} {l : List StepD} (hl : StepsAt w v l) (hbk : ∀ i, (l.getD i stepZ).row.length ≤ 1048576) :
    Calls Tryz.prog 4 #[v] w fun e w' => e = .returned (.bool true) ∧ Below w.heap.size w w' := by
  cases hf : fewH l with
  | true => exact hplays_main hl hf hbk
  | false => exact hplays_out hl hf
end Go.Proofs.YtfkmjbpnjgnkbaaGreat.H
