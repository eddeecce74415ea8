/-
  The laws on pages: does: a step, by the program and by the document: by a contract.
-/
import Derived.Test.YtdgnndcnpmlifaaDoesA
import Derived.Test.YtdgnndcnpmlifaaPageU
import Derived.Test.YtdgnndcnpmlifaaRegionH
import Derived.Deep.CutBlock
namespace Go.Proofs.Ytdgnndcnpmlifaa.G
set_option linter.unusedSimpArgs false
open Go Go.RowKit Go.Proofs.Ytdgnndcnpmlifaa.B Go.Proofs.Ytdgnndcnpmlifaa.C
set_option linter.unusedVariables false
/-- What a step tells: some bytes, a page where they were one, and that both told alike. -/
def DoesRes (w : World) (p : List UInt8) (e : Ending) (w' : World) : Prop :=
  ∃ v' p', e = .returned (.tuple #[v', .bool true]) ∧ BytesC w' v' p' ∧ (Pg p → Pg p' ∧ g p' 4 = g p 4) ∧ Only [] w w'
/-- Bytes that stay when the copy of the cell is spoilt. -/
def KeptC (wx : World) (cv v : Value) (r : List UInt8) : Prop := ∀ w2, Only cv.ownBlock.toList wx w2 → BytesC w2 v r
theorem kept_nil {wx : World} {cv : Value} : KeptC wx cv (.slice none 0 0) [] := fun w2 _ => ⟨⟨none, 0, rfl, fun h => by simp at h⟩, fun ao n cap he => by simp only [Value.slice.injEq] at he; omega⟩
theorem kept_buf {w1 wx : World} {cv : Value} {l r : List UInt8} {gb c : Nat} (h : Buf wx gb c r) (hc : ByteRow 5 w1 cv l) (hg : w1.heap.size ≤ gb) : KeptC wx cv (.slice (some ⟨gb, 0, none⟩) 512 c) r := fun w2 hO =>
  (h.later hO (fun hx => by have := owns_lt hc (k := gb) (by simpa using hx); omega)).c
set_option maxRecDepth 100000 in
set_option maxHeartbeats 16000000 in
theorem does_any {w : World} {v kv : Value} {p cell : List UInt8} {what slot : Int} (h : BytesC w v p) (hl : p.length ≤ 600) (hk : BytesC w kv cell) (hc : cell.length ≤ 600) (hs : -9223372036854775808 ≤ slot ∧ slot ≤ 9223372036854775807) :
    Calls Try.prog 21 #[v, .agg #[.int .i64 what, .int .i64 slot, kv]] w (DoesRes w p) := by
  have HB := Lib.hid h
  have HK := Lib.hid hk
  obtain ⟨po, pc, rfl, _⟩ := h.1
  obtain ⟨ko, kc, rfl, _⟩ := hk.1
  have hpc := h.2 _ _ _ rfl
  have SB : Hid (Blk (w.alloc (.cells #[.int .i64 what, .int .i64 slot, .slice ko cell.length kc] 36)) w.heap.size [.int .i64 what, .int .i64 slot, .slice ko cell.length kc] 36) := Blk.new _ _ _
  have OA : Hid (Only [] w (w.alloc (.cells #[.int .i64 what, .int .i64 slot, .slice ko cell.length kc] 36))) := (Only.refl _ _).alloc _
  have SP : Hid (∀ w1, Only [] w w1 → p.length = p.length ∧ (0 < p.length → ∃ ad, po = some ad ∧ ∀ j u, (u8s p)[j]? = some u → w1.cell? (ad.add j) = some u)) := fun w1 hO => bytes_src (bytes_past HB.out.1 hO)
  have SK : Hid (∀ w1, Only [] w w1 → cell.length = cell.length ∧ (0 < cell.length → ∃ ad, ko = some ad ∧ ∀ j u, (u8s cell)[j]? = some u → w1.cell? (ad.add j) = some u)) := fun w1 hO => bytes_src (bytes_past HK.out.1 hO)
  clear h hk
  generalize hpn : p.length = pn at *
  generalize hkn : cell.length = kn at *
  have HPN := Lib.hid hpn
  have HKN := Lib.hid hkn
  have LP : Hid ((u8s p).length = pn * 1) := by show _ = _; rw [length_u8s, hpn, Nat.mul_one]
  have LK : Hid ((u8s cell).length = kn * 1) := by show _ = _; rw [length_u8s, hkn, Nat.mul_one]
  clear hpn hkn
  have y2 := SB.out.cell 2
  simp only [List.getElem?_cons_succ, List.getElem?_cons_zero] at y2
  go_enter Try.func21, Try.ntmps21
  go_upto_region 4 with fail
  obtain ⟨W0, hW0⟩ : ∃ x, x = w.alloc (.cells #[.int .i64 what, .int .i64 slot, .slice ko kn kc] 36) := ⟨_, rfl⟩
  rw [← hW0] at SB OA y2
  rw [← hW0]
  clear hW0
  go_cut [12, 13] (fun s12 s13 wx => Own w wx s12 p ∧ Own w wx s13 cell ∧ (∀ k, s13.ownBlock = some k → s12.ownBlock ≠ some k) ∧ Blk wx w.heap.size [.int .i64 what, .int .i64 slot, .slice ko kn kc] 36)
  case first => as_aux_lemma =>
    go_region_held3 (fun w' => w'.cell? ⟨w.heap.size, 2, none⟩ = some (.slice ko kn kc)) (first | exact hKEEP | go_keep)
      (first
        | (refine step_grow (by rfl) (.const (.slice none 0 0)) (.tmp 18) 23 (by rfl) 5 Try.underlying23 (info_parts B.info_byte) rfl (by decide) (.slice none 0 0) 0 [] rfl ⟨rfl, .inl ⟨rfl, rfl⟩⟩ po pn pc rfl (u8s p) LP.out (by first | exact (SP.out _ OA.out.drew).2 | exact (SP.out _ (OA.out.drew.trans (by simpa [Value.ownBlock] using hgB.only) (by simp))).2) (u8s_oneCell _) (by omega) (by decide) ?_; intro vA wA hgA; have hKEEP := hgA.only.cell (by assumption) (by simp [Value.ownBlock]))
        | (refine step_grow (by rfl) (.const (.slice none 0 0)) (.tmp 21) 23 (by rfl) 5 Try.underlying23 (info_parts B.info_byte) rfl (by decide) (.slice none 0 0) 0 [] rfl ⟨rfl, .inl ⟨rfl, rfl⟩⟩ ko kn kc rfl (u8s cell) LK.out (by first | exact (SK.out _ OA.out.drew).2 | exact (SK.out _ (OA.out.drew.trans (by simpa [Value.ownBlock] using hgA.only) (by simp))).2) (u8s_oneCell _) (by omega) (by decide) ?_; intro vB wB hgB; have hKEEP := hgB.only.cell (by assumption) (by simp [Value.ownBlock])))
    all_goals
      first
        | (have T := two_rows OA.out.drew hgA HPN.out hgB HKN.out; have RR := Lib.hid (And.intro T.1 (And.intro T.2.1 (And.intro T.2.2.1 (T.2.2.2.blk SB.out.drew (by simp))))))
        | (have T := two_rows OA.out.drew hgB HKN.out hgA HPN.out; have RR := Lib.hid (And.intro T.2.1 (And.intro T.1 (And.intro (show ∀ k, vB.ownBlock = some k → vA.ownBlock ≠ some k from fun k h1 h2 => T.2.2.1 k h2 h1) (T.2.2.2.blk SB.out.drew (by simp))))))
      clear T hgA hgB
      go_wp2_with fail
      go_meet
      case rel => exact RR.out
  case rest =>
    obtain ⟨hA, hB, hne, hS⟩ := hcut
    have HA := Lib.hid hA
    have HCp := Lib.hid hB
    have HNE := Lib.hid hne
    have y0 := hS.cell 0
    have y1 := hS.cell 1
    have y2 := hS.cell 2
    simp only [List.getElem?_cons_succ, List.getElem?_cons_zero] at y0 y1 y2
    have PW := Lib.hid (HB.out.past hA.2.2)
    have KW := Lib.hid (HK.out.past hA.2.2)
    have OW := Lib.hid hA.2.2
    clear hA hB hne hS SP SK LP LK SB OA
    go_upto_block 0 with fail
    generalize wc = W1 at *
    go_cut [6, 7, 8, 9, 10, 11] (fun s6 s7 s8 s9 s10 s11 wx => ∃ (er ip : Nat) (r : List UInt8), s8 = .int .i64 er ∧ s9 = .int .i64 er ∧ s10 = .int .i64 ip ∧ s11 = .int .i64 ip ∧ KeptC wx u13 s6 r ∧ KeptC wx u13 s7 r ∧ (er = 0 → Pg p → Pg r ∧ g r 4 = g p 4) ∧ Only [] W1 wx)
    case first =>
      by_cases hw3 : what = 0 ∨ what = 1 ∨ what = 2
      · as_aux_lemma =>
        have hw : what = 0 ∨ what = 1 ∨ what = 2 := hw3
        by_cases hE : insE p cell = 0
        · have hI := ins_ok hE
          have I1 := Lib.hid (insert_yes (own_c HA.out) HCp.out.1.at hE)
          have I2 : Hid (∀ w1, Only [] W1 w1 → Calls Try.prog 44 #[.slice po pn pc, .slice ko kn kc] w1 fun e w' => ∃ gb c, e = .returned (.tuple #[.slice (some ⟨gb, 0, none⟩) 512 c, .int .i64 (freeS p : Nat), .int .i64 0]) ∧ Buf w' gb c (insP p cell) ∧ w1.heap.size ≤ gb ∧ Only [] w1 w') := fun w1 hO => rinsert_yes (PW.out.past hO) (bytes_past KW.out.1 hO) hE
          have PP : Hid (Pg p → Pg (insP p cell) ∧ g (insP p cell) 4 = g p 4) := fun _ => ⟨hI.pg, hI.kind⟩
          generalize insP p cell = r at *
          generalize freeS p = fs at *
          clear hE hI
          rcases hw with rfl | rfl | rfl
          all_goals
            go_wp2_with (first
              | (go_at_call 10; refine I1.out.mono ?_; rintro e w3 ⟨g3, c3, rfl, hb3, hg3, hO3⟩; have B3 := Lib.hid hb3; have G3 := Lib.hid hg3; have O3 := Lib.hid hO3; have z2 := hO3.cell y2 (by simp); clear hb3 hg3 hO3)
              | (go_at_call 44; refine (I2.out _ O3.out).mono ?_; rintro e w4 ⟨g4, c4, rfl, hb4, hg4, hO4⟩; have B4 := Lib.hid hb4; have G4 := Lib.hid (Nat.le_trans O3.out.size hg4); have B34 := Lib.hid (B3.out.past hO4); have O4 := Lib.hid (O3.out.trans hO4 (by simp)); clear hb4 hg4 hO4))
            go_meet
            case rel => exact ⟨0, fs, r, rfl, rfl, rfl, rfl, kept_buf B34.out HCp.out.1 G3.out, kept_buf B4.out HCp.out.1 G4.out, fun _ => PP.out, O4.out⟩
        · obtain ⟨z, hz⟩ : ∃ z, insE p cell = z := ⟨_, rfl⟩
          rw [hz] at hE
          have I1 := Lib.hid (insert_no (own_c HA.out) HCp.out.1.at hz hE)
          have I2 : Hid (∀ w1, Only [] W1 w1 → Calls Try.prog 44 #[.slice po pn pc, .slice ko kn kc] w1 fun e w' => e = .returned (.tuple #[.slice none 0 0, .int .i64 0, .int .i64 z]) ∧ Only [] w1 w') := fun w1 hO => rinsert_no (PW.out.past hO) (bytes_past KW.out.1 hO) hz hE
          have HZ := Lib.hid hE
          clear hE hz
          rcases hw with rfl | rfl | rfl
          all_goals
            go_wp2_with (first
              | (go_at_call 10; refine I1.out.mono ?_; rintro e w3 ⟨rfl, hO3⟩; have O3 := Lib.hid hO3; have z2 := hO3.cell y2 (by simp); clear hO3)
              | (go_at_call 44; refine (I2.out _ O3.out).mono ?_; rintro e w4 ⟨rfl, hO4⟩; have O4 := Lib.hid (O3.out.trans hO4 (by simp)); clear hO4))
            go_meet
            case rel => exact ⟨z, 0, [], rfl, rfl, rfl, rfl, kept_nil, kept_nil, fun h => absurd h HZ.out, O4.out⟩
      · by_cases h3 : what = 3
        · as_aux_lemma =>
          subst h3
          by_cases hE : repE p slot cell = 0
          · obtain ⟨hp, k, rfl, hk, hk0, l1, l2, l3⟩ := repE_ok hE
            have I1 := Lib.hid (replace_yes (own_c HA.out) HCp.out.1.at hp hk hk0 l1 l2 l3)
            have I2 : Hid (∀ w1, Only [] W1 w1 → Calls Try.prog 45 #[.slice po pn pc, .int .i64 k, .slice ko kn kc] w1 fun e w' => ∃ gb c r, e = .returned (.tuple #[.slice (some ⟨gb, 0, none⟩) 512 c, .int .i64 0]) ∧ Rep p k cell r ∧ Buf w' gb c r ∧ w1.heap.size ≤ gb ∧ Only [] w1 w') := fun w1 hO => rreplace_yes (PW.out.past hO) (bytes_past KW.out.1 hO) hp hk hk0 l1 l2 l3
            have PP : Hid (∀ r, Rep p k cell r → Pg p → Pg r ∧ g r 4 = g p 4) := fun r hr _ => ⟨(hr.swap hp hk hk0 l1 l2 l3).pg, (hr.swap hp hk hk0 l1 l2 l3).kind⟩
            clear hE hp hk hk0 l1 l2 l3
            go_wp2_with (first
              | (go_at_call 18; refine I1.out.mono ?_; rintro e w3 ⟨g3, c3, r, rfl, hr3, hb3, hg3, hO3⟩; have R3 := Lib.hid hr3; have B3 := Lib.hid hb3; have G3 := Lib.hid hg3; have O3 := Lib.hid hO3; have z2 := hO3.cell y2 (by simp); have z1 := hO3.cell y1 (by simp); clear hr3 hb3 hg3 hO3)
              | (go_at_call 45; refine (I2.out _ O3.out).mono ?_; rintro e w4 ⟨g4, c4, r4, rfl, hr4, hb4, hg4, hO4⟩; have R4 := Lib.hid hr4; have B4 := Lib.hid hb4; have G4 := Lib.hid (Nat.le_trans O3.out.size hg4); have B34 := Lib.hid (B3.out.past hO4); have O4 := Lib.hid (O3.out.trans hO4 (by simp)); clear hr4 hb4 hg4 hO4))
            go_meet
            case rel => exact ⟨0, 0, r, rfl, rfl, rfl, rfl, kept_buf B34.out HCp.out.1 G3.out, kept_buf (by rw [R3.out.unique R4.out]; exact B4.out) HCp.out.1 G4.out, fun _ => PP.out r R3.out, O4.out⟩
          · obtain ⟨z, hz⟩ : ∃ z, repE p slot cell = z := ⟨_, rfl⟩
            rw [hz] at hE
            have I1 := Lib.hid (replace_no (own_c HA.out) HCp.out.1.at slot hs hz hE)
            have I2 : Hid (∀ w1, Only [] W1 w1 → Calls Try.prog 45 #[.slice po pn pc, .int .i64 slot, .slice ko kn kc] w1 fun e w' => e = .returned (.tuple #[.slice none 0 0, .int .i64 z]) ∧ Only [] w1 w') := fun w1 hO => rreplace_no (PW.out.past hO) (bytes_past KW.out.1 hO) slot hs hz hE
            have HZ := Lib.hid hE
            clear hE hz
            go_wp2_with (first
              | (go_at_call 18; refine I1.out.mono ?_; rintro e w3 ⟨rfl, hO3⟩; have O3 := Lib.hid hO3; have z2 := hO3.cell y2 (by simp); have z1 := hO3.cell y1 (by simp); clear hO3)
              | (go_at_call 45; refine (I2.out _ O3.out).mono ?_; rintro e w4 ⟨rfl, hO4⟩; have O4 := Lib.hid (O3.out.trans hO4 (by simp)); clear hO4))
            go_meet
            case rel => exact ⟨z, 0, [], rfl, rfl, rfl, rfl, kept_nil, kept_nil, fun h => absurd h HZ.out, O4.out⟩
        · by_cases h4 : what = 4
          · as_aux_lemma =>
            subst h4
            by_cases hE : getE p slot = 0
            · obtain ⟨hp, k, rfl, hk, hk0⟩ := getE_ok hE
              have I1 := Lib.hid (delete_yes (own_c HA.out) hp hk hk0)
              have I2 : Hid (∀ w1, Only [] W1 w1 → Calls Try.prog 46 #[.slice po pn pc, .int .i64 k] w1 fun e w' => ∃ gb c r, e = .returned (.tuple #[.slice (some ⟨gb, 0, none⟩) 512 c, .int .i64 0]) ∧ Del p k r ∧ Buf w' gb c r ∧ w1.heap.size ≤ gb ∧ Only [] w1 w') := fun w1 hO => rdelete_yes (PW.out.past hO) hp hk hk0
              have PP : Hid (∀ r, Del p k r → Pg p → Pg r ∧ g r 4 = g p 4) := fun r hr _ => ⟨(hr.cut hp hk hk0).pg, (hr.cut hp hk hk0).kind⟩
              clear hE hp hk hk0
              go_wp2_with (first
                | (go_at_call 12; refine I1.out.mono ?_; rintro e w3 ⟨g3, c3, r, rfl, hr3, hb3, hg3, hO3⟩; have R3 := Lib.hid hr3; have B3 := Lib.hid hb3; have G3 := Lib.hid hg3; have O3 := Lib.hid hO3; have z1 := hO3.cell y1 (by simp); clear hr3 hb3 hg3 hO3)
                | (go_at_call 46; refine (I2.out _ O3.out).mono ?_; rintro e w4 ⟨g4, c4, r4, rfl, hr4, hb4, hg4, hO4⟩; have R4 := Lib.hid hr4; have B4 := Lib.hid hb4; have G4 := Lib.hid (Nat.le_trans O3.out.size hg4); have B34 := Lib.hid (B3.out.past hO4); have O4 := Lib.hid (O3.out.trans hO4 (by simp)); clear hr4 hb4 hg4 hO4))
              go_meet
              case rel => exact ⟨0, 0, r, rfl, rfl, rfl, rfl, kept_buf B34.out HCp.out.1 G3.out, kept_buf (by rw [R3.out.unique R4.out]; exact B4.out) HCp.out.1 G4.out, fun _ => PP.out r R3.out, O4.out⟩
            · obtain ⟨z, hz⟩ : ∃ z, getE p slot = z := ⟨_, rfl⟩
              rw [hz] at hE
              have I1 := Lib.hid (delete_no (own_c HA.out) slot hs hz hE)
              have I2 : Hid (∀ w1, Only [] W1 w1 → Calls Try.prog 46 #[.slice po pn pc, .int .i64 slot] w1 fun e w' => e = .returned (.tuple #[.slice none 0 0, .int .i64 z]) ∧ Only [] w1 w') := fun w1 hO => rdelete_no (PW.out.past hO) slot hs hz hE
              have HZ := Lib.hid hE
              clear hE hz
              go_wp2_with (first
                | (go_at_call 12; refine I1.out.mono ?_; rintro e w3 ⟨rfl, hO3⟩; have O3 := Lib.hid hO3; have z1 := hO3.cell y1 (by simp); clear hO3)
                | (go_at_call 46; refine (I2.out _ O3.out).mono ?_; rintro e w4 ⟨rfl, hO4⟩; have O4 := Lib.hid (O3.out.trans hO4 (by simp)); clear hO4))
              go_meet
              case rel => exact ⟨z, 0, [], rfl, rfl, rfl, rfl, kept_nil, kept_nil, fun h => absurd h HZ.out, O4.out⟩
          · as_aux_lemma =>
            have b0 : (what == 0) = false := beq_eq_false_iff_ne.2 (fun h => hw3 (.inl h))
            have b1 : (what == 1) = false := beq_eq_false_iff_ne.2 (fun h => hw3 (.inr (.inl h)))
            have b2 : (what == 2) = false := beq_eq_false_iff_ne.2 (fun h => hw3 (.inr (.inr h)))
            have b3 : (what == 3) = false := beq_eq_false_iff_ne.2 h3
            have b4 : (what == 4) = false := beq_eq_false_iff_ne.2 h4
            clear hw3 h3 h4
            have LENT : Hid (∀ w1, Only [] W1 w1 → BytesAt w1 u12 p) := fun w1 hO => (own_past HA.out hO).1.at
            have PORG : Hid (∀ w1, Only [] W1 w1 → BytesAt w1 (.slice po pn pc) p) := fun w1 hO => bytes_past PW.out.1 hO
            by_cases hE : getE p slot = 0
            · obtain ⟨hp, k, rfl, hk, hk0⟩ := getE_ok hE
              have I1 := Lib.hid (get_yes (own_c HA.out) hp hk hk0)
              have I2 : Hid (∀ w1, Only [] W1 w1 → Calls Try.prog 47 #[.slice po pn pc, .int .i64 k] w1 fun e w' => ∃ v', e = .returned (.tuple #[v', .int .i64 0]) ∧ Own w1 w' v' (cutP p (sP p k) (sL p k))) := fun w1 hO => rget_yes (PW.out.past hO) hp hk hk0
              generalize cutP p (sP p k) (sL p k) = q at *
              clear hE hp hk hk0
              go_wp2_with (first
                | (go_at_call 16; refine I1.out.mono ?_; rintro e w3 ⟨v3, rfl, ho3⟩; have V3 := Lib.hid ho3; have O3 := Lib.hid ho3.2.2; have z1 := ho3.2.2.cell y1 (by simp); clear ho3)
                | (go_at_call 47; refine (I2.out _ O3.out).mono ?_; rintro e w4 ⟨v4, rfl, ho4⟩; have V4 := Lib.hid ho4; have V34 := Lib.hid (own_past V3.out ho4.2.2); have O4 := Lib.hid (O3.out.trans ho4.2.2 (by simp)); clear ho4)
                | (go_at_call 19; (first | refine (bytesf_yes V34.out.1.at V4.out.1.at rfl).mono ?_ | refine (bytesf_yes (LENT.out _ O4.out) (PORG.out _ O4.out) rfl).mono ?_); rintro e w5 ⟨rfl, rfl⟩))
              go_ret2
              exact ⟨_, p, rfl, PW.out.past O4.out, fun h => ⟨h, rfl⟩, OW.out.trans O4.out (by simp)⟩
            · obtain ⟨z, hz⟩ : ∃ z, getE p slot = z := ⟨_, rfl⟩
              rw [hz] at hE
              have I1 := Lib.hid (get_no (own_c HA.out) slot hs hz hE)
              have I2 : Hid (∀ w1, Only [] W1 w1 → Calls Try.prog 47 #[.slice po pn pc, .int .i64 slot] w1 fun e w' => e = .returned (.tuple #[.slice none 0 0, .int .i64 z]) ∧ Only [] w1 w') := fun w1 hO => rget_no (PW.out.past hO) slot hs hz hE
              have NIL : Hid (∀ w1 : World, BytesAt w1 (.slice none 0 0) []) := fun w1 => ⟨none, 0, rfl, fun h => by simp at h⟩
              clear hE hz
              go_wp2_with (first
                | (go_at_call 16; refine I1.out.mono ?_; rintro e w3 ⟨rfl, hO3⟩; have O3 := Lib.hid hO3; have z1 := hO3.cell y1 (by simp); clear hO3)
                | (go_at_call 47; refine (I2.out _ O3.out).mono ?_; rintro e w4 ⟨rfl, hO4⟩; have O4 := Lib.hid (O3.out.trans hO4 (by simp)); clear hO4)
                | (go_at_call 19; (first | refine (bytesf_yes (NIL.out _) (NIL.out _) rfl).mono ?_ | refine (bytesf_yes (LENT.out _ O4.out) (PORG.out _ O4.out) rfl).mono ?_); rintro e w5 ⟨rfl, rfl⟩))
              go_ret2
              exact ⟨_, p, rfl, PW.out.past O4.out, fun h => ⟨h, rfl⟩, OW.out.trans O4.out (by simp)⟩
    case rest => as_aux_lemma =>
      obtain ⟨er, ip, r, rfl, rfl, rfl, rfl, k6, k7, hpg, hO⟩ := hcut
      have K6 := Lib.hid k6
      have K7 := Lib.hid k7
      have HPG := Lib.hid hpg
      have OC := Lib.hid hO
      have LENT : Hid (BytesAt wc u12 p) := (own_past HA.out hO).1.at
      have PORG : Hid (BytesAt wc (.slice po pn pc) p) := bytes_past PW.out.1 hO
      have A6 : Hid (BytesAt wc u6 r) := (k6 wc (Only.refl _ _)).1
      have A7 : Hid (BytesAt wc u7 r) := (k7 wc (Only.refl _ _)).1
      have SPO := Lib.hid (spoil_row (own_past HCp.out hO).1 (by rw [HKN.out]; omega))
      have NEW : Hid (∀ w2, Only u13.ownBlock.toList wc w2 → Only [] w w2) := fun w2 h2 => (OW.out.trans hO (by simp)).trans h2 (fun x hx => .inr (HCp.out.2.1 x (by simpa using hx)))
      clear k6 k7 hpg hO
      by_cases he : er = 0
      · have HP2 := Lib.hid (HPG.out he)
        subst he
        go_wp2_with (first
          | (go_at_call 19; (first | (refine (bytesf_yes (K6.out _ O5.out).1 (K7.out _ O5.out).1 rfl).mono ?_) | (refine (bytesf_yes A6.out A7.out rfl).mono ?_) | (refine (bytesf_yes LENT.out PORG.out rfl).mono ?_)); rintro e w4 ⟨rfl, rfl⟩)
          | (go_at_call 48; refine SPO.out.mono ?_; rintro e w5 ⟨rfl, hO5⟩; have O5 := Lib.hid hO5; clear hO5))
        go_ret2
        exact ⟨_, r, rfl, K7.out _ O5.out, HP2.out, NEW.out _ O5.out⟩
      · have e1 : ¬ (er : Int) = 0 := by omega
        have e2 : ((er : Int) != 0) = true := bne_iff_ne.2 e1
        clear he
        go_wp2_with (first
          | (go_at_call 19; (first | (refine (bytesf_yes A6.out A7.out rfl).mono ?_) | (refine (bytesf_yes LENT.out PORG.out rfl).mono ?_)); rintro e w4 ⟨rfl, rfl⟩)
          | (go_at_call 48; refine SPO.out.mono ?_; rintro e w5 ⟨rfl, hO5⟩; have O5 := Lib.hid hO5; clear hO5))
        go_ret2
        exact ⟨_, p, rfl, HB.out.past (NEW.out _ O5.out), fun h => ⟨h, rfl⟩, NEW.out _ O5.out⟩
end Go.Proofs.Ytdgnndcnpmlifaa.G
