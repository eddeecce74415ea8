/-
  The document's disk: Restart by its contract.
-/
import Derived.Test.YtgifigfdjcgkaaaRefC
import Derived.Deep.LoopGhost
import Derived.Deep.Cut
import Derived.Deep.CutRange
namespace Go.Proofs.Ytgifigfdjcgkaaa.D
set_option linter.unusedSimpArgs false
open Go.RowKit
set_option linter.unusedVariables false
variable {w w' : World} {F G X : List Nat} {v : Value} {l : Sector} {vs : List Value} {ls : List Sector} {n d : Nat} {s : DS} {sv nv rv : Value} {sx nx rx : List Value}

theorem rtorn_len (s : DS) (keep : List Int) : ∀ k, (rtornTo s keep k).length = s.sure.length
  | 0 => rfl
  | k + 1 => by simp only [rtornTo, rtearOne, List.length_set]; exact rtorn_len s keep k
theorem rtorn_next (s : DS) (keep : List Int) (k : Nat) (hk : k < s.row.length) (p : Nat) (h : kept keep k = p) :
    s.rtornAt keep (k + 1) = { s.rtornAt keep k with sure := (s.rtornAt keep k).sure.set s.row[k].1 (s.row[k].2.take p ++ ((s.rtornAt keep k).sure.getD s.row[k].1 []).drop p) } := by
  have e : s.row.getD k (0, []) = s.row[k] := by rw [List.getD_eq_getElem?_getD, List.getElem?_eq_getElem hk]; rfl
  simp only [DS.rtornAt, rtornTo, rtearOne, h, e]
/-- More blocks are held. -/
theorem RefAt.more (h : RefAt w d F s sv nv rv sx nx rx) (hF : ∀ k ∈ F, k ∈ G) (hG : ∀ k ∈ G, k < w.heap.size) : RefAt w d G s sv nv rv sx nx rx where
  disk := h.disk
  ownS := h.ownS
  ownN := h.ownN
  ownR := h.ownR
  secS := h.secS.off (Only.refl [] _) (Off.nil _ _) hF
  secN := h.secN.off (Only.refl [] _) (Off.nil _ _) hF
  row := h.row.map (fun h => h.off (Only.refl [] _) (Off.nil _ _) hF)
  ne := h.ne
  few := h.few
  fd := hF _ h.fd
  fS := fun k hk => hF _ (h.fS k hk)
  fN := fun k hk => hF _ (h.fN k hk)
  fR := fun k hk => hF _ (h.fR k hk)
  lt := hG

set_option maxRecDepth 100000 in
set_option maxHeartbeats 4000000 in
theorem rrestart_any (h : RefAt w d F s sv nv rv sx nx rx) (hsame : s.sure.length = s.now.length) (hr : s.row.length ≤ 1048576) (kv : Value) (keep : List Int) (hk : IntsAt w kv keep) (hkM : 0 < keep.length → ∀ a n c, kv = .slice (some a) n c → a.block ∉ F) :
    Calls Try.prog 28 #[.pointer (some ⟨d, 0, none⟩), .agg #[kv]] w fun e w' => e = .returned (.tuple #[]) ∧ ∃ F' sx' nx', RefAt w' d F' (s.rrestart keep) sv nv (.slice none 0 0) sx' nx' [] ∧ Only F w w' ∧ (∀ k ∈ F', k ∈ F ∨ w.heap.size ≤ k) ∧ Keeps 62 w w' := by
  obtain ⟨ao, cap, rfl, hao⟩ := owns_shape h.ownR
  obtain ⟨so, scap, rfl, hso⟩ := owns_shape h.ownS
  obtain ⟨no, ncap, rfl, hno⟩ := owns_shape h.ownN
  obtain ⟨ko, kcap, rfl, hko⟩ := hk
  have HH := Lib.hid h
  have HAO := Lib.hid hao
  have HSO := Lib.hid hso
  have HNO := Lib.hid hno
  have HKO := Lib.hid hko
  have HKM := Lib.hid hkM
  have HSA := Lib.hid hsame
  clear hao hso hno h hsame hko hkM
  generalize hrn : s.row.length = rn at *
  have Hrn := Lib.hid hrn
  clear hrn
  generalize hn : s.sure.length = n at *
  have Hn := Lib.hid hn
  clear hn
  generalize hn2 : s.now.length = n2 at *
  obtain rfl : n2 = n := HSA.out.symm
  have Hn2 := Lib.hid hn2
  clear hn2
  have hn3 : n2 ≤ 65536 := by rw [← Hn2.out]; exact HH.out.few
  generalize hm : keep.length = m at *
  have Hm := Lib.hid hm
  clear hm
  go_enter Try.func28, Try.ntmps28
  go_wp2_with fail
  have KB := Lib.hid (Blk.new' #[.slice ko m kcap] 35 w rfl)
  have D1 := Lib.hid (HH.out.past ((Only.refl [] _).alloc (.cells #[.slice ko m kcap] 35)))
  have O1 : Hid (Only [] w (w.alloc (.cells #[.slice ko m kcap] 35))) := (Only.refl _ _).alloc _
  generalize w.alloc (.cells #[.slice ko m kcap] 35) = w1 at *
  have hcb : Hid (∀ k ∈ F, k ≠ w.heap.size) := fun k hk e => by have := HH.out.lt k hk; omega
  generalize w.heap.size = cb at *
  go_loopg [4] rn (fun gk i wr => ∃ (k : Nat) (sx' : List Value) (F' : List Nat), gk = rn - k ∧ k ≤ rn ∧ i = .int .i64 k ∧ RefAt wr d F' (s.rtornAt keep k) (.slice so n2 scap) (.slice no n2 ncap) (.slice ao rn cap) sx' nx rx ∧ Only F w1 wr ∧ (∀ k ∈ F', k ∈ F ∨ w1.heap.size ≤ k) ∧ Keeps 62 w1 wr)
  case atStart => exact ⟨0, sx, F, by omega, Nat.zero_le _, rfl, D1.out, Only.refl _ _, fun k hk => .inl hk, Keeps.refl _ _⟩
  case round =>
    obtain ⟨k, sx', F', hgk, hk, rfl, hD, hO, hF', hKp⟩ := hrel
    have HKEEP := Lib.hid hKp
    clear hKp
    have HGK := Lib.hid hgk
    have HD := Lib.hid hD
    have HO := Lib.hid hO
    have HF' := Lib.hid hF'
    have kb := (HO.out.blk KB.out (fun hm => hcb.out _ hm rfl)).cell 0
    simp at kb
    clear hD hO hgk hF'
    have c0 := HD.out.disk.cell 0
    have c2 := HD.out.disk.cell 2
    simp only [rcells, List.getElem?_cons_zero, List.getElem?_cons_succ] at c0 c2
    by_cases hlt : k < rn
    · go_upto_if 22 with fail
      go_cut [5] from 9 to 59 (fun s5 wx => ∃ p : Nat, p ≤ 512 ∧ kept keep k = p ∧ s5 = .int .i64 p ∧ wx = wr)
      case first =>
        by_cases hkm : k < m
        · obtain ⟨kb1, ko1, rfl, hkc⟩ := HKO.out (by omega)
          have ck := HO.out.cell (O1.out.cell (hkc k hkm) (by simp)) (HKM.out (by omega) ⟨kb1, ko1, none⟩ _ _ rfl)
          have hK : Hid (kept keep k = (max 0 (min (keep.getD k 0) 512)).toNat) := rfl
          clear hkc
          generalize keep.getD k 0 = x at *
          go_wp2_with fail
          all_goals
            go_meet
            case rel =>
              first
                | exact ⟨0, by omega, by rw [hK.out]; omega, rfl, rfl⟩
                | exact ⟨512, by omega, by rw [hK.out]; omega, rfl, rfl⟩
                | (obtain ⟨p, hp⟩ := Int.eq_ofNat_of_zero_le (show 0 ≤ x by omega)
                   subst hp
                   exact ⟨p, by omega, by rw [hK.out]; omega, rfl, rfl⟩)
        · have hK : Hid (kept keep k = 0) := by
            show kept keep k = 0
            unfold kept
            rw [List.getD_eq_getElem?_getD, List.getElem?_eq_none (by have := Hm.out; omega)]
            decide
          go_wp2_with fail
          go_meet
          case rel => exact ⟨0, by omega, hK.out, rfl, rfl⟩
      case rest =>
        obtain ⟨p, hp5, hkp, rfl, rfl⟩ := hcut
        have HKP := Lib.hid hkp
        clear hkp kb
        obtain ⟨g, rfl⟩ := HAO.out (by omega)
        have hk2 : k < s.row.length := by rw [Hrn.out]; exact hlt
        obtain ⟨pv, r0, r1, hat, hsec⟩ := RRow.get k hk2 HD.out.row
        have hat2 : s.row[k].1 < n2 := by rw [← Hn2.out]; exact hat
        obtain ⟨gs, rfl⟩ := HSO.out (by omega)
        have own : wc.ownsRow 0 71 2 (.slice (some ⟨g, 0, none⟩) rn cap) rn rx := by have := HD.out.ownR; rw [show (s.rtornAt keep k).row.length = rn from Hrn.out] at this; exact this
        have g0 := owns_cell own r0
        have g1 := owns_cell own r1
        generalize hP : s.row[k].1 = at1 at *
        have HP := Lib.hid hP
        have HPL := Lib.hid hsec.1
        obtain ⟨_, gx, cx, rfl, hgx, hbx⟩ := hsec
        have HBX := Lib.hid hbx
        have hcx : 512 ≤ cx := by
          have h2 := hbx
          unfold ByteRow at h2
          rw [HPL.out] at h2
          obtain ⟨_, _, _, _, h3⟩ := owns_blk h2
          exact h3
        have hpc : (p : Int) ≤ cx := by omega
        have hslen : (s.rtornAt keep k).sure.length = n2 := by show (rtornTo s keep k).length = n2; rw [rtorn_len, Hn.out]
        have HSL := Lib.hid hslen
        clear hP own r0 r1 hat hgx hbx hslen
        have ha0 : (0 : Int) ≤ at1 := by omega
        have ha1 : (at1 : Int) < n2 := by omega
        have hp0 : (0 : Int) ≤ p := by omega
        have hp1 : (p : Int) ≤ 512 := by omega
        go_wp2_with fail
        have HX : Hid (Only [] wc (wc.alloc (.cells #[.int .i64 at1, .slice (some ⟨gx, 0, none⟩) 512 cx] 71))) := (Only.refl _ _).alloc _
        have PB := Lib.hid (Blk.new' #[.int .i64 at1, .slice (some ⟨gx, 0, none⟩) 512 cx] 71 wc rfl)
        clear c0 c2 g0 g1
        generalize wc.alloc (.cells #[.int .i64 at1, .slice (some ⟨gx, 0, none⟩) 512 cx] 71) = wx at *
        generalize wc.heap.size = pb at *
        have T2 := Lib.hid (HD.out.past HX.out)
        have BX2 := Lib.hid (HBX.out.off HX.out (Off.nil _ _))
        have c0 := T2.out.disk.cell 0
        have p0 := PB.out.cell 0
        have p1 := PB.out.cell 1
        simp only [rcells, List.getElem?_cons_zero, List.getElem?_cons_succ] at c0 p0 p1
        have hon := T2.out.ownS
        rw [HSL.out] at hon
        obtain ⟨gs', cap', he', gy, cy, cS, fS, hgy, hby, hlo, _⟩ := rsec_cell (ls := (s.rtornAt keep k).sure) T2.out.ownS T2.out.secS (i := at1) (by rw [HSL.out]; exact hat2)
        simp only [Value.slice.injEq, Option.some.injEq, Addr.mk.injEq, and_true, true_and] at he'
        obtain ⟨rfl, hx, rfl⟩ := he'
        clear hx
        generalize hold : (s.rtornAt keep k).sure.getD at1 [] = old at *
        have HOLD := Lib.hid hold
        have BY := Lib.hid hby
        have BYS := Lib.hid hby.src
        have HLO := Lib.hid hlo
        clear hold hby hlo hgy fS hon
        go_cut [7] from 9 to 59 (fun s7 wy => ∃ cap3, s7 = .slice (some ⟨wx.heap.size, 0, none⟩) 512 cap3 ∧ wy.ownsRow 0 5 1 (.slice (some ⟨wx.heap.size, 0, none⟩) 512 cap3) 512 (u8s old) ∧ Only [] wx wy)
        case first =>
          go_region_law ((refine step_clone rfl _ _ _ rfl 5 Try.underlying22 (info_parts info_byte) rfl rfl gy 0 512 cy (u8s old) rfl (by rw [length_u8s]; exact HLO.out) (by exact BYS.out) (u8s_oneCell _) (by omega) (by omega) (by omega) ?_; intro cap3 w3 hown3 hO3 hg3))
          all_goals
            have OWN3 := Lib.hid hown3
            have HO3 : Hid (Only [] wx w3) := ((Only.refl _ _).drew).trans hO3 (by simp)
            clear hown3 hO3 hg3
            go_wp2_with fail
            go_meet
            case rel => exact ⟨_, rfl, OWN3.out, HO3.out⟩
        case rest =>
          obtain ⟨cap3, rfl, hown3, hO3⟩ := hcut
          have OWN3 := Lib.hid hown3
          have HO3 := Lib.hid hO3
          have T3 := Lib.hid (T2.out.past hO3)
          have PB3 := Lib.hid (hO3.blk PB.out (by simp))
          have BX3 := Lib.hid (BX2.out.off hO3 (Off.nil _ _))
          clear hown3 hO3 c0 p0 p1 cS
          have p1 := PB3.out.cell 1
          simp only [List.getElem?_cons_zero, List.getElem?_cons_succ] at p1
          have TL : Hid ((u8s (s.row[k].2.take p)).length = Nat.min p 512) := by
            show _ = _
            rw [length_u8s, List.length_take, HPL.out]
          go_wp2_with (refine wpList_copy_owned rfl (.tmp 46) (.tmp 50) 22 22 rfl 5 Try.underlying22 size_byte wx.heap.size 512 cap3 (u8s old) (by exact OWN3.out) _ p _ rfl rfl (u8s (s.row[k].2.take p)) (by exact TL.out) (by exact fun _ => ⟨_, rfl, fun i v hv => by rw [add_plain]; exact BX3.out.src i v (take_get (by rw [← u8s_take]; exact hv))⟩) (u8s_oneCell _) ?_)
          intro w4 hown4 hO4
          have O4 : Hid (Only [] wx w4) := HO3.out.trans hO4 (by simp)
          have OWN4 := Lib.hid hown4
          have sz4 : Hid (wx.heap.size < w4.heap.size) := by
            have := owns_lt OWN3.out (k := wx.heap.size) rfl
            have := hO4.size
            show _ < _
            omega
          clear hown4 hO4 p1
          have T4 := Lib.hid (T2.out.past O4.out)
          have PB4 := Lib.hid (O4.out.blk PB.out (by simp))
          have c0 := T4.out.disk.cell 0
          have p0 := PB4.out.cell 0
          simp only [rcells, List.getElem?_cons_zero, List.getElem?_cons_succ] at c0 p0
          have hon := T4.out.ownS
          rw [HSL.out] at hon
          obtain ⟨cur, hbg, hcl, _, hcn⟩ := owns_blk hon
          have ne1 : gs ≠ d := hbg.ne T4.out.disk (by decide)
          have ne2 : gs ≠ pb := hbg.ne PB4.out (by decide)
          obtain ⟨oldc, cS⟩ := hbg.at at1 (by rw [hcl]; omega)
          have fS := hbg.frozen at1
          have HBG := Lib.hid hbg
          clear hon hbg hcl hcn
          go_wp2_with fail
          go_region_held3 (fun w' => w'.cell? ⟨d, 0, none⟩ = some (.slice (some ⟨gs, 0, none⟩) n2 scap) ∧ w'.cell? ⟨pb, 0, none⟩ = some (.int .i64 at1)) (go_keep) (fail)
          go_wp2_with fail
          go_roundg (rn - (k + 1))
          case measure => have := HGK.out; omega
          case rel =>
            have hnl : (s.row[k].2.take p ++ old.drop p).length = 512 := by
              rw [List.length_append, List.length_take, List.length_drop, HPL.out, HLO.out]; omega
            have hrow : ByteRow 5 w4 (.slice (some ⟨wx.heap.size, 0, none⟩) 512 cap3) (s.row[k].2.take p ++ old.drop p) := by
              unfold ByteRow
              rw [hnl, u8s_append, u8s_drop]
              have h4 := OWN4.out
              exact h4
            have T5 := T4.out.more (G := wx.heap.size :: F') (fun x hx => by simp [hx]) (fun x hx => by
              simp only [List.mem_cons] at hx
              rcases hx with rfl | hx
              · exact sz4.out
              · exact T4.out.lt x hx)
            have T6 := (T5.sureSet HSL.out hat2 (v := .slice (some ⟨wx.heap.size, 0, none⟩) 512 cap3) (l := s.row[k].2.take p ++ old.drop p) ⟨hnl, wx.heap.size, cap3, rfl, by simp, hrow⟩).past (Only.refl _ _).drew
            obtain rfl := HP.out
            refine ⟨k + 1, sx'.set s.row[k].1 (.slice (some ⟨wx.heap.size, 0, none⟩) 512 cap3), wx.heap.size :: F', rfl, by omega, by go_num, ?_, ?_, ?_, ?_⟩
            · rw [rtorn_next s keep k hk2 p HKP.out, HOLD.out]
              exact T6
            · refine Only.drew (Only.setCell (p := ⟨gs, s.row[k].1, none⟩) ((HO.out.trans HX.out (by simp)).trans O4.out (by simp)) (.inl (HH.out.fS gs rfl)) _)
            · intro x hx
              simp only [List.mem_cons] at hx
              rcases hx with rfl | hx
              · right
                have := HO.out.size
                have := HX.out.size
                omega
              · exact HF'.out x hx
            · exact (((HKEEP.out.trans (Keeps.past HX.out)).trans (Keeps.past O4.out)).trans (Keeps.one (only_set _ gs s.row[k].1 _) HBG.out (by decide))).trans (Keeps.past (Only.refl _ _).drew)
    · obtain rfl : k = rn := by omega
      have f2 := HD.out.disk.frozen 2
      clear c0
      go_wp2_with fail
      have T2 := Lib.hid HD.out.rowGone
      have K2 : Hid (Keeps 62 w1 (wr.setCell ⟨d, 2, none⟩ (.slice none 0 0))) := HKEEP.out.trans (Keeps.one (only_set _ d 2 _) HD.out.disk (by decide))
      have O2 : Hid (Only F w1 (wr.setCell ⟨d, 2, none⟩ (.slice none 0 0))) := HO.out.setCell (.inl HH.out.fd) _
      generalize wr.setCell ⟨d, 2, none⟩ (.slice none 0 0) = w2 at *
      generalize hS : rtornTo s keep s.row.length = S at *
      have HS := Lib.hid hS
      have HSl : Hid (S.length = n2) := by show _ = _; rw [← hS, rtorn_len, Hn.out]
      have e0 : ({ s.rtornAt keep k with row := [] } : DS) = { s with sure := S, now := S.take 0 ++ s.now.drop 0, row := [] } := by
        rw [← hS]; obtain rfl := Hrn.out; simp [DS.rtornAt]
      rw [e0] at T2
      clear hS e0
      go_loopg [8] n2 (fun gj i wr => ∃ (j : Nat) (nx' : List Value), gj = n2 - j ∧ j ≤ n2 ∧ i = .int .i64 j ∧ RefAt wr d F' { s with sure := S, now := S.take j ++ s.now.drop j, row := [] } (.slice so n2 scap) (.slice no n2 ncap) (.slice none 0 0) sx' nx' [] ∧ Only F w1 wr ∧ Keeps 62 w1 wr)
      case atStart => exact ⟨0, nx, by omega, Nat.zero_le _, rfl, T2.out, O2.out, K2.out⟩
      case round =>
        obtain ⟨j, nx', hgj, hj, rfl, hT, hO, hKp⟩ := hrel
        have KP := Lib.hid hKp
        clear hKp
        have HGJ := Lib.hid hgj
        have T := Lib.hid hT
        have O := Lib.hid hO
        have HNl : Hid ((S.take j ++ s.now.drop j).length = n2) := by
          show _ = _
          rw [List.length_append, List.length_take, List.length_drop, HSl.out, Hn2.out]; omega
        clear hgj hT hO c2 f2
        have c0 := T.out.disk.cell 0
        have c1 := T.out.disk.cell 1
        simp only [rcells, List.getElem?_cons_zero, List.getElem?_cons_succ] at c0 c1
        by_cases hlj : j < n2
        · have hj0 : (0 : Int) ≤ j := by omega
          have hj1 : (j : Int) < n2 := by omega
          obtain ⟨gs, rfl⟩ := HSO.out (by omega)
          obtain ⟨gn, rfl⟩ := HNO.out (by omega)
          obtain ⟨gs', cap', he', gy, cy, cS, fS, hgy, hby, hlo, _⟩ := rsec_cell (ls := S) T.out.ownS T.out.secS (i := j) (by rw [HSl.out]; exact hlj)
          simp only [Value.slice.injEq, Option.some.injEq, Addr.mk.injEq, and_true, true_and] at he'
          obtain ⟨rfl, hx, rfl⟩ := he'
          clear hx
          have hon := T.out.ownN
          rw [HNl.out] at hon
          obtain ⟨cur, hbg, hcl, _, hcn⟩ := owns_blk hon
          have ne1 : gn ≠ d := hbg.ne T.out.disk (by decide)
          have ne2 : gn ≠ gs := fun e => T.out.ne gs rfl (by rw [e]; rfl)
          obtain ⟨oldc, cN⟩ := hbg.at j (by rw [hcl]; omega)
          have fN := hbg.frozen j
          have HSEC : Hid (RSec wr F' (.slice (some ⟨gy, 0, none⟩) 512 cy) (S.getD j [])) := ⟨hlo, gy, cy, rfl, hgy, hby⟩
          have HBG := Lib.hid hbg
          clear hon hbg hcl hcn hby hlo hgy fS
          go_wp2_with fail
          go_region_held3 (fun w' => w'.cell? ⟨d, 0, none⟩ = some (.slice (some ⟨gs, 0, none⟩) n2 scap) ∧ w'.cell? ⟨d, 1, none⟩ = some (.slice (some ⟨gn, 0, none⟩) n2 ncap) ∧ w'.cell? ⟨gs, j, none⟩ = some (.slice (some ⟨gy, 0, none⟩) 512 cy)) (go_keep) (fail)
          go_wp2_with fail
          go_roundg (n2 - (j + 1))
          case measure => have := HGJ.out; omega
          case rel =>
            have e1 : (S.take j ++ s.now.drop j).set j (S.getD j []) = S.take (j + 1) ++ s.now.drop (j + 1) := by
              have hS := HSl.out
              have hN := Hn2.out
              rw [List.set_append_right _ _ (by rw [List.length_take]; omega), List.length_take, Nat.min_eq_left (by omega), Nat.sub_self, List.drop_eq_getElem_cons (by omega), List.set_cons_zero, List.take_succ_eq_append_getElem (by omega), List.getD_eq_getElem?_getD, List.getElem?_eq_getElem (by omega)]
              simp only [List.append_assoc, List.cons_append, List.nil_append, Option.getD_some]
            have T5 := (T.out.nowSet HNl.out hlj HSEC.out).past (Only.refl _ _).drew
            rw [e1] at T5
            exact ⟨j + 1, nx'.set j (.slice (some ⟨gy, 0, none⟩) 512 cy), rfl, by omega, by go_num, T5, Only.drew (Only.setCell (p := ⟨gn, j, none⟩) O.out (.inl (HH.out.fN gn rfl)) _), (KP.out.trans (Keeps.one (only_set _ gn j _) HBG.out (by decide))).trans (Keeps.past (Only.refl _ _).drew)⟩
        · obtain rfl : j = n2 := by omega
          have c4 := T.out.disk.cell 4
          have c5 := T.out.disk.cell 5
          have c6 := T.out.disk.cell 6
          have f4 := T.out.disk.frozen 4
          have f5 := T.out.disk.frozen 5
          have f6 := T.out.disk.frozen 6
          simp only [rcells, List.getElem?_cons_zero, List.getElem?_cons_succ] at c4 c5 c6
          go_wp2_with fail
          go_end0
          refine ⟨rfl, F', sx', nx', ?_, ?_, ?_, ?_⟩
          · have e2 : S.take j ++ s.now.drop j = S := by
              rw [List.take_of_length_le (by rw [HSl.out]; exact Nat.le_refl _), List.drop_eq_nil_of_le (by rw [Hn2.out]; exact Nat.le_refl _), List.append_nil]
            have T5 := T.out
            rw [e2] at T5
            have e3 : s.rrestart keep = { s with now := S, sure := S, row := [], fail := 0, halt := -1, down := false } := by rw [← HS.out]; rfl
            rw [e3]
            refine T5.cells ?_ (Blk.to (by repeat' (first | exact T5.disk | apply Blk.set)) (by simp [rcells])) rfl rfl rfl
            repeat (first | exact Only.refl _ _ | refine Only.setCell ?_ (.inl (by simp)) _)
          · refine Only.setCell (Only.setCell (Only.setCell ((O1.out.mono (by simp)).trans O.out (fun x hx => .inl hx)) (.inl HH.out.fd) _) (.inl HH.out.fd) _) (.inl HH.out.fd) _
          · intro x hx
            rcases HF'.out x hx with h | h
            · exact .inl h
            · right
              have := O1.out.size
              omega
          · refine ((Keeps.past O1.out).trans KP.out).trans (Keeps.one (g := d) ?_ T.out.disk (by decide))
            repeat (first | exact Only.refl _ _ | refine Only.setCell ?_ (.inl (by simp)) _)
end Go.Proofs.Ytgifigfdjcgkaaa.D
