/-
  The document's disk: settle and Sync by contracts.
-/
import Derived.Test.YtgifigfdjcgkaaaRefB
namespace Go.Proofs.Ytgifigfdjcgkaaa.D
set_option linter.unusedSimpArgs false
open Go.RowKit
set_option linter.unusedVariables false
variable {w w' : World} {F G X : List Nat} {v : Value} {l : Sector} {vs : List Value} {ls : List Sector} {n d : Nat} {s : DS} {sv nv rv : Value} {sx nx rx : List Value}

theorem settled_len (s : DS) (k : Nat) : (s.settledTo k).sure.length = s.sure.length := by
  unfold DS.settledTo
  simp only
  generalize s.row.take k = r
  generalize s.sure = l
  induction r generalizing l with
  | nil => rfl
  | cons x r ih => rw [List.foldl_cons, ih, List.length_set]
theorem settled_next (s : DS) (k : Nat) (hk : k < s.row.length) : s.settledTo (k + 1) = { s.settledTo k with sure := (s.settledTo k).sure.set s.row[k].1 s.row[k].2 } := by
  rw [← DS.settledTo_succ s k hk]
  rfl
/-- One of the sure sectors is another one now. -/
theorem RefAt.sureSet {g cap i m : Nat} (T : RefAt w d F s (.slice (some ⟨g, 0, none⟩) m cap) nv rv sx nx rx) (hm : s.sure.length = m) (hi : i < m) (hv : RSec w F v l) :
    RefAt (w.setCell ⟨g, i, none⟩ v) d F { s with sure := s.sure.set i l } (.slice (some ⟨g, 0, none⟩) m cap) nv rv (sx.set i v) nx rx := by
  have on := T.ownS
  rw [hm] at on
  obtain ⟨cur, hbg, _⟩ := owns_blk on
  have O := only_set w g i v
  have offg : ∀ e, 22 ≠ e → Off e w [g] := fun e he => Off.one hbg he
  have same : ∀ k ∈ F, k ∈ F := fun _ h => h
  refine ⟨O.blk T.disk (by simp; exact T.disk.ne hbg (by decide)), ?_, owns_later T.ownN O (fun k hk hm => ?_), owns_off T.ownR O (offg _ (by decide)), (T.secS.off O (offg _ (by decide)) same).set i (hv.off O (offg _ (by decide)) same), T.secN.off O (offg _ (by decide)) same, T.row.map (fun h => h.off O (offg _ (by decide)) same), T.ne, T.few, T.fd, T.fS, T.fN, T.fR, fun k hk => Nat.lt_of_lt_of_le (T.lt k hk) O.size⟩
  · rw [List.length_set, hm]; exact owns_set on i hi v
  · simp at hm; subst hm; exact T.ne _ rfl hk
/-- One of the sectors that are read is another one now. -/
theorem RefAt.nowSet {g cap i m : Nat} (T : RefAt w d F s sv (.slice (some ⟨g, 0, none⟩) m cap) rv sx nx rx) (hm : s.now.length = m) (hi : i < m) (hv : RSec w F v l) :
    RefAt (w.setCell ⟨g, i, none⟩ v) d F { s with now := s.now.set i l } sv (.slice (some ⟨g, 0, none⟩) m cap) rv sx (nx.set i v) rx := by
  have on := T.ownN
  rw [hm] at on
  obtain ⟨cur, hbg, _⟩ := owns_blk on
  have O := only_set w g i v
  have offg : ∀ e, 22 ≠ e → Off e w [g] := fun e he => Off.one hbg he
  have same : ∀ k ∈ F, k ∈ F := fun _ h => h
  refine ⟨O.blk T.disk (by simp; exact T.disk.ne hbg (by decide)), owns_later T.ownS O (fun k hk hm => ?_), ?_, owns_off T.ownR O (offg _ (by decide)), T.secS.off O (offg _ (by decide)) same, (T.secN.off O (offg _ (by decide)) same).set i (hv.off O (offg _ (by decide)) same), ?_, T.ne, by simpa using T.few, T.fd, T.fS, T.fN, T.fR, fun k hk => Nat.lt_of_lt_of_le (T.lt k hk) O.size⟩
  · simp at hm; subst hm; exact T.ne _ hk rfl
  · rw [List.length_set, hm]; exact owns_set on i hi v
  · rw [List.length_set]; exact T.row.map (fun h => h.off O (offg _ (by decide)) same)
/-- The row is let go. -/
theorem RefAt.rowGone (T : RefAt w d F s sv nv rv sx nx rx) : RefAt (w.setCell ⟨d, 2, none⟩ (.slice none 0 0)) d F { s with row := [] } sv nv (.slice none 0 0) sx nx [] := by
  have O := only_set w d 2 (.slice none 0 0)
  have offd : ∀ e, 69 ≠ e → Off e w [d] := fun e he => Off.one T.disk he
  have same : ∀ k ∈ F, k ∈ F := fun _ h => h
  exact ⟨(T.disk.set 2 _).to (by simp [rcells]), owns_off T.ownS O (offd _ (by decide)), owns_off T.ownN O (offd _ (by decide)), ⟨rfl, .inl ⟨rfl, rfl⟩⟩, T.secS.off O (offd _ (by decide)) same, T.secN.off O (offd _ (by decide)) same, trivial, T.ne, T.few, T.fd, T.fS, T.fN, fun k hk => by simp [Value.ownBlock] at hk, fun k hk => Nat.lt_of_lt_of_le (T.lt k hk) O.size⟩

set_option maxRecDepth 100000 in
set_option maxHeartbeats 1000000 in
theorem rsettle_any (h : RefAt w d F s sv nv rv sx nx rx) (hsame : s.sure.length = s.now.length) (hr : s.row.length ≤ 1048576) :
    Calls Try.prog 36 #[.pointer (some ⟨d, 0, none⟩)] w fun e w' => e = .returned (.tuple #[]) ∧ ∃ sx', RefAt w' d F s.synced sv nv (.slice none 0 0) sx' nx [] ∧ Only F w w' ∧ Keeps 62 w w' := by
  obtain ⟨ao, cap, rfl, hao⟩ := owns_shape h.ownR
  obtain ⟨so, scap, rfl, hso⟩ := owns_shape h.ownS
  have HH := Lib.hid h
  have HAO := Lib.hid hao
  have HSO := Lib.hid hso
  have HSA := Lib.hid hsame
  clear hao hso h hsame
  generalize hrn : s.row.length = rn at *
  have Hrn := Lib.hid hrn
  clear hrn
  generalize hn : s.sure.length = n at *
  have Hn := Lib.hid hn
  clear hn
  go_enter Try.func36, Try.ntmps36
  go_wp2_with fail
  go_loopw [2] (fun i wr => ∃ (k : Nat) (sx' : List Value), k ≤ rn ∧ i = .int .i64 k ∧ RefAt wr d F (s.settledTo k) (.slice so n scap) nv (.slice ao rn cap) sx' nx rx ∧ Only F w wr ∧ Keeps 62 w wr) (fun i _ => rn - (intOf i).toNat)
  case atStart => exact ⟨0, sx, Nat.zero_le _, rfl, HH.out, Only.refl _ _, Keeps.refl _ _⟩
  case round =>
    obtain ⟨k, sx', hk, rfl, hD, hO, hK⟩ := hrel
    have HD := Lib.hid hD
    have HO := Lib.hid hO
    have HK := Lib.hid hK
    clear hD hO hK
    have c0 := HD.out.disk.cell 0
    have c2 := HD.out.disk.cell 2
    simp only [rcells, List.getElem?_cons_zero, List.getElem?_cons_succ] at c0 c2
    by_cases hlt : k < rn
    · obtain ⟨g, rfl⟩ := HAO.out (by omega)
      have hk2 : k < s.row.length := by rw [Hrn.out]; exact hlt
      obtain ⟨p, r0, r1, hat, hsec⟩ := RRow.get k hk2 HD.out.row
      have hat2 : s.row[k].1 < n := by
        have e1 : (s.settledTo k).now.length = n := by show s.now.length = n; rw [← HSA.out]
        rw [e1] at hat; exact hat
      obtain ⟨gs, rfl⟩ := HSO.out (by omega)
      have own : wr.ownsRow 0 71 2 (.slice (some ⟨g, 0, none⟩) rn cap) rn rx := by have := HD.out.ownR; rw [show (s.settledTo k).row.length = rn from Hrn.out] at this; exact this
      have hslen : Hid ((s.settledTo k).sure.length = n) := by
        show (s.settledTo k).sure.length = n
        rw [settled_len, Hn.out]
      have ownS : wr.ownsRow 0 22 1 (.slice (some ⟨gs, 0, none⟩) n scap) n sx' := by have := HD.out.ownS; rw [hslen.out] at this; exact this
      obtain ⟨cur, hbg, hcl, _, hcn⟩ := owns_blk ownS
      have g0 := owns_cell own r0
      have g1 := owns_cell own r1
      have ne1 : gs ≠ d := hbg.ne HD.out.disk (by decide)
      have ne2 : gs ≠ g := fun e => owns_ne own hbg (by decide) (by rw [e]; rfl)
      have HSEC := Lib.hid hsec
      generalize hP : s.row[k].1 = at1 at *
      have HP := Lib.hid hP
      obtain ⟨oldc, cS⟩ := hbg.at at1 (by rw [hcl]; omega)
      have fS := hbg.frozen at1
      obtain ⟨hpl, gx, cx, rfl, hgx, _⟩ := hsec
      have HBG := Lib.hid hbg
      clear hP own ownS hcl hcn hbg hat hpl hgx r0 r1
      have ha0 : (0 : Int) ≤ at1 := by omega
      have ha1 : (at1 : Int) < n := by omega
      go_wp2_with fail
      go_region_held3 (fun w' => w'.cell? ⟨d, 0, none⟩ = some (.slice (some ⟨gs, 0, none⟩) n scap) ∧ w'.cell? ⟨d, 2, none⟩ = some (.slice (some ⟨g, 0, none⟩) rn cap) ∧ w'.cell? ⟨g, k * 2, none⟩ = some (.int .i64 at1) ∧ w'.cell? ⟨g, k * 2 + 1, none⟩ = some (.slice (some ⟨gx, 0, none⟩) 512 cx)) (go_keep) (fail)
      go_wp2_with fail
      obtain rfl := HP.out
      refine ⟨⟨k + 1, sx'.set s.row[k].1 (.slice (some ⟨gx, 0, none⟩) 512 cx), by omega, by go_num, ?_, (HO.out.setCell (p := ⟨gs, s.row[k].1, none⟩) (.inl (HH.out.fS gs rfl)) _).drew, (HK.out.trans (Keeps.one (only_set _ gs s.row[k].1 _) HBG.out (by decide))).trans (Keeps.past (Only.refl _ _).drew)⟩, by simp [intOf]; omega⟩
      rw [settled_next s k hk2]
      exact (HD.out.sureSet hslen.out hat2 HSEC.out).past (Only.refl _ _).drew
    · obtain rfl : k = rn := by omega
      have f2 := HD.out.disk.frozen 2
      go_wp2_with fail
      go_end0
      refine ⟨rfl, sx', ?_, HO.out.setCell (.inl HH.out.fd) _, HK.out.trans (Keeps.one (only_set _ d 2 _) HD.out.disk (by decide))⟩
      obtain rfl := Hrn.out
      exact HD.out.rowGone
theorem rsync_any (h : RefAt w d F s sv nv rv sx nx rx) (hsame : s.sure.length = s.now.length) (hc0 : 0 ≤ s.count) (hc1 : s.count ≤ 1099511627776) (hf : s.fail ≤ 9223372036854775807) (hh : s.halt ≤ 9223372036854775807) (hr : s.row.length ≤ 1048576) :
    Calls Try.prog 25 #[.pointer (some ⟨d, 0, none⟩)] w fun e w' => e = .returned (.int .i64 s.rsync.2) ∧ ∃ rv' sx' rx', RefAt w' d F s.rsync.1 sv nv rv' sx' nx rx' ∧ Only F w w' ∧ Keeps 62 w w' := by
  have C := Lib.hid (rchange_any d sv nv rv s w h.disk hc0 hc1 hf hh)
  have HH := Lib.hid h
  have HSA := Lib.hid hsame
  clear h hsame
  by_cases he : s.err = 0
  · have e1 : s.rsync = (s.rchanged.synced, 0) := by simp [DS.rsync, he]
    rw [e1]
    rw [he] at C
    clear e1 he
    go_enter Try.func25, Try.ntmps25
    go_wp2_with fail
    refine C.out.mono ?_
    rintro e w1 ⟨rfl, hb1, hO1⟩
    have T1 := Lib.hid (HH.out.cells hO1 hb1 rfl rfl rfl)
    have HO1 := Lib.hid hO1
    clear hb1 hO1
    go_wp2_with fail
    refine (rsettle_any T1.out HSA.out hr).mono ?_
    rintro e w2 ⟨rfl, sx', hT2, hO2, hK2⟩
    have HK2 := Lib.hid hK2
    clear hK2
    have T2 := Lib.hid hT2
    have HO2 := Lib.hid hO2
    clear hT2 hO2
    go_wp2_with fail
    go_ret
    exact ⟨rfl, _, _, _, T2.out, (HO1.out.mono (fun x hx => .inl (by simp at hx; subst hx; exact HH.out.fd))).trans HO2.out (fun x hx => .inl hx), (Keeps.one HO1.out HH.out.disk (by decide)).trans HK2.out⟩
  · have e1 : s.rsync = (s.rchanged, s.err) := by simp [DS.rsync, he]
    rw [e1]
    generalize s.err = er at *
    have he2 : (er == 0) = false := by simp [he]
    have he3 : (er != 0) = true := by simp [he]
    clear e1
    go_enter Try.func25, Try.ntmps25
    go_wp2_with fail
    refine C.out.mono ?_
    rintro e w1 ⟨rfl, hb1, hO1⟩
    have T1 := Lib.hid (HH.out.cells hO1 hb1 rfl rfl rfl)
    have HO1 := Lib.hid hO1
    clear hb1 hO1
    go_wp2_with fail
    go_ret
    exact ⟨rfl, _, _, _, T1.out, HO1.out.mono (fun x hx => .inl (by simp at hx; subst hx; exact HH.out.fd)), Keeps.one HO1.out HH.out.disk (by decide)⟩
end Go.Proofs.Ytgifigfdjcgkaaa.D
