/-
  Snapshot, of both tables, by contracts.
-/
import Derived.Test.YtilkbcoofbkemaaRefF
namespace Go.Proofs.Ytilkbcoofbkemaa.T
set_option linter.unusedSimpArgs false
open Go Go.RowKit Go.Proofs.Ytilkbcoofbkemaa.I
set_option linter.unusedVariables false
variable {w : World} {r n0 : Nat} {v0 : Value} {R : RRows} {S : TS}
abbrev noSnap : Value := .agg #[.int .u64 0, .int .u64 0, .slice none 0 0]
set_option maxHeartbeats 1000000 in
theorem snapshot_no {t bo bg : Nat} {L : Opens} (h : TabAt w t bo bg L S) (ho : S.Once) {id : Nat} (hn : S.isOpen id = false) :
    Calls Try.prog 26 #[.pointer (some ⟨t, 0, none⟩), .int .u64 id] w fun e w' => e = .returned (.tuple #[noSnap, .int .i64 100]) ∧ Only [] w w' := by
  have OA : Hid (Only [] w (w.alloc (.cells #[.int .u64 0, .int .u64 0, .slice none 0 0] 29))) := (Only.refl _ _).alloc _
  have HA := Lib.hid (h.past OA.out)
  have c1 := HA.out.tab.cell 1
  simp only [List.getElem?_cons_succ, List.getElem?_cons_zero] at c1
  have hlk := HA.out.opn.look Try.underlying63 Try.underlying26 (zero_snap _) id true
  rcases HA.out.look ho id with ⟨h1, h2⟩ | ⟨p, hp, h1, h2, h3⟩
  · rw [h2] at hlk
    simp only [Option.getD_none, Option.isSome_none, if_true] at hlk
    have B := Blk.new [.int .u64 0, .int .u64 0, .slice none 0 0] 29 w
    have O2 : Hid (Only [] w ((w.alloc (.cells #[.int .u64 0, .int .u64 0, .slice none 0 0] 29)).alloc (.cells #[.int .u64 0, .int .u64 0, .slice none 0 0] 29))) := OA.out.alloc _
    have B2 := Lib.hid (B.alloc (.cells #[.int .u64 0, .int .u64 0, .slice none 0 0] 29))
    clear h h1 h2 B
    go_enter Try.func26, Try.ntmps26
    go_wp2_with fail
    have q0 := B2.out.cell 0
    have q1 := B2.out.cell 1
    have q2 := B2.out.cell 2
    simp only [List.getElem?_cons_succ, List.getElem?_cons_zero] at q0 q1 q2
    exact bodyPost_ret (v := .tuple #[noSnap, .int .i64 100]) (by simp [results, Try.results26, go_sem, q0, q1, q2]) rfl ⟨rfl, O2.out⟩
  · have h1 : S.isOpen id = true := h1
    rw [hn] at h1; cases h1
set_option maxHeartbeats 1000000 in
theorem snapshot_yes {t bo bg : Nat} {L : Opens} (h : TabAt w t bo bg L S) (ho : S.Once) {id : Nat} (hn : S.isOpen id = true) (hops : ∀ s ∈ S.opens, s.op.length ≤ 524287) :
    Calls Try.prog 26 #[.pointer (some ⟨t, 0, none⟩), .int .u64 id] w fun e w' => ∃ s ∈ S.opens, s.own = id ∧ ∃ v, e = .returned (.tuple #[snapV s v, .int .i64 0]) ∧ NatRow w w' v s.op := by
  have OA : Hid (Only [] w (w.alloc (.cells #[.int .u64 0, .int .u64 0, .slice none 0 0] 29))) := (Only.refl _ _).alloc _
  have HA := Lib.hid (h.past OA.out)
  have c1 := HA.out.tab.cell 1
  simp only [List.getElem?_cons_succ, List.getElem?_cons_zero] at c1
  have hlk := HA.out.opn.look Try.underlying63 Try.underlying26 (zero_snap _) id true
  rcases HA.out.look ho id with ⟨h1, h2⟩ | ⟨p, hp, h1, h2, h3⟩
  · have h1 : S.isOpen id = false := h1
    rw [hn] at h1; cases h1
  · have hrow := HA.out.rows p hp
    obtain ⟨a, c, hpv⟩ := owns_form hrow
    have hsn : p.1 ∈ S.opens := by rw [← HA.out.fst]; exact List.mem_map_of_mem hp
    have hna := nats_owned hrow
    rw [h2] at hlk
    obtain ⟨⟨own, pn, op⟩, pv⟩ := p
    have hpv : pv = .slice a op.length c := hpv
    subst hpv
    simp only [Option.getD_some, Option.isSome_some, if_true, snapV] at hlk
    have h3 : own = id := h3
    subst h3
    have SN := Lib.hid hsn
    have hl : op.length ≤ 524287 := hops _ hsn
    have CP : Hid (∀ w1, Only [] (w.alloc (.cells #[.int .u64 0, .int .u64 0, .slice none 0 0] 29)) w1 → Calls Try.prog 35 #[.agg #[.int .u64 own, .int .u64 pn, .slice a op.length c]] w1 fun e w' => ∃ v', e = .returned (.agg #[.int .u64 own, .int .u64 pn, v']) ∧ NatRow w1 w' v' op) := fun w1 hO => copied_any own pn _ op w1 (hna.past hO) hl
    clear h h1 h2 hrow hp hna hsn hops
    generalize hm : op.length = m at *
    have HM := Lib.hid hm
    clear hm
    go_enter Try.func26, Try.ntmps26
    go_wp2_with (go_at_call 35; refine (CP.out _ ((Only.refl _ _).alloc _)).mono ?_; rintro e w3 ⟨v3, rfl, hr3, hn3, hO3⟩; rw [HM.out] at hr3; obtain ⟨a3, c3, rfl⟩ := owns_form hr3; have BX : Blk w3 w.heap.size [.int .u64 0, .int .u64 0, .slice none 0 0] 29 := hO3.blk ((Blk.new _ _ w).alloc _) (by simp); have y0 := BX.cell 0; have y1 := BX.cell 1; have y2 := BX.cell 2; have fy0 := BX.frozen 0; have fy1 := BX.frozen 1; have fy2 := BX.frozen 2; simp only [List.getElem?_cons_succ, List.getElem?_cons_zero] at y0 y1 y2)
    obtain ⟨w8, hw8⟩ : ∃ w8, (((w3.setCell ⟨w.heap.size, 0, none⟩ (.int .u64 own)).setCell ⟨w.heap.size, 1, none⟩ (.int .u64 pn)).setCell ⟨w.heap.size, 2, none⟩ (.slice a3 m c3)) = w8 := ⟨_, rfl⟩
    have R8 : Blk w8 w.heap.size [.int .u64 own, .int .u64 pn, .slice a3 m c3] 29 := by
      rw [← hw8]
      exact (((BX.set 0 _).set 1 _).set 2 _).to (by simp)
    have O8 : Only [w.heap.size] w3 w8 := by
      rw [← hw8]
      exact (((Only.refl _ _).setCell (.inl (by simp)) _).setCell (.inl (by simp)) _).setCell (.inl (by simp)) _
    rw [hw8]
    have q0 := R8.cell 0
    have q1 := R8.cell 1
    have q2 := R8.cell 2
    simp only [List.getElem?_cons_succ, List.getElem?_cons_zero] at q0 q1 q2
    refine bodyPost_ret (v := .tuple #[.agg #[.int .u64 own, .int .u64 pn, .slice a3 m c3], .int .i64 0]) (by simp [results, Try.results26, go_sem, q0, q1, q2]) rfl ⟨_, SN.out, rfl, .slice a3 m c3, rfl, ?_, fun k hk => ?_, ?_⟩
    · show w8.ownsRow 0 26 1 (.slice a3 m c3) op.length (nats op)
      rw [HM.out]
      exact owns_off hr3 O8 (Off.one BX (by decide))
    · have := hn3 k hk
      simp at this; omega
    · exact ((OA.out.alloc _).trans hO3 (by simp)).trans O8 (fun x hx => by simp at hx; subst hx; right; exact Nat.le_refl _)
set_option maxHeartbeats 1000000 in
theorem rsnapshot_no (h : RefAt w r n0 v0 R S) {id : Nat} (hid : id < 18446744073709551616) (hn : S.isOpen id = false) :
    Calls Try.prog 27 #[.pointer (some ⟨r, 0, none⟩), .int .u64 id] w fun e w' => e = .returned (.tuple #[noSnap, .int .i64 100]) ∧ Only [] w w' := by
  have OA : Hid (Only [] w (w.alloc (.cells #[.int .u64 0, .int .u64 0, .slice none 0 0] 29))) := (Only.refl _ _).alloc _
  have ST := Lib.hid (rstate_any (h.past OA.out) id hid)
  have hne : S.state id ≠ 1 := fun e => by rw [(h.twin.open_state id).1 e] at hn; cases hn
  generalize S.state id = y at *
  have hyi : (y != 1) = true := by simp [hne]
  clear h hn hne
  go_enter Try.func27, Try.ntmps27
  go_wp2_with (go_at_call 32; refine ST.out.mono ?_; rintro e w1 ⟨rfl, hO1⟩; have BX : Blk w1 w.heap.size [.int .u64 0, .int .u64 0, .slice none 0 0] 29 := hO1.blk (Blk.new _ _ w) (by simp); have y0 := BX.cell 0; have y1 := BX.cell 1; have y2 := BX.cell 2; have fy0 := BX.frozen 0; have fy1 := BX.frozen 1; have fy2 := BX.frozen 2; simp only [List.getElem?_cons_succ, List.getElem?_cons_zero] at y0 y1 y2)
  obtain ⟨w8, hw8⟩ : ∃ w8, (((w1.setCell ⟨w.heap.size, 0, none⟩ (.int .u64 0)).setCell ⟨w.heap.size, 1, none⟩ (.int .u64 0)).setCell ⟨w.heap.size, 2, none⟩ (.slice none 0 0)) = w8 := ⟨_, rfl⟩
  have R8 : Blk w8 w.heap.size [.int .u64 0, .int .u64 0, .slice none 0 0] 29 := by
    rw [← hw8]
    exact (((BX.set 0 _).set 1 _).set 2 _).to (by simp)
  have O8 : Only [w.heap.size] w1 w8 := by
    rw [← hw8]
    exact (((Only.refl _ _).setCell (.inl (by simp)) _).setCell (.inl (by simp)) _).setCell (.inl (by simp)) _
  rw [hw8]
  have q0 := R8.cell 0
  have q1 := R8.cell 1
  have q2 := R8.cell 2
  simp only [List.getElem?_cons_succ, List.getElem?_cons_zero] at q0 q1 q2
  exact bodyPost_ret (v := .tuple #[noSnap, .int .i64 100]) (by simp [results, Try.results27, go_sem, q0, q1, q2]) rfl ⟨rfl, (OA.out.trans hO1 (by simp)).trans O8 (fun x hx => by simp at hx; subst hx; right; exact Nat.le_refl _)⟩
set_option maxRecDepth 100000 in
set_option maxHeartbeats 2000000 in
theorem rsnapshot_yes (h : RefAt w r n0 v0 R S) {id : Nat} (hid : id < 18446744073709551616) (hn : S.isOpen id = true) (hops : ∀ p ∈ R, p.1.s.op.length ≤ 524287) :
    Calls Try.prog 27 #[.pointer (some ⟨r, 0, none⟩), .int .u64 id] w fun e w' => ∃ s ∈ S.opens, s.own = id ∧ ∃ v, e = .returned (.tuple #[snapV s v, .int .i64 0]) ∧ NatRow w w' v s.op := by
  have OA : Hid (Only [] w (w.alloc (.cells #[.int .u64 0, .int .u64 0, .slice none 0 0] 29))) := (Only.refl _ _).alloc _
  have ST := Lib.hid (rstate_any (h.past OA.out) id hid)
  rw [(h.twin.open_state id).2 hn] at ST
  have hg := h.twin.open_get hn
  have HH := Lib.hid h
  rw [List.length_map] at hg
  have hi : id - n0 < R.length := by omega
  obtain ⟨_, hid2, hst2⟩ := h.twin.get hg.1 (by rw [List.length_map]; exact hg.2)
  rw [(h.twin.open_state id).2 hn] at hst2
  obtain ⟨ao, c, rfl, hc⟩ := h.form
  obtain ⟨g, rfl, hcc⟩ := hc (by omega)
  have hR := List.getElem?_eq_getElem hi
  have hpm := List.getElem_mem hi
  simp only [List.getElem_map] at hid2 hst2
  generalize R[id - n0] = p at *
  have hrow := h.rows p hpm
  have hop := hops p hpm
  have hsn : p.1.s ∈ S.opens := h.twin.mem_open (List.mem_map_of_mem (f := fun p : RTx × Value => p.1) hpm) hst2
  have hown : p.1.s.own = p.1.id := h.twin.own _ (List.mem_map_of_mem (f := fun p : RTx × Value => p.1) hpm)
  obtain ⟨⟨pid, st, own, pn, op⟩, pv⟩ := p
  obtain ⟨a, cp, hpv⟩ := owns_form hrow
  have hpv : pv = .slice a op.length cp := hpv
  subst hpv
  have hid2 : pid = id := hid2
  have hown : own = pid := hown
  subst hid2
  subst hown
  have SN := Lib.hid hsn
  have hop : op.length ≤ 524287 := hop
  have hna := nats_owned hrow
  have x2 := hcc _ _ hR 2 (by omega)
  have x3 := hcc _ _ hR 3 (by omega)
  have x4 := hcc _ _ hR 4 (by omega)
  obtain ⟨i, hii⟩ : ∃ i, own - n0 = i := ⟨_, rfl⟩
  rw [hii] at x2 x3 x4 hi
  have ew : IntKind.u64.wrap ((own : Int) - n0) = ((i : Nat) : Int) := by simp [IntKind.wrap, IntKind.signed, IntKind.bits]; omega
  have hi2 : (i : Int) < R.length := by omega
  simp only [txCells, List.getElem?_cons_succ, List.getElem?_cons_zero] at x2 x3 x4
  have HNA := Lib.hid hna
  have HROW := Lib.hid hrow
  clear hc hcc h hn hR hst2 hii hpm hsn hops hna hrow
  generalize hm : op.length = m at *
  have HM := Lib.hid hm
  clear hm
  generalize hRl : R.length = rl at *
  clear hRl
  have CB : Hid (∀ w1, Only [] w w1 → w1.cell? ⟨r, 0, none⟩ = some (.int .u64 n0) ∧ w1.cell? ⟨r, 2, none⟩ = some (.slice (some ⟨g, 0, none⟩) rl c) ∧ w1.cell? ⟨g, i * 5 + 2, none⟩ = some (.int .u64 own) ∧ w1.cell? ⟨g, i * 5 + 3, none⟩ = some (.int .u64 pn) ∧ w1.cell? ⟨g, i * 5 + 4, none⟩ = some (.slice a m cp)) := fun w1 hO =>
    ⟨((HH.out.past hO).tab.cell 0).trans (by simp), ((HH.out.past hO).tab.cell 2).trans (by simp), hO.cell x2 (by simp), hO.cell x3 (by simp), hO.cell x4 (by simp)⟩
  clear x2 x3 x4
  go_enter Try.func27, Try.ntmps27
  go_wp2_with (go_at_call 32; refine ST.out.mono ?_; rintro e w1 ⟨rfl, hO1⟩; obtain ⟨c0, c2, x2, x3, x4⟩ := CB.out w1 (OA.out.trans hO1 (by simp)))
  have O1 := Lib.hid (OA.out.trans hO1 (by simp))
  have BX := Lib.hid (hO1.blk (Blk.new [.int .u64 0, .int .u64 0, .slice none 0 0] 29 w) (by simp))
  clear hO1
  go_cut [6] from 7 (fun s6 wx => ∃ sb, s6 = .pointer (some ⟨sb, 0, none⟩) ∧ Blk wx sb [.int .u64 own, .int .u64 pn, .slice a m cp] 29 ∧ Only [] w1 wx ∧ w.heap.size < sb)
  case first =>
    go_region_held3 (fun w' => w'.cell? ⟨r, 0, none⟩ = some (.int .u64 n0) ∧ w'.cell? ⟨r, 2, none⟩ = some (.slice (some ⟨g, 0, none⟩) rl c) ∧ w'.cell? ⟨g, i * 5 + 2, none⟩ = some (.int .u64 own) ∧ w'.cell? ⟨g, i * 5 + 3, none⟩ = some (.int .u64 pn) ∧ w'.cell? ⟨g, i * 5 + 4, none⟩ = some (.slice a m cp)) (go_keep) (fail)
    all_goals
      go_wp2_with fail
      go_meet
      case rel =>
        exact ⟨w1.heap.size, rfl, (Blk.new _ _ w1).drew, ((Only.refl _ _).alloc _).drew, BX.out.lt⟩
  case rest =>
    obtain ⟨sb, rfl, hb6, hO6, hsb⟩ := hcut
    rename World => w6
    have B6 := Lib.hid hb6
    have O6 := Lib.hid (O1.out.trans hO6 (by simp))
    have BX6 := Lib.hid (hO6.blk BX.out (by simp))
    have x0 := hb6.cell 0
    have x1 := hb6.cell 1
    have x2 := hb6.cell 2
    simp only [List.getElem?_cons_succ, List.getElem?_cons_zero] at x0 x1 x2
    have NA6 := Lib.hid (HNA.out.past O6.out)
    have HLN : Hid ((nats op).length = m * 1) := by show _ = _; rw [nats_len, HM.out]; omega
    have HSRC : Hid (0 < m → ∃ ad, a = some ad ∧ ∀ j u, (nats op)[j]? = some u → w6.cell? (ad.add j) = some u) := by
      intro h0
      obtain ⟨ao', c', he, hc⟩ := NA6.out
      obtain ⟨b, o, h1, h2⟩ := hc (by rw [HM.out]; exact h0)
      cases he
      exact ⟨_, h1, nats_src h2⟩
    have hsw : w.heap.size ≠ sb := by omega
    clear hb6 hO6 c0 c2
    go_wp2_with (refine wpList_grow rfl (.const (.slice none 0 0)) (.tmp 26) 27 rfl 26 Try.underlying27 (info_parts info_key) rfl (by omega) (.slice none 0 0) 0 [] rfl ⟨rfl, .inl ⟨rfl, rfl⟩⟩ a m cp rfl (nats op) HLN.out HSRC.out (nats_oneCell _) (by omega) (by decide) ?_; intro v5 w5 hg5; have G5 := Lib.hid (hg5.to (Nat.zero_add m) (List.nil_append _)); obtain ⟨a5, c5, rfl⟩ := G5.out.shape; have b5 := hg5.only.blk B6.out (by simp [Value.ownBlock]); have B5 := Lib.hid b5; have BX5 := Lib.hid (hg5.only.blk BX6.out (by simp [Value.ownBlock])); have z0 := b5.cell 0; have z1 := b5.cell 1; have z2 := b5.cell 2; have f2 := b5.frozen 2; have y0 := BX5.out.cell 0; have y1 := BX5.out.cell 1; have y2 := BX5.out.cell 2; have fy0 := BX5.out.frozen 0; have fy1 := BX5.out.frozen 1; have fy2 := BX5.out.frozen 2; simp only [List.getElem?_cons_succ, List.getElem?_cons_zero] at z0 z1 z2 y0 y1 y2; clear hg5 b5)
    obtain ⟨w7, hw7⟩ : ∃ w7, w5.setCell ⟨sb, 2, none⟩ (.slice a5 m c5) = w7 := ⟨_, rfl⟩
    have O7 : Only [sb] w5 w7 := by
      rw [← hw7]
      exact (Only.refl _ _).setCell (.inl (by simp)) _
    rw [hw7]
    clear hw7
    have BX7 := O7.blk BX5.out (by simpa using hsw)
    obtain ⟨w8, hw8⟩ : ∃ w8, (((w7.setCell ⟨w.heap.size, 0, none⟩ (.int .u64 own)).setCell ⟨w.heap.size, 1, none⟩ (.int .u64 pn)).setCell ⟨w.heap.size, 2, none⟩ (.slice a5 m c5)) = w8 := ⟨_, rfl⟩
    have R8 : Blk w8 w.heap.size [.int .u64 own, .int .u64 pn, .slice a5 m c5] 29 := by
      rw [← hw8]
      exact (((BX7.set 0 _).set 1 _).set 2 _).to (by simp)
    have O8 : Only [w.heap.size] w7 w8 := by
      rw [← hw8]
      exact (((Only.refl _ _).setCell (.inl (by simp)) _).setCell (.inl (by simp)) _).setCell (.inl (by simp)) _
    rw [hw8]
    have q0 := R8.cell 0
    have q1 := R8.cell 1
    have q2 := R8.cell 2
    simp only [List.getElem?_cons_succ, List.getElem?_cons_zero] at q0 q1 q2
    refine bodyPost_ret (v := .tuple #[.agg #[.int .u64 own, .int .u64 pn, .slice a5 m c5], .int .i64 0]) (by simp [results, Try.results27, go_sem, q0, q1, q2]) rfl ⟨_, SN.out, rfl, .slice a5 m c5, rfl, ?_, fun k hk => ?_, ?_⟩
    · show w8.ownsRow 0 26 1 (.slice a5 m c5) op.length (nats op)
      rw [HM.out]
      exact owns_off (owns_off G5.out.own O7 (Off.one B5.out (by decide))) O8 (Off.one BX7 (by decide))
    · rcases G5.out.lies k hk with h1 | h1
      · cases h1
      · have := O6.out.size; omega
    · have h5 : Only [] w w5 := O6.out.trans G5.out.only (by simp [Value.ownBlock])
      exact (h5.trans O7 (fun x hx => by simp at hx; subst hx; right; omega)).trans O8 (fun x hx => by simp at hx; subst hx; right; exact Nat.le_refl _)
end Go.Proofs.Ytilkbcoofbkemaa.T
