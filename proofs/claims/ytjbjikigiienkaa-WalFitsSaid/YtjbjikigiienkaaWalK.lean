/-
  The program's log: Flush and Reset by contracts.
-/
import Derived.Test.YtjbjikigiienkaaWalJ
import Derived.Deep.RegionWith
namespace Go.Proofs.Ytjbjikigiienkaa.W
set_option linter.unusedSimpArgs false
open Go.RowKit Go.Proofs.Ytjbjikigiienkaa.D Go.Proofs.Ytjbjikigiienkaa.B
set_option linter.unusedVariables false
variable {W w w' w2 : World} {p d : Nat} {v v' : Value} {l l' : LS} {M M' : List Nat} {s s' : DS}

/-- The log's numbers go together. -/
structure Ok (l : LS) : Prop where
  two : 2 ≤ l.size
  big : l.size ≤ 16384
  place : l.first ≤ 16384
  sure : l.sure ≤ l.fin
  fin : l.fin ≤ l.room
  tail : l.tail.length = l.fin - l.sure / 512 * 512
  slot : l.slot < 2
  turn : l.turn + 1 < 18446744073709551616
/-- No records any more: the log, the disk, the error. -/
def resetS (l : LS) (s : DS) : LS × DS × Int :=
  if l.dead = true then (l, s, 12) else
  if (headsS l s 0).2.2 ≠ 0 then ((headsS l s 0).1.dies (headsS l s 0).2.2, (headsS l s 0).2.1, (headsS l s 0).2.2)
  else ({ (headsS l s 0).1 with fin := 0, sure := 0, tail := [] }, (headsS l s 0).2.1, 0)
def LogPost (W : World) (p d : Nat) (v : Value) (r : LS × DS × Int) (w : World) (e : Ending) (w' : World) : Prop :=
  e = .returned (.int .i64 r.2.2) ∧ ∃ v' M', Logd W w' p d v' r.1 M' r.2.1 ∧ Far v w w' ∧ (∀ k, v'.ownBlock = some k → v.ownBlock = some k ∨ w.heap.size ≤ k)
set_option maxRecDepth 100000 in
set_option maxHeartbeats 1000000 in
theorem reset_any (h : Logd W w p d v l M s) (ho : Ok l) (hr : Room s 2) :
    Calls Try.prog 14 #[.pointer (some ⟨p, 0, none⟩)] w (LogPost W p d v (resetS l s) w) := by
  have HH := Lib.hid h
  have c8 := h.lg.log.cell 8
  simp only [logCells, List.getElem?_cons_zero, List.getElem?_cons_succ] at c8
  have HS : Hid (resetS l s = if l.dead = true then (l, s, 12) else
    if (headsS l s 0).2.2 ≠ 0 then ((headsS l s 0).1.dies (headsS l s 0).2.2, (headsS l s 0).2.1, (headsS l s 0).2.2)
    else ({ (headsS l s 0).1 with fin := 0, sure := 0, tail := [] }, (headsS l s 0).2.1, 0)) := rfl
  have HE := Lib.hid (heads_any h 0 (by omega) (by have := ho.big; omega) (by have := ho.place; omega) ho.turn ho.slot hr)
  clear h
  generalize hd : l.dead = q at *
  have HD := Lib.hid hd
  clear hd
  cases q
  · rw [if_neg (by simp)] at HS
    go_enter Try.func14, Try.ntmps14
    go_wp2_with fail
    refine HE.out.mono ?_
    rintro e w4 ⟨rfl, M4, hL4, hF4⟩
    generalize headsS l s 0 = r at *
    obtain ⟨l4, s4, e4⟩ := r
    have L4 := Lib.hid hL4
    have F4 := Lib.hid hF4
    clear hL4 hF4
    simp only at HS L4 ⊢
    by_cases h0 : e4 = 0
    · subst h0
      have c5 := L4.out.lg.log.cell 5
      have f5 := L4.out.lg.log.frozen 5
      have f6 := L4.out.lg.log.frozen 6
      have f7 := L4.out.lg.log.frozen 7
      obtain ⟨y5, c5⟩ := L4.out.lg.log.at 5 (by simp [logCells])
      obtain ⟨y6, c6⟩ := L4.out.lg.log.at 6 (by simp [logCells])
      obtain ⟨y7, c7⟩ := L4.out.lg.log.at 7 (by simp [logCells])
      go_wp2_with fail
      go_ret
      unfold LogPost
      rw [HS.out]
      simp only [ne_eq, not_true_eq_false, if_false]
      have hO : Only [p] w4 (((w4.setCell ⟨p, 5, none⟩ (.int .i64 0)).setCell ⟨p, 6, none⟩ (.int .i64 0)).setCell ⟨p, 7, none⟩ (.slice none 0 0)) := (((Only.refl [p] _).setCell (.inl (by simp)) _).setCell (.inl (by simp)) _).setCell (.inl (by simp)) _
      refine ⟨rfl, .slice none 0 0, M4, L4.out.turned (l' := { l4 with fin := 0, sure := 0, tail := [] }) hO ((((L4.out.lg.log.set 5 _).set 6 _).set 7 _).to (by simp [logCells])) (nilRow _) (fun k hk => by cases hk), F4.out.trans (Far.cells L4.out.lg.log hO v) (fun x hx => .inl hx), fun k hk => by cases hk⟩
    · have hb : (e4 != 0) = true := by simp [h0]
      have hb2 : (e4 == 0) = false := by simp [h0]
      have DI := Lib.hid (dies_any L4.out e4)
      go_wp2_with fail
      refine DI.out.mono ?_
      rintro e w5 ⟨rfl, hL5, hF5⟩
      have L5 := Lib.hid hL5
      have F5 := Lib.hid hF5
      clear hL5 hF5
      go_wp2_with fail
      go_ret
      unfold LogPost
      rw [HS.out]
      simp only [ne_eq, h0, not_false_eq_true, if_true]
      exact ⟨rfl, v, M4, L5.out, F4.out.trans F5.out (fun x hx => .inl hx), fun k hk => .inl hk⟩
  · rw [if_pos rfl] at HS
    go_enter Try.func14, Try.ntmps14
    go_wp2_with fail
    go_ret
    unfold LogPost
    rw [HS.out]
    exact ⟨rfl, v, M, HH.out, Far.refl _ _, fun k hk => .inl hk⟩
/-- All records are sure: the log, the disk, the error. -/
def flushS (l : LS) (s : DS) : LS × DS × Int :=
  if l.dead = true then (l, s, 12) else if l.fin = l.sure then (l, s, 0) else
  if (writesS l s).2 ≠ 0 then (l.dies (writesS l s).2, (writesS l s).1, (writesS l s).2) else
  if (headsS l (writesS l s).1 l.fin).2.2 ≠ 0 then ((headsS l (writesS l s).1 l.fin).1.dies (headsS l (writesS l s).1 l.fin).2.2, (headsS l (writesS l s).1 l.fin).2.1, (headsS l (writesS l s).1 l.fin).2.2)
  else ({ (headsS l (writesS l s).1 l.fin).1 with sure := l.fin, tail := l.tail.drop (l.fin / 512 * 512 - l.sure / 512 * 512) }, (headsS l (writesS l s).1 l.fin).2.1, 0)
theorem headsS_same (l : LS) (s : DS) (fin : Nat) : (headsS l s fin).1.fin = l.fin ∧ (headsS l s fin).1.sure = l.sure ∧ (headsS l s fin).1.tail = l.tail ∧ (headsS l s fin).1.dead = l.dead ∧ (headsS l s fin).1.first = l.first ∧ (headsS l s fin).1.size = l.size := by
  simp only [headsS]
  split
  · exact ⟨rfl, rfl, rfl, rfl, rfl, rfl⟩
  · split <;> exact ⟨rfl, rfl, rfl, rfl, rfl, rfl⟩
set_option maxRecDepth 100000 in
set_option maxHeartbeats 1000000 in
theorem flush_any (h : Logd W w p d v l M s) (ho : Ok l) (hr : Room s (nchunks l + 3)) :
    Calls Try.prog 13 #[.pointer (some ⟨p, 0, none⟩)] w (LogPost W p d v (flushS l s) w) := by
  have HH := Lib.hid h
  have HR := Lib.hid hr
  have HOK := Lib.hid ho
  have c5 := h.lg.log.cell 5
  have c6 := h.lg.log.cell 6
  have c8 := h.lg.log.cell 8
  simp only [logCells, List.getElem?_cons_zero, List.getElem?_cons_succ] at c5 c6 c8
  have HS : Hid (flushS l s = if l.dead = true then (l, s, 12) else if l.fin = l.sure then (l, s, 0) else
    if (writesS l s).2 ≠ 0 then (l.dies (writesS l s).2, (writesS l s).1, (writesS l s).2) else
    if (headsS l (writesS l s).1 l.fin).2.2 ≠ 0 then ((headsS l (writesS l s).1 l.fin).1.dies (headsS l (writesS l s).1 l.fin).2.2, (headsS l (writesS l s).1 l.fin).2.1, (headsS l (writesS l s).1 l.fin).2.2)
    else ({ (headsS l (writesS l s).1 l.fin).1 with sure := l.fin, tail := l.tail.drop (l.fin / 512 * 512 - l.sure / 512 * 512) }, (headsS l (writesS l s).1 l.fin).2.1, 0)) := rfl
  have hroom : l.room ≤ 8388608 := by have := ho.big; unfold LS.room; omega
  have hfin : l.fin ≤ 8388608 := by have := ho.fin; omega
  have hsure : l.sure ≤ l.fin := ho.sure
  have WR : Hid (∀ w', Only [] w w' → Calls Try.prog 32 #[.pointer (some ⟨p, 0, none⟩)] w' (WritesPost W p d v l s w')) := fun w' hO => writes_any (h.past hO) (by have := ho.place; omega) (by omega) (by have := ho.tail; omega) ⟨hr.c0, by have := hr.c1; omega, by have := hr.r; omega⟩
  have WS : Hid ((writesS l s).1.count ≤ s.count + (nchunks l + 1 : Nat) ∧ s.count ≤ (writesS l s).1.count ∧ (writesS l s).1.row.length ≤ s.row.length + nchunks l) := by
    show _ ∧ _ ∧ _
    have h1 := wrs_same l s (nchunks l)
    unfold writesS
    split
    · exact ⟨by omega, by omega, by omega⟩
    · have h2 := sync_same (wrs l s (nchunks l)).1
      exact ⟨by omega, by omega, by omega⟩
  clear h ho hr
  generalize hd : l.dead = q at *
  have HD := Lib.hid hd
  clear hd
  cases q
  · rw [if_neg (by simp)] at HS
    by_cases heq : l.fin = l.sure
    · rw [if_pos heq] at HS
      have heq' : ((l.fin : Int) == (l.sure : Int)) = true := by simp [heq]
      clear heq
      go_enter Try.func13, Try.ntmps13
      go_wp2_with fail
      go_quiet (fail)
      go_wp2_with fail
      go_ret
      unfold LogPost
      rw [HS.out]
      exact ⟨rfl, v, M, HH.out.past ((Only.refl _ _).drewN _), Far.past v ((Only.refl _ _).drewN _), fun k hk => .inl hk⟩
    · rw [if_neg heq] at HS
      have heq' : ((l.fin : Int) == (l.sure : Int)) = false := by simp; omega
      have HNE := Lib.hid heq
      clear heq
      go_enter Try.func13, Try.ntmps13
      go_wp2_with fail
      go_quiet (fail)
      go_wp2_with fail
      refine (WR.out _ ((Only.refl _ _).drewN _)).mono ?_
      rintro e w3 ⟨rfl, M3, hL3, hF3⟩
      clear WR c5 c6
      generalize writesS l s = r at *
      obtain ⟨s1, e1⟩ := r
      have L3 := Lib.hid hL3
      have F3 := Lib.hid ((Far.past v ((Only.refl _ _).drewN nq)).trans hF3 (fun x hx => .inl hx))
      clear hL3 hF3
      simp only at HS L3 WS ⊢
      by_cases h0 : e1 = 0
      · subst h0
        simp only [ne_eq, not_true_eq_false, if_false] at HS
        have HE := Lib.hid (heads_any L3.out l.fin (by omega) (by have := HOK.out.big; omega) (by have := HOK.out.place; omega) HOK.out.turn HOK.out.slot ⟨by have := HR.out.c0; have := WS.out; omega, by have := HR.out.c1; have := WS.out; omega, by have := HR.out.r; have := WS.out; omega⟩)
        have c5 := L3.out.lg.log.cell 5
        simp only [logCells, List.getElem?_cons_zero, List.getElem?_cons_succ] at c5
        have SM := Lib.hid (headsS_same l s1 l.fin)
        go_wp2_with fail
        refine HE.out.mono ?_
        rintro e w4 ⟨rfl, M4, hL4, hF4⟩
        clear HE c5
        generalize headsS l s1 l.fin = r at *
        obtain ⟨l4, s4, e4⟩ := r
        have L4 := Lib.hid hL4
        have F4 := Lib.hid (F3.out.trans hF4 (fun x hx => .inl hx))
        clear hL4 hF4
        simp only at HS L4 SM ⊢
        by_cases h0 : e4 = 0
        · subst h0
          simp only [not_true_eq_false, if_false] at HS
          have hTe : l4.tail.length = l4.fin - l4.sure / 512 * 512 := by rw [SM.out.1, SM.out.2.1, SM.out.2.2.1]; exact HOK.out.tail
          have hfe : l4.fin ≤ 8388608 := by rw [SM.out.1]; exact hfin
          have hse : l4.sure < l4.fin := by have := HNE.out; rw [SM.out.1, SM.out.2.1]; omega
          have HDR : Hid (l.tail.drop (l.fin / 512 * 512 - l.sure / 512 * 512) = l4.tail.drop (l4.fin / 512 * 512 - l4.sure / 512 * 512)) := by show _ = _; rw [SM.out.1, SM.out.2.1, SM.out.2.2.1]
          have HSF : Hid (l.fin = l4.fin) := SM.out.1.symm
          have c5 := L4.out.lg.log.cell 5
          have c6 := L4.out.lg.log.cell 6
          have c7 := L4.out.lg.log.cell 7
          have f7 := L4.out.lg.log.frozen 7
          simp only [logCells, List.getElem?_cons_zero, List.getElem?_cons_succ] at c5 c6 c7
          obtain ⟨a4, c4, hv4, hcc, hfr⟩ := rowFront L4.out.lg.tail
          obtain ⟨g, o, rfl, hfc⟩ := hfr (by omega)
          obtain ⟨ad, had⟩ : ∃ ad : Addr, (⟨g, o, none⟩ : Addr) = ad := ⟨_, rfl⟩
          obtain ⟨fi, hfi⟩ : ∃ fi, l4.fin = fi := ⟨_, rfl⟩
          obtain ⟨su, hsu⟩ : ∃ su, l4.sure = su := ⟨_, rfl⟩
          obtain ⟨n, hn⟩ : ∃ n, l4.tail.length = n := ⟨_, rfl⟩
          obtain ⟨k5, hk5⟩ : ∃ k5, fi / 512 = k5 := ⟨_, rfl⟩
          obtain ⟨k6, hk6⟩ : ∃ k6, su / 512 = k6 := ⟨_, rfl⟩
          obtain ⟨q1, hq1⟩ : ∃ q1, k5 * 512 = q1 := ⟨_, rfl⟩
          obtain ⟨q2, hq2⟩ : ∃ q2, k6 * 512 = q2 := ⟨_, rfl⟩
          obtain ⟨q, hq⟩ : ∃ q, q1 - q2 = q := ⟨_, rfl⟩
          rw [hfi] at c5 hTe hfe hse HDR HSF
          rw [hsu] at c6 hTe hse HDR
          rw [hn] at hTe hcc hv4
          rw [hk5, hk6, hq1, hq2, hq] at HDR
          rw [hk6, hq2] at hTe
          rw [hv4, had] at c7
          have hql : q ≤ n ∧ n - q ≤ 512 ∧ q2 ≤ q1 := by omega
          have CL : Hid (∀ w', Only [] w4 w' → ∀ (x : Addr) (c : Nat), (q < n → x = ad.add q) → BytesAt w' (.slice (some x) (n - q) c) (l4.tail.drop q)) := by
            intro w' hO x c hx
            refine ⟨some x, c, by rw [List.length_drop, hn], fun h0 => ?_⟩
            rw [List.length_drop] at h0
            refine ⟨g, o + q, by rw [hx (by omega), ← had, add_plain], fun j hj => ?_⟩
            rw [List.length_drop] at hj
            rw [Nat.add_assoc, getD_drop]
            exact hO.cell (hfc (q + j) (by omega)) (by simp)
          obtain ⟨adq, hadq, hadq'⟩ : ∃ adq : Addr, (if c4 = q then some ad else some (ad.add q)) = some adq ∧ (q < n → adq = ad.add q) := by
            by_cases h : c4 = q
            · exact ⟨_, by rw [if_pos h], fun h2 => by omega⟩
            · exact ⟨_, by rw [if_neg h], fun _ => rfl⟩
          have HCL : Hid (Calls Try.prog 28 #[.slice (some adq) (n - q) (c4 - q)] w4.drew fun e w' => ∃ v', e = .returned v' ∧ Own w4.drew w' v' (l4.tail.drop q)) := clone_any (CL.out _ (Only.refl _ _).drew adq _ hadq') (by rw [List.length_drop]; omega)
          have e1 : IntKind.i64.wrap ((fi : Int).tdiv 512) = (k5 : Int) := by rw [IntKind.wrap_i64, Int.tdiv_eq_ediv_of_nonneg (by omega)]; omega
          have e1b : IntKind.i64.wrap ((fi : Int) / 512) = (k5 : Int) := by rw [IntKind.wrap_i64]; omega
          have e1c : IntKind.i64.wrap (k5 : Int) = (k5 : Int) := by rw [IntKind.wrap_i64]; omega
          have e2 : IntKind.i64.wrap ((k5 : Int) * 512) = (q1 : Int) := by rw [IntKind.wrap_i64]; omega
          have g1 : IntKind.i64.wrap ((su : Int).tdiv 512) = (k6 : Int) := by rw [IntKind.wrap_i64, Int.tdiv_eq_ediv_of_nonneg (by omega)]; omega
          have g1b : IntKind.i64.wrap ((su : Int) / 512) = (k6 : Int) := by rw [IntKind.wrap_i64]; omega
          have g1c : IntKind.i64.wrap (k6 : Int) = (k6 : Int) := by rw [IntKind.wrap_i64]; omega
          have g2 : IntKind.i64.wrap ((k6 : Int) * 512) = (q2 : Int) := by rw [IntKind.wrap_i64]; omega
          have e3 : IntKind.i64.wrap ((q1 : Int) - (q2 : Int)) = (q : Int) := by rw [IntKind.wrap_i64]; omega
          have e4 : (0 : Int) ≤ (q : Int) := by omega
          have e5 : (q : Int) ≤ (n : Int) := by omega
          have e6 : (n : Int) ≤ (c4 : Int) := by omega
          have HQL := Lib.hid hql
          have HNN := Lib.hid hn
          have HFI := Lib.hid hfi
          have HV4 := Lib.hid hv4
          clear hql hq hq1 hq2 hk5 hk6 hn hsu hfi had hfc hfr hcc hv4 CL hadq' hTe hse hfe hfin hsure hroom WS HOK HR HNE
          go_wp2_with fail
          go_region_with ((go_at_call 28; refine HCL.out.mono ?_; rintro e w7 ⟨v7, rfl, ho7, hk7, hO7⟩; obtain ⟨x7, k7, rfl, _⟩ := owns_shape ho7; have lg7 := hO7.blk (L4.out.lg.log.drew) (by simp); have f7 := lg7.frozen 7; obtain ⟨y7, c7⟩ := lg7.at 7 (by simp [logCells]); have LG7 := Lib.hid lg7; clear lg7; have HV7 := Lib.hid ho7; have HK7 := Lib.hid hk7; have HO7 := Lib.hid hO7; clear ho7 hk7 hO7))
          all_goals
            have O8 : Hid (Only [p] w7 (w7.setCell ⟨p, 7, none⟩ (.slice x7 (l4.tail.length - q) k7))) := only_set _ _ _ _
            have lg8 := LG7.out.set 7 (.slice x7 (l4.tail.length - q) k7)
            have f6 := lg8.frozen 6
            have c58 := lg8.cell 5
            have c68 := lg8.cell 6
            simp only [logCells, List.getElem?_cons_zero, List.getElem?_cons_succ, List.set_cons_succ, List.set_cons_zero, HFI.out] at c58 c68
            have LG8 := Lib.hid lg8
            clear lg8
            generalize w7.setCell ⟨p, 7, none⟩ (.slice x7 (l4.tail.length - q) k7) = w8 at *
            go_wp2_with fail
            go_ret
            unfold LogPost
            have O7 : Only [] w4 w7 := ((Only.refl _ _).drew).trans HO7.out (by simp)
            have hO : Only [p] w7 (w8.setCell ⟨p, 6, none⟩ (.int .i64 fi)) := O8.out.trans (only_set _ _ _ _) (fun x hx => .inl hx)
            rw [HS.out]
            simp only [ne_eq, not_true_eq_false, if_false]
            rw [HDR.out, HSF.out]
            refine ⟨rfl, .slice x7 (l4.tail.length - q) k7, M4, (L4.out.past O7).turned (l' := { l4 with sure := fi, tail := l4.tail.drop q }) hO ((LG8.out.set 6 _).to (by simp [logCells, HFI.out])) ?_ (fun k hk => ?_), (F4.out.trans (Far.past v O7) (fun x hx => .inl hx)).trans (Far.cells LG7.out hO v) (fun x hx => .inl hx), fun k hk => .inr ?_⟩
            · have := HV7.out.off hO (Off.one LG7.out (by decide))
              unfold ByteRow at this ⊢
              rw [List.length_drop] at this ⊢
              exact this
            · have := HK7.out k (by simpa [Value.ownBlock] using hk)
              have : w4.drew.heap.size = w4.heap.size := rfl
              have := L4.out.own.size
              omega
            · have := HK7.out k (by simpa [Value.ownBlock] using hk)
              have : w4.drew.heap.size = w4.heap.size := rfl
              have := F4.out.size
              omega
        · have hb : (e4 != 0) = true := by simp [h0]
          have hb2 : (e4 == 0) = false := by simp [h0]
          have DI := Lib.hid (dies_any L4.out e4)
          go_wp2_with fail
          refine DI.out.mono ?_
          rintro e w5 ⟨rfl, hL5, hF5⟩
          have L5 := Lib.hid hL5
          have F5 := Lib.hid hF5
          clear hL5 hF5
          go_wp2_with fail
          go_ret
          unfold LogPost
          rw [HS.out]
          simp only [ne_eq, h0, not_false_eq_true, if_true]
          exact ⟨rfl, v, M4, L5.out, F4.out.trans F5.out (fun x hx => .inl hx), fun k hk => .inl hk⟩
      · have hb : (e1 != 0) = true := by simp [h0]
        have hb2 : (e1 == 0) = false := by simp [h0]
        have DI := Lib.hid (dies_any L3.out e1)
        go_wp2_with fail
        refine DI.out.mono ?_
        rintro e w5 ⟨rfl, hL5, hF5⟩
        have L5 := Lib.hid hL5
        have F5 := Lib.hid hF5
        clear hL5 hF5
        go_wp2_with fail
        go_ret
        unfold LogPost
        rw [HS.out]
        simp only [ne_eq, h0, not_false_eq_true, if_true]
        exact ⟨rfl, v, M3, L5.out, F3.out.trans F5.out (fun x hx => .inl hx), fun k hk => .inl hk⟩
  · rw [if_pos rfl] at HS
    go_enter Try.func13, Try.ntmps13
    go_wp2_with fail
    go_ret
    unfold LogPost
    rw [HS.out]
    exact ⟨rfl, v, M, HH.out, Far.refl _ _, fun k hk => .inl hk⟩
end Go.Proofs.Ytjbjikigiienkaa.W
