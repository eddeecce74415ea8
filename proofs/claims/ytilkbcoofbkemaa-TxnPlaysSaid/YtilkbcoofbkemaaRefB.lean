/-
  The document's table: its ends, by contracts.
-/
import Derived.Test.YtilkbcoofbkemaaRefA
namespace Go.Proofs.Ytilkbcoofbkemaa.T
set_option linter.unusedSimpArgs false
open Go Go.RowKit Go.Proofs.Ytilkbcoofbkemaa.I
set_option linter.unusedVariables false
variable {w : World} {r n0 : Nat} {v : Value} {R : RRows} {S : TS}
theorem tx_set : ∀ (R : RRows) (k : Nat) (p : RTx × Value) (z : Int), R[k]? = some p → (R.flatMap txCells).set (k * 5 + 1) (.int .i64 z) = (R.set k (⟨p.1.id, z, p.1.s⟩, p.2)).flatMap txCells
  | q :: R, 0, p, z, h => by
    simp only [List.getElem?_cons_zero, Option.some.injEq] at h
    subst h
    simp [txCells]
  | q :: R, k + 1, p, z, h => by
    have ih := tx_set R k p z (by simpa using h)
    rw [List.flatMap_cons, List.set_cons_succ, List.flatMap_cons, ← ih, List.set_append_right _ _ (by show 5 ≤ _; omega)]
    congr 2
    show (k + 1) * 5 + 1 - 5 = _
    omega
theorem fst_set (R : RRows) (k : Nat) (p : RTx × Value) : (R.set k p).map (·.1) = (R.map (·.1)).set k p.1 := by rw [List.map_set]
theorem cell_past1 {w : World} {b o : Nat} {z v : Value} {p : Addr} (h : w.cell? p = some v) (hne : p.block ≠ b) : ((w.setCell ⟨b, o, none⟩ z).drew).cell? p = some v :=
  (((Only.refl [b] w).setCell (.inl (by simp)) z).drew).cell h (by simpa using hne)
/-- What an end leaves. -/
structure Ended (w w' : World) (r n0 : Nat) (v : Value) (R R' : RRows) (S : TS) (id : Nat) (z : Int) : Prop where
  at_ : ∀ S', S'.next = S.next → Twin S' n0 (R'.map (·.1)) → RefAt w' r n0 v R' S'
  fst : ∃ s, (∃ hi : id - n0 < (R.map (·.1)).length, s = (R.map (·.1))[id - n0].s) ∧ R'.map (·.1) = (R.map (·.1)).set (id - n0) ⟨id, z, s⟩
  snd : ∀ p ∈ R', ∃ q ∈ R, p.2 = q.2
  len : R'.length = R.length
  only : Only v.ownBlock.toList w w'
set_option maxHeartbeats 1000000 in
theorem rend_no (h : RefAt w r n0 v R S) {id : Nat} (hid : id < 18446744073709551616) (ho : S.isOpen id = false) (z : Int) :
    Calls Try.prog 39 #[.pointer (some ⟨r, 0, none⟩), .int .u64 id, .int .i64 z] w fun e w' => e = .returned (.int .i64 100) ∧ Only [] w w' := by
  have ST := Lib.hid (rstate_any h id hid)
  have hne : S.state id ≠ 1 := fun e => by rw [(h.twin.open_state id).1 e] at ho; cases ho
  generalize S.state id = y at *
  have hyi : (y != 1) = true := by simp [hne]
  clear h ho hne
  go_enter Try.func39, Try.ntmps39
  go_wp2_with (go_at_call 32; refine ST.out.mono ?_; rintro e w1 ⟨rfl, hO1⟩)
  go_ret
  exact ⟨rfl, hO1⟩
set_option maxHeartbeats 1000000 in
theorem rend_yes (h : RefAt w r n0 v R S) {id : Nat} (hid : id < 18446744073709551616) (ho : S.isOpen id = true) (z : Int) :
    Calls Try.prog 39 #[.pointer (some ⟨r, 0, none⟩), .int .u64 id, .int .i64 z] w fun e w' => e = .returned (.int .i64 0) ∧ ∃ R', Ended w w' r n0 v R R' S id z := by
  have ST := Lib.hid (rstate_any h id hid)
  rw [(h.twin.open_state id).2 ho] at ST
  have hg := h.twin.open_get ho
  rw [List.length_map] at hg
  have hi : id - n0 < R.length := by omega
  have hid2 := (h.twin.get hg.1 (by rw [List.length_map]; exact hg.2)).2.1
  have HH := Lib.hid h
  obtain ⟨ao, c, rfl, hc⟩ := h.form
  obtain ⟨g, rfl, hcc⟩ := hc (by omega)
  have hR := List.getElem?_eq_getElem hi
  simp only [List.getElem_map] at hid2
  generalize hp : R[id - n0] = p at *
  have x1 := hcc _ _ hR 1 (by omega)
  have fz := h.own.frozenAt ((id - n0) * 5 + 1)
  have hrg : ¬ r = g := fun e => owns_ne h.own h.tab (by decide) (by rw [e]; rfl)
  have HRG := Lib.hid hrg
  have hgr : g ≠ r := fun e => hrg e.symm
  have HR := Lib.hid hR
  have HID2 := Lib.hid hid2
  clear hcc hc h ho hR hid2 hp
  obtain ⟨i, hii⟩ : ∃ i, id - n0 = i := ⟨_, rfl⟩
  have HII := Lib.hid hii
  rw [hii] at x1 fz hi
  have ew : IntKind.u64.wrap ((id : Int) - n0) = ((i : Nat) : Int) := by simp [IntKind.wrap, IntKind.signed, IntKind.bits]; omega
  have hi2 : (i : Int) < R.length := by omega
  simp only [txCells, List.getElem?_cons_succ, List.getElem?_cons_zero] at x1
  obtain ⟨⟨pid, st, s⟩, pv⟩ := p
  have CB : Hid (∀ w1, Only [] w w1 → w1.cell? ⟨r, 0, none⟩ = some (.int .u64 n0) ∧ w1.cell? ⟨r, 2, none⟩ = some (.slice (some ⟨g, 0, none⟩) R.length c) ∧ w1.cell? ⟨g, i * 5 + 1, none⟩ = some (.int .i64 st) ∧ w1.frozen? ⟨g, i * 5 + 1, none⟩ = false) := fun w1 hO =>
    ⟨((HH.out.past hO).tab.cell 0).trans (by simp), ((HH.out.past hO).tab.cell 2).trans (by simp), hO.cell x1 (by simp), (HH.out.past hO).own.frozenAt _⟩
  generalize hRl : R.length = m at *
  have HRL := Lib.hid hRl
  clear x1 fz hii hRl
  go_enter Try.func39, Try.ntmps39
  go_wp2_with (go_at_call 32; refine ST.out.mono ?_; rintro e w1 ⟨rfl, hO1⟩; obtain ⟨c0, c2, x1, fz⟩ := CB.out w1 hO1; have O1 := Lib.hid hO1; clear hO1)
  go_region_held3 (fun w' => w'.cell? ⟨r, 0, none⟩ = some (.int .u64 n0) ∧ w'.cell? ⟨r, 2, none⟩ = some (.slice (some ⟨g, 0, none⟩) m c)) (go_keep) (fail)
  obtain ⟨w3, hw3⟩ : ∃ w3, (w1.setCell ⟨g, i * 5 + 1, none⟩ (.int .i64 z)).drew = w3 := ⟨_, rfl⟩
  have H1 := HH.out.past O1.out
  have hown1 := H1.own
  rw [HRL.out] at hown1
  have hst := (hown1.stored (i * 5 + 1) (.int .i64 z)).1
  have O3 : Only [g] w w3 := by
    rw [← hw3]
    exact (((O1.out.mono (by simp)).setCell (.inl (by simp)) _).drew)
  have O13 : Only [g] w1 w3 := by
    rw [← hw3]
    exact ((Only.refl [g] w1).setCell (.inl (by simp)) _).drew
  have hst3 : w3.ownsRow 0 80 5 (.slice (some ⟨g, 0, none⟩) m c) m ((R.flatMap txCells).set (i * 5 + 1) (.int .i64 z)) := by
    rw [← hw3]; exact hst
  rw [hw3]
  clear hw3 hst
  have hRi : R[i]? = some (⟨pid, st, s⟩, pv) := by rw [← HII.out]; exact HR.out
  have hpid : pid = id := HID2.out
  rw [tx_set R i _ z hRi, hpid] at hst3
  have hil : i < R.length := by rw [HRL.out]; exact hi
  have hgo : Off 26 w1 [g] := by
    have := owns_foot H1.own (t := 26) (by decide)
    simpa [Value.ownBlock] using this
  go_wp2_with fail
  go_ret
  have hmem : ∀ p ∈ R.set i (⟨id, z, s⟩, pv), ∃ q ∈ R, p.2 = q.2 ∧ p.1.s = q.1.s := fun p hp => by
    obtain ⟨j, hj, rfl⟩ := List.mem_iff_getElem.1 hp
    by_cases e : i = j
    · subst e
      refine ⟨_, List.mem_of_getElem? hRi, ?_⟩
      simp
    · rw [List.getElem_set_ne e]
      exact ⟨_, List.getElem_mem (by simpa using hj), rfl, rfl⟩
  refine ⟨rfl, R.set i (⟨id, z, s⟩, pv), fun S' hS' ht => ⟨?_, ?_, fun p hp => ?_, ht, by rw [hS']; exact H1.small⟩, ⟨s, ⟨by rw [List.length_map, HII.out]; exact hil, ?_⟩, ?_⟩, fun p hp => ?_, by simp, ?_⟩
  · rw [hS']
    exact O13.blk H1.tab (by simpa using hrg)
  · rw [List.length_set, HRL.out]; exact hst3
  · obtain ⟨q, hq, e1, e2⟩ := hmem p hp
    rw [e1, e2]
    exact owns_off (H1.rows q hq) O13 hgo
  · obtain ⟨h1, h2⟩ := List.getElem?_eq_some_iff.1 hRi
    simp only [HII.out, List.getElem_map, h2]
  · rw [fst_set, HII.out]
  · obtain ⟨q, hq, e1, _⟩ := hmem p hp
    exact ⟨q, hq, e1⟩
  · exact O3
theorem TS.commit_no {S : TS} {id : Nat} (ho : S.isOpen id = false) : S.commit id = (S, 100) := by unfold TS.commit; rw [if_neg (by rw [ho]; simp)]
theorem TS.abort_no {S : TS} {id : Nat} (ho : S.isOpen id = false) : S.abort id = (S, 100) := by unfold TS.abort; rw [if_neg (by rw [ho]; simp)]
theorem TS.commit_yes {S : TS} {id : Nat} (ho : S.isOpen id = true) : (S.commit id).2 = 0 ∧ (S.commit id).1.next = S.next := by unfold TS.commit; rw [if_pos ho]; exact ⟨rfl, rfl⟩
theorem TS.abort_yes {S : TS} {id : Nat} (ho : S.isOpen id = true) : (S.abort id).2 = 0 ∧ (S.abort id).1.next = S.next := by unfold TS.abort; rw [if_pos ho]; exact ⟨rfl, rfl⟩
/-- Its rows of numbers are where they were. -/
def SameRows (R R' : RRows) : Prop := R'.length = R.length ∧ ∀ p ∈ R', ∃ q ∈ R, p.2 = q.2
theorem rcommit_any (h : RefAt w r n0 v R S) {id : Nat} (hid : id < 18446744073709551616) :
    Calls Try.prog 24 #[.pointer (some ⟨r, 0, none⟩), .int .u64 id] w fun e w' => e = .returned (.int .i64 (S.commit id).2) ∧ ∃ R', RefAt w' r n0 v R' (S.commit id).1 ∧ SameRows R R' ∧ Only v.ownBlock.toList w w' := by
  cases ho : S.isOpen id with
  | false =>
    have E := Lib.hid (rend_no h hid ho 2)
    rw [TS.commit_no ho]
    have HH := Lib.hid h
    clear h ho
    go_enter Try.func24, Try.ntmps24
    go_wp2_with (go_at_call 39; refine E.out.mono ?_; rintro e w1 ⟨rfl, hO1⟩)
    go_ret
    exact ⟨rfl, R, HH.out.past hO1, ⟨rfl, fun p hp => ⟨p, hp, rfl⟩⟩, hO1.mono (by simp)⟩
  | true =>
    have E := Lib.hid (rend_yes h hid ho 2)
    have HH := Lib.hid h
    have HO := Lib.hid ho
    rw [(TS.commit_yes ho).1]
    clear h ho
    go_enter Try.func24, Try.ntmps24
    go_wp2_with (go_at_call 39; refine E.out.mono ?_; rintro e w1 ⟨rfl, R', hE⟩)
    go_ret
    refine ⟨rfl, R', hE.at_ _ (TS.commit_yes HO.out).2 ?_, ⟨hE.len, hE.snd⟩, hE.only⟩
    obtain ⟨s, hs, e⟩ := hE.fst
    rw [e]
    exact HH.out.twin.commit HO.out hs
theorem rabort_any (h : RefAt w r n0 v R S) {id : Nat} (hid : id < 18446744073709551616) :
    Calls Try.prog 25 #[.pointer (some ⟨r, 0, none⟩), .int .u64 id] w fun e w' => e = .returned (.int .i64 (S.abort id).2) ∧ ∃ R', RefAt w' r n0 v R' (S.abort id).1 ∧ SameRows R R' ∧ Only v.ownBlock.toList w w' := by
  cases ho : S.isOpen id with
  | false =>
    have E := Lib.hid (rend_no h hid ho 3)
    rw [TS.abort_no ho]
    have HH := Lib.hid h
    clear h ho
    go_enter Try.func25, Try.ntmps25
    go_wp2_with (go_at_call 39; refine E.out.mono ?_; rintro e w1 ⟨rfl, hO1⟩)
    go_ret
    exact ⟨rfl, R, HH.out.past hO1, ⟨rfl, fun p hp => ⟨p, hp, rfl⟩⟩, hO1.mono (by simp)⟩
  | true =>
    have E := Lib.hid (rend_yes h hid ho 3)
    have HH := Lib.hid h
    have HO := Lib.hid ho
    rw [(TS.abort_yes ho).1]
    clear h ho
    go_enter Try.func25, Try.ntmps25
    go_wp2_with (go_at_call 39; refine E.out.mono ?_; rintro e w1 ⟨rfl, R', hE⟩)
    go_ret
    refine ⟨rfl, R', hE.at_ _ (TS.abort_yes HO.out).2 ?_, ⟨hE.len, hE.snd⟩, hE.only⟩
    obtain ⟨s, hs, e⟩ := hE.fst
    rw [e]
    exact HH.out.twin.abort HO.out hs
end Go.Proofs.Ytilkbcoofbkemaa.T
