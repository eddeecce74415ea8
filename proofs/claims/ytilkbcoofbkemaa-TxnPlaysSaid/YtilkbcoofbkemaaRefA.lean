/-
  The document's table in memory; New, State, Open by contracts.
-/
import Derived.Test.YtilkbcoofbkemaaRefM
import Derived.Test.YtilkbcoofbkemaaGrow
import Derived.Test.YtilkbcoofbkemaaQuietL
import Derived.Deep.LoopGhost
import Derived.Deep.CutRange
import Derived.Deep.CutBlock
namespace Go.Proofs.Ytilkbcoofbkemaa.T
set_option linter.unusedSimpArgs false
open Go Go.RowKit Go.Proofs.Ytilkbcoofbkemaa.I
set_option linter.unusedVariables false
abbrev RRows := List (RTx × Value)
def txCells (p : RTx × Value) : List Value := [.int .u64 p.1.id, .int .i64 p.1.st, .int .u64 p.1.s.own, .int .u64 p.1.s.next, p.2]
/-- The document's table at r. -/
structure RefAt (w : World) (r n0 : Nat) (v : Value) (R : RRows) (S : TS) : Prop where
  tab : Blk w r [.int .u64 n0, .int .u64 S.next, v] 78
  own : w.ownsRow 0 80 5 v R.length (R.flatMap txCells)
  rows : ∀ p ∈ R, w.ownsRow 0 26 1 p.2 p.1.s.op.length (nats p.1.s.op)
  twin : Twin S n0 (R.map (·.1))
  small : S.next < 9223372036854775808
variable {w : World} {r n0 : Nat} {v : Value} {R : RRows} {S : TS}
theorem RefAt.later (h : RefAt w r n0 v R S) {w' : World} {X : List Nat} (hO : Only X w w') (h1 : r ∉ X) (h2 : Off 80 w X) (h3 : ∀ p ∈ R, ∀ x, p.2.ownBlock = some x → x ∉ X) : RefAt w' r n0 v R S :=
  ⟨hO.blk h.tab h1, owns_off h.own hO h2, fun p hp => owns_later (h.rows p hp) hO (h3 p hp), h.twin, h.small⟩
theorem RefAt.past (h : RefAt w r n0 v R S) {w' : World} (hO : Only [] w w') : RefAt w' r n0 v R S := h.later hO (by simp) (Off.nil _ _) (fun _ _ _ _ => by simp)
theorem tx_flat : ∀ (R : RRows) (k j : Nat) (hk : k < R.length), j < 5 → (R.flatMap txCells)[k * 5 + j]? = (txCells R[k])[j]?
  | p :: R, 0, j, _, hj => by
    rw [List.flatMap_cons, List.getElem?_append_left (by show _ < 5; omega)]
    simp
  | p :: R, k + 1, j, hk, hj => by
    rw [List.flatMap_cons, List.getElem?_append_right (by show 5 ≤ _; omega)]
    have : (k + 1) * 5 + j - (txCells p).length = k * 5 + j := by show _ - 5 = _; omega
    rw [this, tx_flat R k j (by simpa using hk) hj]
    simp
/-- Its row. -/
theorem RefAt.form (h : RefAt w r n0 v R S) : ∃ ao c, v = .slice ao R.length c ∧ (0 < R.length → ∃ g, ao = some ⟨g, 0, none⟩ ∧ ∀ k p, R[k]? = some p → ∀ j, j < 5 → w.cell? ⟨g, k * 5 + j, none⟩ = (txCells p)[j]?) := by
  rcases h.own.2 with ⟨rfl, h0⟩ | ⟨g, cap, cur, rfl, _⟩
  · exact ⟨none, 0, by rw [h0], fun h => by omega⟩
  · refine ⟨_, cap, rfl, fun _ => ⟨g, rfl, fun k p hp j hj => ?_⟩⟩
    obtain ⟨hk, rfl⟩ := List.getElem?_eq_some_iff.1 hp
    rw [h.own.cellAt (k * 5 + j) (by omega)]
    exact tx_flat R k j hk hj
set_option maxHeartbeats 1000000 in
theorem rnew_any (n : Nat) (hn : n < 18446744073709551616) (w : World) : Calls Try.prog 22 #[.int .u64 n] w fun e w' => ∃ r, e = .returned (.pointer (some ⟨r, 0, none⟩)) ∧ RefAt w' r (clamp n) (.slice none 0 0) [] (TS.new n) ∧ Only [] w w' ∧ w.heap.size ≤ r := by
  go_enter Try.func22, Try.ntmps22
  have ec : max (1 : Int) (min (n : Int) 4611686018427387904) = ((clamp n : Nat) : Int) := by unfold clamp; omega
  have hcl : clamp n ≤ 4611686018427387904 := by unfold clamp; omega
  go_wp2_with fail
  go_ret
  exact ⟨w.heap.size, rfl, ⟨Blk.new _ _ _, ⟨rfl, .inl ⟨rfl, rfl⟩⟩, fun p hp => (by cases hp), Twin.new n, by show clamp n < _; omega⟩, (Only.refl _ _).alloc _, Nat.le_refl _⟩
set_option maxHeartbeats 1000000 in
theorem rstate_any (h : RefAt w r n0 v R S) (id : Nat) (hid : id < 18446744073709551616) :
    Calls Try.prog 32 #[.pointer (some ⟨r, 0, none⟩), .int .u64 id] w fun e w' => e = .returned (.int .i64 (S.state id)) ∧ Only [] w w' := by
  have HH := Lib.hid h
  have c0 := h.tab.cell 0
  have c1 := h.tab.cell 1
  have c2 := h.tab.cell 2
  simp only [List.getElem?_cons_succ, List.getElem?_cons_zero] at c0 c1 c2
  have hnx := h.twin.next
  rw [List.length_map] at hnx
  have hsm := h.small
  obtain ⟨nx, hnx2⟩ : ∃ nx, S.next = nx := ⟨_, rfl⟩
  rw [hnx2] at c1 hnx hsm
  by_cases hz : id = 0
  · subst hz
    have E : Hid (S.state 0 = 0) := h.twin.none_ (.inl rfl)
    clear h
    go_enter Try.func32, Try.ntmps32
    go_wp2_with fail
    go_ret
    rw [E.out]
    exact ⟨rfl, Only.refl _ _⟩
  · have hzi : ((id : Int) == 0) = false := by simp; exact hz
    by_cases hge : nx ≤ id
    · have hgei : (nx : Int) ≤ id := by omega
      have E : Hid (S.state id = 0) := h.twin.none_ (.inr (by rw [List.length_map]; omega))
      clear h hnx2
      go_enter Try.func32, Try.ntmps32
      go_wp2_with fail
      go_ret
      rw [E.out]
      exact ⟨rfl, Only.refl _ _⟩
    · have hgei : ¬ (nx : Int) ≤ id := by omega
      by_cases hlo : id < n0
      · have hloi : (id : Int) < n0 := by omega
        have E : Hid (S.state id = 2) := h.twin.old id (by omega) hlo
        clear h hnx2
        go_enter Try.func32, Try.ntmps32
        go_wp2_with fail
        go_ret
        rw [E.out]
        exact ⟨rfl, Only.refl _ _⟩
      · have hloi : ¬ (id : Int) < n0 := by omega
        obtain ⟨hi, _, hst⟩ := h.twin.get (id := id) (by omega) (by rw [List.length_map]; omega)
        simp only [List.length_map, List.getElem_map] at hi hst
        obtain ⟨ao, c, rfl, hc⟩ := h.form
        obtain ⟨g, rfl, hcc⟩ := hc (by omega)
        have x1 := hcc _ _ (List.getElem?_eq_getElem hi) 1 (by omega)
        simp only [txCells, List.getElem?_cons_succ, List.getElem?_cons_zero, hst] at x1
        generalize S.state id = z at *
        obtain ⟨i, hii⟩ : ∃ i, id - n0 = i := ⟨_, rfl⟩
        rw [hii] at x1 hi
        have ew : IntKind.u64.wrap ((id : Int) - n0) = ((i : Nat) : Int) := by simp [IntKind.wrap, IntKind.signed, IntKind.bits]; omega
        have hi2 : (i : Int) < R.length := by omega
        clear h hnx2 hst hc hcc hii
        go_enter Try.func32, Try.ntmps32
        go_wp2_with fail
        go_quiet (fail)
        go_wp2_with fail
        go_ret
        exact ⟨rfl, (Only.refl _ _).drewN nq⟩
theorem opens_next {T : List RTx} {k : Nat} (hk : k < T.length) : ((T.take (k + 1)).filter fun x => x.st == 1).map (·.id) = ((T.take k).filter fun x => x.st == 1).map (·.id) ++ (if T[k].st = 1 then [T[k].id] else []) := by
  rw [List.take_add_one, List.getElem?_eq_getElem hk, List.filter_append, List.map_append]
  congr 1
  by_cases h : T[k].st = 1
  · simp [h]
  · simp [h]
theorem len_take {T : List RTx} {k : Nat} : (((T.take k).filter fun x => x.st == 1).map (·.id)).length ≤ k := by
  rw [List.length_map]
  refine Nat.le_trans (List.length_filter_le _ _) ?_
  rw [List.length_take]; omega
set_option maxHeartbeats 1000000 in
theorem ropen_any (h : RefAt w r n0 v R S) (hl : R.length ≤ 1048576) :
    Calls Try.prog 34 #[.pointer (some ⟨r, 0, none⟩)] w fun e w' => ∃ v, e = .returned v ∧ NatRow w w' v S.nums := by
  have HH := Lib.hid h
  obtain ⟨ao, c, rfl, hc⟩ := h.form
  have HC := Lib.hid hc
  have c0 := h.tab.cell 2
  simp only [List.getElem?_cons_succ, List.getElem?_cons_zero] at c0
  have C0 := Lib.hid c0
  clear h c0 hc
  generalize hm : R.length = m at *
  have HM := Lib.hid hm
  clear hm
  go_enter Try.func34, Try.ntmps34
  go_wp2_with fail
  go_loopg [3, 4] m (fun gk s3 s4 wx => ∃ (k : Nat) (out : List Nat), gk = m - k ∧ k ≤ m ∧ s4 = .int .i64 k ∧ out = (((R.map (·.1)).take k).filter fun x => x.st == 1).map (·.id) ∧ wx.ownsRow 0 26 1 s3 out.length (nats out) ∧ (∀ x, s3.ownBlock = some x → w.heap.size ≤ x) ∧ Only [] w wx)
  case atStart => exact ⟨0, [], rfl, Nat.zero_le _, rfl, rfl, ⟨rfl, .inl ⟨rfl, rfl⟩⟩, fun x hx => (by cases hx), Only.refl _ _⟩
  case round =>
    obtain ⟨k, out, hgk, hk, rfl, hout, hrow, hnew, hO⟩ := hrel
    have HGK := Lib.hid hgk
    have HOUT := Lib.hid hout
    have ROW := Lib.hid hrow
    have NEW := Lib.hid hnew
    have OO := Lib.hid hO
    have c0 := hO.cell C0.out (by simp)
    have HLEN : out.length ≤ k := by rw [hout]; exact len_take
    clear hgk hout hrow hnew hO
    by_cases hlt : k < m
    · obtain ⟨g, rfl, hcc⟩ := HC.out (by omega)
      have hkR : k < R.length := by rw [HM.out]; exact hlt
      have x0 := OO.out.cell (hcc k _ (List.getElem?_eq_getElem hkR) 0 (by omega)) (by simp)
      have x1 := OO.out.cell (hcc k _ (List.getElem?_eq_getElem hkR) 1 (by omega)) (by simp)
      have ON := Lib.hid (opens_next (T := R.map (·.1)) (k := k) (by rw [List.length_map]; exact hkR))
      simp only [List.getElem_map] at ON
      generalize R[k] = p at *
      obtain ⟨⟨id, st, s⟩, pv⟩ := p
      simp only [txCells, List.getElem?_cons_succ, List.getElem?_cons_zero, Nat.add_zero] at x0 x1
      simp only at ON
      clear hcc
      have hki : (k : Int) < m := by omega
      have hk0 : (0 : Int) ≤ k := by omega
      by_cases h1 : st = 1
      · have h1i : (st == 1) = true := by simp [h1]
        have E : Hid ((((R.map (·.1)).take (k + 1)).filter fun x => x.st == 1).map (·.id) = out ++ [id]) := by
          show _ = _
          rw [ON.out, if_pos h1, HOUT.out]
        have HS := Lib.hid h1
        subst h1
        clear ON
        have NB : Hid (Blk (World.alloc _ _) _ [.int .u64 id] 26) := Blk.new [.int .u64 id] 26 wr
        go_wp2_with (refine wpList_grow rfl (.tmp 23) (.tmp 32) 27 rfl 26 Try.underlying27 (info_parts info_key) rfl (by omega) u3 out.length (nats out) rfl (owns_past ROW.out ((Only.refl _ _).alloc _)) _ 1 1 rfl [.int .u64 id] rfl (fun _ => ⟨_, rfl, fun j u hj => NB.out.add_cell j u hj⟩) (by intro u hu; simp at hu; subst hu; rfl) (by omega) (by decide) ?_; intro v5 w5 hg5; obtain ⟨a5, c5, rfl⟩ := hg5.shape; have G5 := Lib.hid hg5; clear hg5)
        go_roundg (m - (k + 1))
        case measure => rw [HGK.out]; omega
        refine ⟨k + 1, out ++ [id], rfl, by omega, by go_num, E.out.symm, ?_, fun x hx => ?_, (((OO.out.alloc _).mono (by simp)).trans G5.out.only (fun x hx => .inr (NEW.out x (by simpa using hx))))⟩
        · have := G5.out.own
          simpa [nats] using this
        · rcases G5.out.lies x hx with h1 | h1
          · exact NEW.out x h1
          · have h2 := OO.out.size
            simp at h1; omega
      · have h1i : (st == 1) = false := by simp [h1]
        have E : Hid ((((R.map (·.1)).take (k + 1)).filter fun x => x.st == 1).map (·.id) = out) := by
          show _ = _
          rw [ON.out, if_neg h1, HOUT.out, List.append_nil]
        clear ON h1
        go_wp2_with fail
        go_roundg (m - (k + 1))
        case measure => rw [HGK.out]; omega
        exact ⟨k + 1, out, rfl, by omega, by go_num, E.out.symm, ROW.out, NEW.out, OO.out⟩
    · obtain rfl : k = m := by omega
      go_wp2_with fail
      obtain ⟨a3, c3, rfl⟩ := owns_form ROW.out
      go_ret
      have e : S.nums = out := by rw [HH.out.twin.nums, HOUT.out, List.take_of_length_le (by rw [List.length_map, HM.out]; exact Nat.le_refl _)]
      rw [e]
      exact ⟨_, rfl, ROW.out, NEW.out, OO.out⟩
end Go.Proofs.Ytilkbcoofbkemaa.T
