/-
  The program's table of transactions: what its state is, in memory and as plain data; New, Commit, Abort, State by contracts.
-/
import Derived.Test.YtilkbcoofbkemaaSortG
import Derived.Test.YtilkbcoofbkemaaLaw
import Derived.Test.YtilkbcoofbkemaaOpen
import Derived.Test.YtilkbcoofbkemaaOpenS
import Derived.Test.YtilkbcoofbkemaaPush
import Derived.Test.YtilkbcoofbkemaaGrow
namespace Go.Proofs.Ytilkbcoofbkemaa.T
set_option linter.unusedSimpArgs false
open Go Go.RowKit Go.Proofs.Ytilkbcoofbkemaa.I
set_option linter.unusedVariables false

theorem owns_form {w : World} {base : Nat} {e : TypeId} {size : Nat} {v : Value} {n : Nat} {xs : List Value} (h : w.ownsRow base e size v n xs) : ∃ ao cap, v = .slice ao n cap := by
  rcases h.2 with ⟨rfl, rfl⟩ | ⟨g, cap, cur, rfl, _⟩
  · exact ⟨none, 0, rfl⟩
  · exact ⟨_, cap, rfl⟩
/-- A snapshot. -/
structure Snap where
  own : Nat
  next : Nat
  op : List Nat
/-- A table: the next number; the snapshots of the open ones; the numbers of those that are gone. -/
structure TS where
  next : Nat
  opens : List Snap
  gone : List Nat
def nats (l : List Nat) : List Value := l.map fun n : Nat => .int .u64 (n : Int)
theorem nats_len (l : List Nat) : (nats l).length = l.length := by simp [nats]
def snapV (s : Snap) (v : Value) : Value := .agg #[.int .u64 s.own, .int .u64 s.next, v]
abbrev Opens := List (Snap × Value)
def openM (L : Opens) : Pairs := L.map fun p => ((p.1.own : Int), snapV p.1 p.2)
def goneM (l : List Nat) : Pairs := l.map fun n : Nat => ((n : Int), .agg #[])
/-- The table at t. -/
structure TabAt (w : World) (t bo bg : Nat) (L : Opens) (S : TS) : Prop where
  tab : Blk w t [.int .u64 S.next, .map (some bo), .map (some bg)] 66
  opn : MapAt w bo .u64 (openM L)
  gon : MapAt w bg .u64 (goneM S.gone)
  fst : L.map (·.1) = S.opens
  rows : ∀ p ∈ L, w.ownsRow 0 26 1 p.2 p.1.op.length (nats p.1.op)
  ne : bo ≠ bg
  small : S.next < 9223372036854775808
  less : ∀ s ∈ S.opens, s.own < S.next
/-- None of these blocks is the table's. -/
def Apart (X : List Nat) (t bo bg : Nat) (w : World) : Prop := t ∉ X ∧ bo ∉ X ∧ bg ∉ X ∧ Off 26 w X
theorem TabAt.later {w w' : World} {t bo bg : Nat} {L : Opens} {S : TS} {X : List Nat} (h : TabAt w t bo bg L S) (hO : Only X w w') (hX : Apart X t bo bg w) : TabAt w' t bo bg L S where
  tab := hO.blk h.tab hX.1
  opn := h.opn.later hO hX.2.1
  gon := h.gon.later hO hX.2.2.1
  fst := h.fst
  rows := fun p hp => owns_off (h.rows p hp) hO hX.2.2.2
  ne := h.ne
  small := h.small
  less := h.less
theorem TabAt.past {w w' : World} {t bo bg : Nat} {L : Opens} {S : TS} (h : TabAt w t bo bg L S) (hO : Only [] w w') : TabAt w' t bo bg L S := h.later hO ⟨by simp, by simp, by simp, Off.nil _ _⟩
theorem look_open {L : Opens} (hn : (L.map fun p => p.1.own).Nodup) (id : Nat) : (look (openM L) id = none ∧ ∀ p ∈ L, p.1.own ≠ id) ∨ ∃ p ∈ L, look (openM L) id = some (snapV p.1 p.2) ∧ p.1.own = id := by
  by_cases h : ∃ p ∈ L, p.1.own = id
  · obtain ⟨p, hp, e⟩ := h
    refine .inr ⟨p, hp, ?_, e⟩
    have := mem_look (m := openM L) (p := ((p.1.own : Int), snapV p.1 p.2)) (by
      simp only [openM, List.map_map]
      exact List.pairwise_map.2 ((List.pairwise_map.1 hn).imp fun h e => h (Int.natCast_inj.1 e))) (List.mem_map_of_mem hp)
    rw [← e]; exact this
  · refine .inl ⟨look_none fun p hp e => ?_, fun p hp e => h ⟨p, hp, e⟩⟩
    simp only [openM, List.mem_map] at hp
    obtain ⟨q, hq, rfl⟩ := hp
    exact h ⟨q, hq, Int.natCast_inj.1 e⟩
theorem look_gone (l : List Nat) (id : Nat) : look (goneM l) id = if l.contains id then some (.agg #[]) else none := by
  unfold look goneM
  induction l with
  | nil => rfl
  | cons a l ih =>
    simp only [List.map_cons, List.contains_cons]
    by_cases h : a = id
    · subst h; simp
    · rw [List.find?_cons_of_neg (by simpa using fun e => h (Int.natCast_inj.1 e)), ih]
      have : (id == a) = false := by simpa using fun e => h e.symm
      simp [this]
def clamp (n : Nat) : Nat := min (max n 1) 4611686018427387904
def TS.new (n : Nat) : TS := ⟨clamp n, [], []⟩
theorem zero_snap (w : World) : (zeroValue 29).run Try.prog w = .ok (.agg #[.int .u64 0, .int .u64 0, .slice none 0 0]) w := by kernel_rfl
theorem zero_unit (w : World) : (zeroValue 69).run Try.prog w = .ok (.agg #[]) w := by kernel_rfl
set_option maxHeartbeats 1000000 in
theorem new_any (n : Nat) (hn : n < 18446744073709551616) (w : World) : Calls Try.prog 9 #[.int .u64 n] w fun e w' => ∃ t bo bg, e = .returned (.pointer (some ⟨t, 0, none⟩)) ∧ TabAt w' t bo bg [] (TS.new n) ∧ Only [] w w' ∧ w.heap.size ≤ t ∧ w.heap.size ≤ bo ∧ w.heap.size ≤ bg := by
  have hmm := @run_makeMap Try.prog
  go_enter Try.func9, Try.ntmps9
  have ec : min (max (n : Int) 1) 4611686018427387904 = ((clamp n : Nat) : Int) := by unfold clamp; omega
  have hcl : clamp n ≤ 4611686018427387904 := by unfold clamp; omega
  go_wp2_with fail
  go_ret
  refine ⟨w.heap.size + 1 + 1, w.heap.size, w.heap.size + 1, rfl, ⟨Blk.new' _ _ _ (by simp), ?_, ?_, rfl, (fun p hp => by cases hp), by omega, by show clamp n < _; omega, (fun s hs => by cases hs)⟩, (((Only.refl _ _).alloc _).alloc _).alloc _, by omega, Nat.le_refl _, by omega⟩
  · exact (MapAt.made w .u64).past (((Only.refl _ _).alloc _).alloc _)
  · have := MapAt.made (w.alloc (.map #[] 0)) .u64
    rw [World.size_alloc] at this
    exact this.past ((Only.refl _ _).alloc _)
/-! ### Commit, Abort -/
def TS.isOpen (S : TS) (id : Nat) : Bool := S.opens.any fun s => s.own == id
def TS.drop (S : TS) (id : Nat) : TS := { S with opens := S.opens.filter fun s => s.own != id }
def TS.commit (S : TS) (id : Nat) : TS × Int := if S.isOpen id then (S.drop id, 0) else (S, 100)
def TS.abort (S : TS) (id : Nat) : TS × Int := if S.isOpen id then ({ S.drop id with gone := mputN S.gone id }, 0) else (S, 100)
where mputN (l : List Nat) (id : Nat) : List Nat := if l.contains id then l else l ++ [id]
/-- No number is open twice. -/
def TS.Once (S : TS) : Prop := (S.opens.map (·.own)).Nodup
theorem openM_del (L : Opens) (id : Nat) : mdel (openM L) id = openM (L.filter fun p => p.1.own != id) := by
  unfold mdel openM
  rw [List.filter_map]
  congr 1
  apply List.filter_congr
  intro p _
  show (((p.1.own : Int) != (id : Int)) = (p.1.own != id))
  by_cases h : p.1.own = id
  · rw [h]; simp
  · have : ¬ ((p.1.own : Int) = (id : Int)) := fun e => h (Int.natCast_inj.1 e)
    rw [bne_iff_ne.2 this, bne_iff_ne.2 h]
theorem goneM_put (l : List Nat) (id : Nat) : mput (goneM l) id (.agg #[]) = goneM (TS.abort.mputN l id) := by
  unfold mput TS.abort.mputN
  rw [look_gone]
  by_cases h : l.contains id = true
  · simp only [if_pos h, Option.isSome_some, if_true]
    unfold goneM
    rw [List.map_map]
    apply List.map_congr_left
    intro a _
    show (if (a : Int) = (id : Int) then _ else _) = _
    split
    · next e => rw [e]
    · rfl
  · simp only [if_neg h, Option.isSome_none, Bool.false_eq_true, if_false]
    simp [goneM]
theorem TabAt.once_nodup {w : World} {t bo bg : Nat} {L : Opens} {S : TS} (h : TabAt w t bo bg L S) (ho : S.Once) : (L.map fun p => p.1.own).Nodup := by
  unfold TS.Once at ho
  rw [← h.fst, List.map_map] at ho
  exact ho
theorem TabAt.look {w : World} {t bo bg : Nat} {L : Opens} {S : TS} (h : TabAt w t bo bg L S) (ho : S.Once) (id : Nat) : (S.isOpen id = false ∧ look (openM L) id = none) ∨ ∃ p ∈ L, S.isOpen id = true ∧ look (openM L) id = some (snapV p.1 p.2) ∧ p.1.own = id := by
  rcases look_open (h.once_nodup ho) id with ⟨h1, h2⟩ | ⟨p, hp, h1, h2⟩
  · refine .inl ⟨?_, h1⟩
    unfold TS.isOpen
    rw [← h.fst, List.any_map, List.any_eq_false]
    intro q hq
    simpa using h2 q hq
  · refine .inr ⟨p, hp, ?_, h1, h2⟩
    unfold TS.isOpen
    rw [← h.fst, List.any_map, List.any_eq_true]
    exact ⟨p, hp, by simpa using h2⟩
theorem TabAt.dropped {w w' : World} {t bo bg : Nat} {L : Opens} {S : TS} (h : TabAt w t bo bg L S) (id : Nat) (hm : MapAt w' bo .u64 (mdel (openM L) id)) (hO : Only [bo] w w') : TabAt w' t bo bg (L.filter fun p => p.1.own != id) (S.drop id) where
  tab := hO.blk h.tab (by simpa using fun e => (h.opn.ne h.tab) e.symm)
  opn := by rw [← openM_del]; exact hm
  gon := h.gon.later hO (by simpa using h.ne.symm)
  fst := by show _ = S.opens.filter _; rw [← h.fst, List.filter_map]; rfl
  rows := fun p hp => owns_off (h.rows p (List.mem_filter.1 hp).1) hO (fun k hk cs hb => by simp at hk; subst hk; exact h.opn.ne hb rfl)
  ne := h.ne
  small := h.small
  less := fun s hs => h.less s (List.mem_filter.1 hs).1
theorem TabAt.ended {w w' : World} {t bo bg : Nat} {L : Opens} {S : TS} (h : TabAt w t bo bg L S) (id : Nat) (hm : MapAt w' bg .u64 (mput (goneM S.gone) id (.agg #[]))) (hO : Only [bg] w w') : TabAt w' t bo bg L { S with gone := TS.abort.mputN S.gone id } where
  tab := hO.blk h.tab (by simpa using fun e => (h.gon.ne h.tab) e.symm)
  opn := h.opn.later hO (by simpa using h.ne)
  gon := by rw [← goneM_put]; exact hm
  fst := h.fst
  rows := fun p hp => owns_off (h.rows p hp) hO (fun k hk cs hb => by simp at hk; subst hk; exact h.gon.ne hb rfl)
  ne := h.ne
  small := h.small
  less := h.less
set_option maxHeartbeats 1000000 in
theorem commit_any {w : World} {t bo bg : Nat} {L : Opens} {S : TS} (h : TabAt w t bo bg L S) (ho : S.Once) (id : Nat) :
    Calls Try.prog 14 #[.pointer (some ⟨t, 0, none⟩), .int .u64 id] w fun e w' => e = .returned (.int .i64 (S.commit id).2) ∧ ∃ L', TabAt w' t bo bg L' (S.commit id).1 ∧ Only [bo] w w' ∧ ∀ p ∈ L', p ∈ L := by
  have HH := Lib.hid h
  have c1 := h.tab.cell 1
  simp only [List.getElem?_cons_succ, List.getElem?_cons_zero] at c1
  have hlk := h.opn.look Try.underlying63 Try.underlying26 (zero_snap w) id true
  rcases h.look ho id with ⟨h1, h2⟩ | ⟨p, hp, h1, h2, h3⟩
  · rw [h2] at hlk
    have E : Hid (S.commit id = (S, 100)) := by show _ = _; unfold TS.commit; rw [if_neg (by rw [h1]; simp)]
    simp only [Option.getD_none, Option.isSome_none, if_true] at hlk
    clear h h1 h2
    go_enter Try.func14, Try.ntmps14
    go_wp2_with fail
    go_ret
    rw [E.out]
    exact ⟨rfl, L, HH.out.past ((Only.refl _ _).alloc _), (Only.refl _ _).alloc _, fun _ h => h⟩
  · obtain ⟨a, c, hpv⟩ : ∃ a c, p.2 = .slice a p.1.op.length c := by
      exact owns_form (h.rows p hp)
    rw [h2] at hlk
    have E : Hid (S.commit id = (S.drop id, 0)) := by show _ = _; unfold TS.commit; rw [if_pos h1]
    simp only [Option.getD_some, Option.isSome_some, if_true, snapV, hpv] at hlk
    generalize p.1.own = po at *
    generalize p.1.next = pn at *
    generalize p.1.op.length = pl at *
    clear h h1 h2 h3 hpv hp
    have OA : Hid (Only [] w (w.alloc (.cells #[.int .u64 po, .int .u64 pn, .slice a pl c] 29))) := (Only.refl _ _).alloc _
    have HA := Lib.hid (HH.out.past OA.out)
    have c1' := HA.out.tab.cell 1
    simp only [List.getElem?_cons_succ, List.getElem?_cons_zero] at c1'
    go_enter Try.func14, Try.ntmps14
    go_wp2_with (at_delete; refine wpList_del rfl _ _ 63 26 rfl Try.underlying63 Try.underlying26 bo (openM L) rfl HA.out.opn id rfl ?_; intro w3 hm3 hO3 hs3)
    go_ret
    rw [E.out]
    exact ⟨rfl, _, HA.out.dropped id hm3 hO3, (OA.out.mono (fun x hx => by cases hx)).trans hO3 (fun x hx => .inl hx), fun _ h => (List.mem_filter.1 h).1⟩
theorem TS.drop_gone (S : TS) (id : Nat) : (S.drop id).gone = S.gone := rfl
set_option maxHeartbeats 1000000 in
theorem abort_any {w : World} {t bo bg : Nat} {L : Opens} {S : TS} (h : TabAt w t bo bg L S) (ho : S.Once) (id : Nat) :
    Calls Try.prog 15 #[.pointer (some ⟨t, 0, none⟩), .int .u64 id] w fun e w' => e = .returned (.int .i64 (S.abort id).2) ∧ ∃ L', TabAt w' t bo bg L' (S.abort id).1 ∧ Only [bo, bg] w w' ∧ ∀ p ∈ L', p ∈ L := by
  have CM := Lib.hid (commit_any h ho id)
  by_cases h1 : S.isOpen id = true
  · have E : Hid (S.commit id = (S.drop id, 0)) := by show _ = _; unfold TS.commit; rw [if_pos h1]
    have E2 : Hid (S.abort id = ({ S.drop id with gone := TS.abort.mputN S.gone id }, 0)) := by show _ = _; unfold TS.abort; rw [if_pos h1]
    rw [E.out] at CM
    clear h1 h
    go_enter Try.func15, Try.ntmps15
    go_wp2_with fail
    refine CM.out.mono ?_
    rintro e w2 ⟨rfl, L', h2, hO2, hsub⟩
    have HSUB := Lib.hid hsub
    clear hsub
    have H2 := Lib.hid h2
    have O2 := Lib.hid hO2
    have c2 := h2.tab.cell 2
    simp only [List.getElem?_cons_succ, List.getElem?_cons_zero] at c2
    clear h2 hO2
    go_wp2_with (at_mapUpdate; refine wpList_put rfl _ _ _ 64 rfl Try.underlying64 Try.underlying26 bg (goneM S.gone) rfl H2.out.gon id rfl (.agg #[]) rfl ?_; intro w3 hm3 hO3 hs3)
    go_ret
    rw [E2.out]
    exact ⟨rfl, L', H2.out.ended id hm3 hO3, (O2.out.mono (fun x hx => by simp at hx; subst hx; exact .inl (by simp))).trans hO3 (fun x hx => by simp at hx; subst hx; exact .inl (by simp)), HSUB.out⟩
  · have E : Hid (S.commit id = (S, 100)) := by show _ = _; unfold TS.commit; rw [if_neg h1]
    have E2 : Hid (S.abort id = (S, 100)) := by show _ = _; unfold TS.abort; rw [if_neg h1]
    rw [E.out] at CM
    clear h1 h
    go_enter Try.func15, Try.ntmps15
    go_wp2_with fail
    refine CM.out.mono ?_
    rintro e w2 ⟨rfl, L', h2, hO2, hsub⟩
    have HSUB := Lib.hid hsub
    clear hsub
    have H2 := Lib.hid h2
    have O2 := Lib.hid hO2
    clear h2 hO2
    go_wp2_with fail
    go_ret
    rw [E2.out]
    exact ⟨rfl, L', H2.out, O2.out.mono (fun x hx => by simp at hx; subst hx; exact .inl (by simp)), HSUB.out⟩
/-- State: none, open, done, gone. -/
def TS.state (S : TS) (id : Nat) : Int := if id = 0 ∨ S.next ≤ id then 0 else if S.isOpen id then 1 else if S.gone.contains id then 3 else 2
set_option maxHeartbeats 1000000 in
theorem state_any {w : World} {t bo bg : Nat} {L : Opens} {S : TS} (h : TabAt w t bo bg L S) (ho : S.Once) (id : Nat) :
    Calls Try.prog 12 #[.pointer (some ⟨t, 0, none⟩), .int .u64 id] w fun e w' => e = .returned (.int .i64 (S.state id)) ∧ Only [] w w' := by
  have HH := Lib.hid h
  have c0 := h.tab.cell 0
  have c1 := h.tab.cell 1
  simp only [List.getElem?_cons_succ, List.getElem?_cons_zero] at c0 c1
  obtain ⟨nx, hnx⟩ : ∃ nx, S.next = nx := ⟨_, rfl⟩
  have HNX := Lib.hid hnx
  rw [hnx] at c0
  by_cases hz : id = 0
  · subst hz
    have E : Hid (S.state 0 = 0) := by show _ = _; unfold TS.state; rw [if_pos (.inl rfl)]
    clear h
    go_enter Try.func12, Try.ntmps12
    go_wp2_with fail
    go_ret
    rw [E.out]
    exact ⟨rfl, Only.refl _ _⟩
  · have hzi : ((id : Int) == 0) = false := by simp; exact hz
    by_cases hge : nx ≤ id
    · have hgei : (nx : Int) ≤ id := by omega
      have E : Hid (S.state id = 0) := by show _ = _; unfold TS.state; rw [if_pos (.inr (by rw [hnx]; exact hge))]
      clear h hnx
      go_enter Try.func12, Try.ntmps12
      go_wp2_with fail
      go_ret
      rw [E.out]
      exact ⟨rfl, Only.refl _ _⟩
    · have hgei : ¬ (nx : Int) ≤ id := by omega
      have hlk := h.opn.look Try.underlying63 Try.underlying26 (zero_snap w) id true
      rcases h.look ho id with ⟨h1, h2⟩ | ⟨p, hp, h1, h2, h3⟩
      · rw [h2] at hlk
        simp only [Option.getD_none, Option.isSome_none, if_true] at hlk
        have OA : Hid (Only [] w (w.alloc (.cells #[.int .u64 0, .int .u64 0, .slice none 0 0] 29))) := (Only.refl _ _).alloc _
        have HA := Lib.hid (HH.out.past OA.out)
        have c2 := HA.out.tab.cell 2
        simp only [List.getElem?_cons_succ, List.getElem?_cons_zero] at c2
        have hlk2 := HA.out.gon.look Try.underlying64 Try.underlying26 (zero_unit _) id true
        rw [look_gone] at hlk2
        by_cases hg : S.gone.contains id = true
        · have E : Hid (S.state id = 3) := by show _ = _; unfold TS.state; rw [if_neg (by rw [hnx]; omega), if_neg (by rw [h1]; simp), if_pos hg]
          rw [if_pos hg] at hlk2
          simp only [Option.getD_some, Option.isSome_some, if_true] at hlk2
          clear h h1 h2 hg hnx
          go_enter Try.func12, Try.ntmps12
          go_wp2_with fail
          go_ret
          rw [E.out]
          exact ⟨rfl, OA.out.alloc _⟩
        · have E : Hid (S.state id = 2) := by show _ = _; unfold TS.state; rw [if_neg (by rw [hnx]; omega), if_neg (by rw [h1]; simp), if_neg hg]
          rw [if_neg hg] at hlk2
          simp only [Option.getD_none, Option.isSome_none, if_true] at hlk2
          clear h h1 h2 hg hnx
          go_enter Try.func12, Try.ntmps12
          go_wp2_with fail
          go_ret
          rw [E.out]
          exact ⟨rfl, OA.out.alloc _⟩
      · obtain ⟨a, c, hpv⟩ : ∃ a c, p.2 = .slice a p.1.op.length c := by
          exact owns_form (h.rows p hp)
        have E : Hid (S.state id = 1) := by show _ = _; unfold TS.state; rw [if_neg (by rw [hnx]; omega), if_pos h1]
        rw [h2] at hlk
        simp only [Option.getD_some, Option.isSome_some, if_true, snapV, hpv] at hlk
        generalize p.1.own = po at *
        generalize p.1.next = pn at *
        generalize p.1.op.length = pl at *
        clear h h1 h2 h3 hpv hp hnx
        go_enter Try.func12, Try.ntmps12
        go_wp2_with fail
        go_ret
        rw [E.out]
        exact ⟨rfl, (Only.refl _ _).alloc _⟩
end Go.Proofs.Ytilkbcoofbkemaa.T
