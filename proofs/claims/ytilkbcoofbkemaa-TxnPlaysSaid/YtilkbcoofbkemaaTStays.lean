/-
  The walk of TxnStays.
-/
import Derived.Test.YtilkbcoofbkemaaStaysM
import Derived.Test.YtilkbcoofbkemaaStepsT
import Derived.Test.YtilkbcoofbkemaaGrow
import Derived.Test.YtilkbcoofbkemaaQuietL
import Derived.Deep.LoopGhost
import Derived.Deep.CutRange
import Derived.Deep.CutBlock
namespace Go.Proofs.Ytilkbcoofbkemaa.T
set_option linter.unusedSimpArgs false
open Go Go.RowKit Go.Proofs.Ytilkbcoofbkemaa.I
set_option linter.unusedVariables false
/-! ### rows of snapshots -/
abbrev SRows := List (Snap × Value)
def snapCells (p : Snap × Value) : List Value := [.int .u64 p.1.own, .int .u64 p.1.next, p.2]
structure SnapsAt (w : World) (v : Value) (Q : SRows) : Prop where
  own : w.ownsRow 0 29 3 v Q.length (Q.flatMap snapCells)
  rows : ∀ p ∈ Q, w.ownsRow 0 26 1 p.2 p.1.op.length (nats p.1.op)
theorem SnapsAt.off {w w' : World} {v : Value} {Q : SRows} {X : List Nat} (h : SnapsAt w v Q) (hO : Only X w w') (h1 : Off 29 w X) (h2 : Off 26 w X) : SnapsAt w' v Q :=
  ⟨owns_off h.own hO h1, fun p hp => owns_off (h.rows p hp) hO h2⟩
theorem SnapsAt.past {w w' : World} {v : Value} {Q : SRows} (h : SnapsAt w v Q) (hO : Only [] w w') : SnapsAt w' v Q := h.off hO (Off.nil _ _) (Off.nil _ _)
theorem flat_get : ∀ (Q : SRows) (k j : Nat) (hk : k < Q.length), j < 3 → (Q.flatMap snapCells)[k * 3 + j]? = (snapCells Q[k])[j]?
  | p :: Q, 0, j, _, hj => by
    rw [List.flatMap_cons, List.getElem?_append_left (by show _ < 3; omega)]
    simp
  | p :: Q, k + 1, j, hk, hj => by
    rw [List.flatMap_cons, List.getElem?_append_right (by show 3 ≤ _; omega)]
    have : (k + 1) * 3 + j - (snapCells p).length = k * 3 + j := by show _ - 3 = _; omega
    rw [this, flat_get Q k j (by simpa using hk) hj]
    simp
theorem SnapsAt.cell {w : World} {g n c : Nat} {Q : SRows} (h : SnapsAt w (.slice (some ⟨g, 0, none⟩) n c) Q) {k j : Nat} (hk : k < Q.length) (hj : j < 3) : w.cell? ⟨g, k * 3 + j, none⟩ = (snapCells Q[k])[j]? := by
  obtain ⟨rfl, _⟩ : n = Q.length ∧ True := by
    rcases h.own.2 with ⟨h0, h1⟩ | ⟨g', cap', cur, h0, _⟩
    · cases h0
    · simp only [Value.slice.injEq] at h0; exact ⟨h0.2.1, trivial⟩
  rw [h.own.cellAt (k * 3 + j) (by omega)]
  exact flat_get Q k j hk hj
/-- Each snapshot, and what it saw when it was taken. -/
structure Seen (S : TS) (Q : SRows) (B : List Bool) (x1 x2 : Nat) : Prop where
  len : B.length = Q.length
  ok : ∀ p ∈ Q, SnapOk S p.1
  op : ∀ p ∈ Q, p.1.op.length ≤ 1048576
  saw : ∀ i (h : i < Q.length), Q[i].1.own ≠ x1 → Q[i].1.own ≠ x2 → B.getD i false = S.vis Q[i].1 x1 x2
theorem Seen.step {S S' : TS} {Q : SRows} {B : List Bool} {x1 x2 : Nat} (h : Seen S Q B x1 x2) (g : Grows S S') : Seen S' Q B x1 x2 where
  len := h.len
  ok := fun p hp => (h.ok p hp).step g
  op := h.op
  saw := fun i hi h1 h2 => by rw [(h.ok _ (List.getElem_mem hi)).vis g h1 h2]; exact h.saw i hi h1 h2
theorem Seen.more {S : TS} {Q : SRows} {B : List Bool} {x1 x2 : Nat} (h : Seen S Q B x1 x2) (hf : ∀ s ∈ S.opens, s.own < S.next) (hl : S.nums.length ≤ 1048576) (v : Value) : Seen S.begin (Q ++ [(S.snap, v)]) (B ++ [S.begin.vis S.snap x1 x2]) x1 x2 where
  len := by simp [h.len]
  ok := fun p hp => by
    rcases List.mem_append.1 hp with hp | hp
    · exact (h.ok p hp).step .begin
    · simp at hp; subst hp; exact SnapOk.new S hf
  op := fun p hp => by
    rcases List.mem_append.1 hp with hp | hp
    · exact h.op p hp
    · simp at hp; subst hp; exact hl
  saw := fun i hi h1 h2 => by
    by_cases hlt : i < Q.length
    · simp only [List.getElem_append_left hlt] at h1 h2 ⊢
      rw [List.getD_eq_getElem?_getD, List.getElem?_append_left (by rw [h.len]; exact hlt), ← List.getD_eq_getElem?_getD]
      rw [((h.ok _ (List.getElem_mem hlt))).vis .begin h1 h2]
      exact h.saw i hlt h1 h2
    · have hi2 : i = Q.length := by simp at hi; omega
      subst hi2
      simp [List.getD_eq_getElem?_getD, List.getElem?_append_right, h.len]
theorem SnapsAt.more {w w' : World} {v v' : Value} {Q : SRows} {s : Snap} {sv : Value} (h : SnapsAt w v Q) (hg : Grew w w' 29 3 v v' (Q.length + 1) (Q.flatMap snapCells ++ snapCells (s, sv))) (hs : w.ownsRow 0 26 1 sv s.op.length (nats s.op)) : SnapsAt w' v' (Q ++ [(s, sv)]) where
  own := by
    have := hg.own
    rw [List.flatMap_append, List.length_append]
    simpa using this
  rows := fun p hp => by
    have hoff : Off 26 w v.ownBlock.toList := owns_foot h.own (by decide)
    rcases List.mem_append.1 hp with hp | hp
    · exact owns_off (h.rows p hp) hg.only hoff
    · simp at hp; subst hp; exact owns_off hs hg.only hoff
theorem info_snap : (Try.prog.info? 29).map (fun i => (i.zero, i.size, i.bytes)) = some (some (.agg #[.int .u64 0, .int .u64 0, .slice none 0 0]), 3, 40) := by kernel_rfl
theorem info_bool : (Try.prog.info? 4).map (fun i => (i.zero, i.size, i.bytes)) = some (some (.bool false), 1, 1) := by kernel_rfl
/-- What a round leaves: the table, the law's own rows, its version. -/
structure StayAt (w0 w : World) (t bo bg k vb : Nat) (S : TS) (v8 v9 : Value) (Q : SRows) (B : List Bool) (x1 x2 : Nat) : Prop where
  tab : Tab w0 w t bo bg k S
  snaps : SnapsAt w v8 Q
  seen : w.ownsRow 0 4 1 v9 B.length (B.map Value.bool)
  ver : Blk w vb [.slice none 0 0, .int .u64 x1, .int .u64 x2, .int .u64 0] 47
  n8 : ∀ x, v8.ownBlock = some x → w0.heap.size ≤ x
  n9 : ∀ x, v9.ownBlock = some x → w0.heap.size ≤ x
variable {w0 w : World} {t bo bg k vb x1 x2 : Nat} {S S' : TS} {v8 v9 : Value} {Q : SRows} {B : List Bool}
theorem StayAt.past (h : StayAt w0 w t bo bg k vb S v8 v9 Q B x1 x2) {w' : World} (hO : Only [] w w') : StayAt w0 w' t bo bg k vb S v8 v9 Q B x1 x2 :=
  ⟨h.tab.past hO, h.snaps.past hO, owns_past h.seen hO, hO.blk h.ver (by simp), h.n8, h.n9⟩
/-- A call of the table. -/
theorem StayAt.call (h : StayAt w0 w t bo bg k vb S v8 v9 Q B x1 x2) {w' : World} {k' : Nat} (hT : Tab w0 w' t bo bg k' S') (hO : Only [t, bo, bg] w w') : StayAt w0 w' t bo bg k' vb S' v8 v9 Q B x1 x2 :=
  ⟨hT, h.snaps.off hO (h.tab.off (by decide)) (h.tab.off (by decide)), owns_off h.seen hO (h.tab.off (by decide)), hO.blk h.ver (h.tab.ne h.ver (by decide)), h.n8, h.n9⟩
theorem Tab.far (h : Tab w0 w t bo bg k S) {e : TypeId} {size n : Nat} {v : Value} {xs : List Value} (hr : w.ownsRow 0 e size v n xs) (h1 : 66 ≠ e) (h2 : e ≠ 26) (hn : ∀ x, v.ownBlock = some x → w0.heap.size ≤ x) {w' : World} (hO : Only v.ownBlock.toList w w') : Tab w0 w' t bo bg k S := by
  have hne : ∀ y ∈ [t, bo, bg], y ∉ v.ownBlock.toList := fun y hy hx => by
    obtain ⟨cs, hb⟩ := owns_own hr (by simpa using hx)
    exact h.ne hb h1 hy
  exact h.later hO (hne t (by simp)) (hne bo (by simp)) (hne bg (by simp)) (owns_foot hr (Ne.symm h2)) (fun x hx => hn x (by simpa using hx))
/-- A snapshot was laid behind the others. -/
theorem StayAt.pushSnap (h : StayAt w0 w t bo bg k vb S v8 v9 Q B x1 x2) {w' : World} {v8' : Value} {s : Snap} {sv : Value} (hg : Grew w w' 29 3 v8 v8' (Q.length + 1) (Q.flatMap snapCells ++ snapCells (s, sv))) (hs : w.ownsRow 0 26 1 sv s.op.length (nats s.op)) : StayAt w0 w' t bo bg k vb S v8' v9 (Q ++ [(s, sv)]) B x1 x2 where
  tab := h.tab.far h.snaps.own (by decide) (by decide) h.n8 hg.only
  snaps := h.snaps.more hg hs
  seen := owns_off h.seen hg.only (owns_foot h.snaps.own (by decide))
  ver := hg.only.blk h.ver (fun hx => owns_foot h.snaps.own (t := 47) (by decide) vb hx _ h.ver)
  n8 := fun x hx => by
    rcases hg.lies x hx with h1 | h1
    · exact h.n8 x h1
    · have := h.tab.own.size; omega
  n9 := h.n9
/-- What it saw. -/
theorem StayAt.pushSeen (h : StayAt w0 w t bo bg k vb S v8 v9 Q B x1 x2) {w' : World} {v9' : Value} {b : Bool} (hg : Grew w w' 4 1 v9 v9' (B.length + 1) (B.map Value.bool ++ [.bool b])) : StayAt w0 w' t bo bg k vb S v8 v9' Q (B ++ [b]) x1 x2 where
  tab := h.tab.far h.seen (by decide) (by decide) h.n9 hg.only
  snaps := h.snaps.off hg.only (owns_foot h.seen (by decide)) (owns_foot h.seen (by decide))
  seen := by have := hg.own; simpa using this
  ver := hg.only.blk h.ver (fun hx => owns_foot h.seen (t := 47) (by decide) vb hx _ h.ver)
  n8 := h.n8
  n9 := fun x hx => by
    rcases hg.lies x hx with h1 | h1
    · exact h.n9 x h1
    · have := h.tab.own.size; omega
set_option maxRecDepth 100000 in
set_option maxHeartbeats 4000000 in
theorem stays_main {w : World} (v : Value) (l : List StepD) (hv : StepsAt w v l) (xmin xmax : Nat) (h60 : l.length ≤ 60) :
    Calls Try.prog 5 #[v, .int .u64 xmin, .int .u64 xmax] w fun e w' => e = .returned (.bool true) ∧ Below w.heap.size w w' := by
  have K := Lib.hid (known_any w)
  have N := Lib.hid (fun w1 (hO : Only [] w w1) => new_tab hO 1 (by decide))
  obtain ⟨ao, cap, rfl, hml, hc⟩ := hv
  have CC := Lib.hid hc
  clear hc hml
  generalize hm : l.length = m at *
  have HM := Lib.hid hm
  clear hm
  have h60i : ¬ (60 : Int) < m := by omega
  obtain ⟨x1, hx1⟩ : ∃ x1, 1 + xmin % 10 = x1 := ⟨_, rfl⟩
  obtain ⟨x2, hx2⟩ : ∃ x2, xmax % 12 = x2 := ⟨_, rfl⟩
  have e1 : (1 : Int) + (xmin : Int) % 10 = (x1 : Int) := by omega
  have e2 : (xmax : Int) % 12 = (x2 : Int) := by omega
  clear hx1 hx2
  go_enter Try.func5, Try.ntmps5
  go_wp2_with (first | (go_at_call 8; refine K.out.mono ?_; rintro e w1 ⟨rfl, hO1⟩; have O1 := Lib.hid hO1; clear hO1) | (go_at_call 9; refine (N.out _ O1.out).mono ?_; rintro e w2 ⟨t, bo, bg, rfl, hT2, hO2⟩; have T2 := Lib.hid hT2; clear hT2 hO2))
  have hst : StayAt w (w2.alloc (.cells #[.slice none 0 0, .int .u64 x1, .int .u64 x2, .int .u64 0] 47)) t bo bg 0 w2.heap.size (TS.new 1) (.slice none 0 0) (.slice none 0 0) [] [] x1 x2 :=
    ⟨T2.out.past ((Only.refl _ _).alloc _), ⟨⟨rfl, .inl ⟨rfl, rfl⟩⟩, fun p hp => by cases hp⟩, ⟨rfl, .inl ⟨rfl, rfl⟩⟩, Blk.new _ _ _, fun x hx => (by cases hx), fun x hx => (by cases hx)⟩
  have hd0 : (TS.new 1).dead x1 x2 = false := by
    have hz : ∀ id, (TS.new 1).state id = 0 := fun id => by
      unfold TS.state
      rw [if_pos (by show id = 0 ∨ 1 ≤ id; omega)]
    unfold TS.dead
    rw [hz, hz]; rfl
  have ST := Lib.hid hst
  have D0 := Lib.hid hd0
  clear hst hd0 e1 e2
  generalize w2.heap.size = vb at *
  go_loopg [8, 9, 11, 12] m (fun gk s8 s9 s11 i wx => ∃ (k : Nat) (S : TS) (Q : SRows) (B : List Bool), gk = m - k ∧ k ≤ m ∧ i = .int .i64 k ∧ s11 = .bool (S.dead x1 x2) ∧ Q.length ≤ k ∧ Seen S Q B x1 x2 ∧ StayAt w wx t bo bg k vb S s8 s9 Q B x1 x2)
  case atStart => exact ⟨0, TS.new 1, [], [], rfl, Nat.zero_le _, rfl, by rw [D0.out], Nat.le_refl _, ⟨rfl, fun p hp => (by cases hp), fun p hp => (by cases hp), fun i hi => absurd hi (Nat.not_lt_zero _)⟩, ST.out⟩
  case round =>
    obtain ⟨k, S, Q, B, hgk, hk, rfl, rfl, hql, hsee, hS⟩ := hrel
    have HGK := Lib.hid hgk
    have SE := Lib.hid hsee
    have QL := Lib.hid hql
    clear hsee hql
    have SS := Lib.hid hS
    clear hgk hS ST D0
    by_cases hlt : k < m
    · obtain ⟨eb, eo, rfl, hce⟩ := CC.out (by omega)
      obtain ⟨hok, hc⟩ := hce k hlt
      have q0 := SS.out.tab.own.cell (hc 0 (by omega)) (by simp)
      have q1 := SS.out.tab.own.cell (hc 1 (by omega)) (by simp)
      have OK := Lib.hid hok
      have hwhat := hok.what
      have ha := hok.a
      generalize l.getD k stepZ = st at *
      obtain ⟨what, sa, sb, sc, which⟩ := st
      simp only [stepCells, List.getElem?_cons_succ, List.getElem?_cons_zero, Nat.add_zero] at q0 q1 hwhat ha
      clear hce hc CC hok
      have hki : (k : Int) < m := by omega
      have hk0 : (0 : Int) ≤ k := by omega
      obtain ⟨id, hid⟩ : ∃ id, 1 + sa % 12 = id := ⟨_, rfl⟩
      have eid : (1 : Int) + (sa : Int) % 12 = (id : Int) := by omega
      clear hid
      obtain ⟨dd, hdd⟩ : ∃ dd, S.dead x1 x2 = dd := ⟨_, rfl⟩
      have DD := Lib.hid hdd
      rw [hdd]
      clear hdd
      go_upto_block 2 with fail
      generalize hz : what.tmod 4 = z at *
      clear hz hwhat ha q0 q1
      go_cut [8, 9, 14, 15] from 32 to 164 (fun s8 s9 s14 s15 wx => ∃ (S' : TS) (Q' : SRows) (B' : List Bool), Grows S S' ∧ Q'.length ≤ k + 1 ∧ Seen S' Q' B' x1 x2 ∧ StayAt w wx t bo bg (k + 1) vb S' s8 s9 Q' B' x1 x2)
      case first =>
        as_aux_lemma =>
          by_cases h0 : z = 0
          · subst h0
            obtain ⟨nx, hnx⟩ : ∃ nx, S.next = nx := ⟨_, rfl⟩
            obtain ⟨n0, hn0⟩ : ∃ n0, S.opens.length = n0 := ⟨_, rfl⟩
            have HNX := Lib.hid hnx
            have HN0 := Lib.hid hn0
            have hk60 : k < 60 := by omega
            clear hnx hn0
            obtain ⟨bb, hbb⟩ : ∃ bb, S.begin.vis S.snap x1 x2 = bb := ⟨_, rfl⟩
            have HBB : Hid (S.begin.vis ⟨nx, nx, S.nums⟩ x1 x2 = bb) := by
              show _ = _
              rw [← hbb, ← HNX.out]; rfl
            have HBS := Lib.hid hbb
            clear hbb
            have HNL : Hid (S.nums.length ≤ 1048576) := by
              show _ ≤ _
              have h1 := SS.out.tab.fine.len
              rw [TS.nums_len]; omega
            have HQL : Q.length ≤ 60 := by have := QL.out; omega
            have HBL : B.length ≤ 60 := by have := SE.out.len; omega
            go_wp2_with (first
              | (go_at_call 10; refine (SS.out.tab.begin' (by omega) (m := nx) (n := n0) HNX.out HN0.out rfl).mono ?_; rintro e w4 ⟨a4, c4, rfl, hr4, hT4, hO4⟩; have R4 := Lib.hid hr4.1; have S4 := Lib.hid (SS.out.call hT4 hO4); have O4 := Lib.hid (((Only.refl [] w4).alloc (.cells #[.int .u64 nx, .int .u64 nx, .slice a4 n0 c4] 29)).alloc (.cells #[.int .u64 nx, .int .u64 nx, .slice a4 n0 c4] 29)); have B4 := Lib.hid ((Blk.new [.int .u64 nx, .int .u64 nx, .slice a4 n0 c4] 29 w4).alloc (.cells #[.int .u64 nx, .int .u64 nx, .slice a4 n0 c4] 29)); have N4 := Lib.hid (Blk.new' #[.int .u64 nx, .int .u64 nx, .slice a4 n0 c4] 29 (w4.alloc (.cells #[.int .u64 nx, .int .u64 nx, .slice a4 n0 c4] 29)) (n := w4.heap.size + 1) (by simp)); have P4 := Lib.hid (S4.out.past O4.out); have L4 := Lib.hid (fun hx => Nat.lt_irrefl _ (owns_lt S4.out.snaps.own (k := w4.heap.size) hx)); have R4' := Lib.hid (owns_past R4.out O4.out); clear hr4 hT4 hO4)
              | (refine wpList_grow rfl (.tmp 62) (.tmp 64) 44 rfl 29 Try.underlying44 (info_parts info_snap) rfl (by omega) u8 Q.length (Q.flatMap snapCells) rfl P4.out.snaps.own (some ⟨w4.heap.size + 1, 0, none⟩) 1 1 rfl [.int .u64 nx, .int .u64 nx, .slice a4 n0 c4] rfl (fun _ => ⟨_, rfl, fun j u hj => N4.out.add_cell j u hj⟩) (by intro u hu; simp at hu; rcases hu with rfl | rfl | rfl <;> rfl) (by omega) (by decide) ?_; intro v5 w5 hg5; obtain ⟨a5, c5, rfl⟩ := hg5.shape; have S5 := Lib.hid (P4.out.pushSnap (s := ⟨nx, nx, S.nums⟩) (sv := .slice a4 n0 c4) hg5 R4'.out); have b5 := hg5.only.blk B4.out (fun hx => L4.out (by simpa using hx)); have y0 := b5.cell 0; have y1 := b5.cell 1; have y2 := b5.cell 2; have v0 := S5.out.ver.cell 0; have v1 := S5.out.ver.cell 1; have v2 := S5.out.ver.cell 2; have v3 := S5.out.ver.cell 3; simp only [List.getElem?_cons_succ, List.getElem?_cons_zero] at y0 y1 y2 v0 v1 v2 v3; clear hg5 b5)
              | (go_at_call 19; refine (S5.out.tab.visible' (own := nx) (next := nx) (op := S.nums) (nats_owned (S5.out.snaps.rows (⟨nx, nx, S.nums⟩, .slice a4 n0 c4) (by simp))) HNL.out x1 x2 HBB.out).mono ?_; rintro e w6 ⟨rfl, hO6⟩; have P6 := Lib.hid ((S5.out.past hO6).past ((Only.refl [] w6).alloc (.cells #[.bool bb] 4))); have N6 := Lib.hid (Blk.new [.bool bb] 4 w6); clear hO6)
              | (refine wpList_grow rfl (.tmp 66) (.tmp 71) 22 rfl 4 Try.underlying22 (info_parts info_bool) rfl (by omega) u9 B.length (B.map Value.bool) rfl P6.out.seen (some ⟨w6.heap.size, 0, none⟩) 1 1 rfl [.bool bb] rfl (fun _ => ⟨_, rfl, fun j u hj => N6.out.add_cell j u hj⟩) (by intro u hu; simp at hu; subst hu; rfl) (by omega) (by decide) ?_; intro v7 w7 hg7; obtain ⟨a7, c7, rfl⟩ := hg7.shape; have S7 := Lib.hid (P6.out.pushSeen hg7); clear hg7))
            go_meet
            case rel =>
              have es : S.snap = ⟨nx, nx, S.nums⟩ := by rw [← HNX.out]; rfl
              have hm := SE.out.more SS.out.tab.fine.less HNL.out (.slice a4 n0 c4)
              rw [HBS.out, es] at hm
              exact ⟨S.begin, _, _, .begin, by simp; exact QL.out, hm, S7.out⟩
          by_cases h1 : z = 1
          · subst h1
            obtain ⟨nx, hnx⟩ : ∃ nx, S.next = nx := ⟨_, rfl⟩
            obtain ⟨n0, hn0⟩ : ∃ n0, S.opens.length = n0 := ⟨_, rfl⟩
            have HNX := Lib.hid hnx
            have HN0 := Lib.hid hn0
            have hk60 : k < 60 := by omega
            clear hnx hn0
            obtain ⟨bb, hbb⟩ : ∃ bb, S.begin.vis S.snap x1 x2 = bb := ⟨_, rfl⟩
            have HBB : Hid (S.begin.vis ⟨nx, nx, S.nums⟩ x1 x2 = bb) := by
              show _ = _
              rw [← hbb, ← HNX.out]; rfl
            have HBS := Lib.hid hbb
            clear hbb
            have HNL : Hid (S.nums.length ≤ 1048576) := by
              show _ ≤ _
              have h1 := SS.out.tab.fine.len
              rw [TS.nums_len]; omega
            have HQL : Q.length ≤ 60 := by have := QL.out; omega
            have HBL : B.length ≤ 60 := by have := SE.out.len; omega
            go_wp2_with (first
              | (go_at_call 10; refine (SS.out.tab.begin' (by omega) (m := nx) (n := n0) HNX.out HN0.out rfl).mono ?_; rintro e w4 ⟨a4, c4, rfl, hr4, hT4, hO4⟩; have R4 := Lib.hid hr4.1; have S4 := Lib.hid (SS.out.call hT4 hO4); have O4 := Lib.hid (((Only.refl [] w4).alloc (.cells #[.int .u64 nx, .int .u64 nx, .slice a4 n0 c4] 29)).alloc (.cells #[.int .u64 nx, .int .u64 nx, .slice a4 n0 c4] 29)); have B4 := Lib.hid ((Blk.new [.int .u64 nx, .int .u64 nx, .slice a4 n0 c4] 29 w4).alloc (.cells #[.int .u64 nx, .int .u64 nx, .slice a4 n0 c4] 29)); have N4 := Lib.hid (Blk.new' #[.int .u64 nx, .int .u64 nx, .slice a4 n0 c4] 29 (w4.alloc (.cells #[.int .u64 nx, .int .u64 nx, .slice a4 n0 c4] 29)) (n := w4.heap.size + 1) (by simp)); have P4 := Lib.hid (S4.out.past O4.out); have L4 := Lib.hid (fun hx => Nat.lt_irrefl _ (owns_lt S4.out.snaps.own (k := w4.heap.size) hx)); have R4' := Lib.hid (owns_past R4.out O4.out); clear hr4 hT4 hO4)
              | (refine wpList_grow rfl (.tmp 62) (.tmp 64) 44 rfl 29 Try.underlying44 (info_parts info_snap) rfl (by omega) u8 Q.length (Q.flatMap snapCells) rfl P4.out.snaps.own (some ⟨w4.heap.size + 1, 0, none⟩) 1 1 rfl [.int .u64 nx, .int .u64 nx, .slice a4 n0 c4] rfl (fun _ => ⟨_, rfl, fun j u hj => N4.out.add_cell j u hj⟩) (by intro u hu; simp at hu; rcases hu with rfl | rfl | rfl <;> rfl) (by omega) (by decide) ?_; intro v5 w5 hg5; obtain ⟨a5, c5, rfl⟩ := hg5.shape; have S5 := Lib.hid (P4.out.pushSnap (s := ⟨nx, nx, S.nums⟩) (sv := .slice a4 n0 c4) hg5 R4'.out); have b5 := hg5.only.blk B4.out (fun hx => L4.out (by simpa using hx)); have y0 := b5.cell 0; have y1 := b5.cell 1; have y2 := b5.cell 2; have v0 := S5.out.ver.cell 0; have v1 := S5.out.ver.cell 1; have v2 := S5.out.ver.cell 2; have v3 := S5.out.ver.cell 3; simp only [List.getElem?_cons_succ, List.getElem?_cons_zero] at y0 y1 y2 v0 v1 v2 v3; clear hg5 b5)
              | (go_at_call 19; refine (S5.out.tab.visible' (own := nx) (next := nx) (op := S.nums) (nats_owned (S5.out.snaps.rows (⟨nx, nx, S.nums⟩, .slice a4 n0 c4) (by simp))) HNL.out x1 x2 HBB.out).mono ?_; rintro e w6 ⟨rfl, hO6⟩; have P6 := Lib.hid ((S5.out.past hO6).past ((Only.refl [] w6).alloc (.cells #[.bool bb] 4))); have N6 := Lib.hid (Blk.new [.bool bb] 4 w6); clear hO6)
              | (refine wpList_grow rfl (.tmp 66) (.tmp 71) 22 rfl 4 Try.underlying22 (info_parts info_bool) rfl (by omega) u9 B.length (B.map Value.bool) rfl P6.out.seen (some ⟨w6.heap.size, 0, none⟩) 1 1 rfl [.bool bb] rfl (fun _ => ⟨_, rfl, fun j u hj => N6.out.add_cell j u hj⟩) (by intro u hu; simp at hu; subst hu; rfl) (by omega) (by decide) ?_; intro v7 w7 hg7; obtain ⟨a7, c7, rfl⟩ := hg7.shape; have S7 := Lib.hid (P6.out.pushSeen hg7); clear hg7))
            go_meet
            case rel =>
              have es : S.snap = ⟨nx, nx, S.nums⟩ := by rw [← HNX.out]; rfl
              have hm := SE.out.more SS.out.tab.fine.less HNL.out (.slice a4 n0 c4)
              rw [HBS.out, es] at hm
              exact ⟨S.begin, _, _, .begin, by simp; exact QL.out, hm, S7.out⟩
          by_cases h2 : z = 2
          · subst h2
            obtain ⟨S2, r2, hc2⟩ : ∃ S2 r2, S.commit id = (S2, r2) := ⟨_, _, rfl⟩
            have HC2 := Lib.hid hc2
            clear hc2 h0 h1
            go_wp2_with (go_at_call 14; refine (SS.out.tab.commit' id HC2.out).mono ?_; rintro e w4 ⟨rfl, hT4, hO4⟩; have T4 := Lib.hid hT4; have O4 := Lib.hid hO4; clear hT4 hO4)
            go_meet
            case rel =>
              have hg : Grows S S2 := by have := Grows.commit (S := S) id; rw [HC2.out] at this; exact this
              exact ⟨S2, Q, B, hg, Nat.le_succ_of_le QL.out, SE.out.step hg, SS.out.call (T4.out.more (Nat.le_succ _)) O4.out⟩
          · obtain ⟨S2, r2, hc2⟩ : ∃ S2 r2, S.abort id = (S2, r2) := ⟨_, _, rfl⟩
            have HC2 := Lib.hid hc2
            have z0 : (z == 0) = false := by simpa using h0
            have z1 : (z == 1) = false := by simpa using h1
            have z2 : (z == 2) = false := by simpa using h2
            clear hc2 h0 h1 h2
            go_wp2_with (go_at_call 15; refine (SS.out.tab.abort' id HC2.out).mono ?_; rintro e w4 ⟨rfl, hT4, hO4⟩; have T4 := Lib.hid hT4; have O4 := Lib.hid hO4; clear hT4 hO4)
            go_meet
            case rel =>
              have hg : Grows S S2 := by have := Grows.abort (S := S) id; rw [HC2.out] at this; exact this
              exact ⟨S2, Q, B, hg, Nat.le_succ_of_le QL.out, SE.out.step hg, SS.out.call (T4.out.more (Nat.le_succ _)) O4.out⟩
      case rest =>
        obtain ⟨S', Q', B', hg, hql', hsee', hS'⟩ := hcut
        have HG := Lib.hid hg
        have QL' := Lib.hid hql'
        have SE' := Lib.hid hsee'
        have SS' := Lib.hid hS'
        clear hg hql' hsee' hS' SS SE QL
        obtain ⟨d2, hd2⟩ : ∃ d2, S'.dead x1 x2 = d2 := ⟨_, rfl⟩
        have D2 := Lib.hid hd2
        clear hd2
        have v0 := SS'.out.ver.cell 0
        have v1 := SS'.out.ver.cell 1
        have v2 := SS'.out.ver.cell 2
        have v3 := SS'.out.ver.cell 3
        simp only [List.getElem?_cons_succ, List.getElem?_cons_zero] at v0 v1 v2 v3
        have hk60 : k < 60 := by omega
        have HBL := Lib.hid SE'.out.len
        obtain ⟨a8, c8, rfl⟩ := owns_form SS'.out.snaps.own
        obtain ⟨a9, c9, rfl⟩ := owns_form SS'.out.seen
        generalize hq : Q'.length = q at *
        have HQ := Lib.hid hq
        clear hq
        obtain ⟨bq, hbq⟩ : ∃ bq, B'.length = bq := ⟨_, rfl⟩
        have HBQ := Lib.hid hbq
        have hbq2 : q = bq := by have := HBL.out; omega
        subst hbq2
        rw [hbq] at SS'
        rw [hbq]
        clear hbq
        have DDH := Lib.hid (fun (h : dd = true) => HG.out.dead (DD.out.trans h))
        cases dd
        case true =>
          as_aux_lemma =>
            obtain rfl : d2 = true := by rw [← D2.out]; exact DDH.out rfl
            go_wp2_with (first
              | (go_at_call 20; refine (S5.out.tab.dead' (by omega) x1 x2 D2.out).mono ?_; rintro e w6 ⟨rfl, hO6⟩; have S6 := Lib.hid (S5.out.past hO6); clear hO6)
              | (go_at_call 20; refine (SS'.out.tab.dead' (by omega) x1 x2 D2.out).mono ?_; rintro e w5 ⟨rfl, hO5⟩; have S5 := Lib.hid (SS'.out.past hO5); have v0 := S5.out.ver.cell 0; have v1 := S5.out.ver.cell 1; have v2 := S5.out.ver.cell 2; have v3 := S5.out.ver.cell 3; simp only [List.getElem?_cons_succ, List.getElem?_cons_zero] at v0 v1 v2 v3; clear hO5))
            go_loopg [16] q (fun gj x wy => ∃ j : Nat, gj = q - j ∧ j ≤ q ∧ x = .int .i64 j ∧ Only [] w6 wy)
            case atStart => exact ⟨0, rfl, Nat.zero_le _, rfl, Only.refl _ _⟩
            case round =>
              obtain ⟨j, hgj, hj, rfl, hO⟩ := hrel
              rename World => wy
              have HGJ := Lib.hid hgj
              have OY := Lib.hid hO
              have S7 := Lib.hid (S6.out.past hO)
              clear hgj hO v0 v1 v2 v3
              by_cases hjl : j < q
              · obtain ⟨⟨⟨own, pn, op⟩, pv⟩, hp⟩ : ∃ p, Q'[j]'(by rw [HQ.out]; exact hjl) = p := ⟨_, rfl⟩
                have hmem : (⟨own, pn, op⟩, pv) ∈ Q' := by rw [← hp]; exact List.getElem_mem _
                obtain ⟨g8, rfl⟩ : ∃ g8, a8 = some ⟨g8, 0, none⟩ := by
                  rcases S7.out.snaps.own.2 with ⟨_, h0⟩ | ⟨g, cap0, cur, h0, _⟩
                  · rw [HQ.out] at h0; omega
                  · simp only [Value.slice.injEq] at h0; exact ⟨g, h0.1⟩
                obtain ⟨g9, rfl⟩ : ∃ g9, a9 = some ⟨g9, 0, none⟩ := by
                  rcases S7.out.seen.2 with ⟨_, h0⟩ | ⟨g, cap0, cur, h0, _⟩
                  · rw [HBQ.out] at h0; omega
                  · simp only [Value.slice.injEq] at h0; exact ⟨g, h0.1⟩
                have c0 := S7.out.snaps.cell (k := j) (j := 0) (by rw [HQ.out]; exact hjl) (by omega)
                have c1 := S7.out.snaps.cell (k := j) (j := 1) (by rw [HQ.out]; exact hjl) (by omega)
                have c2 := S7.out.snaps.cell (k := j) (j := 2) (by rw [HQ.out]; exact hjl) (by omega)
                rw [hp] at c0 c1 c2
                have hrow := S7.out.snaps.rows _ hmem
                obtain ⟨ap, cp, hpv⟩ := owns_form hrow
                have hpv : pv = .slice ap op.length cp := hpv
                subst hpv
                have hna : NatsAt wy (.slice ap op.length cp) op := nats_owned hrow
                have hsn := SE'.out.ok _ hmem
                have hopl := SE'.out.op _ hmem
                have hsaw := SE'.out.saw j (by rw [HQ.out]; exact hjl)
                rw [hp] at hsaw
                simp only [snapCells, List.getElem?_cons_succ, List.getElem?_cons_zero, Nat.add_zero] at c0 c1 c2 hsn hopl hsaw
                have cb : wy.cell? ⟨g9, j, none⟩ = some (.bool (B'.getD j false)) := by
                  have hse := S7.out.seen
                  rw [HBQ.out] at hse
                  rw [hse.cellAt j (by omega), List.getElem?_map, List.getElem?_eq_getElem (by rw [HBQ.out]; exact hjl), List.getD_eq_getElem?_getD, List.getElem?_eq_getElem (by rw [HBQ.out]; exact hjl)]; rfl
                generalize B'.getD j false = bj at *
                have hw1 := S7.out.ver.cell 1
                have hw0 := S7.out.ver.cell 0
                have hw2 := S7.out.ver.cell 2
                have hw3 := S7.out.ver.cell 3
                simp only [List.getElem?_cons_succ, List.getElem?_cons_zero] at hw0 hw1 hw2 hw3
                have HC0 := Later.cell c0
                have HC1 := Later.cell c1
                have HC2 := Later.cell c2
                have HCB := Later.cell cb
                have HV0 := Later.cell hw0
                have HV1 := Later.cell hw1
                have HV2 := Later.cell hw2
                have HV3 := Later.cell hw3
                obtain ⟨vz, hvz⟩ : ∃ vz, S'.vis ⟨own, pn, op⟩ x1 x2 = vz := ⟨_, rfl⟩
                obtain ⟨zo, hzo⟩ : ∃ zo, S'.state own = zo := ⟨_, rfl⟩
                obtain ⟨zm, hzm⟩ : ∃ zm, S'.state x1 = zm := ⟨_, rfl⟩
                have BLD : Hid (zo = 1 → x2 ≠ own → zm ≠ 3 → vz = false) := fun h1 h2 h3 => by
                  rw [← hvz]
                  exact hsn.blind D2.out (by rw [← h1]; exact hzo) h2 (by rw [hzm]; exact h3)
                have SAW : Hid (own ≠ x1 → own ≠ x2 → bj = vz) := fun h1 h2 => by rw [← hvz]; exact hsaw h1 h2
                have NA := Lib.hid hna
                have LV : Hid (∀ x : Later wy, Calls Try.prog 19 #[.pointer (some ⟨t, 0, none⟩), .agg #[.int .u64 own, .int .u64 pn, .slice ap op.length cp], .agg #[.slice none 0 0, .int .u64 x1, .int .u64 x2, .int .u64 0]] x.v fun e w' => e = .returned (.bool vz) ∧ ∃ y : Later wy, w' = y.v) := fun x => Calls.later (fun w1 hO1 => (S7.out.tab.past hO1).visible' (NA.out.past hO1) hopl x1 x2 hvz) x
                have LO : Hid (∀ x : Later wy, Calls Try.prog 12 #[.pointer (some ⟨t, 0, none⟩), .int .u64 own] x.v fun e w' => e = .returned (.int .i64 zo) ∧ ∃ y : Later wy, w' = y.v) := fun x => Calls.later (fun w1 hO1 => (S7.out.tab.past hO1).state' own hzo) x
                have LM : Hid (∀ x : Later wy, Calls Try.prog 12 #[.pointer (some ⟨t, 0, none⟩), .int .u64 x1] x.v fun e w' => e = .returned (.int .i64 zm) ∧ ∃ y : Later wy, w' = y.v) := fun x => Calls.later (fun w1 hO1 => (S7.out.tab.past hO1).state' x1 hzm) x
                generalize op.length = np at *
                clear hp hmem c0 c1 c2 hrow hna hsn hopl hsaw cb hw0 hw1 hw2 hw3 hvz hzo hzm
                have hji : (j : Int) < q := by omega
                have hq61 : q ≤ 61 := by have := QL'.out; omega
                have hj0 : (0 : Int) ≤ j := by omega
                by_cases g1 : own = x1
                · have g1b : ((own : Int) == x1) = true := by simp [g1]
                  clear g1
                  go_wp2_with fail
                  refine wp_region_later (Only.refl _ _) (by kernel_rfl) (by kernel_rfl) ?_
                  repeat (go_big_quiet_step (fail))
                  refine wpQuiet_nil ?_
                  rintro _ ⟨xp, rfl⟩
                  go_wp2_with fail
                  refine wp_region_later xp.h (by kernel_rfl) (by kernel_rfl) ?_
                  repeat (go_big_quiet_step (fail))
                  refine wpQuiet_nil ?_
                  rintro _ ⟨xq, rfl⟩
                  go_wp2_with fail
                  by_cases ho : zo = 1
                  · subst ho
                    cases vz with
                    | false =>
                      refine wp_region_later xq.h (by kernel_rfl) (by kernel_rfl) ?_
                      repeat (go_big_quiet_step ((first | (go_at_call 19; exact LV.out _) | (go_at_call_of 12 (Value.int .u64 (own : Int)); exact LO.out _))))
                      refine wpQuiet_nil ?_
                      rintro _ ⟨xr, rfl⟩
                      go_wp2_with fail
                      go_roundg (q - (j + 1))
                      case measure => have := HGJ.out; omega
                      case rel => exact ⟨j + 1, rfl, by omega, by go_num, OY.out.trans xr.h (by simp)⟩
                    | true =>
                      by_cases h2 : x2 = own
                      · have h2b : ((x2 : Int) != own) = false := by simp [h2]
                        clear h2
                        refine wp_region_later xq.h (by kernel_rfl) (by kernel_rfl) ?_
                        repeat (go_big_quiet_step ((first | (go_at_call 19; exact LV.out _) | (go_at_call_of 12 (Value.int .u64 (own : Int)); exact LO.out _))))
                        refine wpQuiet_nil ?_
                        rintro _ ⟨xr, rfl⟩
                        go_wp2_with fail
                        go_roundg (q - (j + 1))
                        case measure => have := HGJ.out; omega
                        case rel => exact ⟨j + 1, rfl, by omega, by go_num, OY.out.trans xr.h (by simp)⟩
                      · have h2b : ((x2 : Int) != own) = true := by simp; omega
                        by_cases h3 : zm = 3
                        · subst h3
                          refine wp_region_later xq.h (by kernel_rfl) (by kernel_rfl) ?_
                          repeat (go_big_quiet_step ((first | (go_at_call 19; exact LV.out _) | (go_at_call_of 12 (Value.int .u64 (own : Int)); exact LO.out _) | (go_at_call_of 12 (Value.int .u64 (x1 : Int)); exact LM.out _))))
                          refine wpQuiet_nil ?_
                          rintro _ ⟨xr, rfl⟩
                          go_wp2_with fail
                          go_roundg (q - (j + 1))
                          case measure => have := HGJ.out; omega
                          case rel => exact ⟨j + 1, rfl, by omega, by go_num, OY.out.trans xr.h (by simp)⟩
                        · exfalso
                          have := BLD.out rfl h2 h3
                          cases this
                  · have hob : (zo == 1) = false := by simpa using ho
                    refine wp_region_later xq.h (by kernel_rfl) (by kernel_rfl) ?_
                    repeat (go_big_quiet_step ((first | (go_at_call_of 12 (Value.int .u64 (own : Int)); exact LO.out _))))
                    refine wpQuiet_nil ?_
                    rintro _ ⟨xr, rfl⟩
                    go_wp2_with fail
                    go_roundg (q - (j + 1))
                    case measure => have := HGJ.out; omega
                    case rel => exact ⟨j + 1, rfl, by omega, by go_num, OY.out.trans xr.h (by simp)⟩
                · have g1b : ((own : Int) == x1) = false := by simp; omega
                  by_cases g2 : own = x2
                  · have g2b : ((own : Int) == x2) = true := by simp [g2]
                    clear g2
                    go_wp2_with fail
                    refine wp_region_later (Only.refl _ _) (by kernel_rfl) (by kernel_rfl) ?_
                    repeat (go_big_quiet_step (fail))
                    refine wpQuiet_nil ?_
                    rintro _ ⟨xp, rfl⟩
                    go_wp2_with fail
                    refine wp_region_later xp.h (by kernel_rfl) (by kernel_rfl) ?_
                    repeat (go_big_quiet_step (fail))
                    refine wpQuiet_nil ?_
                    rintro _ ⟨xq, rfl⟩
                    go_wp2_with fail
                    by_cases ho : zo = 1
                    · subst ho
                      cases vz with
                      | false =>
                        refine wp_region_later xq.h (by kernel_rfl) (by kernel_rfl) ?_
                        repeat (go_big_quiet_step ((first | (go_at_call 19; exact LV.out _) | (go_at_call_of 12 (Value.int .u64 (own : Int)); exact LO.out _))))
                        refine wpQuiet_nil ?_
                        rintro _ ⟨xr, rfl⟩
                        go_wp2_with fail
                        go_roundg (q - (j + 1))
                        case measure => have := HGJ.out; omega
                        case rel => exact ⟨j + 1, rfl, by omega, by go_num, OY.out.trans xr.h (by simp)⟩
                      | true =>
                        by_cases h2 : x2 = own
                        · have h2b : ((x2 : Int) != own) = false := by simp [h2]
                          clear h2
                          refine wp_region_later xq.h (by kernel_rfl) (by kernel_rfl) ?_
                          repeat (go_big_quiet_step ((first | (go_at_call 19; exact LV.out _) | (go_at_call_of 12 (Value.int .u64 (own : Int)); exact LO.out _))))
                          refine wpQuiet_nil ?_
                          rintro _ ⟨xr, rfl⟩
                          go_wp2_with fail
                          go_roundg (q - (j + 1))
                          case measure => have := HGJ.out; omega
                          case rel => exact ⟨j + 1, rfl, by omega, by go_num, OY.out.trans xr.h (by simp)⟩
                        · have h2b : ((x2 : Int) != own) = true := by simp; omega
                          by_cases h3 : zm = 3
                          · subst h3
                            refine wp_region_later xq.h (by kernel_rfl) (by kernel_rfl) ?_
                            repeat (go_big_quiet_step ((first | (go_at_call 19; exact LV.out _) | (go_at_call_of 12 (Value.int .u64 (own : Int)); exact LO.out _) | (go_at_call_of 12 (Value.int .u64 (x1 : Int)); exact LM.out _))))
                            refine wpQuiet_nil ?_
                            rintro _ ⟨xr, rfl⟩
                            go_wp2_with fail
                            go_roundg (q - (j + 1))
                            case measure => have := HGJ.out; omega
                            case rel => exact ⟨j + 1, rfl, by omega, by go_num, OY.out.trans xr.h (by simp)⟩
                          · exfalso
                            have := BLD.out rfl h2 h3
                            cases this
                    · have hob : (zo == 1) = false := by simpa using ho
                      refine wp_region_later xq.h (by kernel_rfl) (by kernel_rfl) ?_
                      repeat (go_big_quiet_step ((first | (go_at_call_of 12 (Value.int .u64 (own : Int)); exact LO.out _))))
                      refine wpQuiet_nil ?_
                      rintro _ ⟨xr, rfl⟩
                      go_wp2_with fail
                      go_roundg (q - (j + 1))
                      case measure => have := HGJ.out; omega
                      case rel => exact ⟨j + 1, rfl, by omega, by go_num, OY.out.trans xr.h (by simp)⟩
                  · have g2b : ((own : Int) == x2) = false := by simp; omega
                    have hbv := SAW.out g1 g2
                    subst hbv
                    have hbb : (bj != bj) = false := by simp
                    go_wp2_with fail
                    refine wp_region_later (Only.refl _ _) (by kernel_rfl) (by kernel_rfl) ?_
                    repeat (go_big_quiet_step (fail))
                    refine wpQuiet_nil ?_
                    rintro _ ⟨xp, rfl⟩
                    go_wp2_with fail
                    refine wp_region_later xp.h (by kernel_rfl) (by kernel_rfl) ?_
                    repeat (go_big_quiet_step ((go_at_call 19; exact LV.out _)))
                    refine wpQuiet_nil ?_
                    rintro _ ⟨xq, rfl⟩
                    go_wp2_with fail
                    by_cases ho : zo = 1
                    · subst ho
                      cases bj with
                      | false =>
                        refine wp_region_later xq.h (by kernel_rfl) (by kernel_rfl) ?_
                        repeat (go_big_quiet_step ((first | (go_at_call 19; exact LV.out _) | (go_at_call_of 12 (Value.int .u64 (own : Int)); exact LO.out _))))
                        refine wpQuiet_nil ?_
                        rintro _ ⟨xr, rfl⟩
                        go_wp2_with fail
                        go_roundg (q - (j + 1))
                        case measure => have := HGJ.out; omega
                        case rel => exact ⟨j + 1, rfl, by omega, by go_num, OY.out.trans xr.h (by simp)⟩
                      | true =>
                        by_cases h2 : x2 = own
                        · have h2b : ((x2 : Int) != own) = false := by simp [h2]
                          clear h2
                          refine wp_region_later xq.h (by kernel_rfl) (by kernel_rfl) ?_
                          repeat (go_big_quiet_step ((first | (go_at_call 19; exact LV.out _) | (go_at_call_of 12 (Value.int .u64 (own : Int)); exact LO.out _))))
                          refine wpQuiet_nil ?_
                          rintro _ ⟨xr, rfl⟩
                          go_wp2_with fail
                          go_roundg (q - (j + 1))
                          case measure => have := HGJ.out; omega
                          case rel => exact ⟨j + 1, rfl, by omega, by go_num, OY.out.trans xr.h (by simp)⟩
                        · have h2b : ((x2 : Int) != own) = true := by simp; omega
                          by_cases h3 : zm = 3
                          · subst h3
                            refine wp_region_later xq.h (by kernel_rfl) (by kernel_rfl) ?_
                            repeat (go_big_quiet_step ((first | (go_at_call 19; exact LV.out _) | (go_at_call_of 12 (Value.int .u64 (own : Int)); exact LO.out _) | (go_at_call_of 12 (Value.int .u64 (x1 : Int)); exact LM.out _))))
                            refine wpQuiet_nil ?_
                            rintro _ ⟨xr, rfl⟩
                            go_wp2_with fail
                            go_roundg (q - (j + 1))
                            case measure => have := HGJ.out; omega
                            case rel => exact ⟨j + 1, rfl, by omega, by go_num, OY.out.trans xr.h (by simp)⟩
                          · exfalso
                            have := BLD.out rfl h2 h3
                            cases this
                    · have hob : (zo == 1) = false := by simpa using ho
                      refine wp_region_later xq.h (by kernel_rfl) (by kernel_rfl) ?_
                      repeat (go_big_quiet_step ((first | (go_at_call_of 12 (Value.int .u64 (own : Int)); exact LO.out _))))
                      refine wpQuiet_nil ?_
                      rintro _ ⟨xr, rfl⟩
                      go_wp2_with fail
                      go_roundg (q - (j + 1))
                      case measure => have := HGJ.out; omega
                      case rel => exact ⟨j + 1, rfl, by omega, by go_num, OY.out.trans xr.h (by simp)⟩
              · obtain rfl : j = q := by omega
                have hji : ¬ (j : Int) < j := by omega
                go_wp2_with fail
                go_roundg (m - (k + 1))
                case measure => have := HGK.out; omega
                case rel => exact ⟨k + 1, S', Q', B', rfl, by omega, by go_num, by rw [D2.out], by rw [HQ.out]; exact QL'.out, SE'.out, by have := S7.out; exact this⟩
        case false =>
          go_wp2_with (go_at_call 20; refine (SS'.out.tab.dead' (by omega) x1 x2 D2.out).mono ?_; rintro e w6 ⟨rfl, hO6⟩; have S6 := Lib.hid (SS'.out.past hO6); clear hO6)
          cases d2
          case false =>
            as_aux_lemma =>
              go_loopg [16] q (fun gj x wy => ∃ j : Nat, gj = q - j ∧ j ≤ q ∧ x = .int .i64 j ∧ Only [] w6 wy)
              case atStart => exact ⟨0, rfl, Nat.zero_le _, rfl, Only.refl _ _⟩
              case round =>
                obtain ⟨j, hgj, hj, rfl, hO⟩ := hrel
                rename World => wy
                have HGJ := Lib.hid hgj
                have OY := Lib.hid hO
                have S7 := Lib.hid (S6.out.past hO)
                clear hgj hO v0 v1 v2 v3
                by_cases hjl : j < q
                · obtain ⟨⟨⟨own, pn, op⟩, pv⟩, hp⟩ : ∃ p, Q'[j]'(by rw [HQ.out]; exact hjl) = p := ⟨_, rfl⟩
                  have hmem : (⟨own, pn, op⟩, pv) ∈ Q' := by rw [← hp]; exact List.getElem_mem _
                  obtain ⟨g8, rfl⟩ : ∃ g8, a8 = some ⟨g8, 0, none⟩ := by
                    rcases S7.out.snaps.own.2 with ⟨_, h0⟩ | ⟨g, cap0, cur, h0, _⟩
                    · rw [HQ.out] at h0; omega
                    · simp only [Value.slice.injEq] at h0; exact ⟨g, h0.1⟩
                  obtain ⟨g9, rfl⟩ : ∃ g9, a9 = some ⟨g9, 0, none⟩ := by
                    rcases S7.out.seen.2 with ⟨_, h0⟩ | ⟨g, cap0, cur, h0, _⟩
                    · rw [HBQ.out] at h0; omega
                    · simp only [Value.slice.injEq] at h0; exact ⟨g, h0.1⟩
                  have c0 := S7.out.snaps.cell (k := j) (j := 0) (by rw [HQ.out]; exact hjl) (by omega)
                  have c1 := S7.out.snaps.cell (k := j) (j := 1) (by rw [HQ.out]; exact hjl) (by omega)
                  have c2 := S7.out.snaps.cell (k := j) (j := 2) (by rw [HQ.out]; exact hjl) (by omega)
                  rw [hp] at c0 c1 c2
                  have hrow := S7.out.snaps.rows _ hmem
                  obtain ⟨ap, cp, hpv⟩ := owns_form hrow
                  have hpv : pv = .slice ap op.length cp := hpv
                  subst hpv
                  have hna : NatsAt wy (.slice ap op.length cp) op := nats_owned hrow
                  have hsn := SE'.out.ok _ hmem
                  have hopl := SE'.out.op _ hmem
                  have hsaw := SE'.out.saw j (by rw [HQ.out]; exact hjl)
                  rw [hp] at hsaw
                  simp only [snapCells, List.getElem?_cons_succ, List.getElem?_cons_zero, Nat.add_zero] at c0 c1 c2 hsn hopl hsaw
                  have cb : wy.cell? ⟨g9, j, none⟩ = some (.bool (B'.getD j false)) := by
                    have hse := S7.out.seen
                    rw [HBQ.out] at hse
                    rw [hse.cellAt j (by omega), List.getElem?_map, List.getElem?_eq_getElem (by rw [HBQ.out]; exact hjl), List.getD_eq_getElem?_getD, List.getElem?_eq_getElem (by rw [HBQ.out]; exact hjl)]; rfl
                  generalize B'.getD j false = bj at *
                  have hw1 := S7.out.ver.cell 1
                  have hw0 := S7.out.ver.cell 0
                  have hw2 := S7.out.ver.cell 2
                  have hw3 := S7.out.ver.cell 3
                  simp only [List.getElem?_cons_succ, List.getElem?_cons_zero] at hw0 hw1 hw2 hw3
                  have HC0 := Later.cell c0
                  have HC1 := Later.cell c1
                  have HC2 := Later.cell c2
                  have HCB := Later.cell cb
                  have HV0 := Later.cell hw0
                  have HV1 := Later.cell hw1
                  have HV2 := Later.cell hw2
                  have HV3 := Later.cell hw3
                  obtain ⟨vz, hvz⟩ : ∃ vz, S'.vis ⟨own, pn, op⟩ x1 x2 = vz := ⟨_, rfl⟩
                  obtain ⟨zo, hzo⟩ : ∃ zo, S'.state own = zo := ⟨_, rfl⟩
                  obtain ⟨zm, hzm⟩ : ∃ zm, S'.state x1 = zm := ⟨_, rfl⟩
                  have SAW : Hid (own ≠ x1 → own ≠ x2 → bj = vz) := fun h1 h2 => by rw [← hvz]; exact hsaw h1 h2
                  have NA := Lib.hid hna
                  have LV : Hid (∀ x : Later wy, Calls Try.prog 19 #[.pointer (some ⟨t, 0, none⟩), .agg #[.int .u64 own, .int .u64 pn, .slice ap op.length cp], .agg #[.slice none 0 0, .int .u64 x1, .int .u64 x2, .int .u64 0]] x.v fun e w' => e = .returned (.bool vz) ∧ ∃ y : Later wy, w' = y.v) := fun x => Calls.later (fun w1 hO1 => (S7.out.tab.past hO1).visible' (NA.out.past hO1) hopl x1 x2 hvz) x
                  have LO : Hid (∀ x : Later wy, Calls Try.prog 12 #[.pointer (some ⟨t, 0, none⟩), .int .u64 own] x.v fun e w' => e = .returned (.int .i64 zo) ∧ ∃ y : Later wy, w' = y.v) := fun x => Calls.later (fun w1 hO1 => (S7.out.tab.past hO1).state' own hzo) x
                  have LM : Hid (∀ x : Later wy, Calls Try.prog 12 #[.pointer (some ⟨t, 0, none⟩), .int .u64 x1] x.v fun e w' => e = .returned (.int .i64 zm) ∧ ∃ y : Later wy, w' = y.v) := fun x => Calls.later (fun w1 hO1 => (S7.out.tab.past hO1).state' x1 hzm) x
                  generalize op.length = np at *
                  clear hp hmem c0 c1 c2 hrow hna hsn hopl hsaw cb hw0 hw1 hw2 hw3 hvz hzo hzm
                  have hji : (j : Int) < q := by omega
                  have hq61 : q ≤ 61 := by have := QL'.out; omega
                  have hj0 : (0 : Int) ≤ j := by omega
                  by_cases g1 : own = x1
                  · have g1b : ((own : Int) == x1) = true := by simp [g1]
                    clear g1
                    go_wp2_with fail
                    refine wp_region_later (Only.refl _ _) (by kernel_rfl) (by kernel_rfl) ?_
                    repeat (go_big_quiet_step (fail))
                    refine wpQuiet_nil ?_
                    rintro _ ⟨xp, rfl⟩
                    go_wp2_with fail
                    refine wp_region_later xp.h (by kernel_rfl) (by kernel_rfl) ?_
                    repeat (go_big_quiet_step (fail))
                    refine wpQuiet_nil ?_
                    rintro _ ⟨xq, rfl⟩
                    go_wp2_with fail
                    refine wp_region_later xq.h (by kernel_rfl) (by kernel_rfl) ?_
                    repeat (go_big_quiet_step (fail))
                    refine wpQuiet_nil ?_
                    rintro _ ⟨xr, rfl⟩
                    go_wp2_with fail
                    go_roundg (q - (j + 1))
                    case measure => have := HGJ.out; omega
                    case rel => exact ⟨j + 1, rfl, by omega, by go_num, OY.out.trans xr.h (by simp)⟩
                  · have g1b : ((own : Int) == x1) = false := by simp; omega
                    by_cases g2 : own = x2
                    · have g2b : ((own : Int) == x2) = true := by simp [g2]
                      clear g2
                      go_wp2_with fail
                      refine wp_region_later (Only.refl _ _) (by kernel_rfl) (by kernel_rfl) ?_
                      repeat (go_big_quiet_step (fail))
                      refine wpQuiet_nil ?_
                      rintro _ ⟨xp, rfl⟩
                      go_wp2_with fail
                      refine wp_region_later xp.h (by kernel_rfl) (by kernel_rfl) ?_
                      repeat (go_big_quiet_step (fail))
                      refine wpQuiet_nil ?_
                      rintro _ ⟨xq, rfl⟩
                      go_wp2_with fail
                      refine wp_region_later xq.h (by kernel_rfl) (by kernel_rfl) ?_
                      repeat (go_big_quiet_step (fail))
                      refine wpQuiet_nil ?_
                      rintro _ ⟨xr, rfl⟩
                      go_wp2_with fail
                      go_roundg (q - (j + 1))
                      case measure => have := HGJ.out; omega
                      case rel => exact ⟨j + 1, rfl, by omega, by go_num, OY.out.trans xr.h (by simp)⟩
                    · have g2b : ((own : Int) == x2) = false := by simp; omega
                      have hbv := SAW.out g1 g2
                      subst hbv
                      have hbb : (bj != bj) = false := by simp
                      go_wp2_with fail
                      refine wp_region_later (Only.refl _ _) (by kernel_rfl) (by kernel_rfl) ?_
                      repeat (go_big_quiet_step (fail))
                      refine wpQuiet_nil ?_
                      rintro _ ⟨xp, rfl⟩
                      go_wp2_with fail
                      refine wp_region_later xp.h (by kernel_rfl) (by kernel_rfl) ?_
                      repeat (go_big_quiet_step ((go_at_call 19; exact LV.out _)))
                      refine wpQuiet_nil ?_
                      rintro _ ⟨xq, rfl⟩
                      go_wp2_with fail
                      refine wp_region_later xq.h (by kernel_rfl) (by kernel_rfl) ?_
                      repeat (go_big_quiet_step (fail))
                      refine wpQuiet_nil ?_
                      rintro _ ⟨xr, rfl⟩
                      go_wp2_with fail
                      go_roundg (q - (j + 1))
                      case measure => have := HGJ.out; omega
                      case rel => exact ⟨j + 1, rfl, by omega, by go_num, OY.out.trans xr.h (by simp)⟩
                · obtain rfl : j = q := by omega
                  have hji : ¬ (j : Int) < j := by omega
                  go_wp2_with fail
                  go_roundg (m - (k + 1))
                  case measure => have := HGK.out; omega
                  case rel => exact ⟨k + 1, S', Q', B', rfl, by omega, by go_num, by rw [D2.out], by rw [HQ.out]; exact QL'.out, SE'.out, by have := S7.out; exact this⟩
          case true =>
            as_aux_lemma =>
              go_loopg [16] q (fun gj x wy => ∃ j : Nat, gj = q - j ∧ j ≤ q ∧ x = .int .i64 j ∧ Only [] w6 wy)
              case atStart => exact ⟨0, rfl, Nat.zero_le _, rfl, Only.refl _ _⟩
              case round =>
                obtain ⟨j, hgj, hj, rfl, hO⟩ := hrel
                rename World => wy
                have HGJ := Lib.hid hgj
                have OY := Lib.hid hO
                have S7 := Lib.hid (S6.out.past hO)
                clear hgj hO v0 v1 v2 v3
                by_cases hjl : j < q
                · obtain ⟨⟨⟨own, pn, op⟩, pv⟩, hp⟩ : ∃ p, Q'[j]'(by rw [HQ.out]; exact hjl) = p := ⟨_, rfl⟩
                  have hmem : (⟨own, pn, op⟩, pv) ∈ Q' := by rw [← hp]; exact List.getElem_mem _
                  obtain ⟨g8, rfl⟩ : ∃ g8, a8 = some ⟨g8, 0, none⟩ := by
                    rcases S7.out.snaps.own.2 with ⟨_, h0⟩ | ⟨g, cap0, cur, h0, _⟩
                    · rw [HQ.out] at h0; omega
                    · simp only [Value.slice.injEq] at h0; exact ⟨g, h0.1⟩
                  obtain ⟨g9, rfl⟩ : ∃ g9, a9 = some ⟨g9, 0, none⟩ := by
                    rcases S7.out.seen.2 with ⟨_, h0⟩ | ⟨g, cap0, cur, h0, _⟩
                    · rw [HBQ.out] at h0; omega
                    · simp only [Value.slice.injEq] at h0; exact ⟨g, h0.1⟩
                  have c0 := S7.out.snaps.cell (k := j) (j := 0) (by rw [HQ.out]; exact hjl) (by omega)
                  have c1 := S7.out.snaps.cell (k := j) (j := 1) (by rw [HQ.out]; exact hjl) (by omega)
                  have c2 := S7.out.snaps.cell (k := j) (j := 2) (by rw [HQ.out]; exact hjl) (by omega)
                  rw [hp] at c0 c1 c2
                  have hrow := S7.out.snaps.rows _ hmem
                  obtain ⟨ap, cp, hpv⟩ := owns_form hrow
                  have hpv : pv = .slice ap op.length cp := hpv
                  subst hpv
                  have hna : NatsAt wy (.slice ap op.length cp) op := nats_owned hrow
                  have hsn := SE'.out.ok _ hmem
                  have hopl := SE'.out.op _ hmem
                  have hsaw := SE'.out.saw j (by rw [HQ.out]; exact hjl)
                  rw [hp] at hsaw
                  simp only [snapCells, List.getElem?_cons_succ, List.getElem?_cons_zero, Nat.add_zero] at c0 c1 c2 hsn hopl hsaw
                  have cb : wy.cell? ⟨g9, j, none⟩ = some (.bool (B'.getD j false)) := by
                    have hse := S7.out.seen
                    rw [HBQ.out] at hse
                    rw [hse.cellAt j (by omega), List.getElem?_map, List.getElem?_eq_getElem (by rw [HBQ.out]; exact hjl), List.getD_eq_getElem?_getD, List.getElem?_eq_getElem (by rw [HBQ.out]; exact hjl)]; rfl
                  generalize B'.getD j false = bj at *
                  have hw1 := S7.out.ver.cell 1
                  have hw0 := S7.out.ver.cell 0
                  have hw2 := S7.out.ver.cell 2
                  have hw3 := S7.out.ver.cell 3
                  simp only [List.getElem?_cons_succ, List.getElem?_cons_zero] at hw0 hw1 hw2 hw3
                  have HC0 := Later.cell c0
                  have HC1 := Later.cell c1
                  have HC2 := Later.cell c2
                  have HCB := Later.cell cb
                  have HV0 := Later.cell hw0
                  have HV1 := Later.cell hw1
                  have HV2 := Later.cell hw2
                  have HV3 := Later.cell hw3
                  obtain ⟨vz, hvz⟩ : ∃ vz, S'.vis ⟨own, pn, op⟩ x1 x2 = vz := ⟨_, rfl⟩
                  obtain ⟨zo, hzo⟩ : ∃ zo, S'.state own = zo := ⟨_, rfl⟩
                  obtain ⟨zm, hzm⟩ : ∃ zm, S'.state x1 = zm := ⟨_, rfl⟩
                  have BLD : Hid (zo = 1 → x2 ≠ own → zm ≠ 3 → vz = false) := fun h1 h2 h3 => by
                    rw [← hvz]
                    exact hsn.blind D2.out (by rw [← h1]; exact hzo) h2 (by rw [hzm]; exact h3)
                  have SAW : Hid (own ≠ x1 → own ≠ x2 → bj = vz) := fun h1 h2 => by rw [← hvz]; exact hsaw h1 h2
                  have NA := Lib.hid hna
                  have LV : Hid (∀ x : Later wy, Calls Try.prog 19 #[.pointer (some ⟨t, 0, none⟩), .agg #[.int .u64 own, .int .u64 pn, .slice ap op.length cp], .agg #[.slice none 0 0, .int .u64 x1, .int .u64 x2, .int .u64 0]] x.v fun e w' => e = .returned (.bool vz) ∧ ∃ y : Later wy, w' = y.v) := fun x => Calls.later (fun w1 hO1 => (S7.out.tab.past hO1).visible' (NA.out.past hO1) hopl x1 x2 hvz) x
                  have LO : Hid (∀ x : Later wy, Calls Try.prog 12 #[.pointer (some ⟨t, 0, none⟩), .int .u64 own] x.v fun e w' => e = .returned (.int .i64 zo) ∧ ∃ y : Later wy, w' = y.v) := fun x => Calls.later (fun w1 hO1 => (S7.out.tab.past hO1).state' own hzo) x
                  have LM : Hid (∀ x : Later wy, Calls Try.prog 12 #[.pointer (some ⟨t, 0, none⟩), .int .u64 x1] x.v fun e w' => e = .returned (.int .i64 zm) ∧ ∃ y : Later wy, w' = y.v) := fun x => Calls.later (fun w1 hO1 => (S7.out.tab.past hO1).state' x1 hzm) x
                  generalize op.length = np at *
                  clear hp hmem c0 c1 c2 hrow hna hsn hopl hsaw cb hw0 hw1 hw2 hw3 hvz hzo hzm
                  have hji : (j : Int) < q := by omega
                  have hq61 : q ≤ 61 := by have := QL'.out; omega
                  have hj0 : (0 : Int) ≤ j := by omega
                  by_cases g1 : own = x1
                  · have g1b : ((own : Int) == x1) = true := by simp [g1]
                    clear g1
                    go_wp2_with fail
                    refine wp_region_later (Only.refl _ _) (by kernel_rfl) (by kernel_rfl) ?_
                    repeat (go_big_quiet_step (fail))
                    refine wpQuiet_nil ?_
                    rintro _ ⟨xp, rfl⟩
                    go_wp2_with fail
                    refine wp_region_later xp.h (by kernel_rfl) (by kernel_rfl) ?_
                    repeat (go_big_quiet_step (fail))
                    refine wpQuiet_nil ?_
                    rintro _ ⟨xq, rfl⟩
                    go_wp2_with fail
                    by_cases ho : zo = 1
                    · subst ho
                      cases vz with
                      | false =>
                        refine wp_region_later xq.h (by kernel_rfl) (by kernel_rfl) ?_
                        repeat (go_big_quiet_step ((first | (go_at_call 19; exact LV.out _) | (go_at_call_of 12 (Value.int .u64 (own : Int)); exact LO.out _))))
                        refine wpQuiet_nil ?_
                        rintro _ ⟨xr, rfl⟩
                        go_wp2_with fail
                        go_roundg (q - (j + 1))
                        case measure => have := HGJ.out; omega
                        case rel => exact ⟨j + 1, rfl, by omega, by go_num, OY.out.trans xr.h (by simp)⟩
                      | true =>
                        by_cases h2 : x2 = own
                        · have h2b : ((x2 : Int) != own) = false := by simp [h2]
                          clear h2
                          refine wp_region_later xq.h (by kernel_rfl) (by kernel_rfl) ?_
                          repeat (go_big_quiet_step ((first | (go_at_call 19; exact LV.out _) | (go_at_call_of 12 (Value.int .u64 (own : Int)); exact LO.out _))))
                          refine wpQuiet_nil ?_
                          rintro _ ⟨xr, rfl⟩
                          go_wp2_with fail
                          go_roundg (q - (j + 1))
                          case measure => have := HGJ.out; omega
                          case rel => exact ⟨j + 1, rfl, by omega, by go_num, OY.out.trans xr.h (by simp)⟩
                        · have h2b : ((x2 : Int) != own) = true := by simp; omega
                          by_cases h3 : zm = 3
                          · subst h3
                            refine wp_region_later xq.h (by kernel_rfl) (by kernel_rfl) ?_
                            repeat (go_big_quiet_step ((first | (go_at_call 19; exact LV.out _) | (go_at_call_of 12 (Value.int .u64 (own : Int)); exact LO.out _) | (go_at_call_of 12 (Value.int .u64 (x1 : Int)); exact LM.out _))))
                            refine wpQuiet_nil ?_
                            rintro _ ⟨xr, rfl⟩
                            go_wp2_with fail
                            go_roundg (q - (j + 1))
                            case measure => have := HGJ.out; omega
                            case rel => exact ⟨j + 1, rfl, by omega, by go_num, OY.out.trans xr.h (by simp)⟩
                          · exfalso
                            have := BLD.out rfl h2 h3
                            cases this
                    · have hob : (zo == 1) = false := by simpa using ho
                      refine wp_region_later xq.h (by kernel_rfl) (by kernel_rfl) ?_
                      repeat (go_big_quiet_step ((first | (go_at_call_of 12 (Value.int .u64 (own : Int)); exact LO.out _))))
                      refine wpQuiet_nil ?_
                      rintro _ ⟨xr, rfl⟩
                      go_wp2_with fail
                      go_roundg (q - (j + 1))
                      case measure => have := HGJ.out; omega
                      case rel => exact ⟨j + 1, rfl, by omega, by go_num, OY.out.trans xr.h (by simp)⟩
                  · have g1b : ((own : Int) == x1) = false := by simp; omega
                    by_cases g2 : own = x2
                    · have g2b : ((own : Int) == x2) = true := by simp [g2]
                      clear g2
                      go_wp2_with fail
                      refine wp_region_later (Only.refl _ _) (by kernel_rfl) (by kernel_rfl) ?_
                      repeat (go_big_quiet_step (fail))
                      refine wpQuiet_nil ?_
                      rintro _ ⟨xp, rfl⟩
                      go_wp2_with fail
                      refine wp_region_later xp.h (by kernel_rfl) (by kernel_rfl) ?_
                      repeat (go_big_quiet_step (fail))
                      refine wpQuiet_nil ?_
                      rintro _ ⟨xq, rfl⟩
                      go_wp2_with fail
                      by_cases ho : zo = 1
                      · subst ho
                        cases vz with
                        | false =>
                          refine wp_region_later xq.h (by kernel_rfl) (by kernel_rfl) ?_
                          repeat (go_big_quiet_step ((first | (go_at_call 19; exact LV.out _) | (go_at_call_of 12 (Value.int .u64 (own : Int)); exact LO.out _))))
                          refine wpQuiet_nil ?_
                          rintro _ ⟨xr, rfl⟩
                          go_wp2_with fail
                          go_roundg (q - (j + 1))
                          case measure => have := HGJ.out; omega
                          case rel => exact ⟨j + 1, rfl, by omega, by go_num, OY.out.trans xr.h (by simp)⟩
                        | true =>
                          by_cases h2 : x2 = own
                          · have h2b : ((x2 : Int) != own) = false := by simp [h2]
                            clear h2
                            refine wp_region_later xq.h (by kernel_rfl) (by kernel_rfl) ?_
                            repeat (go_big_quiet_step ((first | (go_at_call 19; exact LV.out _) | (go_at_call_of 12 (Value.int .u64 (own : Int)); exact LO.out _))))
                            refine wpQuiet_nil ?_
                            rintro _ ⟨xr, rfl⟩
                            go_wp2_with fail
                            go_roundg (q - (j + 1))
                            case measure => have := HGJ.out; omega
                            case rel => exact ⟨j + 1, rfl, by omega, by go_num, OY.out.trans xr.h (by simp)⟩
                          · have h2b : ((x2 : Int) != own) = true := by simp; omega
                            by_cases h3 : zm = 3
                            · subst h3
                              refine wp_region_later xq.h (by kernel_rfl) (by kernel_rfl) ?_
                              repeat (go_big_quiet_step ((first | (go_at_call 19; exact LV.out _) | (go_at_call_of 12 (Value.int .u64 (own : Int)); exact LO.out _) | (go_at_call_of 12 (Value.int .u64 (x1 : Int)); exact LM.out _))))
                              refine wpQuiet_nil ?_
                              rintro _ ⟨xr, rfl⟩
                              go_wp2_with fail
                              go_roundg (q - (j + 1))
                              case measure => have := HGJ.out; omega
                              case rel => exact ⟨j + 1, rfl, by omega, by go_num, OY.out.trans xr.h (by simp)⟩
                            · exfalso
                              have := BLD.out rfl h2 h3
                              cases this
                      · have hob : (zo == 1) = false := by simpa using ho
                        refine wp_region_later xq.h (by kernel_rfl) (by kernel_rfl) ?_
                        repeat (go_big_quiet_step ((first | (go_at_call_of 12 (Value.int .u64 (own : Int)); exact LO.out _))))
                        refine wpQuiet_nil ?_
                        rintro _ ⟨xr, rfl⟩
                        go_wp2_with fail
                        go_roundg (q - (j + 1))
                        case measure => have := HGJ.out; omega
                        case rel => exact ⟨j + 1, rfl, by omega, by go_num, OY.out.trans xr.h (by simp)⟩
                    · have g2b : ((own : Int) == x2) = false := by simp; omega
                      have hbv := SAW.out g1 g2
                      subst hbv
                      have hbb : (bj != bj) = false := by simp
                      go_wp2_with fail
                      refine wp_region_later (Only.refl _ _) (by kernel_rfl) (by kernel_rfl) ?_
                      repeat (go_big_quiet_step (fail))
                      refine wpQuiet_nil ?_
                      rintro _ ⟨xp, rfl⟩
                      go_wp2_with fail
                      refine wp_region_later xp.h (by kernel_rfl) (by kernel_rfl) ?_
                      repeat (go_big_quiet_step ((go_at_call 19; exact LV.out _)))
                      refine wpQuiet_nil ?_
                      rintro _ ⟨xq, rfl⟩
                      go_wp2_with fail
                      by_cases ho : zo = 1
                      · subst ho
                        cases bj with
                        | false =>
                          refine wp_region_later xq.h (by kernel_rfl) (by kernel_rfl) ?_
                          repeat (go_big_quiet_step ((first | (go_at_call 19; exact LV.out _) | (go_at_call_of 12 (Value.int .u64 (own : Int)); exact LO.out _))))
                          refine wpQuiet_nil ?_
                          rintro _ ⟨xr, rfl⟩
                          go_wp2_with fail
                          go_roundg (q - (j + 1))
                          case measure => have := HGJ.out; omega
                          case rel => exact ⟨j + 1, rfl, by omega, by go_num, OY.out.trans xr.h (by simp)⟩
                        | true =>
                          by_cases h2 : x2 = own
                          · have h2b : ((x2 : Int) != own) = false := by simp [h2]
                            clear h2
                            refine wp_region_later xq.h (by kernel_rfl) (by kernel_rfl) ?_
                            repeat (go_big_quiet_step ((first | (go_at_call 19; exact LV.out _) | (go_at_call_of 12 (Value.int .u64 (own : Int)); exact LO.out _))))
                            refine wpQuiet_nil ?_
                            rintro _ ⟨xr, rfl⟩
                            go_wp2_with fail
                            go_roundg (q - (j + 1))
                            case measure => have := HGJ.out; omega
                            case rel => exact ⟨j + 1, rfl, by omega, by go_num, OY.out.trans xr.h (by simp)⟩
                          · have h2b : ((x2 : Int) != own) = true := by simp; omega
                            by_cases h3 : zm = 3
                            · subst h3
                              refine wp_region_later xq.h (by kernel_rfl) (by kernel_rfl) ?_
                              repeat (go_big_quiet_step ((first | (go_at_call 19; exact LV.out _) | (go_at_call_of 12 (Value.int .u64 (own : Int)); exact LO.out _) | (go_at_call_of 12 (Value.int .u64 (x1 : Int)); exact LM.out _))))
                              refine wpQuiet_nil ?_
                              rintro _ ⟨xr, rfl⟩
                              go_wp2_with fail
                              go_roundg (q - (j + 1))
                              case measure => have := HGJ.out; omega
                              case rel => exact ⟨j + 1, rfl, by omega, by go_num, OY.out.trans xr.h (by simp)⟩
                            · exfalso
                              have := BLD.out rfl h2 h3
                              cases this
                      · have hob : (zo == 1) = false := by simpa using ho
                        refine wp_region_later xq.h (by kernel_rfl) (by kernel_rfl) ?_
                        repeat (go_big_quiet_step ((first | (go_at_call_of 12 (Value.int .u64 (own : Int)); exact LO.out _))))
                        refine wpQuiet_nil ?_
                        rintro _ ⟨xr, rfl⟩
                        go_wp2_with fail
                        go_roundg (q - (j + 1))
                        case measure => have := HGJ.out; omega
                        case rel => exact ⟨j + 1, rfl, by omega, by go_num, OY.out.trans xr.h (by simp)⟩
                · obtain rfl : j = q := by omega
                  have hji : ¬ (j : Int) < j := by omega
                  go_wp2_with fail
                  go_roundg (m - (k + 1))
                  case measure => have := HGK.out; omega
                  case rel => exact ⟨k + 1, S', Q', B', rfl, by omega, by go_num, by rw [D2.out], by rw [HQ.out]; exact QL'.out, SE'.out, by have := S7.out; exact this⟩
    · obtain rfl : k = m := by omega
      have hki : ¬ (k : Int) < k := by omega
      obtain ⟨nx, hnx⟩ : ∃ nx, S.next = nx := ⟨_, rfl⟩
      obtain ⟨n0, hn0⟩ : ∃ n0, S.opens.length = n0 := ⟨_, rfl⟩
      have HNX := Lib.hid hnx
      have HN0 := Lib.hid hn0
      clear hnx hn0
      cases hdd : S.dead x1 x2 with
      | false =>
        clear hdd
        go_wp2_with (go_at_call 10; refine (SS.out.tab.begin' (by omega) (m := nx) (n := n0) HNX.out HN0.out rfl).mono ?_; rintro e w4 ⟨a4, c4, rfl, hr4, hT4, hO4⟩; have S4 := Lib.hid ((SS.out.call hT4 hO4).past ((Only.refl [] w4).alloc (.cells #[.int .u64 nx, .int .u64 nx, .slice a4 n0 c4] 29))); clear hr4 hT4 hO4)
        go_ret
        exact ⟨rfl, S4.out.tab.own.below (Nat.le_refl _) (by simp)⟩
      | true =>
        have HBB : Hid (S.begin.vis ⟨nx, nx, S.nums⟩ x1 x2 = false) := by
          have := begin_blind SS.out.tab.fine.less hdd
          show _ = _
          rw [← HNX.out]; exact this
        have HNL : Hid (S.nums.length ≤ 1048576) := by
          show _ ≤ _
          have h1 := SS.out.tab.fine.len
          rw [TS.nums_len]; omega
        clear hdd
        go_wp2_with (first
          | (go_at_call 10; refine (SS.out.tab.begin' (by omega) (m := nx) (n := n0) HNX.out HN0.out rfl).mono ?_; rintro e w4 ⟨a4, c4, rfl, hr4, hT4, hO4⟩; have R4 := Lib.hid (owns_past hr4.1 ((Only.refl [] w4).alloc (.cells #[.int .u64 nx, .int .u64 nx, .slice a4 n0 c4] 29))); have S4 := Lib.hid ((SS.out.call hT4 hO4).past ((Only.refl [] w4).alloc (.cells #[.int .u64 nx, .int .u64 nx, .slice a4 n0 c4] 29))); have v0 := S4.out.ver.cell 0; have v1 := S4.out.ver.cell 1; have v2 := S4.out.ver.cell 2; have v3 := S4.out.ver.cell 3; simp only [List.getElem?_cons_succ, List.getElem?_cons_zero] at v0 v1 v2 v3; clear hr4 hT4 hO4)
          | (go_at_call 19; refine (S4.out.tab.visible' (own := nx) (next := nx) (op := S.nums) (nats_owned R4.out) HNL.out x1 x2 HBB.out).mono ?_; rintro e w6 ⟨rfl, hO6⟩; have S6 := Lib.hid (S4.out.past hO6); clear hO6))
        go_ret
        exact ⟨rfl, S6.out.tab.own.below (Nat.le_refl _) (by simp)⟩
end Go.Proofs.Ytilkbcoofbkemaa.T
