/-
  maps.Keys and slices.Collect over a map whose keys are ints of one kind: each key once, in some order.
-/
import Derived.Test.YtilkbcoofbkemaaProg
import Derived.Test.YtilkbcoofbkemaaMaps
import Derived.RangeFuncBox
import Derived.RangeFuncLeaves
import Derived.Shelf.Abstract
import Derived.WalkKit
import Derived.OwnWalkIn
import Derived.TacticsInMore
import Derived.LoopNIn
import Derived.LoopIn
import Derived.Maps.AppendAt
import Derived.Sort.MapsRangeIn
import Derived.Sort.LoopGhostIn
namespace Go.Proofs.Ytilkbcoofbkemaa.I
set_option linter.unusedSimpArgs false
open Go Go.RowKit Go.Shelf
set_option linter.unusedVariables false
attribute [local go_sem] Oper.semAt_some

abbrev kq : IntKind := .u64
section
variable {F : Fence} {nF : Nat} {P : Program} {w : World} {ops : Array Oper} {rest : List Oper} {o : Oper} {a : Act} {Q : Exit → Act → World → Prop}
theorem wpListIn_range (hg : o.guard = none) (x : Operand) (t : TypeId) (ho : o.op = Op.range t x) {tk e : TypeId} {q : IntKind} (ht : P.underlying t = some (.map tk e)) (b : Nat) (m : Pairs) (hx : a.eval x = .map (some b)) (hm : MapAt w b q m)
    (h : ∀ w', IterAt w' w.heap.size b q m m → Only [] w w' → w.grownBy w' none → wpListIn F nF P ops Q rest (a.put o.dst (.pointer (some ⟨w.heap.size, 0, none⟩))) w') : wpListIn F nF P ops Q (o :: rest) a w := by
  refine wpListIn_plain hg fun K' hK' => ?_
  obtain ⟨w', hrun, h1, h2, h3⟩ := hm.range ht
  unfold Oper.wpIn
  refine ⟨by simp [Oper.about, ho], ?_⟩
  rw [Oper.semAt_plain F _ _ (by rw [ho]; intro c hc'; cases hc')]
  simp [execOp, ho, hx, hrun, Result.andThen]
  exact hK' _ _ (h w' h1 h2 ⟨h2.os, h2.tape, h2.output, h2.size, fun i hi _ => h2.block i hi (by simp)⟩)
theorem wpListIn_next (hg : o.guard = none) (x : Operand) (ho : o.op = Op.next x false) {q : IntKind} (r b : Nat) (m left : Pairs) (hx : a.eval x = .pointer (some ⟨r, 0, none⟩)) (hm : IterAt w r b q m left)
    (h0 : left = [] → wpListIn F nF P ops Q rest (a.put o.dst (.tuple #[.bool false])) w)
    (h : ∀ (x : Int) (u : Value) w', (x, u) ∈ left → IterAt w' r b q m (mdel left x) → w.grownBy w' (some r) → (Instr.entry (.pointer (some ⟨r, 0, none⟩))).run P w' = .ok (.tuple #[.int q x, u]) w' →
      wpListIn F nF P ops Q rest (a.put o.dst (.tuple #[.bool true, .int q x, u])) w') : wpListIn F nF P ops Q (o :: rest) a w := by
  refine wpListIn_plain hg fun K' hK' => ?_
  unfold Oper.wpIn
  refine ⟨by simp [Oper.about, ho], ?_⟩
  rw [Oper.semAt_plain F _ _ (by rw [ho]; intro c hc'; cases hc')]
  rcases hm.next (P := P) o.type with ⟨h1, hrun⟩ | ⟨p, hp, w', hrun, h1, h2, h3, h4⟩
  · simp [execOp, ho, hx, hrun, Result.andThen]
    exact hK' _ _ (h0 h1)
  · simp [execOp, ho, hx, hrun, Result.andThen]
    exact hK' _ _ (h p.1 p.2 w' hp h1 ⟨h2.os, h2.tape, h2.output, h2.size, fun i hi hn => h2.block i hi (by simp only [List.mem_cons, List.not_mem_nil, or_false]; exact fun e => hn (by rw [e]))⟩ h4)
end
theorem IterAt.walks {w w' : World} {r b : Nat} {q : IntKind} {m left : Pairs} (h : IterAt w r b q m left) (hk : KeepsWalks w w') : IterAt w' r b q m left := by
  obtain ⟨es, c, s, c0, h1, h2, h3, h4, h5⟩ := h
  exact ⟨es, c, s, c0, hk.same b _ h1 rfl, h2, h3, hk.same r _ h4 rfl, h5⟩
theorem IterAt.walk {w : World} {r b : Nat} {q : IntKind} {m left : Pairs} (h : IterAt w r b q m left) : ∃ o : Obj, w.heap[r]? = some o ∧ o.isWalk = true := by
  obtain ⟨es, c, s, c0, h1, h2, h3, h4, h5⟩ := h
  exact ⟨_, h4, rfl⟩
theorem perm_take {left : Pairs} {p : Int × Value} (hp : p ∈ left) (hn : (left.map (·.1)).Nodup) : (left.map (·.1)).Perm (p.1 :: (mdel left p.1).map (·.1)) := by
  rw [← filter_ne]
  induction left with
  | nil => cases hp
  | cons x l ih =>
    simp only [List.map_cons, List.nodup_cons] at hn
    by_cases e : x.1 = p.1
    · have : (l.filter fun y => y.1 ≠ p.1) = l := List.filter_eq_self.2 (fun y hy => by
        have : y.1 ≠ x.1 := fun h => hn.1 (by rw [← h]; exact List.mem_map_of_mem hy)
        simp [← e, this])
      rw [List.filter_cons_of_neg (by simpa using e), this, List.map_cons, e]
    · have hp' : p ∈ l := by
        rcases List.mem_cons.1 hp with h | h
        · exact absurd (congrArg Prod.fst h.symm) e
        · exact h
      rw [List.filter_cons_of_pos (by simpa using e), List.map_cons, List.map_cons]
      exact ((ih hp' hn.2).cons x.1).trans (List.Perm.swap _ _ _)

set_option maxRecDepth 100000 in
set_option maxHeartbeats 1000000 in
theorem keys1_in (n : Nat) (hn : 1 ≤ n) (l Bm b : Nat) (m : Pairs) (J Jx : List Int → World → Prop)
    (W : World) (hJ : AbidesFrom W.heap.size J)
    (hY : ∀ pre x W1, J pre W1 → pre.length < m.length → YieldAt Fence.wide (n - 1) Try.prog l #[.int kq x] W1 fun e W' => (e = .returned (.bool true) ∧ J (pre ++ [x]) W' ∧ KeepsWalks W1 W') ∨ (e = .returned (.bool false) ∧ Jx (pre ++ [x]) W'))
    (hm : W.cell? ⟨Bm, 0, none⟩ = some (.map (some b))) (hown : MapAt W b kq m) (h0 : J [] W) :
    CallsIn Fence.wide n Try.prog 43 #[.func (.yield l) #[] #[], .pointer (some ⟨Bm, 0, none⟩)] W fun e W' => (∃ v, e = .returned v) ∧ ((∃ ss : List Int, ss.Perm (m.map (·.1)) ∧ J ss W') ∨ (∃ pre : List Int, True ∧ Jx pre W')) := by
  refine callsIn_of_wp Try.func43 rfl trivial ?_ rfl
  simp only [Try.ntmps43, List.size_toArray, List.length_cons, List.length_nil, Nat.reduceAdd, Nat.reduceSub, Array.replicate_succ, Array.replicate_zero, List.push_toArray, List.append_toArray, List.nil_append, List.cons_append]
  gi_wp2_with (first
    | (gi_at_range; refine wpListIn_range rfl _ 63 rfl Try.underlying63 b m rfl hown ?_; intro w0 hr0 hO0 hg0)
    | gi_in)
  go_frame
  gi_loopg [3] m.length (fun gk _ wr => ∃ (left : Pairs) (ss : List Int), gk = left.length ∧ IterAt wr W.heap.size b kq m left ∧ (ss ++ left.map (·.1)).Perm (m.map (·.1)) ∧ J ss wr)
  case atStart => exact ⟨m, [], rfl, hr0, List.Perm.refl _, hJ [] W w0 none h0 hg0 (fun r e => by cases e)⟩
  case round =>
    obtain ⟨left, ss, hgk, hit, hperm, hJs⟩ := hrel
    gi_wp2_with (first
      | (gi_at_next; refine wpListIn_next rfl _ rfl W.heap.size b m left rfl hit ?_ ?_)
      | gi_in)
    · intro hl0
      subst hl0
      gi_wp2
      go_end0
      exact ⟨⟨_, rfl⟩, .inl ⟨ss, by simpa using hperm, hJs⟩⟩
    · intro x u w2 hp hit2 hg2 hen
      have hJ2 : J ss w2 := hJ ss wr w2 (some W.heap.size) hJs hg2 (fun r e => by cases e; exact ⟨Nat.le_refl _, IterAt.walk hit⟩)
      have hlen : ss.length < m.length := by
        have h1 := hperm.length_eq
        have h2 : 0 < left.length := List.length_pos_of_mem hp
        simp at h1; omega
      obtain ⟨fn, tmps, assign, body, hy, hR⟩ := hY ss x w2 hJ2 hlen
      gi_wp2
      refine hR.mono ?_
      rintro e W3 (⟨rfl, hJ3, hk3⟩ | ⟨rfl, hJx3⟩)
      · gi_wp2
        go_roundg (mdel left x).length
        case rel =>
          refine ⟨mdel left x, ss ++ [x], rfl, IterAt.walks hit2 hk3, ?_, hJ3⟩
          refine List.Perm.trans ?_ hperm
          rw [List.append_assoc]
          exact (perm_take hp hit.nodup).symm.append_left ss
        case measure =>
          have h : (mdel left x).length + 1 = left.length := left_shorter hp hit.nodup
          omega
      · gi_wp2
        refine bodyPost_ret (results_none rfl _ _ _) rfl ?_
        exact ⟨⟨_, rfl⟩, .inr ⟨ss ++ [x], trivial, hJx3⟩⟩
theorem keys_stops (n : Nat) (hn : 1 ≤ n) (Bm b : Nat) (m : Pairs) (w : World) (hm : w.cell? ⟨Bm, 0, none⟩ = some (.map (some b))) (hown : MapAt w b kq m) :
    SeqStopsK Fence.wide n Try.prog 43 #[.pointer (some ⟨Bm, 0, none⟩)] (fun x : Int => #[Value.int kq x]) KeepsWalks (fun ss => ss.Perm (m.map (·.1))) (fun _ => True) m.length w := fun l J Jx W hW hJ _ hY h0 =>
  keys1_in n hn l Bm b m J Jx W hJ hY ((hW.cell (p := ⟨Bm, 0, none⟩) (World.block_lt_of_cell? w _ hm)).trans hm) (by
    have hl := hown.lt
    obtain ⟨es, c, h1, r⟩ := hown
    exact ⟨es, c, (hW.block b hl).trans h1, r⟩) h0

theorem info_key : (Try.prog.info? 26).map (fun i => (i.zero, i.size, i.bytes)) = some (some (.int kq 0), 1, 8) := by kernel_rfl
abbrev seqOf (Bm : Nat) : Value := .func (.func 43) #[] #[.pointer (some ⟨Bm, 0, none⟩)]
set_option maxRecDepth 100000 in
set_option maxHeartbeats 2000000 in
theorem appendSeq_in (n : Nat) (hn : 3 ≤ n) (Bm b : Nat) (m : Pairs) (hlen : m.length ≤ 1000000) (w : World) (hm : w.cell? ⟨Bm, 0, none⟩ = some (.map (some b))) (hown : MapAt w b kq m) :
    CallsIn Fence.wide n Try.prog 44 #[.slice none 0 0, seqOf Bm] w fun e w' => ∃ v ss, e = .returned v ∧ ss.Perm (m.map (·.1)) ∧ w'.ownsRow w.heap.size 26 1 v ss.length (ss.map (Value.int kq)) ∧ (v = .slice none 0 0 ↔ ss = []) ∧ Below w.heap.size w w' := by
  have h1 : 1 ≤ n := by omega
  obtain ⟨i0, hi, hz0, hz1, hz2⟩ := info_parts info_key
  refine callsIn_of_wp_marks Try.func44 rfl trivial ?_ rfl
  simp only [Try.ntmps44, List.size_toArray, List.length_cons, List.length_nil, Nat.reduceAdd, Nat.reduceSub, Array.replicate_succ, Array.replicate_zero, List.push_toArray, List.append_toArray, List.nil_append, List.cons_append]
  gi_wp2
  have bO := Boxed.new w 27 (.slice none 0 0)
  have hB0 : Below w.heap.size w (w.alloc (.cells #[.slice none 0 0] 27)) := (Below.refl _ w).alloc (Nat.le_refl _) _
  have hm0 : (w.alloc (.cells #[.slice none 0 0] 27)).cell? ⟨Bm, 0, none⟩ = some (.map (some b)) := Blk.cellAlloc _ hm
  have ho0 : MapAt (w.alloc (.cells #[.slice none 0 0] 27)) b kq m := hown.past ((Only.refl _ _).alloc _)
  refine wpIn_rangeFunc_ownG rfl h1 (gf := 43) (lb := #[.pointer (some ⟨Bm, 0, none⟩)]) rfl trivial (enters_of Try.func43 (by kernel_rfl) rfl)
    (keys_stops (n - 1) (by omega) Bm b m _ hm0 ho0) walksK_t walksK_b (Below.refl _ _) (fun _ => rfl)
    (fun pre W => (∃ v, Boxed W w.heap.size 27 v ∧ W.ownsRow w.heap.size 26 1 v pre.length (pre.map (Value.int kq)) ∧ (v = .slice none 0 0 ↔ pre = [])) ∧ Below w.heap.size w W)
    (fun _ _ _ => False)
    (OwnFrom.and (Own.from (holdsRow_own w.heap.size w.heap.size 27 26 1 (fun pre => pre.length) (fun pre => pre.map (Value.int kq)) (fun pre v => v = .slice none 0 0 ↔ pre = [])) _) (ownFrom_below (Nat.le_refl _) (by simp)))
    (fun _ _ _ _ _ hs _ _ => hs)
    ⟨⟨_, bO, World.ownsRow_nil _ _ _ _, by simp⟩, hB0⟩
    (fun x => { tmps := #[.slice none 0 0, seqOf Bm, .pointer (some ⟨w.heap.size, 0, none⟩), undef, .slice none 0 0, .int kq x, seqOf Bm, .int kq x, undef, undef, undef, undef, undef], defers := [] }) ?assign ?body ?done ?stop
  case assign =>
    intro l x W K hK
    gi_wp2
    exact hK
  case body =>
    rintro l pre x W ⟨⟨v, hv, hrow, hnil⟩, hB⟩ hlt
    have hc := hv.cell
    gi_wp2_with (gi_at_builtin; refine wpListIn_append_own _ rfl _ _ 27 rfl w.heap.size 26 i0 (.int kq 0) 1 8 Try.underlying27 hi hz0 hz1 hz2 rfl (by decide) _ _ _ rfl (hrow.alloc _) ⟨W.heap.size, 0, none⟩ 1 1 [.int kq x] rfl rfl (cell_one_new _ _ _) (by simp [Value.oneCell']) (by unfold maxLen; omega) (by omega) (by have := hB.size; simp; omega) ?_; intro v' w1 hown' hgrow _; obtain ⟨g', cap', rfl⟩ := ownsRow_succ hown'; obtain ⟨hv1, hv2, hr2, hk2, hb2⟩ := hv.appended (by decide) hrow hB.size (Nat.le_refl _) hown' hgrow; have hc1 := hv1.cell; have hf1 := hv1.frozen)
    exact ⟨hk2.from _, hk2.walks, ⟨_, hv2, by simpa using hr2, by simp⟩, hB.trans hb2⟩
  case done =>
    rintro D ys W hD hS ⟨⟨v, hv, hrow, hnil⟩, hB⟩ hK
    have hc := hv.cell
    gi_wp2
    refine ⟨by simp, .inl ⟨_, _, rfl, run_takeDeferred hK, ?_⟩⟩
    exact ⟨_, results_tmp rfl _ _ _, v, ys, rfl, hS, ownsRow_putObj hrow _ hK rfl, hnil, hB.trans (belowK_b (w := w) (Nat.le_refl _) W D _ _ (by simp at hD; omega) hK rfl rfl)⟩
  case stop =>
    rintro D c pre W _ _ h _
    exact h.elim
theorem appendSeq_any (Bm b : Nat) (m : Pairs) (hlen : m.length ≤ 1000000) (w : World) (hm : w.cell? ⟨Bm, 0, none⟩ = some (.map (some b))) (hown : MapAt w b kq m) :
    Calls Try.prog 44 #[.slice none 0 0, seqOf Bm] w fun e w' => ∃ v ss, e = .returned v ∧ ss.Perm (m.map (·.1)) ∧ w'.ownsRow w.heap.size 26 1 v ss.length (ss.map (Value.int kq)) ∧ (v = .slice none 0 0 ↔ ss = []) ∧ Below w.heap.size w w' :=
  callsIn_wide.1 (appendSeq_in 3 (Nat.le_refl _) Bm b m hlen w hm hown)
theorem keys_any (b : Nat) (w : World) : Calls Try.prog 38 #[.map (some b)] w fun e w' => e = .returned (seqOf w.heap.size) ∧ w.alloc (.cells #[.map (some b)] 63) = w' := by
  go_enter Try.func38, Try.ntmps38
  go_wp2
  go_ret
  exact ⟨rfl, rfl⟩
theorem collect_any (Bm b : Nat) (m : Pairs) (hlen : m.length ≤ 1000000) (w : World) (hm : w.cell? ⟨Bm, 0, none⟩ = some (.map (some b))) (hown : MapAt w b kq m) :
    Calls Try.prog 41 #[seqOf Bm] w fun e w' => ∃ v ss, e = .returned v ∧ ss.Perm (m.map (·.1)) ∧ w'.ownsRow w.heap.size 26 1 v ss.length (ss.map (Value.int kq)) ∧ (v = .slice none 0 0 ↔ ss = []) ∧ Below w.heap.size w w' := by
  go_enter Try.func41, Try.ntmps41
  go_wp2_with (go_at_call 44; refine (appendSeq_any Bm b m hlen _ hm hown).mono ?_; rintro e w' ⟨v, ss, rfl, hS, hrow, hnil, hb⟩)
  go_ret
  exact ⟨v, ss, rfl, hS, hrow, hnil, hb⟩

/-- The keys, rising. -/
def rising (l : List Int) : List Int := l.mergeSort (fun x y => decide (x ≤ y))
theorem rising_perm (l : List Int) : (rising l).Perm l := List.mergeSort_perm _ _
theorem rising_len (l : List Int) : (rising l).length = l.length := (rising_perm l).length_eq
theorem rising_sorted (l : List Int) : (rising l).Pairwise (· ≤ ·) := by
  have h := List.pairwise_mergeSort (le := fun x y : Int => decide (x ≤ y)) (fun a b c => by simp; omega) (fun a b => by simp; omega) l
  exact h.imp (fun h => by simpa using h)
theorem rising_eq {l k : List Int} (h : l.Perm k) : rising l = rising k :=
  List.Perm.eq_of_pairwise (le := (· ≤ ·)) (fun a b _ _ h1 h2 => Int.le_antisymm h1 h2) (rising_sorted l) (rising_sorted k) (((rising_perm l).trans h).trans (rising_perm k).symm)
/-- What slices.Sort does to a row of the caller's own. -/
def Sorts (w : World) (g n cap : Nat) (l : List Int) (e : Ending) (w' : World) : Prop :=
  e = .returned (.tuple #[]) ∧ w'.ownsRow 0 26 1 (.slice (some ⟨g, 0, none⟩) n cap) n ((rising l).map (Value.int kq)) ∧ Only [g] w w'
/-- A slice of keys of the caller's own. -/
def KeyRow (w w' : World) (v : Value) (l : List Int) : Prop := w'.ownsRow 0 26 1 v l.length (l.map (Value.int kq)) ∧ (∀ k, v.ownBlock = some k → w.heap.size ≤ k) ∧ Only [] w w'
theorem sorted_any (hsort : ∀ (g n cap : Nat) (l : List Int) (w : World), l.length = n → n ≤ 524287 → w.ownsRow 0 26 1 (.slice (some ⟨g, 0, none⟩) n cap) n (l.map (Value.int kq)) → Calls Try.prog 42 #[.slice (some ⟨g, 0, none⟩) n cap] w (Sorts w g n cap l))
    (hnone : ∀ (w : World), Calls Try.prog 42 #[.slice none 0 0] w fun e w' => e = .returned (.tuple #[]) ∧ Only [] w w')
    (Bm b : Nat) (m : Pairs) (hlen : m.length ≤ 524287) (w : World) (hm : w.cell? ⟨Bm, 0, none⟩ = some (.map (some b))) (hown : MapAt w b kq m) :
    Calls Try.prog 37 #[seqOf Bm] w fun e w' => ∃ v, e = .returned v ∧ KeyRow w w' v (rising (m.map (·.1))) := by
  go_enter Try.func37, Try.ntmps37
  go_wp2_with (go_at_call 41; refine (collect_any Bm b m (by omega) _ hm hown).mono ?_; rintro e w2 ⟨v, ss, rfl, hS, hrow, hnil, hb⟩)
  rcases hrow.2 with ⟨rfl, hz⟩ | ⟨g, cap, cur, rfl, hbase, hgb, r1, r2, r3, r4⟩
  · obtain rfl : ss = [] := List.eq_nil_of_length_eq_zero hz
    have hm0 : m.map (·.1) = [] := List.Perm.eq_nil hS.symm
    go_wp2_with (go_at_call 42; refine (hnone _).mono ?_; rintro e w3 ⟨rfl, hO⟩)
    go_ret
    rw [hm0, show rising [] = [] by simp [rising]]
    exact ⟨_, rfl, ⟨rfl, .inl ⟨rfl, rfl⟩⟩, (fun k hk => by cases hk), (Only.of_below hb []).trans hO (by simp)⟩
  · have hl : ss.length ≤ 524287 := by have := hS.length_eq; simp at this; omega
    have hrow0 : w2.ownsRow 0 26 1 (.slice (some ⟨g, 0, none⟩) ss.length cap) ss.length (ss.map (Value.int kq)) := ⟨hrow.1, .inr ⟨g, cap, cur, rfl, Nat.zero_le _, hgb, r1, r2, r3, r4⟩⟩
    go_wp2_with (go_at_call 42; refine (hsort g ss.length cap ss w2 rfl hl hrow0).mono ?_; rintro e w3 ⟨rfl, hr3, hO⟩)
    go_ret
    rw [← rising_eq hS]
    refine ⟨_, rfl, by rw [rising_len]; exact hr3, fun k hk => ?_, (Only.of_below hb []).trans hO (fun x hx => ?_)⟩
    · cases hk; exact hbase
    · simp at hx; subst hx; exact .inr hbase
end Go.Proofs.Ytilkbcoofbkemaa.I
