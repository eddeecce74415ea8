/-
  The program's table of transactions as a law holds it: its state, what stays, each call's contract.
-/
import Derived.Test.YtilkbcoofbkemaaTxnD
namespace Go.Proofs.Ytilkbcoofbkemaa.T
set_option linter.unusedSimpArgs false
open Go Go.RowKit Go.Proofs.Ytilkbcoofbkemaa.I
set_option linter.unusedVariables false

/-- A state after at most k beginnings. -/
structure TS.Fine (S : TS) (k : Nat) : Prop where
  rise : S.Rise
  len : S.opens.length ≤ k
  ops : ∀ s ∈ S.opens, s.op.length ≤ k
  nx : S.next ≤ 4611686018427387904 + k
  less : ∀ s ∈ S.opens, s.own < S.next
theorem TS.Fine.more {S : TS} {k k2 : Nat} (h : S.Fine k) (hk : k ≤ k2) : S.Fine k2 where
  rise := h.rise
  len := Nat.le_trans h.len hk
  ops := fun s hs => Nat.le_trans (h.ops s hs) hk
  nx := by have := h.nx; omega
  less := h.less
theorem TS.Fine.new (n : Nat) : (TS.new n).Fine 0 where
  rise := List.Pairwise.nil
  len := Nat.le_refl _
  ops := fun s hs => by cases hs
  nx := by show clamp n ≤ _; unfold clamp; omega
  less := fun s hs => by cases hs
theorem TS.nums_len (S : TS) : S.nums.length = S.opens.length := by simp [TS.nums]
theorem TS.Fine.begin {S : TS} {k : Nat} (h : S.Fine k) : S.begin.Fine (k + 1) where
  rise := by
    show ((S.opens ++ [S.snap]).map _).Pairwise _
    rw [List.map_append, List.pairwise_append]
    refine ⟨h.rise, by simp, fun a ha b hb => ?_⟩
    simp only [List.mem_map] at ha
    obtain ⟨s, hs, rfl⟩ := ha
    simp only [List.map_cons, List.map_nil, List.mem_singleton] at hb
    subst hb
    exact h.less s hs
  len := by show (S.opens ++ [S.snap]).length ≤ _; have := h.len; simp; exact this
  ops := fun s hs => by
    rcases List.mem_append.1 hs with h1 | h1
    · have := h.ops s h1; omega
    · simp at h1
      subst h1
      show S.nums.length ≤ _
      rw [TS.nums_len]; have := h.len; omega
  nx := by show S.next + 1 ≤ _; have := h.nx; omega
  less := fun s hs => by
    show s.own < S.next + 1
    rcases List.mem_append.1 hs with h1 | h1
    · have := h.less s h1; omega
    · simp at h1
      subst h1
      exact Nat.lt_succ_self _
theorem TS.Fine.drop {S : TS} {k : Nat} (h : S.Fine k) (id : Nat) : (S.drop id).Fine k where
  rise := h.rise.sublist (List.filter_sublist.map _)
  len := Nat.le_trans (List.length_filter_le _ _) h.len
  ops := fun s hs => h.ops s (List.mem_filter.1 hs).1
  nx := h.nx
  less := fun s hs => h.less s (List.mem_filter.1 hs).1
theorem TS.Fine.commit {S : TS} {k : Nat} (h : S.Fine k) (id : Nat) : (S.commit id).1.Fine k := by
  unfold TS.commit
  split
  · exact h.drop id
  · exact h
theorem TS.Fine.gone {S : TS} {k : Nat} (h : S.Fine k) (l : List Nat) : ({ S with gone := l } : TS).Fine k := ⟨h.rise, h.len, h.ops, h.nx, h.less⟩
theorem TS.Fine.abort {S : TS} {k : Nat} (h : S.Fine k) (id : Nat) : (S.abort id).1.Fine k := by
  unfold TS.abort
  split
  · exact (h.drop id).gone _
  · exact h
/-- The table at t, all of its memory newer than w0. -/
structure Tab (w0 w : World) (t bo bg k : Nat) (S : TS) : Prop where
  at_ : ∃ L, TabAt w t bo bg L S
  own : Only [] w0 w
  fine : S.Fine k
  ht : w0.heap.size ≤ t
  hb : w0.heap.size ≤ bo
  hg : w0.heap.size ≤ bg
variable {w0 w : World} {t bo bg k : Nat} {S : TS}
/-- What a call that writes has left alone. -/
theorem Tab.off (h : Tab w0 w t bo bg k S) {e : TypeId} (he : 66 ≠ e) : Off e w [t, bo, bg] := by
  obtain ⟨L, hT⟩ := h.at_
  intro x hx cs hb
  simp at hx
  rcases hx with rfl | rfl | rfl
  · exact Off.one hT.tab he _ (by simp) _ hb
  · exact hT.opn.ne hb rfl
  · exact hT.gon.ne hb rfl
theorem Tab.news (h : Tab w0 w t bo bg k S) {w' : World} (hO : Only [t, bo, bg] w w') : Only [] w0 w' :=
  h.own.trans hO (fun x hx => by
    right
    simp at hx
    rcases hx with rfl | rfl | rfl
    · exact h.ht
    · exact h.hb
    · exact h.hg)
theorem Tab.past (h : Tab w0 w t bo bg k S) {w' : World} (hO : Only [] w w') : Tab w0 w' t bo bg k S :=
  ⟨h.at_.imp fun L hT => hT.past hO, h.own.trans hO (by simp), h.fine, h.ht, h.hb, h.hg⟩
theorem Tab.later (h : Tab w0 w t bo bg k S) {w' : World} {X : List Nat} (hO : Only X w w') (h1 : t ∉ X) (h2 : bo ∉ X) (h3 : bg ∉ X) (h4 : Off 26 w X) (hn : ∀ x ∈ X, w0.heap.size ≤ x) : Tab w0 w' t bo bg k S :=
  ⟨h.at_.imp fun L hT => hT.later hO ⟨h1, h2, h3, h4⟩, h.own.trans hO (fun x hx => .inr (hn x hx)), h.fine, h.ht, h.hb, h.hg⟩
theorem Tab.more (h : Tab w0 w t bo bg k S) {k2 : Nat} (hk : k ≤ k2) : Tab w0 w t bo bg k2 S := ⟨h.at_, h.own, h.fine.more hk, h.ht, h.hb, h.hg⟩
theorem Tab.to (h : Tab w0 w t bo bg k S) {S2 : TS} (e : S = S2) : Tab w0 w t bo bg k S2 := e ▸ h
/-- A block of another type is none of the table's. -/
theorem Tab.ne (h : Tab w0 w t bo bg k S) {b : Nat} {cs : List Value} {e : TypeId} (hb : Blk w b cs e) (he : 66 ≠ e) : b ∉ [t, bo, bg] := fun hx => h.off he b hx cs hb
theorem new_tab (hO : Only [] w0 w) (n : Nat) (hn : n < 18446744073709551616) : Calls Try.prog 9 #[.int .u64 n] w fun e w' => ∃ t bo bg, e = .returned (.pointer (some ⟨t, 0, none⟩)) ∧ Tab w0 w' t bo bg 0 (TS.new n) ∧ Only [] w w' :=
  (new_any n hn w).mono fun e w' ⟨t, bo, bg, he, hT, hO2, h1, h2, h3⟩ => ⟨t, bo, bg, he, ⟨⟨[], hT⟩, hO.trans hO2 (by simp), TS.Fine.new n, Nat.le_trans hO.size h1, Nat.le_trans hO.size h2, Nat.le_trans hO.size h3⟩, hO2⟩
/-- A row of numbers that is nobody else's. -/
def NewRow (w w' : World) (v : Value) (l : List Nat) : Prop := w'.ownsRow 0 26 1 v l.length (nats l) ∧ ∀ x, v.ownBlock = some x → w.heap.size ≤ x
theorem Tab.begin (h : Tab w0 w t bo bg k S) (hk : k ≤ 524287) : Calls Try.prog 10 #[.pointer (some ⟨t, 0, none⟩)] w fun e w' => ∃ v, e = .returned (.tuple #[.int .u64 S.next, snapV S.snap v]) ∧ NewRow w w' v S.nums ∧ Tab w0 w' t bo bg (k + 1) S.begin ∧ Only [t, bo, bg] w w' := by
  obtain ⟨L, hT⟩ := h.at_
  refine (begin_any hT h.fine.rise (by have := h.fine.len; omega) (by have := h.fine.nx; omega)).mono ?_
  rintro e w' ⟨v, he, hr, hn, L', hT', hO, _⟩
  have hO3 : Only [t, bo, bg] w w' := hO.mono (by simp)
  exact ⟨v, he, ⟨hr, hn⟩, ⟨⟨L', hT'⟩, h.news hO3, h.fine.begin, h.ht, h.hb, h.hg⟩, hO3⟩
theorem Tab.begin' (h : Tab w0 w t bo bg k S) (hk : k ≤ 524287) {S2 : TS} {m n : Nat} (hm : S.next = m) (hn : S.opens.length = n) (hS : S.begin = S2) : Calls Try.prog 10 #[.pointer (some ⟨t, 0, none⟩)] w fun e w' => ∃ a c, e = .returned (.tuple #[.int .u64 m, .agg #[.int .u64 m, .int .u64 m, .slice a n c]]) ∧ NewRow w w' (.slice a n c) S.nums ∧ Tab w0 w' t bo bg (k + 1) S2 ∧ Only [t, bo, bg] w w' := by
  refine (h.begin hk).mono ?_
  rintro e w' ⟨v, he, hr, hT, hO⟩
  obtain ⟨a, c, rfl⟩ := owns_form hr.1
  rw [TS.nums_len, hn] at he
  subst hm
  subst hS
  refine ⟨a, c, he, by rw [← hn, ← TS.nums_len]; exact hr, hT, hO⟩
theorem Tab.commit (h : Tab w0 w t bo bg k S) (id : Nat) : Calls Try.prog 14 #[.pointer (some ⟨t, 0, none⟩), .int .u64 id] w fun e w' => e = .returned (.int .i64 (S.commit id).2) ∧ Tab w0 w' t bo bg k (S.commit id).1 ∧ Only [t, bo, bg] w w' := by
  obtain ⟨L, hT⟩ := h.at_
  refine (commit_any hT h.fine.rise.once id).mono ?_
  rintro e w' ⟨he, L', hT', hO, _⟩
  have hO3 : Only [t, bo, bg] w w' := hO.mono (by simp)
  exact ⟨he, ⟨⟨L', hT'⟩, h.news hO3, h.fine.commit id, h.ht, h.hb, h.hg⟩, hO3⟩
theorem Tab.abort (h : Tab w0 w t bo bg k S) (id : Nat) : Calls Try.prog 15 #[.pointer (some ⟨t, 0, none⟩), .int .u64 id] w fun e w' => e = .returned (.int .i64 (S.abort id).2) ∧ Tab w0 w' t bo bg k (S.abort id).1 ∧ Only [t, bo, bg] w w' := by
  obtain ⟨L, hT⟩ := h.at_
  refine (abort_any hT h.fine.rise.once id).mono ?_
  rintro e w' ⟨he, L', hT', hO, _⟩
  have hO3 : Only [t, bo, bg] w w' := hO.mono (by simp)
  exact ⟨he, ⟨⟨L', hT'⟩, h.news hO3, h.fine.abort id, h.ht, h.hb, h.hg⟩, hO3⟩
theorem Tab.commit' (h : Tab w0 w t bo bg k S) (id : Nat) {S2 : TS} {z : Int} (hS : S.commit id = (S2, z)) : Calls Try.prog 14 #[.pointer (some ⟨t, 0, none⟩), .int .u64 id] w fun e w' => e = .returned (.int .i64 z) ∧ Tab w0 w' t bo bg k S2 ∧ Only [t, bo, bg] w w' := by
  have := h.commit id
  rw [hS] at this
  exact this
theorem Tab.abort' (h : Tab w0 w t bo bg k S) (id : Nat) {S2 : TS} {z : Int} (hS : S.abort id = (S2, z)) : Calls Try.prog 15 #[.pointer (some ⟨t, 0, none⟩), .int .u64 id] w fun e w' => e = .returned (.int .i64 z) ∧ Tab w0 w' t bo bg k S2 ∧ Only [t, bo, bg] w w' := by
  have := h.abort id
  rw [hS] at this
  exact this
theorem Tab.state (h : Tab w0 w t bo bg k S) (id : Nat) : Calls Try.prog 12 #[.pointer (some ⟨t, 0, none⟩), .int .u64 id] w fun e w' => e = .returned (.int .i64 (S.state id)) ∧ Only [] w w' := by
  obtain ⟨L, hT⟩ := h.at_
  exact state_any hT h.fine.rise.once id
theorem Tab.sees (h : Tab w0 w t bo bg k S) (s : Snap) (v : Value) (hv : NatsAt w v s.op) (hl : s.op.length ≤ 1048576) (id : Nat) :
    Calls Try.prog 13 #[.pointer (some ⟨t, 0, none⟩), snapV s v, .int .u64 id] w fun e w' => e = .returned (.bool (S.sees s id)) ∧ Only [] w w' := by
  obtain ⟨L, hT⟩ := h.at_
  exact sees_any hT h.fine.rise.once s v hv hl id
theorem Tab.visible (h : Tab w0 w t bo bg k S) (s : Snap) (v : Value) (hv : NatsAt w v s.op) (hl : s.op.length ≤ 1048576) (xmin xmax : Nat) :
    Calls Try.prog 19 #[.pointer (some ⟨t, 0, none⟩), snapV s v, verV xmin xmax] w fun e w' => e = .returned (.bool (S.vis s xmin xmax)) ∧ Only [] w w' := by
  obtain ⟨L, hT⟩ := h.at_
  exact visible_any hT h.fine.rise.once s v hv hl xmin xmax
theorem Tab.write (h : Tab w0 w t bo bg k S) (s : Snap) (v : Value) (hv : NatsAt w v s.op) (hl : s.op.length ≤ 1048576) (xmin xmax : Nat) :
    Calls Try.prog 21 #[.pointer (some ⟨t, 0, none⟩), snapV s v, verV xmin xmax] w fun e w' => e = .returned (.int .i64 (S.write s xmin xmax)) ∧ Only [] w w' := by
  obtain ⟨L, hT⟩ := h.at_
  exact write_any hT h.fine.rise.once s v hv hl xmin xmax
theorem Tab.horizon (h : Tab w0 w t bo bg k S) (hk : k ≤ 524287) : Calls Try.prog 11 #[.pointer (some ⟨t, 0, none⟩)] w fun e w' => e = .returned (.int .u64 S.horizon) ∧ Only [] w w' := by
  obtain ⟨L, hT⟩ := h.at_
  exact horizon_any hT h.fine.rise.once (fun s hs => by have := h.fine.ops s hs; omega)
theorem Tab.dead (h : Tab w0 w t bo bg k S) (hk : k ≤ 524287) (xmin xmax : Nat) : Calls Try.prog 20 #[.pointer (some ⟨t, 0, none⟩), verV xmin xmax] w fun e w' => e = .returned (.bool (S.dead xmin xmax)) ∧ Only [] w w' := by
  obtain ⟨L, hT⟩ := h.at_
  exact dead_any hT h.fine.rise.once (fun s hs => by have := h.fine.ops s hs; omega) xmin xmax
theorem Tab.openl (h : Tab w0 w t bo bg k S) (hk : k ≤ 524287) : Calls Try.prog 18 #[.pointer (some ⟨t, 0, none⟩)] w fun e w' => ∃ v, e = .returned v ∧ NatRow w w' v S.nums := by
  obtain ⟨L, hT⟩ := h.at_
  exact open_any hT h.fine.rise (by have := h.fine.len; omega)
/-! ### the same, the answer by a name -/
theorem Tab.state' (h : Tab w0 w t bo bg k S) (id : Nat) {z : Int} (hz : S.state id = z) : Calls Try.prog 12 #[.pointer (some ⟨t, 0, none⟩), .int .u64 id] w fun e w' => e = .returned (.int .i64 z) ∧ Only [] w w' := by
  subst hz; exact h.state id
theorem Tab.sees' (h : Tab w0 w t bo bg k S) {own next n : Nat} {op : List Nat} {a : Option Addr} {c : Nat} (hv : NatsAt w (.slice a n c) op) (hl : op.length ≤ 1048576) (id : Nat) {z : Bool} (hz : S.sees ⟨own, next, op⟩ id = z) :
    Calls Try.prog 13 #[.pointer (some ⟨t, 0, none⟩), .agg #[.int .u64 own, .int .u64 next, .slice a n c], .int .u64 id] w fun e w' => e = .returned (.bool z) ∧ Only [] w w' := by
  subst hz; exact h.sees ⟨own, next, op⟩ _ hv hl id
theorem Tab.visible' (h : Tab w0 w t bo bg k S) {own next n : Nat} {op : List Nat} {a : Option Addr} {c : Nat} (hv : NatsAt w (.slice a n c) op) (hl : op.length ≤ 1048576) (xmin xmax : Nat) {z : Bool} (hz : S.vis ⟨own, next, op⟩ xmin xmax = z) :
    Calls Try.prog 19 #[.pointer (some ⟨t, 0, none⟩), .agg #[.int .u64 own, .int .u64 next, .slice a n c], .agg #[.slice none 0 0, .int .u64 xmin, .int .u64 xmax, .int .u64 0]] w fun e w' => e = .returned (.bool z) ∧ Only [] w w' := by
  subst hz; exact h.visible ⟨own, next, op⟩ _ hv hl xmin xmax
theorem Tab.write' (h : Tab w0 w t bo bg k S) {own next n : Nat} {op : List Nat} {a : Option Addr} {c : Nat} (hv : NatsAt w (.slice a n c) op) (hl : op.length ≤ 1048576) (xmin xmax : Nat) {z : Int} (hz : S.write ⟨own, next, op⟩ xmin xmax = z) :
    Calls Try.prog 21 #[.pointer (some ⟨t, 0, none⟩), .agg #[.int .u64 own, .int .u64 next, .slice a n c], .agg #[.slice none 0 0, .int .u64 xmin, .int .u64 xmax, .int .u64 0]] w fun e w' => e = .returned (.int .i64 z) ∧ Only [] w w' := by
  subst hz; exact h.write ⟨own, next, op⟩ _ hv hl xmin xmax
theorem Tab.horizon' (h : Tab w0 w t bo bg k S) (hk : k ≤ 524287) {z : Nat} (hz : S.horizon = z) : Calls Try.prog 11 #[.pointer (some ⟨t, 0, none⟩)] w fun e w' => e = .returned (.int .u64 z) ∧ Only [] w w' := by
  subst hz; exact h.horizon hk
theorem Tab.dead' (h : Tab w0 w t bo bg k S) (hk : k ≤ 524287) (xmin xmax : Nat) {z : Bool} (hz : S.dead xmin xmax = z) : Calls Try.prog 20 #[.pointer (some ⟨t, 0, none⟩), .agg #[.slice none 0 0, .int .u64 xmin, .int .u64 xmax, .int .u64 0]] w fun e w' => e = .returned (.bool z) ∧ Only [] w w' := by
  subst hz; exact h.dead hk xmin xmax
theorem NatsAt.none_ (w : World) (a : Option Addr) (c : Nat) : NatsAt w (.slice a 0 c) [] := ⟨a, c, rfl, fun h => absurd h (by simp)⟩
/-- One's own snapshot, in its block. -/
theorem NewRow.at_ {w w' : World} {a : Option Addr} {n c : Nat} {l : List Nat} (h : NewRow w w' (.slice a n c) l) : NatsAt w' (.slice a n c) l := nats_owned h.1
end Go.Proofs.Ytilkbcoofbkemaa.T
