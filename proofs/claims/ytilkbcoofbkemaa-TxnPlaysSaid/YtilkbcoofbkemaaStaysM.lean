/-
  TxnStays as plain data.
-/
import Derived.Test.YtilkbcoofbkemaaTxnF
namespace Go.Proofs.Ytilkbcoofbkemaa.T
set_option linter.unusedSimpArgs false
open Go Go.RowKit Go.Proofs.Ytilkbcoofbkemaa.I
set_option linter.unusedVariables false
/-- One call more that changes a table. -/
inductive Grows (S : TS) : TS → Prop
  | begin : Grows S S.begin
  | commit (id : Nat) : Grows S (S.commit id).1
  | abort (id : Nat) : Grows S (S.abort id).1
/-- Begun, and ended. -/
def Settled (S : TS) (id : Nat) : Prop := id < S.next ∧ S.isOpen id = false
theorem isOpen_mem {S : TS} {id : Nat} : S.isOpen id = true ↔ ∃ s ∈ S.opens, s.own = id := by
  unfold TS.isOpen
  rw [List.any_eq_true]
  constructor
  · rintro ⟨s, hs, h⟩; exact ⟨s, hs, by simpa using h⟩
  · rintro ⟨s, hs, h⟩; exact ⟨s, hs, by simpa using h⟩
theorem drop_open {S : TS} {id id2 : Nat} (h : S.isOpen id = false) : (S.drop id2).isOpen id = false := by
  cases h2 : (S.drop id2).isOpen id with
  | false => rfl
  | true =>
    obtain ⟨s, hs, e⟩ := isOpen_mem.1 h2
    rw [isOpen_mem.2 ⟨s, (List.mem_filter.1 hs).1, e⟩] at h; cases h
theorem begin_open {S : TS} {id : Nat} (hid : id < S.next) : S.begin.isOpen id = S.isOpen id := by
  unfold TS.isOpen TS.begin TS.snap
  simp only [List.any_append, List.any_cons, List.any_nil, Bool.or_false]
  have : (S.next == id) = false := by simp; omega
  rw [this, Bool.or_false]
theorem mputN_other {l : List Nat} {a b : Nat} (h : a ≠ b) : (TS.abort.mputN l b).contains a = l.contains a := by
  unfold TS.abort.mputN
  split
  · rfl
  · have : (a == b) = false := by simpa using h
    simp [List.contains_append, this, h]
theorem Grows.keeps {S S' : TS} (h : Grows S S') {id : Nat} (hs : Settled S id) : S'.state id = S.state id ∧ Settled S' id := by
  obtain ⟨h1, h2⟩ := hs
  cases h with
  | begin =>
    have e := begin_open (S := S) h1
    refine ⟨?_, ?_, by rw [e]; exact h2⟩
    · unfold TS.state
      rw [e, h2]
      have a1 : ¬ S.next ≤ id := by omega
      have a2 : ¬ S.begin.next ≤ id := by show ¬ S.next + 1 ≤ id; omega
      simp only [a1, a2, or_false]
      rfl
    · show id < S.next + 1; omega
  | commit id2 =>
    unfold TS.commit
    split
    · refine ⟨?_, h1, drop_open h2⟩
      unfold TS.state
      rw [drop_open h2, h2]; rfl
    · exact ⟨rfl, h1, h2⟩
  | abort id2 =>
    unfold TS.abort
    split
    · next ho =>
      have hne : id ≠ id2 := fun e => by subst e; rw [h2] at ho; cases ho
      refine ⟨?_, h1, drop_open h2⟩
      have e : ({ S.drop id2 with gone := TS.abort.mputN S.gone id2 } : TS).isOpen id = false := drop_open h2
      unfold TS.state
      rw [e, h2]
      show (if id = 0 ∨ S.next ≤ id then (0 : Int) else if false = true then 1 else if (TS.abort.mputN S.gone id2).contains id = true then 3 else 2) = _
      rw [mputN_other hne]
    · exact ⟨rfl, h1, h2⟩
theorem Grows.next {S S' : TS} (h : Grows S S') : S.next ≤ S'.next := by
  cases h with
  | begin => exact Nat.le_succ _
  | commit id => unfold TS.commit; split <;> exact Nat.le_refl _
  | abort id => unfold TS.abort; split <;> exact Nat.le_refl _
theorem Grows.opens {S S' : TS} (h : Grows S S') : ∀ s ∈ S'.opens, s ∈ S.opens ∨ s = S.snap := by
  cases h with
  | begin => intro s hs; rcases List.mem_append.1 hs with h | h; exact .inl h; simp at h; exact .inr h
  | commit id =>
    unfold TS.commit; split
    · exact fun s hs => .inl (List.mem_filter.1 hs).1
    · exact fun s hs => .inl hs
  | abort id =>
    unfold TS.abort; split
    · exact fun s hs => .inl (List.mem_filter.1 hs).1
    · exact fun s hs => .inl hs
theorem Grows.horizon {S S' : TS} (h : Grows S S') : S.horizon ≤ S'.horizon := by
  obtain ⟨_, h2, h3⟩ := S.horizon_is
  have h1 := h.next
  have one : ∀ s ∈ S'.opens, S.horizon ≤ s.own ∧ ∀ x ∈ s.op, S.horizon ≤ x := by
    intro s hs
    rcases h.opens s hs with h | rfl
    · exact h3 s h
    · refine ⟨h2, fun x hx => ?_⟩
      obtain ⟨y, hy, rfl⟩ := List.mem_map.1 hx
      exact (h3 y hy).1
  rcases S'.horizon_is.1 with e | ⟨s, hs, e | e⟩
  · rw [e]; omega
  · rw [e]; exact (one s hs).1
  · exact (one s hs).2 _ e
theorem state_settled {S : TS} {id : Nat} {z : Int} (h : S.state id = z) (hz : z = 2 ∨ z = 3) : id ≠ 0 ∧ Settled S id := by
  subst h
  unfold TS.state at hz
  split at hz
  · omega
  · next h1 =>
    split at hz
    · omega
    · next h2 => exact ⟨fun e => h1 (.inl e), by omega, by simpa using h2⟩
theorem Grows.dead {S S' : TS} (h : Grows S S') {xmin xmax : Nat} (hd : S.dead xmin xmax = true) : S'.dead xmin xmax = true := by
  unfold TS.dead at hd ⊢
  simp only [Bool.or_eq_true, Bool.and_eq_true, decide_eq_true_eq] at hd ⊢
  rcases hd with h1 | ⟨h1, h2⟩
  · left; rw [(h.keeps (state_settled h1 (.inr rfl)).2).1]; exact h1
  · right
    refine ⟨?_, Nat.lt_of_lt_of_le h2 h.horizon⟩
    rw [(h.keeps (state_settled h1 (.inl rfl)).2).1]; exact h1
/-- A snapshot that was taken. -/
structure SnapOk (S : TS) (s : Snap) : Prop where
  lt : s.own < S.next
  next : s.next = s.own
  done : ∀ id, id < s.own → id ∉ s.op → S.isOpen id = false
  there : S.isOpen s.own = true → s ∈ S.opens
theorem SnapOk.new (S : TS) (h : ∀ s ∈ S.opens, s.own < S.next) : SnapOk S.begin S.snap where
  lt := Nat.lt_succ_self _
  next := rfl
  done := fun id h1 h2 => by
    rw [begin_open h1]
    cases ho : S.isOpen id with
    | false => rfl
    | true =>
      obtain ⟨s, hs, rfl⟩ := isOpen_mem.1 ho
      exact absurd (List.mem_map_of_mem hs) h2
  there := fun _ => by show S.snap ∈ S.opens ++ [S.snap]; simp
theorem SnapOk.step {S S' : TS} {s : Snap} (h : SnapOk S s) (g : Grows S S') : SnapOk S' s where
  lt := Nat.lt_of_lt_of_le h.lt g.next
  next := h.next
  done := fun id h1 h2 => ((g.keeps ⟨by have := h.lt; omega, h.done id h1 h2⟩).2).2
  there := fun ho => by
    cases g with
    | begin =>
      rw [begin_open h.lt] at ho
      exact List.mem_append_left _ (h.there ho)
    | commit id =>
      unfold TS.commit at ho ⊢
      split at ho
      · next hi =>
        obtain ⟨y, hy, e⟩ := isOpen_mem.1 ho
        have hy2 := List.mem_filter.1 hy
        rw [if_pos hi]
        refine List.mem_filter.2 ⟨h.there (isOpen_mem.2 ⟨y, hy2.1, e⟩), ?_⟩
        rw [← e]; exact hy2.2
      · next hi => rw [if_neg hi]; exact h.there ho
    | abort id =>
      unfold TS.abort at ho ⊢
      split at ho
      · next hi =>
        obtain ⟨y, hy, e⟩ := isOpen_mem.1 ho
        have hy2 := List.mem_filter.1 hy
        rw [if_pos hi]
        refine List.mem_filter.2 ⟨h.there (isOpen_mem.2 ⟨y, hy2.1, e⟩), ?_⟩
        rw [← e]; exact hy2.2
      · next hi => rw [if_neg hi]; exact h.there ho
theorem SnapOk.sees {S S' : TS} {s : Snap} (h : SnapOk S s) (g : Grows S S') {id : Nat} (hne : id ≠ s.own) : S'.sees s id = S.sees s id := by
  unfold TS.sees
  by_cases hc : id ≠ 0 ∧ id < s.next ∧ id ∉ s.op
  · have hs : Settled S id := ⟨by have := h.lt; have := h.next; omega, h.done id (by have := h.next; omega) hc.2.2⟩
    rw [(g.keeps hs).1]
  · rw [decide_eq_false hc]; simp
theorem SnapOk.vis {S S' : TS} {s : Snap} (h : SnapOk S s) (g : Grows S S') {xmin xmax : Nat} (h1 : s.own ≠ xmin) (h2 : s.own ≠ xmax) : S'.vis s xmin xmax = S.vis s xmin xmax := by
  unfold TS.vis
  rw [h.sees g h1.symm, h.sees g h2.symm]
/-- Who is open does not see what is dead. -/
theorem SnapOk.blind {S : TS} {s : Snap} (h : SnapOk S s) {xmin xmax : Nat} (hd : S.dead xmin xmax = true) (ho : S.state s.own = 1) (h2 : xmax ≠ s.own) (h3 : S.state xmin ≠ 3) : S.vis s xmin xmax = false := by
  unfold TS.dead at hd
  simp only [Bool.or_eq_true, Bool.and_eq_true, decide_eq_true_eq] at hd
  rcases hd with h4 | ⟨h4, h5⟩
  · exact absurd h4 h3
  · have hop : S.isOpen s.own = true := by
      unfold TS.state at ho
      split at ho
      · cases ho
      · split at ho
        · assumption
        · split at ho <;> cases ho
    have hm := h.there hop
    obtain ⟨a1, a2⟩ := S.horizon_is.2.2 s hm
    have hse : S.sees s xmax = true := by
      unfold TS.sees
      have h6 := (state_settled h4 (.inl rfl)).1
      rw [decide_eq_true (p := xmax ≠ 0 ∧ xmax < s.next ∧ xmax ∉ s.op) ⟨h6, by have := h.next; omega, fun hx => by have := a2 _ hx; omega⟩, decide_eq_true h4]
      simp
    unfold TS.vis
    rw [hse, decide_eq_false (state_settled h4 (.inl rfl)).1]
    simp
/-- Nor does who begins then. -/
theorem begin_blind {S : TS} (hf : ∀ s ∈ S.opens, s.own < S.next) {xmin xmax : Nat} (hd : S.dead xmin xmax = true) : S.begin.vis S.snap xmin xmax = false := by
  have hk := SnapOk.new S hf
  have hd2 := hd
  unfold TS.dead at hd
  simp only [Bool.or_eq_true, Bool.and_eq_true, decide_eq_true_eq] at hd
  rcases hd with h4 | ⟨h4, h5⟩
  · have hs := state_settled h4 (.inr rfl)
    have e := (Grows.begin (S := S)).keeps hs.2
    unfold TS.vis TS.sees
    have h1 : xmin ≠ S.snap.own := by have := hs.2.1; show xmin ≠ S.next; omega
    rw [decide_eq_false h1, e.1, h4]
    simp
  · have hs := state_settled h4 (.inl rfl)
    have e := (Grows.begin (S := S)).keeps hs.2
    have hd3 := (Grows.begin (S := S)).dead hd2
    by_cases h3 : S.begin.state xmin = 3
    · have hs3 := state_settled h3 (.inr rfl)
      unfold TS.vis TS.sees
      by_cases h1 : xmin = S.snap.own
      · exfalso
        rw [h1] at h3
        have : S.begin.isOpen S.snap.own = true := isOpen_mem.2 ⟨S.snap, by show _ ∈ S.opens ++ [S.snap]; simp, rfl⟩
        rw [← h1, hs3.2.2] at this; cases this
      · rw [decide_eq_false h1, h3]; simp
    · refine hk.blind hd3 ?_ (by have := hs.2.1; show xmax ≠ S.next; omega) h3
      have : S.begin.isOpen S.snap.own = true := isOpen_mem.2 ⟨S.snap, by show _ ∈ S.opens ++ [S.snap]; simp, rfl⟩
      unfold TS.state
      rw [if_neg, if_pos this]
      rintro (h0 | h0)
      · have h6 := hs.2.1
        have : S.next = 0 := h0
        omega
      · have : S.next + 1 ≤ S.next := h0
        omega
end Go.Proofs.Ytilkbcoofbkemaa.T
