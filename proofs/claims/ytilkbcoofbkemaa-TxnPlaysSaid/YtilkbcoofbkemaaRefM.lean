/-
  The document's table of transactions as plain data, beside the program's.
-/
import Derived.Test.YtilkbcoofbkemaaStaysM
namespace Go.Proofs.Ytilkbcoofbkemaa.T
set_option linter.unusedSimpArgs false
open Go Go.RowKit Go.Proofs.Ytilkbcoofbkemaa.I
set_option linter.unusedVariables false
/-- One transaction of the document's table. -/
structure RTx where
  id : Nat
  st : Int
  s : Snap
/-- The document's table says what the program's does. -/
structure Twin (S : TS) (n0 : Nat) (T : List RTx) : Prop where
  pos : 0 < n0
  next : S.next = n0 + T.length
  id : ∀ i (h : i < T.length), T[i].id = n0 + i
  own : ∀ x ∈ T, x.s.own = x.id
  st : ∀ x ∈ T, x.st = S.state x.id
  opens : S.opens = (T.filter fun x => x.st == 1).map (·.s)
  old : ∀ id, 0 < id → id < n0 → S.state id = 2
  gone : ∀ g ∈ S.gone, g < S.next ∧ S.isOpen g = false
variable {S : TS} {n0 : Nat} {T : List RTx}
theorem Twin.new (n : Nat) : Twin (TS.new n) (clamp n) [] where
  pos := by unfold clamp; omega
  next := rfl
  id := fun i h => by cases h
  own := fun x hx => by cases hx
  st := fun x hx => by cases hx
  opens := rfl
  old := fun id h1 h2 => by
    unfold TS.state
    rw [if_neg (by show ¬ (id = 0 ∨ clamp n ≤ id); omega)]
    rfl
  gone := fun g hg => by cases hg
theorem Twin.none_ (h : Twin S n0 T) {id : Nat} (h1 : id = 0 ∨ n0 + T.length ≤ id) : S.state id = 0 := by
  unfold TS.state
  rw [if_pos (by rw [h.next]; exact h1)]
theorem Twin.get (h : Twin S n0 T) {id : Nat} (h1 : n0 ≤ id) (h2 : id < n0 + T.length) : ∃ hi : id - n0 < T.length, T[id - n0].id = id ∧ T[id - n0].st = S.state id := by
  have hi : id - n0 < T.length := by omega
  have e : T[id - n0].id = id := by rw [h.id _ hi]; omega
  exact ⟨hi, e, by rw [h.st _ (List.getElem_mem hi), e]⟩
theorem Twin.open_get (h : Twin S n0 T) {id : Nat} (ho : S.isOpen id = true) : n0 ≤ id ∧ id < n0 + T.length := by
  obtain ⟨s, hs, rfl⟩ := isOpen_mem.1 ho
  rw [h.opens, List.mem_map] at hs
  obtain ⟨x, hx, rfl⟩ := hs
  have hx := (List.mem_filter.1 hx).1
  rw [h.own x hx]
  obtain ⟨i, hi, rfl⟩ := List.mem_iff_getElem.1 hx
  rw [h.id i hi]
  omega
theorem Twin.open_state (h : Twin S n0 T) (id : Nat) : S.state id = 1 ↔ S.isOpen id = true := by
  constructor
  · intro hs
    unfold TS.state at hs
    split at hs
    · cases hs
    · split at hs
      · assumption
      · split at hs <;> cases hs
  · intro ho
    have := h.open_get ho
    have h1 := h.pos
    unfold TS.state
    rw [if_neg (by rw [h.next]; omega), if_pos ho]
theorem Twin.own_lt (h : Twin S n0 T) : ∀ s ∈ S.opens, s.own < S.next := fun s hs => by
  have := h.open_get (isOpen_mem.2 ⟨s, hs, rfl⟩)
  rw [h.next]; exact this.2
theorem Twin.begin (h : Twin S n0 T) : Twin S.begin n0 (T ++ [⟨S.next, 1, S.snap⟩]) where
  pos := h.pos
  next := by show S.next + 1 = _; rw [h.next]; simp; omega
  id := fun i hi => by
    by_cases hlt : i < T.length
    · rw [List.getElem_append_left hlt]; exact h.id i hlt
    · have e : i = T.length := by simp at hi; omega
      subst e
      simp [h.next]
  own := fun x hx => by
    rcases List.mem_append.1 hx with hx | hx
    · exact h.own x hx
    · simp at hx; subst hx; rfl
  st := fun x hx => by
    have hn : 0 < S.next := by rw [h.next]; have := h.pos; omega
    rcases List.mem_append.1 hx with hx | hx
    · rw [h.st x hx]
      obtain ⟨i, hi, rfl⟩ := List.mem_iff_getElem.1 hx
      have e := h.id i hi
      have hlt : T[i].id < S.next := by rw [e, h.next]; omega
      unfold TS.state
      rw [begin_open hlt]
      have a1 : ¬ S.next ≤ T[i].id := by omega
      have a2 : ¬ S.begin.next ≤ T[i].id := by show ¬ S.next + 1 ≤ _; omega
      simp only [a1, a2, or_false]
      rfl
    · simp at hx; subst hx
      symm
      show S.begin.state S.next = 1
      have ho : S.begin.isOpen S.next = true := isOpen_mem.2 ⟨S.snap, by simp [TS.begin], rfl⟩
      unfold TS.state
      rw [if_neg (by show ¬ (S.next = 0 ∨ S.next + 1 ≤ S.next); omega), if_pos ho]
  opens := by
    show S.opens ++ [S.snap] = _
    rw [List.filter_append, List.map_append, ← h.opens]
    rfl
  old := fun id h1 h2 => by
    rw [← h.old id h1 h2]
    have hlt : id < S.next := by rw [h.next]; omega
    unfold TS.state
    rw [begin_open hlt]
    have a1 : ¬ S.next ≤ id := by omega
    have a2 : ¬ S.begin.next ≤ id := by show ¬ S.next + 1 ≤ _; omega
    simp only [a1, a2, or_false]
    rfl
  gone := fun g hg => by
    obtain ⟨h1, h2⟩ := h.gone g hg
    refine ⟨Nat.lt_succ_of_lt h1, ?_⟩
    rw [begin_open h1]; exact h2
theorem own_filter : ∀ (T : List RTx) (n0 m : Nat), (∀ i (h : i < T.length), T[i].id = n0 + i) → (∀ x ∈ T, x.s.own = x.id) → m < n0 → (((T.filter fun x => x.st == 1).map (·.s)).filter fun s => s.own != m) = (T.filter fun x => x.st == 1).map (·.s) := fun T n0 m hid how hm => by
  rw [List.filter_eq_self]
  intro s hs
  rw [List.mem_map] at hs
  obtain ⟨x, hx, rfl⟩ := hs
  have hx := (List.mem_filter.1 hx).1
  rw [how x hx]
  obtain ⟨i, hi, rfl⟩ := List.mem_iff_getElem.1 hx
  rw [hid i hi]
  simp; omega
theorem set_filter : ∀ (T : List RTx) (n0 i : Nat) (z : Int) (s : Snap), (∀ i (h : i < T.length), T[i].id = n0 + i) → (∀ x ∈ T, x.s.own = x.id) → i < T.length → z ≠ 1 →
    ((T.set i ⟨n0 + i, z, s⟩).filter fun x => x.st == 1).map (·.s) = ((T.filter fun x => x.st == 1).map (·.s)).filter fun s => s.own != n0 + i
  | [], _, _, _, _, _, _, h, _ => by cases h
  | x :: T, n0, 0, z, s, hid, how, _, hz => by
    have hz' : (z == 1) = false := by simp [hz]
    have hx : x.s.own = n0 := by rw [how x (by simp)]; exact hid 0 (by simp)
    have hr := own_filter T (n0 + 1) n0 (fun i h => by have := hid (i + 1) (by simpa using h); simp at this; omega) (fun y hy => how y (by simp [hy])) (by omega)
    rw [List.set_cons_zero, List.filter_cons, List.filter_cons]
    simp only [hz', Bool.false_eq_true, if_false, Nat.add_zero]
    split
    · rw [List.map_cons, List.filter_cons, hr]
      simp [hx]
    · rw [hr]
  | x :: T, n0, i + 1, z, s, hid, how, hi, hz => by
    have hx : x.s.own = n0 := by rw [how x (by simp)]; exact hid 0 (by simp)
    have hr := set_filter T (n0 + 1) i z s (fun i h => by have := hid (i + 1) (by simpa using h); simp at this; omega) (fun y hy => how y (by simp [hy])) (by simpa using hi) hz
    have e : n0 + 1 + i = n0 + (i + 1) := by omega
    rw [e] at hr
    rw [List.set_cons_succ, List.filter_cons, List.filter_cons]
    split
    · rw [List.map_cons, List.map_cons, List.filter_cons, hr]
      have : (x.s.own != n0 + (i + 1)) = true := by simp [hx]
      rw [if_pos this]
    · exact hr
/-- One that was open has an end. -/
theorem Twin.ended (h : Twin S n0 T) {id : Nat} (ho : S.isOpen id = true) {S' : TS} (z : Int) (hz : z ≠ 1) (h1 : S'.next = S.next) (h2 : S'.opens = S.opens.filter fun s => s.own != id) (h3 : S'.state id = z) (h4 : ∀ j, j ≠ id → S'.state j = S.state j) (h5 : ∀ g ∈ S'.gone, g = id ∨ g ∈ S.gone) {s : Snap} (hs : ∃ hi : id - n0 < T.length, s = T[id - n0].s) : Twin S' n0 (T.set (id - n0) ⟨id, z, s⟩) := by
  obtain ⟨hi, rfl⟩ := hs
  have hg := h.open_get ho
  have eid : n0 + (id - n0) = id := by omega
  have hset : ∀ x ∈ T.set (id - n0) ⟨id, z, T[id - n0].s⟩, (x = ⟨id, z, T[id - n0].s⟩) ∨ (x ∈ T ∧ x.id ≠ id) := fun x hx => by
    obtain ⟨i, hi2, rfl⟩ := List.mem_iff_getElem.1 hx
    by_cases e : id - n0 = i
    · subst e; left; simp
    · right
      have hi3 : i < T.length := by simpa using hi2
      rw [List.getElem_set_ne e]
      refine ⟨List.getElem_mem hi3, ?_⟩
      rw [h.id i hi3]; omega
  refine ⟨h.pos, by rw [h1, h.next]; simp, fun i hi2 => ?_, fun x hx => ?_, fun x hx => ?_, ?_, fun j hj1 hj2 => ?_, fun g hg2 => ?_⟩
  · by_cases e : id - n0 = i
    · subst e; simp [eid]
    · rw [List.getElem_set_ne e]; exact h.id i (by simpa using hi2)
  · rcases hset x hx with rfl | ⟨hx, _⟩
    · show T[id - n0].s.own = id
      rw [h.own _ (List.getElem_mem hi), h.id _ hi, eid]
    · exact h.own x hx
  · rcases hset x hx with rfl | ⟨hx, hne⟩
    · exact h3.symm
    · rw [h4 _ hne]; exact h.st x hx
  · have := set_filter T n0 (id - n0) z T[id - n0].s h.id h.own hi hz
    rw [eid] at this
    rw [this, h2, h.opens]
  · rw [h4 j (by omega)]; exact h.old j hj1 hj2
  · have hop : ∀ j, S'.isOpen j = true → j ≠ id ∧ S.isOpen j = true := fun j hj => by
      obtain ⟨s, hs, rfl⟩ := isOpen_mem.1 hj
      rw [h2] at hs
      obtain ⟨ha, hb⟩ := List.mem_filter.1 hs
      exact ⟨by simpa using hb, isOpen_mem.2 ⟨s, ha, rfl⟩⟩
    rw [h1]
    rcases h5 g hg2 with rfl | hg2
    · refine ⟨by rw [h.next]; exact hg.2, ?_⟩
      cases e : S'.isOpen g with
      | false => rfl
      | true => exact absurd rfl (hop g e).1
    · obtain ⟨ha, hb⟩ := h.gone g hg2
      refine ⟨ha, ?_⟩
      cases e : S'.isOpen g with
      | false => rfl
      | true => rw [(hop g e).2] at hb; cases hb
theorem drop_isOpen (S : TS) {id j : Nat} (h : j ≠ id) : (S.drop id).isOpen j = S.isOpen j := by
  rw [Bool.eq_iff_iff, isOpen_mem, isOpen_mem]
  constructor
  · rintro ⟨s, hs, e⟩; exact ⟨s, (List.mem_filter.1 hs).1, e⟩
  · rintro ⟨s, hs, e⟩; exact ⟨s, List.mem_filter.2 ⟨hs, by subst e; simpa using h⟩, e⟩
theorem drop_self (S : TS) (id : Nat) : (S.drop id).isOpen id = false := by
  cases e : (S.drop id).isOpen id with
  | false => rfl
  | true =>
    obtain ⟨s, hs, e⟩ := isOpen_mem.1 e
    have := (List.mem_filter.1 hs).2
    rw [e] at this
    simp at this
theorem Twin.commit (h : Twin S n0 T) {id : Nat} (ho : S.isOpen id = true) {s : Snap} (hs : ∃ hi : id - n0 < T.length, s = T[id - n0].s) : Twin (S.commit id).1 n0 (T.set (id - n0) ⟨id, 2, s⟩) := by
  have hg := h.open_get ho
  have hp := h.pos
  have hn := h.next
  unfold TS.commit
  rw [if_pos ho]
  refine h.ended (S' := S.drop id) ho 2 (by decide) rfl rfl ?_ (fun j hj => ?_) (fun g hg => .inr hg) hs
  · have hc : (S.drop id).gone.contains id = false := by
      cases e : (S.drop id).gone.contains id with
      | false => rfl
      | true =>
        have := (h.gone id (by simpa [TS.drop] using e)).2
        rw [ho] at this; cases this
    unfold TS.state
    rw [if_neg (by show ¬ (id = 0 ∨ S.next ≤ id); omega), drop_self, hc]; rfl
  · unfold TS.state
    rw [drop_isOpen S hj]; rfl
theorem Twin.abort (h : Twin S n0 T) {id : Nat} (ho : S.isOpen id = true) {s : Snap} (hs : ∃ hi : id - n0 < T.length, s = T[id - n0].s) : Twin (S.abort id).1 n0 (T.set (id - n0) ⟨id, 3, s⟩) := by
  have hg := h.open_get ho
  have hp := h.pos
  have hn := h.next
  unfold TS.abort
  rw [if_pos ho]
  have hmem : ∀ g, g ∈ TS.abort.mputN S.gone id → g = id ∨ g ∈ S.gone := fun g hg => by
    unfold TS.abort.mputN at hg
    split at hg
    · exact .inr hg
    · rcases List.mem_append.1 hg with hg | hg
      · exact .inr hg
      · simp at hg; exact .inl hg
  refine h.ended (S' := { S.drop id with gone := TS.abort.mputN S.gone id }) ho 3 (by decide) rfl rfl ?_ (fun j hj => ?_) hmem hs
  · have hc : (TS.abort.mputN S.gone id).contains id = true := by
      unfold TS.abort.mputN
      split
      · assumption
      · simp
    have hd : ({ S.drop id with gone := TS.abort.mputN S.gone id } : TS).isOpen id = false := drop_self S id
    unfold TS.state
    rw [if_neg (by show ¬ (id = 0 ∨ S.next ≤ id); omega), hd]
    show (if false = true then (1 : Int) else if (TS.abort.mputN S.gone id).contains id = true then 3 else 2) = 3
    rw [hc]; rfl
  · have hd : ({ S.drop id with gone := TS.abort.mputN S.gone id } : TS).isOpen j = S.isOpen j := drop_isOpen S hj
    unfold TS.state
    rw [hd]
    show (if j = 0 ∨ S.next ≤ j then (0 : Int) else if S.isOpen j = true then 1 else if (TS.abort.mputN S.gone id).contains j = true then 3 else 2) = _
    rw [mputN_other hj]
/-- The open ones' numbers. -/
theorem Twin.nums (h : Twin S n0 T) : S.nums = (T.filter fun x => x.st == 1).map (·.id) := by
  unfold TS.nums
  rw [h.opens, List.map_map]
  refine List.map_congr_left fun x hx => ?_
  exact h.own x (List.mem_filter.1 hx).1
theorem Twin.isHor (h : Twin S n0 T) {o : Nat} (h1 : S.Num o) (h2 : o ≤ S.next) (h3 : ∀ x ∈ T, x.st = 1 → x.s.le o) : o = S.horizon := by
  refine TS.IsHor.eq ⟨h1, h2, fun s hs => ?_⟩ S.horizon_is
  rw [h.opens, List.mem_map] at hs
  obtain ⟨x, hx, rfl⟩ := hs
  obtain ⟨hx, he⟩ := List.mem_filter.1 hx
  exact h3 x hx (by simpa using he)
theorem Twin.mem_open (h : Twin S n0 T) {x : RTx} (hx : x ∈ T) (h1 : x.st = 1) : x.s ∈ S.opens := by
  rw [h.opens]
  exact List.mem_map_of_mem (List.mem_filter.2 ⟨hx, by simp [h1]⟩)
end Go.Proofs.Ytilkbcoofbkemaa.T
