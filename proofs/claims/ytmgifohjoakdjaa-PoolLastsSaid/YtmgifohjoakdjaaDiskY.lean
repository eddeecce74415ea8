/-
  The disk's calls by equations; steps one behind the other.
-/
import Derived.Test.YtmgifohjoakdjaaDiskX
import Derived.Test.YtmgifohjoakdjaaRowsK
namespace Go.Proofs.Ytmgifohjoakdjaa.D
set_option linter.unusedSimpArgs false
open Go.RowKit
set_option linter.unusedVariables false

/-- A block of bytes of the caller's own is a slice of bytes. -/
theorem Blk.bytes {w : World} {b : Nat} {l : List UInt8} {t : TypeId} (h : Blk w b (u8s l) t) {n c : Nat} (hn : n = l.length) : BytesAt w (.slice (some ⟨b, 0, none⟩) n c) l := by
  subst hn
  refine ⟨_, c, rfl, fun _ => ⟨b, 0, rfl, fun j hj => ?_⟩⟩
  rw [Nat.zero_add, h.cell, u8s_get, List.getElem?_eq_getElem hj, List.getD_eq_getElem?_getD, List.getElem?_eq_getElem hj]
  rfl
theorem Blk.ints {w : World} {b : Nat} {l : List Int} {t : TypeId} (h : Blk w b (l.map (Value.int .i64)) t) {n c : Nat} (hn : n = l.length) : IntsAt w (.slice (some ⟨b, 0, none⟩) n c) l := by
  subst hn
  refine ⟨_, c, rfl, fun _ => ⟨b, 0, rfl, fun j hj => ?_⟩⟩
  rw [Nat.zero_add, h.cell, List.getElem?_map, List.getElem?_eq_getElem hj, List.getD_eq_getElem?_getD, List.getElem?_eq_getElem hj]
  rfl
theorem notIn {M : List Nat} {b : Nat} {v : Value} {n c : Nat} (hv : v = .slice (some ⟨b, 0, none⟩) n c) (h : b ∉ M) : ∀ a n c, v = .slice (some a) n c → a.block ∉ M := by
  intro a n' c' h2
  rw [hv] at h2
  simp only [Value.slice.injEq, Option.some.injEq] at h2
  rw [← h2.1]; exact h

theorem write_ok {s : DS} {i : Nat} {l : Sector} (he : s.err = 0) (hi : i < s.now.length) (hl : l.length = 512) : s.write i l = ({ s.changed with now := s.now.set i l, row := s.row ++ [(i, l)] }, 0) := by
  unfold DS.write
  rw [if_neg (by simp [he]), if_neg (by omega), if_neg (by omega)]
  simp
theorem sync_ok {s : DS} (he : s.err = 0) : s.sync = (s.changed.synced, 0) := by simp [DS.sync, he]

theorem Disk.write' {w d M s} (h : Disk w d M s) {i : Int} {l : Sector} {s' : DS} {r : Int} (e : s.write i l = (s', r)) (hc0 : 0 ≤ s.count) (hc1 : s.count ≤ 1099511627776) (hr : s.row.length ≤ 1048575) {v : Value} (hb : BytesAt w v l) (hbM : ∀ a n c, v = .slice (some a) n c → a.block ∉ M) :
    Calls Try.prog 13 #[.pointer (some ⟨d, 0, none⟩), .int .i64 i, v] w fun e w' => e = .returned (.int .i64 r) ∧ ∃ M', Disk w' d M' s' ∧ Step M M' w w' := by
  have := h.write hc0 hc1 hr i hb hbM
  rw [e] at this; exact this
theorem Disk.sync' {w d M s} (h : Disk w d M s) {s' : DS} {r : Int} (e : s.sync = (s', r)) (hc0 : 0 ≤ s.count) (hc1 : s.count ≤ 1099511627776) (hr : s.row.length ≤ 1048576) :
    Calls Try.prog 33 #[.pointer (some ⟨d, 0, none⟩)] w fun e w' => e = .returned (.int .i64 r) ∧ ∃ M', Disk w' d M' s' ∧ Step M M' w w' := by
  have := h.sync hc0 hc1 hr
  rw [e] at this; exact this
theorem Disk.read' {w d M s} (h : Disk w d M s) {i : Int} {l : List UInt8} {r : Int} (e : s.read i = (l, r)) :
    Calls Try.prog 23 #[.pointer (some ⟨d, 0, none⟩), .int .i64 i] w fun e w' => ∃ v, e = .returned (.tuple #[v, .int .i64 r]) ∧ Fresh w w' v l ∧ Only [] w w' := by
  have := h.read i
  rw [e] at this; exact this
theorem Step.next {M M' M'' : List Nat} {a w w' : World} (h : Step M M' a w) (k : Step M' M'' w w') : Step M M'' a w' :=
  ⟨h.1.trans k.1 h.2, fun x hx => by
    rcases k.2 x hx with h1 | h1
    · exact h.2 x h1
    · right; have := h.1.size; omega⟩
theorem Step.only {M M' : List Nat} {a w w' : World} (h : Step M M' a w) (k : Only [] w w') : Step M M' a w' := ⟨h.1.trans k (by simp), h.2⟩
theorem Step.below {M : List Nat} {w w' : World} (h : Step [] M w w') : Below w.heap.size w w' := h.1.below (Nat.le_refl _) (by simp)
theorem Disk.newer {w d M s} (h : Disk w d M s) {b : Nat} (hb : w.heap.size ≤ b) : b ∉ M := fun hm => by have := h.lt b hm; omega

theorem Disk.off {w d M s} (h : Disk w d M s) {e : TypeId} (h1 : 57 ≠ e) (h2 : 73 ≠ e) (h3 : 75 ≠ e) : Off e w M := by
  obtain ⟨N, S, rv, np, sp, rp, h⟩ := h
  intro k hk cs hb
  rw [h.foot] at hk
  simp only [List.cons_append, List.nil_append, List.mem_cons, Option.mem_toList] at hk
  rcases hk with rfl | rfl | rfl | hk
  · exact h.disk.ne hb h1 rfl
  · exact h.nowB.ne hb h2 rfl
  · exact h.sureB.ne hb h2 rfl
  · exact owns_ne h.own hb (Ne.symm h3) (by simpa using hk)

end Go.Proofs.Ytmgifohjoakdjaa.D
