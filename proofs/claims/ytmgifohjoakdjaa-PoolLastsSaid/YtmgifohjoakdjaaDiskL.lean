/-
  How the disk's parts in memory stay what they are when other blocks change.
-/
import Derived.Test.YtmgifohjoakdjaaDiskA
namespace Go.Proofs.Ytmgifohjoakdjaa.D
set_option linter.unusedSimpArgs false
open Go.RowKit
set_option linter.unusedVariables false

/-- None of these blocks is a sector's. -/
def NoSec (w : World) (M : List Nat) : Prop := ∀ k ∈ M, ∀ cs, ¬ Blk w k cs 72

theorem Sec.later {w w' : World} {M : List Nat} {v : Value} {l : Sector} (h : Sec w v l) (hO : Only M w w') (hM : NoSec w M) : Sec w' v l := by
  obtain ⟨h1, h2⟩ := h
  refine ⟨h1, ?_⟩
  rcases h2 with h2 | ⟨g, rfl, hb⟩
  · exact .inl h2
  · exact .inr ⟨g, rfl, hO.blk hb (fun hm => hM g hm _ hb)⟩
theorem Secs.later {w w' : World} {M : List Nat} {vs : List Value} {ls : List Sector} (h : Secs w vs ls) (hO : Only M w w') (hM : NoSec w M) : Secs w' vs ls :=
  ⟨h.1, fun i hi => (h.2 i hi).later hO hM⟩
theorem Row.later {w w' : World} {M : List Nat} {n : Nat} (hO : Only M w w') (hM : NoSec w M) : ∀ {vs : List Value} {xs : List (Nat × Sector)}, Row w n vs xs → Row w' n vs xs
  | [], [], h => h
  | a :: p :: vs, x :: xs, h => by
    obtain ⟨h1, h2, ⟨g, rfl, hb, hl⟩, h4⟩ := h
    exact ⟨h1, h2, ⟨g, rfl, hO.blk hb (fun hm => hM g hm _ hb), hl⟩, Row.later hO hM h4⟩
  | [], _ :: _, h => h.elim
  | [_], [], h => h.elim
  | [_], _ :: _, h => h.elim
  | _ :: _ :: _, [], h => h.elim
theorem Secs.set {w : World} {vs : List Value} {ls : List Sector} (h : Secs w vs ls) (i : Nat) {v : Value} {l : Sector} (hs : Sec w v l) : Secs w (vs.set i v) (ls.set i l) := by
  refine ⟨by simp [h.1], fun j hj => ?_⟩
  rw [List.length_set] at hj
  have hj' : j < vs.length := by rw [h.1]; exact hj
  by_cases e : i = j
  · subst e
    rw [List.getD_eq_getElem?_getD, List.getD_eq_getElem?_getD, List.getElem?_set_self hj', List.getElem?_set_self hj]
    exact hs
  · rw [List.getD_eq_getElem?_getD, List.getD_eq_getElem?_getD, List.getElem?_set_ne e, List.getElem?_set_ne e, ← List.getD_eq_getElem?_getD, ← List.getD_eq_getElem?_getD]
    exact h.2 j hj
theorem Row.snoc {w : World} {n i g : Nat} {l : Sector} (hi : i < n) (hb : Blk w g (u8s l) 72) (hl : l.length = 512) : ∀ {vs : List Value} {xs : List (Nat × Sector)}, Row w n vs xs → Row w n (vs ++ [.int .i64 i, .pointer (some ⟨g, 0, none⟩)]) (xs ++ [(i, l)])
  | [], [], h => ⟨rfl, hi, ⟨g, rfl, hb, hl⟩, trivial⟩
  | a :: p :: vs, x :: xs, h => by
    obtain ⟨h1, h2, h3, h4⟩ := h
    exact ⟨h1, h2, h3, Row.snoc hi hb hl h4⟩
  | [], _ :: _, h => h.elim
  | [_], [], h => h.elim
  | [_], _ :: _, h => h.elim
  | _ :: _ :: _, [], h => h.elim

theorem DiskAt.noSec {w d M s N S rv np sp rp} (h : DiskAt w d M s N S rv np sp rp) : NoSec w M := by
  intro k hk cs hb
  rw [h.foot] at hk
  simp only [List.cons_append, List.nil_append, List.mem_cons, Option.mem_toList] at hk
  rcases hk with rfl | rfl | rfl | hk
  · exact h.disk.ne hb (by decide) rfl
  · exact h.nowB.ne hb (by decide) rfl
  · exact h.sureB.ne hb (by decide) rfl
  · exact owns_ne h.own hb (by decide) (by simpa using hk)
theorem DiskAt.lt {w d M s N S rv np sp rp} (h : DiskAt w d M s N S rv np sp rp) : ∀ k ∈ M, k < w.heap.size := by
  intro k hk
  rw [h.foot] at hk
  simp only [List.cons_append, List.nil_append, List.mem_cons, Option.mem_toList] at hk
  rcases hk with rfl | rfl | rfl | hk
  · exact h.disk.lt
  · exact h.nowB.lt
  · exact h.sureB.lt
  · exact owns_lt h.own (by simpa using hk)
/-- A disk stays what it is when none of its blocks is changed. -/
theorem DiskAt.later {w w' d M s N S rv np sp rp} {X : List Nat} (h : DiskAt w d M s N S rv np sp rp) (hO : Only X w w') (hX : NoSec w X) (hM : ∀ k ∈ M, k ∉ X) : DiskAt w' d M s N S rv np sp rp where
  disk := hO.blk h.disk (hM _ (by rw [h.foot]; simp))
  nowB := hO.blk h.nowB (hM _ (by rw [h.foot]; simp))
  sureB := hO.blk h.sureB (hM _ (by rw [h.foot]; simp))
  ne := h.ne
  nowS := h.nowS.later hO hX
  sureS := h.sureS.later hO hX
  same := h.same
  few := h.few
  own := owns_later h.own hO (fun k hk => hM k (by rw [h.foot]; simp [hk]))
  row := h.row.later hO hX
  foot := h.foot
/-- Only the struct's own cells have turned: its numbers and its power. -/
theorem DiskAt.cells {w w' d M s N S rv np sp rp} (h : DiskAt w d M s N S rv np sp rp) (hO : Only [d] w w') {s' : DS} (hb : Blk w' d (diskCells N S s.now.length rv s') 57) (e1 : s'.now = s.now) (e2 : s'.sure = s.sure) (e3 : s'.row = s.row) : DiskAt w' d M s' N S rv np sp rp where
  disk := by rw [e1]; exact hb
  nowB := hO.blk h.nowB (by simp; exact h.nowB.ne h.disk (by decide))
  sureB := hO.blk h.sureB (by simp; exact h.sureB.ne h.disk (by decide))
  ne := h.ne
  nowS := by rw [e1]; exact h.nowS.later hO (fun k hk cs hq => by simp at hk; subst hk; exact h.disk.ne hq (by decide) rfl)
  sureS := by rw [e2]; exact h.sureS.later hO (fun k hk cs hq => by simp at hk; subst hk; exact h.disk.ne hq (by decide) rfl)
  same := by rw [e1, e2]; exact h.same
  few := by rw [e1]; exact h.few
  own := by rw [e3]; exact owns_later h.own hO (fun k hk hm => by simp at hm; subst hm; exact owns_ne h.own h.disk (by decide) hk)
  row := by rw [e1, e3]; exact h.row.later hO (fun k hk cs hq => by simp at hk; subst hk; exact h.disk.ne hq (by decide) rfl)
  foot := h.foot
/-- One sure sector is another one now. -/
theorem DiskAt.sureSet {w w' d M s N S rv np sp rp} (h : DiskAt w d M s N S rv np sp rp) (i : Nat) {v : Value} {l : Sector} (hs : Sec w v l) (hO : Only [S] w w') (hS : Blk w' S (sp.set i v) 73) :
    DiskAt w' d M { s with sure := s.sure.set i l } N S rv np (sp.set i v) rp := by
  have hX : NoSec w [S] := fun x hx cs hb => by simp at hx; subst hx; exact h.sureB.ne hb (by decide) rfl
  exact ⟨hO.blk h.disk (by simp; exact h.disk.ne h.sureB (by decide)), hO.blk h.nowB (by simp; exact h.ne), hS, h.ne, h.nowS.later hO hX, (h.sureS.later hO hX).set i (hs.later hO hX), by rw [List.length_set]; exact h.same, h.few,
    owns_later h.own hO (fun x hx hm => by simp at hm; subst hm; exact owns_ne h.own h.sureB (by decide) hx), h.row.later hO hX, h.foot⟩
end Go.Proofs.Ytmgifohjoakdjaa.D
