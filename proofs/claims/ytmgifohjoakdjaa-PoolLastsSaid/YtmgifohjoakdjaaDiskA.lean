/-
  The program's disk: how it lies in memory; its small methods by contracts.
-/
import Derived.Test.YtmgifohjoakdjaaProg
import Derived.Test.YtmgifohjoakdjaaDiskM
import Derived.WalkLawsBesides
import Derived.WalkSpells
namespace Go.Proofs.Ytmgifohjoakdjaa.D
set_option linter.unusedSimpArgs false
open Go.RowKit
set_option linter.unusedVariables false

/-- What a pointer to a sector stands for: nil for noughts. -/
def Sec (w : World) (v : Value) (l : Sector) : Prop :=
  l.length = 512 ∧ ((v = .pointer none ∧ l = zeros) ∨ ∃ g, v = .pointer (some ⟨g, 0, none⟩) ∧ Blk w g (u8s l) 72)
/-- A list of pointers to sectors. -/
def Secs (w : World) (vs : List Value) (ls : List Sector) : Prop := vs.length = ls.length ∧ ∀ i, i < ls.length → Sec w (vs.getD i undef) (ls.getD i [])
/-- The cells of a row of pending writes. -/
def Row (w : World) (n : Nat) : List Value → List (Nat × Sector) → Prop
  | [], [] => True
  | a :: p :: vs, x :: xs => a = .int .i64 x.1 ∧ x.1 < n ∧ (∃ g, p = .pointer (some ⟨g, 0, none⟩) ∧ Blk w g (u8s x.2) 72 ∧ x.2.length = 512) ∧ Row w n vs xs
  | _, _ => False

def diskCells (N S n : Nat) (rv : Value) (s : DS) : List Value :=
  [.slice (some ⟨N, 0, none⟩) n n, .slice (some ⟨S, 0, none⟩) n n, rv, .int .i64 s.count, .int .i64 s.fail, .int .i64 s.halt, .bool s.down]

/-- The disk s lies at block d; M: the blocks that its methods may write. -/
structure DiskAt (w : World) (d : Nat) (M : List Nat) (s : DS) (N S : Nat) (rv : Value) (np sp rp : List Value) : Prop where
  disk : Blk w d (diskCells N S s.now.length rv s) 57
  nowB : Blk w N np 73
  sureB : Blk w S sp 73
  ne : N ≠ S
  nowS : Secs w np s.now
  sureS : Secs w sp s.sure
  same : s.sure.length = s.now.length
  few : s.now.length ≤ 65536
  own : w.ownsRow 0 75 2 rv s.row.length rp
  row : Row w s.now.length rp s.row
  foot : M = [d, N, S] ++ rv.ownBlock.toList

theorem sets4 {w : World} {d : Nat} {a b c x3 x4 x5 x6 v3 v4 v5 v6 : Value} {t : TypeId} (h : Blk w d [a, b, c, x3, x4, x5, x6] t) :
    Blk ((((w.setCell ⟨d, 3, none⟩ v3).setCell ⟨d, 4, none⟩ v4).setCell ⟨d, 6, none⟩ v6).setCell ⟨d, 5, none⟩ v5) d [a, b, c, v3, v4, v5, v6] t := by
  have := (((h.set 3 v3).set 4 v4).set 6 v6).set 5 v5
  simpa using this

set_option maxHeartbeats 400000 in
theorem changes_any (d N S n : Nat) (rv : Value) (s : DS) (w : World) (h : Blk w d (diskCells N S n rv s) 57) (hc0 : 0 ≤ s.count) (hc1 : s.count ≤ 1099511627776) :
    Calls Try.prog 30 #[.pointer (some ⟨d, 0, none⟩)] w fun e w' => e = .returned (.int .i64 s.err) ∧ Blk w' d (diskCells N S n rv s.changed) 57 ∧ Only [d] w w' := by
  obtain ⟨now, sure, row, count, fail, halt, down⟩ := s
  have c3 := h.cell 3
  have c4 := h.cell 4
  have c5 := h.cell 5
  have c6 := h.cell 6
  simp [diskCells] at c3 c4 c5 c6
  have f3 := h.frozen 3
  have f4 := h.frozen 4
  have f5 := h.frozen 5
  have f6 := h.frozen 6
  have H := Lib.hid h
  simp only at hc0 hc1
  clear h
  cases down
  all_goals
    go_enter Try.func30, Try.ntmps30
    go_wp2_with fail
    all_goals
      go_ret
      refine ⟨by simp [DS.err, *], ?_, ?_⟩
      · refine (sets4 H.out).to ?_
        simp [DS.changed, dec, diskCells, *] <;> omega
      · exact ((((Only.refl _ _).setCell (.inl (by simp)) _).setCell (.inl (by simp)) _).setCell (.inl (by simp)) _).setCell (.inl (by simp)) _

theorem sectors_any (d N S n : Nat) (rv : Value) (s : DS) (w : World) (h : Blk w d (diskCells N S n rv s) 57) :
    Calls Try.prog 24 #[.pointer (some ⟨d, 0, none⟩)] w fun e w' => e = .returned (.int .i64 n) ∧ w = w' := by
  have c3 := h.cell 0
  simp [diskCells] at c3
  go_enter Try.func24, Try.ntmps24
  go_wp2
  go_ret
  exact ⟨rfl, rfl⟩



end Go.Proofs.Ytmgifohjoakdjaa.D
