/-
  The program's log as plain data. No program in sight.
-/
import Derived.Test.YtjbjikigiienkaaDiskY
import Derived.Test.YtjbjikigiienkaaPlain
namespace Go.Proofs.Ytjbjikigiienkaa.W
set_option linter.unusedSimpArgs false
open Go.RowKit Go.Proofs.Ytjbjikigiienkaa.D Go.Proofs.Ytjbjikigiienkaa.B
set_option linter.unusedVariables false

/-- The half of a head. -/
def half (size turn fin : Nat) : List UInt8 := le 1885433460 4 ++ le size 4 ++ le turn 8 ++ le fin 8 ++ List.replicate 232 0
def headB (size turn fin : Nat) : List UInt8 := half size turn fin ++ half size turn fin
theorem half_len (size turn fin : Nat) : (half size turn fin).length = 256 := by
  simp only [half, List.length_append, le_len, List.length_replicate]
theorem headB_len (size turn fin : Nat) : (headB size turn fin).length = 512 := by
  simp only [headB, List.length_append, half_len]

structure LS where
  first : Nat
  size : Nat
  turn : Nat
  slot : Nat
  fin : Nat
  sure : Nat
  tail : List UInt8
  dead : Bool
def LS.room (l : LS) : Nat := (l.size - 2) * 512
/-- What a head says. -/
def turnOf (b : List UInt8) : Nat := unle ((b.drop 8).take 8)
def finOf (b : List UInt8) : Nat := unle ((b.drop 16).take 8)
def okOf (l : LS) (b : List UInt8) : Bool := b == headB l.size (turnOf b) (finOf b) && decide (0 < turnOf b) && decide (finOf b ≤ l.room)
/-- The bytes of the first k sectors behind the heads. -/
def cat (l : LS) (s : DS) : Nat → List UInt8
  | 0 => []
  | k + 1 => cat l s k ++ s.now.getD (l.first + 2 + k) []
theorem cat_len (l : LS) (s : DS) (h : ∀ i, i < s.now.length → (s.now.getD i []).length = 512) : ∀ k, l.first + 2 + k ≤ s.now.length → (cat l s k).length = 512 * k
  | 0, _ => rfl
  | k + 1, hk => by
    rw [cat, List.length_append, cat_len l s h k (by omega), h _ (by omega)]; omega
theorem cat_take (l : LS) (s : DS) (n k : Nat) (hn : n ≤ (cat l s k).length) : ∀ j, (cat l s (k + j)).take n = (cat l s k).take n
  | 0 => rfl
  | j + 1 => by
    have ih := cat_take l s n k hn j
    have hl : (cat l s k).length ≤ (cat l s (k + j)).length := by
      clear ih
      induction j with
      | zero => exact Nat.le_refl _
      | succ j ihj => rw [show k + (j + 1) = (k + j) + 1 by omega, cat, List.length_append]; omega
    rw [show k + (j + 1) = (k + j) + 1 by omega, cat, List.take_append_of_le_length (by omega), ih]
/-- The first n bytes behind the heads. -/
def dataS (l : LS) (s : DS) (n : Nat) : List UInt8 := (cat l s (l.size - 2)).take n
/-- Bytes as records, each behind its length. -/
def recs (b : List UInt8) : Option (List (List UInt8)) :=
  if b = [] then some []
  else if b.length < 4 then none
  else if 65536 < unle (b.take 4) ∨ b.length - 4 < unle (b.take 4) then none
  else (recs (b.drop (4 + unle (b.take 4)))).map (((b.drop 4).take (unle (b.take 4))) :: ·)
termination_by b.length
decreasing_by
  rename_i h1 h2 h3
  rw [List.length_drop]
  omega
theorem recs_nil : recs [] = some [] := by rw [recs]; simp
theorem recs_short (b : List UInt8) (h0 : b ≠ []) (h : b.length < 4) : recs b = none := by rw [recs, if_neg h0, if_pos h]
theorem recs_bad (b : List UInt8) (h : 4 ≤ b.length) (h2 : 65536 < unle (b.take 4) ∨ b.length - 4 < unle (b.take 4)) : recs b = none := by
  rw [recs, if_neg (fun h0 => by rw [h0] at h; simp at h), if_neg (by omega), if_pos h2]
theorem recs_one (b : List UInt8) (n : Nat) (hn : unle (b.take 4) = n) (h : 4 + n ≤ b.length) (h2 : n ≤ 65536) : recs b = (recs (b.drop (4 + n))).map ((b.drop 4).take n :: ·) := by
  rw [recs, if_neg (fun h0 => by rw [h0] at h; simp at h), if_neg (by omega), if_neg (by omega), hn]
/-- A head that is newer than what is known is what is known then. -/
def LS.see (l : LS) (i : Nat) (b : List UInt8) : LS := if okOf l b = true ∧ l.turn < turnOf b then { l with turn := turnOf b, sure := finOf b, slot := i } else l
def LS.seeTo (l : LS) (s : DS) : Nat → LS
  | 0 => l
  | k + 1 => (l.seeTo s k).see k (s.now.getD (l.first + k) [])
theorem LS.seeTo_first (l : LS) (s : DS) : ∀ k, (l.seeTo s k).first = l.first ∧ (l.seeTo s k).size = l.size ∧ (l.seeTo s k).fin = l.fin ∧ (l.seeTo s k).tail = l.tail ∧ (l.seeTo s k).dead = l.dead
  | 0 => ⟨rfl, rfl, rfl, rfl, rfl⟩
  | k + 1 => by
    have := LS.seeTo_first l s k
    simp only [LS.seeTo, LS.see]
    split <;> exact this
/-- The next head is written: the log, the disk, the error. -/
def headsS (l : LS) (s : DS) (fin : Nat) : LS × DS × Int :=
  let r := s.write ((l.first + (l.slot + 1) % 2 : Nat) : Int) (headB l.size (l.turn + 1) fin)
  if r.2 ≠ 0 then (l, r.1, r.2) else
  let q := r.1.sync
  if q.2 ≠ 0 then (l, q.1, q.2) else ({ l with turn := l.turn + 1, slot := (l.slot + 1) % 2 }, q.1, 0)
/-- A log that nothing is known of. -/
def fresh0 (first size : Nat) : LS := ⟨first, size, 0, 0, 0, 0, [], false⟩
/-- A log is made: the disk, the error. -/
def formatS (s : DS) (first size : Nat) : DS × Int :=
  if s.down = true then (s, 13) else ((headsS ((fresh0 first size).seeTo s 2) s 0).2.1, (headsS ((fresh0 first size).seeTo s 2) s 0).2.2)
/-- A log is opened: the log and its records, the disk, the error. -/
def openS (s : DS) (first size : Nat) : Option (LS × List (List UInt8)) × DS × Int :=
  if s.down = true then (none, s, 13) else
  let l := (fresh0 first size).seeTo s 2
  if l.turn = 0 then (none, s, 30) else
  match recs (dataS l s l.sure) with
  | none => (none, s, 30)
  | some rs =>
    let r := if 0 < s.row.length then s.sync else (s, 0)
    if r.2 ≠ 0 then (none, r.1, r.2) else (some ({ l with fin := l.sure, tail := (dataS l s l.sure).drop (l.sure / 512 * 512) }, rs), r.1, 0)
theorem write_same (s : DS) (i : Int) (b : Sector) : (s.write i b).1.count = s.count + 1 ∧ (s.write i b).1.row.length ≤ s.row.length + 1 ∧ (s.write i b).1.now.length = s.now.length := by
  unfold DS.write
  split
  · exact ⟨rfl, by simp [DS.changed], rfl⟩
  · split
    · exact ⟨rfl, by simp [DS.changed], rfl⟩
    · split
      · exact ⟨rfl, by simp [DS.changed], rfl⟩
      · exact ⟨rfl, by simp, by simp⟩
theorem sync_same (s : DS) : s.sync.1.count = s.count + 1 ∧ s.sync.1.row.length ≤ s.row.length ∧ s.sync.1.now.length = s.now.length := by
  unfold DS.sync
  split
  · exact ⟨rfl, by simp [DS.changed], rfl⟩
  · exact ⟨rfl, by simp [DS.synced], rfl⟩
end Go.Proofs.Ytjbjikigiienkaa.W
