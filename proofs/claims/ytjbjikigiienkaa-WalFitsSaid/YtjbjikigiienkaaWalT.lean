/-
  The program's log on a disk that nothing befalls: what is appended and flushed is what is opened. No program in sight.
-/
import Derived.Test.YtjbjikigiienkaaWalK
namespace Go.Proofs.Ytjbjikigiienkaa.W
set_option linter.unusedSimpArgs false
open Go.RowKit Go.Proofs.Ytjbjikigiienkaa.D Go.Proofs.Ytjbjikigiienkaa.B
set_option linter.unusedVariables false
variable {l l' : LS} {s s' : DS} {B : List UInt8}

theorem dec00 : dec 0 0 = 0 := dec_eq (by omega) (by omega)
theorem dec11 : dec (-1) (-1) = -1 := dec_eq (by omega) (by omega)
/-- Nothing befalls the disk. -/
structure Calm (s : DS) : Prop where
  fail : s.fail = 0
  halt : s.halt = -1
  down : s.down = false
  agree : s.row.foldl (fun l x => l.set x.1 x.2) s.sure = s.now
  secs : ∀ i, i < s.now.length → (s.now.getD i []).length = 512
theorem Calm.err (h : Calm s) : s.err = 0 := by simp [DS.err, h.fail, h.halt, h.down]
theorem Calm.changed (h : Calm s) : s.changed.fail = 0 ∧ s.changed.halt = -1 ∧ s.changed.down = false := by
  simp [DS.changed, h.fail, h.halt, h.down, dec00, dec11]
theorem getD_set_eq {α : Type} (ls : List α) (k : Nat) (x y : α) (h : k < ls.length) : (ls.set k x).getD k y = x := by
  rw [List.getD_eq_getElem?_getD, List.getElem?_set]; simp [h]
theorem getD_set_ne {α : Type} (ls : List α) (k i : Nat) (x y : α) (h : k ≠ i) : (ls.set k x).getD i y = ls.getD i y := by
  rw [List.getD_eq_getElem?_getD, List.getD_eq_getElem?_getD, List.getElem?_set]; simp [h]
theorem Calm.write (h : Calm s) (k : Nat) (hk : k < s.now.length) (b : Sector) (hb : b.length = 512) :
    ∃ s', s.write (k : Int) b = (s', 0) ∧ Calm s' ∧ s'.now = s.now.set k b ∧ s'.count = s.count + 1 ∧ s'.row.length = s.row.length + 1 := by
  refine ⟨_, write_ok h.err hk hb, ⟨h.changed.1, h.changed.2.1, h.changed.2.2, ?_, ?_⟩, rfl, rfl, ?_⟩
  · show (s.changed.row ++ [(k, b)]).foldl _ s.changed.sure = _
    rw [List.foldl_append]
    show ((s.row.foldl _ s.sure).set k b) = _
    rw [h.agree]
  · intro i hi
    simp only [List.length_set] at hi
    by_cases e : k = i
    · subst e; simp only [getD_set_eq _ _ _ _ hk]; exact hb
    · simp only [getD_set_ne _ _ _ _ _ e]; exact h.secs i hi
  · simp [DS.changed]
theorem Calm.sync (h : Calm s) : ∃ s', s.sync = (s', 0) ∧ Calm s' ∧ s'.now = s.now ∧ s'.count = s.count + 1 ∧ s'.row = [] ∧ s'.sure = s.now := by
  have hs : s.changed.synced.sure = s.now := by
    simp only [DS.synced, DS.settledTo, DS.changed, List.take_length]
    exact h.agree
  exact ⟨_, sync_ok h.err, ⟨h.changed.1, h.changed.2.1, h.changed.2.2, hs, h.secs⟩, rfl, rfl, rfl, hs⟩
theorem Calm.fresh (n : Nat) : Calm (DS.fresh n) := ⟨rfl, rfl, rfl, rfl, fun i hi => by
  simp only [DS.fresh, List.length_replicate] at hi
  simp only [DS.fresh, List.getD_eq_getElem?_getD]
  rw [List.getElem?_eq_getElem (by simpa using hi)]
  simp [zeros_len]⟩
/-- A restart that keeps nothing of a disk of which all is sure. -/
theorem Calm.restart (h : Calm s) (hr : s.row = []) (hs : s.sure = s.now) (keep : List Int) : Calm (s.restart keep) ∧ (s.restart keep).now = s.now ∧ (s.restart keep).row = [] ∧ (s.restart keep).sure = s.now ∧ (s.restart keep).count = s.count := by
  have e : (s.restart keep).now = s.now := by simp only [DS.restart, hr, List.length_nil, tornTo]; exact hs
  refine ⟨⟨rfl, rfl, rfl, ?_, by rw [e]; exact h.secs⟩, e, rfl, ?_, rfl⟩
  · rfl
  · exact e

/-! ### numbers as bytes, back -/
theorem ofNat_toNat_mod (n : Nat) : (UInt8.ofNat (n % 256)).toNat = n % 256 := by rw [UInt8.toNat_ofNat']; omega
theorem unle_le (n : Nat) : ∀ k, unle (le n k) = n % 2 ^ (8 * k)
  | 0 => by simp [le, unle, Nat.mod_one]
  | k + 1 => by
    rw [le, unle_append, unle_le n k, le_len]
    simp only [unle, ofNat_toNat_mod]
    rw [show (256 : Nat) ^ k = 2 ^ (8 * k) by rw [show (256 : Nat) = 2 ^ 8 from rfl, ← Nat.pow_mul], Nat.mul_zero, Nat.add_zero, show 8 * (k + 1) = 8 * k + 8 by omega, Nat.pow_add, Nat.mod_mul]
theorem half_8 (z t f : Nat) : ((half z t f ++ half z t f).drop 8).take 8 = le t 8 := by
  have e : half z t f ++ half z t f = (le 1885433460 4 ++ le z 4) ++ (le t 8 ++ ((le f 8 ++ List.replicate 232 0) ++ half z t f)) := by simp only [half, List.append_assoc]
  rw [e, List.drop_left' (by simp [le_len]), List.take_left' (le_len _ _)]
theorem half_16 (z t f : Nat) : ((half z t f ++ half z t f).drop 16).take 8 = le f 8 := by
  have e : half z t f ++ half z t f = (le 1885433460 4 ++ le z 4 ++ le t 8) ++ (le f 8 ++ (List.replicate 232 0 ++ half z t f)) := by simp only [half, List.append_assoc]
  rw [e, List.drop_left' (by simp [le_len]), List.take_left' (le_len _ _)]
theorem turn_head (z t f : Nat) (h : t < 18446744073709551616) : turnOf (headB z t f) = t := by
  unfold turnOf headB
  rw [half_8, unle_le]
  exact Nat.mod_eq_of_lt h
theorem fin_head (z t f : Nat) (h : f < 18446744073709551616) : finOf (headB z t f) = f := by
  unfold finOf headB
  rw [half_16, unle_le]
  exact Nat.mod_eq_of_lt h
theorem ok_head (l : LS) (t f : Nat) (ht : 0 < t) (h : t < 18446744073709551616) (hf : f < 18446744073709551616) (hr : f ≤ l.room) : okOf l (headB l.size t f) = true := by
  unfold okOf
  rw [turn_head _ _ _ h, fin_head _ _ _ hf]
  simp [ht, hr]
theorem ok_zeros (l : LS) : okOf l zeros = false := by
  have h : zeros ≠ headB l.size (turnOf zeros) (finOf zeros) := fun h => by
    have h1 := congrArg (fun b : List UInt8 => b.take 4) h
    have e : headB l.size (turnOf zeros) (finOf zeros) = le 1885433460 4 ++ (le l.size 4 ++ le (turnOf zeros) 8 ++ le (finOf zeros) 8 ++ List.replicate 232 0 ++ half l.size (turnOf zeros) (finOf zeros)) := by simp only [headB, half, List.append_assoc]
    simp only [e, List.take_left' (le_len _ _)] at h1
    revert h1
    decide
  unfold okOf
  have : (zeros == headB l.size (turnOf zeros) (finOf zeros)) = false := by simpa using h
  rw [this]
  rfl
theorem turn_zeros : turnOf zeros = 0 := by decide
/-! ### records as bytes, back -/
def enc (rs : List (List UInt8)) : List UInt8 := rs.flatMap fun r => le r.length 4 ++ r
theorem enc_snoc (rs : List (List UInt8)) (r : List UInt8) : enc (rs ++ [r]) = enc rs ++ (le r.length 4 ++ r) := by simp [enc]
theorem recs_enc : ∀ rs : List (List UInt8), (∀ r ∈ rs, r.length ≤ 65536) → recs (enc rs) = some rs
  | [], _ => by simp [enc, recs_nil]
  | r :: rs, h => by
    have h0 := h r (by simp)
    have e : enc (r :: rs) = le r.length 4 ++ (r ++ enc rs) := by simp [enc]
    have e4 : unle ((enc (r :: rs)).take 4) = r.length := by
      rw [e, List.take_left' (le_len _ _), unle_le]
      exact Nat.mod_eq_of_lt (by omega)
    have ih := recs_enc rs (fun x hx => h x (by simp [hx]))
    rw [recs_one (enc (r :: rs)) r.length e4 (by rw [e]; simp [le_len]) h0]
    rw [e, show 4 + r.length = (le r.length 4 ++ r).length by simp [le_len], ← List.append_assoc, List.drop_left, ih, List.append_assoc, List.drop_left' (le_len _ _), List.take_left]
    rfl
end Go.Proofs.Ytjbjikigiienkaa.W
