/-
  The records of WalFits as plain data; rows of the caller's own beside a log.
-/
import Derived.Test.YtjbjikigiienkaaWalV
namespace Go.Proofs.Ytjbjikigiienkaa.W
set_option linter.unusedSimpArgs false
open Go.RowKit Go.Proofs.Ytjbjikigiienkaa.D Go.Proofs.Ytjbjikigiienkaa.B
set_option linter.unusedVariables false
variable {W w w' w2 : World} {p d : Nat} {v v' t t' : Value}

theorem info_int : (Try.prog.info? 3).map (fun i => (i.zero, i.size, i.bytes)) = some (some (.int .i64 0), 1, 8) := by kernel_rfl
theorem ints_owned {n : Nat} {l : List Int} (h1 : w.ownsRow 0 3 1 v n (l.map (Value.int .i64))) (hn : l.length = n) : IntsAt w v l := by
  subst hn
  rcases h1.2 with ⟨rfl, h0⟩ | ⟨g, cap, cur, rfl, _, hh, h3, h4, h5, h6⟩
  · obtain rfl : l = [] := List.eq_nil_of_length_eq_zero h0
    exact ⟨none, 0, rfl, fun h => by simp at h⟩
  · refine ⟨_, cap, rfl, fun h0 => ⟨g, 0, rfl, fun j hj => ?_⟩⟩
    have := h1.cells (g := g) rfl j (.int .i64 (l.getD j 0)) (by rw [List.getElem?_map, List.getElem?_eq_getElem hj, List.getD_eq_getElem?_getD, List.getElem?_eq_getElem hj]; rfl)
    rw [add_plain] at this
    exact this
/-- The i-th record, of n bytes, of which k are laid. -/
def part (i n k : Nat) : List UInt8 := (List.range n).map fun j => if j < k then UInt8.ofNat (i + j) else 0
theorem part_len (i n k : Nat) : (part i n k).length = n := by simp [part]
theorem part_zero (i n : Nat) : part i n 0 = List.replicate n 0 := by
  apply List.ext_getElem
  · simp [part]
  · intro j h1 h2; simp [part]
theorem part_step (i n k : Nat) (hk : k < n) : (part i n k).set k (UInt8.ofNat (i + k)) = part i n (k + 1) := by
  apply List.ext_getElem
  · simp [part]
  · intro j h1 h2
    simp only [part, List.getElem_set, List.getElem_map, List.getElem_range]
    by_cases e : k = j
    · subst e; simp
    · rw [if_neg e]
      by_cases h : j < k
      · rw [if_pos h, if_pos (by omega)]
      · rw [if_neg h, if_neg (by omega)]
theorem u8s_set (l : List UInt8) (k : Nat) (x : UInt8) : (u8s l).set k (.int .u8 x.toNat) = u8s (l.set k x) := by simp [u8s, List.map_set]
theorem make_u8s (n : Nat) (h : n ≤ 1048576) : ∀ w : World, (Instr.makeSlice 34 (.int .i64 (n : Int)) (.int .i64 (n : Int))).run Try.prog w =
    .ok (.slice (some ⟨w.heap.size, 0, none⟩) n n) (w.alloc (.cells (u8s (List.replicate n 0)).toArray 5)) := by
  intro w
  obtain ⟨i, hi, hz0, hz1, hz2⟩ := info_parts B.info_byte
  have hr := run_make (P := Try.prog) w 34 5 i (.int .u8 0) Try.underlying34 hi hz0 .i64 .i64 n n (by omega) (by omega) (by rw [hz2]; omega) (by omega)
  rw [hr]
  simp only [Value.cells, hz1, Nat.mul_one, madeCells_one, Int.toNat_natCast, u8s_replicate]
theorem byte_mod (i j : Nat) : ((i : Int) + (j : Int)) % 256 = ((UInt8.ofNat (i + j)).toNat : Int) := by
  rw [UInt8.toNat_ofNat']; omega
def recsOf (l : List Int) : List (List UInt8) := (List.range l.length).map fun i => part i (l.getD i 0).toNat (l.getD i 0).toNat
theorem recsOf_len (l : List Int) : (recsOf l).length = l.length := by simp [recsOf]
theorem recsOf_step (l : List Int) (k : Nat) (hk : k < l.length) : (recsOf l).take (k + 1) = (recsOf l).take k ++ [part k (l.getD k 0).toNat (l.getD k 0).toNat] := by
  rw [List.take_succ_eq_append_getElem (by rw [recsOf_len]; exact hk)]
  simp [recsOf]
theorem recsOf_small (l : List Int) (h : ∀ r ∈ l, 0 ≤ r ∧ r ≤ 3000) : ∀ r ∈ recsOf l, r.length ≤ 65536 := by
  intro r hr
  simp only [recsOf, List.mem_map, List.mem_range] at hr
  obtain ⟨i, hi, rfl⟩ := hr
  have := h (l.getD i 0) (by rw [List.getD_eq_getElem?_getD, List.getElem?_eq_getElem hi]; exact List.getElem_mem _)
  rw [part_len]
  omega
theorem enc_recs (l : List Int) (h : ∀ r ∈ l, 0 ≤ r ∧ r ≤ 3000) : ∀ k, k ≤ l.length → ((enc ((recsOf l).take k)).length : Int) = sumL (l.take k)
  | 0, _ => by simp [enc, sumL]
  | k + 1, hk => by
    have ih := enc_recs l h k (by omega)
    have := h (l.getD k 0) (by rw [List.getD_eq_getElem?_getD, List.getElem?_eq_getElem (by omega)]; exact List.getElem_mem _)
    rw [recsOf_step l k (by omega), enc_snoc, List.length_append, List.length_append, le_len, part_len, List.take_succ_eq_append_getElem (by omega), sumL_snoc, Int.natCast_add, ih]
    rw [List.getD_eq_getElem?_getD, List.getElem?_eq_getElem (by omega)] at *
    simp only [Option.getD_some] at *
    omega
theorem sumL_mono (l : List Int) (h : ∀ r ∈ l, 0 ≤ r ∧ r ≤ 3000) (k : Nat) : sumL (l.take k) ≤ sumL l := by
  have e : ∀ a b : List Int, sumL (a ++ b) = sumL a + sumL b := fun a b => by
    induction a with
    | nil => simp [sumL]
    | cons x a ih => simp only [List.cons_append, sumL, ih]; omega
  have h2 := (sumL_bounds (l.drop k) (fun r hr => by have := h r (List.mem_of_mem_drop hr); omega)).1
  have h3 := e (l.take k) (l.drop k)
  rw [List.take_append_drop] at h3
  omega
def sumT : List Int → Int
  | [] => 0
  | r :: l => r + 32 + sumT l
theorem sumT_snoc (l : List Int) (r : Int) : sumT (l ++ [r]) = sumT l + r + 32 := by
  induction l with
  | nil => simp [sumT]
  | cons a l ih => simp only [List.cons_append, sumT, ih]; omega
theorem sumT_bounds (l : List Int) (h : ∀ r ∈ l, 0 ≤ r ∧ r ≤ 3000) : 0 ≤ sumT l ∧ sumT l ≤ 3032 * l.length ∧ sumL l ≤ sumT l := by
  induction l with
  | nil => simp [sumT, sumL]
  | cons a l ih =>
    have h1 := h a (by simp)
    have h2 := ih (fun r hr => h r (by simp [hr]))
    simp only [sumT, sumL, List.length_cons]
    omega
/-- Rows of the caller's own, none of them where t lies. -/
def Mine (w0 w : World) (t v : Value) (ls : List (List UInt8)) : Prop :=
  ∃ xs, w.ownsRow 0 34 1 v ls.length xs ∧ ByteRows 5 w xs ls ∧ (∀ k, v.ownBlock = some k → w0.heap.size ≤ k) ∧ (∀ x ∈ xs, ∀ k, x.ownBlock = some k → t.ownBlock ≠ some k)
theorem Mine.nil (w0 w : World) (t : Value) : Mine w0 w t (.slice none 0 0) [] := ⟨[], ⟨rfl, .inl ⟨rfl, rfl⟩⟩, ByteRows.nil _ _, (fun k hk => by cases hk), (fun x hx => by cases hx)⟩
theorem Far.owned (hF : Far t w w') {e : TypeId} {n : Nat} {x : Value} {cs : List Value} (hx : w.ownsRow 0 e 1 x n cs) (hk : ∀ k, x.ownBlock = some k → t.ownBlock ≠ some k) (e1 : e ≠ 58) (e2 : e ≠ 54) (e3 : e ≠ 71) (e4 : e ≠ 73) : w'.ownsRow 0 e 1 x n cs := by
  refine ⟨hx.1, ?_⟩
  rcases hx.2 with h | ⟨g, cap, cur, rfl, hg, hh, r⟩
  · exact .inl h
  · have hb : Blk w g cur.toList e := by unfold Blk; rw [Array.toArray_toList]; exact hh
    have hb' := hF.keep g _ _ hb e1 e2 e3 e4 (hk g rfl)
    exact .inr ⟨g, cap, cur, rfl, hg, by unfold Blk at hb'; rw [Array.toArray_toList] at hb'; exact hb', r⟩
theorem getD_mem {xs : List Value} {i : Nat} (h : i < xs.length) : xs.getD i undef ∈ xs := by
  rw [List.getD_eq_getElem?_getD, List.getElem?_eq_getElem h]
  exact List.getElem_mem _
theorem Mine.far {w0 : World} {ls : List (List UInt8)} (h : Mine w0 w t v ls) (hF : Far t w w') (hT : ∀ k, t.ownBlock = some k → ∃ cs, Blk w k cs 5) (ht : ∀ k, t'.ownBlock = some k → t.ownBlock = some k ∨ w.heap.size ≤ k) : Mine w0 w' t' v ls := by
  obtain ⟨xs, h1, h2, h3, h4⟩ := h
  refine ⟨xs, hF.owned h1 (fun k hk hk2 => ?_) (by decide) (by decide) (by decide) (by decide), ⟨h2.1, fun i hi => ?_⟩, h3, fun x hx k hk hk2 => ?_⟩
  · obtain ⟨cs, hc⟩ := hT k hk2
    exact owns_ne h1 hc (by decide) hk
  · exact hF.owned (h2.2 i hi) (fun k hk => h4 _ (getD_mem (by rw [h2.1]; exact hi)) k hk) (by decide) (by decide) (by decide) (by decide)
  · rcases ht k hk2 with h5 | h5
    · exact h4 x hx k hk h5
    · obtain ⟨i, hi, rfl⟩ := List.getElem_of_mem hx
      have := h2.2 i (by rw [← h2.1]; exact hi)
      rw [List.getD_eq_getElem?_getD, List.getElem?_eq_getElem hi] at this
      have := owns_lt this hk
      omega
theorem Mine.at {w0 : World} {ls : List (List UInt8)} (h : Mine w0 w t v ls) : RowsAt w v ls := by
  obtain ⟨xs, h1, h2, _⟩ := h
  exact rows_owned h1 h2 rfl
theorem Mine.bare {w0 : World} {ls : List (List UInt8)} (h : Mine w0 w t v ls) : Mine w0 w (.slice none 0 0) v ls := by
  obtain ⟨xs, h1, h2, h3, _⟩ := h
  exact ⟨xs, h1, h2, h3, fun x hx k hk h => by cases h⟩
/-- A row of slices of the caller's own has grown. -/
theorem Logd.beside {l : LS} {M : List Nat} {s : DS} {n : Nat} {rv : Value} {xs : List Value} (h : Logd W w p d v l M s) (hr : w.ownsRow 0 34 1 rv n xs) (hO : Only rv.ownBlock.toList w w') (hW : ∀ k, rv.ownBlock = some k → W.heap.size ≤ k) : Logd W w' p d v l M s where
  dk := h.dk.later hO (owns_foot hr (by decide)) (fun k hk hm => by
    obtain ⟨cs, hc⟩ := owns_own hr (by simpa using hm)
    exact h.dk.off (by decide) (by decide) (by decide) _ hk _ hc)
  lg := ⟨hO.blk h.lg.log (by simp; exact owns_ne hr h.lg.log (by decide)), h.lg.tail.off hO (owns_foot hr (by decide))⟩
  own := h.own.trans hO (fun x hx => .inr (hW x (by simpa using hx)))
  nd := h.nd
  np := h.np
  nv := h.nv
theorem Mine.snoc {w0 : World} {ls : List (List UInt8)} {xs : List Value} {u : Value} {r : List UInt8} {g n cap : Nat} (h1 : w.ownsRow 0 34 1 v ls.length xs) (h2 : ByteRows 5 w xs ls) (h3 : ∀ k, v.ownBlock = some k → w0.heap.size ≤ k) (h4 : ∀ x ∈ xs, ∀ k, x.ownBlock = some k → t.ownBlock ≠ some k)
    (hO : Only v.ownBlock.toList w w') (hn : n = ls.length + 1) (hown : w'.ownsRow 0 34 1 (.slice (some ⟨g, 0, none⟩) n cap) n (xs ++ [u])) (hu : ByteRow 5 w u r) (hut : ∀ k, u.ownBlock = some k → t.ownBlock ≠ some k) (hat : v.ownBlock = some g ∨ g = w.heap.size) (hw0 : w0.heap.size ≤ w.heap.size) :
    Mine w0 w' t (.slice (some ⟨g, 0, none⟩) n cap) (ls ++ [r]) := by
  subst hn
  refine ⟨xs ++ [u], by simpa using hown, (h2.off hO (owns_foot h1 (by decide))).snoc (hu.off hO (owns_foot h1 (by decide))), fun k hk => ?_, fun x hx k hk => ?_⟩
  · simp only [Value.ownBlock, Option.some.injEq] at hk
    subst hk
    rcases hat with h5 | h5
    · exact h3 _ h5
    · omega
  · rw [List.mem_append] at hx
    rcases hx with hx | hx
    · exact h4 x hx k hk
    · simp only [List.mem_cons, List.not_mem_nil, or_false] at hx
      subst hx
      exact hut k hk
/-- Ahead of the k-th record. -/
structure FitsAt (W wx : World) (p d N : Nat) (l : List Int) (k : Nat) (s10 vk : Value) (lk : LS) (Mk : List Nat) (sk : DS) : Prop where
  lg : Logd W wx p d vk lk Mk sk
  live : Live lk sk (enc ((recsOf l).take k))
  at0 : lk.first = 0
  size : lk.size = N
  sure : lk.sure = (enc ((recsOf l).take k)).length
  len : sk.now.length = N
  c0 : 0 ≤ sk.count
  c1 : sk.count ≤ 2 + 20000 * (k : Int)
  mine : Mine W wx vk s10 ((recsOf l).take k)
end Go.Proofs.Ytjbjikigiienkaa.W
