/-
  DiskSure's two disks as plain data: what the fills, the further writes and the restarts leave. No program in sight.
-/
import Derived.Test.YtgifigfdjcgkaaaLTears
namespace Go.Proofs.Ytgifigfdjcgkaaa.D
set_option linter.unusedSimpArgs false
open Go.RowKit
set_option linter.unusedVariables false
set_option maxRecDepth 20000

def fillNow (F : List UInt8) (k : Nat) : List Sector := (F.take k).map (sec · 512) ++ List.replicate (F.length - k) zeros
def fillRow (F : List UInt8) (k : Nat) : List (Nat × Sector) := (List.range k).map fun j => (j, sec (F.getD j 0) 512)
def stF (F : List UInt8) (k : Nat) : DS := ⟨fillNow F k, List.replicate F.length zeros, fillRow F k, k, 0, -1, false⟩
theorem fillNow_len (F : List UInt8) (k : Nat) (h : k ≤ F.length) : (fillNow F k).length = F.length := by simp [fillNow]; omega
theorem fillNow_step (F : List UInt8) (k : Nat) (h : k < F.length) : (fillNow F k).set k (sec (F.getD k 0) 512) = fillNow F (k + 1) := by
  have h2 : List.replicate (F.length - k) zeros = zeros :: List.replicate (F.length - (k + 1)) zeros := by
    rw [← List.replicate_succ]; congr 1; omega
  have hl : ((F.take k).map (sec · 512)).length = k := by rw [List.length_map, List.length_take]; omega
  rw [fillNow, fillNow, h2, List.set_append_right _ _ (by omega), hl, Nat.sub_self, List.take_succ_eq_append_getElem h]
  rw [List.getD_eq_getElem?_getD, List.getElem?_eq_getElem h]
  simp only [List.set_cons_zero, List.map_append, List.map_cons, List.map_nil, List.append_assoc, List.cons_append, List.nil_append, Option.getD_some]
theorem fillRow_step (F : List UInt8) (k : Nat) : fillRow F (k + 1) = fillRow F k ++ [(k, sec (F.getD k 0) 512)] := by simp [fillRow, List.range_succ]
theorem fillRow_fold (F : List UInt8) : ∀ k, k ≤ F.length → (fillRow F k).foldl (fun l x => l.set x.1 x.2) (List.replicate F.length zeros) = fillNow F k
  | 0, _ => by simp [fillRow, fillNow]
  | k + 1, h => by
    rw [fillRow_step, List.foldl_append, fillRow_fold F k (by omega)]
    exact fillNow_step F k (by omega)
theorem stF_zero (F : List UInt8) : DS.fresh F.length = stF F 0 := by simp [DS.fresh, stF, fillNow, fillRow]
theorem stF_write (F : List UInt8) (k : Nat) (h : k < F.length) : (stF F k).write k (sec (F.getD k 0) 512) = (stF F (k + 1), 0) := by
  refine (write_ok (s := stF F k) (i := k) (l := sec (F.getD k 0) 512) (by simp [stF, DS.err]) (by simp only [stF]; rw [fillNow_len _ _ (by omega)]; exact h) (sec_len _ _)).trans ?_
  have e1 : ((k : Int) + 1) = ((k + 1 : Nat) : Int) := by omega
  simp only [DS.changed, stF, dec0, dec1, fillNow_step F k h, fillRow_step, e1, Bool.false_or, show ((-1 : Int) == 0) = false from rfl]
theorem stF_num (F : List UInt8) (k : Nat) (h : k ≤ 30) : 0 ≤ (stF F k).count ∧ (stF F k).count ≤ 1099511627776 ∧ (stF F k).row.length ≤ 1048575 := by
  refine ⟨?_, ?_, ?_⟩ <;> simp [stF, fillRow] <;> omega
def W0 (F : List UInt8) : List Sector := F.map (sec · 512)
theorem W0_step (F : List UInt8) (j : Nat) (h : j < F.length) : (W0 F).take (j + 1) = (W0 F).take j ++ [sec (F.getD j 0) 512] := by
  rw [W0, List.take_succ_eq_append_getElem (by rw [List.length_map]; exact h), List.getD_eq_getElem?_getD, List.getElem?_eq_getElem h]
  simp only [List.getElem_map, Option.getD_some]
theorem W0_len (F : List UInt8) : (W0 F).length = F.length := by simp [W0]
theorem fillNow_all (F : List UInt8) : fillNow F F.length = W0 F := by simp [fillNow, W0]

/-- The further writes. -/
def moreRow (n : Nat) (Mo : List UInt8) (m : Nat) : List (Nat × Sector) := (Mo.take m).map fun b => (b.toNat % n, sec (b + 1) 512)
def stM (F Mo : List UInt8) (m : Nat) : DS := ⟨(moreRow F.length Mo m).foldl (fun l x => l.set x.1 x.2) (W0 F), W0 F, moreRow F.length Mo m, ((F.length + 1 + m : Nat) : Int), 0, -1, false⟩
theorem stF_sync (F : List UInt8) (Mo : List UInt8) : (stF F F.length).sync = (stM F Mo 0, 0) := by
  refine (sync_ok (by simp [stF, DS.err])).trans ?_
  have h : ((stF F F.length).row.take (stF F F.length).row.length).foldl (fun l x => l.set x.1 x.2) (stF F F.length).sure = W0 F := by
    rw [List.take_length]
    exact (fillRow_fold F F.length (Nat.le_refl _)).trans (fillNow_all F)
  have e : (stF F F.length).changed.synced = stM F Mo 0 := by
    show DS.mk (fillNow F F.length) (((stF F F.length).row.take (stF F F.length).row.length).foldl (fun l x => l.set x.1 x.2) (stF F F.length).sure) [] (((F.length : Nat) : Int) + 1) (dec 0 0) (dec (-1) (-1)) _ = _
    rw [h, fillNow_all, dec0, dec1]
    rfl
  rw [e]
theorem fold_len (r : List (Nat × Sector)) : ∀ l : List Sector, (r.foldl (fun l x => l.set x.1 x.2) l).length = l.length := by
  induction r with
  | nil => intro l; rfl
  | cons x r ih => intro l; rw [List.foldl_cons, ih, List.length_set]
theorem moreRow_step (n : Nat) (Mo : List UInt8) (m : Nat) (h : m < Mo.length) : moreRow n Mo (m + 1) = moreRow n Mo m ++ [((Mo.getD m 0).toNat % n, sec (Mo.getD m 0 + 1) 512)] := by
  rw [moreRow, List.take_succ_eq_append_getElem h, List.getD_eq_getElem?_getD, List.getElem?_eq_getElem h]
  simp only [moreRow, List.map_append, List.map_cons, List.map_nil, Option.getD_some]
theorem moreRow_len (n : Nat) (Mo : List UInt8) (m : Nat) (h : m ≤ Mo.length) : (moreRow n Mo m).length = m := by simp [moreRow]; omega
theorem stM_num (F Mo : List UInt8) (m : Nat) (h : F.length ≤ 30) (h1 : m ≤ Mo.length) (h2 : Mo.length ≤ 40) : 0 ≤ (stM F Mo m).count ∧ (stM F Mo m).count ≤ 1099511627776 ∧ (stM F Mo m).row.length ≤ 1048575 := by
  refine ⟨?_, ?_, ?_⟩ <;> simp [stM, moreRow] <;> omega
theorem stM_write (F Mo : List UInt8) (m : Nat) (hn : 0 < F.length) (h : m < Mo.length) :
    (stM F Mo m).write ((Mo.getD m 0).toNat % F.length : Nat) (sec (Mo.getD m 0 + 1) 512) = (stM F Mo (m + 1), 0) := by
  refine (write_ok (s := stM F Mo m) (i := (Mo.getD m 0).toNat % F.length) (l := sec (Mo.getD m 0 + 1) 512) (by simp [stM, DS.err]) (by simp only [stM]; rw [fold_len, W0_len]; exact Nat.mod_lt _ hn) (sec_len _ _)).trans ?_
  have e1 : ((F.length + 1 + m : Nat) : Int) + 1 = ((F.length + 1 + (m + 1) : Nat) : Int) := by omega
  simp only [DS.changed, stM, dec0, dec1, moreRow_step _ _ _ h, List.foldl_append, List.foldl_cons, List.foldl_nil, e1, Bool.false_or, show ((-1 : Int) == 0) = false from rfl]

/-- What the law wants behind so many writes, of each so many bytes kept. -/
def want (F Mo : List UInt8) (keep : List Int) : Nat → List Sector
  | 0 => W0 F
  | m + 1 => (want F Mo keep m).set ((Mo.getD m 0).toNat % F.length) (tear ((want F Mo keep m).getD ((Mo.getD m 0).toNat % F.length) []) (sec (Mo.getD m 0 + 1) 512) (kept keep m))
def full (F Mo : List UInt8) : Nat → List Sector
  | 0 => W0 F
  | m + 1 => (full F Mo m).set ((Mo.getD m 0).toNat % F.length) (sec (Mo.getD m 0 + 1) 512)
theorem want_len (F Mo : List UInt8) (keep : List Int) : ∀ m, (want F Mo keep m).length = F.length
  | 0 => W0_len F
  | m + 1 => by rw [want, List.length_set]; exact want_len F Mo keep m
theorem full_len (F Mo : List UInt8) : ∀ m, (full F Mo m).length = F.length
  | 0 => W0_len F
  | m + 1 => by rw [full, List.length_set]; exact full_len F Mo m
theorem getD_set_len {ls : List Sector} (h : ∀ i, i < ls.length → (ls.getD i []).length = 512) {k : Nat} {l : Sector} (hl : l.length = 512) : ∀ i, i < (ls.set k l).length → ((ls.set k l).getD i []).length = 512 := by
  intro i hi
  rw [List.length_set] at hi
  by_cases e : k = i
  · subst e; rw [List.getD_eq_getElem?_getD, List.getElem?_set_self hi]; exact hl
  · rw [List.getD_eq_getElem?_getD, List.getElem?_set_ne e, ← List.getD_eq_getElem?_getD]; exact h i hi
theorem W0_sec (F : List UInt8) : ∀ i, i < (W0 F).length → ((W0 F).getD i []).length = 512 := by
  intro i hi
  rw [List.getD_eq_getElem?_getD, List.getElem?_eq_getElem hi]
  simp [W0, sec_len]
theorem want_sec (F Mo : List UInt8) (keep : List Int) (hn : 0 < F.length) : ∀ m i, i < (want F Mo keep m).length → ((want F Mo keep m).getD i []).length = 512
  | 0 => W0_sec F
  | m + 1 => getD_set_len (want_sec F Mo keep hn m) (tear_len (want_sec F Mo keep hn m _ (by rw [want_len]; exact Nat.mod_lt _ hn)) (sec_len _ _))
theorem full_sec (F Mo : List UInt8) : ∀ m i, i < (full F Mo m).length → ((full F Mo m).getD i []).length = 512
  | 0 => W0_sec F
  | m + 1 => getD_set_len (full_sec F Mo m) (sec_len _ _)
theorem row_get (F Mo : List UInt8) (m k : Nat) (hk : k < m) (hm : m ≤ Mo.length) : (stM F Mo m).row.getD k (0, []) = ((Mo.getD k 0).toNat % F.length, sec (Mo.getD k 0 + 1) 512) := by
  show (moreRow F.length Mo m).getD k (0, []) = _
  rw [List.getD_eq_getElem?_getD, moreRow, List.getElem?_map, List.getElem?_take, if_pos hk, List.getElem?_eq_getElem (by omega), List.getD_eq_getElem?_getD, List.getElem?_eq_getElem (by omega)]
  rfl
theorem torn_want (F Mo : List UInt8) (keep : List Int) (m : Nat) (hn : 0 < F.length) (hm : m ≤ Mo.length) : ∀ k, k ≤ m → tornTo (stM F Mo m) keep k = want F Mo keep k
  | 0, _ => rfl
  | k + 1, h => by
    rw [tornTo, torn_want F Mo keep m hn hm k (by omega), row_get F Mo m k (by omega) hm, tearOne_eq _ _ _ _ (by rw [want_len]; exact Nat.mod_lt _ hn)]
    simp only [want, tear]
theorem torn_full (F Mo : List UInt8) (m : Nat) (hn : 0 < F.length) (hm : m ≤ Mo.length) : ∀ k, k ≤ m → tornTo (stM F Mo m) (List.replicate m 512) k = full F Mo k
  | 0, _ => rfl
  | k + 1, h => by
    have hk : kept (List.replicate m 512) k = 512 := by
      unfold kept
      rw [List.getD_eq_getElem?_getD, List.getElem?_replicate, if_pos (by omega), Option.getD_some]
      decide
    rw [tornTo, torn_full F Mo m hn hm k (by omega), row_get F Mo m k (by omega) hm, tearOne_eq _ _ _ _ (by rw [full_len]; exact Nat.mod_lt _ hn), hk]
    have hl := full_sec F Mo k ((Mo.getD k 0).toNat % F.length) (by rw [full_len]; exact Nat.mod_lt _ hn)
    show (full F Mo k).set _ ((sec (Mo.getD k 0 + 1) 512).take 512 ++ ((full F Mo k).getD _ []).drop 512) = _
    rw [List.take_of_length_le (by rw [sec_len]; exact Nat.le_refl _), List.drop_of_length_le (by rw [hl]; exact Nat.le_refl _), List.append_nil]
    simp only [full]
theorem want_zero (F Mo : List UInt8) (keep : List Int) : want F Mo keep 0 = W0 F := rfl
theorem full_zero (F Mo : List UInt8) : full F Mo 0 = W0 F := rfl
/-- Behind the restart. -/
def stR (F Mo : List UInt8) (W : List Sector) : DS := ⟨W, W, [], ((F.length + 1 + Mo.length : Nat) : Int), 0, -1, false⟩
theorem restart_want (F Mo : List UInt8) (keep : List Int) (hn : 0 < F.length) : (stM F Mo Mo.length).restart keep = stR F Mo (want F Mo keep Mo.length) := by
  have hl : (stM F Mo Mo.length).row.length = Mo.length := moreRow_len _ _ _ (Nat.le_refl _)
  unfold DS.restart
  rw [hl, torn_want F Mo keep Mo.length hn (Nat.le_refl _) _ (Nat.le_refl _)]
  simp only [stM, stR]
theorem restart_full (F Mo : List UInt8) (hn : 0 < F.length) : (stM F Mo Mo.length).restart (List.replicate Mo.length 512) = stR F Mo (full F Mo Mo.length) := by
  have hl : (stM F Mo Mo.length).row.length = Mo.length := moreRow_len _ _ _ (Nat.le_refl _)
  unfold DS.restart
  rw [hl, torn_full F Mo Mo.length hn (Nat.le_refl _) _ (Nat.le_refl _)]
  simp only [stM, stR]
theorem stR_read (F Mo : List UInt8) (W : List Sector) (i : Nat) (h : i < W.length) : (stR F Mo W).read i = (W.getD i [], 0) := by
  unfold DS.read
  rw [if_neg (by simp [stR]), if_neg (by simp only [stR]; omega)]
  rfl
end Go.Proofs.Ytgifigfdjcgkaaa.D
