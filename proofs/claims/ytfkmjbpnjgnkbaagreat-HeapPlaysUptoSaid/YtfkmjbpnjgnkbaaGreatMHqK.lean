import Derived.Test.YtfkmjbpnjgnkbaaGreatMHqE
import Derived.Test.YtfkmjbpnjgnkbaaGreatMRowOnS
import Derived.Test.YtfkmjbpnjgnkbaaGreatMRegionY
import Derived.Test.YtfkmjbpnjgnkbaaGreatMQuietT
/-
  The law on rows of calls of a heap: what its rows say of the heap: plain data. No program in sight.
-/
namespace Go.Proofs.YtfkmjbpnjgnkbaaGreat.H
set_option linter.unusedSimpArgs false
open Go Go.RowKit Go.Proofs.YtfkmjbpnjgnkbaaGreat.D Go.Proofs.YtfkmjbpnjgnkbaaGreat.B Go.Proofs.YtfkmjbpnjgnkbaaGreat.C Go.Proofs.YtfkmjbpnjgnkbaaGreat.G Go.Proofs.YtfkmjbpnjgnkbaaGreat.P
set_option linter.unusedVariables false
/-- The rows tell what versions there are. -/
def Tells (V : Nat → Option Ver) (l : List MRow) : Prop := Vers V (l.map MRow.rid) (fun j => (l.getD j mz).ver)
theorem rid_at {l : List MRow} {j : Nat} (h : j < l.length) : (l.map MRow.rid).getD j 0 = (l.getD j mz).rid := by
  rw [List.getD_eq_getElem?_getD, List.getElem?_map, List.getD_eq_getElem?_getD, List.getElem?_eq_getElem h]; rfl
theorem Tells.at_ {V : Nat → Option Ver} {l : List MRow} (h : Tells V l) {j : Nat} (hj : j < l.length) : V (l.getD j mz).rid = some (l.getD j mz).ver := by
  have := Vers.at_ h j (by rw [List.length_map]; exact hj)
  rw [rid_at hj] at this
  exact this
theorem Tells.ok {V : Nat → Option Ver} {l : List MRow} (h : Tells V l) {j : Nat} (hj : j < l.length) : 1 ≤ (l.getD j mz).rid ∧ (l.getD j mz).rid < W64 := by
  have := Vers.ok h ((l.map MRow.rid).getD j 0) (getD_mem (by rw [List.length_map]; exact hj))
  rw [rid_at hj] at this
  exact this
theorem atR_none_mem {l : List MRow} {r : Nat} (h : atR l r = -1) : r ∉ l.map MRow.rid := fun hm => by
  unfold atR at h
  have hlt : l.findIdx (fun m => m.rid == r) < l.length := by
    rw [List.findIdx_lt_length]
    obtain ⟨m, hm1, hm2⟩ := List.mem_map.1 hm
    exact ⟨m, hm1, by simpa using hm2⟩
  rw [if_pos hlt] at h
  omega
/-- The model's look-up is the heap's. -/
theorem Tells.verL {V : Nat → Option Ver} {l : List MRow} (h : Tells V l) : H.verL l = V := by
  funext r
  rcases atR_cases l r with h1 | ⟨i, hi, h2, he⟩
  · rw [verL_none h1]
    cases hv : V r with
    | none => rfl
    | some v => exact absurd (Vers.only h r (by rw [hv]; simp)) (atR_none_mem h1)
  · rw [verL_some h2, ← he, h.at_ hi]
theorem Tells.none {V : Nat → Option Ver} {l : List MRow} (h : Tells V l) {r : Nat} (hr : atR l r = -1) : V r = none := by
  rw [← h.verL]; exact verL_none hr
theorem Tells.nil {V : Nat → Option Ver} (h : ∀ x, V x = Option.none) : Tells V [] := Vers.nil h _
theorem Tells.put {V V' : Nat → Option Ver} {l : List MRow} (h : Tells V l) {r : Nat} {rv : Value} {ver : Ver} (hp : Put V V' r ver) (h1 : 1 ≤ r) (h2 : r < W64) : Tells V' (l ++ [⟨r, rv, ver⟩]) := by
  unfold Tells
  rw [List.map_append]
  have hl : l.length = (l.map MRow.rid).length := by simp
  have hg : Vers V (l.map MRow.rid) (fun j => ((l ++ [(⟨r, rv, ver⟩ : MRow)]).getD j mz).ver) :=
    ⟨Vers.nodup h, fun j hj => by
      rw [Vers.at_ h j hj]
      have hj' : j < l.length := by simpa using hj
      rw [List.getD_eq_getElem?_getD, List.getD_eq_getElem?_getD, List.getElem?_append_left hj'], Vers.only h, Vers.ok h⟩
  exact hg.put hp (by
    rw [← hl, List.getD_eq_getElem?_getD, List.getElem?_append_right (Nat.le_refl _), Nat.sub_self]; rfl) h1 h2
/-- One row's version is changed. -/
def setVer (l : List MRow) (k : Nat) (ver : Ver) : List MRow := l.set k { l.getD k mz with ver := ver }
theorem setVer_rid (l : List MRow) (k : Nat) (ver : Ver) : (setVer l k ver).map MRow.rid = l.map MRow.rid := by
  unfold setVer
  rw [List.map_set]
  rcases Nat.lt_or_ge k l.length with hk | hk
  · refine List.ext_getElem (by simp) fun i h1 h2 => ?_
    rw [List.getElem_set]
    split
    · rename_i e
      subst e
      rw [List.getElem_map, List.getD_eq_getElem?_getD, List.getElem?_eq_getElem hk]; rfl
    · rfl
  · rw [List.set_eq_of_length_le (by simpa using hk)]
theorem setVer_get {l : List MRow} {k : Nat} (hk : k < l.length) (ver : Ver) (j : Nat) : ((setVer l k ver).getD j mz).ver = if j = k then ver else (l.getD j mz).ver := by
  unfold setVer
  rw [List.getD_eq_getElem?_getD, List.getElem?_set]
  by_cases e : k = j
  · subst e; rw [if_pos rfl, if_pos hk, if_pos rfl]; rfl
  · rw [if_neg e, if_neg (fun h => e h.symm), ← List.getD_eq_getElem?_getD]
theorem Tells.set {V V' : Nat → Option Ver} {l : List MRow} (h : Tells V l) {k : Nat} (hk : k < l.length) {ver : Ver} (hv : V' (l.getD k mz).rid = some ver) (hr : ∀ x, x ≠ (l.getD k mz).rid → V' x = V x) : Tells V' (setVer l k ver) := by
  unfold Tells
  rw [setVer_rid]
  exact Vers.stamp h (i := k) (by rw [List.length_map]; exact hk) (by rw [rid_at hk, hv, setVer_get hk, if_pos rfl]) (fun x hx => hr x (by rw [rid_at hk] at hx; exact hx)) (fun j hj => by rw [setVer_get hk, if_neg hj])
/-- One row is taken out. -/
theorem Tells.out {V V' : Nat → Option Ver} {l : List MRow} (h : Tells V l) {k : Nat} (hk : k < l.length) (hv : V' (l.getD k mz).rid = Option.none) (hr : ∀ x, x ≠ (l.getD k mz).rid → V' x = V x) : Tells V' (l.take k ++ l.drop (k + 1)) := by
  have hnd := Vers.nodup h
  have he : l.map MRow.rid = (l.take k).map MRow.rid ++ (l.getD k mz).rid :: (l.drop (k + 1)).map MRow.rid := by
    rw [← List.map_cons, ← List.map_append]
    congr 1
    rw [List.getD_eq_getElem?_getD, List.getElem?_eq_getElem hk]
    exact (List.take_append_drop k l).symm.trans (by rw [List.drop_eq_getElem_cons hk]; rfl)
  rw [he] at hnd
  have hmem : ∀ x, x ∈ (l.take k ++ l.drop (k + 1)).map MRow.rid → x ∈ l.map MRow.rid ∧ x ≠ (l.getD k mz).rid := fun x hx => by
    rw [List.map_append] at hx
    rw [he]
    rw [List.nodup_append] at hnd
    rcases List.mem_append.1 hx with h1 | h1
    · exact ⟨List.mem_append.2 (.inl h1), hnd.2.2 x h1 _ (by simp)⟩
    · refine ⟨List.mem_append.2 (.inr (List.mem_cons_of_mem _ h1)), fun e => ?_⟩
      have := (List.nodup_cons.1 hnd.2.1).1
      exact this (e ▸ h1)
  have hget : ∀ j, (l.take k ++ l.drop (k + 1)).getD j mz = l.getD (if j < k then j else j + 1) mz := fun j => by
    rw [List.getD_eq_getElem?_getD, List.getD_eq_getElem?_getD]
    have hl : (l.take k).length = k := by rw [List.length_take]; omega
    by_cases hj : j < k
    · rw [if_pos hj, List.getElem?_append_left (by omega), List.getElem?_take, if_pos hj]
    · rw [if_neg hj, List.getElem?_append_right (by omega), List.getElem?_drop, hl]
      congr 2; omega
  refine ⟨?_, fun j hj => ?_, fun x hx => ?_, fun x hx => Vers.ok h x (hmem x hx).1⟩
  · rw [List.map_append]
    exact hnd.sublist (List.Sublist.append_left (List.sublist_cons_self _ _) _)
  · have hj' : j < (l.take k ++ l.drop (k + 1)).length := by simpa using hj
    rw [rid_at hj']
    have hin : ((l.take k ++ l.drop (k + 1)).getD j mz).rid ∈ (l.take k ++ l.drop (k + 1)).map MRow.rid := by
      rw [← rid_at hj']; exact getD_mem hj
    have hm := (hmem _ hin).2
    rw [hr _ hm]
    rw [hget] at *
    rw [List.length_append, List.length_take, List.length_drop] at hj'
    exact h.at_ (by split <;> omega)
  · by_cases e : x = (l.getD k mz).rid
    · rw [e] at hx; exact absurd hv hx
    · rw [hr x e] at hx
      have := Vers.only h x hx
      rw [he] at this
      rw [List.map_append]
      rcases List.mem_append.1 this with h1 | h1
      · exact List.mem_append.2 (.inl h1)
      · rcases List.mem_cons.1 h1 with h2 | h2
        · exact absurd h2 e
        · exact List.mem_append.2 (.inr h2)
/-- All of the heap is all of the rows. -/
theorem Tells.all {u : List Bool} {pg : Nat → List UInt8} {ids : List Nat} (hI : HeapIs u pg 0 ids) {l : List MRow} (h : Tells (verR pg ids) l) : risen (ridsOf pg ids) = risen (l.map MRow.rid) ∧ (ridsOf pg ids).length = l.length := by
  have hp := live_rids hI (Vers.live h)
  refine ⟨?_, by rw [hp.length_eq, List.length_map]⟩
  unfold risen
  congr 1
  have h1 := IR.rising_perm ((ridsOf pg ids).map fun j => ((j : Nat) : Int))
  have h2 := IR.rising_sorted ((ridsOf pg ids).map fun j => ((j : Nat) : Int))
  have e : (IR.rising ((ridsOf pg ids).map fun j => ((j : Nat) : Int))).toArray.toList = IR.rising ((l.map MRow.rid).map fun j => ((j : Nat) : Int)) := by
    refine sorted_rising (by simpa using h1.trans (hp.map _)) (fun i j _ hij hj => ?_)
    have hj' : j < (IR.rising ((ridsOf pg ids).map fun j => ((j : Nat) : Int))).length := by simpa using hj
    have := List.pairwise_iff_getElem.1 h2 i j (by omega) hj' hij
    simp only [Sort.ltInt, decide_eq_false_iff_not]
    rw [getElem!_pos _ i (by simpa using (show i < _ by omega)), getElem!_pos _ j (by simpa using hj')]
    simp only [List.getElem_toArray]
    omega
  simpa using e
end Go.Proofs.YtfkmjbpnjgnkbaaGreat.H

/-
  The law on rows of calls of a heap: its rows in memory; what it holds between two calls.
-/
namespace Go.Proofs.YtfkmjbpnjgnkbaaGreat.H
set_option linter.unusedSimpArgs false
open Go Go.RowKit Go.Proofs.YtfkmjbpnjgnkbaaGreat Go.Proofs.YtfkmjbpnjgnkbaaGreat.D Go.Proofs.YtfkmjbpnjgnkbaaGreat.B Go.Proofs.YtfkmjbpnjgnkbaaGreat.C Go.Proofs.YtfkmjbpnjgnkbaaGreat.G Go.Proofs.YtfkmjbpnjgnkbaaGreat.P
set_option linter.unusedVariables false
/-! ### cells of rows -/
def flatR (l : List MRow) : List Value := l.flatMap rowC
theorem flatR_len : ∀ l : List MRow, (flatR l).length = l.length * 5
  | [] => rfl
  | m :: l => by
    have e : flatR (m :: l) = rowC m ++ flatR l := by simp [flatR]
    rw [e, List.length_append, flatR_len l, List.length_cons, Nat.add_mul]
    show 5 + _ = _
    omega
theorem flatR_append (l k : List MRow) : flatR (l ++ k) = flatR l ++ flatR k := by simp [flatR]
theorem flatR_take : ∀ (l : List MRow) (k : Nat), (flatR l).take (k * 5) = flatR (l.take k)
  | [], k => by simp [flatR]
  | m :: l, 0 => by simp [flatR]
  | m :: l, k + 1 => by
    have e : ∀ l, flatR (m :: l) = rowC m ++ flatR l := fun l => by simp [flatR]
    rw [List.take_succ_cons, e, e, ← flatR_take l k, List.take_append, show (rowC m).length = 5 from rfl, List.take_of_length_le (by show 5 ≤ _; omega)]
    congr 2
    omega
theorem flatR_drop (l : List MRow) (k : Nat) : (flatR l).drop (k * 5) = flatR (l.drop k) := by
  have h := flatR_append (l.take k) (l.drop k)
  rw [List.take_append_drop] at h
  rcases Nat.lt_or_ge l.length k with hk | hk
  · rw [List.drop_of_length_le (by rw [flatR_len]; omega), List.drop_of_length_le (by omega)]; rfl
  · have hl : (flatR (l.take k)).length = k * 5 := by rw [flatR_len, List.length_take, Nat.min_eq_left hk]
    rw [h, ← hl, List.drop_left]
theorem flatR_get {l : List MRow} {i j : Nat} (hi : i < l.length) (hj : j < 5) : (flatR l)[i * 5 + j]? = (rowC (l.getD i mz))[j]? := by
  have h := flatR_append (l.take i) (l.drop i)
  rw [List.take_append_drop, List.drop_eq_getElem_cons hi] at h
  have hl : (flatR (l.take i)).length = i * 5 := by rw [flatR_len, List.length_take, Nat.min_eq_left (by omega)]
  have e : ∀ (m : MRow) (k : List MRow), flatR (m :: k) = rowC m ++ flatR k := fun m k => by simp [flatR]
  rw [h, List.getElem?_append_right (by omega), hl, e, List.getElem?_append_left (by show _ < 5; omega), show i * 5 + j - i * 5 = j by omega, List.getD_eq_getElem?_getD, List.getElem?_eq_getElem hi]
  rfl
theorem rowC_one (m : MRow) (h : m.rv.oneCell' = true) : ∀ u ∈ rowC m, u.oneCell' = true := fun u hu => by
  simp only [rowC, List.mem_cons, List.not_mem_nil, or_false] at hu
  rcases hu with rfl | rfl | rfl | rfl | rfl <;> first | rfl | exact h
/-- The rows lie in memory. -/
theorem rows_at {w : World} {v : Value} {l : List MRow} (h : RowOn w 52 5 v l.length (flatR l)) : RowsAt w v l := by
  obtain ⟨ao, cap, rfl, hc, hx⟩ := h.shape
  refine ⟨ao, cap, rfl, hc, fun h0 => ?_⟩
  obtain ⟨g, rfl, hcell⟩ := hx h0
  refine ⟨g, 0, rfl, fun i hi j hj => ?_⟩
  rw [Nat.zero_add, hcell (i * 5 + j) (by omega), flatR_get hi hj]
/-- What the law holds between two calls. -/
structure PlayL (w0 : World) (p hb : Nat) (B Mx : Nat) (rows : List MRow) (v : Value) (k : Nat) (M : List Nat) (u : List Bool) (pg : Nat → List UInt8) (ids : List Nat) (w : World) : Prop where
  heap : HeapL w0 p hb 400 M u pg ids k w
  tells : Tells (verR pg ids) rows
  fits : Fits pg ids B Mx
  row : RowOn w 52 5 v rows.length (flatR rows)
  rowNew : ∀ x, v.ownBlock = some x → w0.heap.size ≤ x ∧ x ∉ M ∧ x ≠ hb
  bytes : ∀ m ∈ rows, ByteRow 5 w m.rv m.ver.row ∧ ∀ x, m.rv.ownBlock = some x → w0.heap.size ≤ x ∧ x ∉ M
theorem PlayL.past {w0 w w' : World} {p hb B Mx k : Nat} {rows : List MRow} {v : Value} {M ids : List Nat} {u : List Bool} {pg : Nat → List UInt8} (h : PlayL w0 p hb B Mx rows v k M u pg ids w) (hO : Only [] w w') : PlayL w0 p hb B Mx rows v k M u pg ids w' :=
  ⟨h.heap.past hO, h.tells, h.fits, h.row.past hO, h.rowNew, fun m hm => ⟨owns_later (h.bytes m hm).1 hO (by simp), (h.bytes m hm).2⟩⟩
/-- A call of the heap that leaves the rows as they are. -/
theorem PlayL.step {w0 w w' : World} {p hb B Mx k k' : Nat} {rows : List MRow} {v : Value} {M M' ids : List Nat} {u : List Bool} {pg : Nat → List UInt8} (h : PlayL w0 p hb B Mx rows v k M u pg ids w) (hH : HeapL w0 p hb 400 M' u pg ids k' w') (hS : Step M M' w w') : PlayL w0 p hb B Mx rows v k' M' u pg ids w' :=
  ⟨hH, h.tells, h.fits, h.row.later hS.1 (fun x hx => (h.rowNew x hx).2.1), fun x hx => ⟨(h.rowNew x hx).1, P.Step.keep hS (h.row.lt hx) (h.rowNew x hx).2.1, (h.rowNew x hx).2.2⟩,
    fun m hm => ⟨owns_later (h.bytes m hm).1 hS.1 (fun x hx => ((h.bytes m hm).2 x hx).2), fun x hx => ⟨((h.bytes m hm).2 x hx).1, P.Step.keep hS (owns_lt (h.bytes m hm).1 hx) ((h.bytes m hm).2 x hx).2⟩⟩⟩
end Go.Proofs.YtfkmjbpnjgnkbaaGreat.H

/-
  The law on rows of calls of a heap: the heap's calls, as the law sees them.
-/
namespace Go.Proofs.YtfkmjbpnjgnkbaaGreat.H
set_option linter.unusedSimpArgs false
open Go Go.RowKit Go.Proofs.YtfkmjbpnjgnkbaaGreat Go.Proofs.YtfkmjbpnjgnkbaaGreat.D Go.Proofs.YtfkmjbpnjgnkbaaGreat.B Go.Proofs.YtfkmjbpnjgnkbaaGreat.C Go.Proofs.YtfkmjbpnjgnkbaaGreat.G Go.Proofs.YtfkmjbpnjgnkbaaGreat.P
set_option linter.unusedVariables false
section
variable {w0 w : World} {p hb B Mx k : Nat} {rows : List MRow} {v : Value} {M ids : List Nat} {u : List Bool} {pg : Nat → List UInt8}
theorem PlayL.ver {r i : Nat} (h : PlayL w0 p hb B Mx rows v k M u pg ids w) (hi : atR rows r = (i : Nat)) : i < rows.length ∧ (rows.getD i mz).rid = r ∧ verR pg ids r = some (rows.getD i mz).ver := by
  rcases atR_cases rows r with h1 | ⟨j, hj, h2, he⟩
  · omega
  · have : i = j := by omega
    subst this
    exact ⟨hj, he, by rw [← he]; exact h.tells.at_ hj⟩
theorem PlayL.getYes (h : PlayL w0 p hb B Mx rows v k M u pg ids w) (hk : k ≤ 1000000) {r i : Nat} (hi : atR rows r = (i : Nat)) :
    Calls Tryz.prog 21 #[.pointer (some ⟨hb, 0, none⟩), .int .u64 r] w fun e w' => ∃ g c M', e = .returned (.tuple #[verAgg (.slice (some ⟨g, 0, none⟩) (rows.getD i mz).ver.row.length c) (rows.getD i mz).ver, .int .i64 0]) ∧ ByteRow 5 w' (.slice (some ⟨g, 0, none⟩) (rows.getD i mz).ver.row.length c) (rows.getD i mz).ver.row ∧ w.heap.size ≤ g ∧ g ∉ M' ∧ PlayL w0 p hb B Mx rows v (k + 2) M' u pg ids w' := by
  obtain ⟨_, _, hv⟩ := h.ver hi
  refine (hget_yes h.heap.pool hk h.heap.hp h.heap.hbM h.heap.is_ r (verR_some hv)).mono ?_
  rintro e w' ⟨g, c, M', rfl, hr, hg, hM, hP, hS⟩
  exact ⟨g, c, M', rfl, hr, hg, hM, h.step (h.heap.step hP hS h.heap.is_ h.heap.own h.heap.zero rfl) hS⟩
theorem PlayL.getNo (h : PlayL w0 p hb B Mx rows v k M u pg ids w) (hk : k ≤ 1000000) {r : Nat} (hr : r < W64) (hi : atR rows r = -1) :
    Calls Tryz.prog 21 #[.pointer (some ⟨hb, 0, none⟩), .int .u64 r] w fun e w' => ∃ M', e = .returned (.tuple #[verAgg (.slice none 0 0) ⟨[], 0, 0, 0⟩, .int .i64 91]) ∧ PlayL w0 p hb B Mx rows v (k + 2) M' u pg ids w' := by
  refine (hget_no h.heap.pool hk h.heap.hp h.heap.hbM h.heap.is_ r hr (verR_none h.heap.own (h.tells.none hi))).mono ?_
  rintro e w' ⟨rfl, M', hP, hS⟩
  exact ⟨M', rfl, h.step (h.heap.step hP hS h.heap.is_ h.heap.own h.heap.zero rfl) hS⟩
theorem PlayL.chainYes (h : PlayL w0 p hb B Mx rows v k M u pg ids w) (hl : rows.length ≤ 1000) (hk : k + 2 * rows.length + 10 ≤ 1000000) {r i : Nat} (hr : r < W64) (hi : atR rows r = (i : Nat)) :
    Calls Tryz.prog 16 #[.pointer (some ⟨hb, 0, none⟩), .int .u64 r] w fun e w' => ∃ v5 M', e = .returned (.tuple #[v5, .int .i64 0]) ∧ RidRow w' v5 (chainP (verL rows) (rows.length + 1) [] r) ∧ PlayL w0 p hb B Mx rows v (k + 2 * rows.length + 4) M' u pg ids w' := by
  obtain ⟨_, _, hv⟩ := h.ver hi
  rw [h.tells.verL]
  have hfin := fin_of (Vers.only h.tells)
  rw [List.length_map] at hfin
  refine (h.heap.chain hr hv rows.length hfin hk (by omega)).mono ?_
  rintro e w' ⟨v5, M', rfl, hrow, _, hH, hS⟩
  exact ⟨v5, M', rfl, hrow, h.step hH hS⟩
theorem PlayL.stampNo (h : PlayL w0 p hb B Mx rows v k M u pg ids w) (hk : k + 10 ≤ 1000000) {r : Nat} (hr : r < W64) (hi : atR rows r = -1) (x nx : Nat) :
    Calls Tryz.prog 15 #[.pointer (some ⟨hb, 0, none⟩), .int .u64 r, .int .u64 x, .int .u64 nx] w fun e w' => ∃ M', e = .returned (.int .i64 91) ∧ PlayL w0 p hb B Mx rows v (k + 2) M' u pg ids w' := by
  refine (h.heap.stampNo hk hr (h.tells.none hi) x nx).mono ?_
  rintro e w' ⟨M', rfl, hH, hS⟩
  exact ⟨M', rfl, h.step hH hS⟩
theorem PlayL.freeNo (h : PlayL w0 p hb B Mx rows v k M u pg ids w) (hk : k + 10 ≤ 1000000) {r : Nat} (hr : r < W64) (hi : atR rows r = -1) :
    Calls Tryz.prog 9 #[.pointer (some ⟨hb, 0, none⟩), .int .u64 r] w fun e w' => ∃ M', e = .returned (.int .i64 91) ∧ PlayL w0 p hb B Mx rows v (k + 2) M' u pg ids w' := by
  refine (h.heap.freeNo hk hr (h.tells.none hi)).mono ?_
  rintro e w' ⟨M', rfl, hH, hS⟩
  exact ⟨M', rfl, h.step hH hS⟩
theorem PlayL.chainNo (h : PlayL w0 p hb B Mx rows v k M u pg ids w) (hk : k ≤ 1000000) {r : Nat} (hr : r < W64) (hi : atR rows r = -1) :
    Calls Tryz.prog 16 #[.pointer (some ⟨hb, 0, none⟩), .int .u64 r] w fun e w' => ∃ M', e = .returned (.tuple #[.slice none 0 0, .int .i64 91]) ∧ PlayL w0 p hb B Mx rows v (k + 2) M' u pg ids w' := by
  refine (hchain_none h.heap.pool hk h.heap.hp h.heap.hbM h.heap.is_ h.heap.own r hr (h.tells.none hi)).mono ?_
  rintro e w' ⟨rfl, M', hP, hS⟩
  exact ⟨M', rfl, h.step (h.heap.step hP hS h.heap.is_ h.heap.own h.heap.zero rfl) hS⟩
theorem PlayL.open_ (h : PlayL w0 p hb B Mx rows v k M u pg ids w) (hk : k ≤ 1000000) :
    Calls Tryz.prog 19 #[.pointer (some ⟨p, 0, none⟩), .int .i64 0] w fun e w' => ∃ hb' M', e = .returned (.tuple #[.pointer (some ⟨hb', 0, none⟩), .int .i64 0]) ∧ HpAt w' hb' p 0 ∧ HpAt w' hb p 0 ∧ PlayL w0 p hb' B Mx rows v (k + 2) M' u pg ids w' := by
  refine (hopen_any h.heap.pool hk h.heap.is_).mono ?_
  rintro e w' ⟨hb', M', rfl, hH, hM, hg, hP, hS⟩
  have h1 := h.step (h.heap.step hP hS h.heap.is_ h.heap.own h.heap.zero rfl) hS
  have hsz := h.heap.only.size
  refine ⟨hb', M', rfl, hH, h1.heap.hp, ⟨h1.heap.pool, hH, hM, by omega, h1.heap.is_, h1.heap.own, h1.heap.zero, h1.heap.ulen, h1.heap.new, h1.heap.only⟩, h1.tells, h1.fits, h1.row, fun x hx => ⟨(h1.rowNew x hx).1, (h1.rowNew x hx).2.1, fun e => ?_⟩, h1.bytes⟩
  have := h.row.lt hx
  omega
theorem PlayL.stampYes (h : PlayL w0 p hb B Mx rows v k M u pg ids w) (hk : k + 10 ≤ 1000000) {r i : Nat} (hi : atR rows r = (i : Nat)) (x nx : Nat) (hx : x < W64) (hnx : nx < W64) :
    Calls Tryz.prog 15 #[.pointer (some ⟨hb, 0, none⟩), .int .u64 r, .int .u64 x, .int .u64 nx] w fun e w' => ∃ pg' M', e = .returned (.int .i64 0) ∧ HeapL w0 p hb 400 M' u pg' ids (k + 4) w' ∧ Tells (verR pg' ids) (setVer rows i ⟨(rows.getD i mz).ver.row, (rows.getD i mz).ver.xmin, x, nx⟩) ∧ Fits pg' ids B Mx ∧ Step M M' w w' := by
  obtain ⟨hil, he, hv⟩ := h.ver hi
  refine (h.heap.stamp hk hv x nx hx hnx).mono ?_
  rintro e w' ⟨pg', M', rfl, hH, hv', hr', hS⟩
  refine ⟨pg', M', rfl, hH, h.tells.set hil (by rw [he]; exact hv') (fun y hy => hr' y (by rw [he] at hy; exact hy)), h.fits.same (fun y v' hy => ?_), hS⟩
  by_cases e : y = r
  · subst e
    rw [hv'] at hy
    have := (Option.some.inj hy).symm
    subst this
    exact ⟨_, hv, rfl⟩
  · rw [hr' y e] at hy
    exact ⟨v', hy, rfl⟩
theorem PlayL.freeYes (h : PlayL w0 p hb B Mx rows v k M u pg ids w) (hk : k + 10 ≤ 1000000) {r i : Nat} (hi : atR rows r = (i : Nat)) :
    Calls Tryz.prog 9 #[.pointer (some ⟨hb, 0, none⟩), .int .u64 r] w fun e w' => ∃ pg' M', e = .returned (.int .i64 0) ∧ HeapL w0 p hb 400 M' u pg' ids (k + 4) w' ∧ Tells (verR pg' ids) (rows.take i ++ rows.drop (i + 1)) ∧ Fits pg' ids B Mx ∧ Step M M' w w' := by
  obtain ⟨hil, he, hv⟩ := h.ver hi
  refine (h.heap.free hk hv).mono ?_
  rintro e w' ⟨pg', M', rfl, hH, hv', hr', hS, _⟩
  refine ⟨pg', M', rfl, hH, h.tells.out hil (by rw [he]; exact hv') (fun y hy => hr' y (by rw [he] at hy; exact hy)), h.fits.same (fun y v' hy => ?_), hS⟩
  by_cases e : y = r
  · subst e; rw [hv'] at hy; cases hy
  · rw [hr' y e] at hy; exact ⟨v', hy, rfl⟩
/-- The bytes of the rows. -/
def sumRows (rows : List MRow) : Nat := (rows.map fun m => m.ver.row.length).sum
theorem PlayL.bytesO (h : PlayL w0 p hb B Mx rows v k M u pg ids w) : H.bytesO (verR pg ids) (rows.map MRow.rid) = sumRows rows := by
  unfold H.bytesO sumRows
  rw [List.map_map]
  congr 1
  refine List.ext_getElem (by simp) fun j h1 h2 => ?_
  have hj : j < rows.length := by simpa using h1
  have := h.tells.at_ hj
  rw [List.getD_eq_getElem?_getD, List.getElem?_eq_getElem hj] at this
  simp only [Option.getD_some] at this
  simp only [List.getElem_map, Function.comp]
  rw [this]; rfl
theorem PlayL.insert (h : PlayL w0 p hb B Mx rows v k M u pg ids w) (hl : ids.length ≤ 390) (hk : k + 2 * ids.length + 20 ≤ 1000000) {bv : Value} {row : List UInt8} (hv : BytesAt w bv row) (hvM : ∀ a n c, bv = .slice (some a) n c → a.block ∉ M ∧ a.block < w.heap.size) (xmin : Nat) (hx : xmin < W64) (h1 : 1 ≤ row.length) (h2 : row.length ≤ 370)
    {B' Mx' : Nat} (hB : B ≤ B') (hMx : Mx ≤ Mx') (hb1 : sumRows rows + row.length ≤ B') (hm1 : rows.length + 1 ≤ Mx') (hm2 : Mx' ≤ 150) (hb2 : B' ≤ 12000) :
    Calls Tryz.prog 7 #[.pointer (some ⟨hb, 0, none⟩), bv, .int .u64 xmin] w fun e w' => ∃ r u' pg' ids' M', e = .returned (.tuple #[.int .u64 (r : Nat), .int .i64 0]) ∧ 1 ≤ r ∧ r < W64 ∧ atR rows r = -1 ∧ HeapL w0 p hb 400 M' u' pg' ids' (k + 2 * ids.length + 8) w' ∧ (∀ rv, Tells (verR pg' ids') (rows ++ [⟨r, rv, ⟨row, xmin, 0, 0⟩⟩])) ∧ Fits pg' ids' B' Mx' ∧ Step M M' w w' := by
  refine (h.heap.insert hk (by omega) hv hvM xmin hx h1 h2).mono ?_
  rintro e w' ⟨r, u', pg', ids', M', rfl, hI⟩
  refine ⟨r, u', pg', ids', M', rfl, hI.ok.1, hI.ok.2, ?_, hI.heap, fun rv => h.tells.put hI.put hI.ok.1 hI.ok.2, ?_, hI.step⟩
  · rcases atR_cases rows r with h3 | ⟨i, hi, h3, he⟩
    · exact h3
    · have := (h.ver h3).2.2
      rw [hI.put.free] at this
      cases this
  · exact hI.fits h.heap.is_ h.heap.zero (by rw [h.heap.ulen]; omega) hx (h.fits.more hB hMx) (Vers.live h.tells) h1 h2 (by rw [h.bytesO]; exact hb1) (by rw [List.length_map]; exact hm1) hm2 hb2
end
end Go.Proofs.YtfkmjbpnjgnkbaaGreat.H

/-
  The law on rows of calls of a heap: rising rows as plain lists; what Pages tells. No program in sight.
-/
namespace Go.Proofs.YtfkmjbpnjgnkbaaGreat.H
set_option linter.unusedSimpArgs false
open Go Go.RowKit Go.Proofs.YtfkmjbpnjgnkbaaGreat Go.Proofs.YtfkmjbpnjgnkbaaGreat.D Go.Proofs.YtfkmjbpnjgnkbaaGreat.B Go.Proofs.YtfkmjbpnjgnkbaaGreat.C Go.Proofs.YtfkmjbpnjgnkbaaGreat.G Go.Proofs.YtfkmjbpnjgnkbaaGreat.P
set_option linter.unusedVariables false
/-- The numbers, rising. -/
def ris (l : List Nat) : List Nat := (IR.rising (l.map fun j => ((j : Nat) : Int))).map Int.toNat
theorem ris_len (l : List Nat) : (ris l).length = l.length := by unfold ris; rw [List.length_map, IR.rising_len, List.length_map]
theorem risen_u64s (l : List Nat) : risen l = u64s (ris l) := by
  unfold risen u64s ris
  rw [List.map_map]
  refine List.map_congr_left fun x hx => ?_
  have hm := (IR.rising_perm _).mem_iff.1 hx
  obtain ⟨j, _, rfl⟩ := List.mem_map.1 hm
  simp
/-- The pages, rising. -/
theorem pages_rise {ids : List Nat} (hn : ids.Nodup) : ((I.rising (ids.map fun j => ((j : Nat) : Int)))).Pairwise (· < ·) := by
  have h1 := I.rising_sorted (ids.map fun j => ((j : Nat) : Int))
  have h2 : (I.rising (ids.map fun j => ((j : Nat) : Int))).Nodup := by
    rw [(I.rising_perm _).nodup_iff]
    exact List.pairwise_map.2 (List.Pairwise.imp (fun h e => h (Int.ofNat.inj e)) hn)
  have h3 := List.Pairwise.and h1 h2
  exact h3.imp (fun h => by obtain ⟨a, b⟩ := h; omega)
theorem pages_root {u : List Bool} {pg : Nat → List UInt8} {ids : List Nat} (hI : HeapIs u pg 0 ids) : (0 : Int) ∈ I.rising (ids.map fun j => ((j : Nat) : Int)) := by
  rw [(I.rising_perm _).mem_iff]
  have := getD_mem hI.some_
  rw [hI.head] at this
  exact List.mem_map.2 ⟨0, this, rfl⟩
/-- Two stamps are stored into a row's cells. -/
theorem flatR_set {l : List MRow} {k : Nat} (hk : k < l.length) (x nx : Nat) :
    ((flatR l).set (k * 5 + 3) (.int .u64 (x : Nat))).set (k * 5 + 4) (.int .u64 (nx : Nat)) = flatR (setVer l k ⟨(l.getD k mz).ver.row, (l.getD k mz).ver.xmin, x, nx⟩) := by
  have hl2 : (setVer l k ⟨(l.getD k mz).ver.row, (l.getD k mz).ver.xmin, x, nx⟩).length = l.length := by simp [setVer]
  refine List.ext_getElem? fun t => ?_
  rcases Nat.lt_or_ge t (l.length * 5) with ht | ht
  · have hi : t / 5 < l.length := by omega
    have hj : t % 5 < 5 := Nat.mod_lt _ (by omega)
    have e : t = t / 5 * 5 + t % 5 := by omega
    have h1 := flatR_get hi hj
    have h2 := flatR_get (l := setVer l k ⟨(l.getD k mz).ver.row, (l.getD k mz).ver.xmin, x, nx⟩) (i := t / 5) (j := t % 5) (by rw [hl2]; exact hi) hj
    rw [← e] at h1 h2
    rw [h2, List.getElem?_set, List.getElem?_set]
    have hlen := flatR_len l
    by_cases hq : t / 5 = k
    · have hg : (setVer l k ⟨(l.getD k mz).ver.row, (l.getD k mz).ver.xmin, x, nx⟩).getD (t / 5) mz = { l.getD k mz with ver := ⟨(l.getD k mz).ver.row, (l.getD k mz).ver.xmin, x, nx⟩ } := by
        unfold setVer
        rw [List.getD_eq_getElem?_getD, hq, List.getElem?_set, if_pos rfl, if_pos hk]; rfl
      rw [hg]
      rw [hq] at h1
      by_cases h4 : k * 5 + 4 = t
      · rw [if_pos h4, if_pos (by rw [List.length_set]; omega), show t % 5 = 4 by omega]; rfl
      · rw [if_neg h4]
        by_cases h3 : k * 5 + 3 = t
        · rw [if_pos h3, if_pos (by omega), show t % 5 = 3 by omega]; rfl
        · rw [if_neg h3, h1]
          have : t % 5 = 0 ∨ t % 5 = 1 ∨ t % 5 = 2 := by omega
          rcases this with h5 | h5 | h5 <;> rw [h5] <;> rfl
    · rw [if_neg (by omega), if_neg (by omega), h1]
      congr 2
      unfold setVer
      rw [List.getD_eq_getElem?_getD, List.getD_eq_getElem?_getD, List.getElem?_set, if_neg (fun h => hq h.symm)]
  · rw [List.getElem?_eq_none (by rw [List.length_set, List.length_set, flatR_len]; exact ht), List.getElem?_eq_none (by rw [flatR_len, hl2]; exact ht)]
end Go.Proofs.YtfkmjbpnjgnkbaaGreat.H

/-
  The law on rows of calls of a heap: its rows after a stamp, after a free, after an insert.
-/
namespace Go.Proofs.YtfkmjbpnjgnkbaaGreat.H
set_option linter.unusedSimpArgs false
open Go Go.RowKit Go.Proofs.YtfkmjbpnjgnkbaaGreat Go.Proofs.YtfkmjbpnjgnkbaaGreat.D Go.Proofs.YtfkmjbpnjgnkbaaGreat.B Go.Proofs.YtfkmjbpnjgnkbaaGreat.C Go.Proofs.YtfkmjbpnjgnkbaaGreat.G Go.Proofs.YtfkmjbpnjgnkbaaGreat.P
set_option linter.unusedVariables false
section
variable {w0 w w' : World} {p hb B Mx k k' : Nat} {rows : List MRow} {v : Value} {M M' ids : List Nat} {u : List Bool} {pg pg' : Nat → List UInt8}
theorem mem_setVer {i : Nat} {ver : Ver} (hi : i < rows.length) (hr : ver.row = (rows.getD i mz).ver.row) {m : MRow} (hm : m ∈ setVer rows i ver) : ∃ m0 ∈ rows, m.rv = m0.rv ∧ m.ver.row = m0.ver.row := by
  unfold setVer at hm
  rcases List.mem_or_eq_of_mem_set hm with h | h
  · exact ⟨m, h, rfl, rfl⟩
  · subst h
    refine ⟨rows.getD i mz, ?_, rfl, hr⟩
    rw [List.getD_eq_getElem?_getD, List.getElem?_eq_getElem hi]
    exact List.getElem_mem hi
theorem PlayL.stamped {g cap i x nx : Nat} (h : PlayL w0 p hb B Mx rows (.slice (some ⟨g, 0, none⟩) rows.length cap) k M u pg ids w) (hi : i < rows.length) (hH : HeapL w0 p hb 400 M' u pg' ids k' w')
    (hT : Tells (verR pg' ids) (setVer rows i ⟨(rows.getD i mz).ver.row, (rows.getD i mz).ver.xmin, x, nx⟩)) (hF : Fits pg' ids B Mx) (hS : Step M M' w w') :
    PlayL w0 p hb B Mx (setVer rows i ⟨(rows.getD i mz).ver.row, (rows.getD i mz).ver.xmin, x, nx⟩) (.slice (some ⟨g, 0, none⟩) rows.length cap) k' M' u pg' ids ((w'.setCell ⟨g, i * 5 + 3, none⟩ (.int .u64 (x : Nat))).setCell ⟨g, i * 5 + 4, none⟩ (.int .u64 (nx : Nat))) := by
  have hl2 : (setVer rows i ⟨(rows.getD i mz).ver.row, (rows.getD i mz).ver.xmin, x, nx⟩).length = rows.length := by simp [setVer]
  have hg := h.rowNew g rfl
  have hgM : g ∉ M' := P.Step.keep hS (h.row.lt rfl) hg.2.1
  have hrow : RowOn w' 52 5 (.slice (some ⟨g, 0, none⟩) rows.length cap) rows.length (flatR rows) := h.row.later hS.1 (fun y hy => (h.rowNew y hy).2.1)
  have hO : Only [g] w' ((w'.setCell ⟨g, i * 5 + 3, none⟩ (.int .u64 (x : Nat))).setCell ⟨g, i * 5 + 4, none⟩ (.int .u64 (nx : Nat))) := ((Only.refl [g] w').setCell (p := ⟨g, i * 5 + 3, none⟩) (.inl (by simp)) _).setCell (p := ⟨g, i * 5 + 4, none⟩) (.inl (by simp)) _
  refine ⟨hH.later hO (fun y hy cs hcs => ?_) (fun y hy => ?_), hT, hF, ?_, fun y hy => ?_, fun m hm => ?_⟩
  · simp at hy; subst hy; exact hrow.ne hcs (by decide) rfl
  · simp at hy; subst hy; exact ⟨hgM, hg.2.2, hg.1⟩
  · rw [hl2, ← flatR_set hi]
    exact ((hrow.set (i * 5 + 3) _).1.set (i * 5 + 4) _).1
  · simp only [Value.ownBlock, Option.some.injEq] at hy
    subst hy; exact ⟨hg.1, hgM, hg.2.2⟩
  · obtain ⟨m0, hm0, e1, e2⟩ := mem_setVer (ver := ⟨(rows.getD i mz).ver.row, (rows.getD i mz).ver.xmin, x, nx⟩) hi rfl hm
    rw [e1, e2]
    have hb := h.bytes m0 hm0
    have h1 : ByteRow 5 w' m0.rv m0.ver.row := owns_later hb.1 hS.1 (fun y hy => (hb.2 y hy).2)
    refine ⟨owns_later h1 hO (fun y hy => ?_), fun y hy => ⟨(hb.2 y hy).1, P.Step.keep hS (owns_lt hb.1 hy) (hb.2 y hy).2⟩⟩
    simp only [List.mem_singleton]
    intro e
    subst e
    rcases hrow.2 with ⟨h0, _⟩ | ⟨g', cap', cur, hv, hbk, _⟩
    · cases h0
    · simp only [Value.slice.injEq, Option.some.injEq, Addr.mk.injEq, and_true, true_and] at hv
      obtain ⟨rfl, _⟩ := hv
      exact owns_ne h1 hbk (by decide) hy
/-- The rows are laid anew behind a call: part of the old ones. -/
theorem PlayL.regrown {rows' : List MRow} {v1 v2 : Value} {w2 : World} (h : PlayL w0 p hb B Mx rows v k M u pg ids w) (hsub : ∀ m ∈ rows', m ∈ rows) (hH : HeapL w0 p hb 400 M' u pg' ids k' w') (hT : Tells (verR pg' ids) rows') (hF : Fits pg' ids B Mx) (hS : Step M M' w w')
    (hv1 : ∀ y, v1.ownBlock = some y → v.ownBlock = some y) {t : Nat} {xs : List Value} (hrow : RowOn w' 52 5 v1 t xs) (hG : GrewOn w' w2 52 5 v1 v2 rows'.length (flatR rows')) :
    PlayL w0 p hb B Mx rows' v2 k' M' u pg' ids w2 := by
  have hnew : ∀ y, v1.ownBlock = some y → w0.heap.size ≤ y ∧ y ∉ M' ∧ y ≠ hb := fun y hy => by
    have h1 := h.rowNew y (hv1 y hy)
    exact ⟨h1.1, P.Step.keep hS (h.row.lt (hv1 y hy)) h1.2.1, h1.2.2⟩
  have hsz := hH.only.size
  refine ⟨hH.later hG.only (fun y hy cs hcs => hrow.ne hcs (by decide) (Option.mem_toList.1 hy)) (fun y hy => ?_), hT, hF, hG.own, fun y hy => ?_, fun m hm => ?_⟩
  · have h1 := hnew y (Option.mem_toList.1 hy)
    exact ⟨h1.2.1, h1.2.2, h1.1⟩
  · rcases hG.lies y hy with h1 | h1
    · exact hnew y h1
    · have h2 := hH.pool.lt
      have h3 := hH.hp.lt
      exact ⟨by omega, fun hm => by have := h2 _ hm; omega, by omega⟩
  · have hb := h.bytes m (hsub m hm)
    have h1 : ByteRow 5 w' m.rv m.ver.row := owns_later hb.1 hS.1 (fun y hy => (hb.2 y hy).2)
    refine ⟨owns_later h1 hG.only (fun y hy hy2 => ?_), fun y hy => ⟨(hb.2 y hy).1, P.Step.keep hS (owns_lt hb.1 hy) (hb.2 y hy).2⟩⟩
    have hy3 := Option.mem_toList.1 hy2
    rcases hrow.2 with ⟨rfl, _⟩ | ⟨g', cap', cur, rfl, hbk, _⟩
    · cases hy3
    · simp only [Value.ownBlock, Option.some.injEq] at hy3
      subst hy3
      exact owns_ne h1 hbk (by decide) hy
/-- A row more is laid behind an Insert. -/
theorem PlayL.inserted {u' : List Bool} {ids' : List Nat} {r B' Mx' : Nat} {rv v2 : Value} {ver : Ver} {wx w2 : World} {X : List Nat} (h : PlayL w0 p hb B Mx rows v k M u pg ids w) (hH : HeapL w0 p hb 400 M' u' pg' ids' k' w') (hT : Tells (verR pg' ids') (rows ++ [(⟨r, rv, ver⟩ : MRow)])) (hF : Fits pg' ids' B' Mx') (hS : Step M M' w w')
    (hX : Only X w' wx) (hXs : NoSec w' X) (hXn : ∀ y ∈ X, y ∉ M' ∧ y ≠ hb ∧ w0.heap.size ≤ y ∧ w.heap.size ≤ y) (hG : GrewOn wx w2 52 5 v v2 (rows ++ [(⟨r, rv, ver⟩ : MRow)]).length (flatR (rows ++ [(⟨r, rv, ver⟩ : MRow)]))) (hrv : ByteRow 5 w2 rv ver.row) (hrn : ∀ y, rv.ownBlock = some y → w0.heap.size ≤ y ∧ y ∉ M') :
    PlayL w0 p hb B' Mx' (rows ++ [(⟨r, rv, ver⟩ : MRow)]) v2 k' M' u' pg' ids' w2 := by
  have hnew : ∀ y, v.ownBlock = some y → w0.heap.size ≤ y ∧ y ∉ M' ∧ y ≠ hb := fun y hy => by
    have h1 := h.rowNew y hy
    exact ⟨h1.1, P.Step.keep hS (h.row.lt hy) h1.2.1, h1.2.2⟩
  have hr1 : RowOn w' 52 5 v rows.length (flatR rows) := h.row.later hS.1 (fun y hy => (h.rowNew y hy).2.1)
  have hr2 : RowOn wx 52 5 v rows.length (flatR rows) := hr1.later hX (fun y hy hy2 => by
    have h1 := h.row.lt hy
    have h2 := (hXn y hy2).2.2.2
    omega)
  have hHx := hH.later hX hXs (fun y hy => ⟨(hXn y hy).1, (hXn y hy).2.1, (hXn y hy).2.2.1⟩)
  have hsz := hHx.only.size
  refine ⟨hHx.later hG.only (fun y hy cs hcs => hr2.ne hcs (by decide) (Option.mem_toList.1 hy)) (fun y hy => ?_), hT, hF, hG.own, fun y hy => ?_, fun m hm => ?_⟩
  · have h1 := hnew y (Option.mem_toList.1 hy)
    exact ⟨h1.2.1, h1.2.2, h1.1⟩
  · rcases hG.lies y hy with h1 | h1
    · exact hnew y h1
    · have h2 := hHx.pool.lt
      have h3 := hHx.hp.lt
      exact ⟨by omega, fun hm => by have := h2 _ hm; omega, by omega⟩
  · rcases List.mem_append.1 hm with hm | hm
    · have hb := h.bytes m hm
      have h1 : ByteRow 5 w' m.rv m.ver.row := owns_later hb.1 hS.1 (fun y hy => (hb.2 y hy).2)
      have h2 : ByteRow 5 wx m.rv m.ver.row := owns_later h1 hX (fun y hy hy2 => by
        have h3 := owns_lt hb.1 hy
        have h4 := (hXn y hy2).2.2.2
        omega)
      refine ⟨owns_later h2 hG.only (fun y hy hy2 => ?_), fun y hy => ⟨(hb.2 y hy).1, P.Step.keep hS (owns_lt hb.1 hy) (hb.2 y hy).2⟩⟩
      have hy3 := Option.mem_toList.1 hy2
      rcases hr2.2 with ⟨rfl, _⟩ | ⟨g', cap', cur, rfl, hbk, _⟩
      · cases hy3
      · simp only [Value.ownBlock, Option.some.injEq] at hy3
        subst hy3
        exact owns_ne h2 hbk (by decide) hy
    · simp only [List.mem_singleton] at hm
      subst hm
      exact ⟨hrv, hrn⟩
end
end Go.Proofs.YtfkmjbpnjgnkbaaGreat.H

/-
  The law on rows of calls of a heap: what an Insert of the law's leaves, all told; sums of rows. No program in sight.
-/
namespace Go.Proofs.YtfkmjbpnjgnkbaaGreat.H
set_option linter.unusedSimpArgs false
open Go Go.RowKit Go.Proofs.YtfkmjbpnjgnkbaaGreat Go.Proofs.YtfkmjbpnjgnkbaaGreat.D Go.Proofs.YtfkmjbpnjgnkbaaGreat.B Go.Proofs.YtfkmjbpnjgnkbaaGreat.C Go.Proofs.YtfkmjbpnjgnkbaaGreat.G Go.Proofs.YtfkmjbpnjgnkbaaGreat.P
set_option linter.unusedVariables false
theorem info_byteH : (Tryz.prog.info? 5).map (fun i => (i.zero, i.size, i.bytes)) = some (some (.int .u8 0), 1, 1) := by kernel_rfl
theorem info_mrow : (Tryz.prog.info? 52).map (fun i => (i.zero, i.size, i.bytes)) = some (some (.agg #[.int .u64 0, .slice none 0 0, .int .u64 0, .int .u64 0, .int .u64 0]), 5, 56) := by kernel_rfl
/-- rows[k+1:]: where the tail begins. -/
theorem slice_tail {g n cap k z : Nat} (h1 : k + 1 ≤ n) (hz : z = if cap = k + 1 then 0 else (k + 1) * 5) (w : World) : (Instr.sliceAt 43 (.slice (some ⟨g, 0, none⟩) n cap) (some (.int .i64 ((k : Int) + 1))) none none).run Tryz.prog w = .ok (.slice (some ⟨g, z, none⟩) (n - (k + 1)) (cap - (k + 1))) w := by
  have hu : Tryz.prog.underlying 43 = some (.slice (Tryz.prog.elem 43)) := by kernel_rfl
  have hs : ∀ w, (sizeOf (Tryz.prog.elem 43)).run Tryz.prog w = .ok 5 w := fun w => by
    have h : (Tryz.prog.info? (Tryz.prog.elem 43)).map (·.size) = some 5 := by kernel_rfl
    cases hq : Tryz.prog.info? (Tryz.prog.elem 43) with
    | none => simp [hq] at h
    | some i => simp [sizeOf, typeInfo, hq] at h ⊢; exact h
  rw [run_sliceAt_slice w _ _ _ _ _ hu, run_slice_l w _ _ _ _ hu .i64 ((k : Int) + 1) (by omega) (by omega)]
  simp only [hs, Result.andThen_ok, sliced]
  have e : ((k : Int) + 1).toNat = k + 1 := by omega
  rw [e, hz]
  by_cases hc : cap = k + 1
  · simp [hc]
  · simp [hc, Addr.add]
theorem step_f3 (n : Nat) (w : World) : (Instr.fieldAt 45 (.pointer (some ⟨n, 0, none⟩)) 3).run Tryz.prog w = .ok (.pointer (some ⟨n, 3, none⟩)) w := by
  have US := Tryz.underlying45
  go_simp
theorem step_f4 (n : Nat) (w : World) : (Instr.fieldAt 45 (.pointer (some ⟨n, 0, none⟩)) 4).run Tryz.prog w = .ok (.pointer (some ⟨n, 4, none⟩)) w := by
  have US := Tryz.underlying45
  go_simp
theorem load_slice {w : World} {ad : Addr} {v : Value} (h : w.cell? ad = some v) : (Instr.loadAt 33 (.pointer (some ad))).run Tryz.prog w = .ok v w := by
  have US := Tryz.underlying33
  go_simp
theorem load_u64 {w : World} {ad : Addr} {v : Value} (h : w.cell? ad = some v) : (Instr.loadAt 28 (.pointer (some ad))).run Tryz.prog w = .ok v w := by
  have US := Tryz.underlying28
  go_simp
theorem build_ver (ao : Option Addr) (n c x : Nat) (w : World) : (Instr.build 50 #[(0, .slice ao n c), (1, .int .u64 (x : Nat))]).run Tryz.prog w = .ok (.agg #[.slice ao n c, .int .u64 (x : Nat), .int .u64 0, .int .u64 0]) w := by
  have US := Tryz.underlying50
  go_simp
theorem build_row (ao : Option Addr) (n c x r : Nat) (w : World) : (Instr.build 52 #[(0, .int .u64 (r : Nat)), (1, .agg #[.slice ao n c, .int .u64 (x : Nat), .int .u64 0, .int .u64 0])]).run Tryz.prog w = .ok (.agg #[.int .u64 (r : Nat), .slice ao n c, .int .u64 (x : Nat), .int .u64 0, .int .u64 0]) w := by
  have US := Tryz.underlying52
  have UV := Tryz.underlying50
  go_simp
theorem slice_row (ao : Option Addr) (n c x r : Nat) (w : World) : (Instr.buildSlice 43 1 #[(0, .agg #[.int .u64 (r : Nat), .slice ao n c, .int .u64 (x : Nat), .int .u64 0, .int .u64 0])]).run Tryz.prog w = .ok (.slice (some ⟨w.heap.size, 0, none⟩) 1 1) (w.alloc (.cells #[.int .u64 (r : Nat), .slice ao n c, .int .u64 (x : Nat), .int .u64 0, .int .u64 0] 52)) := by
  have UR := Tryz.underlying52
  have US := Tryz.underlying43
  have UV := Tryz.underlying50
  go_simp
/-- Where bytes come from. -/
theorem bytes_news {w : World} {so : Option Addr} {m c : Nat} {l : List UInt8} (h : BytesAt w (.slice so m c) l) : l.length = m ∧ (0 < m → ∃ ad, so = some ad ∧ ∀ j u, (u8s l)[j]? = some u → w.cell? (ad.add j) = some u) := by
  obtain ⟨ao, cap, he, hc⟩ := h
  simp only [Value.slice.injEq] at he
  obtain ⟨rfl, rfl, rfl⟩ := he
  refine ⟨rfl, fun h0 => ?_⟩
  obtain ⟨b, o, rfl, hb⟩ := hc h0
  refine ⟨_, rfl, fun j u hj => ?_⟩
  rw [add_plain]
  have hlt : j < l.length := by
    rcases Nat.lt_or_ge j l.length with h | h
    · exact h
    · rw [List.getElem?_eq_none (by rw [length_u8s]; exact h)] at hj; cases hj
  rw [hb j hlt]
  rw [u8s_get, List.getElem?_eq_getElem hlt] at hj
  simp only [Option.map_some, Option.some.injEq] at hj
  rw [List.getD_eq_getElem?_getD, List.getElem?_eq_getElem hlt]
  rw [← hj]; rfl
/-- A clone is a row of its own. -/
theorem lent_row {w w' : World} {v' : Value} {l : List UInt8} {m : Nat} (h : Grew w w' 5 1 (.slice none 0 0) v' (0 + m) ([] ++ u8s l)) (hl : l.length = m) : ByteRow 5 w' v' l ∧ Only [] w w' ∧ (∀ k, v'.ownBlock = some k → w.heap.size ≤ k) ∧ ∃ ao c, v' = .slice ao m c := by
  subst hl
  have h1 := h.own
  rw [Nat.zero_add, List.nil_append] at h1
  refine ⟨h1, ?_, fun k hk => ?_, ?_⟩
  · have := h.only
    simpa [Value.ownBlock] using this
  · rcases h.lies k hk with h2 | h2
    · simp [Value.ownBlock] at h2
    · exact h2
  · obtain ⟨ao, c, e⟩ := h.shape
    rw [Nat.zero_add] at e
    exact ⟨ao, c, e⟩
theorem own_at {v : Value} {a : Addr} {n c : Nat} (h : v = .slice (some a) n c) : v.ownBlock = some a.block := by subst h; rfl
theorem sumRows_append (l k : List MRow) : sumRows (l ++ k) = sumRows l + sumRows k := by simp [sumRows]
theorem sumRows_take {l : List MRow} {j : Nat} (hj : j < l.length) : sumRows (l.take (j + 1)) = sumRows (l.take j) + (l.getD j mz).ver.row.length := by
  rw [List.take_succ_eq_append_getElem hj, sumRows_append, List.getD_eq_getElem?_getD, List.getElem?_eq_getElem hj]
  simp [sumRows]
theorem sumRows_le {l : List MRow} {j : Nat} : sumRows (l.take j) ≤ sumRows l := by
  have h := sumRows_append (l.take j) (l.drop j)
  rw [List.take_append_drop] at h
  omega
theorem sumRows_set {l : List MRow} {i : Nat} {ver : Ver} (hi : i < l.length) (hr : ver.row = (l.getD i mz).ver.row) : sumRows (setVer l i ver) = sumRows l := by
  unfold sumRows setVer
  rw [List.map_set]
  congr 1
  refine List.ext_getElem (by simp) fun j h1 h2 => ?_
  rw [List.getElem_set]
  split
  · rename_i e
    subst e
    simp only [List.getElem_map]
    rw [hr, List.getD_eq_getElem?_getD, List.getElem?_eq_getElem hi]; rfl
  · rfl
theorem setVer_len (l : List MRow) (i : Nat) (ver : Ver) : (setVer l i ver).length = l.length := by simp [setVer]
theorem sumRows_cut {l : List MRow} {k : Nat} : sumRows (l.take k ++ l.drop (k + 1)) ≤ sumRows l := by
  have h := sumRows_append (l.take k) (l.drop k)
  rw [List.take_append_drop] at h
  rw [sumRows_append]
  have : sumRows (l.drop (k + 1)) ≤ sumRows (l.drop k) := by
    rw [← List.drop_drop]
    have h2 := sumRows_append ((l.drop k).take 1) ((l.drop k).drop 1)
    rw [List.take_append_drop] at h2
    omega
  omega
theorem cut_len {l : List MRow} {k : Nat} (hk : k < l.length) : (l.take k ++ l.drop (k + 1)).length = k + (l.length - (k + 1)) := by
  rw [List.length_append, List.length_take, List.length_drop, Nat.min_eq_left (by omega)]
theorem Tells.next {u : List Bool} {pg : Nat → List UInt8} {ids : List Nat} (hI : HeapIs u pg 0 ids) {l : List MRow} (h : Tells (verR pg ids) l) : ∀ m ∈ l, m.ver.next < W64 := fun m hm => by
  obtain ⟨j, hj, he⟩ := List.getElem_of_mem hm
  have h1 := h.at_ hj
  rw [List.getD_eq_getElem?_getD, List.getElem?_eq_getElem hj, Option.getD_some, he] at h1
  obtain ⟨hid, hv⟩ := verR_some h1
  obtain ⟨_, _, _, hp⟩ := hI.at hid
  exact ver_next hp hv
theorem Tells.zero {V : Nat → Option Ver} {l : List MRow} (h : Tells V l) : H.verL l 0 = Option.none := by
  rcases atR_cases l 0 with h1 | ⟨i, hi, h2, he⟩
  · exact verL_none h1
  · have := (h.ok hi).1
    omega
theorem Tells.atR_get {V : Nat → Option Ver} {l : List MRow} (h : Tells V l) {i : Nat} (hi : i < l.length) : atR l (l.getD i mz).rid = (i : Nat) := by
  rcases atR_cases l (l.getD i mz).rid with h1 | ⟨j, hj, h2, he⟩
  · have h3 := Tells.none h h1
    rw [Tells.at_ h hi] at h3
    cases h3
  · have h3 := getD_inj (Vers.nodup h) (i := j) (j := i) (by rw [List.length_map]; exact hj) (by rw [List.length_map]; exact hi) (by rw [rid_at hj, rid_at hi]; exact he)
    rw [h2, h3]
theorem chainP_len {V : Nat → Option Ver} : ∀ (n : Nat) (out : List Nat) (r : Nat), (chainP V n out r).length ≤ out.length + n
  | 0, out, r => Nat.le_refl _
  | n + 1, out, r => by
    cases h : V r with
    | none => rw [chain_stop h]; omega
    | some v =>
      rw [chain_step h]
      split
      · rw [List.length_append, List.length_singleton]; omega
      · have := chainP_len (V := V) n (out ++ [r]) v.next
        rw [List.length_append, List.length_singleton] at this
        omega
theorem RowsAt.row {w : World} {ao : Option Addr} {n cap : Nat} {l : List MRow} (h : RowsAt w (.slice ao n cap) l) (hl : l.length = n) {i : Nat} (hi : i < n) : ∃ b o, ao = some ⟨b, o, none⟩ ∧ n ≤ cap ∧ ∀ j, j < 5 → w.cell? ⟨b, o + i * 5 + j, none⟩ = (rowC (l.getD i mz))[j]? := by
  obtain ⟨ao', cap', he, hc, hx⟩ := h
  simp only [Value.slice.injEq] at he
  obtain ⟨rfl, _, rfl⟩ := he
  subst hl
  obtain ⟨b, o, rfl, hcell⟩ := hx (by omega)
  exact ⟨b, o, rfl, hc, hcell i hi⟩
theorem getD_memR {l : List MRow} {i : Nat} (hi : i < l.length) : l.getD i mz ∈ l := by
  rw [List.getD_eq_getElem?_getD, List.getElem?_eq_getElem hi]
  exact List.getElem_mem hi
theorem risen_at {w : World} {v : Value} {L : List Nat} {n : Nat} (h : w.ownsRow 0 29 1 v n (risen L)) (hn : L.length = n) : RidsAt w v (ris L) := by
  refine RidRow.at ?_
  unfold RidRow
  rw [ris_len, hn, ← risen_u64s]
  exact h
/-- The pages, rising: where the root is. -/
theorem rise_root {u : List Bool} {pg : Nat → List UInt8} {ids : List Nat} (hI : HeapIs u pg 0 ids) : ∃ (G : Nat → Int) (t0 : Nat), (∀ t, t < ids.length → (I.rising (ids.map fun j => ((j : Nat) : Int)))[t]? = some (G t)) ∧ t0 < ids.length ∧ (∀ t, t < ids.length → (G t = 0 ↔ t = t0)) ∧ ∀ t, 0 < t → t < ids.length → G (t - 1) < G t := by
  have hl : (I.rising (ids.map fun j => ((j : Nat) : Int))).length = ids.length := by rw [I.rising_len, List.length_map]
  have hp := pages_rise hI.nodup
  obtain ⟨t0, ht0, he⟩ := List.getElem_of_mem (pages_root hI)
  generalize I.rising (ids.map fun j => ((j : Nat) : Int)) = L at *
  rw [← hl]
  have hlt := List.pairwise_iff_getElem.1 hp
  have key : ∀ t, (h : t < L.length) → L.getD t 0 = L[t] := fun t h => by rw [List.getD_eq_getElem?_getD, List.getElem?_eq_getElem h]; rfl
  refine ⟨fun t => L.getD t 0, t0, fun t ht => by show _ = some (L.getD t 0); rw [key t ht, List.getElem?_eq_getElem ht], ht0, fun t ht => ⟨fun h => ?_, fun h => ?_⟩, fun t h0 ht => ?_⟩
  · simp only [key t ht] at h
    rcases Nat.lt_trichotomy t t0 with h1 | h1 | h1
    · have := hlt t t0 ht ht0 h1; omega
    · exact h1
    · have := hlt t0 t ht0 ht h1; omega
  · subst h
    simp only [key t ht]; exact he
  · simp only [key t ht, key (t - 1) (by omega)]
    exact hlt (t - 1) t (by omega) ht (by omega)
theorem RidsAt.nil (w : World) : RidsAt w (.slice none 0 0) [] := ⟨none, 0, rfl, Nat.le_refl _, fun h => by simp at h⟩
section
variable {w0 w w' : World} {p hb B Mx k k' : Nat} {rows : List MRow} {v : Value} {M M' ids : List Nat} {u : List Bool} {pg pg' : Nat → List UInt8}
theorem PlayL.more (h : PlayL w0 p hb B Mx rows v k M u pg ids w) (hk : k ≤ k') : PlayL w0 p hb B Mx rows v k' M u pg ids w :=
  ⟨h.heap.more hk, h.tells, h.fits, h.row, h.rowNew, h.bytes⟩
theorem PlayL.mchain (h : PlayL w0 p hb B Mx rows v k M u pg ids w) (hl : rows.length ≤ 1000000) {r : Nat} (hr : r < W64) : Calls Tryz.prog 18 #[v, .int .u64 r] w fun e w' => ∃ v', e = .returned v' ∧ RidRow w' v' (chainP (verL rows) (rows.length + 1) [] r) ∧ Only [] w w' :=
  (chain_any (rows_at h.row) hl hr (Tells.next h.heap.is_ h.tells) (Tells.zero h.tells)).mono fun e w' ⟨v', he, h1, _, h2⟩ => ⟨v', he, h1, h2⟩
/-- Blocks are written that are newer than the rows and none of the heap's. -/
theorem PlayL.aside {w1 w2 w3 : World} {X M0 ids0 : List Nat} {u0 : List Bool} {pg0 : Nat → List UInt8} {k0 B' Mx' : Nat} (h0 : PlayL w0 p hb B Mx rows v k0 M0 u0 pg0 ids0 w1) (h : PlayL w0 p hb B' Mx' rows v k M u pg ids w2) (hX : Only X w2 w3) (hXn : ∀ y ∈ X, w1.heap.size ≤ y ∧ y ∉ M) (hs : NoSec w2 X) : PlayL w0 p hb B' Mx' rows v k M u pg ids w3 := by
  have hsz := h0.heap.only.size
  refine ⟨h.heap.later hX hs (fun y hy => ⟨(hXn y hy).2, fun e => ?_, by have := (hXn y hy).1; omega⟩), h.tells, h.fits, h.row.later hX (fun y hy hy2 => ?_), h.rowNew, fun m hm => ⟨owns_later (h.bytes m hm).1 hX (fun y hy hy2 => ?_), (h.bytes m hm).2⟩⟩
  · have h1 := (hXn y hy).1
    have h2 := h0.heap.hp.lt
    omega
  · have h1 := (hXn y hy2).1
    have h2 := h0.row.lt hy
    omega
  · have h1 := (hXn y hy2).1
    have h2 := owns_lt (h0.bytes m hm).1 hy
    omega
theorem PlayL.cut {i : Nat} (hi : i < rows.length) (h : PlayL w0 p hb B Mx rows v k M u pg ids w) : ∃ g cap, v = .slice (some ⟨g, 0, none⟩) rows.length cap := by
  obtain ⟨ao, cap, rfl, _, hx⟩ := h.row.shape
  obtain ⟨g, rfl, _⟩ := hx (by omega)
  exact ⟨g, cap, rfl⟩
theorem PlayL.shape (h : PlayL w0 p hb B Mx rows v k M u pg ids w) {i : Nat} (hi : i < rows.length) : ∃ a c, (rows.getD i mz).rv = .slice a (rows.getD i mz).ver.row.length c := by
  have h1 := (h.bytes _ (getD_memR hi)).1.at
  obtain ⟨a, c, he, _⟩ := h1
  exact ⟨a, c, he⟩
theorem PlayL.range {g cap i : Nat} (h : PlayL w0 p hb B Mx rows (.slice (some ⟨g, 0, none⟩) rows.length cap) k M u pg ids w) (hi : i < rows.length) : w.rangeAt g (i * 5 + 1) (verCells (rows.getD i mz).rv (rows.getD i mz).ver.xmin (rows.getD i mz).ver.xmax (rows.getD i mz).ver.next) := fun t v hv => by
  obtain ⟨b, o, ho, _, hc⟩ := (rows_at h.row).row rfl hi
  simp only [Option.some.injEq, Addr.mk.injEq, and_true] at ho
  obtain ⟨rfl, rfl⟩ := ho
  have ht : t < 4 := by
    rcases Nat.lt_or_ge t 4 with h | h
    · exact h
    · rw [List.getElem?_eq_none (by simp [verCells]; exact h)] at hv; cases hv
  have h := hc (t + 1) (by omega)
  rw [Nat.zero_add] at h
  rw [show i * 5 + 1 + t = i * 5 + (t + 1) by omega, h, ← hv]
  rfl
/-- An Insert, its argument spoiled, the row cloned and laid behind the others. -/
theorem PlayL.insertedAll {u' : List Bool} {ids' : List Nat} {r B' Mx' : Nat} {v5 v9 v2 : Value} {ver : Ver} {wp w7 wB wC w2 : World} {row : List UInt8} (hp : PlayL w0 p hb B Mx rows v k M u pg ids wp) (hOp : Only [] wp w) (hH : HeapL w0 p hb 400 M' u' pg' ids' k' w') (hT : ∀ rv, Tells (verR pg' ids') (rows ++ [(⟨r, rv, ver⟩ : MRow)])) (hF : Fits pg' ids' B' Mx') (hS : Step M M' w w')
    (h5 : ByteRow 5 w v5 row) (h5n : ∀ y, v5.ownBlock = some y → wp.heap.size ≤ y)
    (hX : Only v5.ownBlock.toList w' w7) (hO7 : Only [] w7 wB) (h9 : ByteRow 5 wB v9 ver.row) (h9n : ∀ y, v9.ownBlock = some y → w7.heap.size ≤ y) (hOC : Only [] wB wC)
    (hG : GrewOn wC w2 52 5 v v2 (rows.length + 1) (flatR rows ++ rowC ⟨r, v9, ver⟩)) :
    PlayL w0 p hb B' Mx' (rows ++ [(⟨r, v9, ver⟩ : MRow)]) v2 k' M' u' pg' ids' w2 := by
  have h := hp.past hOp
  have hsp := hp.heap.only.size
  have h5M : ∀ y, v5.ownBlock = some y → y ∉ M ∧ w0.heap.size ≤ y ∧ v.ownBlock ≠ some y ∧ y ≠ hb := fun y hy => by
    have h1 := h5n y hy
    have h2 := hp.heap.pool.lt
    have h3 := hp.heap.hp.lt
    exact ⟨fun hm => by have := h2 _ hm; omega, by omega, fun e => by have := hp.row.lt e; omega, by omega⟩
  have h5' : ByteRow 5 w' v5 row := owns_later h5 hS.1 (fun y hy => (h5M y hy).1)
  have hnM' : ∀ y, v5.ownBlock = some y → y ∉ M' := fun y hy => P.Step.keep hS (owns_lt h5 hy) (h5M y hy).1
  have hr1 : RowOn w' 52 5 v rows.length (flatR rows) := h.row.later hS.1 (fun y hy => (h.rowNew y hy).2.1)
  have hr7 : RowOn w7 52 5 v rows.length (flatR rows) := hr1.later hX (fun y hy hy2 => (h5M y (Option.mem_toList.1 hy2)).2.2.1 hy)
  have hH7 := hH.later hX (fun y hy cs hcs => owns_ne h5' hcs (by decide) (Option.mem_toList.1 hy)) (fun y hy => ⟨hnM' y (Option.mem_toList.1 hy), (h5M y (Option.mem_toList.1 hy)).2.2.2, (h5M y (Option.mem_toList.1 hy)).2.1⟩)
  have hO7C : Only [] w7 wC := hO7.trans hOC (by simp)
  have hHC := hH7.past hO7C
  have hrC : RowOn wC 52 5 v rows.length (flatR rows) := hr7.past hO7C
  have h9C : ByteRow 5 wC v9 ver.row := owns_later h9 hOC (by simp)
  have hnew : ∀ y, v.ownBlock = some y → w0.heap.size ≤ y ∧ y ∉ M' ∧ y ≠ hb := fun y hy => by
    have h1 := h.rowNew y hy
    exact ⟨h1.1, P.Step.keep hS (h.row.lt hy) h1.2.1, h1.2.2⟩
  have hsz := hHC.only.size
  have hne : ∀ {v' : Value} {l : List UInt8}, ByteRow 5 wC v' l → ∀ y, v'.ownBlock = some y → y ∉ v.ownBlock.toList := fun {v' l} hb y hy hy2 => by
    have hy3 := Option.mem_toList.1 hy2
    rcases hrC.2 with ⟨rfl, _⟩ | ⟨g', cap', cur, rfl, hbk, _⟩
    · cases hy3
    · simp only [Value.ownBlock, Option.some.injEq] at hy3
      subst hy3
      exact owns_ne hb hbk (by decide) hy
  refine ⟨hHC.later hG.only (fun y hy cs hcs => hrC.ne hcs (by decide) (Option.mem_toList.1 hy)) (fun y hy => ?_), hT v9, hF, ?_, fun y hy => ?_, fun m hm => ?_⟩
  · have h1 := hnew y (Option.mem_toList.1 hy)
    exact ⟨h1.2.1, h1.2.2, h1.1⟩
  · have := hG.own
    rw [flatR_append, List.length_append]
    simpa [flatR] using this
  · rcases hG.lies y hy with h1 | h1
    · exact hnew y h1
    · have h2 := hHC.pool.lt
      have h3 := hHC.hp.lt
      exact ⟨by omega, fun hm => by have := h2 _ hm; omega, by omega⟩
  · rcases List.mem_append.1 hm with hm | hm
    · have hb := h.bytes m hm
      have h1 : ByteRow 5 w' m.rv m.ver.row := owns_later hb.1 hS.1 (fun y hy => (hb.2 y hy).2)
      have h2 : ByteRow 5 w7 m.rv m.ver.row := owns_later h1 hX (fun y hy hy2 => by
        have h3 := h5n y (Option.mem_toList.1 hy2)
        have h4 := owns_lt (hp.bytes m hm).1 hy
        omega)
      have h3 : ByteRow 5 wC m.rv m.ver.row := owns_later h2 hO7C (by simp)
      exact ⟨owns_later h3 hG.only (hne h3), fun y hy => ⟨(hb.2 y hy).1, P.Step.keep hS (owns_lt hb.1 hy) (hb.2 y hy).2⟩⟩
    · simp only [List.mem_singleton] at hm
      subst hm
      refine ⟨owns_later h9C hG.only (hne h9C), fun y hy => ?_⟩
      have h1 := h9n y hy
      have h2 := hH7.pool.lt
      have h3 := hH7.only.size
      exact ⟨by omega, fun hm => by have := h2 _ hm; omega⟩
end
end Go.Proofs.YtfkmjbpnjgnkbaaGreat.H
