import Derived.Test.YtfkmjbpnjgnkbaaGreatMHpS
import Derived.Lib.SlBytesConst
/-
  The laws on heaps: known: by contracts.
-/
namespace Go.Proofs.YtfkmjbpnjgnkbaaGreat.H
set_option linter.unusedSimpArgs false
open Go Go.RowKit Go.Proofs.YtfkmjbpnjgnkbaaGreat.D Go.Proofs.YtfkmjbpnjgnkbaaGreat.B Go.Proofs.YtfkmjbpnjgnkbaaGreat.C Go.Proofs.YtfkmjbpnjgnkbaaGreat.G Go.Proofs.YtfkmjbpnjgnkbaaGreat.P
set_option linter.unusedVariables false
theorem firstFree_used {n : Nat} (h : 2 ≤ n) : firstFree (usedN n) = 1 ∧ firstFree (usedN n) < (usedN n).length := by
  have hl : (usedN n).length = n := by simp [usedN]
  have e : firstFree (usedN n) = 1 := firstFree_eq (by rw [hl]; omega) (by
    unfold usedN
    rw [P.getD_set_ne _ _ _ _ _ (by omega), List.getD_eq_getElem?_getD, List.getElem?_replicate]
    split <;> rfl) (fun i hi => by
    have : i = 0 := by omega
    subst this
    exact P.getD_set_self _ 0 true false (by rw [List.length_replicate]; omega))
  exact ⟨e, by rw [e, hl]; omega⟩
theorem Step.none {M M' : List Nat} {w w1 w2 : World} (h : Step [] M w w1) (g : Step M M' w1 w2) : Step [] M' w w2 := h.trans g
/-- A version laid into the first state: it is in the first page's first slot. -/
theorem first_insert {u' : List Bool} {pg' : Nat → List UInt8} {ids' : List Nat} {id slot n xmin : Nat} {row : List UInt8} (h1 : 1 ≤ row.length) (h2 : row.length ≤ 370) (h : Inserted (usedN n) pg0 0 [0] row xmin u' pg' ids' id slot) : id = 0 ∧ slot = 1 := by
  have hfree : freeS (freshP 0) = 1 := by
    have h1 := (fresh_page 0).2.1.odd.1
    have h2 := freeS_le (freshP 0)
    rw [(fresh_page 0).2.2.1] at h2
    omega
  cases h with
  | here i hi q hq hn =>
    have hi0 : i = 0 := by simpa using hi
    subst hi0
    exact ⟨rfl, hfree⟩
  | more hn hu q hh hq hr =>
    obtain ⟨q2, hq2⟩ := fresh_lays 0 xmin h1 h2
    have := hn 0 (by simp)
    have e : pg0 (([0] : List Nat).getD 0 0) = freshP 0 := rfl
    rw [e, hq2] at this
    cases this
theorem bytes_made {w : World} {l : List UInt8} {t : TypeId} (fr : Nat × Nat) {n c : Nat} (hn : n = l.length) : BytesAt (w.alloc (.cells (u8s l).toArray t fr)) (.slice (some ⟨w.heap.size, 0, none⟩) n c) l := by
  subst hn
  refine ⟨_, c, rfl, fun _ => ⟨w.heap.size, 0, rfl, fun j hj => ?_⟩⟩
  rw [Nat.zero_add, cell_of_row _ w.heap.size j (u8s l).toArray t fr (heap_alloc_new w _)]
  rw [List.getElem?_toArray, u8s_get, List.getElem?_eq_getElem hj, List.getD_eq_getElem?_getD, List.getElem?_eq_getElem hj]
  rfl
set_option maxRecDepth 100000 in
set_option maxHeartbeats 2000000 in
theorem known_any (w : World) : Calls Tryz.prog 5 #[] w fun e w' => e = .returned (.bool true) ∧ Only [] w w' := by
  have MD := Lib.hid (made_any w 10 (by omega) (by omega))
  have kc := fun (w : World) (C : Array Value) (n c : Nat) => Lib.run_convert_bytes_const (P := Tryz.prog) w 33 5 C n c Tryz.underlying33 Tryz.underlying5
  have IC : Hid ((Tryz.prog.info? 50).map (·.size) = some 4) := info_ver
  go_enter Tryz.func5, Tryz.ntmps5
  go_wp2_with (go_at_call 6; refine MD.out.mono ?_; rintro e w1 ⟨p, hb, M1, rfl, hm⟩; have R1 := Lib.hid hm; clear hm)
  obtain ⟨hH1, hn1, hl1, hP1, hS1⟩ := R1.out
  obtain ⟨hI, hOw, h0, hlen, hnone⟩ := heap_first (n := 10) (by omega)
  have hff := firstFree_used (n := 10) (by omega)
  have OA : Only [] w1 (w1.alloc (.cells #[.int .u8 97] 5 (1, 2))) := (Only.refl _ _).alloc _
  have hb1 : BytesAt (w1.alloc (.cells #[.int .u8 97] 5 (1, 2))) (.slice (some ⟨w1.heap.size, 0, none⟩) 1 1) [97] := bytes_made (l := [97]) (1, 2) rfl
  refine (hinsert_any (hP1.past OA) (by simp) (hH1.past OA) hn1 hI hb1 (fun a n c he => ?_) 5 (by decide) (by decide) (by decide) hff.2).mono ?_
  · simp only [Value.slice.injEq, Option.some.injEq] at he
    obtain ⟨rfl, _, _⟩ := he
    exact ⟨fun hm => Nat.lt_irrefl _ (hP1.lt _ hm), by rw [World.size_alloc]; exact Nat.lt_succ_self _⟩
  rintro e w2 ⟨u', pg', ids', id, slot, M2, rfl, hins, hP2, hS2⟩
  obtain ⟨rfl, rfl⟩ := first_insert (by decide) (by decide) hins
  obtain ⟨hD, hPut, _⟩ := hins.done hI h0 (by rw [hlen]; omega) (by decide) (by decide) (by decide)
  have hv : IsVer pg' ids' 1 ⟨[97], 5, 0, 0⟩ := verR_some hPut.mine
  have hM2 : hb ∉ M2 := P.Step.keep hS2 (hH1.past OA).lt hn1
  have GY := Lib.hid (hget_yes hP2 (by simp) (hS2.1.blk (hH1.past OA) hn1) hM2 hD.is_ 1 hv)
  have S2 : Hid (Step [] M2 w w2) := (hS1.then OA).trans hS2
  clear hH1 hn1 hl1 hP1 hS1 hI hOw h0 hlen hnone hff OA hb1 hins hD hPut hv hM2 hS2 hP2
  go_wp2_with (first
    | (go_at_call 21; refine GY.out.mono ?_; rintro e w3 ⟨g, c, M3, rfl, hr3, hg3, hn3, hP3, hS3⟩; have R3 := Lib.hid hr3; have S3 : Hid (Step [] M3 w w3) := S2.out.trans hS3; clear hr3 hg3 hn3 hP3 hS3)
    | (refine wpList_store_blk rfl 50 (.tmp 5) (.tmp 24) rfl w3.heap.size (verCells (.slice (some ⟨g, 0, none⟩) 1 c) 5 0 0) rfl rfl (Blk.new' (verCells (.slice none 0 0) 0 0 0).toArray 50 w3 rfl) rfl IC.out verCells_one ?_; intro w4 hb4 hO4; have O4 : Hid (Only [] w3 w4) := (((Only.refl [] w3).alloc _).trans hO4 (fun x hx => by simp at hx; subst hx; exact .inr (Nat.le_refl _))); have hcv : (convert 33 9 (.slice (some ⟨g, 0, none⟩) 1 c)).run Tryz.prog w4 = .ok (.string ⟨#[97]⟩) w4 := bytes_string (ByteRow.at (owns_later R3.out O4.out (by simp))); have e0 := hb4.cell 0; have e1 := hb4.cell 1; have e2 := hb4.cell 2; have e3 := hb4.cell 3; simp only [verCells, List.getElem?_cons_succ, List.getElem?_cons_zero] at e0 e1 e2 e3; clear hb4 hO4))
  go_ret
  exact ⟨rfl, S3.out.1.trans O4.out (by simp)⟩
end Go.Proofs.YtfkmjbpnjgnkbaaGreat.H

/-
  Chains of versions, and what the laws hold of a heap: plain data but for where it lies.
-/
namespace Go.Proofs.YtfkmjbpnjgnkbaaGreat.H
set_option linter.unusedSimpArgs false
open Go Go.RowKit Go.Proofs.YtfkmjbpnjgnkbaaGreat.D Go.Proofs.YtfkmjbpnjgnkbaaGreat.B Go.Proofs.YtfkmjbpnjgnkbaaGreat.C Go.Proofs.YtfkmjbpnjgnkbaaGreat.G Go.Proofs.YtfkmjbpnjgnkbaaGreat.P
set_option linter.unusedVariables false
theorem take_snoc {l : List Nat} {i : Nat} (h : i < l.length) : l.take i ++ [l.getD i 0] = l.take (i + 1) := by
  rw [List.take_succ_eq_append_getElem h, List.getD_eq_getElem?_getD, List.getElem?_eq_getElem h]; rfl
theorem not_take {l : List Nat} (hn : l.Nodup) {i j : Nat} (hi : i < l.length) (hj : j ≤ i) : l.getD i 0 ∉ l.take j := fun hm => by
  obtain ⟨t, ht, he⟩ := List.getElem_of_mem hm
  rw [List.length_take] at ht
  rw [List.getElem_take] at he
  have := getD_inj hn hi (j := t) (by omega) (by rw [List.getD_eq_getElem?_getD (i := t), List.getElem?_eq_getElem (by omega)]; exact he.symm)
  omega
/-- A row of places of which each one's next is the one behind it is told as it is. -/
theorem chain_walk {V : Nat → Option Ver} {L : List Nat} (hn : L.Nodup)
    (hv : ∀ i, i < L.length → ∃ v, V (L.getD i 0) = some v ∧ (i + 1 < L.length → v.next = L.getD (i + 1) 0 ∧ v.next ≠ 0) ∧ (i + 1 = L.length → v.next = 0 ∨ v.next ∈ L)) :
    ∀ f i, i < L.length → L.length ≤ f + i → chainP V f (L.take i) (L.getD i 0) = L
  | 0, i, hi, hf => by omega
  | f + 1, i, hi, hf => by
    obtain ⟨v, h1, h2, h3⟩ := hv i hi
    rw [chain_step h1, take_snoc hi]
    by_cases hl : i + 1 < L.length
    · obtain ⟨e1, e2⟩ := h2 hl
      rw [if_neg ?_, e1]
      · exact chain_walk hn hv f (i + 1) hl (by omega)
      · rintro (h | h)
        · exact e2 h
        · rw [e1] at h
          exact not_take hn hl (Nat.le_refl _) h
    · have e : L.take (i + 1) = L := List.take_of_length_le (by omega)
      rw [e, if_pos (h3 (by omega))]
/-- A list that holds all numbers below n is as long. -/
theorem pigeon : ∀ (n : Nat) (l : List Nat), (∀ i, i < n → i ∈ l) → n ≤ l.length
  | 0, _, _ => Nat.zero_le _
  | n + 1, l, h => by
    have h1 := pigeon n (l.erase n) (fun i hi => (List.mem_erase_of_ne (by omega)).2 (h i (by omega)))
    have h2 := List.length_erase_of_mem (h n (by omega))
    have h3 := List.length_pos_of_mem (h n (by omega))
    omega
theorem room_left {u : List Bool} {ids : List Nat} (ho : Owns u ids) (h : ids.length < u.length) : firstFree u < u.length := by
  rcases Nat.lt_or_ge (firstFree u) u.length with h1 | h1
  · exact h1
  · have := pigeon u.length ids (fun i hi => ho i (by
      have h2 : i < firstFree u := by omega
      have h3 := List.not_of_lt_findIdx (p := fun b => !b) (xs := u) (show i < List.findIdx (fun b => !b) u from h2)
      rw [List.getD_eq_getElem?_getD, List.getElem?_eq_getElem hi]
      simpa using h3))
    omega
/-- What lists of places have in common: none of a row that is no longer. -/
theorem fin_of {V : Nat → Option Ver} {L : List Nat} (hn : ∀ x, V x ≠ none → x ∈ L) : ∀ l : List Nat, l.Nodup → (∀ x ∈ l, V x ≠ none) → l.length ≤ L.length := by
  intro l hl hv
  have key : ∀ (l L : List Nat), l.Nodup → (∀ x ∈ l, x ∈ L) → l.length ≤ L.length := by
    intro l
    induction l with
    | nil => intro L _ _; exact Nat.zero_le _
    | cons a l ih =>
      intro L hnd hs
      rw [List.nodup_cons] at hnd
      have h1 := ih (L.erase a) hnd.2 (fun x hx => (List.mem_erase_of_ne (show x ≠ a from fun e => hnd.1 (by rw [← e]; exact hx))).2 (hs x (by simp [hx])))
      have h2 := List.length_erase_of_mem (hs a (by simp))
      have h3 := List.length_pos_of_mem (hs a (by simp))
      simp only [List.length_cons]
      omega
  exact key l L hl (fun x hx => hn x (hv x hx))
/-- A heap of which the places L have the versions G tells, and no other place one. -/
structure Vers (V : Nat → Option Ver) (L : List Nat) (Gv : Nat → Ver) : Prop where
  nodup : L.Nodup
  at_ : ∀ j, j < L.length → V (L.getD j 0) = some (Gv j)
  only : ∀ x, V x ≠ none → x ∈ L
  ok : ∀ x ∈ L, 1 ≤ x ∧ x < W64
theorem Vers.nil {V : Nat → Option Ver} (h : ∀ x, V x = none) (Gv : Nat → Ver) : Vers V [] Gv := ⟨List.nodup_nil, fun j hj => by simp at hj, fun x hx => absurd (h x) hx, by simp⟩
theorem Vers.put {V V' : Nat → Option Ver} {L : List Nat} {Gv : Nat → Ver} {r : Nat} {v : Ver} (h : Vers V L Gv) (hp : Put V V' r v) (hg : Gv L.length = v) (h1 : 1 ≤ r) (h2 : r < W64) : Vers V' (L ++ [r]) Gv := by
  have hr : r ∉ L := fun hm => by
    obtain ⟨t, ht, he⟩ := List.getElem_of_mem hm
    have := h.at_ t ht
    rw [List.getD_eq_getElem?_getD, List.getElem?_eq_getElem ht] at this
    have e : V r = some (Gv t) := by rw [← he]; exact this
    rw [hp.free] at e; cases e
  refine ⟨?_, fun j hj => ?_, fun x hx => ?_, fun x hx => ?_⟩
  · rw [List.nodup_append]
    exact ⟨h.nodup, by simp, fun x hx y hy e => by simp at hy; subst hy; subst e; exact hr hx⟩
  · rw [List.length_append, List.length_singleton] at hj
    by_cases e : j = L.length
    · subst e; rw [getD_append_at, hp.mine, hg]
    · rw [getD_append_lt (by omega), hp.rest _ (fun e2 => hr (by rw [← e2]; exact getD_mem (by omega)))]
      exact h.at_ j (by omega)
  · by_cases e : x = r
    · simp [e]
    · rw [hp.rest x e] at hx
      exact List.mem_append.2 (.inl (h.only x hx))
  · rcases List.mem_append.1 hx with hx | hx
    · exact h.ok x hx
    · simp at hx; subst hx; exact ⟨h1, h2⟩
theorem Vers.stamp {V V' : Nat → Option Ver} {L : List Nat} {Gv Gw : Nat → Ver} {i : Nat} (h : Vers V L Gv) (hi : i < L.length) (hv : V' (L.getD i 0) = some (Gw i)) (hr : ∀ x, x ≠ L.getD i 0 → V' x = V x) (hg : ∀ j, j ≠ i → Gw j = Gv j) : Vers V' L Gw := by
  refine ⟨h.nodup, fun j hj => ?_, fun x hx => ?_, h.ok⟩
  · by_cases e : j = i
    · subst e; exact hv
    · rw [hr _ (fun e2 => e (getD_inj h.nodup hj hi e2)), hg j e]; exact h.at_ j hj
  · by_cases e : x = L.getD i 0
    · rw [e]; exact getD_mem hi
    · rw [hr x e] at hx; exact h.only x hx
/-- A heap that a law holds, in memory. -/
structure HeapL (w0 : World) (p hb n : Nat) (M : List Nat) (u : List Bool) (pg : Nat → List UInt8) (ids : List Nat) (k : Nat) (w : World) : Prop where
  pool : PoolV w p M u pg k
  hp : HpAt w hb p 0
  hbM : hb ∉ M
  hb0 : w0.heap.size ≤ hb
  is_ : HeapIs u pg 0 ids
  own : Owns u ids
  zero : u.getD 0 false = true
  ulen : u.length = n
  new : ∀ x ∈ M, w0.heap.size ≤ x
  only : Only [] w0 w
theorem HeapL.made {w0 w : World} {n p hb : Nat} {M : List Nat} (h1 : 1 ≤ n) {w1 : World} (hO : Only [] w0 w1) (h : MadeAt w1 n p hb M w) : HeapL w0 p hb n M (usedN n) pg0 [0] 4 w := by
  obtain ⟨a, b, c, d, e⟩ := h
  obtain ⟨hI, hOw, h0, hl, _⟩ := heap_first h1
  have hs := hO.size
  exact ⟨d, a, b, by omega, hI, hOw, h0, hl, fun x hx => by
    rcases e.2 x hx with h | h
    · cases h
    · omega, hO.trans e.1 (by simp)⟩
theorem HeapL.past {w0 w w' : World} {n p hb k : Nat} {M ids : List Nat} {u : List Bool} {pg : Nat → List UInt8} (h : HeapL w0 p hb n M u pg ids k w) (hO : Only [] w w') : HeapL w0 p hb n M u pg ids k w' :=
  ⟨h.pool.past hO, h.hp.past hO, h.hbM, h.hb0, h.is_, h.own, h.zero, h.ulen, h.new, h.only.trans hO (by simp)⟩
theorem HeapL.later {w0 w w' : World} {n p hb k : Nat} {M ids X : List Nat} {u : List Bool} {pg : Nat → List UInt8} (h : HeapL w0 p hb n M u pg ids k w) (hO : Only X w w') (hX : NoSec w X) (hM : ∀ x ∈ X, x ∉ M ∧ x ≠ hb ∧ w0.heap.size ≤ x) : HeapL w0 p hb n M u pg ids k w' :=
  ⟨h.pool.later hO hX (fun x hx hxX => (hM x hxX).1 hx), hO.blk h.hp (fun hx => (hM _ hx).2.1 rfl), h.hbM, h.hb0, h.is_, h.own, h.zero, h.ulen, h.new, h.only.trans hO (fun x hx => .inr (hM x hx).2.2)⟩
theorem HeapL.step {w0 w w' : World} {n p hb k k' : Nat} {M M' ids ids' : List Nat} {u u' : List Bool} {pg pg' : Nat → List UInt8} (h : HeapL w0 p hb n M u pg ids k w) (hP : PoolV w' p M' u' pg' k') (hS : Step M M' w w') (hI : HeapIs u' pg' 0 ids') (hO : Owns u' ids') (h0 : u'.getD 0 false = true) (hl : u'.length = u.length) : HeapL w0 p hb n M' u' pg' ids' k' w' :=
  ⟨hP, hS.1.blk h.hp h.hbM, P.Step.keep hS h.hp.lt h.hbM, h.hb0, hI, hO, h0, by rw [hl]; exact h.ulen, fun x hx => by
    rcases hS.2 x hx with h1 | h1
    · exact h.new x h1
    · have := h.only.size; omega, h.only.trans hS.1 (fun x hx => .inr (h.new x hx))⟩
end Go.Proofs.YtfkmjbpnjgnkbaaGreat.H

/-
  The laws on heaps: a heap that a law holds, its calls; rids: by contracts.
-/
namespace Go.Proofs.YtfkmjbpnjgnkbaaGreat.H
set_option linter.unusedSimpArgs false
open Go Go.RowKit Go.Proofs.YtfkmjbpnjgnkbaaGreat.D Go.Proofs.YtfkmjbpnjgnkbaaGreat.B Go.Proofs.YtfkmjbpnjgnkbaaGreat.C Go.Proofs.YtfkmjbpnjgnkbaaGreat.G Go.Proofs.YtfkmjbpnjgnkbaaGreat.P
set_option linter.unusedVariables false
section
variable {w0 w : World} {p hb n k : Nat} {M ids : List Nat} {u : List Bool} {pg : Nat → List UInt8}
/-- What Insert does to a heap that a law holds. -/
structure InsL (w0 w : World) (p hb n k : Nat) (M ids : List Nat) (u : List Bool) (pg : Nat → List UInt8) (row : List UInt8) (xmin : Nat) (r : Nat) (u' : List Bool) (pg' : Nat → List UInt8) (ids' M' : List Nat) (w' : World) : Prop where
  heap : HeapL w0 p hb n M' u' pg' ids' (k + 2 * ids.length + 8) w'
  ins : ∃ id slot, r = id * 128 + slot ∧ Inserted u pg 0 ids row xmin u' pg' ids' id slot
  put : Put (verR pg ids) (verR pg' ids') r ⟨row, xmin, 0, 0⟩
  few : ids'.length ≤ ids.length + 1
  ok : 1 ≤ r ∧ r < W64
  step : Step M M' w w'
theorem HeapL.insert (h : HeapL w0 p hb n M u pg ids k w) (hk : k + 2 * ids.length + 20 ≤ 1000000) (hroom : ids.length < n) {v : Value} {row : List UInt8} (hv : BytesAt w v row) (hvM : ∀ a n c, v = .slice (some a) n c → a.block ∉ M ∧ a.block < w.heap.size) (xmin : Nat) (hx : xmin < W64) (h1 : 1 ≤ row.length) (h2 : row.length ≤ 370) :
    Calls Tryz.prog 7 #[.pointer (some ⟨hb, 0, none⟩), v, .int .u64 xmin] w fun e w' => ∃ r u' pg' ids' M', e = .returned (.tuple #[.int .u64 (r : Nat), .int .i64 0]) ∧ InsL w0 w p hb n k M ids u pg row xmin r u' pg' ids' M' w' := by
  refine (hinsert_any h.pool hk h.hp h.hbM h.is_ hv hvM xmin hx h1 h2 (room_left h.own (by rw [h.ulen]; exact hroom))).mono ?_
  rintro e w' ⟨u', pg', ids', id, slot, M', rfl, hi, hP, hS⟩
  obtain ⟨hD, hPut, hid, hsl, hs1, _⟩ := hi.done h.is_ h.zero h.pool.size hx h1 h2
  refine ⟨id * 128 + slot, u', pg', ids', M', rfl, h.step hP hS hD.is_ (hD.own h.own) hD.zero hD.len, ⟨id, slot, rfl, hi⟩, hPut, ?_, ⟨by omega, by unfold W64; omega⟩, hS⟩
  cases hi with
  | here => omega
  | more => simp
theorem HeapL.stamp (h : HeapL w0 p hb n M u pg ids k w) (hk : k + 10 ≤ 1000000) {r : Nat} {v : Ver} (hv : verR pg ids r = some v) (x nx : Nat) (hx : x < W64) (hnx : nx < W64) :
    Calls Tryz.prog 15 #[.pointer (some ⟨hb, 0, none⟩), .int .u64 r, .int .u64 x, .int .u64 nx] w fun e w' => ∃ pg' M', e = .returned (.int .i64 0) ∧ HeapL w0 p hb n M' u pg' ids (k + 4) w' ∧ verR pg' ids r = some ⟨v.row, v.xmin, x, nx⟩ ∧ (∀ y, y ≠ r → verR pg' ids y = verR pg ids y) ∧ Step M M' w w' := by
  have hver := verR_some hv
  refine (stamp_yes h.pool hk h.hp h.hbM h.is_ r hver x nx hx hnx).mono ?_
  rintro e w' ⟨q, M', rfl, hq, hP, hS⟩
  have hxm : v.xmin < W64 := by
    obtain ⟨_, _, _, hp⟩ := h.is_.at hver.1
    obtain ⟨_, s, _, _, h3, _, _, h6⟩ := verAt_some hp hver.2
    rw [h6]
    exact unle_w (by rw [List.length_take]; omega)
  obtain ⟨d1, d2, d3⟩ := stamp_done h.is_ hver hxm hx hnx hq
  exact ⟨_, M', rfl, h.step hP hS d1 h.own h.zero rfl, d2, d3, hS⟩
theorem HeapL.stampNo (h : HeapL w0 p hb n M u pg ids k w) (hk : k + 10 ≤ 1000000) {r : Nat} (hr : r < W64) (hv : verR pg ids r = none) (x nx : Nat) :
    Calls Tryz.prog 15 #[.pointer (some ⟨hb, 0, none⟩), .int .u64 r, .int .u64 x, .int .u64 nx] w fun e w' => ∃ M', e = .returned (.int .i64 91) ∧ HeapL w0 p hb n M' u pg ids (k + 2) w' ∧ Step M M' w w' := by
  refine (stamp_no h.pool (by omega) h.hp h.hbM h.is_ r hr (verR_none h.own hv) x nx).mono ?_
  rintro e w' ⟨rfl, M', hP, hS⟩
  exact ⟨M', rfl, h.step hP hS h.is_ h.own h.zero rfl, hS⟩
theorem HeapL.free (h : HeapL w0 p hb n M u pg ids k w) (hk : k + 10 ≤ 1000000) {r : Nat} {v : Ver} (hv : verR pg ids r = some v) :
    Calls Tryz.prog 9 #[.pointer (some ⟨hb, 0, none⟩), .int .u64 r] w fun e w' => ∃ pg' M', e = .returned (.int .i64 0) ∧ HeapL w0 p hb n M' u pg' ids (k + 4) w' ∧ verR pg' ids r = none ∧ (∀ y, y ≠ r → verR pg' ids y = verR pg ids y) ∧ Step M M' w w' ∧ ∃ q q2, Del (pg (r / 128)) (r % 128 + 1) q ∧ Del q (r % 128) q2 ∧ pg' = upd pg (r / 128) q2 := by
  have hver := verR_some hv
  refine (hfree_yes h.pool hk h.hp h.hbM h.is_ r hver).mono ?_
  rintro e w' ⟨q, q2, M', rfl, hq, hq2, hP, hS⟩
  obtain ⟨d1, d2, d3⟩ := free_done h.is_ hver hq hq2
  exact ⟨_, M', rfl, h.step hP hS d1 h.own h.zero rfl, d2, d3, hS, q, q2, hq, hq2, rfl⟩
theorem HeapL.freeNo (h : HeapL w0 p hb n M u pg ids k w) (hk : k + 10 ≤ 1000000) {r : Nat} (hr : r < W64) (hv : verR pg ids r = none) :
    Calls Tryz.prog 9 #[.pointer (some ⟨hb, 0, none⟩), .int .u64 r] w fun e w' => ∃ M', e = .returned (.int .i64 91) ∧ HeapL w0 p hb n M' u pg ids (k + 2) w' ∧ Step M M' w w' := by
  refine (hfree_no h.pool (by omega) h.hp h.hbM h.is_ r hr (verR_none h.own hv)).mono ?_
  rintro e w' ⟨rfl, M', hP, hS⟩
  exact ⟨M', rfl, h.step hP hS h.is_ h.own h.zero rfl, hS⟩
theorem HeapL.chain (h : HeapL w0 p hb n M u pg ids k w) {r : Nat} (hr : r < W64) {v0 : Ver} (hv : verR pg ids r = some v0) (K : Nat) (hfin : ∀ l : List Nat, l.Nodup → (∀ x ∈ l, verR pg ids x ≠ none) → l.length ≤ K) (hk : k + 2 * K + 10 ≤ 1000000) (hK : K ≤ 100000) :
    Calls Tryz.prog 16 #[.pointer (some ⟨hb, 0, none⟩), .int .u64 r] w fun e w' => ∃ v M', e = .returned (.tuple #[v, .int .i64 0]) ∧ RidRow w' v (chainP (verR pg ids) (K + 1) [] r) ∧ (∀ x, v.ownBlock = some x → w.heap.size ≤ x ∧ x ∉ M') ∧ HeapL w0 p hb n M' u pg ids (k + 2 * K + 4) w' ∧ Step M M' w w' := by
  refine (hchain_some h.pool h.hp h.hbM h.is_ h.own r hr hv K hfin hk hK).mono ?_
  rintro e w' ⟨v, M', rfl, hrow, hnew, hP, hS⟩
  exact ⟨v, M', rfl, hrow, hnew, h.step hP hS h.is_ h.own h.zero rfl, hS⟩
end
set_option maxRecDepth 100000 in
set_option maxHeartbeats 1000000 in
theorem rids_any {w : World} {x y : Value} {a b : List Nat} (hx : RidsAt w x a) (hy : RidsAt w y b) (hm : a.length ≤ 1000000) {z : Bool} (hz : decide (a = b) = z) :
    Calls Tryz.prog 17 #[x, y] w fun e w' => e = .returned (.bool z) ∧ Only [] w w' := by
  obtain ⟨ao, cap, rfl, hc1, hc⟩ := hx
  obtain ⟨bo, cap2, rfl, hc2, hd⟩ := hy
  have HZ := Lib.hid hz
  by_cases hl : a.length = b.length
  · have HC := Lib.hid hc
    have HD := Lib.hid hd
    have hl2 := hl.symm
    rw [hl2] at HD ⊢
    have HL := Lib.hid hl
    clear hc hd hc1 hc2 hl hl2 hz
    generalize hn : a.length = n at *
    have HN := Lib.hid hn
    clear hn
    go_enter Tryz.func17, Tryz.ntmps17
    go_wp2_with fail
    go_loopg [5] n (fun gk s3 wr => ∃ j : Nat, gk = n - j ∧ j ≤ n ∧ s3 = .int .i64 j ∧ Only [] w wr ∧ ∀ i, i < j → a.getD i 0 = b.getD i 0)
    case atStart => exact ⟨0, rfl, Nat.zero_le _, rfl, Only.refl _ _, fun i hi => by omega⟩
    case round =>
      obtain ⟨j, hgk, hj, rfl, hO, hs⟩ := hrel
      have HGK := Lib.hid hgk
      have HS := Lib.hid hs
      clear hgk hs
      by_cases hlt : j < n
      · have hj0 : (0 : Int) ≤ j := by omega
        have hj1 : (j : Int) < n := by omega
        obtain ⟨b1, o1, rfl, hcell⟩ := HC.out (by omega)
        obtain ⟨b2, o2, rfl, hcell2⟩ := HD.out (by omega)
        have cj := hO.cell (hcell j hlt) (by simp)
        have dj := hO.cell (hcell2 j hlt) (by simp)
        have HO := Lib.hid hO
        clear hO
        clear hcell hcell2
        have HNE : Hid (a.getD j 0 ≠ b.getD j 0 → z = false) := fun h => by
          rw [← HZ.out]
          exact decide_eq_false (fun e => h (by rw [e]))
        have HY : Hid (a.getD j 0 = b.getD j 0 → ∀ i, i < j + 1 → a.getD i 0 = b.getD i 0) := fun h i hi => by
          by_cases e : i < j
          · exact HS.out i e
          · have : i = j := by omega
            rw [this]; exact h
        generalize a.getD j 0 = x1 at *
        generalize b.getD j 0 = x2 at *
        by_cases he : x1 = x2
        · have HY2 := Lib.hid (HY.out he)
          subst he
          go_wp2_with fail
          go_quiet (fail)
          go_wp2_with fail
          go_roundg (n - (j + 1))
          case measure => have := HGK.out; omega
          case rel => exact ⟨j + 1, rfl, by omega, by go_num, HO.out.drewN nq, HY2.out⟩
        · have e1 : ((x1 : Int) != (x2 : Int)) = true := by simp; omega
          have e2 : ¬ (x1 : Int) = (x2 : Int) := by omega
          have HF := Lib.hid (HNE.out he)
          clear he
          go_wp2_with fail
          go_quiet (fail)
          go_wp2_with fail
          go_ret
          rw [HF.out]
          exact ⟨rfl, HO.out.drewN nq⟩
      · obtain rfl : j = n := by omega
        have HT : Hid (z = true) := by
          show _ = _
          rw [← HZ.out]
          refine decide_eq_true (List.ext_getElem (HN.out.trans HL.out) (fun i h1 h2 => ?_))
          have := HS.out i (by rw [← HN.out]; exact h1)
          rw [List.getD_eq_getElem?_getD, List.getD_eq_getElem?_getD, List.getElem?_eq_getElem h1, List.getElem?_eq_getElem h2] at this
          exact this
        go_wp2_with fail
        go_ret
        rw [HT.out]
        exact ⟨rfl, hO⟩
  · have HF : Hid (z = false) := by
      show _ = _
      rw [← hz]
      exact decide_eq_false (fun e => hl (by rw [e]))
    have e1 : ((a.length : Int) != (b.length : Int)) = true := by simp; omega
    have e2 : ¬ (a.length : Int) = (b.length : Int) := by omega
    clear hc hd hc1 hc2 hl hz
    generalize a.length = la at *
    generalize b.length = lb at *
    go_enter Tryz.func17, Tryz.ntmps17
    go_wp2_with fail
    go_ret
    rw [HF.out]
    exact ⟨rfl, Only.refl _ _⟩
end Go.Proofs.YtfkmjbpnjgnkbaaGreat.H
