import Derived.Test.YtfkmjbpnjgnkbaaGreatMHpS
import Derived.Test.YtfkmjbpnjgnkbaaGreatMHpL
import Derived.Test.YtfkmjbpnjgnkbaaGreatMSortG
/-
  The program's heap: Pages: by contracts.
-/
namespace Go.Proofs.YtfkmjbpnjgnkbaaGreat.H
set_option linter.unusedSimpArgs false
open Go Go.RowKit Go.Proofs.YtfkmjbpnjgnkbaaGreat.D Go.Proofs.YtfkmjbpnjgnkbaaGreat.B Go.Proofs.YtfkmjbpnjgnkbaaGreat.C Go.Proofs.YtfkmjbpnjgnkbaaGreat.G Go.Proofs.YtfkmjbpnjgnkbaaGreat.P
set_option linter.unusedVariables false
/-- Numbers as values. -/
def iv (l : List Nat) : List Value := (l.map fun j => ((j : Nat) : Int)).map (Value.int .i64)
@[simp] theorem iv_len (l : List Nat) : (iv l).length = l.length := by simp [iv]
theorem iv_append (l k : List Nat) : iv (l ++ k) = iv l ++ iv k := by simp [iv]
/-- A closure that writes its own row, too. -/
theorem Each.row {w0 w w' : World} {p : Nat} {M0 X Y M : List Nat} {u : List Bool} {pg : Nat → List UInt8} {k : Nat} (h : Each w0 p M0 X u pg k M w) (hO : Only Y w w') (hY : NoSec w Y) (hM : ∀ x ∈ Y, x ∉ M ∧ (x ∈ X ∨ w0.heap.size ≤ x)) : Each w0 p M0 X u pg k M w' :=
  ⟨h.pool.later hO hY (fun x hx hxY => (hM x hxY).1 hx), h.only.trans hO (fun x hx => by
    rcases (hM x hx).2 with h1 | h1
    · exact .inl (by simp [h1])
    · exact .inr h1), h.mine⟩
theorem owns_some {w : World} {e : TypeId} {v : Value} {n : Nat} {xs : List Value} (h : w.ownsRow 0 e 1 v n xs) (h0 : 0 < n) : ∃ g cap, v = .slice (some ⟨g, 0, none⟩) n cap := by
  rcases h.2 with ⟨_, h1⟩ | ⟨g, cap, cur, rfl, _⟩
  · omega
  · exact ⟨g, cap, rfl⟩
theorem info_int : (Tryz.prog.info? 3).map (fun i => (i.zero, i.size, i.bytes)) = some (some (.int .i64 0), 1, 8) := by kernel_rfl
/-- A box that holds a row, and the row. -/
structure BoxRow (w : World) (N : Nat) (tb te : TypeId) (v : Value) (n : Nat) (xs : List Value) : Prop where
  box : Blk w N [v] tb
  row : w.ownsRow 0 te 1 v n xs
  above : ∀ x, v.ownBlock = some x → N < x
theorem BoxRow.later {w w' : World} {N n : Nat} {tb te : TypeId} {v : Value} {xs : List Value} (h : BoxRow w N tb te v n xs) {X : List Nat} (hO : Only X w w') (hN : N ∉ X) (hv : ∀ x, v.ownBlock = some x → x ∉ X) : BoxRow w' N tb te v n xs :=
  ⟨hO.blk h.box hN, owns_later h.row hO hv, h.above⟩
/-- What a closure that puts something behind its row does. -/
def Pushed (w : World) (N : Nat) (tb te : TypeId) (v : Value) (n : Nat) (xs : List Value) (w' : World) : Prop :=
  ∃ v', BoxRow w' N tb te v' n xs ∧ (∀ x, v'.ownBlock = some x → v.ownBlock = some x ∨ w.heap.size ≤ x) ∧ Only (N :: v.ownBlock.toList) w w'
theorem owns_slice {w : World} {base : Nat} {e : TypeId} {size : Nat} {v : Value} {n : Nat} {xs : List Value} (h : w.ownsRow base e size v n xs) : ∃ ao cap, v = .slice ao n cap := by
  rcases h.2 with ⟨rfl, h0⟩ | ⟨g, cap, cur, rfl, _⟩
  · exact ⟨none, 0, by have := h.1; subst h0; simp_all⟩
  · exact ⟨_, cap, rfl⟩
theorem push_done {w w6 : World} {N n g6 cp : Nat} {tb te : TypeId} {v : Value} {xs ys : List Value} (hB : BoxRow w N tb te v n xs) (o : Obj) (hO : Only v.ownBlock.toList (w.alloc o) w6) (hown : w6.ownsRow 0 te 1 (.slice (some ⟨g6, 0, none⟩) (n + 1) cp) (n + 1) ys) (hat : v.ownBlock = some g6 ∨ g6 = (w.alloc o).heap.size) (b6 : Blk w6 N [v] tb) :
    Pushed w N tb te v (n + 1) ys (w6.setCell ⟨N, 0, none⟩ (.slice (some ⟨g6, 0, none⟩) (n + 1) cp)) := by
  have hN := hB.box.lt
  have hg : N < g6 := by
    rcases hat with h | h
    · exact hB.above _ h
    · rw [h, World.size_alloc]; omega
  refine ⟨_, ⟨b6.set 0 _, owns_later hown (only_one (X := [N]) _ (by simp)) (fun x hx => ?_), fun x hx => ?_⟩, fun x hx => ?_, ?_⟩
  · simp only [Value.ownBlock, Option.some.injEq] at hx
    subst hx; simp; omega
  · simp only [Value.ownBlock, Option.some.injEq] at hx
    subst hx; exact hg
  · simp only [Value.ownBlock, Option.some.injEq] at hx
    subst hx
    rcases hat with h | h
    · exact .inl h
    · right; rw [h, World.size_alloc]; omega
  · exact (((Only.refl (N :: v.ownBlock.toList) w).alloc o).trans hO (fun x hx => .inl (List.mem_cons_of_mem _ hx))).trans (only_one (X := N :: v.ownBlock.toList) _ (by simp)) (fun x hx => .inl hx)
set_option maxRecDepth 100000 in
theorem pvisit_any {w : World} {N id gb c n : Nat} {v : Value} {xs : List Value} (hB : BoxRow w N 34 3 v n xs) (hn : n ≤ 1000000) :
    Calls Tryz.prog 37 #[.int .i64 id, .slice (some ⟨gb, 0, none⟩) 512 c, .pointer (some ⟨N, 0, none⟩)] w fun e w' => e = .returned (.bool true) ∧ Pushed w N 34 3 v (n + 1) (xs ++ [.int .i64 id]) w' := by
  have HB := Lib.hid hB
  obtain ⟨ao, cap, rfl⟩ := owns_slice hB.row
  have c0 := hB.box.cell 0
  have f0 := hB.box.frozen 0
  simp only [List.getElem?_cons_zero] at c0
  have NB : Hid (N ∉ (Value.slice ao n cap).ownBlock.toList) := fun hx => Nat.lt_irrefl _ (hB.above N (Option.mem_toList.1 hx))
  clear hB
  go_enter Tryz.func37, Tryz.ntmps37
  go_wp2_with (refine wpList_push rfl (.tmp 6) (.tmp 8) 34 rfl 3 Tryz.underlying34 (info_parts info_int) rfl (.slice ao n cap) n xs rfl (by exact owns_later HB.out.row ((Only.refl [] w).alloc _) (by simp)) _ _ _ rfl (by exact (Blk.new _ _ _).cell 0) rfl (by omega) (by decide) ?_; intro g6 cp w6 hown hO6 hat hg6; have b6 := hO6.blk (HB.out.box.alloc (.cells #[.int .i64 id] 3)) NB.out; have c6 := b6.cell 0; have f6 := b6.frozen 0; simp only [List.getElem?_cons_zero] at c6; have HO6 := Lib.hid hO6; have HOWN := Lib.hid hown; have HAT := Lib.hid hat; have B6 := Lib.hid b6; clear hO6 hown hat hg6 b6)
  go_ret
  exact ⟨rfl, push_done HB.out (.cells #[.int .i64 id] 3) HO6.out HOWN.out HAT.out B6.out⟩
/-- What Pages tells. -/
def PgJ (N : Nat) (ids : List Nat) (S : Nat) (i : Nat) (M1 : List Nat) (w1 : World) : Prop :=
  ∃ v, BoxRow w1 N 34 3 v i (iv (ids.take i)) ∧ ∀ x, v.ownBlock = some x → S ≤ x ∧ x ∉ M1
theorem take_ids {ids : List Nat} {i : Nat} (h : i < ids.length) : iv (ids.take (i + 1)) = iv (ids.take i) ++ [.int .i64 (ids.getD i 0 : Nat)] := by
  rw [List.take_succ_eq_append_getElem h, iv_append, List.getD_eq_getElem?_getD, List.getElem?_eq_getElem h]; rfl
set_option maxRecDepth 100000 in
set_option maxHeartbeats 1000000 in
theorem pages_any {w : World} {hb p root k : Nat} {M : List Nat} {u : List Bool} {pg : Nat → List UInt8} {ids : List Nat} (hP : PoolV w p M u pg k) (hk : k + 2 * ids.length ≤ 1000000) (hH : HpAt w hb p root) (hM : hb ∉ M) (hI : HeapIs u pg root ids) (hl : ids.length ≤ 500000) :
    Calls Tryz.prog 8 #[.pointer (some ⟨hb, 0, none⟩)] w fun e w' => ∃ v M', e = .returned (.tuple #[v, .int .i64 0]) ∧ w'.ownsRow 0 3 1 v ids.length ((I.rising (ids.map fun j => ((j : Nat) : Int))).map (Value.int .i64)) ∧ (∀ x, v.ownBlock = some x → w.heap.size ≤ x ∧ x ∉ M') ∧ PoolV w' p M' u pg (k + 2 * ids.length) ∧ Step M M' w w' := by
  have hMlt := hP.lt
  have hbl := hH.lt
  have EA : Hid (∀ w1, w1 = w.alloc (.cells #[.slice none 0 0] 34) → Calls Tryz.prog 28 #[.pointer (some ⟨hb, 0, none⟩), .func (.func 37) #[] #[.pointer (some ⟨w.heap.size, 0, none⟩)]] w1 fun e w' => e = .returned (.int .i64 0) ∧ ∃ M', Each w1 p M [w.heap.size] u pg (k + 2 * ids.length) M' w' ∧ PgJ w.heap.size ids w1.heap.size ids.length M' w') := by
    rintro w1 rfl
    have hs := World.size_alloc w (.cells #[.slice none 0 0] 34)
    have O1 := (Only.refl [] w).alloc (.cells #[.slice none 0 0] 34)
    refine (each_any (X := [w.heap.size]) (hP.past O1) hk (hH.past O1) hM (by simp; omega) hI 37 (enters_of Tryz.func37 (by kernel_rfl) rfl) _ (PgJ w.heap.size ids (w.alloc (.cells #[.slice none 0 0] 34)).heap.size) (fun _ _ _ => False) ?_ ?_ ?_).mono ?_
    · exact ⟨_, ⟨Blk.new' _ _ w rfl, ⟨rfl, .inl ⟨rfl, rfl⟩⟩, fun x hx => by simp [Value.ownBlock] at hx⟩, fun x hx => by simp [Value.ownBlock] at hx⟩
    · rintro i M1 w1 M2 w2 ⟨v, hB, hv⟩ hm hS
      have hN : w.heap.size ∉ M1 := fun h => by
        rcases hm _ h with h1 | h1
        · have := hMlt _ h1; omega
        · omega
      exact ⟨v, hB.later hS.1 hN (fun x hx => (hv x hx).2), fun x hx => ⟨(hv x hx).1, P.Step.keep hS (owns_lt hB.row hx) (hv x hx).2⟩⟩
    · rintro i M1 w1 gb c hi ⟨v, hB, hv⟩ hE hb1 hg1 hn1
      refine (pvisit_any hB (by omega)).mono ?_
      rintro e w2 ⟨rfl, v', hB', hv', hO⟩
      have hN : w.heap.size ∉ M1 := fun h => by
        rcases hE.mine _ h with h1 | h1
        · have := hMlt _ h1; omega
        · omega
      refine ⟨hE.row hO (fun x hx cs hcs => ?_) (fun x hx => ?_), .inl ⟨rfl, v', by rw [take_ids hi]; exact hB', fun x hx => ?_⟩⟩
      · rcases List.mem_cons.1 hx with h | h
        · subst h; exact absurd rfl (hcs.ne hB.box (by decide))
        · exact owns_ne hB.row hcs (by decide) (Option.mem_toList.1 h)
      · rcases List.mem_cons.1 hx with h | h
        · subst h; exact ⟨hN, .inl (by simp)⟩
        · exact ⟨(hv x (Option.mem_toList.1 h)).2, .inr (hv x (Option.mem_toList.1 h)).1⟩
      · rcases hv' x hx with h | h
        · exact hv x h
        · have h1 := hE.only.size
          exact ⟨by omega, fun hm => by have := hE.pool.lt _ hm; omega⟩
    · rintro e w' ⟨rfl, M', hE, h | ⟨i, _, h⟩⟩
      · exact ⟨rfl, M', hE, h⟩
      · exact h.elim
  have SA : Hid (∀ (g cap : Nat) (w1 : World), w1.ownsRow 0 3 1 (.slice (some ⟨g, 0, none⟩) ids.length cap) ids.length (iv ids) → Calls Tryz.prog 38 #[.slice (some ⟨g, 0, none⟩) ids.length cap] w1 fun e w' => e = .returned (.tuple #[]) ∧ w'.ownsRow 0 3 1 (.slice (some ⟨g, 0, none⟩) ids.length cap) ids.length ((I.rising (ids.map fun j => ((j : Nat) : Int))).map (Value.int .i64)) ∧ Only [g] w1 w') := fun g cap w1 h => I.sort_any g ids.length cap _ w1 (by simp) (by omega) h
  have HI := Lib.hid hI.some_
  go_enter Tryz.func8, Tryz.ntmps8
  go_wp2_with (go_at_call 28; refine (EA.out _ rfl).mono ?_; rintro e w2 ⟨rfl, M2, hE, v, hB, hv⟩; obtain ⟨g, cap, rfl⟩ := owns_some hB.row HI.out; rw [List.take_of_length_le (Nat.le_refl _)] at hB; have c0 := hB.box.cell 0; simp only [List.getElem?_cons_zero] at c0; have EE := Lib.hid hE; have HB := Lib.hid hB; have HV := Lib.hid (hv g rfl); clear hE hB hv)
  refine (SA.out g cap w2 HB.out.row).mono ?_
  rintro e w3 ⟨rfl, hr3, hO3⟩
  have c3 := (hO3.blk HB.out.box (by simp; have := HB.out.above g rfl; omega)).cell 0
  simp only [List.getElem?_cons_zero] at c3
  have R3 := Lib.hid hr3
  have O3 := Lib.hid hO3
  clear hr3 hO3 c0
  go_wp2_with fail
  go_ret2
  have hs := World.size_alloc w (.cells #[.slice none 0 0] 34)
  have hv := HV.out
  have hE := EE.out
  refine ⟨.slice (some ⟨g, 0, none⟩) ids.length cap, M2, rfl, R3.out, fun x hx => ?_, hE.pool.later O3.out (fun x hx cs hcs => ?_) (fun x hx hxg => ?_), (((Only.refl M w).alloc (.cells #[.slice none 0 0] 34)).trans hE.only (fun x hx => ?_)).trans O3.out (fun x hx => ?_), fun x hx => ?_⟩
  · simp only [Value.ownBlock, Option.some.injEq] at hx
    subst hx; exact ⟨by omega, hv.2⟩
  · simp at hx; subst hx; exact owns_ne HB.out.row hcs (by decide) rfl
  · simp at hxg; subst hxg; exact hv.2 hx
  · rcases List.mem_append.1 hx with h | h
    · simp at h; subst h; exact .inr (Nat.le_refl _)
    · exact .inl h
  · simp at hx; subst hx; exact .inr (by omega)
  · rcases hE.mine x hx with h | h
    · exact .inl h
    · exact .inr (by omega)
end Go.Proofs.YtfkmjbpnjgnkbaaGreat.H
