import Derived.Test.YtfkmjbpnjgnkbaaGreatMHpB
import Derived.Test.YtfkmjbpnjgnkbaaGreatMHpF
import Derived.Deep.LoopGhost
/-
  The program's heap: going through its pages: by contracts.
-/
namespace Go.Proofs.YtfkmjbpnjgnkbaaGreat.H
set_option linter.unusedSimpArgs false
open Go Go.RowKit Go.Proofs.YtfkmjbpnjgnkbaaGreat.D Go.Proofs.YtfkmjbpnjgnkbaaGreat.B Go.Proofs.YtfkmjbpnjgnkbaaGreat.C Go.Proofs.YtfkmjbpnjgnkbaaGreat.G Go.Proofs.YtfkmjbpnjgnkbaaGreat.P
set_option linter.unusedVariables false
/-- The pages of a heap: the first one is its root. -/
structure HeapIs (u : List Bool) (pg : Nat → List UInt8) (root : Nat) (ids : List Nat) : Prop where
  head : ids.getD 0 0 = root
  some_ : 0 < ids.length
  nodup : ids.Nodup
  used : ∀ id ∈ ids, u.getD id false = true
  page : ∀ i, i < ids.length → HPage root (ids.getD (i + 1) 0) (pg (ids.getD i 0))
  pos : ∀ i, 0 < i → i < ids.length → 0 < ids.getD i 0
  slots : ∀ id ∈ ids, nS (pg id) ≤ 29
theorem getD_mem {l : List Nat} {i : Nat} (h : i < l.length) : l.getD i 0 ∈ l := by
  rw [List.getD_eq_getElem?_getD, List.getElem?_eq_getElem h]
  exact List.getElem_mem h
theorem getD_over {l : List Nat} {i : Nat} (h : l.length ≤ i) : l.getD i 0 = 0 := by rw [List.getD_eq_getElem?_getD, List.getElem?_eq_none h]; rfl
theorem HeapIs.id_lt {u : List Bool} {pg : Nat → List UInt8} {root : Nat} {ids : List Nat} (h : HeapIs u pg root ids) (hu : u.length ≤ 65536) {i : Nat} : ids.getD i 0 < 65536 := by
  rcases Nat.lt_or_ge i ids.length with h1 | h1
  · have := used_lt (h.used _ (getD_mem h1)); omega
  · rw [getD_over h1]; omega
theorem HeapIs.next {u : List Bool} {pg : Nat → List UInt8} {root : Nat} {ids : List Nat} (h : HeapIs u pg root ids) (hu : u.length ≤ 65536) {i : Nat} (hi : i < ids.length) : headOf root (pg (ids.getD i 0)) = some (ids.getD (i + 1) 0) :=
  (h.page i hi).headOf (by have := h.id_lt hu (i := 0); rw [h.head] at this; exact this) (h.id_lt hu)
/-- Where going through the pages ends: ahead of all, or at a page. -/
structure Each (w0 : World) (p : Nat) (M0 X : List Nat) (u : List Bool) (pg : Nat → List UInt8) (k : Nat) (M : List Nat) (w : World) : Prop where
  pool : PoolV w p M u pg k
  only : Only (X ++ M0) w0 w
  mine : ∀ x ∈ M, x ∈ M0 ∨ w0.heap.size ≤ x
theorem Each.start {w0 : World} {p : Nat} {M0 X : List Nat} {u : List Bool} {pg : Nat → List UInt8} {k : Nat} (h : PoolV w0 p M0 u pg k) : Each w0 p M0 X u pg k M0 w0 := ⟨h, Only.refl _ _, fun x hx => .inl hx⟩
theorem Each.step {w0 w w' : World} {p : Nat} {M0 X M M' : List Nat} {u : List Bool} {pg pg' : Nat → List UInt8} {u' : List Bool} {k k' : Nat} (h : Each w0 p M0 X u pg k M w) (hP : PoolV w' p M' u' pg' k') (hS : Step M M' w w') : Each w0 p M0 X u' pg' k' M' w' :=
  ⟨hP, h.only.trans hS.1 (fun x hx => by
    rcases h.mine x hx with h1 | h1
    · exact .inl (by simp [h1])
    · exact .inr h1), fun x hx => by
    rcases hS.2 x hx with h1 | h1
    · exact h.mine x h1
    · exact .inr (Nat.le_trans h.only.size h1)⟩
theorem Each.own {w0 w w' : World} {p : Nat} {M0 X M : List Nat} {u : List Bool} {pg : Nat → List UInt8} {k : Nat} (h : Each w0 p M0 X u pg k M w) (hO : Only X w w') (hX : NoSec w X) (hM : ∀ x ∈ X, x ∉ M0 ∧ x < w0.heap.size) : Each w0 p M0 X u pg k M w' :=
  ⟨h.pool.later hO hX (fun x hx hxX => by
    rcases h.mine x hx with h1 | h1
    · exact (hM x hxX).1 h1
    · have := (hM x hxX).2; omega), h.only.trans hO (fun x hx => .inl (by simp [hx])), h.mine⟩
set_option maxRecDepth 100000 in
set_option maxHeartbeats 1000000 in
/-- each: the closure f with what it captured; J i: it was called at the first i pages and said yes each time; Q i: it said no at page i. -/
theorem each_any {w : World} {hb p root k : Nat} {M X : List Nat} {u : List Bool} {pg : Nat → List UInt8} {ids : List Nat} (hP : PoolV w p M u pg k) (hk : k + 2 * ids.length ≤ 1000000) (hH : HpAt w hb p root) (hM : hb ∉ M) (hbX : hb ∉ X)
    (hI : HeapIs u pg root ids) (f : Nat) (eg : ∀ args w, (callFunc f args).run Tryz.prog w = .ok (.enter f args) w) (caps : Array Value) (J Q : Nat → List Nat → World → Prop) (hJ : J 0 M w)
    (keep : ∀ i M1 w1 M2 w2, J i M1 w1 → (∀ x ∈ M1, x ∈ M ∨ w.heap.size ≤ x) → Step M1 M2 w1 w2 → J i M2 w2)
    (visit : ∀ i M1 w1 gb c, i < ids.length → J i M1 w1 → Each w p M X u pg (k + 2 * (i + 1)) M1 w1 → Buf w1 gb c (pg (ids.getD i 0)) → w.heap.size ≤ gb → gb ∉ M1 →
      Calls Tryz.prog f (#[.int .i64 (ids.getD i 0 : Nat), .slice (some ⟨gb, 0, none⟩) 512 c] ++ caps) w1 fun e w2 => Each w p M X u pg (k + 2 * (i + 1)) M1 w2 ∧ ((e = .returned (.bool true) ∧ J (i + 1) M1 w2) ∨ (e = .returned (.bool false) ∧ Q i M1 w2))) :
    Calls Tryz.prog 28 #[.pointer (some ⟨hb, 0, none⟩), .func (.func f) #[] caps] w fun e w' => e = .returned (.int .i64 0) ∧ ∃ M', Each w p M X u pg (k + 2 * ids.length) M' w' ∧ (J ids.length M' w' ∨ ∃ i, i < ids.length ∧ Q i M' w') := by
  have hu := hP.size
  have hr : root < 65536 := by have := hI.id_lt hu (i := 0); rw [hI.head] at this; exact this
  have c1 := hH.cell 1
  simp only [List.getElem?_cons_succ, List.getElem?_cons_zero] at c1
  have hlt := hH.lt
  have PY : Hid (∀ i Mi wr, i < ids.length → Each w p M X u pg (k + 2 * i) Mi wr → Calls Tryz.prog 48 #[.pointer (some ⟨hb, 0, none⟩), .int .i64 (ids.getD i 0 : Nat)] wr fun e w' => ∃ gb c M', e = .returned (.tuple #[.slice (some ⟨gb, 0, none⟩) 512 c, .int .i64 (ids.getD (i + 1) 0 : Nat), .int .i64 0]) ∧ Buf w' gb c (pg (ids.getD i 0)) ∧ wr.heap.size ≤ gb ∧ gb ∉ M' ∧ Each w p M X u pg (k + 2 * (i + 1)) M' w' ∧ Step Mi M' wr w') := fun i Mi wr hi hE => by
    have hbM : hb ∉ Mi := fun hm => by
      rcases hE.mine hb hm with h1 | h1
      · exact hM h1
      · omega
    refine (page_yes hE.pool (by omega) (hE.only.blk hH (by simp [hM, hbX])) hbM hr (hI.used _ (getD_mem hi)) (hI.next hu hi)).mono ?_
    rintro e w' ⟨gb, c, M', rfl, h1, h2, h3, h4, h5⟩
    exact ⟨gb, c, M', rfl, h1, h2, h3, hE.step (h4.more (by omega)) h5, h5⟩
  have KP := Lib.hid keep
  have VI := Lib.hid visit
  have HPOS : Hid (∀ i, i + 1 < ids.length → 0 < ids.getD (i + 1) 0) := fun i h => hI.pos (i + 1) (by omega) h
  have HOV : Hid (∀ i, ¬ i + 1 < ids.length → ids.getD (i + 1) 0 = 0) := fun i h => getD_over (by omega)
  have HST : Hid (J 0 M w ∧ Each w p M X u pg (k + 2 * 0) M w) := ⟨hJ, Each.start hP⟩
  have HLEN := Lib.hid hI.some_
  have HHD := Lib.hid hI.head
  clear hP hI hH keep visit hJ
  obtain ⟨F, hF⟩ : ∃ F : Nat → Nat, (fun i => ids.getD i 0) = F := ⟨_, rfl⟩
  have hFi : ∀ i, ids.getD i 0 = F i := fun i => by rw [← hF]
  simp only [hFi] at PY VI HPOS HOV HHD ⊢
  clear hF hFi
  generalize ids.length = n at *
  go_enter Tryz.func28, Tryz.ntmps28
  go_wp2
  go_step3
  go_wp2
  go_step3
  go_wp2
  go_loopg [5] n (fun gk s5 wr => ∃ (i : Nat) (Mi : List Nat), gk = n - i ∧ i < n ∧ s5 = .int .i64 (F i : Nat) ∧ J i Mi wr ∧ Each w p M X u pg (k + 2 * i) Mi wr)
  case atStart => exact ⟨0, M, rfl, HLEN.out, by rw [HHD.out], HST.out.1, HST.out.2⟩
  case round =>
    obtain ⟨i, Mi, hgk, hi, rfl, hJi, hE⟩ := hrel
    have PYi := Lib.hid (PY.out i Mi wr hi hE)
    have HGK := Lib.hid hgk
    have HJ := Lib.hid hJi
    have HE := Lib.hid hE
    clear hgk hJi hE
    go_wp2_with (go_at_call 48; refine PYi.out.mono ?_; rintro e w2 ⟨gb, c, M2, rfl, hb2, hg2, hn2, hE2, hS2⟩; have B2 := Lib.hid hb2; have G2 := Lib.hid hg2; have N2 := Lib.hid hn2; have E2 := Lib.hid hE2; have S2 := Lib.hid hS2; clear hb2 hg2 hn2 hE2 hS2)
    refine (VI.out i M2 w2 gb c hi (KP.out i Mi wr M2 w2 HJ.out HE.out.mine S2.out) E2.out B2.out (Nat.le_trans HE.out.only.size G2.out) N2.out).mono ?_
    rintro e w3 ⟨hE3, ⟨rfl, hJ3⟩ | ⟨rfl, hQ3⟩⟩
    · have E3 := Lib.hid hE3
      have J3 := Lib.hid hJ3
      clear hE3 hJ3
      by_cases hn : i + 1 < n
      · have hp := HPOS.out i hn
        have hpB : (((F (i + 1) : Nat) : Int) == 0) = false := beq_eq_false_iff_ne.2 (by omega)
        have hpI : ¬ ((F (i + 1) : Nat) : Int) = 0 := by omega
        go_wp2_with fail
        go_roundg (n - (i + 1))
        case measure => have := HGK.out; omega
        case rel => exact ⟨i + 1, M2, rfl, hn, rfl, J3.out, E3.out⟩
      · have hz := HOV.out i hn
        rw [hz]
        go_wp2_with fail
        rw [Exit.noGoto_ret]
        go_ret
        obtain rfl : i + 1 = n := by omega
        exact ⟨rfl, M2, E3.out, .inl J3.out⟩
    · have E3 := Lib.hid hE3
      have Q3 := Lib.hid hQ3
      clear hE3 hQ3
      go_wp2_with fail
      rw [Exit.noGoto_ret]
      go_ret
      exact ⟨rfl, M2, ⟨E3.out.pool.more (by omega), E3.out.only, E3.out.mine⟩, .inr ⟨i, hi, Q3.out⟩⟩
end Go.Proofs.YtfkmjbpnjgnkbaaGreat.H

/-
  The program's heap: what Insert does at each page: by contracts.
-/
namespace Go.Proofs.YtfkmjbpnjgnkbaaGreat.H
set_option linter.unusedSimpArgs false
open Go Go.RowKit Go.Proofs.YtfkmjbpnjgnkbaaGreat.D Go.Proofs.YtfkmjbpnjgnkbaaGreat.B Go.Proofs.YtfkmjbpnjgnkbaaGreat.C Go.Proofs.YtfkmjbpnjgnkbaaGreat.G Go.Proofs.YtfkmjbpnjgnkbaaGreat.P
set_option linter.unusedVariables false
/-- What Insert's closure captured, each in a block of its own from N on. -/
structure Boxes (w : World) (N : Nat) (vrow vx vat vslot vlast vwith vend : Value) : Prop where
  row : Blk w N [vrow] 33
  xmin : Blk w (N + 1) [vx] 28
  at_ : Blk w (N + 2) [vat] 3
  slot : Blk w (N + 3) [vslot] 3
  last : Blk w (N + 4) [vlast] 3
  with_ : Blk w (N + 5) [vwith] 33
  end_ : Blk w (N + 6) [vend] 33
def boxX (N : Nat) : List Nat := [N + 2, N + 3, N + 4, N + 5, N + 6]
theorem Boxes.later {w w' : World} {N : Nat} {a b c d e f g : Value} (h : Boxes w N a b c d e f g) {X : List Nat} (hO : Only X w w') (hX : ∀ x ∈ X, x < N ∨ N + 7 ≤ x) : Boxes w' N a b c d e f g :=
  have k : ∀ j, j < 7 → N + j ∉ X := fun j hj hm => by rcases hX _ hm with h1 | h1 <;> omega
  ⟨hO.blk h.row (k 0 (by omega)), hO.blk h.xmin (k 1 (by omega)), hO.blk h.at_ (k 2 (by omega)), hO.blk h.slot (k 3 (by omega)), hO.blk h.last (k 4 (by omega)), hO.blk h.with_ (k 5 (by omega)), hO.blk h.end_ (k 6 (by omega))⟩
theorem Boxes.past {w w' : World} {N : Nat} {a b c d e f g : Value} (h : Boxes w N a b c d e f g) (hO : Only [] w w') : Boxes w' N a b c d e f g := h.later hO (by simp)
theorem Boxes.setLast {w : World} {N : Nat} {a b c d e f g : Value} (h : Boxes w N a b c d e f g) (v : Value) : Boxes (w.setCell ⟨N + 4, 0, none⟩ v) N a b c d v f g :=
  ⟨h.row.far _ (by show N ≠ N + 4; omega), h.xmin.far _ (by show N + 1 ≠ N + 4; omega), h.at_.far _ (by show N + 2 ≠ N + 4; omega), h.slot.far _ (by show N + 3 ≠ N + 4; omega), h.last.set 0 v, h.with_.far _ (by show N + 5 ≠ N + 4; omega), h.end_.far _ (by show N + 6 ≠ N + 4; omega)⟩
theorem Boxes.setEnd {w : World} {N : Nat} {a b c d e f g : Value} (h : Boxes w N a b c d e f g) (v : Value) : Boxes (w.setCell ⟨N + 6, 0, none⟩ v) N a b c d e f v :=
  ⟨h.row.far _ (by show N ≠ N + 6; omega), h.xmin.far _ (by show N + 1 ≠ N + 6; omega), h.at_.far _ (by show N + 2 ≠ N + 6; omega), h.slot.far _ (by show N + 3 ≠ N + 6; omega), h.last.far _ (by show N + 4 ≠ N + 6; omega), h.with_.far _ (by show N + 5 ≠ N + 6; omega), h.end_.set 0 v⟩
theorem Boxes.setAt {w : World} {N : Nat} {a b c d e f g : Value} (h : Boxes w N a b c d e f g) (v : Value) : Boxes (w.setCell ⟨N + 2, 0, none⟩ v) N a b v d e f g :=
  ⟨h.row.far _ (by show N ≠ N + 2; omega), h.xmin.far _ (by show N + 1 ≠ N + 2; omega), h.at_.set 0 v, h.slot.far _ (by show N + 3 ≠ N + 2; omega), h.last.far _ (by show N + 4 ≠ N + 2; omega), h.with_.far _ (by show N + 5 ≠ N + 2; omega), h.end_.far _ (by show N + 6 ≠ N + 2; omega)⟩
theorem Boxes.setSlot {w : World} {N : Nat} {a b c d e f g : Value} (h : Boxes w N a b c d e f g) (v : Value) : Boxes (w.setCell ⟨N + 3, 0, none⟩ v) N a b c v e f g :=
  ⟨h.row.far _ (by show N ≠ N + 3; omega), h.xmin.far _ (by show N + 1 ≠ N + 3; omega), h.at_.far _ (by show N + 2 ≠ N + 3; omega), h.slot.set 0 v, h.last.far _ (by show N + 4 ≠ N + 3; omega), h.with_.far _ (by show N + 5 ≠ N + 3; omega), h.end_.far _ (by show N + 6 ≠ N + 3; omega)⟩
theorem Boxes.setWith {w : World} {N : Nat} {a b c d e f g : Value} (h : Boxes w N a b c d e f g) (v : Value) : Boxes (w.setCell ⟨N + 5, 0, none⟩ v) N a b c d e v g :=
  ⟨h.row.far _ (by show N ≠ N + 5; omega), h.xmin.far _ (by show N + 1 ≠ N + 5; omega), h.at_.far _ (by show N + 2 ≠ N + 5; omega), h.slot.far _ (by show N + 3 ≠ N + 5; omega), h.last.far _ (by show N + 4 ≠ N + 5; omega), h.with_.set 0 v, h.end_.far _ (by show N + 6 ≠ N + 5; omega)⟩
theorem Boxes.facts {w : World} {N : Nat} {a b c d e f g : Value} (h : Boxes w N a b c d e f g) :
    (w.cell? ⟨N, 0, none⟩ = some a ∧ w.cell? ⟨N + 1, 0, none⟩ = some b ∧ w.cell? ⟨N + 2, 0, none⟩ = some c ∧ w.cell? ⟨N + 3, 0, none⟩ = some d ∧ w.cell? ⟨N + 4, 0, none⟩ = some e ∧ w.cell? ⟨N + 5, 0, none⟩ = some f ∧ w.cell? ⟨N + 6, 0, none⟩ = some g) ∧
    (w.frozen? ⟨N + 2, 0, none⟩ = false ∧ w.frozen? ⟨N + 3, 0, none⟩ = false ∧ w.frozen? ⟨N + 4, 0, none⟩ = false ∧ w.frozen? ⟨N + 5, 0, none⟩ = false ∧ w.frozen? ⟨N + 6, 0, none⟩ = false) :=
  ⟨⟨h.row.cell 0, h.xmin.cell 0, h.at_.cell 0, h.slot.cell 0, h.last.cell 0, h.with_.cell 0, h.end_.cell 0⟩, h.at_.frozen 0, h.slot.frozen 0, h.last.frozen 0, h.with_.frozen 0, h.end_.frozen 0⟩
theorem only_one {w : World} {b : Nat} (v : Value) {X : List Nat} (h : b ∈ X) : Only X w (w.setCell ⟨b, 0, none⟩ v) := (Only.refl _ _).setCell (.inl h) _
/-- A row that lies below N. -/
def RowLow (w : World) (N : Nat) (v : Value) (row : List UInt8) : Prop := BytesAt w v row ∧ ∀ a n c, v = .slice (some a) n c → a.block < N
theorem RowLow.later {w w' : World} {N : Nat} {v : Value} {row : List UInt8} (h : RowLow w N v row) {X : List Nat} (hO : Only X w w') (hX : ∀ x ∈ X, N ≤ x) : RowLow w' N v row :=
  ⟨bytes_later h.1 hO (fun a n c hv hm => by have := h.2 a n c hv; have := hX _ hm; omega), h.2⟩
/-- What the closure tells. -/
def VisitRes (w : World) (N id gb c : Nat) (vrow vx vat vslot vwith : Value) (p row : List UInt8) (xmin : Nat) (e : Ending) (w' : World) : Prop :=
  Only (boxX N) w w' ∧ ((laysB p row xmin = none ∧ e = .returned (.bool true) ∧ Boxes w' N vrow vx vat vslot (.int .i64 id) vwith (.slice (some ⟨gb, 0, none⟩) 512 c)) ∨
    (∃ q g2 c2, laysB p row xmin = some q ∧ e = .returned (.bool false) ∧ Boxes w' N vrow vx (.int .i64 id) (.int .i64 (freeS p : Nat)) (.int .i64 id) (.slice (some ⟨g2, 0, none⟩) 512 c2) (.slice (some ⟨gb, 0, none⟩) 512 c) ∧ Buf w' g2 c2 q ∧ w.heap.size ≤ g2))
set_option maxRecDepth 100000 in
set_option maxHeartbeats 2000000 in
theorem visit_any {w : World} {N id gb c xmin : Nat} {vrow vat vslot vlast vwith vend : Value} {p row : List UInt8} (hB : Boxes w N vrow (.int .u64 xmin) vat vslot vlast vwith vend) (hb : Buf w gb c p) (hg : N + 7 ≤ gb) (hrow : RowLow w N vrow row) (hx : xmin < W64) :
    Calls Tryz.prog 29 #[.int .i64 id, .slice (some ⟨gb, 0, none⟩) 512 c, .pointer (some ⟨N + 4, 0, none⟩), .pointer (some ⟨N + 6, 0, none⟩), .pointer (some ⟨N, 0, none⟩), .pointer (some ⟨N + 1, 0, none⟩), .pointer (some ⟨N + 2, 0, none⟩), .pointer (some ⟨N + 3, 0, none⟩), .pointer (some ⟨N + 5, 0, none⟩)] w
      (VisitRes w N id gb c vrow (.int .u64 xmin) vat vslot vwith p row xmin) := by
  obtain ⟨⟨c0, c1, c2, c3, c4, c5, c6⟩, f2, f3, f4, f5, f6⟩ := hB.facts
  have H1 := Lib.hid ((hB.setLast (.int .i64 id)).setEnd (.slice (some ⟨gb, 0, none⟩) 512 c))
  have hO1 : Only (boxX N) w ((w.setCell ⟨N + 4, 0, none⟩ (.int .i64 id)).setCell ⟨N + 6, 0, none⟩ (.slice (some ⟨gb, 0, none⟩) 512 c)) := (only_one _ (by simp [boxX])).trans (only_one _ (X := boxX N) (by simp [boxX])) (fun x hx => .inl hx)
  have hXg : gb ∉ boxX N := by simp [boxX]; omega
  have B1 := Lib.hid (hb.later hO1 hXg)
  have R1 := Lib.hid (hrow.later hO1 (fun x hx => by simp [boxX] at hx; omega))
  have O1 := Lib.hid hO1
  have LY : Hid (∀ w1, Buf w1 gb c p → BytesAt w1 vrow row → Calls Tryz.prog 30 #[.slice (some ⟨gb, 0, none⟩) 512 c, vrow, .int .u64 xmin] w1 (LaysRes w1 p row xmin)) := fun w1 h1 h2 => lays_any h1.c h2 hx
  have c4a := (hB.setLast (.int .i64 id)).end_.cell 0
  have f4a := (hB.setLast (.int .i64 id)).end_.frozen 0
  obtain ⟨⟨d0, d1, d2, d3, d4, d5, d6⟩, g2, g3, g4, g5, g6⟩ := H1.out.facts
  simp only [List.getElem?_cons_zero] at c4a
  clear hB hb hO1 hrow hXg
  obtain ⟨ao, cap, rfl, hrc⟩ := R1.out.1
  clear hrc
  go_enter Tryz.func29, Tryz.ntmps29
  go_wp2_with fail
  refine (LY.out _ B1.out R1.out.1).mono ?_
  clear LY c0 c1 c2 c3 c4 c5 c6 f2 f3 f4 f5 f6 d0 d1 d2 d3 d4 d5 d6 g2 g3 g4 g5 g6 c4a f4a
  rintro e w2 (⟨q, g2, c2, hq, rfl, hb2, hg2, hO2⟩ | ⟨hq, s, rfl, hO2⟩)
  · have H2 := Lib.hid (H1.out.past hO2)
    have O2 := Lib.hid (O1.out.trans hO2 (by simp))
    have Q := Lib.hid hq
    have K2 := Lib.hid hb2
    have G2 := Lib.hid (Nat.le_trans O1.out.size hg2)
    obtain ⟨⟨d0, d1, d2, d3, d4, d5, d6⟩, h2, h3, h4, h5, h6⟩ := H2.out.facts
    have e3 := (H2.out.setAt (.int .i64 id)).slot.cell 0
    have h3' := (H2.out.setAt (.int .i64 id)).slot.frozen 0
    have e5 := ((H2.out.setAt (.int .i64 id)).setSlot (.int .i64 (freeS p : Nat))).with_.cell 0
    have h5' := ((H2.out.setAt (.int .i64 id)).setSlot (.int .i64 (freeS p : Nat))).with_.frozen 0
    simp only [List.getElem?_cons_zero] at e3 e5
    have H3 := Lib.hid (((H2.out.setAt (.int .i64 id)).setSlot (.int .i64 (freeS p : Nat))).setWith (.slice (some ⟨g2, 0, none⟩) 512 c2))
    have hOn : Only (boxX N) w2 (((w2.setCell ⟨N + 2, 0, none⟩ (.int .i64 id)).setCell ⟨N + 3, 0, none⟩ (.int .i64 (freeS p : Nat))).setCell ⟨N + 5, 0, none⟩ (.slice (some ⟨g2, 0, none⟩) 512 c2)) :=
      ((only_one _ (by simp [boxX])).trans (only_one _ (X := boxX N) (by simp [boxX])) (fun x hx => .inl hx)).trans (only_one _ (X := boxX N) (by simp [boxX])) (fun x hx => .inl hx)
    have HNW : Hid (N + 7 ≤ w.heap.size) := by
      show _ ≤ _
      have h1 := H1.out.end_.lt
      simp only [World.size_setCell] at h1
      omega
    have K3 := Lib.hid (hb2.later hOn (by have := HNW.out; have := G2.out; simp [boxX]; omega))
    have O3 := Lib.hid (O2.out.trans hOn (fun x hx => .inl hx))
    clear hq hb2 hg2 hO2 hOn
    go_wp2_with fail
    go_ret
    exact ⟨O3.out, .inr ⟨q, g2, c2, Q.out, rfl, H3.out, K3.out, G2.out⟩⟩
  · have H2 := Lib.hid (H1.out.past hO2)
    have O2 := Lib.hid (O1.out.trans hO2 (by simp))
    have Q := Lib.hid hq
    clear hq hO2
    go_wp2_with fail
    go_ret
    exact ⟨O2.out, .inl ⟨Q.out, rfl, H2.out⟩⟩
end Go.Proofs.YtfkmjbpnjgnkbaaGreat.H

/-
  The program's heap: find: by contracts.
-/
namespace Go.Proofs.YtfkmjbpnjgnkbaaGreat.H
set_option linter.unusedSimpArgs false
open Go Go.RowKit Go.Proofs.YtfkmjbpnjgnkbaaGreat.D Go.Proofs.YtfkmjbpnjgnkbaaGreat.B Go.Proofs.YtfkmjbpnjgnkbaaGreat.C Go.Proofs.YtfkmjbpnjgnkbaaGreat.G Go.Proofs.YtfkmjbpnjgnkbaaGreat.P
set_option linter.unusedVariables false
theorem results_tmp4 {fn : Func} {t u v x : Tmp} (h : fn.results = #[.tmp t, .tmp u, .tmp v, .tmp x]) (tmps : Array Value) (P : Program) (w : World) :
    (results fn tmps).run P w = .ok (.tuple #[tmps.getD t undef, tmps.getD u undef, tmps.getD v undef, tmps.getD x undef]) w := by
  simp [results, h]
theorem HeapIs.at {u : List Bool} {pg : Nat → List UInt8} {root : Nat} {ids : List Nat} (h : HeapIs u pg root ids) {id : Nat} (hid : id ∈ ids) : ∃ i, i < ids.length ∧ ids.getD i 0 = id ∧ HPage root (ids.getD (i + 1) 0) (pg id) := by
  obtain ⟨i, hi, rfl⟩ := List.getElem_of_mem hid
  have e : ids.getD i 0 = ids[i] := by rw [List.getD_eq_getElem?_getD, List.getElem?_eq_getElem hi]; rfl
  refine ⟨i, hi, e, ?_⟩
  have := h.page i hi
  rw [e] at this; exact this
/-- No version is there. -/
def NoVer (u : List Bool) (pg : Nat → List UInt8) (ids : List Nat) (r : Nat) : Prop := 8388608 ≤ r ∨ u.getD (r / 128) false = false ∨ (r / 128 ∈ ids ∧ verAt (pg (r / 128)) (r % 128) = none)
def IsVer (pg : Nat → List UInt8) (ids : List Nat) (r : Nat) (v : Ver) : Prop := r / 128 ∈ ids ∧ verAt (pg (r / 128)) (r % 128) = some v
section
variable {w : World} {hb p root k : Nat} {M : List Nat} {u : List Bool} {pg : Nat → List UInt8} {ids : List Nat}
theorem page_in (hP : PoolV w p M u pg k) (hk : k ≤ 1000000) (hH : HpAt w hb p root) (hM : hb ∉ M) (hI : HeapIs u pg root ids) {id : Nat} (hid : id ∈ ids) :
    Calls Tryz.prog 48 #[.pointer (some ⟨hb, 0, none⟩), .int .i64 id] w fun e w' => ∃ gb c M' n, e = .returned (.tuple #[.slice (some ⟨gb, 0, none⟩) 512 c, .int .i64 (n : Nat), .int .i64 0]) ∧ GotP w p M u pg k id gb c M' w' := by
  obtain ⟨i, hi, he, _⟩ := hI.at hid
  have hr : root < 65536 := by have := hI.id_lt hP.size (i := 0); rw [hI.head] at this; exact this
  have hn := hI.next hP.size hi
  rw [he] at hn
  refine (page_yes hP hk hH hM hr (hI.used _ hid) hn).mono ?_
  rintro e w' ⟨gb, c, M', rfl, h⟩
  exact ⟨gb, c, M', _, rfl, h⟩
set_option maxRecDepth 100000 in
set_option maxHeartbeats 1000000 in
theorem find_no (hP : PoolV w p M u pg k) (hk : k ≤ 1000000) (hH : HpAt w hb p root) (hM : hb ∉ M) (hI : HeapIs u pg root ids) (r : Nat) (hr : r < W64) (hn : NoVer u pg ids r) :
    Calls Tryz.prog 39 #[.pointer (some ⟨hb, 0, none⟩), .int .u64 r] w fun e w' => e = .returned (.tuple #[.slice none 0 0, .int .i64 0, .int .i64 0, .int .i64 91]) ∧ ∃ M', PoolV w' p M' u pg (k + 2) ∧ Step M M' w w' := by
  have PL := Lib.hid (fun w1 => place_any w1 r hr)
  have HP := Lib.hid hP
  by_cases hbig : 8388608 ≤ r
  · have i1 : (r : Int) ≥ 8388608 := by omega
    have i2 : (8388608 : Int) ≤ r := by omega
    clear hP hH hM hI hn
    go_enter Tryz.func39, Tryz.ntmps39
    go_wp2_with (go_at_call 66; refine (PL.out _).mono ?_; rintro e w1 ⟨rfl, rfl⟩)
    refine bodyPost_ret (results_tmp4 rfl _ _ _) rfl ?_
    exact ⟨rfl, M, HP.out.more (by omega), Step.refl _ _⟩
  have hn : u.getD (r / 128) false = false ∨ (r / 128 ∈ ids ∧ verAt (pg (r / 128)) (r % 128) = none) := by
    rcases hn with hn | hn
    · exact absurd hn hbig
    · exact hn
  have i1 : ¬ (r : Int) ≥ 8388608 := by omega
  have i2 : ¬ (8388608 : Int) ≤ r := by omega
  have i3 : (r : Int) < 8388608 := by omega
  have i4 : decide ((8388608 : Int) ≤ (r : Int)) = false := decide_eq_false i2
  clear hbig
  rcases hn with hn | ⟨hid, hv⟩
  · have PN := Lib.hid (page_none hP hH (r / 128 : Nat) (.inr hn))
    clear hP hH hM hI hn
    generalize r / 128 = id at *
    generalize r % 128 = slot at *
    go_enter Tryz.func39, Tryz.ntmps39
    go_wp2_with (first
      | (go_at_call 66; refine (PL.out _).mono ?_; rintro e w1 ⟨rfl, rfl⟩)
      | (go_at_call 48; refine PN.out.mono ?_; rintro e w2 ⟨rfl, rfl⟩))
    refine bodyPost_ret (results_tmp4 rfl _ _ _) rfl ?_
    exact ⟨rfl, M, HP.out.more (by omega), Step.refl _ _⟩
  · have PY := Lib.hid (page_in hP hk hH hM hI hid)
    obtain ⟨_, _, _, hpage⟩ := hI.at hid
    have hpg := hpage.pg
    have hsl : r % 128 < 128 := Nat.mod_lt _ (by omega)
    by_cases hodd : r % 128 % 2 = 1
    · have hc : ct (pg (r / 128)) (r % 128) = none := (verAt_none hpage hodd).1 hv
      have GE : Hid (∀ w1 v, BytesC w1 v (pg (r / 128)) → Calls Tryz.prog 43 #[v, .int .i64 (r % 128 : Nat)] w1 fun e w' => e = .returned (.tuple #[.slice none 0 0, .int .i64 41]) ∧ Only [] w1 w') := fun w1 v hb => by
        refine get_no hb (r % 128 : Nat) (by omega) (getE_bad hpg ?_) (by decide)
        by_cases hlt : r % 128 < nS (pg (r / 128))
        · right; right
          by_cases h0 : sP (pg (r / 128)) (r % 128) = 0
          · exact h0
          · exact absurd hc (ct_used.2 ⟨hlt, h0⟩)
        · right; left; omega
      have e1 : ((r % 128 : Nat) : Int) % 2 = 1 := by omega
      clear hP hH hM hI hid hv hpage hpg hc
      generalize r / 128 = id at *
      generalize r % 128 = slot at *
      have hs0 : (0 : Int) ≤ slot := by omega
      go_enter Tryz.func39, Tryz.ntmps39
      go_wp2_with (first
        | (go_at_call 66; refine (PL.out _).mono ?_; rintro e w1 ⟨rfl, rfl⟩)
        | (go_at_call 48; refine PY.out.mono ?_; rintro e w2 ⟨gb, c, M2, n, rfl, hg⟩; have G2 := Lib.hid hg; clear hg)
        | (go_at_call 43; refine (GE.out _ _ G2.out.1.c).mono ?_; rintro e w3 ⟨rfl, hO3⟩; have O3 := Lib.hid hO3; clear hO3))
      refine bodyPost_ret (results_tmp4 rfl _ _ _) rfl ?_
      obtain ⟨_, _, _, h1, h2⟩ := G2.out
      exact ⟨rfl, M2, h1.past O3.out, h2.then O3.out⟩
    · have GE : Hid (∀ w1 v, BytesC w1 v (pg (r / 128)) → Calls Tryz.prog 43 #[v, .int .i64 (r % 128 : Nat)] w1 fun e w' => ∃ ao n c z, e = .returned (.tuple #[.slice ao n c, .int .i64 (z : Nat)]) ∧ Only [] w1 w') := fun w1 v hb => by
        cases hc : ct (pg (r / 128)) (r % 128) with
        | some hd =>
          refine (page_cell hb hpg hc).mono ?_
          rintro e w' ⟨g, c, rfl, _, _, _, hO⟩
          exact ⟨_, _, c, 0, rfl, hO⟩
        | none =>
          refine (get_no hb (r % 128 : Nat) (by omega) (z := 41) (getE_bad hpg ?_) (by decide)).mono ?_
          · by_cases hlt : r % 128 < nS (pg (r / 128))
            · right; right
              by_cases h0 : sP (pg (r / 128)) (r % 128) = 0
              · exact h0
              · exact absurd hc (ct_used.2 ⟨hlt, h0⟩)
            · right; left; omega
          · rintro e w' ⟨rfl, hO⟩
            exact ⟨none, 0, 0, 41, rfl, hO⟩
      have e1 : ((r % 128 : Nat) : Int) % 2 = 0 := by omega
      clear hP hH hM hI hid hv hpage hpg
      generalize r / 128 = id at *
      generalize r % 128 = slot at *
      have hs0 : (0 : Int) ≤ slot := by omega
      go_enter Tryz.func39, Tryz.ntmps39
      go_wp2_with (first
        | (go_at_call 66; refine (PL.out _).mono ?_; rintro e w1 ⟨rfl, rfl⟩)
        | (go_at_call 48; refine PY.out.mono ?_; rintro e w2 ⟨gb, c, M2, n, rfl, hg⟩; have G2 := Lib.hid hg; clear hg)
        | (go_at_call 43; refine (GE.out _ _ G2.out.1.c).mono ?_; rintro e w3 ⟨ao, n3, c3, z3, rfl, hO3⟩; have O3 := Lib.hid hO3; clear hO3))
      refine bodyPost_ret (results_tmp4 rfl _ _ _) rfl ?_
      obtain ⟨_, _, _, h1, h2⟩ := G2.out
      exact ⟨rfl, M2, h1.past O3.out, h2.then O3.out⟩
set_option maxRecDepth 100000 in
set_option maxHeartbeats 1000000 in
theorem find_yes (hP : PoolV w p M u pg k) (hk : k ≤ 1000000) (hH : HpAt w hb p root) (hM : hb ∉ M) (hI : HeapIs u pg root ids) (r : Nat) {v : Ver} (hv : IsVer pg ids r v) :
    Calls Tryz.prog 39 #[.pointer (some ⟨hb, 0, none⟩), .int .u64 r] w fun e w' => ∃ gb c M', e = .returned (.tuple #[.slice (some ⟨gb, 0, none⟩) 512 c, .int .i64 (r / 128 : Nat), .int .i64 (r % 128 : Nat), .int .i64 0]) ∧ GotP w p M u pg k (r / 128) gb c M' w' := by
  obtain ⟨hid, hv⟩ := hv
  have hidl : r / 128 < 65536 := by have := used_lt (hI.used _ hid); have := hP.size; omega
  have hr : r < W64 := by unfold W64; omega
  have PL := Lib.hid (fun w1 => place_any w1 r hr)
  have PY := Lib.hid (page_in hP hk hH hM hI hid)
  obtain ⟨_, _, _, hpage⟩ := hI.at hid
  obtain ⟨hodd, s, h1, h2, h3, h4, h5, h6⟩ := verAt_some hpage hv
  have i1 : ¬ (r : Int) ≥ 8388608 := by omega
  have i2 : ¬ (8388608 : Int) ≤ r := by omega
  have i3 : (r : Int) < 8388608 := by omega
  have i4 : decide ((8388608 : Int) ≤ (r : Int)) = false := decide_eq_false i2
  have GE : Hid (∀ w1 v, BytesC w1 v (pg (r / 128)) → Calls Tryz.prog 43 #[v, .int .i64 (r % 128 : Nat)] w1 fun e w' => ∃ g c, e = .returned (.tuple #[.slice (some ⟨g, 0, none⟩) 24 c, .int .i64 0]) ∧ Only [] w1 w') := fun w1 v hb => by
    refine (page_cell hb hpage.pg h1).mono ?_
    rintro e w' ⟨g, c, rfl, _, _, _, hO⟩
    rw [h3]
    exact ⟨g, c, rfl, hO⟩
  have e1 : ((r % 128 : Nat) : Int) % 2 = 1 := by omega
  clear hP hH hM hI hid hv hpage h1 h2 h3 h4 h5 h6 hidl hr
  have hsl : r % 128 < 128 := Nat.mod_lt _ (by omega)
  obtain ⟨id, hide⟩ : ∃ id, r / 128 = id := ⟨_, rfl⟩
  obtain ⟨slot, hsle⟩ : ∃ slot, r % 128 = slot := ⟨_, rfl⟩
  rw [hide] at PL PY GE ⊢
  rw [hsle] at PL GE e1 hsl ⊢
  clear hide hsle hodd
  have hs0 : (0 : Int) ≤ slot := by omega
  go_enter Tryz.func39, Tryz.ntmps39
  go_wp2_with (first
    | (go_at_call 66; refine (PL.out _).mono ?_; rintro e w1 ⟨rfl, rfl⟩)
    | (go_at_call 48; refine PY.out.mono ?_; rintro e w2 ⟨gb, c, M2, n, rfl, hg⟩; have G2 := Lib.hid hg; clear hg)
    | (go_at_call 43; refine (GE.out _ _ G2.out.1.c).mono ?_; rintro e w3 ⟨g3, c3, rfl, hO3⟩; have O3 := Lib.hid hO3; clear hO3))
  refine bodyPost_ret (results_tmp4 rfl _ _ _) rfl ?_
  obtain ⟨h0, h3, h4, h1, h2⟩ := G2.out
  exact ⟨gb, c, M2, rfl, h0.past O3.out, h3, h4, h1.past O3.out, h2.then O3.out⟩
end
end Go.Proofs.YtfkmjbpnjgnkbaaGreat.H
