import Derived.Test.YtfkmjbpnjgnkbaaGreatMHpL
import Derived.Test.YtfkmjbpnjgnkbaaGreatMPageL
import Derived.Deep.RegionHeld3
/-
  The program's heap: Insert: by contracts.
-/
namespace Go.Proofs.YtfkmjbpnjgnkbaaGreat.H
set_option linter.unusedSimpArgs false
open Go Go.RowKit Go.Proofs.YtfkmjbpnjgnkbaaGreat.D Go.Proofs.YtfkmjbpnjgnkbaaGreat.B Go.Proofs.YtfkmjbpnjgnkbaaGreat.C Go.Proofs.YtfkmjbpnjgnkbaaGreat.G Go.Proofs.YtfkmjbpnjgnkbaaGreat.P
set_option linter.unusedVariables false
set_option maxRecDepth 100000 in
set_option maxHeartbeats 1000000 in
/-- Insert: a row of a length that may not be. -/
theorem hinsert_no {w : World} {hb : Nat} {v : Value} {row : List UInt8} (hv : BytesAt w v row) (xmin : Nat) (hl : row.length < 1 ∨ 370 < row.length) :
    Calls Tryz.prog 7 #[.pointer (some ⟨hb, 0, none⟩), v, .int .u64 xmin] w fun e w' => e = .returned (.tuple #[.int .u64 0, .int .i64 90]) ∧ Only [] w w' := by
  obtain ⟨ao, cap, rfl, hc⟩ := hv
  clear hc
  generalize row.length = n at *
  have O1 : Hid (Only [] w ((w.alloc (.cells #[.slice ao n cap] 33)).alloc (.cells #[.int .u64 xmin] 28))) := ((Only.refl _ _).alloc _).alloc _
  by_cases h1 : n < 1
  · have i1 : (n : Int) < 1 := by omega
    clear hl h1
    go_enter Tryz.func7, Tryz.ntmps7
    go_wp2_with fail
    go_ret2
    exact ⟨rfl, O1.out⟩
  · have i1 : ¬ (n : Int) < 1 := by omega
    have i2 : (n : Int) > 370 := by omega
    have i3 : ¬ (n : Int) ≤ 370 := by omega
    clear hl h1
    go_enter Tryz.func7, Tryz.ntmps7
    go_wp2_with fail
    go_ret2
    exact ⟨rfl, O1.out⟩
theorem boxes_made (w : World) (v : Value) (xmin : Nat) : ∃ w7, w7 = (((((((w.alloc (.cells #[v] 33)).alloc (.cells #[.int .u64 xmin] 28)).alloc (.cells #[.int .i64 (-1)] 3)).alloc (.cells #[.int .i64 0] 3)).alloc (.cells #[.int .i64 0] 3)).alloc (.cells #[.slice none 0 0] 33)).alloc (.cells #[.slice none 0 0] 33)) ∧
    Boxes w7 w.heap.size v (.int .u64 xmin) (.int .i64 (-1)) (.int .i64 0) (.int .i64 0) (.slice none 0 0) (.slice none 0 0) ∧ Only [] w w7 ∧ w7.heap.size = w.heap.size + 7 := by
  refine ⟨_, rfl, ⟨?_, ?_, ?_, ?_, ?_, ?_, ?_⟩, ((((((((Only.refl _ _).alloc _).alloc _).alloc _).alloc _).alloc _).alloc _).alloc _), by simp⟩
  · exact ((((((Blk.new' #[v] 33 w rfl).alloc _).alloc _).alloc _).alloc _).alloc _).alloc _
  · exact (((((Blk.new' #[.int .u64 xmin] 28 _ (by simp)).alloc _).alloc _).alloc _).alloc _).alloc _
  · exact ((((Blk.new' #[.int .i64 (-1)] 3 _ (by simp)).alloc _).alloc _).alloc _).alloc _
  · exact (((Blk.new' #[.int .i64 0] 3 _ (by simp)).alloc _).alloc _).alloc _
  · exact ((Blk.new' #[.int .i64 0] 3 _ (by simp)).alloc _).alloc _
  · exact (Blk.new' #[.slice none 0 0] 33 _ (by simp)).alloc _
  · exact Blk.new' #[.slice none 0 0] 33 _ (by simp)
/-- What holds when the closure was called at the first i pages, and said yes each time. -/
def InsJ (N : Nat) (v : Value) (row : List UInt8) (xmin : Nat) (pg : Nat → List UInt8) (ids M : List Nat) (i : Nat) (M1 : List Nat) (w1 : World) : Prop :=
  BytesAt w1 v row ∧ (∀ x ∈ M1, x ∈ M ∨ N + 7 ≤ x) ∧ (∀ j, j < i → laysB (pg (ids.getD j 0)) row xmin = none) ∧ ∃ vlast vend, Boxes w1 N v (.int .u64 xmin) (.int .i64 (-1)) (.int .i64 0) vlast (.slice none 0 0) vend ∧
    (0 < i → vlast = .int .i64 (ids.getD (i - 1) 0 : Nat) ∧ ∃ gb c, vend = .slice (some ⟨gb, 0, none⟩) 512 c ∧ Buf w1 gb c (pg (ids.getD (i - 1) 0)) ∧ gb ∉ M1 ∧ N + 7 ≤ gb)
def InsQ (N : Nat) (v : Value) (row : List UInt8) (xmin : Nat) (pg : Nat → List UInt8) (ids M : List Nat) (i : Nat) (M1 : List Nat) (w1 : World) : Prop :=
  (∀ x ∈ M1, x ∈ M ∨ N + 7 ≤ x) ∧ (∀ j, j < i → laysB (pg (ids.getD j 0)) row xmin = none) ∧ ∃ q g2 c2 vend, laysB (pg (ids.getD i 0)) row xmin = some q ∧
    Boxes w1 N v (.int .u64 xmin) (.int .i64 (ids.getD i 0 : Nat)) (.int .i64 (freeS (pg (ids.getD i 0)) : Nat)) (.int .i64 (ids.getD i 0 : Nat)) (.slice (some ⟨g2, 0, none⟩) 512 c2) vend ∧ Buf w1 g2 c2 q ∧ g2 ∉ M1
/-- What the pages are behind Insert, and where the version is. -/
inductive Inserted (u : List Bool) (pg : Nat → List UInt8) (root : Nat) (ids : List Nat) (row : List UInt8) (xmin : Nat) : List Bool → (Nat → List UInt8) → List Nat → Nat → Nat → Prop
  | here (i : Nat) (hi : i < ids.length) (q : List UInt8) (hq : laysB (pg (ids.getD i 0)) row xmin = some q) (hn : ∀ j, j < i → laysB (pg (ids.getD j 0)) row xmin = none) :
      Inserted u pg root ids row xmin u (upd pg (ids.getD i 0) q) ids (ids.getD i 0) (freeS (pg (ids.getD i 0)))
  | more (hn : ∀ j, j < ids.length → laysB (pg (ids.getD j 0)) row xmin = none) (hu : firstFree u < u.length) (q h : List UInt8) (hq : laysB (freshP root) row xmin = some q) (hh : Rep (pg (ids.getD (ids.length - 1) 0)) 0 (headC root (firstFree u)) h) :
      Inserted u pg root ids row xmin (u.set (firstFree u) true) (upd (upd pg (firstFree u) q) (ids.getD (ids.length - 1) 0) h) (ids ++ [firstFree u]) (firstFree u) (freeS (freshP root))
set_option maxRecDepth 100000 in
set_option maxHeartbeats 1000000 in
theorem hinsert_any {w : World} {hb p root k : Nat} {M : List Nat} {u : List Bool} {pg : Nat → List UInt8} {ids : List Nat} (hP : PoolV w p M u pg k) (hk : k + 2 * ids.length + 20 ≤ 1000000) (hH : HpAt w hb p root) (hM : hb ∉ M) (hI : HeapIs u pg root ids)
    {v : Value} {row : List UInt8} (hv : BytesAt w v row) (hvM : ∀ a n c, v = .slice (some a) n c → a.block ∉ M ∧ a.block < w.heap.size) (xmin : Nat) (hx : xmin < W64) (h1 : 1 ≤ row.length) (h2 : row.length ≤ 370) (hfull : firstFree u < u.length) :
    Calls Tryz.prog 7 #[.pointer (some ⟨hb, 0, none⟩), v, .int .u64 xmin] w fun e w' => ∃ u' pg' ids' id slot M', e = .returned (.tuple #[.int .u64 (id * 128 + slot : Nat), .int .i64 0]) ∧ Inserted u pg root ids row xmin u' pg' ids' id slot ∧ PoolV w' p M' u' pg' (k + 2 * ids.length + 8) ∧ Step M M' w w' := by
  obtain ⟨ao, cap, rfl, hc0⟩ := hv
  have hv : BytesAt w (.slice ao row.length cap) row := ⟨ao, cap, rfl, hc0⟩
  have l1 : ¬ (row.length : Int) < 1 := by omega
  have l2 : ¬ (row.length : Int) > 370 := by omega
  have l3 : (row.length : Int) ≤ 370 := by omega
  clear hc0
  obtain ⟨w7, hw7, B7, O7, S7⟩ := boxes_made w (.slice ao row.length cap) xmin
  have hMlt := hP.lt
  have hHlt := hH.lt
  have EA : Hid (Calls Tryz.prog 28 #[.pointer (some ⟨hb, 0, none⟩), .func (.func 29) #[] #[.pointer (some ⟨w.heap.size + 4, 0, none⟩), .pointer (some ⟨w.heap.size + 6, 0, none⟩), .pointer (some ⟨w.heap.size, 0, none⟩), .pointer (some ⟨w.heap.size + 1, 0, none⟩), .pointer (some ⟨w.heap.size + 2, 0, none⟩), .pointer (some ⟨w.heap.size + 3, 0, none⟩), .pointer (some ⟨w.heap.size + 5, 0, none⟩)]] w7
      fun e w' => e = .returned (.int .i64 0) ∧ ∃ M', Each w7 p M (boxX w.heap.size) u pg (k + 2 * ids.length) M' w' ∧ (InsJ w.heap.size (.slice ao row.length cap) row xmin pg ids M ids.length M' w' ∨ ∃ i, i < ids.length ∧ InsQ w.heap.size (.slice ao row.length cap) row xmin pg ids M i M' w')) := by
    refine each_any (hP.past O7) (by omega) (hH.past O7) hM (by simp [boxX]; omega) hI 29 (enters_of Tryz.func29 (by kernel_rfl) rfl) _ (InsJ w.heap.size (.slice ao row.length cap) row xmin pg ids M) (InsQ w.heap.size (.slice ao row.length cap) row xmin pg ids M) ?_ ?_ ?_
    · exact ⟨bytes_past hv O7, fun x hx => .inl hx, fun j hj => by omega, _, _, B7, fun h => by omega⟩
    · rintro i M1 w1 M2 w2 ⟨j1, j2, j3, vl, ve, j4, j5⟩ hm hS
      rw [S7] at hm
      have hX : ∀ x ∈ M1, x < w.heap.size ∨ w.heap.size + 7 ≤ x := fun x hx => by
        rcases hm x hx with h1 | h1
        · exact .inl (hMlt x h1)
        · exact .inr h1
      refine ⟨bytes_later j1 hS.1 (fun a n c he hmem => ?_), fun x hx => ?_, j3, vl, ve, j4.later hS.1 hX, fun h0 => ?_⟩
      · rcases hm _ hmem with h1 | h1
        · exact (hvM a n c he).1 h1
        · have := (hvM a n c he).2; omega
      · rcases hS.2 x hx with h1 | h1
        · exact j2 x h1
        · have := j4.end_.lt; exact .inr (by omega)
      · obtain ⟨a1, gb, c, a2, a3, a4, a5⟩ := j5 h0
        exact ⟨a1, gb, c, a2, a3.later hS.1 a4, P.Step.keep hS a3.lt a4, a5⟩
    · rintro i M1 w1 gb c hi ⟨j1, j2, j3, vl, ve, j4, j5⟩ hE hb1 hg1 hn1
      rw [S7] at hg1
      have hrow : RowLow w1 w.heap.size (.slice ao row.length cap) row := ⟨j1, fun a n c he => (hvM a n c he).2⟩
      have hNS : NoSec w1 (boxX w.heap.size) := by
        intro x hx cs hcs
        simp only [boxX, List.mem_cons, List.not_mem_nil, or_false] at hx
        rcases hx with rfl | rfl | rfl | rfl | rfl
        · exact absurd rfl (hcs.ne j4.at_ (by decide))
        · exact absurd rfl (hcs.ne j4.slot (by decide))
        · exact absurd rfl (hcs.ne j4.last (by decide))
        · exact absurd rfl (hcs.ne j4.with_ (by decide))
        · exact absurd rfl (hcs.ne j4.end_ (by decide))
      refine (visit_any (id := ids.getD i 0) j4 hb1 hg1 hrow hx).mono ?_
      rintro e w2 ⟨hO, hr⟩
      refine ⟨hE.own hO hNS (fun x hx => ?_), ?_⟩
      · simp only [boxX, List.mem_cons, List.not_mem_nil, or_false] at hx
        refine ⟨fun hxM => ?_, by omega⟩
        have := hMlt x hxM; omega
      · rcases hr with ⟨hq, rfl, hB⟩ | ⟨q, g2, c2, hq, rfl, hB, hb2, hg2⟩
        · refine .inl ⟨rfl, (hrow.later hO (fun x hx => by simp [boxX] at hx; omega)).1, j2, fun j hj => ?_, _, _, hB, fun _ => ⟨rfl, gb, c, rfl, hb1.later hO (by simp [boxX]; omega), hn1, hg1⟩⟩
          by_cases e : j = i
          · rw [e]; exact hq
          · exact j3 j (by omega)
        · refine .inr ⟨rfl, j2, j3, q, g2, c2, _, hq, hB, hb2, fun hmem => ?_⟩
          have h1 := hE.pool.lt _ hmem
          omega
  have HP := Lib.hid hP
  have HH := Lib.hid hH
  have HI := Lib.hid hI
  have HW7 := Lib.hid hw7
  have O7' := Lib.hid O7
  have S7' := Lib.hid S7
  have HV := Lib.hid hv
  have HVM := Lib.hid hvM
  have HM := Lib.hid hM
  have HMLT := Lib.hid hMlt
  have HHLT := Lib.hid hHlt
  clear hP hH hI hw7 B7 O7 S7 hv hvM hMlt hHlt hM
  go_enter Tryz.func7, Tryz.ntmps7
  go_wp2_with fail
  rw [← HW7.out]
  simp only [Nat.add_assoc, Nat.reduceAdd]
  refine EA.out.mono ?_
  rintro e w8 ⟨rfl, M8, hE8, hJQ⟩
  have hS8 : Step M M8 w w8 := by
    refine ⟨(O7'.out.mono (M' := M) (by simp)).trans hE8.only (fun x hx => ?_), fun x hx => ?_⟩
    · rcases List.mem_append.1 hx with h | h
      · simp only [boxX, List.mem_cons, List.not_mem_nil, or_false] at h
        right; omega
      · exact .inl h
    · rcases hE8.mine x hx with h | h
      · exact .inl h
      · rw [S7'.out] at h; right; omega
  have hH8 : HpAt w8 hb p root := hS8.1.blk HH.out HM.out
  have h8 := hH8.cell 0
  simp only [List.getElem?_cons_zero] at h8
  have hbM8 : hb ∉ M8 := P.Step.keep hS8 HHLT.out HM.out
  have S8 := Lib.hid hS8
  have E8 := Lib.hid hE8
  clear hE8 hS8 O7' HW7 EA
  rcases hJQ with ⟨j1, j2, j3, vl, ve, j4, j5⟩ | ⟨i, hi, q1, q2, q, g2, c2, ve, q3, q4, q5, q6⟩
  case inr =>
    have hu8 : u.getD (ids.getD i 0) false = true := HI.out.used _ (getD_mem hi)
    have hidl : ids.getD i 0 < 65536 := by have := used_lt hu8; have := HP.out.size; omega
    have hsl : freeS (pg (ids.getD i 0)) < 125 := by
      have hl := lays_page (HI.out.page i hi) hx h1 h2 q3
      exact hl.lt
    have PT : Hid (∀ w1, Only [] w8 w1 → Calls Tryz.prog 32 #[.pointer (some ⟨p, 0, none⟩), .int .i64 (ids.getD i 0 : Nat), .slice (some ⟨g2, 0, none⟩) 512 c2, .int .u64 0] w1 fun e w' => ∃ M', e = .returned (.int .i64 0) ∧ PoolV w' p M' u (upd pg (ids.getD i 0) q) (k + 2 * ids.length + 2) ∧ Step M8 M' w1 w') := fun w1 hO => (E8.out.pool.past hO).put (by omega) hu8 (q5.past hO).at (fun a n c he => by simp only [Value.slice.injEq, Option.some.injEq] at he; obtain ⟨rfl, _, _⟩ := he; exact q6) q5.1
    have INS : Hid (Inserted u pg root ids row xmin u (upd pg (ids.getD i 0) q) ids (ids.getD i 0) (freeS (pg (ids.getD i 0)))) := .here i hi q q3 q2
    obtain ⟨⟨d0, d1, d2, d3, d4, d5, d6⟩, _⟩ := q4.facts
    have nj : ∀ j, j < 7 → w.heap.size + j ∉ M8 := fun j hj hm => by
      rcases q1 _ hm with h | h
      · have := HMLT.out _ h
        omega
      · omega
    have n2 := nj 2 (by omega)
    have n3 := nj 3 (by omega)
    have n5 := nj 5 (by omega)
    have RD := Lib.hid (fun w1 => rid_any w1 (ids.getD i 0) (freeS (pg (ids.getD i 0))) hidl (by omega))
    clear q1 q2 q3 q4 q5 q6 hu8 d0 d1 d4 d6 nj
    generalize freeS (pg (ids.getD i 0)) = slot at *
    generalize ids.getD i 0 = id at *
    generalize upd pg id q = pg2 at *
    have hid0 : (0 : Int) ≤ id := by omega
    have N2 := Lib.hid n2
    have N3 := Lib.hid n3
    have N5 := Lib.hid n5
    have NB := Lib.hid hbM8
    clear n2 n3 n5 hbM8 hidl hsl
    go_wp2_with fail
    go_region_held3 (fun w' => w'.cell? ⟨hb, 0, none⟩ = some (.pointer (some ⟨p, 0, none⟩)) ∧ w'.cell? ⟨w.heap.size + 2, 0, none⟩ = some (.int .i64 id) ∧ w'.cell? ⟨w.heap.size + 3, 0, none⟩ = some (.int .i64 slot) ∧ w'.cell? ⟨w.heap.size + 5, 0, none⟩ = some (.slice (some ⟨g2, 0, none⟩) 512 c2)) (first | exact hKEEP | go_keep)
      (first
        | (go_at_call 31; refine (RD.out _).mono ?_; rintro e w9 ⟨rfl, rfl⟩)
        | (go_at_call 32; refine (PT.out _ ((Only.refl _ _).drew)).mono ?_; rintro e w9 ⟨M9, rfl, hP9, hS9⟩; have hKEEP := And.intro (hS9.1.cell (p := ⟨hb, 0, none⟩) h8 NB.out) (And.intro (hS9.1.cell (p := ⟨w.heap.size + 2, 0, none⟩) d2 N2.out) (And.intro (hS9.1.cell (p := ⟨w.heap.size + 3, 0, none⟩) d3 N3.out) (hS9.1.cell (p := ⟨w.heap.size + 5, 0, none⟩) d5 N5.out)))))
    go_wp2_with fail
    go_ret2
    exact ⟨_, _, _, id, slot, M9, rfl, INS.out, hP9.more (by omega), S8.out.trans (Step.ahead ((Only.refl _ _).drew) hS9)⟩
  case inl =>
    obtain ⟨rfl, gb, c, rfl, jb, jn, jg⟩ := j5 HI.out.some_
    have hX8 : ∀ x ∈ M8, x < w.heap.size ∨ w.heap.size + 7 ≤ x := fun x hx => by
      rcases j2 x hx with h | h
      · exact .inl (HMLT.out x h)
      · exact .inr h
    have hrow9 : ∀ w1, Only M8 w8 w1 → BytesAt w1 (.slice ao row.length cap) row := fun w1 hO => bytes_later j1 hO (fun a n c he hm => by
      rcases j2 _ hm with h | h
      · exact (HVM.out a n c he).1 h
      · have := (HVM.out a n c he).2; omega)
    have AL := Lib.hid (E8.out.pool.alloc (by omega) hfull)
    have hr : root < 65536 := by have := HI.out.id_lt HP.out.size (i := 0); rw [HI.out.head] at this; exact this
    obtain ⟨q, hq⟩ := fresh_lays root xmin h1 h2
    have hfree : freeS (freshP root) = 1 := by
      have h1 := (fresh_page root).2.1.odd.1
      have h2 := freeS_le (freshP root)
      rw [(fresh_page root).2.2.1] at h2
      omega
    have FR : Hid (∀ w1, HpAt w1 hb p root → Calls Tryz.prog 34 #[.pointer (some ⟨hb, 0, none⟩)] w1 fun e w' => ∃ g c, e = .returned (.slice (some ⟨g, 0, none⟩) 512 c) ∧ Buf w' g c (freshP root) ∧ w1.heap.size ≤ g ∧ Only [] w1 w') := fun w1 h => fresh_any h hr
    have FL : Hid (∀ w1 v, BytesC w1 v (freshP root) → BytesAt w1 (.slice ao row.length cap) row → Calls Tryz.prog 30 #[v, .slice ao row.length cap, .int .u64 xmin] w1 fun e w' => ∃ g c, e = .returned (.tuple #[.slice (some ⟨g, 0, none⟩) 512 c, .int .i64 1, .bool true]) ∧ Buf w' g c q ∧ w1.heap.size ≤ g ∧ Only [] w1 w') := fun w1 v hv hr => by
      refine (lays_any hv hr hx).mono ?_
      rintro e w' (⟨q', g, c, hq', rfl, r⟩ | ⟨hq', _⟩)
      · rw [hq] at hq'
        obtain rfl := Option.some.inj hq'
        rw [hfree]
        exact ⟨g, c, rfl, r⟩
      · rw [hq] at hq'; cases hq'
    obtain ⟨⟨d0, d1, d2, d3, d4, d5, d6⟩, f2, f3, f4, f5, f6⟩ := j4.facts
    have J4 := Lib.hid j4
    have JB := Lib.hid jb
    have JN := Lib.hid jn
    have JG := Lib.hid jg
    have J3 := Lib.hid j3
    have HR9 := Lib.hid hrow9
    have HX8 := Lib.hid hX8
    have HQ := Lib.hid hq
    have HFREE := Lib.hid hfree
    have HROOT := Lib.hid hr
    have NB := Lib.hid hbM8
    have HFF := Lib.hid hfull
    have HH8 := Lib.hid hH8
    clear j1 j2 j3 j4 j5 jb jn jg hX8 hrow9 hq hfree hr hbM8 hfull hH8
    generalize hlast : ids.getD (ids.length - 1) 0 = last at *
    have HLAST := Lib.hid hlast
    generalize hff : firstFree u = ff at *
    have HFFE := Lib.hid hff
    clear hlast hff
    go_wp2_with (go_at_call 33; refine AL.out.mono ?_; rintro e w9 ⟨M9, rfl, hP9, hS9⟩; have P9 := Lib.hid hP9; have S9 := Lib.hid hS9; clear hP9 hS9)
    have J9 := Lib.hid (J4.out.later S9.out.1 HX8.out)
    have H9 := Lib.hid (show HpAt w9 hb p root from S9.out.1.blk HH8.out NB.out)
    have R9 := Lib.hid (HR9.out w9 S9.out.1)
    have B9 := Lib.hid (JB.out.later S9.out.1 JN.out)
    have HX9 : Hid (∀ x ∈ M9, x < w.heap.size ∨ w.heap.size + 7 ≤ x) := fun x hx => by
      rcases S9.out.2 x hx with h | h
      · exact HX8.out x h
      · have := J4.out.end_.lt; exact .inr (by omega)
    have NG9 := Lib.hid (P.Step.keep S9.out JB.out.lt JN.out)
    have NB9 := Lib.hid (P.Step.keep S9.out HH8.out.lt NB.out)
    clear d0 d1 d2 d3 d4 d5 d6 f2 f3 f4 f5 f6 h8 AL HR9 HX8 J4 JB JN HH8
    obtain ⟨⟨d0, d1, d2, d3, d4, d5, d6⟩, f2, f3, f4, f5, f6⟩ := J9.out.facts
    have k1 : w.heap.size + 5 ≠ w.heap.size := by omega
    have k2 : w.heap.size + 5 ≠ w.heap.size + 1 := by omega
    have k3 : w.heap.size + 3 ≠ w.heap.size := by omega
    have k4 : w.heap.size + 3 ≠ w.heap.size + 1 := by omega
    refine wp_region_held_drew (S := fun w' => w'.cell? ⟨w.heap.size, 0, none⟩ = some (.slice ao row.length cap) ∧ w'.cell? ⟨w.heap.size + 1, 0, none⟩ = some (.int .u64 xmin)) (by kernel_rfl) ⟨d0, d1⟩ (fun hHeld => ?_)
    refine take_at 0 58 (.pointer (some ⟨hb, 0, none⟩)) rfl rfl (by kernel_rfl) (by kernel_rfl) (by kernel_rfl) (fun _ _ _ h => h) (Or.inl ⟨by rfl, fun w1 hw1 => by go_simp⟩) hHeld ?_
    (try simp only [Act.put, List.setIfInBounds_toArray, List.set_cons_zero, List.set_cons_succ])
    refine take_at 2 60 (.slice ao row.length cap) rfl rfl (by kernel_rfl) (by kernel_rfl) (by kernel_rfl) (fun _ _ _ h => h) (Or.inl ⟨by rfl, fun w1 hw1 => by have hw2 := hw1.1; go_simp⟩) hHeld ?_
    (try simp only [Act.put, List.setIfInBounds_toArray, List.set_cons_zero, List.set_cons_succ])
    refine take_at 3 61 (.int .u64 xmin) rfl rfl (by kernel_rfl) (by kernel_rfl) (by kernel_rfl) (fun _ _ _ h => h) (Or.inl ⟨by rfl, fun w1 hw1 => by have hw2 := hw1.2; go_simp⟩) hHeld ?_
    (try simp only [Act.put, List.setIfInBounds_toArray, List.set_cons_zero, List.set_cons_succ])
    refine one_at 1 rfl (by kernel_rfl) (by rfl) (fun K hK => ?_)
    go_wp2_with (go_at_call 34; refine (FR.out _ (H9.out.past ((Only.refl _ _).drew))).mono ?_; rintro e w10 ⟨gf, cf, rfl, hb10, hg10, hO10⟩)
    refine hK.out _ _ ⟨hO10.cell (p := ⟨w.heap.size, 0, none⟩) d0 (by simp), hO10.cell (p := ⟨w.heap.size + 1, 0, none⟩) d1 (by simp)⟩ ?_
    have hHeld10 := And.intro (hO10.cell (p := ⟨w.heap.size, 0, none⟩) d0 (by simp)) (hO10.cell (p := ⟨w.heap.size + 1, 0, none⟩) d1 (by simp))
    clear hK K hHeld
    (try simp only [Act.put, List.setIfInBounds_toArray, List.set_cons_zero, List.set_cons_succ])
    refine one_at 4 rfl (by kernel_rfl) (by rfl) (fun K hK => ?_)
    go_wp2_with (go_at_call 30; refine (FL.out _ _ hb10.c (bytes_past R9.out (((Only.refl [] w9).drew).trans hO10 (by simp)))).mono ?_; rintro e w11 ⟨g3, c3, rfl, hb11, hg11, hO11⟩)
    have hHeld := And.intro (hO11.cell (p := ⟨w.heap.size, 0, none⟩) hHeld10.1 (by simp)) (hO11.cell (p := ⟨w.heap.size + 1, 0, none⟩) hHeld10.2 (by simp))
    refine hK.out _ _ hHeld ?_
    clear hK K hHeld10
    (try simp only [Act.put, List.setIfInBounds_toArray, List.set_cons_zero, List.set_cons_succ])
    refine take_at 5 57 (.tuple #[.slice (some ⟨g3, 0, none⟩) 512 c3, .int .i64 1, .bool true]) rfl rfl (by kernel_rfl) (by kernel_rfl) (by kernel_rfl) (fun _ _ _ h => h) (Or.inl ⟨by rfl, fun w1 hw1 => by go_simp⟩) hHeld ?_
    (try simp only [Act.put, List.setIfInBounds_toArray, List.set_cons_zero, List.set_cons_succ])
    refine take_at 6 63 (.slice (some ⟨g3, 0, none⟩) 512 c3) rfl rfl (by kernel_rfl) (by kernel_rfl) (by kernel_rfl) (fun _ _ _ h => h) (Or.inl ⟨by rfl, fun w1 hw1 => by go_simp⟩) hHeld ?_
    (try simp only [Act.put, List.setIfInBounds_toArray, List.set_cons_zero, List.set_cons_succ])
    refine take_at 7 64 (.int .i64 1) rfl rfl (by kernel_rfl) (by kernel_rfl) (by kernel_rfl) (fun _ _ _ h => h) (Or.inl ⟨by rfl, fun w1 hw1 => by go_simp⟩) hHeld ?_
    (try simp only [Act.put, List.setIfInBounds_toArray, List.set_cons_zero, List.set_cons_succ])
    refine take_at 8 65 (.bool true) rfl rfl (by kernel_rfl) (by kernel_rfl) (by kernel_rfl) (fun _ _ _ h => h) (Or.inl ⟨by rfl, fun w1 hw1 => by go_simp⟩) hHeld ?_
    (try simp only [Act.put, List.setIfInBounds_toArray, List.set_cons_zero, List.set_cons_succ])
    have O11 : Hid (Only [] w9 w11) := (((Only.refl [] w9).drew).trans hO10 (by simp)).trans hO11 (by simp)
    have J11 := Lib.hid (J9.out.past O11.out)
    have H11 := Lib.hid (H9.out.past O11.out)
    have B11 := Lib.hid (B9.out.past O11.out)
    have P11 := Lib.hid (P9.out.past O11.out)
    have NW : Hid (Buf w11 g3 c3 q ∧ w9.heap.size ≤ g3) := ⟨hb11, by have := hO10.size; have e : w9.drew.heap.size = w9.heap.size := rfl; omega⟩
    have J12 := Lib.hid (J11.out.setWith (.slice (some ⟨g3, 0, none⟩) 512 c3))
    have J13 := Lib.hid (J12.out.setSlot (.int .i64 1))
    clear d0 d1 d2 d3 d4 d5 d6 f2 f3 f4 f5 f6 hO10 hO11 hb10 hb11 hg10 hg11
    obtain ⟨⟨_, _, _, _, _, d5, _⟩, _, _, _, f5, _⟩ := J11.out.facts
    obtain ⟨⟨e0, e1, _, d3, _, _, _⟩, _, f3, _, _, _⟩ := J12.out.facts
    obtain ⟨⟨i0, i1, _, _, _, _, _⟩, _⟩ := J13.out.facts
    refine one_at 9 rfl (by kernel_rfl) (by rfl) (fun K hK => ?_)
    go_wp2_with fail
    refine hK.out _ _ ⟨e0, e1⟩ ?_
    clear hK K
    (try simp only [Act.put, List.setIfInBounds_toArray, List.set_cons_zero, List.set_cons_succ])
    refine one_at 10 rfl (by kernel_rfl) (by rfl) (fun K hK => ?_)
    go_wp2_with fail
    refine hK.out _ _ ⟨i0, i1⟩ ?_
    clear hK K hHeld
    (try simp only [Act.put, List.setIfInBounds_toArray, List.set_cons_zero, List.set_cons_succ])
    refine wpAnyH_done (by kernel_rfl) ?_ _
    obtain ⟨w13, hw13⟩ : ∃ w13, (w11.setCell ⟨w.heap.size + 5, 0, none⟩ (.slice (some ⟨g3, 0, none⟩) 512 c3)).setCell ⟨w.heap.size + 3, 0, none⟩ (.int .i64 1) = w13 := ⟨_, rfl⟩
    have hO13 : Only (boxX w.heap.size) w11 w13 := hw13 ▸ ((only_one _ (by simp [boxX])).trans (only_one _ (X := boxX w.heap.size) (by simp [boxX])) (fun x hx => .inl hx))
    rw [hw13]
    rw [hw13] at J13
    have hbx : ∀ x, x ∈ boxX w.heap.size → w.heap.size ≤ x ∧ x < w.heap.size + 7 := fun x hx => by
      simp only [boxX, List.mem_cons, List.not_mem_nil, or_false] at hx
      omega
    have hsz9 : w.heap.size + 7 ≤ w9.heap.size := by have := J9.out.end_.lt; omega
    have H13 := Lib.hid (show HpAt w13 hb p root from hO13.blk H11.out (fun hm => by have := hbx _ hm; have := HHLT.out; omega))
    have B13 := Lib.hid (B11.out.later hO13 (fun hm => by have := hbx _ hm; have := JG.out; omega))
    have NW13 := Lib.hid (NW.out.1.later hO13 (fun hm => by have := hbx _ hm; have := NW.out.2; omega))
    have hNS : NoSec w11 (boxX w.heap.size) := by
      intro x hx cs hcs
      simp only [boxX, List.mem_cons, List.not_mem_nil, or_false] at hx
      rcases hx with rfl | rfl | rfl | rfl | rfl
      · exact absurd rfl (hcs.ne J11.out.at_ (by decide))
      · exact absurd rfl (hcs.ne J11.out.slot (by decide))
      · exact absurd rfl (hcs.ne J11.out.last (by decide))
      · exact absurd rfl (hcs.ne J11.out.with_ (by decide))
      · exact absurd rfl (hcs.ne J11.out.end_ (by decide))
    have P13 := Lib.hid (P11.out.later hO13 hNS (fun x hx hm => by
      have := hbx _ hm
      rcases HX9.out x hx with h | h <;> omega))
    have NG3 : Hid (g3 ∉ M9) := fun hm => by have := P9.out.lt _ hm; have := NW.out.2; omega
    have hu1 : (u.set ff true).getD ff false = true := getD_set_self u ff true false HFF.out
    have PT : Hid (∀ w1, Only [] w13 w1 → Calls Tryz.prog 32 #[.pointer (some ⟨p, 0, none⟩), .int .i64 ff, .slice (some ⟨g3, 0, none⟩) 512 c3, .int .u64 0] w1 fun e w' => ∃ M', e = .returned (.int .i64 0) ∧ PoolV w' p M' (u.set ff true) (upd (upd pg ff zeros) ff q) (k + 2 * ids.length + 2 + 2) ∧ Step M9 M' w1 w') := fun w1 hO => (P13.out.past hO).put (by omega) hu1 (NW13.out.past hO).at (fun a n c he => by simp only [Value.slice.injEq, Option.some.injEq] at he; obtain ⟨rfl, _, _⟩ := he; exact NG3.out) NW13.out.1
    have O13 : Hid (Only (boxX w.heap.size) w9 w13) := (O11.out.mono (M' := boxX w.heap.size) (by simp)).trans hO13 (fun x hx => .inl hx)
    have HBX := Lib.hid hbx
    have HSZ := Lib.hid hsz9
    have h13 := H13.out.cell 0
    simp only [List.getElem?_cons_zero] at h13
    clear d5 f5 e0 e1 d3 f3 i0 i1 hw13 hO13 hbx hsz9 hNS hu1 NW J12 J11 H11 B11 P11 O11
    obtain ⟨⟨d0, d1, d2, d3, d4, d5, d6⟩, f2, f3, f4, f5, f6⟩ := J13.out.facts
    have n5 : Hid (w.heap.size + 5 ∉ M9) := fun hm => by rcases HX9.out _ hm with h | h <;> omega
    go_wp2_with fail
    go_region_held3 (fun w' => w'.cell? ⟨hb, 0, none⟩ = some (.pointer (some ⟨p, 0, none⟩)) ∧ w'.cell? ⟨w.heap.size + 5, 0, none⟩ = some (.slice (some ⟨g3, 0, none⟩) 512 c3)) (first | with_reducible exact hKEEP | go_keep)
      (first
        | (go_at_call 32; refine (PT.out _ ((Only.refl _ _).drew)).mono ?_; rintro e w14 ⟨M14, rfl, hP14, hS14⟩; have hKEEP := And.intro (hS14.1.cell (p := ⟨hb, 0, none⟩) h13 NB9.out) (hS14.1.cell (p := ⟨w.heap.size + 5, 0, none⟩) d5 n5.out)))
    have hS14' : Step M9 M14 w13 w14 := Step.ahead ((Only.refl _ _).drew) hS14
    have J14 := Lib.hid (J13.out.later hS14'.1 HX9.out)
    have H14 := Lib.hid (show HpAt w14 hb p root from hS14'.1.blk H13.out NB9.out)
    have B14 := Lib.hid (B13.out.later hS14'.1 NG9.out)
    have P14 := Lib.hid hP14
    have S14 := Lib.hid hS14'
    have HX14 : Hid (∀ x ∈ M14, x < w.heap.size ∨ w.heap.size + 7 ≤ x) := fun x hx => by
      rcases hS14'.2 x hx with h | h
      · exact HX9.out x h
      · have := J13.out.end_.lt; exact .inr (by omega)
    have NB14 := Lib.hid (P.Step.keep hS14' H13.out.lt NB9.out)
    have hLP := HI.out.page (ids.length - 1) (by have := HI.out.some_; omega)
    rw [HLAST.out] at hLP
    have hffl : ff < 65536 := by have := HFF.out; have := HP.out.size; omega
    clear hP14 hS14 hS14' hKEEP PT d0 d1 d2 d3 d4 d5 d6 f2 f3 f4 f5 f6 h13 J13 H13 B13 n5
    obtain ⟨⟨d0, d1, d2, d3, d4, d5, d6⟩, f2, f3, f4, f5, f6⟩ := J14.out.facts
    have HD : Hid (∀ w1, HpAt w1 hb p root → Calls Tryz.prog 36 #[.pointer (some ⟨hb, 0, none⟩), .int .i64 ff] w1 fun e w' => ∃ v', e = .returned v' ∧ B.Own w1 w' v' (headC root ff)) := fun w1 h => head_any h HROOT.out ff hffl
    have RP : Hid (∀ w1 v vb, BytesC w1 v (pg last) → BytesAt w1 vb (headC root ff) → Calls Tryz.prog 35 #[v, .int .i64 0, vb] w1 fun e w' => ∃ gb c r, e = .returned (.tuple #[.slice (some ⟨gb, 0, none⟩) 512 c, .int .i64 0]) ∧ Rep (pg last) 0 (headC root ff) r ∧ Buf w' gb c r ∧ w1.heap.size ≤ gb ∧ Only [] w1 w') := fun w1 v vb h1 h2 => by
      obtain ⟨k1, k2⟩ := ct_isSome hLP.head
      have hlen : sL (pg last) 0 = 8 := by rw [(ct_long hLP.pg.body.core hLP.head).2.2.1, head_len]
      exact replace_yes h1 h2 hLP.pg k1 k2 (by rw [head_len]; omega) (by rw [head_len]; omega) (by rw [head_len, hlen]; omega)
    clear hLP
    go_wp2_with fail
    go_cut [15] (fun s15 wx => ∃ (g5 c5 : Nat) (h5 : List UInt8), s15 = .int .i64 0 ∧ Rep (pg last) 0 (headC root ff) h5 ∧ ∃ w16, Only [] w14 w16 ∧ Buf w16 g5 c5 h5 ∧ w14.heap.size ≤ g5 ∧ wx = w16.setCell ⟨w.heap.size + 6, 0, none⟩ (.slice (some ⟨g5, 0, none⟩) 512 c5))
    case first =>
      refine wp_region_held_drew (S := fun _ => True) (by kernel_rfl) trivial (fun hHeld => ?_)
      refine take_at 1 78 (.pointer (some ⟨hb, 0, none⟩)) rfl rfl (by kernel_rfl) (by kernel_rfl) (by kernel_rfl) (fun _ _ _ h => h) (Or.inl ⟨by rfl, fun w1 hw1 => by go_simp⟩) trivial ?_
      (try simp only [Act.put, List.setIfInBounds_toArray, List.set_cons_zero, List.set_cons_succ])
      refine take_at 2 79 (.int .i64 ff) rfl rfl (by kernel_rfl) (by kernel_rfl) (by kernel_rfl) (fun _ _ _ h => h) (Or.inl ⟨by rfl, fun w1 hw1 => by go_simp⟩) trivial ?_
      (try simp only [Act.put, List.setIfInBounds_toArray, List.set_cons_zero, List.set_cons_succ])
      refine two_at 0 3 rfl rfl (by kernel_rfl) (by rfl) (by rfl) (fun K hK => ?_) (fun K hK => ?_)
      · go_wp2_with fail
        refine hK.out _ _ trivial ?_
        clear hK K
        (try simp only [Act.put, List.setIfInBounds_toArray, List.set_cons_zero, List.set_cons_succ])
        refine one_at 3 rfl (by kernel_rfl) (by rfl) (fun K hK => ?_)
        go_wp2_with (go_at_call 36; refine (HD.out _ (H14.out.past ((Only.refl _ _).drew))).mono ?_; rintro e w15 ⟨vh, rfl, hrH, hkH, hOH⟩)
        have hOA : Only [] w14 w15 := ((Only.refl [] w14).drew).trans hOH (by simp)
        refine hK.out _ _ trivial ?_
        clear hK K
        (try simp only [Act.put, List.setIfInBounds_toArray, List.set_cons_zero, List.set_cons_succ])
        refine one_at 4 rfl (by kernel_rfl) (by rfl) (fun K hK => ?_)
        go_wp2_with (go_at_call 35; refine (RP.out _ _ _ (B14.out.past hOA).c (hrH.at)).mono ?_; rintro e w16 ⟨g5, c5, hP5, rfl, hr5, hb5, hg5, hO5⟩)
        refine hK.out _ _ trivial ?_
        clear hK K
        (try simp only [Act.put, List.setIfInBounds_toArray, List.set_cons_zero, List.set_cons_succ])
        refine take_at 5 76 (.tuple #[.slice (some ⟨g5, 0, none⟩) 512 c5, .int .i64 0]) rfl rfl (by kernel_rfl) (by kernel_rfl) (by kernel_rfl) (fun _ _ _ h => h) (Or.inl ⟨by rfl, fun w1 hw1 => by go_simp⟩) trivial ?_
        (try simp only [Act.put, List.setIfInBounds_toArray, List.set_cons_zero, List.set_cons_succ])
        refine take_at 6 82 (.slice (some ⟨g5, 0, none⟩) 512 c5) rfl rfl (by kernel_rfl) (by kernel_rfl) (by kernel_rfl) (fun _ _ _ h => h) (Or.inl ⟨by rfl, fun w1 hw1 => by go_simp⟩) trivial ?_
        (try simp only [Act.put, List.setIfInBounds_toArray, List.set_cons_zero, List.set_cons_succ])
        refine take_at 7 83 (.int .i64 0) rfl rfl (by kernel_rfl) (by kernel_rfl) (by kernel_rfl) (fun _ _ _ h => h) (Or.inl ⟨by rfl, fun w1 hw1 => by go_simp⟩) trivial ?_
        (try simp only [Act.put, List.setIfInBounds_toArray, List.set_cons_zero, List.set_cons_succ])
        have O16 : Hid (Only [] w14 w16) := hOA.trans hO5 (by simp)
        have J16 := Lib.hid (J14.out.past O16.out)
        obtain ⟨⟨_, _, _, _, _, _, y6⟩, _, _, _, _, z6⟩ := J16.out.facts
        refine one_at 8 rfl (by kernel_rfl) (by rfl) (fun K hK => ?_)
        go_wp2_with fail
        refine hK.out _ _ trivial ?_
        clear hK K
        (try simp only [Act.put, List.setIfInBounds_toArray, List.set_cons_zero, List.set_cons_succ])
        refine wpAnyH_done (by kernel_rfl) ?_ _
        go_wp2_with fail
        go_meet
        case rel => exact ⟨g5, c5, hP5, rfl, hr5, w16, O16.out, hb5, by have := hO5.size; have := hOA.size; omega, rfl⟩
      · go_wp2_with (go_at_call 36; refine (HD.out _ (H14.out.past ((Only.refl _ _).drew))).mono ?_; rintro e w15 ⟨vh, rfl, hrH, hkH, hOH⟩)
        have hOA : Only [] w14 w15 := ((Only.refl [] w14).drew).trans hOH (by simp)
        refine hK.out _ _ trivial ?_
        clear hK K
        (try simp only [Act.put, List.setIfInBounds_toArray, List.set_cons_zero, List.set_cons_succ])
        have d6b := hOA.cell (p := ⟨w.heap.size + 6, 0, none⟩) d6 (by simp)
        refine one_at 0 rfl (by kernel_rfl) (by rfl) (fun K hK => ?_)
        go_wp2_with fail
        refine hK.out _ _ trivial ?_
        clear hK K
        (try simp only [Act.put, List.setIfInBounds_toArray, List.set_cons_zero, List.set_cons_succ])
        refine one_at 4 rfl (by kernel_rfl) (by rfl) (fun K hK => ?_)
        go_wp2_with (go_at_call 35; refine (RP.out _ _ _ (B14.out.past hOA).c (hrH.at)).mono ?_; rintro e w16 ⟨g5, c5, hP5, rfl, hr5, hb5, hg5, hO5⟩)
        refine hK.out _ _ trivial ?_
        clear hK K
        (try simp only [Act.put, List.setIfInBounds_toArray, List.set_cons_zero, List.set_cons_succ])
        refine take_at 5 76 (.tuple #[.slice (some ⟨g5, 0, none⟩) 512 c5, .int .i64 0]) rfl rfl (by kernel_rfl) (by kernel_rfl) (by kernel_rfl) (fun _ _ _ h => h) (Or.inl ⟨by rfl, fun w1 hw1 => by go_simp⟩) trivial ?_
        (try simp only [Act.put, List.setIfInBounds_toArray, List.set_cons_zero, List.set_cons_succ])
        refine take_at 6 82 (.slice (some ⟨g5, 0, none⟩) 512 c5) rfl rfl (by kernel_rfl) (by kernel_rfl) (by kernel_rfl) (fun _ _ _ h => h) (Or.inl ⟨by rfl, fun w1 hw1 => by go_simp⟩) trivial ?_
        (try simp only [Act.put, List.setIfInBounds_toArray, List.set_cons_zero, List.set_cons_succ])
        refine take_at 7 83 (.int .i64 0) rfl rfl (by kernel_rfl) (by kernel_rfl) (by kernel_rfl) (fun _ _ _ h => h) (Or.inl ⟨by rfl, fun w1 hw1 => by go_simp⟩) trivial ?_
        (try simp only [Act.put, List.setIfInBounds_toArray, List.set_cons_zero, List.set_cons_succ])
        have O16 : Hid (Only [] w14 w16) := hOA.trans hO5 (by simp)
        have J16 := Lib.hid (J14.out.past O16.out)
        obtain ⟨⟨_, _, _, _, _, _, y6⟩, _, _, _, _, z6⟩ := J16.out.facts
        refine one_at 8 rfl (by kernel_rfl) (by rfl) (fun K hK => ?_)
        go_wp2_with fail
        refine hK.out _ _ trivial ?_
        clear hK K
        (try simp only [Act.put, List.setIfInBounds_toArray, List.set_cons_zero, List.set_cons_succ])
        refine wpAnyH_done (by kernel_rfl) ?_ _
        go_wp2_with fail
        go_meet
        case rel => exact ⟨g5, c5, hP5, rfl, hr5, w16, O16.out, hb5, by have := hO5.size; have := hOA.size; omega, rfl⟩
    case rest =>
      obtain ⟨g5, c5, h5, rfl, hr5, w16, hO16, hb5, hg5, rfl⟩ := hcut
      have hOw : Only (boxX w.heap.size) w16 (w16.setCell ⟨w.heap.size + 6, 0, none⟩ (.slice (some ⟨g5, 0, none⟩) 512 c5)) := only_one _ (by simp [boxX])
      have J16 := J14.out.past hO16
      have J17 := J16.setEnd (.slice (some ⟨g5, 0, none⟩) 512 c5)
      have hbx := HBX.out
      have hN14 : w.heap.size + 7 ≤ w14.heap.size := by have := J14.out.end_.lt; omega
      have H17 : HpAt (w16.setCell ⟨w.heap.size + 6, 0, none⟩ (.slice (some ⟨g5, 0, none⟩) 512 c5)) hb p root := hOw.blk (H14.out.past hO16) (fun hm => by have := hbx _ hm; have := HHLT.out; omega)
      have B17 := hb5.later hOw (fun hm => by have := hbx _ hm; omega)
      have hNS : NoSec w16 (boxX w.heap.size) := by
        intro x hx cs hcs
        simp only [boxX, List.mem_cons, List.not_mem_nil, or_false] at hx
        rcases hx with rfl | rfl | rfl | rfl | rfl
        · exact absurd rfl (hcs.ne J16.at_ (by decide))
        · exact absurd rfl (hcs.ne J16.slot (by decide))
        · exact absurd rfl (hcs.ne J16.last (by decide))
        · exact absurd rfl (hcs.ne J16.with_ (by decide))
        · exact absurd rfl (hcs.ne J16.end_ (by decide))
      have P17 := (P14.out.past hO16).later hOw hNS (fun x hx hm => by
        have := hbx _ hm
        rcases HX14.out x hx with h | h <;> omega)
      have hlu : (u.set ff true).getD last false = true := by
        have hl := HI.out.used last (by rw [← HLAST.out]; exact getD_mem (by have := HI.out.some_; omega))
        by_cases e : last = ff
        · rw [e]; exact getD_set_self u ff true false HFF.out
        · rw [P.getD_set_ne _ _ _ _ _ (fun h => e h.symm)]; exact hl
      have hSw : Step M M14 w (w16.setCell ⟨w.heap.size + 6, 0, none⟩ (.slice (some ⟨g5, 0, none⟩) 512 c5)) := by
        have hS9 : Step M M9 w w9 := S8.out.trans S9.out
        have hS13 : Step M M9 w w13 := ⟨hS9.1.trans O13.out (fun x hx => .inr (hbx x hx).1), hS9.2⟩
        have hS14 : Step M M14 w w14 := hS13.trans S14.out
        exact ⟨(hS14.1.trans hO16 (by simp)).trans hOw (fun x hx => .inr (hbx x hx).1), hS14.2⟩
      have hffl : ff < 65536 := by have := HFF.out; have := HP.out.size; omega
      have hfin : ∀ w' M', PoolV w' p M' (u.set ff true) (upd (upd (upd pg ff zeros) ff q) last h5) (k + 2 * ids.length + 2 + 2 + 2) → PoolV w' p M' (u.set ff true) (upd (upd pg ff q) last h5) (k + 2 * ids.length + 8) := fun w' M' h => by
        refine (h.more (by omega)).congr (fun j hj => ?_)
        unfold upd
        split
        · rfl
        · split <;> rfl
      have INS : Inserted u pg root ids row xmin (u.set ff true) (upd (upd pg ff q) last h5) (ids ++ [ff]) ff 1 := by
        have := Inserted.more (u := u) (pg := pg) (root := root) (ids := ids) (row := row) (xmin := xmin) J3.out (by rw [HFFE.out]; exact HFF.out) q h5 HQ.out (by rw [HLAST.out, HFFE.out]; exact hr5)
        rw [HFFE.out, HLAST.out, HFREE.out] at this
        exact this
      have NG5 : g5 ∉ M14 := fun hm => by have := P14.out.lt _ hm; omega
      obtain ⟨w17, hw17⟩ : ∃ w17, w16.setCell ⟨w.heap.size + 6, 0, none⟩ (.slice (some ⟨g5, 0, none⟩) 512 c5) = w17 := ⟨_, rfl⟩
      rw [hw17] at J17 H17 B17 P17 hSw ⊢
      have PT : Hid (∀ w1, Only [] w17 w1 → Calls Tryz.prog 32 #[.pointer (some ⟨p, 0, none⟩), .int .i64 last, .slice (some ⟨g5, 0, none⟩) 512 c5, .int .u64 0] w1 fun e w' => ∃ M', e = .returned (.int .i64 0) ∧ PoolV w' p M' (u.set ff true) (upd (upd (upd pg ff zeros) ff q) last h5) (k + 2 * ids.length + 2 + 2 + 2) ∧ Step M14 M' w1 w') := fun w1 hO => (P17.past hO).put (by omega) hlu (B17.past hO).at (fun a n c he => by simp only [Value.slice.injEq, Option.some.injEq] at he; obtain ⟨rfl, _, _⟩ := he; exact NG5) B17.1
      have RD := Lib.hid (fun w1 => rid_any w1 ff 1 hffl (by omega))
      have FIN := Lib.hid hfin
      have INS' := Lib.hid INS
      have SW := Lib.hid hSw
      have h17 := H17.cell 0
      simp only [List.getElem?_cons_zero] at h17
      obtain ⟨⟨y0, y1, y2, y3, y4, y5, y6⟩, _⟩ := J17.facts
      have nj : ∀ j, j < 7 → w.heap.size + j ∉ M14 := fun j hj hm => by rcases HX14.out _ hm with h | h <;> omega
      have n3 := Lib.hid (nj 3 (by omega))
      have n4 := Lib.hid (nj 4 (by omega))
      have n6 := Lib.hid (nj 6 (by omega))
      clear hOw J16 J17 hbx hN14 H17 B17 hNS P17 hlu hSw hffl hfin INS NG5 hw17 hr5 hO16 hb5 hg5 nj y0 y1 y2 y5 d0 d1 d2 d3 d4 d5 d6 f2 f3 f4 f5 f6
      go_wp2_with fail
      go_region_held3 (fun w' => w'.cell? ⟨hb, 0, none⟩ = some (.pointer (some ⟨p, 0, none⟩)) ∧ w'.cell? ⟨w.heap.size + 3, 0, none⟩ = some (.int .i64 1) ∧ w'.cell? ⟨w.heap.size + 4, 0, none⟩ = some (.int .i64 last) ∧ w'.cell? ⟨w.heap.size + 6, 0, none⟩ = some (.slice (some ⟨g5, 0, none⟩) 512 c5)) (first | with_reducible exact hKEEP | go_keep)
        (first
          | (go_at_call 31; refine (RD.out _).mono ?_; rintro e w9 ⟨rfl, rfl⟩)
          | (go_at_call 32; refine (PT.out _ ((Only.refl _ _).drew)).mono ?_; rintro e w18 ⟨M18, rfl, hP18, hS18⟩; have hKEEP := And.intro (hS18.1.cell (p := ⟨hb, 0, none⟩) h17 NB14.out) (And.intro (hS18.1.cell (p := ⟨w.heap.size + 3, 0, none⟩) y3 n3.out) (And.intro (hS18.1.cell (p := ⟨w.heap.size + 4, 0, none⟩) y4 n4.out) (hS18.1.cell (p := ⟨w.heap.size + 6, 0, none⟩) y6 n6.out)))))
      go_wp2_with fail
      go_ret2
      exact ⟨_, _, _, ff, 1, M18, rfl, INS'.out, FIN.out _ _ hP18, SW.out.trans (Step.ahead ((Only.refl _ _).drew) hS18)⟩
end Go.Proofs.YtfkmjbpnjgnkbaaGreat.H
