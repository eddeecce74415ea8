import Derived.Test.YtiijokopcgnokaaGreatMToJ
import Derived.Lib.SlBytesConst
/-
 The law's own 'made' and 'known'. By contracts.
-/
set_option linter.unusedSimpArgs false
set_option linter.unusedVariables false
namespace Go.Proofs.YtiijokopcgnokaaGreat.T
open Go Go.RowKit D B C G P H
theorem made_bytes {w : World} {l : List UInt8} {t : TypeId} (fr : Nat × Nat) {n c : Nat} (hn : n = l.length) : BytesAt (w.alloc (.cells (u8s l).toArray t fr)) (.slice (some ⟨w.heap.size, 0, none⟩) n c) l := by
 subst hn
 refine ⟨_, c, rfl, fun _ => ⟨w.heap.size, 0, rfl, fun j hj => ?_⟩⟩
 rw [Nat.zero_add, cell_of_row _ w.heap.size j (u8s l).toArray t fr (heap_alloc_new w _)]
 rw [List.getElem?_toArray, u8s_get, List.getElem?_eq_getElem hj, List.getD_eq_getElem?_getD, List.getElem?_eq_getElem hj]
 rfl
theorem bytes_nil (w : World) : BytesAt w (.slice none 0 0) [] := ⟨none, 0, rfl, fun h => absurd h (by simp)⟩
def usedT (n : Nat) : List Bool := (List.replicate n false).set 0 true
theorem usedT_len (n : Nat) : (usedT n).length = n := by simp [usedT]
theorem usedT_get (n j : Nat) (h : (usedT n).getD j false = true) : j ∈ [0] := by
 unfold usedT at h
 rw [List.getD_eq_getElem?_getD, List.getElem?_set] at h
 by_cases hj : 0 = j
 ·simp [← hj]
 ·rw [if_neg hj, List.getElem?_replicate] at h
  split at h <;> cases h
set_option maxRecDepth 100000 in
set_option maxHeartbeats 2000000 in
theorem madeT_any (w : World) (n : Nat) (h1 : 1 ≤ n) (h2 : n ≤ 65536) :
  Calls Tryz.prog 8 #[.int .i64 n] w fun e w' => ∃ p tb M pg, e = .returned (.tuple #[.pointer (some ⟨p, 0, none⟩), .pointer (some ⟨tb, 0, none⟩)]) ∧ PoolV w' p M (usedT n) pg 4 ∧ TreeL w' p tb 0 M (usedT n) pg [] [0] ∧ w.heap.size ≤ tb ∧ Step [] M w w' := by
 have DN := Lib.hid (Disk.new (n := n) (w := w) h1 h2)
 have PN : Hid (∀ w1 d M1, Disk w1 d M1 (DS.fresh n) → Calls Tryz.prog 27 #[.pointer (some ⟨d, 0, none⟩), .int .i64 0, .int .i64 n, .int .i64 24] w1 fun e w' => ∃ p M', e = .returned (.tuple #[.pointer (some ⟨p, 0, none⟩), .int .i64 0]) ∧ PoolV w' p M' (List.replicate n false) (fun _ => zeros) 0 ∧ Step M1 M' w1 w') := fun w1 d M1 hD => by
  have hl : (DS.fresh n).now.length = n := by simp [DS.fresh]
  refine (P.new_ok hD ⟨rfl, rfl, rfl⟩ (Int.le_refl _) 0 (Int.le_refl _) (Nat.le_refl _) 0 n 24 ⟨by omega, by omega, by omega, by rw [hl]; omega, by omega, by omega⟩).mono ?_
  rintro e w' ⟨p, M', rfl, hP, hS⟩
  exact ⟨p, M', rfl, ⟨d, _, hP, (fun f hf => by cases hf), rfl, rfl, fun j hj => by
   rw [List.getD_eq_getElem?_getD, List.getElem?_replicate] at hj
   split at hj <;> cases hj⟩, hS⟩
 have hff : firstFree (List.replicate n false) = 0 := by
  cases n with
  | zero => omega
  | succ n => simp [firstFree, List.replicate_succ, List.findIdx_cons]
 have HN : Hid (∀ w1 p M1, PoolV w1 p M1 (List.replicate n false) (fun _ => zeros) 0 → Calls Tryz.prog 9 #[.pointer (some ⟨p, 0, none⟩)] w1 fun e w' => ∃ tb M' pg, e = .returned (.tuple #[.pointer (some ⟨tb, 0, none⟩), .int .i64 0]) ∧ PoolV w' p M' (usedT n) pg 4 ∧ TreeL w' p tb 0 M' (usedT n) pg [] [0] ∧ w1.heap.size ≤ tb ∧ Step M1 M' w1 w') := fun w1 p M1 hP => by
  refine (tnew_any hP (by omega) (by rw [hff, List.length_replicate]; omega)).mono ?_
  rintro e w' ⟨tb, M', pg', rfl, hR⟩
  rw [hff] at hR
  exact ⟨tb, M', pg', rfl, hR.pool, ⟨hR.tree, hR.mine.2, 0, _, hR.pages, entsT_leaf _ _, by rw [nodes_leaf]; decide, by rw [nodes_leaf]; rfl⟩, hR.mine.1, hR.step⟩
 clear hff h1 h2
 go_enter Tryz.func8, Tryz.ntmps8
 go_wp2_with (first
  | (go_at_call 26; refine DN.out.mono ?_; rintro e w1 ⟨d, M1, rfl, hD1, hS1⟩; have D1 := Lib.hid hD1; have S1 := Lib.hid hS1; clear hD1 hS1)
  | (go_at_call 27; refine (PN.out _ _ _ D1.out).mono ?_; rintro e w2 ⟨p, M2, rfl, hP2, hS2⟩; have P2 := Lib.hid hP2; have S2 := Lib.hid hS2; clear hP2 hS2)
  | (go_at_call 9; refine (HN.out _ _ _ P2.out).mono ?_; rintro e w3 ⟨tb, M3, pg3, rfl, hP3, hT3, hl3, hS3⟩; have R3 := Lib.hid (And.intro hP3 (And.intro hT3 (And.intro hl3 hS3))); clear hP3 hT3 hl3 hS3))
 go_ret2
 obtain ⟨r1, r2, r3, r4⟩ := R3.out
 have hs := (S1.out.trans S2.out).1.size
 exact ⟨p, tb, M3, pg3, rfl, r1, r2, by omega, (S1.out.trans S2.out).trans r4⟩
structure One (w : World) (p tb N : Nat) (M : List Nat) (u : List Bool) (pg : Nat → List UInt8) (k : Nat) (E : List Pr) (S : List Nat) : Prop where
 pool : PoolV w p M u pg k
 tree : TreeL w p tb 0 M u pg E S
 cover : ∀ j, u.getD j false = true → j ∈ S
 len : u.length = N
theorem One.past {w w' : World} {p tb N k : Nat} {M : List Nat} {u : List Bool} {pg : Nat → List UInt8} {E : List Pr} {S : List Nat} (h : One w p tb N M u pg k E S) (hO : Only [] w w') : One w' p tb N M u pg k E S := ⟨h.pool.past hO, h.tree.past hO, h.cover, h.len⟩
theorem One.insert {w : World} {p k tb N x m : Nat} {M : List Nat} {u : List Bool} {pg : Nat → List UInt8} {E E' : List Pr} {S : List Nat} {kv : Value} {l : List UInt8} {c : Int} (h : One w p tb N M u pg k E S) (hb : BytesAt w kv l) (hl : l.length ≤ 300) (hx : x < 18446744073709551616)
  (hm : mostP (insP E (l, x)) ≤ m) (hm2 : m ≤ 1000) (hN : 3 * m + 5 ≤ N) (hk : k + 24 * m + 40 ≤ 900000) (hE : E.length ≤ 99000) (hc : (if has E (l, x) then (81 : Int) else 0) = c) (he : (if has E (l, x) then E else insP E (l, x)) = E') :
  Calls Tryz.prog 11 #[.pointer (some ⟨tb, 0, none⟩), kv, .int .u64 x] w fun e w' => ∃ M' u' pg' S', e = .returned (.int .i64 c) ∧ One w' p tb N M' u' pg' (k + (20 * m + 30)) E' S' ∧ Step M M' w w' := by
 have hf := free_many h.cover
 have hfew := h.tree.few
 have hm3 : mostP E ≤ m := Nat.le_trans mostP_ins hm
 have hlen := h.len
 refine (h.tree.insert h.pool hb hl hx hm hm2 (by omega) hk hE).mono ?_
 rintro e w' ⟨M', u', pg', S', rfl, hP, hT, hO, hS⟩
 rw [hc]
 rw [he] at hT
 refine ⟨M', u', pg', S', rfl, ⟨hP, hT, fun j hj => ?_, hO.len.trans h.len⟩, hS⟩
 rcases (hO.used j).1 hj with h1 | h1
 ·exact absurd (h.cover j h1.1) h1.2
 ·exact h1
theorem TreeL.next {w : World} {p k tb root cb : Nat} {M : List Nat} {u : List Bool} {pg : Nat → List UInt8} {E : List Pr} {S : List Nat} {kv : Value} {last : Pr} {begun : Bool} {r : Option Pr} (hP : PoolV w p M u pg k) (hT : TreeL w p tb root M u pg E S) (hC : CurAt w M cb tb kv last begun) (hm : mostP E ≤ 1000) (hk : k + 2 * mostP E ≤ 900000) (hr : nextP E last begun = r) :
  Calls Tryz.prog 16 #[.pointer (some ⟨cb, 0, none⟩)] w fun e w' => ∃ M',
   (r = none ∧ e = .returned (.tuple #[.agg #[.slice none 0 0, .int .u64 0], .bool false, .int .i64 0]) ∧ PoolV w' p M' u pg (k + 2 * mostP E) ∧ TreeL w' p tb root M' u pg E S ∧ CurAt w' M' cb tb kv last begun ∧ Step M M' w w') ∨
   (∃ x kv' rv, r = some x ∧ e = .returned (.tuple #[.agg #[rv, .int .u64 x.2], .bool true, .int .i64 0]) ∧ KeyOk w' M' (rv, x) ∧ (∀ g, rv.ownBlock = some g → w.heap.size ≤ g) ∧ PoolV w' p M' u pg (k + 2 * mostP E) ∧ TreeL w' p tb root M' u pg E S ∧ CurAt w' M' cb tb kv' x true ∧ (∀ g, rv.ownBlock = some g → kv'.ownBlock ≠ some g) ∧ Only (M ++ [cb]) w w' ∧ ∀ x ∈ M', x ∈ M ∨ w.heap.size ≤ x) := by
 obtain ⟨H, T, h1, h2, h3, h4⟩ := hT.tree
 refine (next_any hP hT.at_ hT.off h1 (by omega) hC).mono ?_
 rw [h2]
 rintro e w' ⟨M', ⟨g1, rfl, g2, g3, g4⟩ | ⟨x, kv', rv, g1, rfl, g2, g3, g4, g5, g6, g7, g8⟩⟩
 ·exact ⟨M', .inl ⟨hr ▸ g1, rfl, g2.more (by omega), hT.step g4, g3, g4⟩⟩
 ·refine ⟨M', .inr ⟨x, kv', rv, hr ▸ g1, rfl, g2, g3, g4.more (by omega), ⟨g7.blk hT.at_ (fun hm => ?_), fun hm => ?_, hT.tree⟩, g5, g6, g7, g8⟩⟩
  ·rcases List.mem_append.1 hm with hm | hm
   ·exact hT.off hm
   ·simp at hm
    subst hm
    exact absurd (hT.at_.inj hC.blk).2 (by decide)
  ·rcases g8 _ hm with h | h
   ·exact hT.off h
   ·have := hT.at_.lt; omega
set_option maxRecDepth 100000 in
set_option maxHeartbeats 4000000 in
theorem knownT_any (w : World) : Calls Tryz.prog 7 #[] w fun e w' => e = .returned (.bool true) ∧ Only [] w w' := by
 have MD := Lib.hid (madeT_any w 20 (by omega) (by omega))
 have IC : Hid ((Tryz.prog.info? 43).map (·.size) = some 2) := info_pair
 have kc := fun (w : World) (C : Array Value) (n c : Nat) => Lib.run_convert_bytes_const (P := Tryz.prog) w 22 5 C n c Tryz.underlying22 Tryz.underlying5
 go_enter Tryz.func7, Tryz.ntmps7
 go_upto_region 2 with (go_at_call 8; refine MD.out.mono ?_; rintro e w1 ⟨p, tb, M1, pg1, rfl, hP1, hT1, hl1, hS1⟩; have P1 := Lib.hid hP1; have T1 := Lib.hid hT1; have S1 := Lib.hid hS1; clear hP1 hT1 hl1 hS1)
 have O1 : Hid (One w1 p tb 20 M1 (usedT 20) pg1 4 [] [0]) := ⟨P1.out, T1.out, usedT_get 20, usedT_len 20⟩
 clear P1 T1
 go_upto_region 4 with (first
  | (go_at_call 11; refine (One.insert (m := 4) (x := 2) (l := [97]) (c := 81) (E' := [([97], 2), ([98], 1)]) (O3.out.past ((Only.refl _ _).alloc _)) (made_bytes (l := [97]) (1, 2) rfl) (by decide) (by decide) (by decide) (by decide) (by decide) (by decide) (by decide) (by decide) (by decide)).mono ?_; rintro e w4 ⟨M4, u4, pg4, S4, rfl, hO4, hS4⟩; have O4 := Lib.hid hO4; have S4' : Hid (Step [] M4 w w4) := (S3'.out.then ((Only.refl _ _).alloc _)).trans hS4; clear hO4 hS4)
  | (go_at_call 11; refine (One.insert (m := 4) (x := 2) (l := [97]) (c := 0) (E' := [([97], 2), ([98], 1)]) (O2.out.past ((Only.refl _ _).alloc _)) (made_bytes (l := [97]) (1, 2) rfl) (by decide) (by decide) (by decide) (by decide) (by decide) (by decide) (by decide) (by decide) (by decide)).mono ?_; rintro e w3 ⟨M3, u3, pg3, S3, rfl, hO3, hS3⟩; have O3 := Lib.hid hO3; have S3' : Hid (Step [] M3 w w3) := (S2'.out.then ((Only.refl _ _).alloc _)).trans hS3; clear hO3 hS3)
  | (go_at_call 11; refine (One.insert (m := 4) (x := 1) (l := [98]) (c := 0) (E' := [([98], 1)]) (O1.out.past ((Only.refl _ _).alloc _)) (made_bytes (l := [98]) (1, 2) rfl) (by decide) (by decide) (by decide) (by decide) (by decide) (by decide) (by decide) (by decide) (by decide)).mono ?_; rintro e w2 ⟨M2, u2, pg2, S2, rfl, hO2, hS2⟩; have O2 := Lib.hid hO2; have S2' : Hid (Step [] M2 w w2) := (S1.out.then ((Only.refl _ _).alloc _)).trans hS2; clear hO2 hS2))
 have SK : Hid (Calls Tryz.prog 15 #[.pointer (some ⟨tb, 0, none⟩), .slice none 0 0] w4 fun e w' => ∃ cb v', e = .returned (.pointer (some ⟨cb, 0, none⟩)) ∧ CurAt w' M4 cb tb v' ([], 0) false ∧ w4.heap.size ≤ cb ∧ Only [] w4 w') := seek_any (bytes_nil w4) (by decide) O4.out.pool.lt
 have NX : Hid (nextP [([97], 2), ([98], 1)] ([], 0) false = some ([97], 2)) := by show _ = _; decide
 clear O1 O2 O3 S1 S2' S3'
 go_upto_region 7 with (go_at_call 15; refine SK.out.mono ?_; rintro e w5 ⟨cb, v5, rfl, hC5, hl5, hO5⟩; have C5 := Lib.hid hC5; have L5 := Lib.hid hl5; have O5 := Lib.hid hO5; clear hC5 hl5 hO5)
 have NE := Lib.hid (TreeL.next (O4.out.pool.past O5.out) (O4.out.tree.past O5.out) C5.out (by decide) (by decide) NX.out)
 go_upto_region 8 with (go_at_call 16; refine NE.out.mono ?_; rintro e w6 ⟨M6, ⟨g1, _⟩ | ⟨x, kv6, rv, g1, rfl, g2, _, _, _, _, _, g8, _⟩⟩; (cases g1); obtain rfl := Option.some.inj g1; have K6 := Lib.hid g2; have O6 := Lib.hid g8; clear g1 g2 g8; obtain ⟨ra, rc, hrv, _⟩ := id K6.out.bytes; dsimp only at hrv; subst hrv)
 have OA : Only [] w6 (w6.alloc (.cells #[.slice ra 1 rc, .int .u64 2] 43)) := (Only.refl _ _).alloc _
 have hcv : (convert 22 9 (.slice ra 1 rc)).run Tryz.prog (w6.alloc (.cells #[.slice ra 1 rc, .int .u64 2] 43)) = .ok (.string ⟨#[97]⟩) (w6.alloc (.cells #[.slice ra 1 rc, .int .u64 2] 43)) := bytes_string (l := [97]) (bytes_past K6.out.bytes OA)
 go_wp2_with fail
 go_ret
 refine ⟨rfl, ((S4'.out.1.trans O5.out (by simp)).trans O6.out (fun y hy => ?_)).trans OA (by simp)⟩
 right
 rcases List.mem_append.1 hy with h | h
 ·rcases S4'.out.2 y h with h1 | h1
  ·simp at h1
  ·exact h1
 ·simp at h
  subst h
  exact Nat.le_trans S4'.out.1.size L5.out
end Go.Proofs.YtiijokopcgnokaaGreat.T
namespace Go.Proofs.YtiijokopcgnokaaGreat.T
open Go Go.RowKit D B C G P H
def addB (E : List Pr) (b : UInt8) : List Pr := if T.has E ([b], 1) then E else insP E ([b], 1)
def setB (l : List UInt8) : List Pr := l.foldl addB []
theorem setB_snoc (l : List UInt8) (b : UInt8) : setB (l ++ [b]) = addB (setB l) b := by simp [setB]
theorem setB_up : ∀ (n : Nat) (l : List UInt8), l.length = n → Up (setB l) ∧ (∀ x, x ∈ setB l ↔ ∃ b ∈ l, x = ([b], 1)) ∧ (setB l).length ≤ l.length
 | 0, l, h => by
  obtain rfl := List.length_eq_zero_iff.1 h
  exact ⟨List.Pairwise.nil, by simp [setB], by simp [setB]⟩
 | n + 1, l, h => by
  obtain ⟨l', b, rfl⟩ : ∃ l' b, l = l' ++ [b] := ⟨l.dropLast, l.getLast (by intro e; subst e; simp at h), (List.dropLast_concat_getLast _).symm⟩
  obtain ⟨h1, h2, h3⟩ := setB_up n l' (by simp at h; exact h)
  rw [setB_snoc]
  unfold addB
  cases hh : T.has (setB l') ([b], 1) with
  | true =>
   refine ⟨h1, fun x => ?_, by simp; omega⟩
   have hm := (has_mem h1).1 hh
   rw [if_pos rfl, h2 x]
   constructor
   ·rintro ⟨c, hc, rfl⟩
    exact ⟨c, by simp [hc], rfl⟩
   ·rintro ⟨c, hc, rfl⟩
    rcases List.mem_append.1 hc with h | h
    ·exact ⟨c, h, rfl⟩
    ·simp at h
     subst h
     exact (h2 _).1 hm
  | false =>
   refine ⟨up_insP h1 hh, fun x => ?_, ?_⟩
   ·rw [if_neg (by simp), mem_insP, h2 x]
    constructor
    ·rintro (rfl | ⟨c, hc, rfl⟩)
     ·exact ⟨b, by simp, rfl⟩
     ·exact ⟨c, by simp [hc], rfl⟩
    ·rintro ⟨c, hc, rfl⟩
     rcases List.mem_append.1 hc with h | h
     ·exact .inr ⟨c, h, rfl⟩
     ·simp at h
      exact .inl (by rw [h])
   ·rw [if_neg (by simp)]
    have := low_le (setB l') ([b], 1)
    unfold insP
    simp only [List.length_append, List.length_cons, List.length_take, List.length_drop, List.length_nil]
    omega
theorem setB_has (l : List UInt8) (b : UInt8) : T.has (setB l) ([b], 1) = decide (b ∈ l) := by
 obtain ⟨h1, h2, _⟩ := setB_up _ l rfl
 cases hh : T.has (setB l) ([b], 1) with
 | true =>
  have := (h2 _).1 ((has_mem h1).1 hh)
  obtain ⟨c, hc, e⟩ := this
  simp at e
  subst e
  exact (decide_eq_true hc).symm
 | false =>
  refine (decide_eq_false fun hb => ?_).symm
  have := (has_mem h1).2 ((h2 _).2 ⟨b, hb, rfl⟩)
  rw [hh] at this; cases this
theorem lenE_ones : ∀ {l : List Pr}, (∀ x ∈ l, x.1.length = 1) → lenE l = l.length
 | [], _ => rfl
 | a :: l, h => by
  have ih := lenE_ones (l := l) fun x hx => h x (by simp [hx])
  have h0 := h a (by simp)
  show a.1.length + lenE l = _
  rw [ih, h0, List.length_cons]; omega
theorem setB_most {l : List UInt8} (h : l.length ≤ 60) : mostP (setB l) ≤ 19 := by
 obtain ⟨_, h2, h3⟩ := setB_up _ l rfl
 have h4 := lenE_ones (l := setB l) fun x hx => by
  obtain ⟨b, _, rfl⟩ := (h2 x).1 hx
  rfl
 unfold mostP
 rw [h4]
 split <;> omega
theorem setB_ins {l : List UInt8} {b : UInt8} (h : l.length < 60) : mostP (insP (setB l) ([b], 1)) ≤ 19 := by
 obtain ⟨_, h2, h3⟩ := setB_up _ l rfl
 have h4 := lenE_ones (l := insP (setB l) ([b], 1)) fun x hx => by
  rcases mem_insP.1 hx with rfl | hx
  ·rfl
  ·obtain ⟨b, _, rfl⟩ := (h2 x).1 hx
   rfl
 have h5 : (insP (setB l) ([b], 1)).length = (setB l).length + 1 := by
  have := low_le (setB l) ([b], 1)
  unfold insP
  simp only [List.length_append, List.length_cons, List.length_take, List.length_drop]
  omega
 unfold mostP
 rw [h4, h5]
 split <;> omega
structure Both (w : World) (p tb ub : Nat) (M : List Nat) (u : List Bool) (pg : Nat → List UInt8) (k : Nat) (la lb : List UInt8) (SA SB : List Nat) : Prop where
 pool : PoolV w p M u pg k
 ta : TreeL w p tb 0 M u pg (setB la) SA
 tb : TreeL w p ub 1 M u pg (setB lb) SB
 dis : ∀ j ∈ SA, j ∉ SB
 cover : ∀ j, u.getD j false = true → j ∈ SA ∨ j ∈ SB
 len : u.length = 300
theorem Both.past {w w' : World} {p tb ub k : Nat} {M : List Nat} {u : List Bool} {pg : Nat → List UInt8} {la lb : List UInt8} {SA SB : List Nat} (h : Both w p tb ub M u pg k la lb SA SB) (hO : Only [] w w') : Both w' p tb ub M u pg k la lb SA SB := ⟨h.pool.past hO, h.ta.past hO, h.tb.past hO, h.dis, h.cover, h.len⟩
theorem Both.more {w : World} {p tb ub k k2 : Nat} {M : List Nat} {u : List Bool} {pg : Nat → List UInt8} {la lb : List UInt8} {SA SB : List Nat} (h : Both w p tb ub M u pg k la lb SA SB) (hk : k ≤ k2) : Both w p tb ub M u pg k2 la lb SA SB := ⟨h.pool.more hk, h.ta, h.tb, h.dis, h.cover, h.len⟩
theorem Both.turn {w : World} {p tb ub k : Nat} {M : List Nat} {u : List Bool} {pg : Nat → List UInt8} {la lb : List UInt8} {SA SB : List Nat} (h : Both w p tb ub M u pg k la lb SA SB) (ha : la.length ≤ 60) (hb : lb.length ≤ 60) : 43 ≤ u.count false := by
 have h1 := free_many (u := u) (L := SA ++ SB) (fun j hj => List.mem_append.2 (h.cover j hj))
 have h2 := h.ta.few
 have h3 := h.tb.few
 have h4 := setB_most ha
 have h5 := setB_most hb
 have h6 := h.len
 rw [List.length_append] at h1
 omega
theorem Both.insA {w : World} {p tb ub k : Nat} {M : List Nat} {u : List Bool} {pg : Nat → List UInt8} {la lb : List UInt8} {SA SB : List Nat} {kv : Value} {b : UInt8} (h : Both w p tb ub M u pg k la lb SA SB) (ha : la.length < 60) (hb : lb.length ≤ 60) (hk : k ≤ 800000) (hv : BytesAt w kv [b]) {c : Int} (hc : (if decide (b ∈ la) then (81 : Int) else 0) = c) :
  Calls Tryz.prog 11 #[.pointer (some ⟨tb, 0, none⟩), kv, .int .u64 1] w fun e w' => ∃ M' u' pg' SA', e = .returned (.int .i64 c) ∧ Both w' p tb ub M' u' pg' (k + 410) (la ++ [b]) lb SA' SB ∧ Step M M' w w' := by
 have hf := h.turn (by omega) hb
 have hE := (setB_up _ la rfl).2.2
 refine (h.ta.insert (m := 19) h.pool hv (by simp) (by decide) (setB_ins ha) (by decide) hf (by omega) (by omega)).mono ?_
 rintro e w' ⟨M', u', pg', S', rfl, hP, hT, hO, hS⟩
 obtain ⟨g1, g2⟩ := h.tb.other hS hO h.dis
 refine ⟨M', u', pg', S', by rw [setB_has, hc], ⟨hP, ?_, g1, g2, fun j hj => ?_, hO.len.trans h.len⟩, hS⟩
 ·rw [setB_snoc]; exact hT
 ·rcases (hO.used j).1 hj with h1 | h1
  ·rcases h.cover j h1.1 with h2 | h2
   ·exact absurd h2 h1.2
   ·exact .inr h2
  ·exact .inl h1
theorem Both.insB {w : World} {p tb ub k : Nat} {M : List Nat} {u : List Bool} {pg : Nat → List UInt8} {la lb : List UInt8} {SA SB : List Nat} {kv : Value} {b : UInt8} (h : Both w p tb ub M u pg k la lb SA SB) (ha : la.length ≤ 60) (hb : lb.length < 60) (hk : k ≤ 800000) (hv : BytesAt w kv [b]) {c : Int} (hc : (if decide (b ∈ lb) then (81 : Int) else 0) = c) :
  Calls Tryz.prog 11 #[.pointer (some ⟨ub, 0, none⟩), kv, .int .u64 1] w fun e w' => ∃ M' u' pg' SB', e = .returned (.int .i64 c) ∧ Both w' p tb ub M' u' pg' (k + 410) la (lb ++ [b]) SA SB' ∧ Step M M' w w' := by
 have hf := h.turn ha (by omega)
 have hE := (setB_up _ lb rfl).2.2
 refine (h.tb.insert (m := 19) h.pool hv (by simp) (by decide) (setB_ins hb) (by decide) hf (by omega) (by omega)).mono ?_
 rintro e w' ⟨M', u', pg', S', rfl, hP, hT, hO, hS⟩
 obtain ⟨g1, g2⟩ := h.ta.other hS hO (fun j hj hm => h.dis j hm hj)
 refine ⟨M', u', pg', S', by rw [setB_has, hc], ⟨hP, g1, ?_, fun j hj hm => g2 j hm hj, fun j hj => ?_, hO.len.trans h.len⟩, hS⟩
 ·rw [setB_snoc]; exact hT
 ·rcases (hO.used j).1 hj with h1 | h1
  ·rcases h.cover j h1.1 with h2 | h2
   ·exact .inl h2
   ·exact absurd h2 h1.2
  ·exact .inr h1
theorem Both.hasA {w : World} {p tb ub k : Nat} {M : List Nat} {u : List Bool} {pg : Nat → List UInt8} {la lb : List UInt8} {SA SB : List Nat} {kv : Value} {b : UInt8} (h : Both w p tb ub M u pg k la lb SA SB) (ha : la.length ≤ 60) (hk : k ≤ 800000) (hv : BytesAt w kv [b]) {d : Bool} (hd : decide (b ∈ la) = d) :
  Calls Tryz.prog 13 #[.pointer (some ⟨tb, 0, none⟩), kv, .int .u64 1] w fun e w' => ∃ M', e = .returned (.tuple #[.bool d, .int .i64 0]) ∧ Both w' p tb ub M' u pg (k + 40) la lb SA SB ∧ Step M M' w w' := by
 have hm := setB_most ha
 refine (h.ta.has h.pool hv (by simp) (by decide) (by omega) (by omega)).mono ?_
 rintro e w' ⟨M', rfl, hP, hT, hS⟩
 exact ⟨M', by rw [setB_has, hd], ⟨hP.more (by omega), hT, h.tb.step hS, h.dis, h.cover, h.len⟩, hS⟩
theorem Both.hasB {w : World} {p tb ub k : Nat} {M : List Nat} {u : List Bool} {pg : Nat → List UInt8} {la lb : List UInt8} {SA SB : List Nat} {kv : Value} {b : UInt8} (h : Both w p tb ub M u pg k la lb SA SB) (hb : lb.length ≤ 60) (hk : k ≤ 800000) (hv : BytesAt w kv [b]) {d : Bool} (hd : decide (b ∈ lb) = d) :
  Calls Tryz.prog 13 #[.pointer (some ⟨ub, 0, none⟩), kv, .int .u64 1] w fun e w' => ∃ M', e = .returned (.tuple #[.bool d, .int .i64 0]) ∧ Both w' p tb ub M' u pg (k + 40) la lb SA SB ∧ Step M M' w w' := by
 have hm := setB_most hb
 refine (h.tb.has h.pool hv (by simp) (by decide) (by omega) (by omega)).mono ?_
 rintro e w' ⟨M', rfl, hP, hT, hS⟩
 exact ⟨M', by rw [setB_has, hd], ⟨hP.more (by omega), h.ta.step hS, hT, h.dis, h.cover, h.len⟩, hS⟩
theorem Both.openA {w : World} {p tb ub k : Nat} {M : List Nat} {u : List Bool} {pg : Nat → List UInt8} {la lb : List UInt8} {SA SB : List Nat} (h : Both w p tb ub M u pg k la lb SA SB) (hk : k ≤ 800000) :
  Calls Tryz.prog 12 #[.pointer (some ⟨p, 0, none⟩), .int .i64 0] w fun e w' => ∃ tb' M', e = .returned (.tuple #[.pointer (some ⟨tb', 0, none⟩), .int .i64 0]) ∧ Both w' p tb' ub M' u pg (k + 2) la lb SA SB ∧ Step M M' w w' := by
 refine (h.ta.open_ h.pool (by omega)).mono ?_
 rintro e w' ⟨tb', M', rfl, _, hP, hT, hS⟩
 exact ⟨tb', M', rfl, ⟨hP, hT, h.tb.step hS, h.dis, h.cover, h.len⟩, hS⟩
theorem Both.openB {w : World} {p tb ub k : Nat} {M : List Nat} {u : List Bool} {pg : Nat → List UInt8} {la lb : List UInt8} {SA SB : List Nat} (h : Both w p tb ub M u pg k la lb SA SB) (hk : k ≤ 800000) :
  Calls Tryz.prog 12 #[.pointer (some ⟨p, 0, none⟩), .int .i64 1] w fun e w' => ∃ ub' M', e = .returned (.tuple #[.pointer (some ⟨ub', 0, none⟩), .int .i64 0]) ∧ Both w' p tb ub' M' u pg (k + 2) la lb SA SB ∧ Step M M' w w' := by
 refine (h.tb.open_ h.pool (by omega)).mono ?_
 rintro e w' ⟨ub', M', rfl, _, hP, hT, hS⟩
 exact ⟨ub', M', rfl, ⟨hP, h.ta.step hS, hT, h.dis, h.cover, h.len⟩, hS⟩
theorem second_any {w : World} {p tb : Nat} {M : List Nat} {pg : Nat → List UInt8} (hP : PoolV w p M (usedT 300) pg 4) (hT : TreeL w p tb 0 M (usedT 300) pg [] [0]) :
  Calls Tryz.prog 9 #[.pointer (some ⟨p, 0, none⟩)] w fun e w' => ∃ ub M' u' pg', e = .returned (.tuple #[.pointer (some ⟨ub, 0, none⟩), .int .i64 0]) ∧ Both w' p tb ub M' u' pg' 8 [] [] [0] [1] ∧ Step M M' w w' := by
 have hff : firstFree (usedT 300) = 1 := by decide
 refine (tnew_any hP (by decide) (by rw [hff, usedT_len]; decide)).mono ?_
 rintro e w' ⟨ub, M', pg', rfl, hR⟩
 rw [hff] at hR
 have hu0 : ∀ j ∈ [0], (usedT 300).getD j false = true := hT.used
 have hop : OpL (usedT 300) ((usedT 300).set 1 true) pg pg' [] [1] := by
  have hg : ∀ j, ((usedT 300).set 1 true).getD j false = true ↔ (usedT 300).getD j false = true ∨ j = 1 := fun j => by
   rw [List.getD_eq_getElem?_getD, List.getElem?_set]
   by_cases hj : 1 = j
   ·subst hj
    rw [if_pos rfl, if_pos (by rw [usedT_len]; decide)]
    simp
   ·rw [if_neg hj, List.getD_eq_getElem?_getD]
    constructor
    ·intro h; exact .inl h
    ·rintro (h | h)
     ·exact h
     ·exact absurd h.symm hj
  refine ⟨by simp, fun j => ?_, fun j hj _ => hR.same j (fun e => ?_), fun j hj => ?_⟩
  ·rw [hg j]
   simp
  ·subst e
   have := usedT_get 300 1 hj
   simp at this
  ·right
   simp at hj
   subst hj
   decide
 obtain ⟨g1, g2⟩ := hT.other hR.step hop (by simp)
 refine ⟨ub, M', _, pg', rfl, ⟨hR.pool, g1, ⟨hR.tree, hR.mine.2, 0, _, hR.pages, entsT_leaf _ _, by rw [nodes_leaf]; decide, by rw [nodes_leaf]; rfl⟩, by simp, fun j hj => ?_, by simp [usedT_len]⟩, hR.step⟩
 rcases (hop.used j).1 hj with h1 | h1
 ·exact .inl (usedT_get 300 j h1.1)
 ·exact .inr h1
def xcells (l : List UInt8) : List Value := (List.range 256).map fun j => .bool (decide (UInt8.ofNat j ∈ l))
theorem xcells_len (l : List UInt8) : (xcells l).length = 256 := by simp [xcells]
theorem xcells_get (l : List UInt8) (b : UInt8) : (xcells l)[b.toNat]? = some (.bool (decide (b ∈ l))) := by
 have hb := b.toNat_lt
 unfold xcells
 rw [List.getElem?_map, List.getElem?_range (by omega)]
 simp
theorem xcells_at (l : List UInt8) (j : Nat) (hj : j < 256) : (xcells l)[j]? = some (.bool (decide (UInt8.ofNat j ∈ l))) := by
 unfold xcells
 rw [List.getElem?_map, List.getElem?_range hj]
 rfl
theorem xcells_snoc (l : List UInt8) (b : UInt8) : (xcells l).set b.toNat (.bool true) = xcells (l ++ [b]) := by
 have hb := b.toNat_lt
 refine List.ext_getElem? fun j => ?_
 rw [List.getElem?_set, xcells_len]
 by_cases hj : b.toNat = j
 ·subst hj
  rw [if_pos rfl, if_pos (by omega), xcells_get]
  simp
 ·rw [if_neg hj]
  rcases Nat.lt_or_ge j 256 with h | h
  ·rw [xcells_at _ _ h, xcells_at _ _ h]
   congr 2
   refine decide_eq_decide.2 ?_
   rw [List.mem_append]
   constructor
   ·exact .inl
   ·rintro (h1 | h1)
    ·exact h1
    ·simp at h1
     exfalso
     refine hj ?_
     rw [← h1]
     simp; omega
  ·rw [List.getElem?_eq_none (by rw [xcells_len]; exact h), List.getElem?_eq_none (by rw [xcells_len]; exact h)]
end Go.Proofs.YtiijokopcgnokaaGreat.T
namespace Go.Proofs.YtiijokopcgnokaaGreat.T
open Go Go.RowKit D B C G P H
structure ApJ (w wr : World) (p tb ub : Nat) (M : List Nat) (u : List Bool) (pg : Nat → List UInt8) (k : Nat) (la lb : List UInt8) (SA SB : List Nat) (X Y : Nat) (lx ly : List UInt8) : Prop where
 both : Both wr p tb ub M u pg k la lb SA SB
 x : Blk wr X (xcells lx) 32
 y : Blk wr Y (xcells ly) 32
 step : Step [] M w wr
 off : X ∉ M ∧ Y ∉ M
 new : w.heap.size ≤ X ∧ w.heap.size ≤ Y ∧ X ≠ Y
section
variable {w wr w' : World} {p tb ub k X Y : Nat} {M M' : List Nat} {u u' : List Bool} {pg pg' : Nat → List UInt8} {la lb la' lb' lx ly : List UInt8} {SA SB SA' SB' : List Nat}
theorem ApJ.past (h : ApJ w wr p tb ub M u pg k la lb SA SB X Y lx ly) (hO : Only [] wr w') : ApJ w w' p tb ub M u pg k la lb SA SB X Y lx ly :=
 ⟨h.both.past hO, hO.blk h.x (by simp), hO.blk h.y (by simp), h.step.then hO, h.off, h.new⟩
theorem ApJ.next {k' tb' ub' : Nat} (h : ApJ w wr p tb ub M u pg k la lb SA SB X Y lx ly) (hB : Both w' p tb' ub' M' u' pg' k' la' lb' SA' SB') (hS : Step M M' wr w') : ApJ w w' p tb' ub' M' u' pg' k' la' lb' SA' SB' X Y lx ly :=
 ⟨hB, hS.1.blk h.x h.off.1, hS.1.blk h.y h.off.2, h.step.trans hS, ⟨P.Step.keep hS h.x.lt h.off.1, P.Step.keep hS h.y.lt h.off.2⟩, h.new⟩
theorem Both.later {Z : Nat} {cs : List Value} (h : Both wr p tb ub M u pg k la lb SA SB) (hO : Only [Z] wr w') (hZ : Blk wr Z cs 32) (hn : Z ∉ M) : Both w' p tb ub M u pg k la lb SA SB := by
 have ht : ∀ {b r : Nat}, TreeAt wr b p r → b ∉ [Z] := fun ht hm => by
  simp at hm
  subst hm
  exact absurd (hZ.inj ht).2 (by decide)
 refine ⟨h.pool.later hO (fun x hx cs hb => ?_) (fun x hx hm => ?_), h.ta.later hO (ht h.ta.at_), h.tb.later hO (ht h.tb.at_), h.dis, h.cover, h.len⟩
 ·simp at hx
  subst hx
  exact absurd (hb.inj hZ).2 (by decide)
 ·simp at hm
  subst hm
  exact hn hx
theorem ApJ.setX (h : ApJ w wr p tb ub M u pg k la lb SA SB X Y lx ly) (b : UInt8) : ApJ w (wr.setCell ⟨X, b.toNat, none⟩ (.bool true)) p tb ub M u pg k la lb SA SB X Y (lx ++ [b]) ly := by
 have hO : Only [X] wr (wr.setCell ⟨X, b.toNat, none⟩ (.bool true)) := only_set _ _ _ _
 refine ⟨h.both.later hO h.x h.off.1, ?_, hO.blk h.y (by simp; exact fun e => h.new.2.2 e.symm), ⟨h.step.1.trans hO (fun y hy => by simp at hy; subst hy; exact .inr h.new.1), h.step.2⟩, h.off, h.new⟩
 rw [← xcells_snoc]
 exact h.x.set _ _
theorem ApJ.setY (h : ApJ w wr p tb ub M u pg k la lb SA SB X Y lx ly) (b : UInt8) : ApJ w (wr.setCell ⟨Y, b.toNat, none⟩ (.bool true)) p tb ub M u pg k la lb SA SB X Y lx (ly ++ [b]) := by
 have hO : Only [Y] wr (wr.setCell ⟨Y, b.toNat, none⟩ (.bool true)) := only_set _ _ _ _
 refine ⟨h.both.later hO h.y h.off.2, hO.blk h.x (by simp; exact h.new.2.2), ?_, ⟨h.step.1.trans hO (fun y hy => by simp at hy; subst hy; exact .inr h.new.2.1), h.step.2⟩, h.off, h.new⟩
 rw [← xcells_snoc]
 exact h.y.set _ _
end
theorem takeU {l : List UInt8} {i : Nat} (h : i < l.length) : l.take (i + 1) = l.take i ++ [l.getD i 0] := by
 rw [List.take_add_one, List.getElem?_eq_getElem h, List.getD_eq_getElem?_getD, List.getElem?_eq_getElem h]; rfl
theorem takeS {l : List UInt8} {i : Nat} (h : ¬ i < l.length) : l.take (i + 1) = l.take i := by
 rw [List.take_of_length_le (by omega), List.take_of_length_le (by omega)]
set_option maxRecDepth 100000 in
set_option maxHeartbeats 4000000 in
theorem apart_law (va : Value) (A : List UInt8) {w : World} (ha : BytesAt w va A) (vb : Value) (B : List UInt8) (hb : BytesAt w vb B) :
  Calls Tryz.prog 3 #[va, vb] w fun e w' => e = .returned (.bool true) ∧ Below w.heap.size w w' := by
 have KN := fun w => Lib.hid (knownT_any w)
 have MD := fun w => Lib.hid (madeT_any w 300 (by omega) (by omega))
 obtain ⟨xa, ca, rfl, hca⟩ := ha
 obtain ⟨xb, cb, rfl, hcb⟩ := hb
 obtain ⟨la, hla⟩ : ∃ n, A.length = n := ⟨_, rfl⟩
 obtain ⟨lb, hlb⟩ : ∃ n, B.length = n := ⟨_, rfl⟩
 rw [hla] at hca
 rw [hlb] at hcb
 rw [hla, hlb]
 have LA := Lib.hid hla
 have LB := Lib.hid hlb
 have CA := Lib.hid hca
 have CB := Lib.hid hcb
 clear hla hlb hca hcb
 have hla0 : (0 : Int) ≤ la := by omega
 by_cases h1 : 60 < la
 ·have h1' : (60 : Int) < la := by omega
  go_enter Tryz.func3, Tryz.ntmps3
  go_wp2_with (go_at_call 7; refine (KN _).out.mono ?_; rintro e w1 ⟨rfl, hO⟩; have O1 := Lib.hid hO; clear hO)
  go_ret
  exact ⟨rfl, O1.out.below (Nat.le_refl _) (by simp)⟩
 by_cases h2 : 60 < lb
 ·have h1' : ¬ (60 : Int) < la := by omega
  have h2' : (60 : Int) < lb := by omega
  go_enter Tryz.func3, Tryz.ntmps3
  go_wp2_with (go_at_call 7; refine (KN _).out.mono ?_; rintro e w1 ⟨rfl, hO⟩; have O1 := Lib.hid hO; clear hO)
  go_ret
  exact ⟨rfl, O1.out.below (Nat.le_refl _) (by simp)⟩
 have h1' : ¬ (60 : Int) < la := by omega
 have h2' : ¬ (60 : Int) < lb := by omega
 go_enter Tryz.func3, Tryz.ntmps3
 go_upto_region 5 with (go_at_call 7; refine (KN _).out.mono ?_; rintro e w1 ⟨rfl, hO⟩; have O1 := Lib.hid hO; clear hO)
 go_upto_region 8 with (go_at_call 8; refine (MD _).out.mono ?_; rintro e w2 ⟨p, tb, M2, pg2, rfl, hP, hT, hl, hS⟩; have P2 := Lib.hid hP; have T2 := Lib.hid hT; have S2 := Lib.hid (Step.ahead O1.out hS); clear hP hT hl hS)
 clear h1' h2'
 have SE := Lib.hid (second_any P2.out T2.out)
 go_upto_region 9 with (go_at_call 9; refine SE.out.mono ?_; rintro e w3 ⟨ub, M3, u3, pg3, rfl, hB, hS⟩; have B3 := Lib.hid hB; have S3 := Lib.hid (S2.out.trans hS); clear hB hS)
 have hr0 := B3.out.ta.at_.cell 1
 have hr1 := B3.out.tb.at_.cell 1
 simp only [List.getElem?_cons_succ, List.getElem?_cons_zero] at hr0 hr1
 have RT0 := Lib.hid (troot_any B3.out.ta.at_)
 have RT1 := Lib.hid (troot_any B3.out.tb.at_)
 go_upto_region 11 with (first
  | (go_at_call 10; refine RT1.out.mono ?_; rintro e w4 ⟨rfl, rfl⟩)
  | (go_at_call 10; refine RT0.out.mono ?_; rintro e w4 ⟨rfl, rfl⟩))
 clear RT0 RT1 hr0 hr1
 go_upto_region 12 with fail
 have ZC : Tryz.zeroCells32 = (xcells []).toArray := by kernel_rfl
 rw [ZC]
 clear ZC
 obtain ⟨w4, hw4⟩ : ∃ w4, ((w3.alloc (.cells (xcells []).toArray 32)).alloc (.cells (xcells []).toArray 32)) = w4 := ⟨_, rfl⟩
 have hj : ApJ w w4 p tb ub M3 u3 pg3 8 [] [] [0] [1] w3.heap.size (w3.heap.size + 1) [] [] := by
  rw [← hw4]
  refine ⟨B3.out.past (((Only.refl _ _).alloc _).alloc _), (Blk.new _ _ w3).alloc _, Blk.new' _ _ _ (by simp), S3.out.then (((Only.refl _ _).alloc _).alloc _), ⟨fun hm => ?_, fun hm => ?_⟩, S3.out.1.size, Nat.le_succ_of_le S3.out.1.size, by omega⟩
  ·exact Nat.lt_irrefl _ (B3.out.pool.lt _ hm)
  ·have := B3.out.pool.lt _ hm; omega
 rw [hw4]
 clear hw4
 obtain ⟨Y, hY⟩ : ∃ Y, w3.heap.size + 1 = Y := ⟨_, rfl⟩
 obtain ⟨X, hX⟩ : ∃ X, w3.heap.size = X := ⟨_, rfl⟩
 rw [hY] at hj
 rw [hY]
 rw [hX] at hj
 rw [hX]
 clear hX hY
 have J4 := Lib.hid hj
 obtain ⟨n, hn⟩ : ∃ n, max la lb = n := ⟨_, rfl⟩
 have hmax : max (la : Int) lb = n := by omega
 have HN := Lib.hid hn
 have HLA := Lib.hid (Nat.le_of_not_lt h1)
 have HLB := Lib.hid (Nat.le_of_not_lt h2)
 clear hj hn h1 h2 B3 S3 SE P2 T2 S2 O1 hla0
 go_wp2_with fail
 go_loopg [8, 11] n (fun gk s8 s11 wr => ∃ (i : Nat) (c8 : Int) (M : List Nat) (u : List Bool) (pg : Nat → List UInt8) (SA SB : List Nat), gk = n - i ∧ i ≤ n ∧ s8 = .int .i64 c8 ∧ s11 = .int .i64 i ∧ ApJ w wr p tb ub M u pg (8 + 820 * i) (A.take i) (B.take i) SA SB X Y (A.take i) (B.take i))
 case atStart => exact ⟨0, 0, M3, u3, pg3, [0], [1], rfl, Nat.zero_le _, rfl, rfl, J4.out⟩
 case round =>
  obtain ⟨i, c8, M, u, pg, SA, SB, hgk, hi, rfl, rfl, hJ⟩ := hrel
  have HGK := Lib.hid hgk
  have J := Lib.hid hJ
  clear hgk hJ J4
  by_cases hlt : i < n
  ·have hlt' : (i : Int) < n := by omega
   go_upto_if 64 with fail
   go_cut [8] from 52 to 110 (fun s8 wx => ∃ (c8 : Int) (M : List Nat) (u : List Bool) (pg : Nat → List UInt8) (SA : List Nat), s8 = .int .i64 c8 ∧ ApJ w wx p tb ub M u pg (8 + 820 * i + 410) (A.take (i + 1)) (B.take i) SA SB X Y (A.take (i + 1)) (B.take i))
   case first =>
    by_cases hia : i < la
    ·have hia' : (i : Int) < la := by omega
     obtain ⟨ag, ao, rfl, hcell⟩ := CA.out (by omega)
     obtain ⟨b, hb⟩ : ∃ b, A.getD i 0 = b := ⟨_, rfl⟩
     have hcw := hcell i hia
     rw [hb] at hcw
     have HC := Lib.hid hcw
     have hc := J.out.step.1.cell hcw (by simp)
     have TK : Hid (A.take (i + 1) = A.take i ++ [b]) := by show _ = _; rw [takeU (by rw [LA.out]; exact hia), hb]
     have AL : Hid ((A.take i).length < 60) := by show _ < _; rw [List.length_take, LA.out]; have := HLA.out; omega
     have BL : Hid ((B.take i).length ≤ 60) := by show _ ≤ _; rw [List.length_take, LB.out]; have := HLB.out; omega
     have IK : Hid (8 + 820 * i ≤ 800000) := by show _ ≤ _; have h1 := HLA.out; have h2 := HLB.out; have h3 := HN.out; omega
     obtain ⟨d, c, hd, hcc, hdc⟩ : ∃ (d : Bool) (c : Int), decide (b ∈ A.take i) = d ∧ (if decide (b ∈ A.take i) then (81 : Int) else 0) = c ∧ ((d = true ∧ c = 81) ∨ (d = false ∧ c = 0)) := by
      refine ⟨_, _, rfl, rfl, ?_⟩
      cases decide (b ∈ A.take i) <;> simp
     have HD := Lib.hid hd
     have HCC := Lib.hid hcc
     have HDC := Lib.hid hdc
     clear hcc hdc
     have hb0 : (0 : Int) ≤ b.toNat := by omega
     have hb1 : (b.toNat : Int) < 256 := by have := b.toNat_lt; omega
     clear hb hd hcell hcw
     go_upto_region 17 with (go_at_call 11; refine (Both.insA (b := b) (J.out.both.past ((Only.refl _ _).alloc _)) AL.out BL.out IK.out (made_bytes (l := [b]) (0, 0) rfl) HCC.out).mono ?_; rintro e w5 ⟨M5, u5, pg5, SA5, rfl, hB5, hS5⟩; have J5 := Lib.hid ((J.out.past ((Only.refl _ _).alloc _)).next hB5 hS5); clear hB5 hS5)
     have hc5 := J5.out.step.1.cell HC.out (by simp)
     have hx5 := (J5.out.x.cell b.toNat).trans (xcells_get (A.take i) b)
     rw [HD.out] at hx5
     have hz5 := J5.out.x.frozen b.toNat
     clear hc
     rcases HDC.out with ⟨rfl, rfl⟩ | ⟨rfl, rfl⟩
     ·go_wp2_with fail
      go_meet
      case rel => exact ⟨81, M5, u5, pg5, SA5, rfl, by rw [TK.out]; exact J5.out.setX b⟩
     ·go_wp2_with fail
      go_meet
      case rel => exact ⟨0, M5, u5, pg5, SA5, rfl, by rw [TK.out]; exact J5.out.setX b⟩
    ·have hia' : ¬ (i : Int) < la := by omega
     have TK : Hid (A.take (i + 1) = A.take i) := takeS (by rw [LA.out]; exact hia)
     go_wp2_with fail
     go_meet
     case rel =>
      refine ⟨c8, M, u, pg, SA, rfl, ?_⟩
      rw [TK.out]
      exact ⟨J.out.both.more (by omega), J.out.x, J.out.y, J.out.step, J.out.off, J.out.new⟩
   case rest =>
    obtain ⟨c9, M5, u5, pg5, SA5, rfl, hj5⟩ := hcut
    have J5 := Lib.hid hj5
    clear hj5 J
    by_cases hib : i < lb
    ·have hib' : (i : Int) < lb := by omega
     obtain ⟨ag, ao, rfl, hcell⟩ := CB.out (by omega)
     obtain ⟨b, hb⟩ : ∃ b, B.getD i 0 = b := ⟨_, rfl⟩
     have hcw := hcell i hib
     rw [hb] at hcw
     have HC := Lib.hid hcw
     have hc := J5.out.step.1.cell hcw (by simp)
     have TK : Hid (B.take (i + 1) = B.take i ++ [b]) := by show _ = _; rw [takeU (by rw [LB.out]; exact hib), hb]
     have AL : Hid ((A.take (i + 1)).length ≤ 60) := by show _ ≤ _; rw [List.length_take, LA.out]; have := HLA.out; omega
     have BL : Hid ((B.take i).length < 60) := by show _ < _; rw [List.length_take, LB.out]; have := HLB.out; omega
     have IK : Hid (8 + 820 * i + 410 ≤ 800000) := by show _ ≤ _; have h1 := HLA.out; have h2 := HLB.out; have h3 := HN.out; omega
     obtain ⟨d, c, hd, hcc, hdc⟩ : ∃ (d : Bool) (c : Int), decide (b ∈ B.take i) = d ∧ (if decide (b ∈ B.take i) then (81 : Int) else 0) = c ∧ ((d = true ∧ c = 81) ∨ (d = false ∧ c = 0)) := by
      refine ⟨_, _, rfl, rfl, ?_⟩
      cases decide (b ∈ B.take i) <;> simp
     have HD := Lib.hid hd
     have HCC := Lib.hid hcc
     have HDC := Lib.hid hdc
     clear hcc hdc
     have hb0 : (0 : Int) ≤ b.toNat := by omega
     have hb1 : (b.toNat : Int) < 256 := by have := b.toNat_lt; omega
     clear hb hd hcell hcw
     go_upto_region 22 with (go_at_call 11; refine (Both.insB (b := b) (J5.out.both.past ((Only.refl _ _).alloc _)) AL.out BL.out IK.out (made_bytes (l := [b]) (0, 0) rfl) HCC.out).mono ?_; rintro e w6 ⟨M6, u6, pg6, SB6, rfl, hB6, hS6⟩; have J6 := Lib.hid ((J5.out.past ((Only.refl _ _).alloc _)).next hB6 hS6); clear hB6 hS6)
     have hc6 := J6.out.step.1.cell HC.out (by simp)
     have hx6 := (J6.out.y.cell b.toNat).trans (xcells_get (B.take i) b)
     rw [HD.out] at hx6
     have hz6 := J6.out.y.frozen b.toNat
     clear hc
     rcases HDC.out with ⟨rfl, rfl⟩ | ⟨rfl, rfl⟩
     ·go_wp2_with fail
      go_roundg (n - (i + 1))
      case measure => have := HGK.out; omega
      case rel => exact ⟨i + 1, 81, M6, u6, pg6, SA5, SB6, rfl, by omega, rfl, by go_num, by rw [TK.out, show 8 + 820 * (i + 1) = 8 + 820 * i + 410 + 410 by omega]; exact J6.out.setY b⟩
     ·go_wp2_with fail
      go_roundg (n - (i + 1))
      case measure => have := HGK.out; omega
      case rel => exact ⟨i + 1, 0, M6, u6, pg6, SA5, SB6, rfl, by omega, rfl, by go_num, by rw [TK.out, show 8 + 820 * (i + 1) = 8 + 820 * i + 410 + 410 by omega]; exact J6.out.setY b⟩
    ·have hib' : ¬ (i : Int) < lb := by omega
     have TK : Hid (B.take (i + 1) = B.take i) := takeS (by rw [LB.out]; exact hib)
     go_wp2_with fail
     go_roundg (n - (i + 1))
     case measure => have := HGK.out; omega
     case rel =>
      refine ⟨i + 1, c9, M5, u5, pg5, SA5, SB, rfl, by omega, rfl, by go_num, ?_⟩
      rw [TK.out, show 8 + 820 * (i + 1) = 8 + 820 * i + 410 + 410 by omega]
      exact ⟨J5.out.both.more (by omega), J5.out.x, J5.out.y, J5.out.step, J5.out.off, J5.out.new⟩
  ·have hin : i = n := by omega
   have hlt' : ¬ (i : Int) < n := by omega
   have hja := J.out
   rw [List.take_of_length_le (by rw [LA.out]; have := HN.out; omega), List.take_of_length_le (by rw [LB.out]; have := HN.out; omega)] at hja
   have JA := Lib.hid hja
   have NB : Hid (i ≤ 60) := by show _ ≤ _; have h1 := HLA.out; have h2 := HLB.out; have h3 := HN.out; omega
   have LA60 : Hid (A.length ≤ 60) := by show _ ≤ _; rw [LA.out]; exact HLA.out
   have LB60 : Hid (B.length ≤ 60) := by show _ ≤ _; rw [LB.out]; exact HLB.out
   have RT0 := Lib.hid (troot_any hja.both.ta.at_)
   have OPA := Lib.hid (hja.both.openA (by have := NB.out; omega))
   clear hja J
   go_upto_region 26 with (first
    | (go_at_call 12; refine OPA.out.mono ?_; rintro e w5 ⟨ta, M5, rfl, hB5, hS5⟩; have J5 := Lib.hid (JA.out.next hB5 hS5); clear hB5 hS5)
    | (go_at_call 10; refine RT0.out.mono ?_; rintro e w9 ⟨rfl, rfl⟩))
   have RT1 := Lib.hid (troot_any J5.out.both.tb.at_)
   have OPB := Lib.hid (J5.out.both.openB (by have := NB.out; omega))
   go_upto_region 29 with (first
    | (go_at_call 12; refine OPB.out.mono ?_; rintro e w6 ⟨tc, M6, rfl, hB6, hS6⟩; have J6 := Lib.hid (J5.out.next hB6 hS6); clear hB6 hS6)
    | (go_at_call 10; refine RT1.out.mono ?_; rintro e w9 ⟨rfl, rfl⟩))
   obtain ⟨k6, hk6⟩ : ∃ k6, 8 + 820 * i + 2 + 2 = k6 := ⟨_, rfl⟩
   rw [hk6] at J6
   have K6 : Hid (k6 ≤ 60000) := by show _ ≤ _; have := NB.out; omega
   clear hk6 hin hlt' RT0 RT1 OPA OPB JA J5 hlt hi
   go_wp2_with fail
   go_loopg [13, 14, 15, 16, 17] 256 (fun gk s13 s14 s15 s16 s17 wr => ∃ (j : Nat) (M : List Nat), gk = 256 - j ∧ j ≤ 256 ∧ s13 = .int .i64 j ∧ ApJ w wr p ta tc M u pg (k6 + 80 * j) A B SA SB X Y A B)
   case atStart => exact ⟨0, M6, rfl, Nat.zero_le _, rfl, J6.out⟩
   case round =>
    obtain ⟨j, M, hgk, hj, rfl, hJ⟩ := hrel
    have HGK2 := Lib.hid hgk
    have J := Lib.hid hJ
    clear hgk hJ J6
    by_cases hlt : j < 256
    ·obtain ⟨b, rfl⟩ : ∃ b : UInt8, b.toNat = j := ⟨UInt8.ofNat j, by simp; omega⟩
     have hlt' : (b.toNat : Int) < 256 := by omega
     have hb0 : (0 : Int) ≤ b.toNat := by omega
     have hwr : IntKind.u8.wrap (b.toNat : Int) = b.toNat := by simp [IntKind.wrap, IntKind.signed, IntKind.bits]; omega
     obtain ⟨d1, hd1⟩ : ∃ d, decide (b ∈ A) = d := ⟨_, rfl⟩
     obtain ⟨d2, hd2⟩ : ∃ d, decide (b ∈ B) = d := ⟨_, rfl⟩
     have HD1 := Lib.hid hd1
     have HD2 := Lib.hid hd2
     have KB : Hid (k6 + 80 * b.toNat ≤ 700000) := by show _ ≤ _; have := K6.out; omega
     clear hd1 hd2
     go_upto_region 33 with (go_at_call 13; refine (Both.hasA (b := b) (J.out.both.past ((Only.refl _ _).alloc _)) LA60.out (by have := KB.out; omega) (made_bytes (l := [b]) (0, 0) rfl) HD1.out).mono ?_; rintro e w7 ⟨M7, rfl, hB7, hS7⟩; have J7 := Lib.hid ((J.out.past ((Only.refl _ _).alloc _)).next hB7 hS7); clear hB7 hS7)
     go_upto_region 34 with (go_at_call 13; refine (Both.hasB (b := b) (J7.out.both.past ((Only.refl _ _).alloc _)) LB60.out (by have := KB.out; omega) (made_bytes (l := [b]) (0, 0) rfl) HD2.out).mono ?_; rintro e w8 ⟨M8, rfl, hB8, hS8⟩; have J8 := Lib.hid ((J7.out.past ((Only.refl _ _).alloc _)).next hB8 hS8); clear hB8 hS8)
     have hx8 := (J8.out.x.cell b.toNat).trans (xcells_get A b)
     have hy8 := (J8.out.y.cell b.toNat).trans (xcells_get B b)
     rw [HD1.out] at hx8
     rw [HD2.out] at hy8
     cases d1 <;> cases d2 <;> (
      go_wp2_with fail
      go_roundg (256 - (b.toNat + 1))
      case measure => have := HGK2.out; omega
      case rel =>
       exact ⟨b.toNat + 1, M8, rfl, by omega, by go_num, by rw [show k6 + 80 * (b.toNat + 1) = k6 + 80 * b.toNat + 40 + 40 by omega]; exact J8.out⟩)
    ·have hlt' : ¬ (j : Int) < 256 := by omega
     go_wp2_with fail
     go_ret
     exact ⟨rfl, J.out.step.1.below (Nat.le_refl _) (by simp)⟩
end Go.Proofs.YtiijokopcgnokaaGreat.T
