import Derived.Test.YtfkmjbpnjgnkbaaGreatMHpF
import Derived.Test.YtfkmjbpnjgnkbaaGreatMPageJ
import Derived.Test.YtfkmjbpnjgnkbaaGreatMPoolV
import Derived.Test.YtfkmjbpnjgnkbaaGreatMQuietL
/-
  The program's heap: head, stamps, rid, place, fresh, lays: by contracts.
-/
namespace Go.Proofs.YtfkmjbpnjgnkbaaGreat.H
set_option linter.unusedSimpArgs false
open Go Go.RowKit Go.Proofs.YtfkmjbpnjgnkbaaGreat.D Go.Proofs.YtfkmjbpnjgnkbaaGreat.B Go.Proofs.YtfkmjbpnjgnkbaaGreat.C Go.Proofs.YtfkmjbpnjgnkbaaGreat.G Go.Proofs.YtfkmjbpnjgnkbaaGreat.P
set_option linter.unusedVariables false
/-- The heap at root lies at block hb, over the pool at block p. -/
def HpAt (w : World) (hb p root : Nat) : Prop := Blk w hb [.pointer (some ⟨p, 0, none⟩), .int .i64 root] 77
theorem HpAt.past {w w' : World} {hb p root : Nat} (h : HpAt w hb p root) (hO : Only [] w w') : HpAt w' hb p root := hO.blk h (by simp)
theorem nilRow (w : World) : ByteRow 5 w (.slice none 0 0) [] := ⟨rfl, .inl ⟨rfl, rfl⟩⟩
theorem wrap_u64 (n : Nat) (h : n < W64) : IntKind.u64.wrap (n : Int) = n := by
  unfold W64 at h
  simp [IntKind.wrap, IntKind.signed, IntKind.bits]; omega
theorem own_grew {w w' : World} {v : Value} {n : Nat} {l : List UInt8} (h : Grew w w' 5 1 (.slice none 0 0) v n (u8s l)) : B.Own w w' v l :=
  ⟨h.row, fun k hk => by
    rcases h.lies k hk with h1 | h1
    · simp [Value.ownBlock] at h1
    · exact h1, h.only⟩
set_option maxRecDepth 100000 in
theorem head_any {w : World} {hb p root : Nat} (h : HpAt w hb p root) (hr : root < 65536) (next : Nat) (hn : next < 65536) :
    Calls Tryz.prog 36 #[.pointer (some ⟨hb, 0, none⟩), .int .i64 next] w fun e w' => ∃ v', e = .returned v' ∧ B.Own w w' v' (headC root next) := by
  have HB : Hid (headC root next = [] ++ le root 4 ++ le next 4) := rfl
  have c1 := h.cell 1
  simp only [List.getElem?_cons_succ, List.getElem?_cons_zero] at c1
  have e1 := Lib.hid (wrap_u64 root (by unfold W64; omega))
  have e2 := Lib.hid (wrap_u64 next (by unfold W64; omega))
  clear h
  go_enter Tryz.func36, Tryz.ntmps36
  go_wp2_with fail
  refine (little_n (m := 0) (nilRow w) rfl root (by omega) 4 (by omega) (by omega) (m' := 4) rfl).mono ?_
  rintro e w1 ⟨a1, k1, rfl, hg1, hl1⟩
  have G1 := Lib.hid hg1
  have E1 := Lib.hid hl1
  clear hg1 hl1
  generalize [] ++ le root 4 = L1 at *
  go_wp2_with fail
  refine (little_n G1.out.row E1.out next (by omega) 4 (by omega) (by omega) (m' := 8) rfl).mono ?_
  rintro e w2 ⟨a2, k2, rfl, hg2, hl2⟩
  have G2 := Lib.hid (G1.out.trans hg2)
  clear hg2 hl2
  go_wp2_with fail
  go_ret
  exact ⟨_, rfl, by rw [HB.out]; exact own_grew G2.out⟩
set_option maxRecDepth 100000 in
theorem stamps_any (w : World) (a b c : Nat) (ha : a < W64) (hb : b < W64) (hc : c < W64) :
    Calls Tryz.prog 45 #[.int .u64 a, .int .u64 b, .int .u64 c] w fun e w' => ∃ v', e = .returned v' ∧ B.Own w w' v' (stampC a b c) := by
  have HB : Hid (stampC a b c = [] ++ le a 8 ++ le b 8 ++ le c 8) := rfl
  unfold W64 at ha hb hc
  have HA := Lib.hid ha
  have HBB := Lib.hid hb
  have HC := Lib.hid hc
  clear ha hb hc
  go_enter Tryz.func45, Tryz.ntmps45
  go_wp2_with fail
  refine (little_n (m := 0) (nilRow w) rfl a HA.out 8 (by omega) (by omega) (m' := 8) rfl).mono ?_
  rintro e w1 ⟨a1, k1, rfl, hg1, hl1⟩
  have G1 := Lib.hid hg1
  have E1 := Lib.hid hl1
  clear hg1 hl1
  generalize [] ++ le a 8 = L1 at *
  go_wp2_with fail
  refine (little_n G1.out.row E1.out b HBB.out 8 (by omega) (by omega) (m' := 16) rfl).mono ?_
  rintro e w2 ⟨a2, k2, rfl, hg2, hl2⟩
  have G2 := Lib.hid (G1.out.trans hg2)
  have E2 := Lib.hid hl2
  clear hg2 hl2
  generalize L1 ++ le b 8 = L2 at *
  go_wp2_with fail
  refine (little_n G2.out.row E2.out c HC.out 8 (by omega) (by omega) (m' := 24) rfl).mono ?_
  rintro e w3 ⟨a3, k3, rfl, hg3, hl3⟩
  have G3 := Lib.hid (G2.out.trans hg3)
  clear hg3 hl3
  go_wp2_with fail
  go_ret
  exact ⟨_, rfl, by rw [HB.out]; exact own_grew G3.out⟩
theorem rid_any (w : World) (id slot : Nat) (h1 : id < 65536) (h2 : slot < 128) : Calls Tryz.prog 31 #[.int .i64 id, .int .i64 slot] w fun e w' => e = .returned (.int .u64 (id * 128 + slot : Nat)) ∧ w = w' := by
  go_enter Tryz.func31, Tryz.ntmps31
  go_wp2_with fail
  go_ret
  exact ⟨by go_num, rfl⟩
theorem place_any (w : World) (r : Nat) (h : r < W64) : Calls Tryz.prog 66 #[.int .u64 r] w fun e w' => e = .returned (.tuple #[.int .i64 (r / 128 : Nat), .int .i64 (r % 128 : Nat)]) ∧ w = w' := by
  unfold W64 at h
  go_enter Tryz.func66, Tryz.ntmps66
  go_wp2_with fail
  go_ret2
  exact ⟨by go_num, rfl⟩
set_option maxRecDepth 100000 in
theorem fresh_any {w : World} {hb p root : Nat} (h : HpAt w hb p root) (hr : root < 65536) :
    Calls Tryz.prog 34 #[.pointer (some ⟨hb, 0, none⟩)] w fun e w' => ∃ gb c, e = .returned (.slice (some ⟨gb, 0, none⟩) 512 c) ∧ Buf w' gb c (freshP root) ∧ w.heap.size ≤ gb ∧ Only [] w w' := by
  have HH := Lib.hid h
  obtain ⟨he, _⟩ := fresh_page root
  have f0 := (new_fresh 49).free.1
  have NW : Hid (Calls Tryz.prog 55 #[.int .u8 49] w fun e w' => ∃ gb c, e = .returned (.slice (some ⟨gb, 0, none⟩) 512 c) ∧ Buf w' gb c (newP 49) ∧ w.heap.size ≤ gb ∧ Only [] w w') := new_any 49
  have INS : Hid (∀ w1 v vb, BytesC w1 v (newP 49) → BytesAt w1 vb (headC root 0) → Calls Tryz.prog 51 #[v, vb] w1 fun e w' => ∃ gb c, e = .returned (.tuple #[.slice (some ⟨gb, 0, none⟩) 512 c, .int .i64 0, .int .i64 0]) ∧ Buf w' gb c (freshP root) ∧ w1.heap.size ≤ gb ∧ Only [] w1 w') := fun w1 v vb h1 h2 => by
    have := insert_yes h1 h2 he
    rw [f0] at this
    exact this
  generalize freshP root = F at *
  generalize newP 49 = P0 at *
  have HD : Hid (∀ w1, HpAt w1 hb p root → Calls Tryz.prog 36 #[.pointer (some ⟨hb, 0, none⟩), .int .i64 0] w1 fun e w' => ∃ v', e = .returned v' ∧ B.Own w1 w' v' (headC root 0)) := fun w1 h1 => head_any h1 hr 0 (by omega)
  generalize headC root 0 = H0 at *
  clear h he f0
  go_enter Tryz.func34, Tryz.ntmps34
  go_wp2_with (first
    | (go_at_call 55; refine NW.out.mono ?_; rintro e w1 ⟨gb, c, rfl, hb1, hg1, hO1⟩; have B1 := Lib.hid hb1; have O1 := Lib.hid hO1; clear hb1 hg1 hO1)
    | (go_at_call 36; refine (HD.out _ (HH.out.past O1.out)).mono ?_; rintro e w2 ⟨v2, rfl, hr2, hk2, hO2⟩; have R2 := Lib.hid hr2; have B2 := Lib.hid (B1.out.past hO2); have O2 := Lib.hid (O1.out.trans hO2 (by simp)); clear hr2 hk2 hO2)
    | (go_at_call 51; refine (INS.out _ _ _ B2.out.c R2.out.at).mono ?_; rintro e w3 ⟨gb3, c3, rfl, hb3, hg3, hO3⟩; have B3 := Lib.hid hb3; have G3 := Lib.hid (Nat.le_trans O2.out.size hg3); have O3 := Lib.hid (O2.out.trans hO3 (by simp)); clear hb3 hg3 hO3))
  go_ret
  exact ⟨gb3, c3, rfl, B3.out, G3.out, O3.out⟩
/-- What lays tells. -/
def LaysRes (w : World) (p row : List UInt8) (xmin : Nat) (e : Ending) (w' : World) : Prop :=
  (∃ q gb c, laysB p row xmin = some q ∧ e = .returned (.tuple #[.slice (some ⟨gb, 0, none⟩) 512 c, .int .i64 (freeS p : Nat), .bool true]) ∧ Buf w' gb c q ∧ w.heap.size ≤ gb ∧ Only [] w w') ∨
  (laysB p row xmin = none ∧ ∃ s : Nat, e = .returned (.tuple #[.slice none 0 0, .int .i64 s, .bool false]) ∧ Only [] w w')
set_option maxRecDepth 100000 in
set_option maxHeartbeats 1000000 in
theorem lays_any {w : World} {v vb : Value} {p row : List UInt8} {xmin : Nat} (h : BytesC w v p) (hv : BytesAt w vb row) (hx : xmin < W64) :
    Calls Tryz.prog 30 #[v, vb, .int .u64 xmin] w (LaysRes w p row xmin) := by
  have HB := Lib.hid h
  have HV := Lib.hid hv
  have ST := Lib.hid (fun w1 => stamps_any w1 xmin 0 0 hx (by decide) (by decide))
  unfold LaysRes
  have LE : Hid (∀ q, laysB p row xmin = q → (q = if insE p (stampC xmin 0 0) = 0 ∧ insE (insP p (stampC xmin 0 0)) row = 0 then some (insP (insP p (stampC xmin 0 0)) row) else none)) := fun q hq => by rw [← hq]; unfold laysB; rfl
  have Y : Hid (∀ w1 v vb p b, BytesC w1 v p → BytesAt w1 vb b → insE p b = 0 → Calls Tryz.prog 51 #[v, vb] w1 fun e w' => ∃ gb c, e = .returned (.tuple #[.slice (some ⟨gb, 0, none⟩) 512 c, .int .i64 (freeS p : Nat), .int .i64 0]) ∧ Buf w' gb c (insP p b) ∧ w1.heap.size ≤ gb ∧ Only [] w1 w') := fun w1 v vb p b h1 h2 h3 => insert_yes h1 h2 h3
  have N : Hid (∀ w1 v vb p b z, BytesC w1 v p → BytesAt w1 vb b → insE p b = z → z ≠ 0 → Calls Tryz.prog 51 #[v, vb] w1 fun e w' => e = .returned (.tuple #[.slice none 0 0, .int .i64 0, .int .i64 z]) ∧ Only [] w1 w') := fun w1 v vb p b z h1 h2 h3 h4 => insert_no h1 h2 h3 h4
  generalize stampC xmin 0 0 = s at *
  generalize hq : laysB p row xmin = qq at *
  have LQ := Lib.hid (LE.out qq rfl)
  clear h hv LE hq
  by_cases h1 : insE p s = 0
  · by_cases h2 : insE (insP p s) row = 0
    · have LQ1 : Hid (qq = some (insP (insP p s) row)) := by show _ = _; rw [LQ.out, if_pos ⟨h1, h2⟩]
      have H1 := Lib.hid h1
      have H2 := Lib.hid h2
      clear LQ h1 h2
      go_enter Tryz.func30, Tryz.ntmps30
      go_wp2_with (go_at_call 45; refine (ST.out _).mono ?_; rintro e w1 ⟨v1, rfl, hr1, hk1, hO1⟩; have R1 := Lib.hid hr1; have O1 := Lib.hid hO1; clear hr1 hk1 hO1)
      refine (Y.out _ _ _ _ _ (HB.out.past O1.out) R1.out.at H1.out).mono ?_
      rintro e w2 ⟨g2, c2, rfl, hb2, hg2, hO2⟩
      have B2 := Lib.hid hb2
      have O2 := Lib.hid (O1.out.trans hO2 (by simp))
      clear hb2 hg2 hO2
      go_wp2_with fail
      refine (Y.out _ _ _ _ _ B2.out.c (bytes_past HV.out O2.out) H2.out).mono ?_
      rintro e w3 ⟨g3, c3, rfl, hb3, hg3, hO3⟩
      have B3 := Lib.hid hb3
      have G3 := Lib.hid (Nat.le_trans O2.out.size hg3)
      have O3 := Lib.hid (O2.out.trans hO3 (by simp))
      clear hb3 hg3 hO3
      go_wp2_with fail
      go_ret3
      exact .inl ⟨_, g3, c3, LQ1.out, rfl, B3.out, G3.out, O3.out⟩
    · have LQ1 : Hid (qq = none) := by show _ = _; rw [LQ.out, if_neg (fun h => h2 h.2)]
      obtain ⟨z, hz⟩ : ∃ z, insE (insP p s) row = z := ⟨_, rfl⟩
      have hz0 : z ≠ 0 := fun e => h2 (by rw [hz, e])
      have hzB : ((z : Int) == 0) = false := beq_eq_false_iff_ne.2 (by omega)
      have hzI : ¬ (z : Int) = 0 := by omega
      have H1 := Lib.hid h1
      have H2 := Lib.hid hz
      have H0 := Lib.hid hz0
      clear LQ h1 h2 hz hz0
      go_enter Tryz.func30, Tryz.ntmps30
      go_wp2_with (go_at_call 45; refine (ST.out _).mono ?_; rintro e w1 ⟨v1, rfl, hr1, hk1, hO1⟩; have R1 := Lib.hid hr1; have O1 := Lib.hid hO1; clear hr1 hk1 hO1)
      refine (Y.out _ _ _ _ _ (HB.out.past O1.out) R1.out.at H1.out).mono ?_
      rintro e w2 ⟨g2, c2, rfl, hb2, hg2, hO2⟩
      have B2 := Lib.hid hb2
      have O2 := Lib.hid (O1.out.trans hO2 (by simp))
      clear hb2 hg2 hO2
      go_wp2_with fail
      refine (N.out _ _ _ _ _ _ B2.out.c (bytes_past HV.out O2.out) H2.out H0.out).mono ?_
      rintro e w3 ⟨rfl, hO3⟩
      have O3 := Lib.hid (O2.out.trans hO3 (by simp))
      clear hO3
      go_wp2_with fail
      go_ret3
      exact .inr ⟨LQ1.out, _, rfl, O3.out⟩
  · have LQ1 : Hid (qq = none) := by show _ = _; rw [LQ.out, if_neg (fun h => h1 h.1)]
    obtain ⟨z, hz⟩ : ∃ z, insE p s = z := ⟨_, rfl⟩
    have hz0 : z ≠ 0 := fun e => h1 (by rw [hz, e])
    have hzB : ((z : Int) == 0) = false := beq_eq_false_iff_ne.2 (by omega)
    have hzI : ¬ (z : Int) = 0 := by omega
    have H2 := Lib.hid hz
    have H0 := Lib.hid hz0
    clear LQ h1 hz hz0
    go_enter Tryz.func30, Tryz.ntmps30
    go_wp2_with (go_at_call 45; refine (ST.out _).mono ?_; rintro e w1 ⟨v1, rfl, hr1, hk1, hO1⟩; have R1 := Lib.hid hr1; have O1 := Lib.hid hO1; clear hr1 hk1 hO1)
    refine (N.out _ _ _ _ _ _ (HB.out.past O1.out) R1.out.at H2.out H0.out).mono ?_
    rintro e w2 ⟨rfl, hO2⟩
    have O2 := Lib.hid (O1.out.trans hO2 (by simp))
    clear hO2
    go_wp2_with fail
    go_ret3
    exact .inr ⟨LQ1.out, 0, rfl, O2.out⟩
end Go.Proofs.YtfkmjbpnjgnkbaaGreat.H

/-
  The program's heap: a page of it: by contracts.
-/
namespace Go.Proofs.YtfkmjbpnjgnkbaaGreat.H
set_option linter.unusedSimpArgs false
open Go Go.RowKit Go.Proofs.YtfkmjbpnjgnkbaaGreat.D Go.Proofs.YtfkmjbpnjgnkbaaGreat.B Go.Proofs.YtfkmjbpnjgnkbaaGreat.C Go.Proofs.YtfkmjbpnjgnkbaaGreat.G Go.Proofs.YtfkmjbpnjgnkbaaGreat.P
set_option linter.unusedVariables false
theorem told_buf {w w' : World} {M : List Nat} {v : Value} {b : List UInt8} (h : P.Told w w' M v b) (hl : b.length = 512) : ∃ gb c, v = .slice (some ⟨gb, 0, none⟩) 512 c ∧ Buf w' gb c b ∧ w.heap.size ≤ gb ∧ gb ∉ M := by
  have h1 := h.1
  unfold ByteRow at h1
  obtain ⟨gb, c, rfl, hc⟩ := owns_some h1 (by omega)
  rw [hl] at h1 ⊢
  obtain ⟨h2, h3⟩ := h.2 gb rfl
  exact ⟨gb, c, rfl, ⟨hl, h1⟩, h2, h3⟩
/-- What Get tells of a page that is used. -/
def GotP (w : World) (p : Nat) (M : List Nat) (u : List Bool) (pg : Nat → List UInt8) (k id : Nat) (gb c : Nat) (M' : List Nat) (w' : World) : Prop :=
  Buf w' gb c (pg id) ∧ w.heap.size ≤ gb ∧ gb ∉ M' ∧ PoolV w' p M' u pg (k + 2) ∧ Step M M' w w'
theorem pool_get {w : World} {p k : Nat} {M : List Nat} {u : List Bool} {pg : Nat → List UInt8} (h : PoolV w p M u pg k) (hk : k ≤ 1000000) {id : Nat} (hi : u.getD id false = true) :
    Calls Tryz.prog 73 #[.pointer (some ⟨p, 0, none⟩), .int .i64 id] w fun e w' => ∃ gb c M', e = .returned (.tuple #[.slice (some ⟨gb, 0, none⟩) 512 c, .int .i64 0]) ∧ GotP w p M u pg k id gb c M' w' := by
  refine (h.get hk hi).mono ?_
  rintro e w' ⟨v, M', rfl, ht, hP, hS⟩
  obtain ⟨gb, c, rfl, hb, hg, hn⟩ := told_buf ht (h.len hi)
  exact ⟨gb, c, M', rfl, hb, hg, hn, hP, hS⟩
/-- A cell as Get tells it. -/
theorem page_cell {w : World} {v : Value} {p hd : List UInt8} {j : Nat} (h : BytesC w v p) (hp : Pg p) (hc : ct p j = some hd) :
    Calls Tryz.prog 43 #[v, .int .i64 j] w fun e w' => ∃ g c, e = .returned (.tuple #[.slice (some ⟨g, 0, none⟩) hd.length c, .int .i64 0]) ∧ ByteRow 5 w' (.slice (some ⟨g, 0, none⟩) hd.length c) hd ∧ hd.length ≤ c ∧ w.heap.size ≤ g ∧ Only [] w w' := by
  obtain ⟨h1, h2⟩ := ct_isSome hc
  refine (get_yes h hp h1 h2).mono ?_
  rintro e w' ⟨v', rfl, ho⟩
  rw [ct_cut hc] at ho
  obtain ⟨hr, hn, hO⟩ := ho
  have hpos : 0 < hd.length := by
    have := (ct_long hp.body.core hc).2.2.1
    have := (hp.body.core.goodAt h1).2.1 h2
    omega
  have hr1 := hr
  unfold ByteRow at hr1
  obtain ⟨g, c, rfl, hcap⟩ := owns_some hr1 hpos
  exact ⟨g, c, rfl, hr, hcap, hn g rfl, hO⟩
theorem row_part {w : World} {g c n : Nat} {l : List UInt8} (h : ByteRow 5 w (.slice (some ⟨g, 0, none⟩) n c) l) (a m : Nat) (hm : a + m ≤ l.length) : ∀ j, j < ((l.drop a).take m).length → w.cell? ⟨g, a + j, none⟩ = some (.int .u8 (((l.drop a).take m).getD j 0).toNat) := by
  intro j hj
  rw [List.length_take, List.length_drop] at hj
  obtain ⟨ao, cap, hv, hc⟩ := h.at
  obtain ⟨b, o, hao, hcell⟩ := hc (by omega)
  simp only [Value.slice.injEq] at hv
  obtain ⟨rfl, _, _⟩ := hv
  simp only [Option.some.injEq, Addr.mk.injEq] at hao
  obtain ⟨rfl, rfl, _⟩ := hao
  have := hcell (a + j) (by omega)
  rw [Nat.zero_add] at this
  rw [this]
  simp only [List.getD_eq_getElem?_getD, List.getElem?_take, List.getElem?_drop]
  rw [if_pos (by omega)]
set_option maxRecDepth 100000 in
theorem page_none {w : World} {hb p root k : Nat} {M : List Nat} {u : List Bool} {pg : Nat → List UInt8} (hP : PoolV w p M u pg k) (hH : HpAt w hb p root) (i : Int) (hi : i < 0 ∨ u.getD i.toNat false = false) :
    Calls Tryz.prog 48 #[.pointer (some ⟨hb, 0, none⟩), .int .i64 i] w fun e w' => e = .returned (.tuple #[.slice none 0 0, .int .i64 0, .int .i64 51]) ∧ w = w' := by
  have c0 := hH.cell 0
  simp only [List.getElem?_cons_zero] at c0
  have GN := Lib.hid (hP.get_no i hi)
  clear hP hH hi
  go_enter Tryz.func48, Tryz.ntmps48
  go_wp2_with (go_at_call 73; refine GN.out.mono ?_; rintro e w1 ⟨rfl, rfl⟩)
  go_ret3
  exact ⟨rfl, rfl⟩
set_option maxRecDepth 100000 in
set_option maxHeartbeats 1000000 in
theorem page_yes {w : World} {hb p root k : Nat} {M : List Nat} {u : List Bool} {pg : Nat → List UInt8} (hP : PoolV w p M u pg k) (hk : k ≤ 1000000) (hH : HpAt w hb p root) (hM : hb ∉ M) (hr : root < 65536) {id n : Nat} (hi : u.getD id false = true) (hn : headOf root (pg id) = some n) :
    Calls Tryz.prog 48 #[.pointer (some ⟨hb, 0, none⟩), .int .i64 id] w fun e w' => ∃ gb c M', e = .returned (.tuple #[.slice (some ⟨gb, 0, none⟩) 512 c, .int .i64 n, .int .i64 0]) ∧ GotP w p M u pg k id gb c M' w' := by
  have c0 := hH.cell 0
  simp only [List.getElem?_cons_zero] at c0
  have HH := Lib.hid hH
  have GV := Lib.hid (pool_get hP hk hi)
  obtain ⟨hd, h1, h2, h3, h4, h5, h6⟩ := headOf_some hn
  have hn32 : n < 4294967296 := by
    have := unle_lt (hd.drop 4)
    rw [List.length_drop, h4, h6] at this
    exact this
  have PC : Hid (∀ w1 v, BytesC w1 v (pg id) → Calls Tryz.prog 43 #[v, .int .i64 0] w1 fun e w' => ∃ g c, e = .returned (.tuple #[.slice (some ⟨g, 0, none⟩) 8 c, .int .i64 0]) ∧ ByteRow 5 w' (.slice (some ⟨g, 0, none⟩) 8 c) hd ∧ 8 ≤ c ∧ w1.heap.size ≤ g ∧ Only [] w1 w') := fun w1 v hb => by
    have := page_cell hb h2 h1
    rw [h4] at this
    exact this
  have KD : Hid (∀ w1 v, BytesC w1 v (pg id) → Calls Tryz.prog 74 #[v] w1 fun e w' => e = .returned (.int .u8 49) ∧ Only [] w1 w') := fun w1 v hb => by
    have := kind_any hb
    rw [show kindE (pg id) = 49 by unfold kindE; rw [if_pos (ok_iff.2 h2), h3]] at this
    exact this
  have U1 : Hid (∀ w1 g c, ByteRow 5 w1 (.slice (some ⟨g, 0, none⟩) 8 c) hd → Calls Tryz.prog 46 #[.slice (some ⟨g, 0, none⟩) 4 c] w1 fun e w' => e = .returned (.int .u64 root) ∧ w1 = w') := fun w1 g c hb => by
    have := unlittle_any (w := w1) g 0 c ((hd.drop 0).take 4) (by simp; omega) (row_part hb 0 4 (by omega))
    rw [List.drop_zero, h5, List.length_take, h4] at this
    exact this
  have U2 : Hid (∀ w1 g c, ByteRow 5 w1 (.slice (some ⟨g, 0, none⟩) 8 c) hd → Calls Tryz.prog 46 #[.slice (some ⟨g, 4, none⟩) 4 (c - 4)] w1 fun e w' => e = .returned (.int .u64 n) ∧ w1 = w') := fun w1 g c hb => by
    have := unlittle_any (w := w1) g 4 (c - 4) ((hd.drop 4).take 4) (by simp; omega) (row_part hb 4 4 (by omega))
    rw [List.take_of_length_le (by rw [List.length_drop]; omega), h6, List.length_drop, h4] at this
    exact this
  have e1 := Lib.hid (wrap_u64 root (by unfold W64; omega))
  have HN := Lib.hid hn32
  have HMM := Lib.hid hM
  clear hP hH hn h1 h2 h3 h4 h5 h6 hM
  go_enter Tryz.func48, Tryz.ntmps48
  go_wp2_with (first
    | (go_at_call 73; refine GV.out.mono ?_; rintro e w1 ⟨gb, c, M1, rfl, hg⟩; have G1 := Lib.hid hg; clear hg)
    | (go_at_call 43; refine (PC.out _ _ G1.out.1.c).mono ?_; rintro e w2 ⟨g2, c2, rfl, hr2, hc2, hg2, hO2⟩; have R2 := Lib.hid hr2; have C2 := Lib.hid hc2; have O2 := Lib.hid hO2; have a5 : ¬ c2 = 4 := (by omega); have a6 : 4 < c2 := (by omega); have a7 : 4 ≤ c2 := (by omega); have a8 : (4 : Int) ≤ c2 := (by omega); have a9 : (8 : Int) ≤ c2 := (by omega); clear hr2 hc2 hg2 hO2))
  obtain ⟨hb1, hgb, hgn, hP1, hS1⟩ := G1.out
  have H1 : HpAt w1 hb p root := hS1.1.blk HH.out HMM.out
  have H2 : HpAt w2 hb p root := H1.past O2.out
  have d1 := H2.cell 1
  simp only [List.getElem?_cons_succ, List.getElem?_cons_zero] at d1
  have HC1 := Later.cell d1
  have B2 := Lib.hid (hb1.past O2.out)
  have KL : Hid (∀ x : Later w2, Calls Tryz.prog 74 #[.slice (some ⟨gb, 0, none⟩) 512 c] x.v fun e w' => e = .returned (.int .u8 49) ∧ ∃ y : Later w2, w' = y.v) := fun x => Calls.later (fun w1 hO => KD.out w1 _ (B2.out.past hO).c) x
  have UL : Hid (∀ x : Later w2, Calls Tryz.prog 46 #[.slice (some ⟨g2, 0, none⟩) 4 c2] x.v fun e w' => e = .returned (.int .u64 root) ∧ ∃ y : Later w2, w' = y.v) := fun x => Calls.later (fun w1 hO => (U1.out w1 _ _ (owns_later R2.out hO (by simp))).mono fun e w' ⟨h1, h2⟩ => ⟨h1, h2 ▸ Only.refl _ _⟩) x
  have e1' := e1.out
  clear d1 H1 H2 hb1 hP1 hS1 KD U1
  refine wp_region_later (Only.refl _ _) (by kernel_rfl) (by kernel_rfl) ?_
  repeat (go_big_quiet_step (first | (go_at_call 74; exact KL.out _) | (go_at_call 46; exact UL.out _)))
  refine wpQuiet_nil ?_
  rintro _ ⟨xq, rfl⟩
  have hOq := O2.out.trans xq.h (by simp)
  have R3 := Lib.hid (owns_later R2.out xq.h (by simp) : ByteRow 5 xq.v _ hd)
  go_wp2_with (go_at_call 46; refine (U2.out _ _ _ R3.out).mono ?_; rintro e w4 ⟨rfl, rfl⟩)
  go_ret3
  obtain ⟨hb1, hgb, hgn, hP1, hS1⟩ := G1.out
  refine ⟨gb, c, M1, rfl, hb1.past hOq, hgb, hgn, hP1.past hOq, hS1.then hOq⟩
end Go.Proofs.YtfkmjbpnjgnkbaaGreat.H
