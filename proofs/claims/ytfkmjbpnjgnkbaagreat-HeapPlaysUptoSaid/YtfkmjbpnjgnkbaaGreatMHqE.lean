import Derived.Test.YtfkmjbpnjgnkbaaGreatMHrA
import Derived.Test.YtfkmjbpnjgnkbaaGreatMPoolK
import Derived.Test.YtfkmjbpnjgnkbaaGreatMStepsU
import Derived.Deep.LoopGhost
/-
  The law on rows of calls of a heap: Spoil, the pool's Used: by contracts.
-/
namespace Go.Proofs.YtfkmjbpnjgnkbaaGreat.H
set_option linter.unusedSimpArgs false
open Go Go.RowKit Go.Proofs.YtfkmjbpnjgnkbaaGreat.D Go.Proofs.YtfkmjbpnjgnkbaaGreat.B Go.Proofs.YtfkmjbpnjgnkbaaGreat.C Go.Proofs.YtfkmjbpnjgnkbaaGreat.G Go.Proofs.YtfkmjbpnjgnkbaaGreat.P
set_option linter.unusedVariables false
set_option maxRecDepth 100000 in
theorem spoil_any {w : World} {g n c : Nat} {cs : List Value} (h : Blk w g cs 5) (hn : n ≤ cs.length) (hl : n ≤ 1048576) :
    Calls Tryz.prog 14 #[.slice (some ⟨g, 0, none⟩) n c] w fun e w' => e = .returned (.tuple #[]) ∧ Only [g] w w' := by
  have HH := Lib.hid h
  have HN := Lib.hid hn
  clear h hn
  go_enter Tryz.func14, Tryz.ntmps14
  go_wp2_with fail
  go_loopg [2] n (fun gk i wr => ∃ (k : Nat) (cs' : List Value), gk = n - k ∧ k ≤ n ∧ i = .int .i64 k ∧ n ≤ cs'.length ∧ Blk wr g cs' 5 ∧ Only [g] w wr)
  case atStart => exact ⟨0, cs, by omega, Nat.zero_le _, rfl, HN.out, HH.out, Only.refl _ _⟩
  case round =>
    obtain ⟨k, cs', hgk, hk, rfl, hcl, hb, hO⟩ := hrel
    have HGK := Lib.hid hgk
    have HCL := Lib.hid hcl
    have HB := Lib.hid hb
    have HO := Lib.hid hO
    clear hgk hcl hb hO
    by_cases hlt : k < n
    · obtain ⟨oldv, cw⟩ := HB.out.at k (by have := HCL.out; omega)
      have fw := HB.out.frozen k
      have hk0 : (0 : Int) ≤ k := by omega
      have hk1 : (k : Int) < n := by omega
      go_wp2_with fail
      go_roundg (n - (k + 1))
      case measure => have := HGK.out; omega
      case rel => exact ⟨k + 1, cs'.set k (.int .u8 238), rfl, by omega, by go_num, by rw [List.length_set]; exact HCL.out, HB.out.set k _, HO.out.setCell (p := ⟨g, k, none⟩) (.inl (by simp)) _⟩
    · obtain rfl : k = n := by omega
      go_wp2_with fail
      go_end0
      exact ⟨rfl, HO.out⟩
theorem spoil_nil {w : World} (ao : Option Addr) (c : Nat) : Calls Tryz.prog 14 #[.slice ao 0 c] w fun e w' => e = .returned (.tuple #[]) ∧ w = w' := by
  go_enter Tryz.func14, Tryz.ntmps14
  go_wp2_with fail
  go_loopg [2] 0 (fun gk i wr => i = .int .i64 0 ∧ wr = w)
  case atStart => exact ⟨rfl, rfl⟩
  case round =>
    obtain ⟨rfl, rfl⟩ := hrel
    go_wp2_with fail
    go_end0
    exact ⟨rfl, rfl⟩
/-- Spoil, at a row of one's own. -/
theorem spoil_row {w : World} {v : Value} {l : List UInt8} (h : ByteRow 5 w v l) (hl : l.length ≤ 1048576) :
    Calls Tryz.prog 14 #[v] w fun e w' => e = .returned (.tuple #[]) ∧ Only v.ownBlock.toList w w' := by
  rcases h.2 with ⟨rfl, h0⟩ | ⟨g, cap, cur, rfl, _, hh, h3, _, h5, _⟩
  · refine (spoil_nil none 0).mono ?_
    rintro e w' ⟨he, rfl⟩
    exact ⟨he, Only.refl _ _⟩
  · have hb : Blk w g cur.toList 5 := by unfold Blk; rw [Array.toArray_toList]; exact hh
    have h6 : l.length ≤ cur.toList.length := by
      have e : cur.toList.length = cur.size := Array.length_toList
      rw [e, h5]; omega
    refine (spoil_any hb (n := l.length) h6 hl).mono ?_
    rintro e w' ⟨he, hO⟩
    exact ⟨he, by simpa [Value.ownBlock] using hO⟩
/-! ### Used -/
theorem count_filter : ∀ u : List Bool, P.count u = ((List.range u.length).filter fun i => u.getD i false).length := by
  have key : ∀ (u : List Bool) (n : Nat), n ≤ u.length → P.count (u.take n) = ((List.range n).filter fun i => u.getD i false).length := by
    intro u n
    induction n with
    | zero => intro _; rfl
    | succ n ih =>
      intro hn
      rw [P.count_take (by omega), ih (by omega), List.range_succ, List.filter_append, List.length_append]
      congr 1
      cases h : u.getD n false with
      | true =>
        have e : [n].filter (fun i => u.getD i false) = [n] := List.filter_cons_of_pos (p := fun i => u.getD i false) h
        rw [e]; rfl
      | false =>
        have e : [n].filter (fun i => u.getD i false) = [] := List.filter_cons_of_neg (p := fun i => u.getD i false) (by rw [h]; simp)
        rw [e]; rfl
  intro u
  have := key u u.length (Nat.le_refl _)
  rw [List.take_length] at this
  exact this
theorem pages_used {u : List Bool} {pg : Nat → List UInt8} {root : Nat} {ids : List Nat} (hI : HeapIs u pg root ids) : ids.length ≤ P.count u := by
  rw [count_filter]
  exact (bytesO_part (V := fun _ => none) hI.nodup (List.nodup_range.sublist List.filter_sublist) (fun x hx => by
    have h := hI.used x hx
    exact List.mem_filter.2 ⟨List.mem_range.2 (used_lt h), h⟩)).2
theorem PoolV.usedList {w : World} {p k : Nat} {M : List Nat} {u : List Bool} {pg : Nat → List UInt8} (h : PoolV w p M u pg k) : Calls Tryz.prog 24 #[.pointer (some ⟨p, 0, none⟩)] w fun e w' => ∃ ao c, e = .returned (.slice ao (P.count u) c) ∧ Only [] w w' := by
  obtain ⟨d, S, hP, _, _, rfl, _⟩ := h
  refine hP.usedList.mono ?_
  rintro e w' ⟨v, rfl, ⟨a, c, rfl, _, _⟩, hO⟩
  exact ⟨a, c, rfl, hO⟩
end Go.Proofs.YtfkmjbpnjgnkbaaGreat.H

/-
  The law on rows of calls of a heap: its rows; at, pick, few: by contracts.
-/
namespace Go.Proofs.YtfkmjbpnjgnkbaaGreat.H
set_option linter.unusedSimpArgs false
open Go Go.RowKit Go.Proofs.YtfkmjbpnjgnkbaaGreat.D Go.Proofs.YtfkmjbpnjgnkbaaGreat.B Go.Proofs.YtfkmjbpnjgnkbaaGreat.C Go.Proofs.YtfkmjbpnjgnkbaaGreat.G Go.Proofs.YtfkmjbpnjgnkbaaGreat.P
set_option linter.unusedVariables false
/-- A row of the model: its place, where its bytes lie, its version. -/
structure MRow where
  rid : Nat
  rv : Value
  ver : Ver
def mz : MRow := ⟨0, .slice none 0 0, ⟨[], 0, 0, 0⟩⟩
def rowC (m : MRow) : List Value := [.int .u64 m.rid, m.rv, .int .u64 m.ver.xmin, .int .u64 m.ver.xmax, .int .u64 m.ver.next]
/-- Rows that may be read. -/
def RowsAt (w : World) (v : Value) (l : List MRow) : Prop :=
  ∃ ao cap, v = .slice ao l.length cap ∧ l.length ≤ cap ∧ (0 < l.length → ∃ b o, ao = some ⟨b, o, none⟩ ∧ ∀ i, i < l.length → ∀ j, j < 5 → w.cell? ⟨b, o + i * 5 + j, none⟩ = (rowC (l.getD i mz))[j]?)
/-- Where the place r is in the rows. -/
def atR (l : List MRow) (r : Nat) : Int := if l.findIdx (fun m => m.rid == r) < l.length then l.findIdx (fun m => m.rid == r) else -1
theorem atR_none {l : List MRow} {r : Nat} (h : ∀ i, i < l.length → (l.getD i mz).rid ≠ r) : atR l r = -1 := by
  unfold atR
  rw [if_neg]
  intro hlt
  have := List.findIdx_getElem (w := hlt)
  simp only [beq_iff_eq] at this
  have h2 := h _ hlt
  rw [List.getD_eq_getElem?_getD, List.getElem?_eq_getElem hlt] at h2
  exact h2 this
theorem atR_some {l : List MRow} {r i : Nat} (hi : i < l.length) (he : (l.getD i mz).rid = r) (h : ∀ j, j < i → (l.getD j mz).rid ≠ r) : atR l r = i := by
  have e : l.findIdx (fun m => m.rid == r) = i := by
    rw [List.findIdx_eq hi]
    rw [List.getD_eq_getElem?_getD, List.getElem?_eq_getElem hi] at he
    refine ⟨by simpa using he, fun j hj => ?_⟩
    have h2 := h j hj
    rw [List.getD_eq_getElem?_getD, List.getElem?_eq_getElem (by omega)] at h2
    simpa using h2
  unfold atR
  rw [e, if_pos hi]
set_option maxRecDepth 100000 in
theorem at_any {w : World} {v : Value} {l : List MRow} (h : RowsAt w v l) (hm : l.length ≤ 1000000) (r : Nat) :
    Calls Tryz.prog 13 #[v, .int .u64 r] w fun e w' => e = .returned (.int .i64 (atR l r)) ∧ w = w' := by
  obtain ⟨ao, cap, rfl, hc1, hc⟩ := h
  have HC := Lib.hid hc
  have HN : Hid ((∀ i, i < l.length → (l.getD i mz).rid ≠ r) → atR l r = -1) := atR_none
  have HS : Hid (∀ i, i < l.length → (l.getD i mz).rid = r → (∀ j, j < i → (l.getD j mz).rid ≠ r) → atR l r = i) := fun i => atR_some
  generalize atR l r = z at *
  clear hc
  generalize l.length = n at *
  go_enter Tryz.func13, Tryz.ntmps13
  go_wp2_with fail
  go_loopg [5] n (fun gk s5 wr => ∃ j : Nat, gk = n - j ∧ j ≤ n ∧ s5 = .int .i64 j ∧ wr = w ∧ ∀ i, i < j → (l.getD i mz).rid ≠ r)
  case atStart => exact ⟨0, rfl, Nat.zero_le _, rfl, rfl, fun i hi => by omega⟩
  case round =>
    obtain ⟨j, hgk, hj, rfl, rfl, hs⟩ := hrel
    have HGK := Lib.hid hgk
    have HB := Lib.hid hs
    clear hgk hs
    by_cases hlt : j < n
    · have hj0 : (0 : Int) ≤ j := by omega
      have hj1 : (j : Int) < n := by omega
      obtain ⟨b, o, rfl, hcell⟩ := HC.out (by omega)
      have cj := hcell j hlt 0 (by omega)
      simp only [rowC, List.getElem?_cons_zero, Nat.add_zero] at cj
      clear hcell
      obtain ⟨x, hx⟩ : ∃ x, (l.getD j mz).rid = x := ⟨_, rfl⟩
      have HX := Lib.hid hx
      rw [hx] at cj
      clear hx
      by_cases he : x = r
      · subst he
        have HZ : Hid (z = j) := HS.out j hlt HX.out HB.out
        go_wp2_with fail
        go_ret
        rw [HZ.out]
        exact ⟨rfl, rfl⟩
      · have e1 : ((x : Int) == (r : Int)) = false := beq_eq_false_iff_ne.2 (by omega)
        have e2 : ¬ (x : Int) = (r : Int) := by omega
        have HE := Lib.hid he
        clear he
        go_wp2_with fail
        go_roundg (n - (j + 1))
        case measure => have := HGK.out; omega
        case rel => exact ⟨j + 1, rfl, by omega, by go_num, rfl, fun i hi => by
          by_cases e : i = j
          · rw [e, HX.out]; exact HE.out
          · exact HB.out i (by omega)⟩
    · obtain rfl : j = n := by omega
      have HZ : Hid (z = -1) := HN.out HB.out
      go_wp2_with fail
      go_ret
      rw [HZ.out]
      exact ⟨rfl, rfl⟩
end Go.Proofs.YtfkmjbpnjgnkbaaGreat.H

/-
  The law on rows of calls of a heap: pick, few: by contracts.
-/
namespace Go.Proofs.YtfkmjbpnjgnkbaaGreat.H
set_option linter.unusedSimpArgs false
open Go Go.RowKit Go.Proofs.YtfkmjbpnjgnkbaaGreat.D Go.Proofs.YtfkmjbpnjgnkbaaGreat.B Go.Proofs.YtfkmjbpnjgnkbaaGreat.C Go.Proofs.YtfkmjbpnjgnkbaaGreat.G Go.Proofs.YtfkmjbpnjgnkbaaGreat.P
set_option linter.unusedVariables false
/-- A place: one that is there, or some number. -/
def pickR (l : List MRow) (i : Int) : Nat := if l.length = 0 ∨ i < 0 then (IntKind.u64.wrap i).toNat else (l.getD (i.toNat % l.length) mz).rid
theorem pick_any {w : World} {v : Value} {l : List MRow} (h : RowsAt w v l) (hm : l.length ≤ 1000000) (i : Int) (hi : -9223372036854775808 ≤ i ∧ i ≤ 9223372036854775807) :
    Calls Tryz.prog 12 #[v, .int .i64 i] w fun e w' => e = .returned (.int .u64 (pickR l i : Nat)) ∧ w = w' := by
  obtain ⟨ao, cap, rfl, hc1, hc⟩ := h
  have hw : (0 : Int) ≤ IntKind.u64.wrap i := by rw [IntKind.wrap_u64]; omega
  by_cases h0 : l.length = 0 ∨ i < 0
  · have HP : Hid (pickR l i = (IntKind.u64.wrap i).toNat) := if_pos h0
    have HW : Hid (((IntKind.u64.wrap i).toNat : Int) = IntKind.u64.wrap i) := Int.toNat_of_nonneg hw
    generalize pickR l i = z at *
    clear hc hw
    by_cases h1 : l.length = 0
    · rw [h1]
      clear h0 h1 hc1
      go_enter Tryz.func12, Tryz.ntmps12
      go_wp2_with fail
      go_ret
      rw [HP.out, HW.out]
      exact ⟨rfl, rfl⟩
    · have h2 : i < 0 := by omega
      have h3 : ¬ (l.length : Int) = 0 := by omega
      have h4 : ((l.length : Int) == 0) = false := beq_eq_false_iff_ne.2 h3
      clear h0
      generalize l.length = n at *
      go_enter Tryz.func12, Tryz.ntmps12
      go_wp2_with fail
      go_ret
      rw [HP.out, HW.out]
      exact ⟨rfl, rfl⟩
  · have h1 : 0 < l.length := by omega
    have h2 : ¬ i < 0 := by omega
    obtain ⟨a, rfl⟩ := Int.eq_ofNat_of_zero_le (show 0 ≤ i by omega)
    have HP : Hid (pickR l (a : Int) = (l.getD (a % l.length) mz).rid) := by
      show _ = _
      unfold pickR
      rw [if_neg h0]; rfl
    obtain ⟨b, o, rfl, hcell⟩ := hc h1
    have hlt : a % l.length < l.length := Nat.mod_lt _ h1
    have cj := hcell (a % l.length) hlt 0 (by omega)
    simp only [rowC, List.getElem?_cons_zero, Nat.add_zero] at cj
    have h3 : ¬ (l.length : Int) = 0 := by omega
    have h4 : ((l.length : Int) == 0) = false := beq_eq_false_iff_ne.2 h3
    have hmI : (a : Int) % (l.length : Int) = ((a % l.length : Nat) : Int) := by simp
    generalize pickR l (a : Int) = z at *
    rw [← HP.out] at cj
    clear hc hcell h0 hw HP
    generalize a % l.length = t at *
    generalize l.length = n at *
    have t0 : (0 : Int) ≤ t := by omega
    have t1 : (t : Int) < n := by omega
    go_enter Tryz.func12, Tryz.ntmps12
    go_wp2_with fail
    go_ret
    exact ⟨rfl, rfl⟩
def sumF (l : List StepD) : Nat → Nat
  | 0 => 0
  | n + 1 => sumF l n + min (l.getD n stepZ).row.length 500
theorem sumF_le (l : List StepD) : ∀ n, sumF l n ≤ 500 * n
  | 0 => Nat.le_refl _
  | n + 1 => by
    have := sumF_le l n
    show sumF l n + _ ≤ _
    omega
def fewH (l : List StepD) : Bool := decide (l.length ≤ 150 ∧ sumF l l.length ≤ 12000)
theorem few_any {w : World} {v : Value} {l : List StepD} (h : StepsAt w v l) :
    Calls Tryz.prog 11 #[v] w fun e w' => e = .returned (.bool (fewH l)) ∧ w = w' := by
  obtain ⟨ao, cap, rfl, hm, hc⟩ := h
  have HC := Lib.hid hc
  have SL := Lib.hid (sumF_le l)
  have SS : Hid (∀ j, sumF l (j + 1) = sumF l j + min (l.getD j stepZ).row.length 500) := fun j => rfl
  have HZ : Hid (fewH l = decide (l.length ≤ 150 ∧ sumF l l.length ≤ 12000)) := rfl
  clear hc
  generalize fewH l = z at *
  generalize l.length = n at *
  have hm2 : n ≤ 9223372036854775807 := by unfold maxLen at hm; omega
  clear hm
  by_cases hn : n ≤ 150
  · go_enter Tryz.func11, Tryz.ntmps11
    go_wp2_with fail
    go_loopg [3, 4] n (fun gk s3 s4 wx => ∃ j : Nat, gk = n - j ∧ j ≤ n ∧ s3 = .int .i64 (sumF l j : Nat) ∧ s4 = .int .i64 j ∧ wx = w)
    case atStart => exact ⟨0, rfl, Nat.zero_le _, rfl, rfl, rfl⟩
    case round =>
      obtain ⟨j, hgk, hj, rfl, rfl, rfl⟩ := hrel
      have HGK := Lib.hid hgk
      have hsl := SL.out j
      clear hgk
      by_cases hlt : j < n
      · have hj0 : (0 : Int) ≤ j := by omega
        have hj1 : (j : Int) < n := by omega
        obtain ⟨b, o, rfl, hst⟩ := HC.out (by omega)
        obtain ⟨kv, hk⟩ := hst j hlt
        have hb := hk.bytes.1
        have y3 := hk.c.2.2.2.1
        obtain ⟨ak, kc, rfl, _⟩ := hb
        clear hst hk
        have S1 := Lib.hid (SS.out j)
        generalize (l.getD j stepZ).row.length = m at *
        generalize sumF l j = sj at *
        go_wp2_with fail
        go_roundg (n - (j + 1))
        case measure => have := HGK.out; omega
        case rel => exact ⟨j + 1, rfl, by omega, by rw [S1.out]; congr 1; omega, by go_num, rfl⟩
      · obtain rfl : j = n := by omega
        have h1 : (j : Int) ≤ 150 := by omega
        by_cases h2 : sumF l j ≤ 12000
        · have HR : Hid (z = true) := by show _ = _; rw [HZ.out]; simp [hn, h2]
          have h3 : (sumF l j : Int) ≤ 12000 := by omega
          generalize sumF l j = sj at *
          go_wp2_with fail
          go_ret
          rw [HR.out]
          exact ⟨rfl, rfl⟩
        · have HR : Hid (z = false) := by show _ = _; rw [HZ.out]; simp [h2]
          have h3 : ¬ (sumF l j : Int) ≤ 12000 := by omega
          generalize sumF l j = sj at *
          go_wp2_with fail
          go_ret
          rw [HR.out]
          exact ⟨rfl, rfl⟩
  · have HR : Hid (z = false) := by show _ = _; rw [HZ.out]; simp [hn]
    go_enter Tryz.func11, Tryz.ntmps11
    go_wp2_with fail
    go_loopg [3, 4] n (fun gk s3 s4 wx => ∃ (j : Nat) (x : Int), gk = n - j ∧ j ≤ n ∧ s3 = .int .i64 x ∧ s4 = .int .i64 j ∧ wx = w)
    case atStart => exact ⟨0, 0, rfl, Nat.zero_le _, rfl, rfl, rfl⟩
    case round =>
      obtain ⟨j, x, hgk, hj, rfl, rfl, rfl⟩ := hrel
      have HGK := Lib.hid hgk
      clear hgk
      by_cases hlt : j < n
      · have hj0 : (0 : Int) ≤ j := by omega
        have hj1 : (j : Int) < n := by omega
        obtain ⟨b, o, rfl, hst⟩ := HC.out (by omega)
        obtain ⟨kv, hk⟩ := hst j hlt
        have hb := hk.bytes.1
        have y3 := hk.c.2.2.2.1
        obtain ⟨ak, kc, rfl, _⟩ := hb
        clear hst hk
        generalize (l.getD j stepZ).row.length = m at *
        go_wp2_with fail
        go_roundg (n - (j + 1))
        case measure => have := HGK.out; omega
        case rel => exact ⟨j + 1, _, rfl, by omega, rfl, by go_num, rfl⟩
      · obtain rfl : j = n := by omega
        have h1 : ¬ (j : Int) ≤ 150 := by omega
        go_wp2_with fail
        go_ret
        rw [HR.out]
        exact ⟨rfl, rfl⟩
end Go.Proofs.YtfkmjbpnjgnkbaaGreat.H

/-
  The law on rows of calls of a heap: same, chain: by contracts.
-/
namespace Go.Proofs.YtfkmjbpnjgnkbaaGreat.H
set_option linter.unusedSimpArgs false
open Go Go.RowKit Go.Proofs.YtfkmjbpnjgnkbaaGreat.D Go.Proofs.YtfkmjbpnjgnkbaaGreat.B Go.Proofs.YtfkmjbpnjgnkbaaGreat.C Go.Proofs.YtfkmjbpnjgnkbaaGreat.G Go.Proofs.YtfkmjbpnjgnkbaaGreat.P
set_option linter.unusedVariables false
def verAgg (v : Value) (r : Ver) : Value := .agg #[v, .int .u64 r.xmin, .int .u64 r.xmax, .int .u64 r.next]
set_option maxRecDepth 100000 in
theorem same_yes {w : World} {x y : Value} {r : Ver} (hx : BytesAt w x r.row) (hy : BytesAt w y r.row) :
    Calls Tryz.prog 22 #[verAgg x r, verAgg y r] w fun e w' => e = .returned (.bool true) ∧ Only [] w w' := by
  have BF : Hid (∀ w1, Only [] w w1 → Calls Tryz.prog 49 #[x, y] w1 fun e w' => e = .returned (.bool true) ∧ w1 = w') := fun w1 hO => by
    have h := P.bytesf_any (bytes_past hx hO) (bytes_past hy hO)
    rw [beq_self_eq_true] at h
    exact h
  unfold verAgg
  clear hx hy
  obtain ⟨row, a, b, c⟩ := r
  simp only at *
  have IC : Hid ((Tryz.prog.info? 50).map (·.size) = some 4) := info_ver
  go_enter Tryz.func22, Tryz.ntmps22
  go_wp2_with (go_at_call 49; refine (BF.out _ (((Only.refl [] w).alloc _).alloc _)).mono ?_; rintro e w1 ⟨rfl, rfl⟩)
  go_ret
  exact ⟨rfl, ((Only.refl [] w).alloc _).alloc _⟩
/-! ### chain -/
theorem atR_cases (l : List MRow) (r : Nat) : atR l r = -1 ∨ ∃ i, i < l.length ∧ atR l r = (i : Nat) ∧ (l.getD i mz).rid = r := by
  unfold atR
  by_cases h : l.findIdx (fun m => m.rid == r) < l.length
  · rw [if_pos h]
    right
    refine ⟨_, h, rfl, ?_⟩
    have := List.findIdx_getElem (w := h)
    rw [List.getD_eq_getElem?_getD, List.getElem?_eq_getElem h]
    simpa using this
  · rw [if_neg h]; exact .inl rfl
/-- What version the rows have at a place. -/
def verL (l : List MRow) (r : Nat) : Option Ver := if atR l r = -1 then none else some (l.getD (atR l r).toNat mz).ver
theorem verL_none {l : List MRow} {r : Nat} (h : atR l r = -1) : verL l r = none := if_pos h
theorem verL_some {l : List MRow} {r i : Nat} (h : atR l r = (i : Nat)) : verL l r = some (l.getD i mz).ver := by
  unfold verL
  rw [if_neg (by omega), h]; rfl
theorem verL_mem {l : List MRow} {r : Nat} (h : verL l r ≠ none) : r ∈ l.map MRow.rid := by
  rcases atR_cases l r with h1 | ⟨i, hi, _, he⟩
  · exact absurd (verL_none h1) h
  · rw [← he, List.getD_eq_getElem?_getD, List.getElem?_eq_getElem hi]
    exact List.mem_map_of_mem (List.getElem_mem hi)
set_option maxRecDepth 100000 in
set_option maxHeartbeats 1000000 in
theorem chain_any {w : World} {v : Value} {l : List MRow} (h : RowsAt w v l) (hm : l.length ≤ 1000000) {r : Nat} (hr : r < W64) (hnx : ∀ m ∈ l, m.ver.next < W64) (h0 : verL l 0 = none) :
    Calls Tryz.prog 18 #[v, .int .u64 r] w fun e w' => ∃ v', e = .returned v' ∧ RidRow w' v' (chainP (verL l) (l.length + 1) [] r) ∧ (∀ x, v'.ownBlock = some x → w.heap.size ≤ x) ∧ Only [] w w' := by
  have AT : Hid (∀ w1 x, Only [] w w1 → Calls Tryz.prog 13 #[v, .int .u64 (x : Nat)] w1 fun e w' => e = .returned (.int .i64 (atR l x)) ∧ w1 = w') := fun w1 x hO => by
    obtain ⟨ao, cap, he, hc1, hc⟩ := h
    refine at_any ⟨ao, cap, he, hc1, fun h0 => ?_⟩ hm x
    obtain ⟨b, o, rfl, hcell⟩ := hc h0
    refine ⟨b, o, rfl, fun i hi j hj => ?_⟩
    have := hcell i hi j hj
    match j, hj, this with
    | 0, _, this => exact hO.cell this (by simp)
    | 1, _, this => exact hO.cell this (by simp)
    | 2, _, this => exact hO.cell this (by simp)
    | 3, _, this => exact hO.cell this (by simp)
    | 4, _, this => exact hO.cell this (by simp)
  obtain ⟨ao, cap, rfl, hc1, hc⟩ := h
  have HC := Lib.hid hc
  have FIN : Hid (∀ k : List Nat, k.Nodup → (∀ x ∈ k, verL l x ≠ none) → k.length ≤ l.length) := fun k h1 h2 => by
    have := fin_of (V := verL l) (L := l.map MRow.rid) (fun x => verL_mem) k h1 h2
    rw [List.length_map] at this; exact this
  have AC := Lib.hid (atR_cases l)
  have VN : Hid (∀ x, atR l x = -1 → verL l x = none) := fun x => verL_none
  have VS : Hid (∀ x i, atR l x = ((i : Nat) : Int) → verL l x = some (l.getD i mz).ver) := fun x i => verL_some
  have NX : Hid (∀ i, i < l.length → (l.getD i mz).ver.next < W64) := fun i hi => hnx _ (by
    rw [List.getD_eq_getElem?_getD, List.getElem?_eq_getElem hi]; exact List.getElem_mem hi)
  have H0 := Lib.hid h0
  generalize hV : verL l = V at *
  generalize hRES : chainP V (l.length + 1) [] r = RES
  have HRES := Lib.hid hRES
  clear hc hnx h0 hV hRES
  generalize l.length = n at *
  go_enter Tryz.func18, Tryz.ntmps18
  go_wp2_with fail
  go_loopg [1, 5] (n + 2) (fun gk s1 s5 wr => ∃ (out : List Nat) (rr : Nat) (fin : Bool), gk = n + 2 - out.length ∧ out.length ≤ n ∧ s1 = .int .u64 rr ∧ rr < W64 ∧ RidRow wr s5 out ∧ (∀ x, s5.ownBlock = some x → w.heap.size ≤ x) ∧ Only [] w wr ∧ out.Nodup ∧ (∀ x ∈ out, V x ≠ none) ∧ (if fin then out = RES ∧ (rr = 0 ∨ rr ∈ out) else chainP V (n + 1 - out.length) out rr = RES ∧ rr ∉ out))
  case atStart => exact ⟨[], r, false, rfl, Nat.zero_le _, rfl, hr, ⟨rfl, .inl ⟨rfl, rfl⟩⟩, fun x hx => by simp [Value.ownBlock] at hx, Only.refl _ _, List.nodup_nil, by simp, HRES.out, by simp⟩
  case round =>
    obtain ⟨out, rr, fin, hgk, hol, rfl, hrw, hrow, hnew, hO, hnd, hall, hfin⟩ := hrel
    have HGK := Lib.hid hgk
    have HROW := Lib.hid hrow
    have HNEW := Lib.hid hnew
    have OO := Lib.hid hO
    have HND := Lib.hid hnd
    have HALL := Lib.hid hall
    have HRW := Lib.hid hrw
    have HF := Lib.hid hfin
    obtain ⟨ao5, cap5, rfl, hcap5, hc5⟩ := hrow.at
    have C5 := Lib.hid hc5
    obtain ⟨d, hd⟩ : ∃ d, n + 1 - out.length = d + 1 := ⟨n - out.length, by omega⟩
    have HD := Lib.hid hd
    have ATr := Lib.hid (AT.out wr rr hO)
    clear hgk hrow hnew hO hnd hall hrw hfin hc5 hd AT
    rcases AC.out rr with hat | ⟨i, hi, hat, hrid⟩
    · have EO : Hid (out = RES) := by
        have h1 := HF.out
        cases fin
        · simp only [Bool.false_eq_true, if_false] at h1
          rw [HD.out, chain_stop (VN.out rr hat)] at h1
          exact h1.1
        · exact h1.1
      rw [hat] at ATr
      clear hat
      go_wp2_with (go_at_call 13; refine ATr.out.mono ?_; rintro e w1 ⟨rfl, rfl⟩)
      go_ret
      exact ⟨_, rfl, by rw [← EO.out]; exact HROW.out, HNEW.out, OO.out⟩
    · have hvs := VS.out rr i hat
      have hne : rr ≠ 0 := fun e => by rw [e, H0.out] at hvs; cases hvs
      have hne1 : ((rr : Int) == 0) = false := beq_eq_false_iff_ne.2 (by omega)
      have hne2 : ¬ (rr : Int) = 0 := by omega
      have HOUT : Hid (rr ∈ out → out = RES) := fun hm => by
        have h1 := HF.out
        cases fin
        · exact absurd hm h1.2
        · exact h1.1
      have HGO : Hid (rr ∉ out → chainP V (n + 1 - out.length) out rr = RES) := fun hm => by
        have h1 := HF.out
        cases fin
        · exact h1.1
        · rcases h1.2 with h2 | h2
          · exact absurd h2 hne
          · exact absurd h2 hm
      have HVS := Lib.hid hvs
      obtain ⟨b, o, rfl, hcell⟩ := HC.out (by omega)
      have cx := hcell i hi 4 (by omega)
      simp only [rowC, List.getElem?_cons_succ, List.getElem?_cons_zero] at cx
      have NXi := Lib.hid (NX.out i hi)
      have HI := Lib.hid hi
      obtain ⟨nx, hnx⟩ : ∃ nx, (l.getD i mz).ver.next = nx := ⟨_, rfl⟩
      have HNX := Lib.hid hnx
      rw [hnx] at cx
      have CX := Lib.hid cx
      have hi0 : (0 : Int) ≤ i := by omega
      have hi1 : (i : Int) < n := by omega
      have hi2 : ¬ (i : Int) < 0 := by omega
      have hi3 : decide ((i : Int) < 0) = false := decide_eq_false hi2
      rw [hat] at ATr
      clear hat hvs hcell cx hnx HF hne hrid hi
      go_wp2_with (go_at_call 13; refine ATr.out.mono ?_; rintro e w1 ⟨rfl, rfl⟩)
      have hol2 : out.length ≤ 1000000 := by omega
      go_loopg [7] out.length (fun gq s7 wz => ∃ t : Nat, gq = out.length - t ∧ t ≤ out.length ∧ s7 = .int .i64 t ∧ wz = wr ∧ ∀ x, x < t → out.getD x 0 ≠ rr)
      case atStart => exact ⟨0, rfl, Nat.zero_le _, rfl, rfl, fun x hx => by omega⟩
      case round =>
        obtain ⟨t, hgq, ht, rfl, rfl, hno⟩ := hrel
        have HGQ := Lib.hid hgq
        have HNO := Lib.hid hno
        clear hgq hno
        by_cases hlt : t < out.length
        · have ht0 : (0 : Int) ≤ t := by omega
          have ht1 : (t : Int) < out.length := by omega
          obtain ⟨b5, o5, rfl, hcell5⟩ := C5.out (by omega)
          have c5 := hcell5 t hlt
          have MT : Hid (out.getD t 0 ∈ out) := getD_mem hlt
          clear hcell5
          obtain ⟨y, hy⟩ : ∃ y, out.getD t 0 = y := ⟨_, rfl⟩
          have HY := Lib.hid hy
          rw [hy] at c5 MT
          clear hy
          by_cases he : y = rr
          · have EO : Hid (out = RES) := HOUT.out (by rw [← he]; exact MT.out)
            have e1 : ((y : Int) == (rr : Int)) = true := by rw [he]; simp
            have e2 : (y : Int) = (rr : Int) := by rw [he]
            clear he MT
            go_wp2_with fail
            go_ret
            exact ⟨_, rfl, by rw [← EO.out]; exact HROW.out, HNEW.out, OO.out⟩
          · have e1 : ((y : Int) == (rr : Int)) = false := beq_eq_false_iff_ne.2 (by omega)
            have e2 : ¬ (y : Int) = (rr : Int) := by omega
            have HE := Lib.hid he
            clear he MT
            go_wp2_with fail
            go_roundg (out.length - (t + 1))
            case measure => have := HGQ.out; omega
            case rel => exact ⟨t + 1, rfl, by omega, by go_num, rfl, fun x hx => by
              by_cases e : x = t
              · rw [e, HY.out]; exact HE.out
              · exact HNO.out x (by omega)⟩
        · obtain rfl : t = out.length := by omega
          have hnin : rr ∉ out := fun hm => by
            obtain ⟨x, hx, he⟩ := List.getElem_of_mem hm
            exact HNO.out x hx (by rw [List.getD_eq_getElem?_getD, List.getElem?_eq_getElem hx]; exact he)
          have RS := HGO.out hnin
          rw [HD.out, chain_step HVS.out, HNX.out] at RS
          have RS := Lib.hid RS
          have hnd2 : (out ++ [rr]).Nodup := by
            rw [List.nodup_append]
            exact ⟨HND.out, by simp, fun x hx y hy e => by simp at hy; subst hy; subst e; exact hnin hx⟩
          have hall2 : ∀ x ∈ out ++ [rr], V x ≠ none := fun x hx => by
            rcases List.mem_append.1 hx with h | h
            · exact HALL.out x h
            · simp at h; subst h; rw [HVS.out]; simp
          have hl2 := FIN.out _ hnd2 hall2
          rw [List.length_append, List.length_singleton] at hl2
          have HND2 := Lib.hid hnd2
          have HALL2 := Lib.hid hall2
          clear hnd2 hall2 hnin
          go_wp2_with (refine wpList_push rfl (.tmp 31) (.tmp 33) 27 rfl 29 Tryz.underlying27 (info_parts info_rid) rfl (.slice ao5 out.length cap5) out.length (u64s out) rfl (by exact owns_later HROW.out ((Only.refl [] _).alloc _) (by simp)) _ _ _ rfl (by exact (Blk.new _ _ _).cell 0) rfl (by omega) (by decide) ?_; intro g6 cp w6 hown hO6 hat hg6; have O6 := Lib.hid ((OO.out.alloc (.cells #[.int .u64 rr] 29)).trans hO6 (fun x hx => .inr (HNEW.out x (Option.mem_toList.1 hx)))); have cx6 := O6.out.cell CX.out (by simp); have R6 := Lib.hid (rid_push hown); have A6 := Lib.hid hat; clear hown hO6 hat hg6)
          have N6 : Hid (w.heap.size ≤ g6) := by
            rcases A6.out with h | h
            · exact HNEW.out _ h
            · rw [World.size_alloc] at h
              have := OO.out.size
              show _ ≤ _
              omega
          go_roundg (n + 2 - (out.length + 1))
          case measure => have := HGK.out; omega
          case rel => exact ⟨out ++ [rr], nx, decide (nx = 0 ∨ nx ∈ out ++ [rr]), by rw [List.length_append, List.length_singleton], by rw [List.length_append, List.length_singleton]; exact hl2, rfl, by rw [← HNX.out]; exact NXi.out, R6.out, fun x hx => by
            simp only [Value.ownBlock, Option.some.injEq] at hx
            subst hx; exact N6.out, O6.out, HND2.out, HALL2.out, by
            have h1 := RS.out
            by_cases hz : nx = 0 ∨ nx ∈ out ++ [rr]
            · rw [if_pos hz] at h1
              rw [if_pos (by simpa using hz)]
              exact ⟨h1, hz⟩
            · rw [if_neg hz] at h1
              rw [if_neg (by simpa using hz), List.length_append, List.length_singleton, show n + 1 - (out.length + 1) = d by have := HD.out; omega]
              exact ⟨h1, fun h => hz (.inr h)⟩⟩
end Go.Proofs.YtfkmjbpnjgnkbaaGreat.H

/-
  The law on rows of calls of a heap: all: by contracts.
-/
namespace Go.Proofs.YtfkmjbpnjgnkbaaGreat.H
set_option linter.unusedSimpArgs false
open Go Go.RowKit Go.Sort Go.Proofs.YtfkmjbpnjgnkbaaGreat.D Go.Proofs.YtfkmjbpnjgnkbaaGreat.B Go.Proofs.YtfkmjbpnjgnkbaaGreat.C Go.Proofs.YtfkmjbpnjgnkbaaGreat.G Go.Proofs.YtfkmjbpnjgnkbaaGreat.P
set_option linter.unusedVariables false
/-! ### plain: one more into a rising row -/
theorem ins_one {d : Array Int} {i : Nat} (hd : d.size = i) (hs : SortedIn ltInt 0 i d) (x : Int) :
    (insInner ltInt 0 i (d.push x)).size = i + 1 ∧ (insInner ltInt 0 i (d.push x)).toList.Perm (d.toList ++ [x]) ∧ SortedIn ltInt 0 (i + 1) (insInner ltInt 0 i (d.push x)) := by
  have hsz : (d.push x).size = i + 1 := by simp [hd]
  have h := insInner_spec (lt := ltInt) swo_ltInt swp_permIn permIn_refl permIn_trans 0 (i + 1) i (by omega) i (d.push x) (Nat.zero_le _) (Nat.le_refl _) (by omega) ⟨fun p q hap hpq hqi _ hq => ?_, fun q h1 h2 => by omega⟩
  · refine ⟨h.1.1.trans hsz, ?_, h.2⟩
    have hp := h.1.2.2
    have e1 : (insInner ltInt 0 i (d.push x)).extract 0 (i + 1) = insInner ltInt 0 i (d.push x) := by
      have := h.1.1.trans hsz
      rw [← this]; simp
    have e2 : (d.push x).extract 0 (i + 1) = d.push x := by rw [← hsz]; simp
    rw [e1, e2] at hp
    simpa using hp
  · have hq2 : q < d.size := by omega
    have hp2 : p < d.size := by omega
    have a1 : (d.push x)[q]! = d[q]! := by
      simp [Array.getElem!_eq_getD, Array.getD_eq_getD_getElem?, Array.getElem?_push, hq2, show q ≠ d.size by omega]
    have a2 : (d.push x)[p]! = d[p]! := by
      simp [Array.getElem!_eq_getD, Array.getD_eq_getD_getElem?, Array.getElem?_push, hp2, show p ≠ d.size by omega]
    rw [a1, a2]
    exact hs p q hap hpq (by omega)
theorem sorted_rising {d : Array Int} {l : List Int} (hp : d.toList.Perm l) (hs : SortedIn ltInt 0 d.size d) : d.toList = IR.rising l := by
  have hsz : d.size = l.length := by rw [← Array.length_toList]; exact hp.length_eq
  refine IR.rising_of (l := l) ⟨by simp [hsz], fun i hi => ?_, ?_⟩ (by simpa [hsz] using hs)
  · rcases hi with hi | hi
    · omega
    · have h1 : d.size ≤ i := by simp at hi; omega
      have h2 : l.toArray.size ≤ i := hi
      simp [Array.getElem!_eq_getD, Array.getD_eq_getD_getElem?, Array.getElem?_eq_none h1, Array.getElem?_eq_none h2]
  · have e1 : d.extract 0 l.toArray.size = d := by rw [List.size_toArray, ← hsz]; simp
    rw [e1]
    simpa using hp
/-- The row in a block of one's own, as the sorting texts ask it. -/
theorem owns_sr {w : World} {g n cap : Nat} {d : Array Int} (hd : d.size = n) (h : w.ownsRow 0 29 1 (.slice (some ⟨g, 0, none⟩) n cap) n (d.toList.map (Value.int .u64))) : ∃ rest, IR.SR w g d rest ∧ rest.length + n = cap ∧ n ≤ cap ∧ cap ≤ maxLen := by
  obtain ⟨cur, hb, hc, ht, hle⟩ := owns_blk h
  have hm : cap ≤ maxLen := by
    rcases h.2 with ⟨h0, _⟩ | ⟨_, _, _, hv, _, _, _, h4, _⟩
    · cases h0
    · simp only [Value.slice.injEq] at hv
      rw [hv.2.2]; exact h4
  refine ⟨cur.drop n, Blk.to hb ?_, by rw [List.length_drop]; omega, hle, hm⟩
  rw [Nat.mul_one] at ht
  rw [← ht, List.take_append_drop]
theorem sr_owns {w : World} {g n cap : Nat} {d : Array Int} {rest : List Value} (hd : d.size = n) (h : IR.SR w g d rest) (hr : rest.length + n = cap) (hm : cap ≤ maxLen) : w.ownsRow 0 29 1 (.slice (some ⟨g, 0, none⟩) n cap) n (d.toList.map (Value.int .u64)) := by
  have hl : (d.toList.map (Value.int IntKind.u64)).length = n := by simp [hd]
  refine ⟨by rw [hl]; omega, .inr ⟨g, cap, (d.toList.map (Value.int .u64) ++ rest).toArray, rfl, Nat.zero_le _, h, by omega, hm, ?_, ?_⟩⟩
  · rw [List.size_toArray, List.length_append, hl]; omega
  · simp only [Nat.mul_one]
    rw [List.take_append_of_le_length (by rw [hl]; exact Nat.le_refl _), List.take_of_length_le (by rw [hl]; exact Nat.le_refl _)]
set_option maxRecDepth 100000 in
set_option maxHeartbeats 2000000 in
theorem mall_any {w : World} {v : Value} {l : List MRow} (h : RowsAt w v l) (hm : l.length ≤ 100000) :
    Calls Tryz.prog 23 #[v] w fun e w' => ∃ v', e = .returned v' ∧ w'.ownsRow 0 29 1 v' l.length (risen (l.map MRow.rid)) ∧ (∀ x, v'.ownBlock = some x → w.heap.size ≤ x) ∧ Only [] w w' := by
  obtain ⟨ao, cap, rfl, hc1, hc⟩ := h
  have HC := Lib.hid hc
  obtain ⟨R, hR⟩ : ∃ R : Nat → Int, ∀ i, R i = ((l.getD i mz).rid : Int) := ⟨_, fun _ => rfl⟩
  have HR := Lib.hid hR
  have TK : Hid (∀ i, i < l.length → (l.take (i + 1)).map (fun m => ((m.rid : Nat) : Int)) = (l.take i).map (fun m => ((m.rid : Nat) : Int)) ++ [R i]) := fun i hi => by
    rw [List.take_succ_eq_append_getElem hi, List.map_append, hR, List.getD_eq_getElem?_getD, List.getElem?_eq_getElem hi]; rfl
  have FIN : Hid (∀ (wz : World) (vz : Value) (D : Array Int), D.size = l.length → wz.ownsRow 0 29 1 vz l.length (D.toList.map (Value.int .u64)) → D.toList.Perm ((l.take l.length).map (fun m => ((m.rid : Nat) : Int))) → SortedIn ltInt 0 l.length D → wz.ownsRow 0 29 1 vz l.length (risen (l.map MRow.rid))) := fun wz vz D hs hr hp ho => by
    rw [List.take_of_length_le (Nat.le_refl _)] at hp
    have e := sorted_rising hp (by rw [hs]; exact ho)
    rw [e] at hr
    unfold risen
    rw [List.map_map]
    exact hr
  clear hc hR
  generalize l.length = n at *
  go_enter Tryz.func23, Tryz.ntmps23
  go_wp2_with fail
  go_loopg [3, 4] n (fun gk s3 s4 wr => ∃ (i : Nat) (D : Array Int), gk = n - i ∧ i ≤ n ∧ s4 = .int .i64 i ∧ D.size = i ∧ wr.ownsRow 0 29 1 s3 i (D.toList.map (Value.int .u64)) ∧ D.toList.Perm ((l.take i).map (fun m => ((m.rid : Nat) : Int))) ∧ SortedIn ltInt 0 i D ∧ (∀ x, s3.ownBlock = some x → w.heap.size ≤ x) ∧ Only [] w wr)
  case atStart => exact ⟨0, #[], rfl, Nat.zero_le _, rfl, rfl, ⟨rfl, .inl ⟨rfl, rfl⟩⟩, by simp, fun i j _ _ hj => by omega, fun x hx => by simp [Value.ownBlock] at hx, Only.refl _ _⟩
  case round =>
    obtain ⟨i, D, hgk, hi, rfl, hD, hrow, hperm, hsort, hnew, hO⟩ := hrel
    rename World => wr
    have HGK := Lib.hid hgk
    have HD := Lib.hid hD
    have HROW := Lib.hid hrow
    have HPM := Lib.hid hperm
    have HSO := Lib.hid hsort
    have HNEW := Lib.hid hnew
    have OO := Lib.hid hO
    obtain ⟨ao3, cap3, rfl⟩ := owns_slice hrow
    clear hgk hD hrow hperm hsort hnew hO
    by_cases hlt : i < n
    · have hi0 : (0 : Int) ≤ i := by omega
      have hi1 : (i : Int) < n := by omega
      obtain ⟨b, o, rfl, hcell⟩ := HC.out (by omega)
      have cx := OO.out.cell (hcell i hlt 0 (by omega)) (by simp)
      simp only [rowC, List.getElem?_cons_zero, Nat.add_zero] at cx
      rw [← HR.out i] at cx
      have IN := Lib.hid (ins_one HD.out HSO.out (R i))
      have TKi := Lib.hid (TK.out i hlt)
      generalize R i = x at *
      clear hcell
      go_wp2_with (refine wpList_push rfl (.tmp 12) (.tmp 18) 27 rfl 29 Tryz.underlying27 (info_parts info_rid) rfl (.slice ao3 i cap3) i (D.toList.map (Value.int .u64)) rfl (by exact owns_later HROW.out ((Only.refl [] _).alloc _) (by simp)) _ _ _ rfl (by exact (Blk.new _ _ _).cell 0) rfl (by omega) (by decide) ?_; intro g6 cp w6 hown hO6 hat hg6; have O6 := Lib.hid ((OO.out.alloc (.cells #[.int .u64 x] 29)).trans hO6 (fun y hy => .inr (HNEW.out y (Option.mem_toList.1 hy)))); have H6 := Lib.hid hown; have A6 := Lib.hid hat; clear hown hO6 hat hg6)
      have N6 : Hid (w.heap.size ≤ g6) := by
        rcases A6.out with h | h
        · exact HNEW.out _ h
        · rw [World.size_alloc] at h
          have := OO.out.size
          show _ ≤ _
          omega
      have hds : (D.push x).size = i + 1 := by simp [HD.out]
      have hown2 : w6.ownsRow 0 29 1 (.slice (some ⟨g6, 0, none⟩) (i + 1) cp) (i + 1) ((D.push x).toList.map (Value.int .u64)) := by
        have h := H6.out
        rw [Array.toList_push, List.map_append]
        exact h
      obtain ⟨rest, hsr, hrl, hle, hcm⟩ := owns_sr hds hown2
      have SR0 := Lib.hid hsr
      have DS := Lib.hid hds
      have BACK : Hid (∀ (wz : World) (dj : Array Int), dj.size = i + 1 → IR.SR wz g6 dj rest → wz.ownsRow 0 29 1 (.slice (some ⟨g6, 0, none⟩) (i + 1) cp) (i + 1) (dj.toList.map (Value.int .u64))) := fun wz dj h1 h2 => sr_owns h1 h2 hrl hcm
      clear hsr hrl hcm hown2 hds cx A6 H6
      go_loopg [5] i (fun gj s5 wz => ∃ (j : Nat) (dj : Array Int), gj = j ∧ s5 = .int .i64 j ∧ j ≤ i ∧ dj.size = i + 1 ∧ IR.SR wz g6 dj rest ∧ Only [g6] w6 wz ∧ insInner ltInt 0 j dj = insInner ltInt 0 i (D.push x))
      case atStart => exact ⟨i, D.push x, rfl, rfl, Nat.le_refl _, DS.out, SR0.out, Only.refl _ _, rfl⟩
      case round =>
        obtain ⟨j, dj, hgj, rfl, hji, hsj, hrj, hOj, hIj⟩ := hrel
        rename World => w2
        have HGJ := Lib.hid hgj
        have RJ := Lib.hid hrj
        have OJ := Lib.hid hOj
        have IJ := Lib.hid hIj
        have SJ := Lib.hid hsj
        clear hgj hrj hOj hIj hsj
        obtain ⟨G, hG⟩ : ∃ G : Nat → Int, ∀ t, G t = dj[t]! := ⟨fun t => dj[t]!, fun _ => rfl⟩
        have hcw : ∀ t, t < i + 1 → w2.cell? ⟨g6, t, none⟩ = some (.int .u64 (G t)) := fun t ht => by rw [hG]; exact RJ.out.cell t (by rw [SJ.out]; exact ht)
        have hfw : ∀ t, t < i + 1 → w2.frozen? ⟨g6, t, none⟩ = false := fun t ht => RJ.out.frozen t
        have HG := Lib.hid hG
        have OUT : Hid ((j ≤ 0 ∨ ltInt dj[j]! dj[j - 1]! = false) → ∀ wz, Only [] w2 wz → ∃ (i' : Nat) (D' : Array Int), n - (i + 1) = n - i' ∧ i' ≤ n ∧ Value.int .i64 ((i : Int) + 1) = .int .i64 (i' : Nat) ∧ D'.size = i' ∧ wz.ownsRow 0 29 1 (.slice (some ⟨g6, 0, none⟩) (i + 1) cp) i' (D'.toList.map (Value.int .u64)) ∧ D'.toList.Perm ((l.take i').map (fun m => ((m.rid : Nat) : Int))) ∧ SortedIn ltInt 0 i' D' ∧ (∀ y, (Value.slice (some ⟨g6, 0, none⟩) (i + 1) cp).ownBlock = some y → w.heap.size ≤ y) ∧ Only [] w wz) := fun hs wz hz => by
          have e := IJ.out
          rw [insInner_stop _ _ _ _ hs] at e
          have hin := IN.out
          rw [← e] at hin
          refine ⟨i + 1, dj, rfl, by omega, by go_num, SJ.out, BACK.out wz dj SJ.out (RJ.out.past hz), ?_, hin.2.2, fun y hy => ?_, (O6.out.trans OJ.out (fun y hy => .inr (by simp at hy; subst hy; exact N6.out))).trans hz (by simp)⟩
          · rw [TKi.out]
            exact hin.2.1.trans (HPM.out.append_right _)
          · simp only [Value.ownBlock, Option.some.injEq] at hy
            subst hy; exact N6.out
        clear hG
        have hjn : j < i + 1 := by omega
        have hjn1 : (j : Int) < (i : Int) + 1 := by omega
        have hjn2 : (j : Int) < ((i + 1 : Nat) : Int) := by omega
        have hj0 : (0 : Int) ≤ j := by omega
        by_cases hja : 0 < j
        · obtain ⟨k, hk⟩ : ∃ k, j - 1 = k := ⟨_, rfl⟩
          have HK := Lib.hid hk
          have hjaI : (0 : Int) < j := by omega
          have ew : IntKind.i64.wrap ((j : Int) - 1) = (k : Int) := by rw [IntKind.wrap_i64]; omega
          have ew2 : (j : Int) - 1 = (k : Int) := by omega
          have hk0 : (0 : Int) ≤ k := by omega
          have hkn : (k : Int) < (i : Int) + 1 := by omega
          have hkn2 : (k : Int) < ((i + 1 : Nat) : Int) := by omega
          have hkn1 : k < i + 1 := by omega
          have hkj : k < j := by omega
          clear hk
          obtain ⟨q, hq⟩ : ∃ q, decide (G j < G k) = q := ⟨_, rfl⟩
          have HQ : Hid (ltInt dj[j]! dj[j - 1]! = q) := by show _ = _; rw [HK.out, ← HG.out, ← HG.out]; exact hq
          go_wp2_with fail
          go_quiet (fail)
          clear hq
          cases q with
          | false =>
            go_wp2_with fail
            go_roundg (n - (i + 1))
            case measure => have := HGK.out; omega
            case rel => exact OUT.out (.inr HQ.out) _ ((Only.refl _ _).drewN _)
          | true =>
            go_wp2_with fail
            go_region
            all_goals go_wp2_with fail
            go_roundg (j - 1)
            case measure => have := HGJ.out; omega
            case rel =>
              refine ⟨j - 1, swp dj j (j - 1), rfl, by rw [HK.out], by omega, by rw [size_swp]; exact SJ.out, ?_, ?_, ?_⟩
              · rw [HK.out, HG.out, HG.out]
                exact (RJ.out.past ((Only.refl _ _).drewN _)).swap j k (by rw [SJ.out]; omega) (by rw [SJ.out]; omega)
              · exact IR.only_swap (OJ.out.drewN _) j k _ _
              · rw [← IJ.out, insInner_go _ _ _ _ hja HQ.out]
        · obtain rfl : j = 0 := by omega
          go_wp2_with fail
          go_quiet (fail)
          go_wp2_with fail
          go_roundg (n - (i + 1))
          case measure => have := HGK.out; omega
          case rel => exact OUT.out (.inl (Nat.le_refl _)) _ ((Only.refl _ _).drewN _)
    · obtain rfl : i = n := by omega
      go_wp2_with fail
      go_ret
      exact ⟨_, rfl, FIN.out _ _ D HD.out HROW.out HPM.out HSO.out, HNEW.out, OO.out⟩
end Go.Proofs.YtfkmjbpnjgnkbaaGreat.H
