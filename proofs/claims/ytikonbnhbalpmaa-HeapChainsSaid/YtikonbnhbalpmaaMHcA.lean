import Derived.Test.YtikonbnhbalpmaaMHcM
import Derived.Test.YtikonbnhbalpmaaMHpN
/-
  The laws on heaps: a heap that a law holds, its calls; rids: by contracts.
-/
namespace Go.Proofs.Ytikonbnhbalpmaa.H
set_option linter.unusedSimpArgs false
open Go Go.RowKit Go.Proofs.Ytikonbnhbalpmaa.D Go.Proofs.Ytikonbnhbalpmaa.B Go.Proofs.Ytikonbnhbalpmaa.C Go.Proofs.Ytikonbnhbalpmaa.G Go.Proofs.Ytikonbnhbalpmaa.P
set_option linter.unusedVariables false
section
variable {w0 w : World} {p hb n k : Nat} {M ids : List Nat} {u : List Bool} {pg : Nat → List UInt8}
/-- What Insert does to a heap that a law holds. -/
structure InsL (w0 w : World) (p hb n k : Nat) (M ids : List Nat) (u : List Bool) (pg : Nat → List UInt8) (row : List UInt8) (xmin : Nat) (r : Nat) (u' : List Bool) (pg' : Nat → List UInt8) (ids' M' : List Nat) (w' : World) : Prop where
  heap : HeapL w0 p hb n M' u' pg' ids' (k + 2 * ids.length + 8) w'
  ins : ∃ id slot, r = id * 128 + slot ∧ Inserted u pg 0 ids row xmin u' pg' ids' id slot
  put : Put (verR pg ids) (verR pg' ids') r ⟨row, xmin, 0, 0⟩
  few : ids'.length ≤ ids.length + 1
  ok : 1 ≤ r ∧ r < W64
  step : Step M M' w w'
theorem HeapL.insert (h : HeapL w0 p hb n M u pg ids k w) (hk : k + 2 * ids.length + 20 ≤ 1000000) (hroom : ids.length < n) {v : Value} {row : List UInt8} (hv : BytesAt w v row) (hvM : ∀ a n c, v = .slice (some a) n c → a.block ∉ M ∧ a.block < w.heap.size) (xmin : Nat) (hx : xmin < W64) (h1 : 1 ≤ row.length) (h2 : row.length ≤ 370) :
    Calls Try.prog 6 #[.pointer (some ⟨hb, 0, none⟩), v, .int .u64 xmin] w fun e w' => ∃ r u' pg' ids' M', e = .returned (.tuple #[.int .u64 (r : Nat), .int .i64 0]) ∧ InsL w0 w p hb n k M ids u pg row xmin r u' pg' ids' M' w' := by
  refine (hinsert_any h.pool hk h.hp h.hbM h.is_ hv hvM xmin hx h1 h2 (room_left h.own (by rw [h.ulen]; exact hroom))).mono ?_
  rintro e w' ⟨u', pg', ids', id, slot, M', rfl, hi, hP, hS⟩
  obtain ⟨hD, hPut, hid, hsl, hs1, _⟩ := hi.done h.is_ h.zero h.pool.size hx h1 h2
  refine ⟨id * 128 + slot, u', pg', ids', M', rfl, h.step hP hS hD.is_ (hD.own h.own) hD.zero hD.len, ⟨id, slot, rfl, hi⟩, hPut, ?_, ⟨by omega, by unfold W64; omega⟩, hS⟩
  cases hi with
  | here => omega
  | more => simp
theorem HeapL.stamp (h : HeapL w0 p hb n M u pg ids k w) (hk : k + 10 ≤ 1000000) {r : Nat} {v : Ver} (hv : verR pg ids r = some v) (x nx : Nat) (hx : x < W64) (hnx : nx < W64) :
    Calls Try.prog 7 #[.pointer (some ⟨hb, 0, none⟩), .int .u64 r, .int .u64 x, .int .u64 nx] w fun e w' => ∃ pg' M', e = .returned (.int .i64 0) ∧ HeapL w0 p hb n M' u pg' ids (k + 4) w' ∧ verR pg' ids r = some ⟨v.row, v.xmin, x, nx⟩ ∧ (∀ y, y ≠ r → verR pg' ids y = verR pg ids y) ∧ Step M M' w w' := by
  have hver := verR_some hv
  refine (stamp_yes h.pool hk h.hp h.hbM h.is_ r hver x nx hx hnx).mono ?_
  rintro e w' ⟨q, M', rfl, hq, hP, hS⟩
  have hxm : v.xmin < W64 := by
    obtain ⟨_, _, _, hp⟩ := h.is_.at hver.1
    obtain ⟨_, s, _, _, h3, _, _, h6⟩ := verAt_some hp hver.2
    rw [h6]
    exact unle_w (by rw [List.length_take]; omega)
  obtain ⟨d1, d2, d3⟩ := stamp_done h.is_ hver hxm hx hnx hq
  exact ⟨_, M', rfl, h.step hP hS d1 h.own h.zero rfl, d2, d3, hS⟩
theorem HeapL.stampNo (h : HeapL w0 p hb n M u pg ids k w) (hk : k + 10 ≤ 1000000) {r : Nat} (hr : r < W64) (hv : verR pg ids r = none) (x nx : Nat) :
    Calls Try.prog 7 #[.pointer (some ⟨hb, 0, none⟩), .int .u64 r, .int .u64 x, .int .u64 nx] w fun e w' => ∃ M', e = .returned (.int .i64 91) ∧ HeapL w0 p hb n M' u pg ids (k + 2) w' ∧ Step M M' w w' := by
  refine (stamp_no h.pool (by omega) h.hp h.hbM h.is_ r hr (verR_none h.own hv) x nx).mono ?_
  rintro e w' ⟨rfl, M', hP, hS⟩
  exact ⟨M', rfl, h.step hP hS h.is_ h.own h.zero rfl, hS⟩
theorem HeapL.chain (h : HeapL w0 p hb n M u pg ids k w) {r : Nat} (hr : r < W64) {v0 : Ver} (hv : verR pg ids r = some v0) (K : Nat) (hfin : ∀ l : List Nat, l.Nodup → (∀ x ∈ l, verR pg ids x ≠ none) → l.length ≤ K) (hk : k + 2 * K + 10 ≤ 1000000) (hK : K ≤ 100000) :
    Calls Try.prog 8 #[.pointer (some ⟨hb, 0, none⟩), .int .u64 r] w fun e w' => ∃ v M', e = .returned (.tuple #[v, .int .i64 0]) ∧ RidRow w' v (chainP (verR pg ids) (K + 1) [] r) ∧ (∀ x, v.ownBlock = some x → w.heap.size ≤ x ∧ x ∉ M') ∧ HeapL w0 p hb n M' u pg ids (k + 2 * K + 4) w' ∧ Step M M' w w' := by
  refine (hchain_some h.pool h.hp h.hbM h.is_ h.own r hr hv K hfin hk hK).mono ?_
  rintro e w' ⟨v, M', rfl, hrow, hnew, hP, hS⟩
  exact ⟨v, M', rfl, hrow, hnew, h.step hP hS h.is_ h.own h.zero rfl, hS⟩
end
set_option maxRecDepth 100000 in
set_option maxHeartbeats 1000000 in
theorem rids_any {w : World} {x y : Value} {a b : List Nat} (hx : RidsAt w x a) (hy : RidsAt w y b) (hm : a.length ≤ 1000000) {z : Bool} (hz : decide (a = b) = z) :
    Calls Try.prog 9 #[x, y] w fun e w' => e = .returned (.bool z) ∧ Only [] w w' := by
  obtain ⟨ao, cap, rfl, hc1, hc⟩ := hx
  obtain ⟨bo, cap2, rfl, hc2, hd⟩ := hy
  have HZ := Lib.hid hz
  by_cases hl : a.length = b.length
  · have HC := Lib.hid hc
    have HD := Lib.hid hd
    have hl2 := hl.symm
    rw [hl2] at HD ⊢
    have HL := Lib.hid hl
    clear hc hd hc1 hc2 hl hl2 hz
    generalize hn : a.length = n at *
    have HN := Lib.hid hn
    clear hn
    go_enter Try.func9, Try.ntmps9
    go_wp2_with fail
    go_loopg [5] n (fun gk s3 wr => ∃ j : Nat, gk = n - j ∧ j ≤ n ∧ s3 = .int .i64 j ∧ Only [] w wr ∧ ∀ i, i < j → a.getD i 0 = b.getD i 0)
    case atStart => exact ⟨0, rfl, Nat.zero_le _, rfl, Only.refl _ _, fun i hi => by omega⟩
    case round =>
      obtain ⟨j, hgk, hj, rfl, hO, hs⟩ := hrel
      have HGK := Lib.hid hgk
      have HS := Lib.hid hs
      clear hgk hs
      by_cases hlt : j < n
      · have hj0 : (0 : Int) ≤ j := by omega
        have hj1 : (j : Int) < n := by omega
        obtain ⟨b1, o1, rfl, hcell⟩ := HC.out (by omega)
        obtain ⟨b2, o2, rfl, hcell2⟩ := HD.out (by omega)
        have cj := hO.cell (hcell j hlt) (by simp)
        have dj := hO.cell (hcell2 j hlt) (by simp)
        have HO := Lib.hid hO
        clear hO
        clear hcell hcell2
        have HNE : Hid (a.getD j 0 ≠ b.getD j 0 → z = false) := fun h => by
          rw [← HZ.out]
          exact decide_eq_false (fun e => h (by rw [e]))
        have HY : Hid (a.getD j 0 = b.getD j 0 → ∀ i, i < j + 1 → a.getD i 0 = b.getD i 0) := fun h i hi => by
          by_cases e : i < j
          · exact HS.out i e
          · have : i = j := by omega
            rw [this]; exact h
        generalize a.getD j 0 = x1 at *
        generalize b.getD j 0 = x2 at *
        by_cases he : x1 = x2
        · have HY2 := Lib.hid (HY.out he)
          subst he
          go_wp2_with fail
          go_quiet (fail)
          go_wp2_with fail
          go_roundg (n - (j + 1))
          case measure => have := HGK.out; omega
          case rel => exact ⟨j + 1, rfl, by omega, by go_num, HO.out.drewN nq, HY2.out⟩
        · have e1 : ((x1 : Int) != (x2 : Int)) = true := by simp; omega
          have e2 : ¬ (x1 : Int) = (x2 : Int) := by omega
          have HF := Lib.hid (HNE.out he)
          clear he
          go_wp2_with fail
          go_quiet (fail)
          go_wp2_with fail
          go_ret
          rw [HF.out]
          exact ⟨rfl, HO.out.drewN nq⟩
      · obtain rfl : j = n := by omega
        have HT : Hid (z = true) := by
          show _ = _
          rw [← HZ.out]
          refine decide_eq_true (List.ext_getElem (HN.out.trans HL.out) (fun i h1 h2 => ?_))
          have := HS.out i (by rw [← HN.out]; exact h1)
          rw [List.getD_eq_getElem?_getD, List.getD_eq_getElem?_getD, List.getElem?_eq_getElem h1, List.getElem?_eq_getElem h2] at this
          exact this
        go_wp2_with fail
        go_ret
        rw [HT.out]
        exact ⟨rfl, hO⟩
  · have HF : Hid (z = false) := by
      show _ = _
      rw [← hz]
      exact decide_eq_false (fun e => hl (by rw [e]))
    have e1 : ((a.length : Int) != (b.length : Int)) = true := by simp; omega
    have e2 : ¬ (a.length : Int) = (b.length : Int) := by omega
    clear hc hd hc1 hc2 hl hz
    generalize a.length = la at *
    generalize b.length = lb at *
    go_enter Try.func9, Try.ntmps9
    go_wp2_with fail
    go_ret
    rw [HF.out]
    exact ⟨rfl, Only.refl _ _⟩
end Go.Proofs.Ytikonbnhbalpmaa.H
