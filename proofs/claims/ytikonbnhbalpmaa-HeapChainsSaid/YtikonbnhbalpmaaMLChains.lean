import Derived.Test.YtikonbnhbalpmaaMHcA
import Derived.Test.YtikonbnhbalpmaaMOpen
import Derived.Deep.LoopGhost
/-
  The walk of HeapChains.
-/
namespace Go.Proofs.Ytikonbnhbalpmaa.H
set_option linter.unusedSimpArgs false
open Go Go.RowKit Go.Proofs.Ytikonbnhbalpmaa.D Go.Proofs.Ytikonbnhbalpmaa.B Go.Proofs.Ytikonbnhbalpmaa.C Go.Proofs.Ytikonbnhbalpmaa.G Go.Proofs.Ytikonbnhbalpmaa.P
set_option linter.unusedVariables false
/-! ### plain -/
/-- What a version holds when i of n are stamped. -/
def GV (L : List Nat) (n : Nat) (ring : Bool) (i j : Nat) : Ver :=
  if j < i then ⟨[UInt8.ofNat (j + 1)], j, j + 1, if j + 1 < n then L.getD (j + 1) 0 else if ring then L.getD 0 0 else 0⟩ else ⟨[UInt8.ofNat (j + 1)], j, 0, 0⟩
theorem GV_zero (L : List Nat) (n : Nat) (ring : Bool) : GV L n ring 0 = fun j => ⟨[UInt8.ofNat (j + 1)], j, 0, 0⟩ := by
  funext j; unfold GV; rw [if_neg (by omega)]
theorem GV_self (L : List Nat) (n : Nat) (ring : Bool) (i : Nat) : GV L n ring i i = ⟨[UInt8.ofNat (i + 1)], i, 0, 0⟩ := if_neg (by omega)
theorem GV_done (L : List Nat) (n : Nat) (ring : Bool) (i : Nat) : GV L n ring (i + 1) i = ⟨[UInt8.ofNat (i + 1)], i, i + 1, if i + 1 < n then L.getD (i + 1) 0 else if ring then L.getD 0 0 else 0⟩ := if_pos (by omega)
theorem GV_other (L : List Nat) (n : Nat) (ring : Bool) {i j : Nat} (h : j ≠ i) : GV L n ring (i + 1) j = GV L n ring i j := by
  unfold GV
  by_cases h1 : j < i
  · rw [if_pos h1, if_pos (by omega)]
  · rw [if_neg h1, if_neg (by omega)]
def wantC (L : List Nat) (fr : Nat) (ring : Bool) : List Nat := L.drop fr ++ (if ring then L.take fr else [])
theorem wantC_len {L : List Nat} {fr : Nat} (h : fr < L.length) (ring : Bool) : (wantC L fr ring).length = if ring then L.length else L.length - fr := by
  unfold wantC
  cases ring
  · simp
  · simp; omega
theorem wantC_get {L : List Nat} {fr i : Nat} (h : fr < L.length) (ring : Bool) (hi : i < (wantC L fr ring).length) : (wantC L fr ring).getD i 0 = L.getD (if fr + i < L.length then fr + i else fr + i - L.length) 0 := by
  rw [wantC_len h] at hi
  unfold wantC
  by_cases h1 : fr + i < L.length
  · rw [if_pos h1, getD_append_lt (by rw [List.length_drop]; omega), List.getD_eq_getElem?_getD, List.getD_eq_getElem?_getD, List.getElem?_drop]
  · rw [if_neg h1]
    cases ring
    · simp at hi; omega
    · simp only [if_true] at hi ⊢
      rw [List.getD_eq_getElem?_getD, List.getD_eq_getElem?_getD, List.getElem?_append_right (by rw [List.length_drop]; omega), List.length_drop, List.getElem?_take, if_pos (by omega)]
      congr 2; omega
theorem chain_want {V : Nat → Option Ver} {L : List Nat} {n fr : Nat} {ring : Bool} (h : Vers V L (GV L n ring n)) (hl : L.length = n) (hfr : fr < n) (hn : n ≤ 40) : chainP V 41 [] (L.getD fr 0) = wantC L fr ring := by
  subst hl
  have hlen := wantC_len hfr ring
  have hle : (wantC L fr ring).length ≤ L.length := by rw [hlen]; split <;> omega
  have hnd : (wantC L fr ring).Nodup := by
    unfold wantC
    cases ring
    · simpa using h.nodup.sublist (List.drop_sublist fr L)
    · simp only [if_true]
      have := h.nodup
      rw [← List.take_append_drop fr L] at this
      exact (List.perm_append_comm).nodup_iff.1 this
  have key := chain_walk (V := V) hnd (fun i hi => ?_) 41 0 (by rw [hlen]; split <;> omega) (by omega)
  · rw [List.take_zero, wantC_get hfr ring (by rw [hlen]; split <;> omega), if_pos (by omega)] at key
    exact key
  · rw [wantC_get hfr ring hi]
    rw [hlen] at hi
    generalize hj : (if fr + i < L.length then fr + i else fr + i - L.length) = j
    have hjl : j < L.length := by rw [← hj]; split <;> (first | omega | (split at hi <;> omega))
    have hv := h.at_ j hjl
    refine ⟨_, hv, fun h1 => ?_, fun h1 => ?_⟩
    · have e : (GV L L.length ring L.length j).next = (if j + 1 < L.length then L.getD (j + 1) 0 else if ring then L.getD 0 0 else 0) := by unfold GV; rw [if_pos hjl]
      have e2 : (wantC L fr ring).getD (i + 1) 0 = (GV L L.length ring L.length j).next := by
        rw [wantC_get hfr ring h1, e]
        rw [hlen] at h1
        by_cases h2 : fr + i < L.length
        · rw [if_pos h2] at hj
          by_cases h3 : j + 1 < L.length
          · rw [if_pos h3, if_pos (by omega)]; congr 1; omega
          · rw [if_neg h3, if_neg (by omega)]
            cases ring
            · simp at h1; omega
            · simp only [if_true]; congr 1; omega
        · rw [if_neg h2] at hj
          cases ring
          · simp at h1; omega
          · simp at h1
            rw [if_neg (by omega), if_pos (by omega)]; congr 1; omega
      refine ⟨e2.symm, ?_⟩
      rw [← e2, wantC_get hfr ring h1]
      rw [hlen] at h1
      refine Nat.ne_of_gt (h.ok _ (getD_mem ?_)).1
      split <;> (first | omega | (split at h1 <;> omega))
    · have e : (GV L L.length ring L.length j).next = (if j + 1 < L.length then L.getD (j + 1) 0 else if ring then L.getD 0 0 else 0) := by unfold GV; rw [if_pos hjl]
      rw [hlen] at h1
      cases ring
      · left
        simp at h1
        rw [if_pos (by omega)] at hj
        rw [e, if_neg (by omega)]; rfl
      · right
        simp only [if_true] at h1
        have e3 : (wantC L fr true) = L.drop fr ++ L.take fr := by simp [wantC]
        have : ∀ x ∈ L, x ∈ wantC L fr true := fun x hx => by
          rw [e3, List.mem_append]
          rw [← List.take_append_drop fr L, List.mem_append] at hx
          exact hx.symm
        apply this
        rw [e]
        split
        · exact getD_mem (by omega)
        · exact getD_mem (by omega)
/-! ### the walk -/
set_option maxRecDepth 100000 in
set_option maxHeartbeats 4000000 in
theorem chains_out {w : World} (n : Int) (bn : -9223372036854775808 ≤ n ∧ n ≤ 9223372036854775807) (fr : Int) (bf : -9223372036854775808 ≤ fr ∧ fr ≤ 9223372036854775807) (ring : Bool) (ho : ¬ (1 ≤ n ∧ n ≤ 40 ∧ 0 ≤ fr ∧ fr < n)) :
    Calls Try.prog 3 #[.int .i64 n, .int .i64 fr, .bool ring] w fun e w' => e = .returned (.bool true) ∧ Below w.heap.size w w' := by
  have K := Lib.hid (known_any w)
  by_cases h1 : n < 1
  · clear ho
    go_enter Try.func3, Try.ntmps3
    go_wp2_with (go_at_call 4; refine K.out.mono ?_; rintro e w1 ⟨rfl, hO1⟩; have O1 := Lib.hid hO1; clear hO1)
    go_ret
    exact ⟨rfl, O1.out.below (Nat.le_refl _) (by simp)⟩
  by_cases h2 : 40 < n
  · clear ho
    go_enter Try.func3, Try.ntmps3
    go_wp2_with (go_at_call 4; refine K.out.mono ?_; rintro e w1 ⟨rfl, hO1⟩; have O1 := Lib.hid hO1; clear hO1)
    go_ret
    exact ⟨rfl, O1.out.below (Nat.le_refl _) (by simp)⟩
  by_cases h3 : fr < 0
  · clear ho
    go_enter Try.func3, Try.ntmps3
    go_wp2_with (go_at_call 4; refine K.out.mono ?_; rintro e w1 ⟨rfl, hO1⟩; have O1 := Lib.hid hO1; clear hO1)
    go_ret
    exact ⟨rfl, O1.out.below (Nat.le_refl _) (by simp)⟩
  have h4 : n ≤ fr := by omega
  clear ho
  go_enter Try.func3, Try.ntmps3
  go_wp2_with (go_at_call 4; refine K.out.mono ?_; rintro e w1 ⟨rfl, hO1⟩; have O1 := Lib.hid hO1; clear hO1)
  go_ret
  exact ⟨rfl, O1.out.below (Nat.le_refl _) (by simp)⟩
theorem RidRow.cells {w : World} {ao : Option Addr} {n cap : Nat} {L : List Nat} (h : RidRow w (.slice ao n cap) L) (hl : L.length = n) (h0 : 0 < n) : ∃ b o, ao = some ⟨b, o, none⟩ ∧ n ≤ cap ∧ ∀ j, j < n → w.cell? ⟨b, o + j, none⟩ = some (.int .u64 (L.getD j 0 : Nat)) := by
  obtain ⟨ao', cap', he, hc, hx⟩ := h.at
  simp only [Value.slice.injEq] at he
  obtain ⟨rfl, _, rfl⟩ := he
  subst hl
  obtain ⟨b, o, rfl, hx2⟩ := hx h0
  exact ⟨b, o, rfl, hc, hx2⟩
theorem u64s_at {l : List Nat} {i : Nat} {u : Value} (h : (u64s l)[i]? = some u) : i < l.length ∧ u = .int .u64 (l.getD i 0 : Nat) := by
  rw [u64s, List.getElem?_map] at h
  cases hi : l[i]? with
  | none => rw [hi] at h; cases h
  | some r =>
    rw [hi] at h
    obtain ⟨hl, _⟩ := List.getElem?_eq_some_iff.1 hi
    refine ⟨hl, ?_⟩
    rw [List.getD_eq_getElem?_getD, hi]
    exact (Option.some.inj h).symm
theorem u64s_drop {w : World} {b o n : Nat} {L : List Nat} (hl : L.length = n) (h : ∀ t, t < n → w.cell? ⟨b, o + t, none⟩ = some (.int .u64 (L.getD t 0 : Nat))) (k i : Nat) (u : Value) (hu : (u64s (L.drop k))[i]? = some u) : w.cell? ((⟨b, o + k, none⟩ : Addr).add i) = some u := by
  obtain ⟨h1, rfl⟩ := u64s_at hu
  rw [List.length_drop] at h1
  rw [add_plain, Nat.add_assoc, h (k + i) (by omega), List.getD_eq_getElem?_getD, List.getD_eq_getElem?_getD, List.getElem?_drop]
theorem u64s_take {w : World} {b o n : Nat} {L : List Nat} (hl : L.length = n) (h : ∀ t, t < n → w.cell? ⟨b, o + t, none⟩ = some (.int .u64 (L.getD t 0 : Nat))) (k i : Nat) (u : Value) (hu : (u64s (L.take k))[i]? = some u) : w.cell? ((⟨b, o, none⟩ : Addr).add i) = some u := by
  obtain ⟨h1, rfl⟩ := u64s_at hu
  rw [List.length_take] at h1
  rw [add_plain, h i (by omega), List.getD_eq_getElem?_getD, List.getD_eq_getElem?_getD, List.getElem?_take, if_pos (by omega)]
theorem u64s_one (l : List Nat) : ∀ u ∈ u64s l, u.oneCell' = true := fun u hu => by
  obtain ⟨r, _, rfl⟩ := List.mem_map.1 hu
  rfl
theorem HeapL.more {w0 w : World} {p hb n k k' : Nat} {M ids : List Nat} {u : List Bool} {pg : Nat → List UInt8} (h : HeapL w0 p hb n M u pg ids k w) (hk : k ≤ k') : HeapL w0 p hb n M u pg ids k' w :=
  ⟨h.pool.more hk, h.hp, h.hbM, h.hb0, h.is_, h.own, h.zero, h.ulen, h.new, h.only⟩
set_option maxRecDepth 100000 in
set_option maxHeartbeats 4000000 in
theorem chains_main {w : World} (n fr : Nat) (ring : Bool) (h1 : 1 ≤ n) (h2 : n ≤ 40) (h3 : fr < n) :
    Calls Try.prog 3 #[.int .i64 n, .int .i64 fr, .bool ring] w fun e w' => e = .returned (.bool true) ∧ Below w.heap.size w w' := by
  have K := Lib.hid (known_any w)
  have MD : Hid (∀ w1, Only [] w w1 → Calls Try.prog 5 #[.int .i64 200] w1 fun e w' => ∃ p hb M, e = .returned (.tuple #[.pointer (some ⟨p, 0, none⟩), .pointer (some ⟨hb, 0, none⟩)]) ∧ HeapL w p hb 200 M (usedN 200) pg0 [0] 4 w') := fun w1 hO => by
    refine (made_any w1 200 (by omega) (by omega)).mono ?_
    rintro e w' ⟨p, hb, M, rfl, hM⟩
    exact ⟨p, hb, M, rfl, HeapL.made (by omega) hO hM⟩
  have g1 : ¬ (n : Int) < 1 := by omega
  have g2 : ¬ (40 : Int) < n := by omega
  have g3 : ¬ (fr : Int) < 0 := by omega
  have g4 : ¬ (n : Int) ≤ fr := by omega
  go_enter Try.func3, Try.ntmps3
  go_wp2_with (first
    | (go_at_call 4; refine K.out.mono ?_; rintro e w1 ⟨rfl, hO1⟩; have O1 := Lib.hid hO1; clear hO1)
    | (go_at_call 5; refine (MD.out _ O1.out).mono ?_; rintro e w2 ⟨p, hb, M2, rfl, hH2⟩; have H2 := Lib.hid hH2; clear hH2))
  clear g1 g2 g3 g4
  go_loopg [9, 10] n (fun gk s9 s10 wr => ∃ (i : Nat) (L : List Nat) (M : List Nat) (u : List Bool) (pg : Nat → List UInt8) (ids : List Nat), gk = n - i ∧ i ≤ n ∧ s10 = .int .i64 i ∧ L.length = i ∧ HeapL w p hb 200 M u pg ids (4 + 100 * i) wr ∧ ids.length ≤ i + 1 ∧ Vers (verR pg ids) L (fun j => ⟨[UInt8.ofNat (j + 1)], j, 0, 0⟩) ∧ RidRow wr s9 L ∧ ∀ x, s9.ownBlock = some x → w.heap.size ≤ x ∧ x ∉ M ∧ x ≠ hb)
  case atStart => exact ⟨0, [], M2, usedN 200, pg0, [0], rfl, Nat.zero_le _, rfl, rfl, H2.out, by simp, Vers.nil (heap_first (n := 200) (by omega)).2.2.2.2 _, ⟨rfl, .inl ⟨rfl, rfl⟩⟩, fun x hx => by simp [Value.ownBlock] at hx⟩
  case round =>
    obtain ⟨i, L, M, u, pg, ids, hgk, hi, rfl, hL, hH, hids, hV, hR, hN⟩ := hrel
    have HGK := Lib.hid hgk
    have HL := Lib.hid hL
    have HH := Lib.hid hH
    have HI := Lib.hid hids
    have HV := Lib.hid hV
    have HR := Lib.hid hR
    have HN := Lib.hid hN
    obtain ⟨ao, cap, rfl, hcap, hcell⟩ := hR.at
    rename World => wr
    rw [hL] at hcap ⊢
    clear hgk hL hH hids hV hR hN hcell
    by_cases hlt : i < n
    · have hi0 : (0 : Int) ≤ i := by omega
      have hi1 : (i : Int) < n := by omega
      have hB : ∀ b : UInt8, UInt8.ofNat (i + 1) = b → (b.toNat : Int) = (i : Int) + 1 := fun b h => by
        rw [← h, UInt8.toNat_ofNat']; omega
      generalize hb8 : UInt8.ofNat (i + 1) = b8 at *
      have HB := Lib.hid hb8
      have hbi := hB b8 rfl
      have IN : Hid (∀ w1 v, Only [] wr w1 → BytesAt w1 v [b8] → (∀ a n c, v = .slice (some a) n c → a.block ∉ M ∧ a.block < w1.heap.size) → Calls Try.prog 6 #[.pointer (some ⟨hb, 0, none⟩), v, .int .u64 i] w1 fun e w' => ∃ r u' pg' ids' M', e = .returned (.tuple #[.int .u64 (r : Nat), .int .i64 0]) ∧ InsL w w1 p hb 200 (4 + 100 * i) M ids u pg [b8] i r u' pg' ids' M' w') := fun w1 v hO hv hvM => by
        have := HI.out
        exact (HH.out.past hO).insert (by omega) (by omega) hv hvM i (by unfold W64; omega) (by simp) (by simp)
      clear hB hb8
      have RI : Hid (wr.ownsRow 0 29 1 (.slice ao i cap) i (u64s L)) := by
        have h := HR.out
        unfold RidRow at h
        rw [HL.out] at h
        exact Lib.hid h
      have EQA : Hid ((#[Value.int .u8 ((i : Int) + 1)] : Array Value) = (u8s [b8]).toArray) := by show _ = _; rw [← hbi]; rfl
      go_wp2_with fail
      go_at_call 6
      rw [EQA.out]
      refine (IN.out _ _ ((Only.refl [] wr).alloc _) (bytes_made _ rfl) (fun a n c h => by cases h; exact ⟨fun hm => Nat.lt_irrefl _ (HH.out.pool.lt _ hm), by rw [World.size_alloc]; exact Nat.lt_succ_self _⟩)).mono ?_
      rintro e w3 ⟨r, u3, pg3, ids3, M3, rfl, hI3⟩
      have I3 := Lib.hid hI3
      have RW3 := Lib.hid (show w3.ownsRow 0 29 1 (.slice ao i cap) i (u64s L) from owns_later (owns_later RI.out ((Only.refl [] wr).alloc (.cells (u8s [b8]).toArray 5)) (by simp)) hI3.step.1 (fun x hx => (HN.out x (by rw [HL.out]; exact hx)).2.1))
      clear hI3
      go_wp2_with (refine wpList_push rfl (.tmp 59) (.tmp 61) 27 rfl 29 Try.underlying27 (info_parts info_rid) rfl (.slice ao i cap) i (u64s L) rfl (by exact owns_later RW3.out ((Only.refl [] w3).alloc _) (by simp)) _ _ _ rfl (by exact (Blk.new _ _ _).cell 0) rfl (by omega) (by decide) ?_; intro g6 cp w6 hown hO6 hat hg6)
      have XN : ∀ x ∈ (Value.slice ao i cap).ownBlock.toList, x ∉ M3 ∧ x ≠ hb ∧ w.heap.size ≤ x := fun x hx => by
        have hx := Option.mem_toList.1 hx
        have h1 := HN.out x (by rw [HL.out]; exact hx)
        have h2 := owns_lt RI.out hx
        exact ⟨P.Step.keep I3.out.step (by rw [World.size_alloc]; omega) h1.2.1, h1.2.2, h1.1⟩
      have RW4 : (w3.alloc (.cells #[.int .u64 r] 29)).ownsRow 0 29 1 (.slice ao i cap) i (u64s L) := owns_later RW3.out ((Only.refl [] w3).alloc _) (by simp)
      have H6 := Lib.hid (((I3.out.heap.past ((Only.refl [] w3).alloc (.cells #[.int .u64 r] 29))).later hO6 (fun x hx cs hcs => owns_ne RW4 hcs (by decide) (Option.mem_toList.1 hx)) XN).more (k' := 4 + 100 * (i + 1)) (by have := HI.out; omega))
      have R6 : Hid (RidRow w6 (.slice (some ⟨g6, 0, none⟩) (i + 1) cp) (L ++ [r])) := rid_push (by rw [HL.out]; exact hown)
      have N6 : Hid (g6 ∉ M3 ∧ g6 ≠ hb ∧ w.heap.size ≤ g6) := by
        rcases hat with h | h
        · exact XN g6 (Option.mem_toList.2 h)
        · rw [World.size_alloc] at h
          have h1 := I3.out.heap.pool.lt
          have h2 := I3.out.heap.hp.lt
          have h3 := I3.out.heap.only.size
          exact ⟨fun hm => by have := h1 _ hm; omega, by omega, by omega⟩
      have V6 : Hid (Vers (verR pg3 ids3) (L ++ [r]) (fun j => ⟨[UInt8.ofNat (j + 1)], j, 0, 0⟩)) := HV.out.put I3.out.put (by rw [HL.out, HB.out]) I3.out.ok.1 I3.out.ok.2
      clear XN RW4 hown hO6 hat hg6
      go_roundg (n - (i + 1))
      case measure => have := HGK.out; omega
      case rel => exact ⟨i + 1, L ++ [r], M3, u3, pg3, ids3, rfl, by omega, by go_num, by rw [List.length_append, HL.out]; rfl, H6.out, by have := I3.out.few; have := HI.out; omega, V6.out, R6.out, fun x hx => by
        simp only [Value.ownBlock, Option.some.injEq] at hx
        subst hx
        exact ⟨N6.out.2.2, N6.out.1, N6.out.2.1⟩⟩
    · obtain rfl : i = n := by omega
      have hni : ¬ (i : Int) < i := by omega
      have V0 : Hid (Vers (verR pg ids) L (GV L i ring 0)) := by show Vers _ _ _; rw [GV_zero]; exact HV.out
      have HK := HI.out
      have H0 := Lib.hid (HH.out.more (k' := 4104) (by omega))
      have HN0 : Hid (∀ x, (Value.slice ao i cap).ownBlock = some x → w.heap.size ≤ x ∧ x < wr.heap.size ∧ x ∉ M ∧ x ≠ hb) := fun x hx => by
        have hx2 := HN.out x (by rw [HL.out]; exact hx)
        have h3 := owns_lt HR.out (show (Value.slice ao L.length cap).ownBlock = some x by rw [HL.out]; exact hx)
        exact ⟨hx2.1, h3, hx2.2.1, hx2.2.2⟩
      clear HV HI HH HK
      go_wp2_with fail
      go_loopg [13] i (fun gq s13 wy => ∃ (j : Nat) (Mj : List Nat) (pgj : Nat → List UInt8), gq = i - j ∧ j ≤ i ∧ s13 = .int .i64 j ∧ HeapL w p hb 200 Mj u pgj ids (4104 + 4 * j) wy ∧ Vers (verR pgj ids) L (GV L i ring j) ∧ Step M Mj wr wy)
      case atStart => exact ⟨0, M, pg, rfl, Nat.zero_le _, rfl, H0.out, V0.out, Step.refl _ _⟩
      case round =>
        obtain ⟨j, Mj, pgj, hgq, hj, rfl, hHj, hVj, hSj⟩ := hrel
        rename World => wy
        have HGQ := Lib.hid hgq
        have HJ := Lib.hid hHj
        have VJ := Lib.hid hVj
        have SJ := Lib.hid hSj
        have RJ := Lib.hid (show RidRow wy (.slice ao i cap) L by
          have h := owns_later HR.out SJ.out.1 (fun x hx => (HN0.out x (by rw [HL.out] at hx; exact hx)).2.2.1)
          rw [HL.out] at h
          unfold RidRow
          rw [HL.out]
          exact h)
        clear hgq hHj hVj hSj
        by_cases hlt : j < i
        · have hj0 : (0 : Int) ≤ j := by omega
          have hj1 : (j : Int) < i := by omega
          obtain ⟨b, o, rfl, hcap2, hcell⟩ := RJ.out.cells HL.out (by omega)
          have cj := hcell j hlt
          have CN : Hid (∀ t, t < i → wy.cell? ⟨b, o + t, none⟩ = some (.int .u64 (L.getD t 0 : Nat))) := hcell
          clear hcell
          have hv := VJ.out.at_ j (by rw [HL.out]; exact hlt)
          rw [GV_self] at hv
          have ST : Hid (∀ nx, nx < W64 → (nx = if j + 1 < i then L.getD (j + 1) 0 else if ring then L.getD 0 0 else 0) → ∀ w1, Only [] wy w1 → Calls Try.prog 7 #[.pointer (some ⟨hb, 0, none⟩), .int .u64 (L.getD j 0 : Nat), .int .u64 ((j : Int) + 1), .int .u64 nx] w1 fun e w' => ∃ pg' M', e = .returned (.int .i64 0) ∧ HeapL w p hb 200 M' u pg' ids (4104 + 4 * (j + 1)) w' ∧ Vers (verR pg' ids) L (GV L i ring (j + 1)) ∧ Step M M' wr w') := fun nx hnx he w1 hO => by
            have h := (HJ.out.past hO).stamp (by omega) hv (j + 1) nx (by unfold W64; omega) hnx
            rw [Int.natCast_add, show ((1 : Nat) : Int) = 1 from rfl] at h
            refine h.mono ?_
            rintro e w' ⟨pg', M', rfl, hH', hv', hr', hS'⟩
            exact ⟨pg', M', rfl, hH'.more (by omega), VJ.out.stamp (by rw [HL.out]; exact hlt) (by rw [hv', GV_done, he]) hr' (fun t ht => GV_other _ _ _ ht), (SJ.out.then hO).trans hS'⟩
          have OKW : Hid (∀ t, t < i → L.getD t 0 < W64) := fun t ht => (VJ.out.ok _ (getD_mem (by rw [HL.out]; exact ht))).2
          generalize L.getD j 0 = rj at *
          by_cases hc1 : j + 1 < i
          · have hc1i : (j : Int) + 1 < i := by omega
            have hc10 : (0 : Int) ≤ (j : Int) + 1 := by omega
            have cn := CN.out (j + 1) hc1
            have ST2 := Lib.hid (ST.out (L.getD (j + 1) 0) (OKW.out _ hc1) (by rw [if_pos hc1]))
            generalize L.getD (j + 1) 0 = nx at *
            go_wp2_with (go_at_call 7; refine (ST2.out _ (Only.refl _ _)).mono ?_; rintro e w5 ⟨pg5, M5, rfl, hH5, hV5, hS5⟩; have H5 := Lib.hid hH5; have V5 := Lib.hid hV5; have S5 := Lib.hid hS5; clear hH5 hV5 hS5)
            go_roundg (i - (j + 1))
            case measure => have := HGQ.out; omega
            case rel => exact ⟨j + 1, M5, pg5, rfl, by omega, by go_num, H5.out, V5.out, S5.out⟩
          · have hc1i : ¬ (j : Int) + 1 < i := by omega
            cases hring : ring with
            | true =>
              have cn := CN.out 0 (by omega)
              rw [Nat.add_zero] at cn
              have ST2 := Lib.hid (ST.out (L.getD 0 0) (OKW.out _ (by omega)) (by rw [if_neg hc1, hring]; rfl))
              generalize L.getD 0 0 = nx at *
              subst hring
              go_wp2_with (go_at_call 7; refine (ST2.out _ (Only.refl _ _)).mono ?_; rintro e w5 ⟨pg5, M5, rfl, hH5, hV5, hS5⟩; have H5 := Lib.hid hH5; have V5 := Lib.hid hV5; have S5 := Lib.hid hS5; clear hH5 hV5 hS5)
              go_roundg (i - (j + 1))
              case measure => have := HGQ.out; omega
              case rel => exact ⟨j + 1, M5, pg5, rfl, by omega, by go_num, H5.out, V5.out, S5.out⟩
            | false =>
              have ST2 := Lib.hid (ST.out 0 (by decide) (by rw [if_neg hc1, hring]; rfl))
              subst hring
              go_wp2_with (go_at_call 7; refine (ST2.out _ (Only.refl _ _)).mono ?_; rintro e w5 ⟨pg5, M5, rfl, hH5, hV5, hS5⟩; have H5 := Lib.hid hH5; have V5 := Lib.hid hV5; have S5 := Lib.hid hS5; clear hH5 hV5 hS5)
              go_roundg (i - (j + 1))
              case measure => have := HGQ.out; omega
              case rel => exact ⟨j + 1, M5, pg5, rfl, by omega, by go_num, H5.out, V5.out, S5.out⟩
        · obtain rfl : j = i := by omega
          have hni2 : ¬ (j : Int) < j := by omega
          have hf0 : (0 : Int) ≤ fr := by omega
          have hf1 : (fr : Int) < j := by omega
          obtain ⟨b, o, rfl, hcap2, hcell⟩ := RJ.out.cells HL.out (by omega)
          have cf := hcell fr h3
          have CN : Hid (∀ t, t < j → wy.cell? ⟨b, o + t, none⟩ = some (.int .u64 (L.getD t 0 : Nat))) := hcell
          clear hcell
          have hv := VJ.out.at_ fr (by rw [HL.out]; exact h3)
          have hfin := fin_of VJ.out.only
          rw [HL.out] at hfin
          have CH := Lib.hid (HJ.out.chain (VJ.out.ok _ (getD_mem (by rw [HL.out]; exact h3))).2 hv 40 (fun l h1 h2 => Nat.le_trans (hfin l h1 h2) (by omega)) (by omega) (by omega))
          rw [chain_want VJ.out HL.out h3 (by omega)] at CH
          clear hv hfin
          generalize L.getD fr 0 = rf at *
          have HBM : Hid (b ∉ Mj) := P.Step.keep SJ.out (HN0.out b rfl).2.1 (HN0.out b rfl).2.2.1
          have CN5 : ∀ w5 M5, Step Mj M5 wy w5 → ∀ t, t < j → w5.cell? ⟨b, o + t, none⟩ = some (.int .u64 (L.getD t 0 : Nat)) := fun w5 M5 hS t ht => hS.1.cell (CN.out t ht) HBM.out
          cases hring : ring with
          | true =>
            subst hring
            go_wp2_with (first
              | (go_at_call 8; refine CH.out.mono ?_; rintro e w5 ⟨v5, M5, rfl, hR5, hN5, hH5, hS5⟩; have R5 := Lib.hid hR5; have S5 := Lib.hid hS5; have H5 := Lib.hid hH5; clear hR5 hN5 hH5 hS5)
              | (refine wpList_grow rfl (.const (.slice none 0 0)) (.tmp 103) 27 rfl 29 Try.underlying27 (info_parts info_rid) rfl (by decide) (.slice none 0 0) 0 [] rfl ⟨rfl, .inl ⟨rfl, rfl⟩⟩ (some ⟨b, o + fr, none⟩) (j - fr) (cap - fr) rfl (u64s (L.drop fr)) (by rw [u64s_len, List.length_drop, HL.out, Nat.mul_one]) (fun _ => ⟨_, rfl, u64s_drop HL.out (CN5 _ _ S5.out) fr⟩) (u64s_one _) (by omega) (by decide) ?_; intro v6 w6 hg6; have G6 := Lib.hid hg6; have R6 := Lib.hid (show RidRow w6 v5 (wantC L fr true) from owns_later R5.out hg6.only (by simp [Value.ownBlock])); obtain ⟨ao6, cap6, rfl⟩ := hg6.shape; have OWN6 : Hid (w6.ownsRow 0 29 1 (.slice ao6 (j - fr) cap6) (j - fr) (u64s (L.drop fr))) := (by have h := hg6.own; rw [Nat.zero_add] at h; exact h); have B6 : Hid (∀ k, (Value.slice ao6 (j - fr) cap6).ownBlock = some k → w5.heap.size ≤ k) := (fun k hk => by rw [← Nat.zero_add (j - fr)] at hk; rcases hg6.lies k hk with h | h; (· cases h); exact h); have O6 : Hid (Only [] w5 w6) := hg6.only; clear G6 hg6)
              | (refine wpList_grow rfl (.tmp 106) (.tmp 109) 27 rfl 29 Try.underlying27 (info_parts info_rid) rfl (by decide) (.slice ao6 (j - fr) cap6) (j - fr) (u64s (L.drop fr)) rfl OWN6.out (some ⟨b, o, none⟩) fr cap rfl (u64s (L.take fr)) (by rw [u64s_len, List.length_take, HL.out]; omega) (fun _ => ⟨_, rfl, u64s_take HL.out (fun t ht => O6.out.cell (CN5 _ _ S5.out t ht) (by simp)) fr⟩) (u64s_one _) (by omega) (by decide) ?_; intro v7 w7 hg7; have O7 : Hid (Only [] w5 w7) := O6.out.trans hg7.only (fun x hx => .inr (B6.out x (Option.mem_toList.1 hx))); have R7 := Lib.hid (show RidRow w7 v5 (wantC L fr true) from owns_later R5.out O7.out (by simp)); have W7 : Hid (RidRow w7 v7 (wantC L fr true)) := (by have h := hg7.own; show RidRow _ _ _; unfold RidRow; rw [show wantC L fr true = L.drop fr ++ L.take fr from by simp [wantC], List.length_append, List.length_drop, List.length_take, HL.out, Nat.min_eq_left (by omega), u64s_append]; exact h); obtain ⟨ao7, cap7, rfl⟩ := hg7.shape; clear hg7)
              | (go_at_call 9; refine (rids_any R7.out.at W7.out.at (by rw [wantC_len (by rw [HL.out]; exact h3), if_pos rfl, HL.out]; omega) (z := true) (decide_eq_true rfl)).mono ?_; rintro e w8 ⟨rfl, hO8⟩; have O8 := Lib.hid hO8; clear hO8))
            go_ret
            exact ⟨rfl, ((((HJ.out.only.trans S5.out.1 (fun x hx => .inr (HJ.out.new x hx))).trans O7.out (by simp)).trans O8.out (by simp)).below (Nat.le_refl _) (by simp))⟩
          | false =>
            subst hring
            go_wp2_with (first
              | (go_at_call 8; refine CH.out.mono ?_; rintro e w5 ⟨v5, M5, rfl, hR5, hN5, hH5, hS5⟩; have R5 := Lib.hid hR5; have S5 := Lib.hid hS5; have H5 := Lib.hid hH5; clear hR5 hN5 hH5 hS5)
              | (refine wpList_grow rfl (.const (.slice none 0 0)) (.tmp 103) 27 rfl 29 Try.underlying27 (info_parts info_rid) rfl (by decide) (.slice none 0 0) 0 [] rfl ⟨rfl, .inl ⟨rfl, rfl⟩⟩ (some ⟨b, o + fr, none⟩) (j - fr) (cap - fr) rfl (u64s (L.drop fr)) (by rw [u64s_len, List.length_drop, HL.out, Nat.mul_one]) (fun _ => ⟨_, rfl, u64s_drop HL.out (CN5 _ _ S5.out) fr⟩) (u64s_one _) (by omega) (by decide) ?_; intro v6 w6 hg6; have G6 := Lib.hid hg6; have R6 := Lib.hid (show RidRow w6 v5 (wantC L fr false) from owns_later R5.out hg6.only (by simp [Value.ownBlock])); obtain ⟨ao6, cap6, rfl⟩ := hg6.shape; have OWN6 : Hid (w6.ownsRow 0 29 1 (.slice ao6 (j - fr) cap6) (j - fr) (u64s (L.drop fr))) := (by have h := hg6.own; rw [Nat.zero_add] at h; exact h); have B6 : Hid (∀ k, (Value.slice ao6 (j - fr) cap6).ownBlock = some k → w5.heap.size ≤ k) := (fun k hk => by rw [← Nat.zero_add (j - fr)] at hk; rcases hg6.lies k hk with h | h; (· cases h); exact h); have O6 : Hid (Only [] w5 w6) := hg6.only; have W6 : Hid (RidRow w6 (.slice ao6 (j - fr) cap6) (wantC L fr false)) := (by show RidRow _ _ _; unfold RidRow; rw [show wantC L fr false = L.drop fr from by simp [wantC], List.length_drop, HL.out]; exact OWN6.out); clear G6 hg6)
              | (go_at_call 9; refine (rids_any R6.out.at W6.out.at (by rw [wantC_len (by rw [HL.out]; exact h3), HL.out]; split <;> omega) (z := true) (decide_eq_true rfl)).mono ?_; rintro e w8 ⟨rfl, hO8⟩; have O8 := Lib.hid hO8; clear hO8))
            go_ret
            exact ⟨rfl, ((((HJ.out.only.trans S5.out.1 (fun x hx => .inr (HJ.out.new x hx))).trans O6.out (by simp)).trans O8.out (by simp)).below (Nat.le_refl _) (by simp))⟩
theorem chains_law (n : Int) (bn : -9223372036854775808 ≤ n ∧ n ≤ 9223372036854775807) (fr : Int) (bf : -9223372036854775808 ≤ fr ∧ fr ≤ 9223372036854775807) (ring : Bool) (w : World) :
    Calls Try.prog 3 #[.int .i64 n, .int .i64 fr, .bool ring] w fun e w' => e = .returned (.bool true) ∧ Below w.heap.size w w' := by
  by_cases h : 1 ≤ n ∧ n ≤ 40 ∧ 0 ≤ fr ∧ fr < n
  · obtain ⟨a, rfl⟩ := Int.eq_ofNat_of_zero_le (show 0 ≤ n by omega)
    obtain ⟨b, rfl⟩ := Int.eq_ofNat_of_zero_le (show 0 ≤ fr by omega)
    exact chains_main a b ring (by omega) (by omega) (by omega)
  · exact chains_out n bn fr bf ring h
end Go.Proofs.Ytikonbnhbalpmaa.H
