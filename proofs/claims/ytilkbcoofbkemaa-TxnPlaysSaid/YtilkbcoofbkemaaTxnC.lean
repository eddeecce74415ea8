/-
  The program's table of transactions: Contains, Sees, Visible, Write: by contracts.
-/
import Derived.Test.YtilkbcoofbkemaaTxnB
import Derived.BigQuiet
namespace Go.Proofs.Ytilkbcoofbkemaa.T
set_option linter.unusedSimpArgs false
open Go Go.RowKit Go.Proofs.Ytilkbcoofbkemaa.I
set_option linter.unusedVariables false

theorem NatsAt.cellAt {w : World} {b o n cap : Nat} {l : List Nat} (h : NatsAt w (.slice (some ⟨b, o, none⟩) n cap) l) {j : Nat} (hj : j < l.length) : w.cell? ⟨b, o + j, none⟩ = some (.int .u64 (l.getD j 0 : Nat)) := by
  obtain ⟨ao, c, he, hc⟩ := h
  obtain ⟨b2, o2, h2, h3⟩ := hc (by omega)
  cases he
  cases h2
  exact h3 j hj
theorem contains_not {l : List Nat} {n : Nat} (h : ∀ j, j < l.length → l.getD j 0 ≠ n) : n ∉ l := by
  intro hc
  rw [List.mem_iff_getElem] at hc
  obtain ⟨j, hj, e⟩ := hc
  exact h j hj (by rw [List.getD_eq_getElem?_getD, List.getElem?_eq_getElem hj]; exact e)
theorem contains_at {l : List Nat} {n j : Nat} (hj : j < l.length) (h : l.getD j 0 = n) : n ∈ l := by
  rw [List.mem_iff_getElem]
  exact ⟨j, hj, by rw [List.getD_eq_getElem?_getD, List.getElem?_eq_getElem hj] at h; exact h⟩
theorem index_any {w : World} {v : Value} {l : List Nat} (h : NatsAt w v l) (hl : l.length ≤ 1048576) (n : Nat) :
    Calls Try.prog 40 #[v, .int .u64 n] w fun e w' => ∃ z : Int, e = .returned (.int .i64 z) ∧ w = w' ∧ decide (z ≥ 0) = decide (n ∈ l) := by
  have HH := Lib.hid h
  obtain ⟨ao, cap, rfl, hc⟩ := h
  generalize hm : l.length = m at *
  have HM := Lib.hid hm
  have CC := Lib.hid hc
  clear hm hc
  go_enter Try.func40, Try.ntmps40
  go_wp2_with fail
  go_loop [8] (fun i => ∃ k : Nat, k ≤ m ∧ i = .int .i64 k ∧ ∀ j, j < k → l.getD j 0 ≠ n) (fun i => m - (intOf i).toNat)
  case atStart => exact ⟨0, Nat.zero_le _, rfl, fun j hj => by omega⟩
  case round =>
    obtain ⟨k, hk, rfl, hne⟩ := hrel
    have NE := Lib.hid hne
    clear hne
    by_cases hlt : k < m
    · obtain ⟨b, o, rfl, hc⟩ := CC.out (by omega)
      have c := hc k hlt
      clear hc
      generalize hx : l.getD k 0 = x at *
      have HX := Lib.hid hx
      clear hx
      have hki : (k : Int) < m := by omega
      by_cases he : n = x
      · have hei : ((n : Int) == x) = true := by simp [he]
        go_wp2_with fail
        go_ret
        refine ⟨k, rfl, rfl, ?_⟩
        have := contains_at (by rw [HM.out]; exact hlt) (HX.out.trans he.symm)
        simp [he] at this ⊢
        exact this
      · have hei : ((n : Int) == x) = false := by simp; omega
        go_wp2_with fail
        refine ⟨⟨k + 1, by omega, by go_num, fun j hj => ?_⟩, by simp [intOf]; omega⟩
        rcases Nat.lt_or_ge j k with h1 | h1
        · exact NE.out j h1
        · obtain rfl : j = k := by omega
          rw [HX.out]; exact fun e => he e.symm
    · have hki : ¬ (k : Int) < m := by omega
      go_wp2_with fail
      go_ret
      refine ⟨-1, rfl, rfl, ?_⟩
      have := contains_not fun j hj => NE.out j (by rw [HM.out] at hj; omega)
      simp at this ⊢
      exact this
theorem contains_any {w : World} {v : Value} {l : List Nat} (h : NatsAt w v l) (hl : l.length ≤ 1048576) (n : Nat) :
    Calls Try.prog 36 #[v, .int .u64 n] w fun e w' => e = .returned (.bool (decide (n ∈ l))) ∧ w = w' := by
  have I := Lib.hid (index_any h hl n)
  obtain ⟨ao, cap, rfl, hc⟩ := h
  clear hc
  go_enter Try.func36, Try.ntmps36
  go_wp2_with fail
  refine I.out.mono ?_
  rintro e w2 ⟨z, rfl, rfl, hz⟩
  go_wp2_with fail
  go_ret
  exact ⟨rfl, rfl⟩
/-! ### Sees -/
def TS.sees (S : TS) (s : Snap) (id : Nat) : Bool := decide (id = s.own) || (decide (id ≠ 0 ∧ id < s.next ∧ id ∉ s.op) && decide (S.state id = 2))
theorem TS.sees_own (S : TS) {s : Snap} {id : Nat} (h : id = s.own) : S.sees s id = true := by simp [TS.sees, h]
theorem TS.sees_out (S : TS) {s : Snap} {id : Nat} (h : id ≠ s.own) (h2 : ¬ (id ≠ 0 ∧ id < s.next ∧ id ∉ s.op)) : S.sees s id = false := by
  unfold TS.sees
  rw [decide_eq_false h, decide_eq_false h2]; rfl
theorem TS.sees_in (S : TS) {s : Snap} {id : Nat} (h : id ≠ s.own) (h2 : id ≠ 0 ∧ id < s.next ∧ id ∉ s.op) : S.sees s id = decide (S.state id = 2) := by
  unfold TS.sees
  rw [decide_eq_false h, decide_eq_true h2]; simp
set_option maxHeartbeats 1000000 in
theorem sees_any {w : World} {t bo bg : Nat} {L : Opens} {S : TS} (h : TabAt w t bo bg L S) (ho : S.Once) (s : Snap) (v : Value) (hv : NatsAt w v s.op) (hl : s.op.length ≤ 1048576) (id : Nat) :
    Calls Try.prog 13 #[.pointer (some ⟨t, 0, none⟩), snapV s v, .int .u64 id] w fun e w' => e = .returned (.bool (S.sees s id)) ∧ Only [] w w' := by
  obtain ⟨own, next, op⟩ := s
  have ST := Lib.hid (state_any (h.past ((Only.refl [] w).alloc (.cells #[.int .u64 own, .int .u64 next, v] 29))) ho id)
  have CN := Lib.hid (contains_any (hv.past ((Only.refl [] w).alloc (.cells #[.int .u64 own, .int .u64 next, v] 29))) hl id)
  obtain ⟨ao, cap, rfl, hc⟩ := hv
  have OA : Hid (Only [] w (w.alloc (.cells #[.int .u64 own, .int .u64 next, .slice ao op.length cap] 29))) := (Only.refl _ _).alloc _
  clear hc h
  show Calls _ _ #[_, .agg #[.int .u64 own, .int .u64 next, .slice ao op.length cap], _] _ _
  by_cases h1 : id = own
  · subst h1
    have E : Hid (S.sees ⟨id, next, op⟩ id = true) := S.sees_own rfl
    go_enter Try.func13, Try.ntmps13
    go_wp2_with fail
    go_ret
    rw [E.out]
    exact ⟨rfl, OA.out⟩
  have h1i : ((id : Int) == own) = false := by simp; omega
  by_cases h2 : id = 0
  · subst h2
    have E : Hid (S.sees ⟨own, next, op⟩ 0 = false) := S.sees_out h1 (by simp)
    have h1j : ((0 : Int) == own) = false := by simp; omega
    have h1k : ¬ own = 0 := by omega
    clear h1 h1i
    go_enter Try.func13, Try.ntmps13
    go_wp2_with fail
    go_ret
    rw [E.out]
    exact ⟨rfl, OA.out⟩
  have h2i : ((id : Int) != 0) = true := by simp; exact h2
  by_cases h3 : id < next
  · have h3i : (id : Int) < next := by omega
    by_cases h4 : id ∈ op
    · have E : Hid (S.sees ⟨own, next, op⟩ id = false) := S.sees_out h1 (by simp [h4])
      have h4i : decide (id ∈ op) = true := by simp [h4]
      rw [h4i] at CN
      clear h1 h3 h4 h4i
      go_enter Try.func13, Try.ntmps13
      go_wp2_with (go_at_call 36; refine CN.out.mono ?_; rintro e w' ⟨rfl, rfl⟩)
      go_ret
      rw [E.out]
      exact ⟨rfl, OA.out⟩
    · have h4i : decide (id ∈ op) = false := by simp [h4]
      rw [h4i] at CN
      have E := Lib.hid (S.sees_in (s := ⟨own, next, op⟩) h1 ⟨h2, h3, h4⟩)
      generalize S.state id = z at *
      clear h1 h3 h4 h4i
      by_cases h5 : z = 2
      · have h5i : (z == 2) = true := by simp [h5]
        have E2 : Hid (S.sees ⟨own, next, op⟩ id = true) := by show _ = _; rw [E.out]; simp [h5]
        clear h5
        go_enter Try.func13, Try.ntmps13
        go_wp2_with (first | (go_at_call 36; refine CN.out.mono ?_; rintro e w' ⟨rfl, rfl⟩) | (go_at_call 12; refine ST.out.mono ?_; rintro e w' ⟨rfl, hO⟩))
        go_ret
        rw [E2.out]
        exact ⟨rfl, OA.out.trans hO (by simp)⟩
      · have h5i : (z == 2) = false := by simp [h5]
        have E2 : Hid (S.sees ⟨own, next, op⟩ id = false) := by show _ = _; rw [E.out]; simp [h5]
        clear h5
        go_enter Try.func13, Try.ntmps13
        go_wp2_with (first | (go_at_call 36; refine CN.out.mono ?_; rintro e w' ⟨rfl, rfl⟩) | (go_at_call 12; refine ST.out.mono ?_; rintro e w' ⟨rfl, hO⟩))
        go_ret
        rw [E2.out]
        exact ⟨rfl, OA.out.trans hO (by simp)⟩
  · have h3i : ¬ (id : Int) < next := by omega
    have E : Hid (S.sees ⟨own, next, op⟩ id = false) := S.sees_out h1 (by simp; omega)
    clear h1 h3
    go_enter Try.func13, Try.ntmps13
    go_wp2_with fail
    go_ret
    rw [E.out]
    exact ⟨rfl, OA.out⟩
/-! ### Visible -/
def verV (xmin xmax : Nat) : Value := .agg #[.slice none 0 0, .int .u64 xmin, .int .u64 xmax, .int .u64 0]
def TS.vis (S : TS) (s : Snap) (xmin xmax : Nat) : Bool := S.sees s xmin && (decide (xmax = 0) || !S.sees s xmax)
set_option maxHeartbeats 1000000 in
theorem visible_any {w : World} {t bo bg : Nat} {L : Opens} {S : TS} (h : TabAt w t bo bg L S) (ho : S.Once) (s : Snap) (v : Value) (hv : NatsAt w v s.op) (hl : s.op.length ≤ 1048576) (xmin xmax : Nat) :
    Calls Try.prog 19 #[.pointer (some ⟨t, 0, none⟩), snapV s v, verV xmin xmax] w fun e w' => e = .returned (.bool (S.vis s xmin xmax)) ∧ Only [] w w' := by
  have SE : Hid (∀ (id : Nat) (z : Bool), S.sees s id = z → ∀ w1, Only [] w w1 → Calls Try.prog 13 #[.pointer (some ⟨t, 0, none⟩), snapV s v, .int .u64 id] w1 fun e w' => e = .returned (.bool z) ∧ Only [] w1 w') := fun id z e w1 hO => by
    have := sees_any (h.past hO) ho s v (hv.past hO) hl id
    rw [e] at this; exact this
  obtain ⟨own, next, op⟩ := s
  obtain ⟨ao, cap, rfl, hc⟩ := hv
  generalize hz : S.sees ⟨own, next, op⟩ xmin = z
  have S1 := Lib.hid (SE.out xmin z hz)
  have OA : Hid (Only [] w ((w.alloc (.cells #[.int .u64 own, .int .u64 next, .slice ao op.length cap] 29)).alloc (.cells #[.slice none 0 0, .int .u64 xmin, .int .u64 xmax, .int .u64 0] 47))) := ((Only.refl _ _).alloc _).alloc _
  clear hc h
  simp only [snapV] at SE S1
  show Calls _ _ #[_, .agg #[.int .u64 own, .int .u64 next, .slice ao op.length cap], .agg #[.slice none 0 0, .int .u64 xmin, .int .u64 xmax, .int .u64 0]] _ _
  cases z with
  | false =>
    have E : Hid (S.vis ⟨own, next, op⟩ xmin xmax = false) := by show _ = _; unfold TS.vis; rw [hz]; rfl
    clear hz
    go_enter Try.func19, Try.ntmps19
    go_wp2_with (go_at_call 13; refine (S1.out _ OA.out).mono ?_; rintro e w2 ⟨rfl, hO2⟩)
    go_ret
    rw [E.out]
    exact ⟨rfl, OA.out.trans hO2 (by simp)⟩
  | true =>
    have B : Hid (∀ w2, Only [] ((w.alloc (.cells #[.int .u64 own, .int .u64 next, .slice ao op.length cap] 29)).alloc (.cells #[.slice none 0 0, .int .u64 xmin, .int .u64 xmax, .int .u64 0] 47)) w2 → Blk w2 w.heap.size [.int .u64 own, .int .u64 next, .slice ao op.length cap] 29 ∧ Blk w2 (w.heap.size + 1) [.slice none 0 0, .int .u64 xmin, .int .u64 xmax, .int .u64 0] 47) := fun w2 hO => ⟨hO.blk ((Blk.new _ _ w).alloc _) (by simp), hO.blk (Blk.new' _ _ _ (by simp)) (by simp)⟩
    by_cases h0 : xmax = 0
    · have E : Hid (S.vis ⟨own, next, op⟩ xmin xmax = true) := by show _ = _; unfold TS.vis; rw [hz, decide_eq_true h0]; rfl
      subst h0
      clear hz
      go_enter Try.func19, Try.ntmps19
      go_wp2_with (go_at_call 13; refine (S1.out _ OA.out).mono ?_; rintro e w2 ⟨rfl, hO2⟩; have y2 := (B.out _ hO2).2.cell 2; simp only [List.getElem?_cons_succ, List.getElem?_cons_zero] at y2)
      go_ret
      rw [E.out]
      exact ⟨rfl, OA.out.trans hO2 (by simp)⟩
    · have h0i : ((xmax : Int) == 0) = false := by simp [h0]
      generalize hz2 : S.sees ⟨own, next, op⟩ xmax = z2
      have S2 := Lib.hid (SE.out xmax z2 hz2)
      have E : Hid (S.vis ⟨own, next, op⟩ xmin xmax = !z2) := by show _ = _; unfold TS.vis; rw [hz, hz2, decide_eq_false h0]; simp
      clear hz hz2 SE
      go_enter Try.func19, Try.ntmps19
      go_wp2_with (first | (go_at_call_of 13 (Value.int .u64 (xmin : Int)); refine (S1.out _ OA.out).mono ?_; rintro e w2 ⟨rfl, hO2⟩; have x0 := (B.out _ hO2).1.cell 0; have x1 := (B.out _ hO2).1.cell 1; have x2 := (B.out _ hO2).1.cell 2; have y2 := (B.out _ hO2).2.cell 2; simp only [List.getElem?_cons_succ, List.getElem?_cons_zero] at x0 x1 x2 y2) | (go_at_call 13; refine (S2.out _ (OA.out.trans hO2 (by simp))).mono ?_; rintro e w3 ⟨rfl, hO3⟩))
      go_ret
      rw [E.out]
      exact ⟨rfl, (OA.out.trans hO2 (by simp)).trans hO3 (by simp)⟩
/-! ### Write -/
def TS.write (S : TS) (s : Snap) (xmin xmax : Nat) : Int := if S.vis s xmin xmax = true ∧ S.state s.own = 1 then (if S.state xmax = 1 ∨ S.state xmax = 2 then 101 else 0) else 100
set_option maxHeartbeats 1000000 in
theorem write_any {w : World} {t bo bg : Nat} {L : Opens} {S : TS} (h : TabAt w t bo bg L S) (ho : S.Once) (s : Snap) (v : Value) (hv : NatsAt w v s.op) (hl : s.op.length ≤ 1048576) (xmin xmax : Nat) :
    Calls Try.prog 21 #[.pointer (some ⟨t, 0, none⟩), snapV s v, verV xmin xmax] w fun e w' => e = .returned (.int .i64 (S.write s xmin xmax)) ∧ Only [] w w' := by
  have VE : Hid (∀ w1, Only [] w w1 → Calls Try.prog 19 #[.pointer (some ⟨t, 0, none⟩), snapV s v, verV xmin xmax] w1 fun e w' => e = .returned (.bool (S.vis s xmin xmax)) ∧ Only [] w1 w') := fun w1 hO =>
    visible_any (h.past hO) ho s v (hv.past hO) hl xmin xmax
  have SE : Hid (∀ (id : Nat) (z : Int), S.state id = z → ∀ w1, Only [] w w1 → Calls Try.prog 12 #[.pointer (some ⟨t, 0, none⟩), .int .u64 id] w1 fun e w' => e = .returned (.int .i64 z) ∧ Only [] w1 w') := fun id z e w1 hO => by
    have := state_any (h.past hO) ho id
    rw [e] at this; exact this
  obtain ⟨own, next, op⟩ := s
  obtain ⟨ao, cap, rfl, hc⟩ := hv
  simp only [snapV, verV] at VE
  have OA : Hid (Only [] w ((w.alloc (.cells #[.int .u64 own, .int .u64 next, .slice ao op.length cap] 29)).alloc (.cells #[.slice none 0 0, .int .u64 xmin, .int .u64 xmax, .int .u64 0] 47))) := ((Only.refl _ _).alloc _).alloc _
  have B : Hid (∀ w2, Only [] ((w.alloc (.cells #[.int .u64 own, .int .u64 next, .slice ao op.length cap] 29)).alloc (.cells #[.slice none 0 0, .int .u64 xmin, .int .u64 xmax, .int .u64 0] 47)) w2 → Blk w2 w.heap.size [.int .u64 own, .int .u64 next, .slice ao op.length cap] 29 ∧ Blk w2 (w.heap.size + 1) [.slice none 0 0, .int .u64 xmin, .int .u64 xmax, .int .u64 0] 47) := fun w2 hO => ⟨hO.blk ((Blk.new _ _ w).alloc _) (by simp), hO.blk (Blk.new' _ _ _ (by simp)) (by simp)⟩
  clear hc h
  show Calls _ _ #[_, .agg #[.int .u64 own, .int .u64 next, .slice ao op.length cap], .agg #[.slice none 0 0, .int .u64 xmin, .int .u64 xmax, .int .u64 0]] _ _
  generalize hz : S.vis ⟨own, next, op⟩ xmin xmax = z at *
  cases z with
  | false =>
    have E : Hid (S.write ⟨own, next, op⟩ xmin xmax = 100) := by show _ = _; unfold TS.write; rw [hz]; simp
    clear hz
    go_enter Try.func21, Try.ntmps21
    go_wp2_with (go_at_call 19; refine (VE.out _ OA.out).mono ?_; rintro e w2 ⟨rfl, hO2⟩)
    go_ret
    rw [E.out]
    exact ⟨rfl, OA.out.trans hO2 (by simp)⟩
  | true =>
    generalize hzo : S.state own = zo
    have S1 := Lib.hid (SE.out own zo hzo)
    by_cases h1 : zo = 1
    · have h1i : (zo != 1) = false := by simp [h1]
      generalize hzx : S.state xmax = zx
      have S2 := Lib.hid (SE.out xmax zx hzx)
      have E : Hid (S.write ⟨own, next, op⟩ xmin xmax = if zx = 1 ∨ zx = 2 then 101 else 0) := by show _ = _; unfold TS.write; rw [hz, if_pos ⟨rfl, hzo.trans h1⟩, hzx]
      clear hz hzo hzx SE
      have A1 : Hid (zo = 1) := h1
      subst h1
      have T : ∀ zx' : Int, zx = zx' → Hid (∀ w1, Only [] w w1 → Calls Try.prog 12 #[.pointer (some ⟨t, 0, none⟩), .int .u64 xmax] w1 fun e w' => e = .returned (.int .i64 zx') ∧ Only [] w1 w') := fun zx' e => by subst e; exact S2
      by_cases h2 : zx = 1
      · have S2' := T 1 h2
        have E2 : Hid (S.write ⟨own, next, op⟩ xmin xmax = 101) := by show _ = _; rw [E.out, if_pos (.inl h2)]
        clear h2 T S2 E h1i A1
        go_enter Try.func21, Try.ntmps21
        go_wp2_with (first | (go_at_call 19; refine (VE.out _ OA.out).mono ?_; rintro e w2 ⟨rfl, hO2⟩; have x0 := (B.out _ hO2).1.cell 0; simp only [List.getElem?_cons_succ, List.getElem?_cons_zero] at x0) | (go_at_call_of 12 (Value.int .u64 (own : Int)); have hO3 := OA.out.trans hO2 (by simp); refine (S1.out _ hO3).mono ?_; rintro e w3 ⟨rfl, hO4⟩; have y2 := (B.out _ (hO2.trans hO4 (by simp))).2.cell 2; simp only [List.getElem?_cons_succ, List.getElem?_cons_zero] at y2) | (go_at_call 12; have hO5 := hO3.trans hO4 (by simp); refine (S2'.out _ hO5).mono ?_; rintro e w4 ⟨rfl, hO6⟩))
        go_ret
        rw [E2.out]
        exact ⟨rfl, hO5.trans hO6 (by simp)⟩
      · by_cases h3 : zx = 2
        · have S2' := T 2 h3
          have E2 : Hid (S.write ⟨own, next, op⟩ xmin xmax = 101) := by show _ = _; rw [E.out, if_pos (.inr h3)]
          clear h2 h3 T S2 E h1i A1
          go_enter Try.func21, Try.ntmps21
          go_wp2_with (first | (go_at_call 19; refine (VE.out _ OA.out).mono ?_; rintro e w2 ⟨rfl, hO2⟩; have x0 := (B.out _ hO2).1.cell 0; simp only [List.getElem?_cons_succ, List.getElem?_cons_zero] at x0) | (go_at_call_of 12 (Value.int .u64 (own : Int)); have hO3 := OA.out.trans hO2 (by simp); refine (S1.out _ hO3).mono ?_; rintro e w3 ⟨rfl, hO4⟩; have y2 := (B.out _ (hO2.trans hO4 (by simp))).2.cell 2; simp only [List.getElem?_cons_succ, List.getElem?_cons_zero] at y2) | (go_at_call 12; have hO5 := hO3.trans hO4 (by simp); refine (S2'.out _ hO5).mono ?_; rintro e w4 ⟨rfl, hO6⟩))
          go_ret
          rw [E2.out]
          exact ⟨rfl, hO5.trans hO6 (by simp)⟩
        · have h2i : (zx == 1) = false := by simp [h2]
          have h3i : (zx == 2) = false := by simp [h3]
          have E2 : Hid (S.write ⟨own, next, op⟩ xmin xmax = 0) := by show _ = _; rw [E.out, if_neg (by simp [h2, h3])]
          clear h2 h3 T E h1i A1
          go_enter Try.func21, Try.ntmps21
          go_wp2_with (first | (go_at_call 19; refine (VE.out _ OA.out).mono ?_; rintro e w2 ⟨rfl, hO2⟩; have x0 := (B.out _ hO2).1.cell 0; simp only [List.getElem?_cons_succ, List.getElem?_cons_zero] at x0) | (go_at_call_of 12 (Value.int .u64 (own : Int)); have hO3 := OA.out.trans hO2 (by simp); refine (S1.out _ hO3).mono ?_; rintro e w3 ⟨rfl, hO4⟩; have y2 := (B.out _ (hO2.trans hO4 (by simp))).2.cell 2; simp only [List.getElem?_cons_succ, List.getElem?_cons_zero] at y2) | (go_at_call 12; have hO5 := hO3.trans hO4 (by simp); refine (S2.out _ hO5).mono ?_; rintro e w4 ⟨rfl, hO6⟩))
          go_ret
          rw [E2.out]
          exact ⟨rfl, hO5.trans hO6 (by simp)⟩
    · have h1i : (zo != 1) = true := by simp [h1]
      have E : Hid (S.write ⟨own, next, op⟩ xmin xmax = 100) := by show _ = _; unfold TS.write; rw [if_neg (fun h => h1 (hzo.symm.trans h.2))]
      clear hz hzo SE h1
      go_enter Try.func21, Try.ntmps21
      go_wp2_with (first | (go_at_call 19; refine (VE.out _ OA.out).mono ?_; rintro e w2 ⟨rfl, hO2⟩; have x0 := (B.out _ hO2).1.cell 0; simp only [List.getElem?_cons_succ, List.getElem?_cons_zero] at x0) | (go_at_call 12; have hO3 := OA.out.trans hO2 (by simp); refine (S1.out _ hO3).mono ?_; rintro e w3 ⟨rfl, hO4⟩))
      go_ret
      rw [E.out]
      exact ⟨rfl, hO3.trans hO4 (by simp)⟩
end Go.Proofs.Ytilkbcoofbkemaa.T
