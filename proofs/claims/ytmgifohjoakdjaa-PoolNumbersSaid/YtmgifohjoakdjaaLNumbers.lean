/-
  The walk of PoolNumbers.
-/
import Derived.Test.YtmgifohjoakdjaaPoolJ
import Derived.Test.YtmgifohjoakdjaaOpen
import Derived.Deep.LoopGhost
namespace Go.Proofs.Ytmgifohjoakdjaa.P
set_option linter.unusedSimpArgs false
open Go Go.RowKit Go.Proofs.Ytmgifohjoakdjaa Go.Proofs.Ytmgifohjoakdjaa.D Go.Proofs.Ytmgifohjoakdjaa.B
set_option linter.unusedVariables false
variable {w w' : World} {p d ub hm pm asked k : Nat} {MD M : List Nat} {L : List Pl} {S : PS}

/-- What holds ahead of a round: the pool, and the law's own row of those that are used. -/
structure NumAt (w0 w : World) (p d g n k : Nat) (M : List Nat) (S : PS) : Prop where
  pool : Pool w p d M S k
  len : S.used.length = n
  easy : S.Easy
  row : Blk w g (S.used.map Value.bool) 4
  off : g ∉ M
  own : Only [] w0 w
  new : ∀ x ∈ M, w0.heap.size ≤ x
  gnew : w0.heap.size ≤ g
theorem numbers_out (n : Int) (hb : -9223372036854775808 ≤ n ∧ n ≤ 9223372036854775807) {w : World} {v : Value} {l : List UInt8} (hv : BytesAt w v l) (ho : n < 1 ∨ 30 < n ∨ 80 < l.length) :
    Calls Try.prog 3 #[.int .i64 n, v] w fun e w' => e = .returned (.bool true) ∧ Below w.heap.size w w' := by
  have K := Lib.hid (known_any w)
  obtain ⟨ao, cap, rfl, hc⟩ := hv
  clear hc
  by_cases h1 : n < 1
  · clear ho
    go_enter Try.func3, Try.ntmps3
    go_wp2_with (go_at_call 6; refine K.out.mono ?_; rintro e w1 ⟨rfl, hO1⟩; have O1 := Lib.hid hO1; clear hO1)
    go_ret
    exact ⟨rfl, O1.out.below (Nat.le_refl _) (by simp)⟩
  · by_cases h2 : 30 < n
    · clear ho
      go_enter Try.func3, Try.ntmps3
      go_wp2_with (go_at_call 6; refine K.out.mono ?_; rintro e w1 ⟨rfl, hO1⟩; have O1 := Lib.hid hO1; clear hO1)
      go_ret
      exact ⟨rfl, O1.out.below (Nat.le_refl _) (by simp)⟩
    · have h3 : (80 : Int) < l.length := by omega
      clear ho
      go_enter Try.func3, Try.ntmps3
      go_wp2_with (go_at_call 6; refine K.out.mono ?_; rintro e w1 ⟨rfl, hO1⟩; have O1 := Lib.hid hO1; clear hO1)
      go_ret
      exact ⟨rfl, O1.out.below (Nat.le_refl _) (by simp)⟩
theorem alloc_all {id : Nat} {r : Int} {S' : PS} (h : Allocs S id r S') (ha : ∀ j, j < S.used.length → S.used.getD j false = true) : id = 0 ∧ r = 52 ∧ S' = S := by
  cases h with
  | all h => exact ⟨rfl, rfl, rfl⟩
  | full j hj hu hl h => exact ⟨rfl, rfl, rfl⟩
  | one j hj hu hl h => rw [ha _ hj] at hu; cases hu
theorem alloc_some {id : Nat} {r : Int} {S' : PS} (h : Allocs S id r S') (hf : S.Fine k) (he : S.Easy) {j : Nat} (hj : j < S.used.length) (hu : S.used.getD j false = false) (hl : ∀ i, i < j → S.used.getD i false = true) :
    id = j ∧ r = 0 ∧ S'.used = S.used.set j true ∧ S'.Easy ∧ S'.page j = zeros := by
  cases h with
  | all h => rw [h j hj] at hu; cases hu
  | full j' hj' hu' hl' h => exact absurd (h.easy hf he (Nat.zero_le _)).1 (by decide)
  | one j' hj' hu' hl' h =>
    obtain rfl : id = j := first_free hu' hl' hu hl
    refine ⟨rfl, rfl, ?_, (h.easy hf he (Nat.zero_le _)).2, ?_⟩
    · show (PS.used _).set id true = _
      rw [h.same.1]
    · have := h.page hf id
      rw [if_pos rfl] at this
      exact this
theorem set_same {l : List Bool} {a : Nat} {x : Bool} (h : a < l.length) (e : l.getD a false = x) : l.set a x = l := by
  refine List.ext_getElem (by simp) fun i h1 h2 => ?_
  rw [List.getElem_set]
  split
  · next hi => subst hi; rw [← e, List.getD_eq_getElem?_getD, List.getElem?_eq_getElem h2]; rfl
  · rfl
theorem NumAt.cell {w0 : World} {g n : Nat} (h : NumAt w0 w p d g n k M S) {a : Nat} (ha : a < n) : w.cell? ⟨g, a, none⟩ = some (.bool (S.used.getD a false)) := by
  have hl := h.len
  rw [h.row.cell, List.getElem?_map, List.getElem?_eq_getElem (by omega), List.getD_eq_getElem?_getD, List.getElem?_eq_getElem (by omega)]; rfl
/-- The pool was changed, then the law's own row. -/
theorem NumAt.step {w0 : World} {g n k' : Nat} (h : NumAt w0 w p d g n k M S) {w1 : World} {M' : List Nat} {S' : PS} (hP : Pool w1 p d M' S' k') (hS : Step M M' w w1) (he : S'.Easy) {a : Nat} (x : Bool) (hu : S'.used = S.used.set a x) : NumAt w0 (w1.setCell ⟨g, a, none⟩ (.bool x)) p d g n k' M' S' := by
  have hO := only_set w1 g a (.bool x)
  have hrow := hS.1.blk h.row h.off
  have hoff := Step.keep hS h.row.lt h.off
  have hnew : ∀ y ∈ M', w0.heap.size ≤ y := fun y hy => by
    rcases hS.2 y hy with h1 | h1
    · exact h.new y h1
    · have := h.own.size; omega
  refine ⟨hP.later hO (fun y hy cs hb => ?_) (fun y hy hg => ?_), by rw [hu, List.length_set]; exact h.len, he, (hrow.set a _).to (by rw [hu, List.map_set]), hoff, (h.own.trans hS.1 (fun y hy => .inr (h.new y hy))).trans hO (fun y hy => by simp at hy; subst hy; exact .inr h.gnew), hnew, h.gnew⟩
  · simp at hy
    subst hy
    exact hrow.ne hb (by decide) rfl
  · simp at hg
    subst hg
    exact hoff hy
/-- The pool alone was changed. -/
theorem NumAt.stay {w0 : World} {g n k' : Nat} (h : NumAt w0 w p d g n k M S) {w1 : World} {M' : List Nat} {S' : PS} (hP : Pool w1 p d M' S' k') (hS : Step M M' w w1) (he : S'.Easy) (hu : S'.used = S.used) : NumAt w0 w1 p d g n k' M' S' :=
  ⟨hP, by rw [hu]; exact h.len, he, (hS.1.blk h.row h.off).to (by rw [hu]), Step.keep hS h.row.lt h.off, h.own.trans hS.1 (fun y hy => .inr (h.new y hy)), fun y hy => by
    rcases hS.2 y hy with h1 | h1
    · exact h.new y h1
    · have := h.own.size; omega, h.gnew⟩
set_option maxRecDepth 100000 in
set_option maxHeartbeats 4000000 in
theorem numbers_main (n : Nat) {w : World} {v : Value} {l : List UInt8} (hv : BytesAt w v l) (h1 : 1 ≤ n) (h30 : n ≤ 30) (h80 : l.length ≤ 80) :
    Calls Try.prog 3 #[.int .i64 n, v] w fun e w' => e = .returned (.bool true) ∧ Below w.heap.size w w' := by
  have K := Lib.hid (known_any w)
  have DN : Hid (∀ w, Calls Try.prog 7 #[.int .i64 n] w fun e w' => ∃ d M, e = .returned (.tuple #[.pointer (some ⟨d, 0, none⟩), .int .i64 0]) ∧ Disk w' d M (DS.fresh n) ∧ Step [] M w w') := fun w => Disk.new (n := n) (by omega) (by omega)
  have PN : Hid (∀ w d M, Disk w d M (DS.fresh n) → Calls Try.prog 8 #[.pointer (some ⟨d, 0, none⟩), .int .i64 0, .int .i64 n, .int .i64 8] w fun e w' => ∃ p M', e = .returned (.tuple #[.pointer (some ⟨p, 0, none⟩), .int .i64 0]) ∧ Pool w' p d M' (PS.new (DS.fresh n) 0 n 8) 0 ∧ Step M M' w w') := fun w d M hD => new_ok (first := 0) (pages := n) (frames := 8) hD ⟨rfl, rfl, rfl⟩ (Int.le_refl 0) 0 (Int.le_refl 0) (Nat.le_refl 0) (by unfold Fits; simp [DS.fresh]; omega)
  have hmk := bools_make n (by omega)
  have hzk := zeros_make
  obtain ⟨ao, cap, rfl, hc⟩ := hv
  have CC := Lib.hid hc
  clear hc
  generalize hm : l.length = m at *
  have HM := Lib.hid hm
  clear hm
  generalize hz : (u8s zeros).toArray = Z at *
  have HZ := Lib.hid hz
  clear hz
  generalize hy : (List.replicate n (Value.bool false)).toArray = Y at *
  have HY := Lib.hid hy
  clear hy
  have h1i : ¬ (n : Int) < 1 := by omega
  have h30i : ¬ (30 : Int) < n := by omega
  have h80i : ¬ (80 : Int) < m := by omega
  go_enter Try.func3, Try.ntmps3
  go_wp2_with (first
    | (go_at_call 6; refine K.out.mono ?_; rintro e w1 ⟨rfl, hO1⟩; have O1 := Lib.hid hO1; clear hO1)
    | (go_at_call 7; refine (DN.out _).mono ?_; rintro e w2 ⟨d, M2, rfl, hD2, hS2⟩; have D2 := Lib.hid hD2; have S2 := Lib.hid hS2; clear hD2 hS2)
    | (go_at_call 8; refine (PN.out _ _ _ D2.out).mono ?_; rintro e w3 ⟨p, M3, rfl, hP3, hS3⟩; have P3 := Lib.hid hP3; have S3 := Lib.hid (S2.out.next hS3); clear hP3 hS3))
  have hst : NumAt w (w3.alloc (.cells Y 4)) p d w3.heap.size n (4 * 0) M3 (PS.new (DS.fresh n) 0 n 8) := by
    have hb : Blk (w3.alloc (.cells Y 4)) w3.heap.size (List.replicate n (Value.bool false)) 4 := by rw [← HY.out]; exact Blk.new _ _ _
    refine ⟨P3.out.past ((Only.refl _ _).alloc _), by simp [PS.new], (fun f hf => by cases hf), hb.to (by simp [PS.new]), (fun hx => by have := P3.out.lt _ hx; omega), (O1.out.trans S3.out.1 (by simp)).alloc _, fun x hx => ?_, ?_⟩
    · rcases S3.out.2 x hx with h | h
      · cases h
      · have := O1.out.size; omega
    · have := O1.out.size; have := S3.out.1.size; omega
  have ST := Lib.hid hst
  clear hst hmk
  go_loopg [9] m (fun gi i wx => ∃ (k : Nat) (M : List Nat) (S : PS), gi = m - k ∧ k ≤ m ∧ i = .int .i64 k ∧ NumAt w wx p d w3.heap.size n (4 * k) M S)
  case atStart => exact ⟨0, M3, _, rfl, Nat.zero_le _, rfl, ST.out⟩
  case round =>
    obtain ⟨k, M, S, hgk, hk, rfl, hN⟩ := hrel
    have HGK := Lib.hid hgk
    have NN := Lib.hid hN
    clear hgk hN ST
    by_cases hlt : k < m
    · obtain ⟨eb, eo, rfl, hce⟩ := CC.out (by omega)
      have cb := NN.out.own.cell (hce k hlt) (by simp)
      generalize l.getD k 0 = b at *
      clear hce CC
      have hki : (k : Int) < m := by omega
      have hk0 : (0 : Int) ≤ k := by omega
      generalize w3.heap.size = g at *
      obtain ⟨a, ha⟩ : ∃ a, b.toNat / 2 % n = a := ⟨_, rfl⟩
      have hb8 := b.toNat_lt
      have han : a < n := by rw [← ha]; exact Nat.mod_lt _ (by omega)
      have et : (b.toNat : Int) / 2 % 256 % n = (a : Int) := by
        have e1 : (b.toNat : Int) / 2 % 256 = ((b.toNat / 2 : Nat) : Int) := by omega
        rw [e1, ← ha]; rfl
      have hai : (a : Int) < n := by omega
      have ha0 : (0 : Int) ≤ a := by omega
      have FG := NN.out.row.frozen a
      clear ha hb8
      by_cases hev : b.toNat % 2 = 0
      · have hevb : ((b.toNat : Int) % 2 == 0) = true := by simp; omega
        have cg := NN.out.cell han
        cases hu : S.used.getD a false with
        | false =>
          rw [hu] at cg
          have HU := Lib.hid hu
          have RL := Lib.hid (NN.out.pool.release_no (a : Int) (by unfold PS.is; rw [Int.toNat_natCast, hu]; simp))
          clear hu hev
          go_wp2_with (go_at_call 9; refine RL.out.mono ?_; rintro e w4 ⟨rfl, rfl⟩)
          go_roundg (m - (k + 1))
          case measure => have := HGK.out; omega
          case rel => exact ⟨k + 1, M, S, rfl, by omega, by go_num, NN.out.step (NN.out.pool.more (by omega)) ⟨Only.refl _ _, fun x hx => .inl hx⟩ NN.out.easy false (set_same (by rw [NN.out.len]; exact han) HU.out).symm⟩
        | true =>
          rw [hu] at cg
          have HU := Lib.hid hu
          have RL := Lib.hid (NN.out.pool.release_yes a (PS.is_nat.2 ⟨by rw [NN.out.len]; exact han, hu⟩))
          clear hu hev
          go_wp2_with (go_at_call 9; refine RL.out.mono ?_; rintro e w4 ⟨rfl, M4, hP4, hS4⟩; have P4 := Lib.hid hP4; have S4 := Lib.hid hS4; have cg4 := hS4.1.cell cg NN.out.off; have fg4 := (hS4.1.blk NN.out.row NN.out.off).frozen a; clear hP4 hS4)
          go_roundg (m - (k + 1))
          case measure => have := HGK.out; omega
          case rel => exact ⟨k + 1, M4, S.release a, rfl, by omega, by go_num, NN.out.step (P4.out.more (by omega)) S4.out (fun f hf => NN.out.easy f (List.mem_filter.1 hf).1) false rfl⟩
      · have hevb : ((b.toNat : Int) % 2 == 0) = false := by simp; omega
        clear hev FG
        go_wp2_with fail
        go_loopg [11] n (fun gj x wy => ∃ j : Nat, gj = n - j ∧ j ≤ n ∧ x = .int .i64 j ∧ wy = wr ∧ ∀ i, i < j → S.used.getD i false = true)
        case atStart => exact ⟨0, rfl, Nat.zero_le _, rfl, rfl, fun i hi => by omega⟩
        case round =>
          obtain ⟨j, hgj, hj, rfl, rfl, hall⟩ := hrel
          have HGJ := Lib.hid hgj
          have ALL := Lib.hid hall
          clear hgj hall
          by_cases hjn : j < n
          · have hji : (j : Int) < n := by omega
            have hj0 : (0 : Int) ≤ j := by omega
            have cj := NN.out.cell hjn
            cases hu : S.used.getD j false with
            | true =>
              rw [hu] at cj
              have HU := Lib.hid hu
              clear hu
              go_wp2_with fail
              go_roundg (n - (j + 1))
              case measure => have := HGJ.out; omega
              case rel => exact ⟨j + 1, rfl, by omega, by go_num, rfl, fun i hi => by
                rcases Nat.lt_or_ge i j with h | h
                · exact ALL.out i h
                · obtain rfl : i = j := by omega
                  exact HU.out⟩
            | false =>
              rw [hu] at cj
              have HU := Lib.hid hu
              clear hu
              have hjne : ((j : Int) == n) = false := by simp; omega
              have AL := Lib.hid (NN.out.pool.alloc (by omega))
              go_wp2_with fail
              refine AL.out.mono ?_
              rintro e w4 ⟨id, r, S4, M4, rfl, ha4, hP4, hS4⟩
              obtain ⟨rfl, rfl, hu4, he4, hp4⟩ := alloc_some ha4 NN.out.pool.fine NN.out.easy (by rw [NN.out.len]; exact hjn) HU.out ALL.out
              have P4 := Lib.hid hP4
              have S4' := Lib.hid hS4
              have U4 := Lib.hid hu4
              have E4 := Lib.hid he4
              have G4 := Lib.hid hp4
              clear ha4 hP4 hS4 hu4 he4 hp4
              have IS4 : Hid (S4.is (id : Int) = true) := PS.is_nat.2 (by rw [U4.out, List.length_set]; exact ⟨by rw [NN.out.len]; exact hjn, getD_set_self _ _ _ _ (by rw [NN.out.len]; exact hjn)⟩)
              have GE := Lib.hid (P4.out.get_yes (by omega) id IS4.out)
              go_wp2_with fail
              refine GE.out.mono ?_
              rintro e w5 ⟨v5, r5, S5, M5, rfl, hh5, hg5, hP5, hS5⟩
              obtain ⟨rfl, he5⟩ := hh5.easy P4.out.fine E4.out
              obtain ⟨_, hr5, hn5⟩ | ⟨h, _⟩ := hg5
              case inr => exact absurd rfl h
              rw [G4.out] at hr5
              obtain ⟨a5, c5, e5⟩ := owns_shape2 hr5
              rw [zeros_len] at e5
              subst e5
              have R5 := Lib.hid hr5
              have P5 := Lib.hid hP5
              have S5' := Lib.hid (S4'.out.next hS5)
              have E5 := Lib.hid he5
              have U5 : Hid (S5.used = S.used.set id true) := by show _ = _; rw [hh5.same.1]; exact U4.out
              clear hh5 hr5 hn5 hP5 hS5 he5
              have BZ : Hid (Blk (w5.alloc (.cells Z 5)) w5.heap.size (u8s zeros) 5) := by
                show Blk _ _ _ _
                rw [← HZ.out]; exact Blk.new _ _ _
              have BY : Hid (Calls Try.prog 12 #[.slice a5 512 c5, .slice (some ⟨w5.heap.size, 0, none⟩) 512 512] (w5.alloc (.cells Z 5)) fun e w' => e = .returned (.bool true) ∧ w5.alloc (.cells Z 5) = w') := by
                have h0 : ByteRow 5 (w5.alloc (.cells Z 5)) (.slice a5 512 c5) zeros := R5.out.off ((Only.refl [] w5).alloc _) (Off.nil _ _)
                have := bytesf_any h0.at (Blk.bytes BZ.out zeros_len.symm : BytesAt _ (.slice (some ⟨w5.heap.size, 0, none⟩) 512 512) zeros)
                rw [beq_self_eq_true] at this
                exact this
              have cg5 : (w5.alloc (.cells Z 5)).cell? ⟨g, id, none⟩ = some (.bool false) := ((S5'.out.1.alloc (.cells Z 5))).cell cj NN.out.off
              have fg5 : (w5.alloc (.cells Z 5)).frozen? ⟨g, id, none⟩ = false := (((S5'.out.1.alloc (.cells Z 5))).blk NN.out.row NN.out.off).frozen id
              go_wp2_with (go_at_call 12; refine BY.out.mono ?_; rintro e w6 ⟨rfl, rfl⟩)
              go_roundg (m - (k + 1))
              case measure => have := HGK.out; omega
              case rel => exact ⟨k + 1, M5, S5, rfl, by omega, by go_num, NN.out.step ((P5.out.past ((Only.refl _ _).alloc _)).more (by omega)) (S5'.out.only ((Only.refl _ _).alloc _)) E5.out true U5.out⟩
          · obtain rfl : j = n := by omega
            have hji : ¬ (j : Int) < j := by omega
            have AL := Lib.hid (NN.out.pool.alloc (by omega))
            go_wp2_with fail
            refine AL.out.mono ?_
            rintro e w4 ⟨id, r, S4, M4, rfl, ha4, hP4, hS4⟩
            obtain ⟨rfl, rfl, rfl⟩ := alloc_all ha4 (by rw [NN.out.len]; exact ALL.out)
            have P4 := Lib.hid hP4
            have S4' := Lib.hid hS4
            clear ha4 hP4 hS4
            go_wp2_with fail
            go_roundg (m - (k + 1))
            case measure => have := HGK.out; omega
            case rel => exact ⟨k + 1, M4, S4, rfl, by omega, by go_num, (NN.out.stay (P4.out.more (by omega)) S4'.out NN.out.easy rfl)⟩
    · obtain rfl : k = m := by omega
      have hki : ¬ (k : Int) < k := by omega
      go_wp2_with fail
      go_ret
      exact ⟨rfl, NN.out.own.below (Nat.le_refl _) (by simp)⟩
/-- PoolNumbers at every input. -/
theorem numbers_law {w : World} (n : Int) (hb : -9223372036854775808 ≤ n ∧ n ≤ 9223372036854775807) (v : Value) (l : List UInt8) (hv : BytesAt w v l) :
    Calls Try.prog 3 #[.int .i64 n, v] w fun e w' => e = .returned (.bool true) ∧ Below w.heap.size w w' := by
  by_cases h : n < 1 ∨ 30 < n ∨ 80 < l.length
  · exact numbers_out n hb hv h
  · obtain ⟨k, rfl⟩ : ∃ k : Nat, n = k := ⟨n.toNat, by omega⟩
    exact numbers_main k hv (by omega) (by omega) (by omega)
end Go.Proofs.Ytmgifohjoakdjaa.P
