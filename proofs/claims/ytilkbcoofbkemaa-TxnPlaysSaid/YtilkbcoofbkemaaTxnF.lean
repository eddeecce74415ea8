/-
  The laws' helpers: known, numbers, the helper's Snapshot: by contracts.
-/
import Derived.Test.YtilkbcoofbkemaaTxnE
namespace Go.Proofs.Ytilkbcoofbkemaa.T
set_option linter.unusedSimpArgs false
open Go Go.RowKit Go.Proofs.Ytilkbcoofbkemaa.I
set_option linter.unusedVariables false
variable {w0 w : World} {t bo bg k : Nat} {S : TS}
/-! ### two rows of numbers -/
theorem nats_ext {la lb : List Nat} (h : la.length = lb.length) (h2 : ∀ j, j < la.length → la.getD j 0 = lb.getD j 0) : la = lb := by
  refine List.ext_getElem h fun j h1 h3 => ?_
  have := h2 j h1
  rwa [List.getD_eq_getElem?_getD, List.getD_eq_getElem?_getD, List.getElem?_eq_getElem h1, List.getElem?_eq_getElem h3] at this
theorem numbers_any {w : World} {va vb : Value} {la lb : List Nat} (ha : NatsAt w va la) (hb : NatsAt w vb lb) (hl : la.length ≤ 1048576) (hl2 : lb.length ≤ 1048576) :
    Calls Try.prog 17 #[va, vb] w fun e w' => e = .returned (.bool (decide (la = lb))) ∧ Only [] w w' := by
  have HA := Lib.hid ha
  have HB := Lib.hid hb
  obtain ⟨ao, ac, rfl, hca⟩ := ha
  obtain ⟨bo, bc, rfl, hcb⟩ := hb
  have CA := Lib.hid hca
  have CB := Lib.hid hcb
  clear hca hcb
  by_cases hlen : la.length = lb.length
  · have LL := Lib.hid hlen
    rw [← hlen] at hl2 ⊢
    generalize hm : la.length = m at *
    have HM := Lib.hid hm
    clear hm hlen
    go_enter Try.func17, Try.ntmps17
    go_wp2_with fail
    go_loopw [5] (fun i wr => ∃ k : Nat, k ≤ m ∧ i = .int .i64 k ∧ Only [] w wr ∧ ∀ j, j < k → la.getD j 0 = lb.getD j 0) (fun i _ => m - (intOf i).toNat)
    case atStart => exact ⟨0, Nat.zero_le _, rfl, Only.refl _ _, fun j hj => by omega⟩
    case round =>
      obtain ⟨k, hk, rfl, hO, he⟩ := hrel
      have EE := Lib.hid he
      have OO := Lib.hid hO
      clear he hO
      by_cases hlt : k < m
      · obtain ⟨b1, o1, rfl, h1⟩ := CA.out (by omega)
        obtain ⟨b2, o2, rfl, h2⟩ := CB.out (by have := LL.out; omega)
        have c1 := OO.out.cell (h1 k hlt) (by simp)
        have c2 := OO.out.cell (h2 k (by have := LL.out; omega)) (by simp)
        clear h1 h2
        generalize hx : la.getD k 0 = x at *
        generalize hy : lb.getD k 0 = y at *
        have HX := Lib.hid hx
        have HY := Lib.hid hy
        clear hx hy
        have hki : (k : Int) < m := by omega
        have hk0 : (0 : Int) ≤ k := by omega
        by_cases hxy : x = y
        · have hxi : ((x : Int) != y) = false := by simp [hxy]
          go_wp2_with fail
          go_quiet (fail)
          go_wp2_with fail
          refine ⟨⟨k + 1, by omega, by go_num, OO.out.drewN nq, fun j hj => ?_⟩, by simp [intOf]; omega⟩
          rcases Nat.lt_or_ge j k with h1 | h1
          · exact EE.out j h1
          · obtain rfl : j = k := by omega
            rw [HX.out, HY.out]; exact hxy
        · have hxi : ((x : Int) != y) = true := by simp; omega
          go_wp2_with fail
          go_quiet (fail)
          go_wp2_with fail
          go_ret
          refine ⟨?_, OO.out.drewN nq⟩
          have : la ≠ lb := fun e => hxy (by rw [← HX.out, ← HY.out, e])
          simp [this]
      · obtain rfl : k = m := by omega
        have E : Hid (la = lb) := nats_ext (HM.out.trans LL.out) (fun j hj => EE.out j (by have := HM.out; omega))
        go_wp2_with fail
        go_ret
        refine ⟨?_, OO.out⟩
        have := E.out
        simp [this]
  · have hli : ((la.length : Int) != lb.length) = true := by simp; omega
    have E : Hid (la ≠ lb) := fun e => hlen (by rw [e])
    generalize la.length = m1 at *
    generalize lb.length = m2 at *
    go_enter Try.func17, Try.ntmps17
    go_wp2_with fail
    go_ret
    have := E.out
    exact ⟨by simp [this], Only.refl _ _⟩
/-! ### known -/
set_option maxRecDepth 100000 in
set_option maxHeartbeats 2000000 in
theorem known_any (w : World) : Calls Try.prog 8 #[] w fun e w' => e = .returned (.bool true) ∧ Only [] w w' := by
  have NW := Lib.hid (new_tab (Only.refl [] w) 0 (by decide))
  go_enter Try.func8, Try.ntmps8
  go_wp2_with (first
    | (go_at_call 9; refine NW.out.mono ?_; rintro e w1 ⟨t, bo, bg, rfl, hT1, hO1⟩; have T1 := Lib.hid hT1; clear hT1 hO1)
    | (go_at_call 10; refine (T6.out.begin' (by decide) (m := 3) (n := 1) (S2 := ⟨4, [⟨2, 2, [1]⟩, ⟨3, 3, [2]⟩], []⟩) rfl rfl rfl).mono ?_; rintro e w7 ⟨a7, c7, rfl, hr7, hT7, hO7⟩; have RU := Lib.hid hr7.1; have RS7 := Lib.hid (owns_off RS6.out hO7 (T6.out.off (by decide))); have T7 := Lib.hid (hT7.past ((Only.refl _ _).alloc (.cells #[.int .u64 3, .int .u64 3, .slice a7 1 c7] 29))); have BS7 := Lib.hid (hO7.blk BS6.out (T6.out.ne BS6.out (by decide))); have x0 := (BS7.out.alloc (.cells #[.int .u64 3, .int .u64 3, .slice a7 1 c7] 29)).cell 0; have x1 := (BS7.out.alloc (.cells #[.int .u64 3, .int .u64 3, .slice a7 1 c7] 29)).cell 1; have x2 := (BS7.out.alloc (.cells #[.int .u64 3, .int .u64 3, .slice a7 1 c7] 29)).cell 2; simp only [List.getElem?_cons_succ, List.getElem?_cons_zero] at x0 x1 x2; clear hr7 hT7 hO7)
    | (go_at_call 10; refine (T2.out.begin' (by decide) (m := 2) (n := 1) (S2 := ⟨3, [⟨1, 1, []⟩, ⟨2, 2, [1]⟩], []⟩) rfl rfl rfl).mono ?_; rintro e w3 ⟨a3, c3, rfl, hr3, hT3, hO3⟩; have RS3 := Lib.hid (owns_past hr3.1 ((Only.refl _ _).alloc (.cells #[.int .u64 2, .int .u64 2, .slice a3 1 c3] 29))); have BS3 := Lib.hid (Blk.new [.int .u64 2, .int .u64 2, .slice a3 1 c3] 29 w3); have T3 := Lib.hid (hT3.past ((Only.refl _ _).alloc (.cells #[.int .u64 2, .int .u64 2, .slice a3 1 c3] 29))); clear hr3 hT3 hO3)
    | (go_at_call 10; refine (T1.out.begin' (by decide) (m := 1) (n := 0) (S2 := ⟨2, [⟨1, 1, []⟩], []⟩) rfl rfl rfl).mono ?_; rintro e w2 ⟨a2, c2, rfl, hr2, hT2, hO2⟩; have T2 := Lib.hid (hT2.past ((Only.refl _ _).alloc (.cells #[.int .u64 1, .int .u64 1, .slice a2 0 c2] 29))); clear hr2 hT2 hO2)
    | (go_at_call 14; refine (T5.out.commit' 1 (S2 := ⟨3, [⟨2, 2, [1]⟩], []⟩) (z := 100) rfl).mono ?_; rintro e w6 ⟨rfl, hT6, hO6⟩; have T6 := Lib.hid hT6; have RS6 := Lib.hid (owns_off RS5.out hO6 (T5.out.off (by decide))); have BS6 := Lib.hid (hO6.blk BS5.out (T5.out.ne BS5.out (by decide))); clear hT6 hO6)
    | (go_at_call 14; refine (T3.out.commit' 1 (S2 := ⟨3, [⟨2, 2, [1]⟩], []⟩) (z := 0) rfl).mono ?_; rintro e w5 ⟨rfl, hT5, hO5⟩; have T5 := Lib.hid hT5; have RS5 := Lib.hid (owns_off RS3.out hO5 (T3.out.off (by decide))); have BS5 := Lib.hid (hO5.blk BS3.out (T3.out.ne BS3.out (by decide))); clear hT5 hO5)
    | (go_at_call 11; refine ((T7.out.past (O8.out.trans O9.out (by simp))).horizon (by decide)).mono ?_; rintro e w10 ⟨rfl, hO10⟩; have O10 := Lib.hid hO10; clear hO10)
    | (go_at_call_of 13 (Value.agg #[.int .u64 2, .int .u64 2, .slice a3 1 c3]); refine (T7.out.sees ⟨2, 2, [1]⟩ (.slice a3 1 c3) (nats_owned (owns_past RS7.out ((Only.refl _ _).alloc _))) (by decide) 1).mono ?_; rintro e w8 ⟨rfl, hO8⟩; have O8 := Lib.hid hO8; have BU := hO8.blk (Blk.new [.int .u64 3, .int .u64 3, .slice a7 1 c7] 29 w7) (by simp); have y0 := BU.cell 0; have y1 := BU.cell 1; have y2 := BU.cell 2; simp only [List.getElem?_cons_succ, List.getElem?_cons_zero] at y0 y1 y2; clear hO8)
    | (go_at_call 13; refine ((T7.out.past O8.out).sees ⟨3, 3, [2]⟩ (.slice a7 1 c7) (nats_owned (owns_past (owns_past RU.out ((Only.refl _ _).alloc _)) O8.out)) (by decide) 1).mono ?_; rintro e w9 ⟨rfl, hO9⟩; have O9 := Lib.hid hO9; clear hO9))
  go_ret
  exact ⟨rfl, ((T7.out.own.trans O8.out (by simp)).trans O9.out (by simp)).trans O10.out (by simp)⟩
end Go.Proofs.Ytilkbcoofbkemaa.T
