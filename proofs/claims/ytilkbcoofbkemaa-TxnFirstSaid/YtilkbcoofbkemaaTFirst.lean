/-
  The walk of TxnFirst.
-/
import Derived.Test.YtilkbcoofbkemaaTxnF
namespace Go.Proofs.Ytilkbcoofbkemaa.T
set_option linter.unusedSimpArgs false
open Go Go.RowKit Go.Proofs.Ytilkbcoofbkemaa.I
set_option linter.unusedVariables false
/-- Two began and the first of them took away what a third one had made before. -/
structure FirstFacts (n n1 n2 n3 n4 : Nat) : Prop where
  b1 : (⟨n, [], []⟩ : TS).begin = ⟨n1, [⟨n, n, []⟩], []⟩
  d1 : (⟨n1, [⟨n, n, []⟩], []⟩ : TS).commit n = (⟨n1, [], []⟩, 0)
  b2 : (⟨n1, [], []⟩ : TS).begin = ⟨n2, [⟨n1, n1, []⟩], []⟩
  b3 : (⟨n2, [⟨n1, n1, []⟩], []⟩ : TS).begin = ⟨n3, [⟨n1, n1, []⟩, ⟨n2, n2, [n1]⟩], []⟩
  ws : (⟨n3, [⟨n1, n1, []⟩, ⟨n2, n2, [n1]⟩], []⟩ : TS).write ⟨n1, n1, []⟩ n 0 = 0
  wu : (⟨n3, [⟨n1, n1, []⟩, ⟨n2, n2, [n1]⟩], []⟩ : TS).write ⟨n2, n2, [n1]⟩ n 0 = 0
  wu1 : (⟨n3, [⟨n1, n1, []⟩, ⟨n2, n2, [n1]⟩], []⟩ : TS).write ⟨n2, n2, [n1]⟩ n n1 = 101
  c0 : (⟨n3, [⟨n1, n1, []⟩, ⟨n2, n2, [n1]⟩], []⟩ : TS).commit n1 = (⟨n3, [⟨n2, n2, [n1]⟩], []⟩, 0)
  c0w : (⟨n3, [⟨n2, n2, [n1]⟩], []⟩ : TS).write ⟨n2, n2, [n1]⟩ n n1 = 101
  c0v : (⟨n3, [⟨n2, n2, [n1]⟩], []⟩ : TS).vis ⟨n2, n2, [n1]⟩ n n1 = true
  a0 : (⟨n3, [⟨n1, n1, []⟩, ⟨n2, n2, [n1]⟩], []⟩ : TS).abort n1 = (⟨n3, [⟨n2, n2, [n1]⟩], [n1]⟩, 0)
  a0w : (⟨n3, [⟨n2, n2, [n1]⟩], [n1]⟩ : TS).write ⟨n2, n2, [n1]⟩ n n1 = 0
  b4 : (⟨n3, [⟨n1, n1, []⟩, ⟨n2, n2, [n1]⟩], []⟩ : TS).begin = ⟨n4, [⟨n1, n1, []⟩, ⟨n2, n2, [n1]⟩, ⟨n3, n3, [n1, n2]⟩], []⟩
  ww : (⟨n4, [⟨n1, n1, []⟩, ⟨n2, n2, [n1]⟩, ⟨n3, n3, [n1, n2]⟩], []⟩ : TS).write ⟨n3, n3, [n1, n2]⟩ n n1 = 101
  c4 : (⟨n4, [⟨n1, n1, []⟩, ⟨n2, n2, [n1]⟩, ⟨n3, n3, [n1, n2]⟩], []⟩ : TS).commit n1 = (⟨n4, [⟨n2, n2, [n1]⟩, ⟨n3, n3, [n1, n2]⟩], []⟩, 0)
  vw : (⟨n4, [⟨n2, n2, [n1]⟩, ⟨n3, n3, [n1, n2]⟩], []⟩ : TS).vis ⟨n3, n3, [n1, n2]⟩ n n1 = true
  ws1 : (⟨n4, [⟨n2, n2, [n1]⟩, ⟨n3, n3, [n1, n2]⟩], []⟩ : TS).write ⟨n1, n1, []⟩ n n1 = 100
theorem firstFacts (n : Nat) (hn : 0 < n) : FirstFacts n (n + 1) (n + 2) (n + 3) (n + 4) := by
  have h0 : n ≠ 0 := by omega
  constructor <;> first
    | rfl
    | (simp [TS.commit, TS.abort, TS.abort.mputN, TS.write, TS.vis, TS.sees, TS.state, TS.isOpen, TS.drop, h0])
theorem how_mod (h : Int) : (wrap64 (h.tmod 3 + 3)).tmod 3 = 0 ∨ (wrap64 (h.tmod 3 + 3)).tmod 3 = 1 ∨ (wrap64 (h.tmod 3 + 3)).tmod 3 = 2 := by
  have h1 := Int.tmod_lt_of_pos h (show (0:Int) < 3 by omega)
  have h2 := Int.lt_tmod_of_pos h (show (0:Int) < 3 by omega)
  generalize h.tmod 3 = x at *
  have e : wrap64 (x + 3) = x + 3 := by unfold wrap64; omega
  rw [e, Int.tmod_eq_emod_of_nonneg (by omega)]
  omega
theorem run_step (n n1 : Nat) (h : n + 1 = n1) (hn : 0 < n) : (⟨n, [], []⟩ : TS).begin = ⟨n1, [⟨n, n, []⟩], []⟩ ∧ (⟨n1, [⟨n, n, []⟩], []⟩ : TS).commit n = (⟨n1, [], []⟩, 0) := by
  subst h
  exact ⟨(firstFacts n hn).b1, (firstFacts n hn).d1⟩
set_option maxRecDepth 100000 in
set_option maxHeartbeats 4000000 in
theorem first_main (how : Int) (more : Nat) (hm : more < 256) (w : World) :
    Calls Try.prog 6 #[.int .i64 how, .int .u8 more] w fun e w' => e = .returned (.bool true) ∧ Below w.heap.size w w' := by
  have K := Lib.hid (known_any w)
  have N := Lib.hid (fun w1 (hO : Only [] w w1) => new_tab hO 7 (by decide))
  go_enter Try.func6, Try.ntmps6
  go_wp2_with (first | (go_at_call 8; refine K.out.mono ?_; rintro e w1 ⟨rfl, hO1⟩; have O1 := Lib.hid hO1; clear hO1) | (go_at_call 9; refine (N.out _ O1.out).mono ?_; rintro e w2 ⟨t, bo, bg, rfl, hT2, hO2⟩; have T2 := Lib.hid hT2; clear hT2 hO2))
  go_loopw [6] (fun i wr => ∃ (k n : Nat), k ≤ more % 10 ∧ i = .int .i64 k ∧ n = k + 7 ∧ Tab w wr t bo bg k ⟨n, [], []⟩) (fun i _ => more % 10 - (intOf i).toNat)
  case atStart => exact ⟨0, 7, Nat.zero_le _, rfl, rfl, T2.out⟩
  case round =>
    obtain ⟨k, n, hk, rfl, hn, hT⟩ := hrel
    have TT := Lib.hid hT
    have HN := Lib.hid hn
    obtain ⟨n1, hn1⟩ : ∃ n1, n + 1 = n1 := ⟨_, rfl⟩
    have HN1 := Lib.hid hn1
    clear hT hn hn1
    by_cases hlt : k < more % 10
    · have hki : (k : Int) < ((more % 10 : Nat) : Int) := by omega
      have RS := Lib.hid (run_step n n1 HN1.out (by have := HN.out; omega))
      go_wp2_with (first
        | (go_at_call 14; refine (T4.out.commit' n RS.out.2).mono ?_; rintro e w5 ⟨rfl, hT5, hO5⟩; have T5 := Lib.hid hT5; clear hT5 hO5)
        | (go_at_call 10; refine (TT.out.begin' (by omega) (m := n) (n := 0) rfl rfl RS.out.1).mono ?_; rintro e w4 ⟨a4, c4, rfl, hr4, hT4, hO4⟩; have T4 := Lib.hid (hT4.past ((Only.refl _ _).alloc (.cells #[.int .u64 n, .int .u64 n, .slice a4 0 c4] 29))); clear hr4 hT4 hO4))
      exact ⟨⟨k + 1, n1, by omega, by go_num, by have := HN.out; have := HN1.out; omega, T5.out⟩, by simp [intOf]; omega⟩
    · have hki : ¬ (k : Int) < ((more % 10 : Nat) : Int) := by omega
      have hk9 : Hid (k < 10) := by show _ < _; omega
      obtain ⟨n2, hn2⟩ : ∃ n2, n + 2 = n2 := ⟨_, rfl⟩
      obtain ⟨n3, hn3⟩ : ∃ n3, n + 3 = n3 := ⟨_, rfl⟩
      obtain ⟨n4, hn4⟩ : ∃ n4, n + 4 = n4 := ⟨_, rfl⟩
      have F : Hid (FirstFacts n n1 n2 n3 n4) := by
        show FirstFacts _ _ _ _ _
        have := firstFacts n (by have := HN.out; omega)
        rw [HN1.out, hn2, hn3, hn4] at this; exact this
      clear hn2 hn3 hn4
      go_upto_region 18 with (first
        | (go_at_call_of 21 (Value.agg #[.int .u64 n1, .int .u64 n1, .slice a3 0 c3]); refine (T5.out.write' (NatsAt.none_ _ _ _) (by decide) n 0 F.out.ws).mono ?_; rintro e w6 ⟨rfl, hO6⟩; have O6 := Lib.hid hO6; have BU6 := Lib.hid (hO6.blk BU5.out (by simp)); have BV6 := Lib.hid (hO6.blk BV5.out (by simp)); have u0 := BU6.out.cell 0; have u1 := BU6.out.cell 1; have u2 := BU6.out.cell 2; have v0 := BV6.out.cell 0; have v1 := BV6.out.cell 1; have v2 := BV6.out.cell 2; have v3 := BV6.out.cell 3; simp only [List.getElem?_cons_succ, List.getElem?_cons_zero] at u0 u1 u2 v0 v1 v2 v3; clear hO6)
        | (go_at_call 21; refine ((T5.out.past O6.out).write' (nats_owned (l := [n1]) (owns_past RU5.out O6.out)) (by simp) n 0 F.out.wu).mono ?_; rintro e w7 ⟨rfl, hO7⟩; have O7 := Lib.hid (O6.out.trans hO7 (by simp)); clear hO7)
        | (go_at_call 10; refine (T3.out.begin' (by have := hk9.out; omega) (m := n2) (n := 1) rfl rfl F.out.b3).mono ?_; rintro e w5 ⟨a5, c5, rfl, hr5, hT5, hO5⟩; have O5 : Hid (Only [] w5 ((w5.alloc (.cells #[.int .u64 n2, .int .u64 n2, .slice a5 1 c5] 29)).alloc (.cells #[.slice none 0 0, .int .u64 n, .int .u64 0, .int .u64 0] 47))) := ((Only.refl _ _).alloc _).alloc _; have T5 := Lib.hid (hT5.past O5.out); have T4s := Lib.hid hT5.own.size; have RU5 : Hid (World.ownsRow _ 0 26 1 (.slice a5 1 c5) 1 (nats [n1])) := owns_past hr5.1 O5.out; have BS5 := Lib.hid (O5.out.blk (hO5.blk BS3.out (T3.out.ne BS3.out (by decide))) (by simp)); have BU5 := Lib.hid ((Blk.new [.int .u64 n2, .int .u64 n2, .slice a5 1 c5] 29 w5).alloc (.cells #[.slice none 0 0, .int .u64 n, .int .u64 0, .int .u64 0] 47)); have BV5 : Hid (Blk ((w5.alloc (.cells #[.int .u64 n2, .int .u64 n2, .slice a5 1 c5] 29)).alloc (.cells #[.slice none 0 0, .int .u64 n, .int .u64 0, .int .u64 0] 47)) (w5.heap.size + 1) [.slice none 0 0, .int .u64 n, .int .u64 0, .int .u64 0] 47) := Blk.new' _ _ _ (by simp); have x0 := BS5.out.cell 0; have x1 := BS5.out.cell 1; have x2 := BS5.out.cell 2; simp only [List.getElem?_cons_succ, List.getElem?_cons_zero] at x0 x1 x2; clear hr5 hT5 hO5)
        | (go_at_call 10; refine (T2b.out.begin' (by have := hk9.out; omega) (m := n1) (n := 0) rfl rfl F.out.b2).mono ?_; rintro e w3 ⟨a3, c3, rfl, hr3, hT3, hO3⟩; have T3 := Lib.hid (hT3.past ((Only.refl _ _).alloc (.cells #[.int .u64 n1, .int .u64 n1, .slice a3 0 c3] 29))); have BS3 := Lib.hid (Blk.new [.int .u64 n1, .int .u64 n1, .slice a3 0 c3] 29 w3); clear hr3 hT3 hO3)
        | (go_at_call 10; refine (TT.out.begin' (by have := hk9.out; omega) (m := n) (n := 0) rfl rfl F.out.b1).mono ?_; rintro e w1 ⟨a1, c1, rfl, hr1, hT1, hO1⟩; have T1 := Lib.hid (hT1.past ((Only.refl _ _).alloc (.cells #[.int .u64 n, .int .u64 n, .slice a1 0 c1] 29))); have BM1 := Lib.hid (Blk.new [.int .u64 n, .int .u64 n, .slice a1 0 c1] 29 w1); clear hr1 hT1 hO1)
        | (go_at_call 14; refine (T1.out.commit' n F.out.d1).mono ?_; rintro e w2b ⟨rfl, hT2b, hO2b⟩; have T2b := Lib.hid hT2b; have xm := (hO2b.blk BM1.out (T1.out.ne BM1.out (by decide))).cell 0; simp only [List.getElem?_cons_succ, List.getElem?_cons_zero] at xm; clear hT2b hO2b))
      have BS7 := Lib.hid (O7.out.blk BS5.out (by simp))
      have BU7 := Lib.hid (O7.out.blk BU5.out (by simp))
      have BV7 := Lib.hid (O7.out.blk BV5.out (by simp))
      have T7 := Lib.hid (T5.out.past O7.out)
      have RU7 := Lib.hid (owns_past RU5.out O7.out)
      have fv := BV7.out.frozen 2
      have hv2 := BV7.out.cell 2
      simp only [List.getElem?_cons_succ, List.getElem?_cons_zero] at hv2
      clear O7 O6 BU6 BV6 BS5 BU5 BV5 T5 RU5 x0 x1 x2 u0 u1 u2 v0 v1 v2 v3
      go_upto_region 19 with fail
      obtain ⟨w8, hw8⟩ : ∃ w8, w7.setCell ⟨w5.heap.size + 1, 2, none⟩ (.int .u64 n1) = w8 := ⟨_, rfl⟩
      have O8 : Only [w5.heap.size + 1] w7 w8 := by rw [← hw8]; exact (Only.refl _ _).setCell (.inl (by simp)) _
      have BV8 : Hid (Blk w8 (w5.heap.size + 1) [.slice none 0 0, .int .u64 n, .int .u64 n1, .int .u64 0] 47) := by rw [← hw8]; exact (BV7.out.set 2 _).to (by simp)
      rw [hw8]
      clear hw8
      have hbs : w3.heap.size ≠ w5.heap.size + 1 := fun e => by have h1 := BS7.out; rw [e] at h1; exact absurd (h1.symm.trans BV7.out) (by simp)
      have BS8 := Lib.hid (O8.blk BS7.out (by simpa using hbs))
      have BU8 := Lib.hid (O8.blk BU7.out (by simp))
      have hof : Off 26 w7 [w5.heap.size + 1] := Off.one BV7.out (by decide)
      have hnt := T7.out.ne BV7.out (by decide)
      have T8 := Lib.hid (T7.out.later O8 (fun h => hnt (by simp at h; simp [h])) (fun h => hnt (by simp at h; simp [h])) (fun h => hnt (by simp at h; simp [h])) hof (fun x hx => by simp at hx; subst hx; have h1 := T4s.out; omega))
      have RU8 := Lib.hid (owns_off RU7.out O8 hof)
      clear BS7 BU7 BV7 T7 RU7 fv hv2 O8 hof hnt hbs
      have x0 := BS8.out.cell 0
      have x1 := BS8.out.cell 1
      have x2 := BS8.out.cell 2
      have u0 := BU8.out.cell 0
      have u1 := BU8.out.cell 1
      have u2 := BU8.out.cell 2
      have v0 := BV8.out.cell 0
      have v1 := BV8.out.cell 1
      have v2 := BV8.out.cell 2
      have v3 := BV8.out.cell 3
      simp only [List.getElem?_cons_succ, List.getElem?_cons_zero] at x0 x1 x2 u0 u1 u2 v0 v1 v2 v3
      go_upto_region 21 with (go_at_call 21; refine (T8.out.write' (nats_owned (l := [n1]) RU8.out) (by simp) n n1 F.out.wu1).mono ?_; rintro e w9 ⟨rfl, hO9⟩; have O9 := Lib.hid hO9; clear hO9)
      have BS9 := Lib.hid (O9.out.blk BS8.out (by simp))
      have BU9 := Lib.hid (O9.out.blk BU8.out (by simp))
      have BV9 := Lib.hid (O9.out.blk BV8.out (by simp))
      have T9 := Lib.hid (T8.out.past O9.out)
      have RU9 := Lib.hid (owns_past RU8.out O9.out)
      clear BS8 BU8 BV8 T8 RU8 x0 x1 x2 u0 u1 u2 v0 v1 v2 v3 O9
      go_upto_region 22 with fail
      have hr := how_mod how
      generalize (wrap64 (how.tmod 3 + 3)).tmod 3 = r at *
      rcases hr with rfl | rfl | rfl
      · skip
        go_wp2_with (first
          | (go_at_call 14; refine (T9.out.commit' n1 F.out.c0).mono ?_; rintro e w10 ⟨rfl, hT10, hO10⟩; have T10 := Lib.hid hT10; have BU10 := Lib.hid (hO10.blk BU9.out (T9.out.ne BU9.out (by decide))); have BV10 := Lib.hid (hO10.blk BV9.out (T9.out.ne BV9.out (by decide))); have RU10 := Lib.hid (owns_off RU9.out hO10 (T9.out.off (by decide))); have u0_10 := BU10.out.cell 0; have u1_10 := BU10.out.cell 1; have u2_10 := BU10.out.cell 2; simp only [List.getElem?_cons_succ, List.getElem?_cons_zero] at u0_10 u1_10 u2_10; have v0_10 := BV10.out.cell 0; have v1_10 := BV10.out.cell 1; have v2_10 := BV10.out.cell 2; have v3_10 := BV10.out.cell 3; simp only [List.getElem?_cons_succ, List.getElem?_cons_zero] at v0_10 v1_10 v2_10 v3_10; clear hT10 hO10)
          | (go_at_call 21; refine (T10.out.write' (nats_owned (l := [n1]) RU10.out) (by simp) n n1 F.out.c0w).mono ?_; rintro e w11 ⟨rfl, hO11⟩; have O11 := Lib.hid hO11; have BU11 := Lib.hid (hO11.blk BU10.out (by simp)); have BV11 := Lib.hid (hO11.blk BV10.out (by simp)); have u0_11 := BU11.out.cell 0; have u1_11 := BU11.out.cell 1; have u2_11 := BU11.out.cell 2; simp only [List.getElem?_cons_succ, List.getElem?_cons_zero] at u0_11 u1_11 u2_11; have v0_11 := BV11.out.cell 0; have v1_11 := BV11.out.cell 1; have v2_11 := BV11.out.cell 2; have v3_11 := BV11.out.cell 3; simp only [List.getElem?_cons_succ, List.getElem?_cons_zero] at v0_11 v1_11 v2_11 v3_11; clear hO11)
          | (go_at_call 19; refine ((T10.out.past O11.out).visible' (nats_owned (l := [n1]) (owns_past RU10.out O11.out)) (by simp) n n1 F.out.c0v).mono ?_; rintro e w12 ⟨rfl, hO12⟩; have O12 := Lib.hid hO12; clear hO12))
        go_ret
        exact ⟨rfl, ((T10.out.own.trans O11.out (by simp)).trans O12.out (by simp)).below (Nat.le_refl _) (by simp)⟩
      · skip
        go_wp2_with (first
          | (go_at_call 15; refine (T9.out.abort' n1 F.out.a0).mono ?_; rintro e w10 ⟨rfl, hT10, hO10⟩; have T10 := Lib.hid hT10; have BU10 := Lib.hid (hO10.blk BU9.out (T9.out.ne BU9.out (by decide))); have BV10 := Lib.hid (hO10.blk BV9.out (T9.out.ne BV9.out (by decide))); have RU10 := Lib.hid (owns_off RU9.out hO10 (T9.out.off (by decide))); have u0_10 := BU10.out.cell 0; have u1_10 := BU10.out.cell 1; have u2_10 := BU10.out.cell 2; simp only [List.getElem?_cons_succ, List.getElem?_cons_zero] at u0_10 u1_10 u2_10; have v0_10 := BV10.out.cell 0; have v1_10 := BV10.out.cell 1; have v2_10 := BV10.out.cell 2; have v3_10 := BV10.out.cell 3; simp only [List.getElem?_cons_succ, List.getElem?_cons_zero] at v0_10 v1_10 v2_10 v3_10; clear hT10 hO10)
          | (go_at_call 21; refine (T10.out.write' (nats_owned (l := [n1]) RU10.out) (by simp) n n1 F.out.a0w).mono ?_; rintro e w11 ⟨rfl, hO11⟩; have O11 := Lib.hid hO11; clear hO11))
        go_ret
        exact ⟨rfl, (T10.out.own.trans O11.out (by simp)).below (Nat.le_refl _) (by simp)⟩
      · skip
        go_wp2_with (first
          | (go_at_call 10; refine (T9.out.begin' (by have := hk9.out; omega) (m := n3) (n := 2) rfl rfl F.out.b4).mono ?_; rintro e w10 ⟨a10, c10, rfl, hr10, hT10, hO10⟩; have T10 := Lib.hid (hT10.past ((Only.refl _ _).alloc (.cells #[.int .u64 n3, .int .u64 n3, .slice a10 2 c10] 29))); have BW10 := Lib.hid (Blk.new [.int .u64 n3, .int .u64 n3, .slice a10 2 c10] 29 w10); have RW10 : Hid (World.ownsRow _ 0 26 1 (.slice a10 2 c10) 2 (nats [n1, n2])) := owns_past hr10.1 ((Only.refl _ _).alloc (.cells #[.int .u64 n3, .int .u64 n3, .slice a10 2 c10] 29)); have BS10 := Lib.hid ((hO10.blk BS9.out (T9.out.ne BS9.out (by decide))).alloc (.cells #[.int .u64 n3, .int .u64 n3, .slice a10 2 c10] 29)); have BV10 := Lib.hid ((hO10.blk BV9.out (T9.out.ne BV9.out (by decide))).alloc (.cells #[.int .u64 n3, .int .u64 n3, .slice a10 2 c10] 29)); have v0_10 := BV10.out.cell 0; have v1_10 := BV10.out.cell 1; have v2_10 := BV10.out.cell 2; have v3_10 := BV10.out.cell 3; simp only [List.getElem?_cons_succ, List.getElem?_cons_zero] at v0_10 v1_10 v2_10 v3_10; clear hr10 hT10 hO10)
          | (go_at_call_of 21 (Value.agg #[.int .u64 n1, .int .u64 n1, .slice a3 0 c3]); refine ((T12.out.past O13.out).write' (NatsAt.none_ _ _ _) (by decide) n n1 F.out.ws1).mono ?_; rintro e w14 ⟨rfl, hO14⟩; have O14 := Lib.hid hO14; clear hO14)
          | (go_at_call 21; refine (T10.out.write' (nats_owned (l := [n1, n2]) RW10.out) (by simp) n n1 F.out.ww).mono ?_; rintro e w11 ⟨rfl, hO11⟩; have O11 := Lib.hid hO11; clear hO11)
          | (go_at_call 14; refine ((T10.out.past O11.out).commit' n1 F.out.c4).mono ?_; rintro e w12 ⟨rfl, hT12, hO12⟩; have T12 := Lib.hid hT12; have T11 := Lib.hid (T10.out.past O11.out); have BW11 := Lib.hid (O11.out.blk BW10.out (by simp)); have BS11 := Lib.hid (O11.out.blk BS10.out (by simp)); have BV11 := Lib.hid (O11.out.blk BV10.out (by simp)); have BW12 := Lib.hid (hO12.blk BW11.out (T11.out.ne BW11.out (by decide))); have BS12 := Lib.hid (hO12.blk BS11.out (T11.out.ne BS11.out (by decide))); have BV12 := Lib.hid (hO12.blk BV11.out (T11.out.ne BV11.out (by decide))); have RW12 := Lib.hid (owns_off (owns_past RW10.out O11.out) hO12 (T11.out.off (by decide))); have w0_12 := BW12.out.cell 0; have w1_12 := BW12.out.cell 1; have w2_12 := BW12.out.cell 2; simp only [List.getElem?_cons_succ, List.getElem?_cons_zero] at w0_12 w1_12 w2_12; have v0_12 := BV12.out.cell 0; have v1_12 := BV12.out.cell 1; have v2_12 := BV12.out.cell 2; have v3_12 := BV12.out.cell 3; simp only [List.getElem?_cons_succ, List.getElem?_cons_zero] at v0_12 v1_12 v2_12 v3_12; clear hT12 hO12)
          | (go_at_call 19; refine (T12.out.visible' (nats_owned (l := [n1, n2]) RW12.out) (by simp) n n1 F.out.vw).mono ?_; rintro e w13 ⟨rfl, hO13⟩; have O13 := Lib.hid hO13; have BS13 := Lib.hid (hO13.blk BS12.out (by simp)); have BV13 := Lib.hid (hO13.blk BV12.out (by simp)); have s0_13 := BS13.out.cell 0; have s1_13 := BS13.out.cell 1; have s2_13 := BS13.out.cell 2; simp only [List.getElem?_cons_succ, List.getElem?_cons_zero] at s0_13 s1_13 s2_13; have v0_13 := BV13.out.cell 0; have v1_13 := BV13.out.cell 1; have v2_13 := BV13.out.cell 2; have v3_13 := BV13.out.cell 3; simp only [List.getElem?_cons_succ, List.getElem?_cons_zero] at v0_13 v1_13 v2_13 v3_13; clear hO13))
        go_ret
        exact ⟨rfl, ((T12.out.own.trans O13.out (by simp)).trans O14.out (by simp)).below (Nat.le_refl _) (by simp)⟩
theorem first_walk (how : Int) (_ : -9223372036854775808 ≤ how ∧ how ≤ 9223372036854775807) (b : UInt8) (w : World) :
    Calls Try.prog 6 #[.int .i64 how, .int .u8 (b.toNat : Int)] w fun e w' => e = .returned (.bool true) ∧ Below w.heap.size w w' :=
  first_main how b.toNat b.toNat_lt w
end Go.Proofs.Ytilkbcoofbkemaa.T
