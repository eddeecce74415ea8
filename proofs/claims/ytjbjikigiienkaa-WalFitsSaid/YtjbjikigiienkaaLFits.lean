/-
  The walk of WalFits: the Go text answers true at every row of sizes; nothing that was there is changed.
-/
import Derived.Test.YtjbjikigiienkaaFitsM
import Derived.Test.YtjbjikigiienkaaLPlace
namespace Go.Proofs.Ytjbjikigiienkaa.W
set_option linter.unusedSimpArgs false
open Go.RowKit Go.Proofs.Ytjbjikigiienkaa.D Go.Proofs.Ytjbjikigiienkaa.B
set_option linter.unusedVariables false

/-- More than forty sizes: the law says nothing. -/
theorem fits_many (v : Value) (l : List Int) (w : World) (h : IntsAt w v l) (hl : 40 < l.length) :
    Calls Try.prog 4 #[v] w fun e w' => e = .returned (.bool true) ∧ Below w.heap.size w w' := by
  obtain ⟨ao, cap, rfl, _⟩ := h
  obtain ⟨n, hn⟩ : ∃ n, l.length = n := ⟨_, rfl⟩
  rw [hn] at hl ⊢
  have hl1 : (40 : Int) < n := by omega
  have hl2 : (0 : Int) < n := by omega
  clear hn
  go_enter Try.func4, Try.ntmps4
  go_wp2_with (go_at_call 6; refine (known_yes _).mono ?_; rintro e w1 ⟨rfl, hb⟩; have HB := Lib.hid hb; clear hb)
  go_loopg [3, 4] 0 (fun gk s3 s4 wr => s3 = .int .i64 0 ∧ s4 = .int .i64 0 ∧ wr = w1)
  case atStart => exact ⟨rfl, rfl, rfl⟩
  case round =>
    obtain ⟨rfl, rfl, rfl⟩ := hrel
    go_wp2_with fail
    go_ret
    exact ⟨rfl, HB.out⟩
set_option maxRecDepth 100000 in
set_option maxHeartbeats 4000000 in
theorem fits_main (v : Value) (l : List Int) (w : World) (h : IntsAt w v l) (hl : l.length ≤ 40) :
    Calls Try.prog 4 #[v] w fun e w' => e = .returned (.bool true) ∧ Below w.heap.size w w' := by
  have HI := Lib.hid h
  obtain ⟨ao, cap, rfl, hc⟩ := h
  have HC := Lib.hid hc
  obtain ⟨n, hn⟩ : ∃ n, l.length = n := ⟨_, rfl⟩
  have HN := Lib.hid hn
  rw [hn] at hl ⊢
  have hl1 : (n : Int) ≤ 40 := by omega
  clear hc hn
  go_enter Try.func4, Try.ntmps4
  go_wp2_with (go_at_call 6; refine (known_yes _).mono ?_; rintro e w1 ⟨rfl, hb⟩; have HB := Lib.hid hb; clear hb)
  go_loopg [3, 4] n (fun gk s3 s4 wr => ∃ k : Nat, gk = n - k ∧ k ≤ n ∧ s4 = .int .i64 k ∧ s3 = .int .i64 (sumT (l.take k)) ∧ (∀ r ∈ l.take k, 0 ≤ r ∧ r ≤ 3000) ∧ w1 = wr)
  case atStart => exact ⟨0, by omega, Nat.zero_le _, rfl, rfl, by simp, rfl⟩
  case round =>
    obtain ⟨k, hgk, hk, rfl, rfl, hall, rfl⟩ := hrel
    have HGK := Lib.hid hgk
    have HALL := Lib.hid hall
    have hb := sumT_bounds (l.take k) hall
    have hlk : (l.take k).length ≤ k := List.length_take_le _ _
    clear hgk hall
    by_cases hlt : k < n
    · have hk0 : (0 : Int) ≤ k := by omega
      have hk1 : (k : Int) < n := by omega
      obtain ⟨b, o, rfl, hc⟩ := HC.out (by rw [HN.out]; omega)
      have ck := (Only.of_below HB.out []).cell (hc k (by rw [HN.out]; exact hlt)) (by simp)
      have hsn : l.take (k + 1) = l.take k ++ [l.getD k 0] := by
        rw [List.take_succ_eq_append_getElem (by rw [HN.out]; exact hlt), List.getD_eq_getElem?_getD, List.getElem?_eq_getElem (by rw [HN.out]; exact hlt)]; rfl
      have HSN := Lib.hid hsn
      generalize l.getD k 0 = x at *
      have HST : Hid (sumT (l.take (k + 1)) = sumT (l.take k) + x + 32) := by show _ = _; rw [HSN.out, sumT_snoc]
      generalize sumT (l.take k) = q at *
      clear hc hsn
      by_cases hx : x < 0 ∨ 3000 < x
      · rcases hx with hx | hx
        all_goals
          go_wp2_with fail
          go_ret
          exact ⟨rfl, HB.out⟩
      · have hx1 : ¬ x < 0 := by omega
        have hx2 : ¬ 3000 < x := by omega
        have hx3 : (0 : Int) ≤ x := by omega
        have hx4 : x ≤ 3000 := by omega
        have HXX := Lib.hid (And.intro hx3 hx4)
        clear hx
        go_wp2_with fail
        go_roundg (n - (k + 1))
        case measure => have := HGK.out; omega
        case rel =>
          refine ⟨k + 1, rfl, by omega, by go_num, by rw [HST.out], fun r hr => ?_, rfl⟩
          rw [HSN.out, List.mem_append] at hr
          rcases hr with hr | hr
          · exact HALL.out r hr
          · simp only [List.mem_cons, List.not_mem_nil, or_false] at hr
            subst hr
            exact HXX.out
    · obtain rfl : k = n := by omega
      have hk1 : ¬ (k : Int) < k := by omega
      have ht : l.take k = l := List.take_of_length_le (by rw [HN.out]; exact Nat.le_refl _)
      rw [ht] at HALL hb hlk ⊢
      clear ht
      obtain ⟨q, hq⟩ : ∃ q, sumT l = q := ⟨_, rfl⟩
      have HQ := Lib.hid hq
      rw [hq] at hb ⊢
      clear hq hk
      have hq0 : 0 ≤ q := hb.1
      have hq1 : q ≤ 3032 * 40 := by omega
      by_cases hbig : 9000 < q
      · go_wp2_with fail
        go_ret
        exact ⟨rfl, HB.out⟩
      · have hbig' : ¬ 9000 < q := hbig
        have KL : Hid ((l.map (Value.int .i64)).length = k * 1) := by show _ = _; rw [List.length_map, HN.out]; omega
        have KC : Hid (0 < k → ∃ ad, ao = some ad ∧ ∀ j u, (l.map (Value.int .i64))[j]? = some u → w1.cell? (ad.add j) = some u) := by
          intro h0
          obtain ⟨b, o, rfl, hc⟩ := HC.out (by rw [HN.out]; exact h0)
          refine ⟨_, rfl, fun j u hu => ?_⟩
          have hj : j < l.length := by
            rcases Nat.lt_or_ge j l.length with h1 | h1
            · exact h1
            · rw [List.getElem?_eq_none (by rw [List.length_map]; exact h1)] at hu; cases hu
          rw [add_plain, (Only.of_below HB.out []).cell (hc j hj) (by simp), ← hu, List.getElem?_map, List.getElem?_eq_getElem hj, List.getD_eq_getElem?_getD, List.getElem?_eq_getElem hj]
          rfl
        go_wp2_with (refine wpList_grow rfl (.const (.slice none 0 0)) (.tmp 55) 35 rfl 3 Try.underlying35 (info_parts info_int) rfl (by omega) (.slice none 0 0) 0 [] rfl ⟨rfl, .inl ⟨rfl, rfl⟩⟩ ao k cap rfl (l.map (Value.int .i64)) KL.out (by exact KC.out) (by simp [Value.oneCell']) (by omega) (by omega) ?_)
        intro v2 w2 hg2
        have O2 : Hid (Only [] w1 w2) := hg2.only
        have I2 : Hid (IntsAt w2 v2 l) := by
          have h1 := hg2.own
          exact ints_owned h1 HN.out
        obtain ⟨a2, c2, rfl⟩ := hg2.shape
        have B2 : Hid (Below w.heap.size w w2) := HB.out.trans (O2.out.below HB.out.size (by simp))
        have hr3 : ∀ r ∈ l, 0 ≤ r ∧ r ≤ 65536 := fun r hr => by have := HALL.out r hr; omega
        have LE := Lib.hid (least_any l I2.out (by rw [HN.out]; omega) hr3)
        have hLS : leastS l = max (2 + (sumL l + 511) / 512) 4 := rfl
        have hsb := sumL_bounds l hr3
        obtain ⟨N, hNN⟩ : ∃ N : Nat, leastS l = N := ⟨(leastS l).toNat, by rw [hLS]; omega⟩
        rw [hNN] at LE hLS
        have hQ := HQ.out
        have hN4 : 4 ≤ N := by omega
        have hN40 : N ≤ 40 := by omega
        have hNroom : sumL l ≤ ((N - 2) * 512 : Nat) := by omega
        have HROOM := Lib.hid hNroom
        have hNt : ¬ (4 + 2 * ((q + 511) / 512) < (N : Int)) := by omega
        have hNt2 : (q + 511).tdiv 512 = (q + 511) / 512 := Int.tdiv_eq_ediv_of_nonneg (by omega)
        have hN0 : ¬ ((N : Int) < 0) := by omega
        have hN41 : (4 : Int) ≤ N := by omega
        have hN42 : (N : Int) ≤ 40 := by omega
        have hq9 : q ≤ 9000 := by omega
        have NN := Lib.hid (fun w : World => Disk.new (n := N) (w := w) (by omega) (by omega))
        obtain ⟨s1, l1, hf1, hl1a, hl1b, hl1c, hL1, hk1, hn1⟩ := format_fresh N 0 N hN4 (by omega) (by omega)
        obtain ⟨l2, ho2, hl2a, hl2b, hl2c, hL2⟩ := hL1.opened (by rw [hk1]; omega) [] (by simp [recs_nil])
        rw [hl1a, hl1b] at ho2
        rw [List.take_nil] at hL2
        have HF1 := Lib.hid hf1
        have HO2 := Lib.hid ho2
        have HK1 : Hid (s1.count = 2 ∧ s1.row = [] ∧ s1.now.length = N) := ⟨hk1, hL1.none, hn1⟩
        have HL2 := Lib.hid hL2
        have L2A : Hid (l2.first = 0 ∧ l2.size = N ∧ l2.sure = 0) := ⟨hl2a.trans hl1a, hl2b.trans hl1b, hl2c.trans hl1c⟩
        clear hf1 ho2 hk1 hn1 hL1 hL2 hl1a hl1b hl1c hl2a hl2b hl2c hNN hLS hsb hQ hr3 hg2 hNroom hb hlk
        go_wp2_with fail
        refine LE.out.mono ?_
        rintro e w' ⟨rfl, rfl⟩
        go_wp2_with fail
        refine (NN.out _).mono ?_
        rintro e w3 ⟨d, M3, rfl, hD3, hS3⟩
        have D3 : Hid (Dk w1 w3 d M3 (DS.fresh N)) := (Dk.made hD3 hS3) |> fun h => ⟨h.dk, O2.out.trans h.own (by simp), fun x hx => Nat.le_trans O2.out.size (h.nd x hx)⟩
        have N3 : Hid ((DS.fresh N).now.length = N) := by show _ = _; simp [DS.fresh]
        have FM : Hid (Calls Try.prog 9 #[.pointer (some ⟨d, 0, none⟩), .int .i64 0, .int .i64 N] w3 fun e w' => e = .returned (.int .i64 0) ∧ ∃ M', Dk w1 w' d M' s1 ∧ Far (.slice none 0 0) w3 w') := D3.out.format' 0 N hN4 (by rw [N3.out]; omega) (by rw [N3.out]; omega) ⟨by simp [DS.fresh], by simp [DS.fresh], by simp [DS.fresh]⟩ (fun i _ => fresh_turn N _) HF1.out
        clear hD3 hS3
        go_wp2_with fail
        refine FM.out.mono ?_
        rintro e w4 ⟨rfl, M4, hD4, hF4⟩
        have D4 := Lib.hid hD4
        have OP : Hid (Calls Try.prog 10 #[.pointer (some ⟨d, 0, none⟩), .int .i64 0, .int .i64 N] w4 (OpenYes w1 d w4 l2 [] s1)) := D4.out.open' 0 N hN4 (by rw [HK1.out.2.2]; omega) (by rw [HK1.out.2.2]; omega) ⟨by rw [HK1.out.1]; omega, by rw [HK1.out.1]; omega, by rw [HK1.out.2.1]; simp⟩ HO2.out
        clear hD4 hF4
        go_wp2_with fail
        refine OP.out.mono ?_
        rintro e w5 ⟨p, v5, vr, M5, B5, rfl, hG5, hR5, hF5, hv5⟩
        have F5 : Hid (FitsAt w1 w5 p d N l 0 (.slice none 0 0) v5 l2 M5 s1) := ⟨hG5, HL2.out, L2A.out.1, L2A.out.2.1, by rw [L2A.out.2.2]; rfl, HK1.out.2.2, by rw [HK1.out.1]; omega, by rw [HK1.out.1]; omega, Mine.nil _ _ _⟩
        clear hG5 hR5 hF5 hv5
        go_wp2_with fail
        go_loopg [10, 11] k (fun gk s10 s11 wx => ∃ (i : Nat) (vk : Value) (lk : LS) (Mk : List Nat) (sk : DS), gk = k - i ∧ i ≤ k ∧ s11 = .int .i64 i ∧ FitsAt w1 wx p d N l i s10 vk lk Mk sk)
        case atStart => exact ⟨0, v5, l2, M5, s1, by omega, Nat.zero_le _, rfl, F5.out⟩
        case round =>
          obtain ⟨i, vk, lk, Mk, sk, hgk, hi, rfl, hF⟩ := hrel
          rename World => wx
          have HGK := Lib.hid hgk
          have FA := Lib.hid hF
          obtain ⟨ar, cr, rfl⟩ : ∃ ar cr, u10 = .slice ar i cr := by
            obtain ⟨xs, h1, _⟩ := hF.mine
            obtain ⟨x, c, h, _⟩ := owns_shape h1
            rw [List.length_take, recsOf_len, HN.out, Nat.min_eq_left hi] at h
            exact ⟨x, c, h⟩
          clear hgk hF F5
          by_cases hlt : i < k
          · have hi0 : (0 : Int) ≤ i := by omega
            have hi1 : (i : Int) < k := by omega
            obtain ⟨b, o, rfl, hc⟩ := HC.out (by rw [HN.out]; omega)
            have ck := FA.out.lg.own.cell ((Only.of_below HB.out []).cell (hc i (by rw [HN.out]; exact hlt)) (by simp)) (by simp)
            have hx := HALL.out (l.getD i 0) (by rw [List.getD_eq_getElem?_getD, List.getElem?_eq_getElem (by rw [HN.out]; exact hlt)]; exact List.getElem_mem _)
            obtain ⟨m, hm⟩ := Int.eq_ofNat_of_zero_le hx.1
            rw [hm] at ck
            have hm3 : m ≤ 3000 := by omega
            have hm4 : ¬ ((m : Int) < 0) := by omega
            have HM := Lib.hid hm
            clear hc hm hx
            have mk := make_u8s m (by omega)
            go_wp2_with fail
            go_loopg [13] m (fun gj s13 wy => ∃ j : Nat, gj = m - j ∧ j ≤ m ∧ s13 = .int .i64 j ∧ Blk wy wx.heap.size (u8s (part i m j)) 5 ∧ Only [] wx wy)
            case atStart => exact ⟨0, rfl, Nat.zero_le _, rfl, by rw [part_zero]; exact Blk.new _ _ _, (Only.refl _ _).alloc _⟩
            case round =>
              obtain ⟨j, hgj, hj, rfl, hb, hO⟩ := hrel
              rename World => wy
              have HGJ := Lib.hid hgj
              have BY := Lib.hid hb
              have OY := Lib.hid hO
              clear hgj hb hO
              have hj0 : (0 : Int) ≤ j := by omega
              by_cases hjm : j < m
              · have hj1 : (j : Int) < m := by omega
                obtain ⟨oldv, cw⟩ := BY.out.at j (by rw [length_u8s, part_len]; exact hjm)
                have fw := BY.out.frozen j
                have hij : (i : Int) + j ≤ 3100 := by omega
                go_wp2_with fail
                go_roundg (m - (j + 1))
                case measure => have := HGJ.out; omega
                case rel =>
                  refine ⟨j + 1, rfl, by omega, by go_num, (BY.out.set j _).to ?_, OY.out.setCell (.inr (Nat.le_refl _)) _⟩
                  rw [← part_step i m j hjm, ← u8s_set, byte_mod]
              · obtain rfl : m = j := by omega
                have hjm' : ¬ ((m : Int) < m) := by omega
                have L1 := Lib.hid (FA.out.lg.past OY.out)
                have SZ : Hid (wx.heap.size < wy.heap.size) := BY.out.lt
                have RY : Hid (ByteRow 5 wy (.slice (some ⟨wx.heap.size, 0, none⟩) m m) (part i m m)) := BY.out.byteRow (part_len _ _ _) (by unfold maxLen; omega)
                have h30 : ∀ r ∈ l, 0 ≤ r ∧ r ≤ 3000 := HALL.out
                have STEP : Hid ((recsOf l).take (i + 1) = (recsOf l).take i ++ [part i m m]) := by
                  show _ = _
                  rw [recsOf_step l i (by rw [HN.out]; exact hlt), HM.out, Int.toNat_natCast]
                have E1 : Hid (((enc ((recsOf l).take i)).length : Int) + m + 4 ≤ ((N - 2) * 512 : Nat)) := by
                  show _ ≤ _
                  have h1 := enc_recs l h30 (i + 1) (by rw [HN.out]; omega)
                  have h2 := sumL_mono l h30 (i + 1)
                  have h3 := HROOM.out
                  rw [STEP.out, enc_snoc, List.length_append, List.length_append, le_len, part_len] at h1
                  omega
                clear h30
                have A1 := Lib.hid (L1.out.append' FA.out.live (by have := FA.out.c1; omega) (.slice (some ⟨wx.heap.size, 0, none⟩) m m) (part i m m) RY.out.at (fun a n c h => by
                  simp only [Value.slice.injEq, Option.some.injEq] at h
                  obtain ⟨rfl, _⟩ := h
                  exact ⟨by have := FA.out.lg.lg.log.lt; simp only; omega, fun h => Nat.lt_irrefl wx.heap.size (owns_lt (k := wx.heap.size) FA.out.lg.lg.tail h)⟩) (by rw [part_len]; omega) (by
                  have h1 := E1.out
                  have h2 := FA.out.live.fin
                  rw [part_len, h2]
                  unfold LS.room
                  rw [FA.out.size]
                  omega))
                have TB : Hid (∀ q, vk.ownBlock = some q → (∃ cs, Blk wy q cs 5) ∧ q < wx.heap.size) := fun q hq => ⟨owns_own L1.out.lg.tail hq, owns_lt FA.out.lg.lg.tail hq⟩
                have N1 := Lib.hid (FA.out.mine.far (Far.past vk OY.out) (fun q hq => owns_own FA.out.lg.lg.tail hq) (fun q hq => .inl hq))
                clear ck
                go_wp2_with fail
                refine A1.out.mono ?_
                rintro e w7 ⟨rfl, v7, l7, hG7, hL7, h7a, h7b, h7c, hF7, hv7⟩
                have G7 := Lib.hid hG7
                have L7 : Hid (Live l7 sk (enc ((recsOf l).take (i + 1)))) := by show Live _ _ _; rw [STEP.out, enc_snoc, part_len]; rw [part_len] at hL7; exact hL7
                have N7 := Lib.hid (N1.out.far hF7 (fun q hq => (TB.out q hq).1) hv7)
                have R7 : Hid (ByteRow 5 w7 (.slice (some ⟨wx.heap.size, 0, none⟩) m m) (part i m m)) := hF7.owned RY.out (fun q hq hq2 => by
                  simp only [Value.ownBlock, Option.some.injEq] at hq
                  have := (TB.out q hq2).2
                  omega) (by decide) (by decide) (by decide) (by decide)
                have T7 : Hid (∀ q, v7.ownBlock = some q → (∃ cs, Blk w7 q cs 5) ∧ q ≠ wx.heap.size) := fun q hq => ⟨owns_own hG7.lg.tail hq, fun e => by
                  rcases hv7 q hq with h | h
                  · have := (TB.out q h).2; omega
                  · have := SZ.out; omega⟩
                have S7 : Hid (wx.heap.size < w7.heap.size) := by have := hF7.size; have := SZ.out; show _ < _; omega
                have A7 : Hid (l7.first = 0 ∧ l7.size = N) := ⟨h7a.trans FA.out.at0, h7b.trans FA.out.size⟩
                have FL := Lib.hid (hG7.flush' L7.out FA.out.c0 (by have := FA.out.c1; omega))
                clear hG7 hL7 h7a h7b h7c hF7 hv7
                go_wp2_with fail
                refine FL.out.mono ?_
                rintro e w8 ⟨rfl, v8, M8, l8, s8, hG8, hL8, h8a, h8b, h8c, hn8, hk8a, hk8b, hF8, hv8⟩
                have G8 := Lib.hid hG8
                have L8 := Lib.hid hL8
                have N8 := Lib.hid (N7.out.far hF8 (fun q hq => (T7.out q hq).1) hv8)
                have R8 : Hid (ByteRow 5 w8 (.slice (some ⟨wx.heap.size, 0, none⟩) m m) (part i m m)) := hF8.owned R7.out (fun q hq hq2 => by
                  simp only [Value.ownBlock, Option.some.injEq] at hq
                  exact (T7.out q hq2).2 hq.symm) (by decide) (by decide) (by decide) (by decide)
                have T8 : Hid (∀ q, v8.ownBlock = some q → q ≠ wx.heap.size) := fun q hq e => by
                  rcases hv8 q hq with h | h
                  · exact (T7.out q h).2 e
                  · have := S7.out; omega
                have A8 : Hid (l8.first = 0 ∧ l8.size = N ∧ l8.sure = (enc ((recsOf l).take (i + 1))).length ∧ s8.now.length = N ∧ 0 ≤ s8.count ∧ s8.count ≤ 2 + 20000 * ((i + 1 : Nat) : Int)) := by
                  have h1 := FA.out.c0
                  have h2 := FA.out.c1
                  exact ⟨h8a.trans A7.out.1, h8b.trans A7.out.2, h8c, hn8.trans FA.out.len, by omega, by omega⟩
                clear hG8 hL8 h8a h8b h8c hn8 hk8a hk8b hF8 hv8
                obtain ⟨xs, hx1, hx2, hx3, hx4⟩ := N8.out
                have LT : Hid (((recsOf l).take i).length = i) := by show _ = _; rw [List.length_take, recsOf_len, HN.out, Nat.min_eq_left hi]
                have OA : Hid (Only [] w8 (w8.alloc (.cells #[.slice (some ⟨wx.heap.size, 0, none⟩) m m] 34))) := (Only.refl _ _).alloc _
                have X1 : Hid ((w8.alloc (.cells #[.slice (some ⟨wx.heap.size, 0, none⟩) m m] 34)).ownsRow 0 34 1 (.slice ar i cr) i xs) := by
                  have h := hx1
                  rw [LT.out] at h
                  exact owns_past h OA.out
                have X2 := Lib.hid (hx2.past OA.out)
                have X3 := Lib.hid hx3
                have X4 := Lib.hid hx4
                clear hx1 hx2 hx3 hx4
                go_wp2_with (refine wpList_push rfl (.tmp 130) (.tmp 132) 31 rfl 34 Try.underlying31 (info_parts info_bytes) rfl (.slice ar i cr) i xs rfl X1.out _ _ _ rfl (by exact (Blk.new _ _ _).cell 0) rfl (by omega) (by omega) ?_)
                intro g cp w9 hown hO9 hat hg
                have F9 : Hid (FitsAt w1 w9 p d N l (i + 1) (.slice (some ⟨g, 0, none⟩) (i + 1) cp) v8 l8 M8 s8) :=
                  ⟨(G8.out.past OA.out).beside X1.out hO9 X3.out, L8.out, A8.out.1, A8.out.2.1, A8.out.2.2.1, A8.out.2.2.2.1, A8.out.2.2.2.2.1, A8.out.2.2.2.2.2, by
                    rw [STEP.out]
                    refine Mine.snoc (w := w8.alloc (.cells #[.slice (some ⟨wx.heap.size, 0, none⟩) m m] 34)) (v := .slice ar i cr) (xs := xs) ?_ X2.out X3.out X4.out hO9 (by rw [LT.out]) hown (R8.out.off OA.out (Off.nil _ _)) (fun q hq h => ?_) ?_ ?_
                    · rw [LT.out]; exact X1.out
                    · simp only [Value.ownBlock, Option.some.injEq] at hq
                      exact T8.out q h hq.symm
                    · rw [World.size_alloc]; exact hat
                    · exact (G8.out.past OA.out).own.size⟩
                clear hown hO9 hat hg
                go_wp2_with fail
                go_roundg (k - (i + 1))
                case measure => have := HGK.out; omega
                case rel => exact ⟨i + 1, v8, l8, M8, s8, rfl, by omega, by go_num, F9.out⟩
          · obtain rfl : k = i := by omega
            have hkk : ¬ ((k : Int) < k) := by omega
            have ALL : Hid ((recsOf l).take k = recsOf l) := List.take_of_length_le (by rw [recsOf_len, HN.out]; exact Nat.le_refl _)
            have h30 : ∀ r ∈ l, 0 ≤ r ∧ r ≤ 3000 := HALL.out
            obtain ⟨hL8, hk8, hn8⟩ := FA.out.live.again []
            obtain ⟨l9, ho9, _, _, _, _⟩ := hL8.opened (by rw [hk8]; have := FA.out.c1; omega) (recsOf l) (by
              rw [FA.out.sure, List.take_length, ALL.out]
              exact recs_enc _ (recsOf_small l h30))
            rw [FA.out.at0, FA.out.size] at ho9
            have HO9 := Lib.hid ho9
            have RS := Lib.hid (FA.out.lg.dks.restart' (by rw [FA.out.live.none]; simp))
            have R9 : Hid ((sk.restart []).now.length = N ∧ 0 ≤ (sk.restart []).count ∧ (sk.restart []).count ≤ 1000000 ∧ (sk.restart []).row = []) := ⟨by rw [hn8, FA.out.len], by rw [hk8]; exact FA.out.c0, by rw [hk8]; have := FA.out.c1; omega, hL8.none⟩
            have MB : Hid (Mine w1 wx (.slice none 0 0) (.slice ar k cr) (recsOf l)) := by
              have := FA.out.mine
              rw [ALL.out] at this
              exact this.bare
            clear hL8 hk8 hn8 ho9 h30
            go_wp2_with fail
            refine RS.out.mono ?_
            rintro e w8 ⟨rfl, M8, hD8, hF8⟩
            have D8 := Lib.hid hD8
            have N8 := Lib.hid (MB.out.far hF8 (fun q hq => by cases hq) (fun q hq => .inl hq))
            clear hD8 hF8
            have OP : Hid (Calls Try.prog 10 #[.pointer (some ⟨d, 0, none⟩), .int .i64 0, .int .i64 N] w8 (OpenYes w1 d w8 l9 (recsOf l) (sk.restart []))) := D8.out.open' 0 N hN4 (by rw [R9.out.1]; omega) (by rw [R9.out.1]; omega) ⟨R9.out.2.1, by have := R9.out; omega, by rw [R9.out.2.2.2]; simp⟩ HO9.out
            go_wp2_with fail
            refine OP.out.mono ?_
            rintro e w9 ⟨p9, v9, vr9, M9, B9, rfl, hG9, hR9, hF9, hv9⟩
            have G9 := Lib.hid hG9
            have N9 := Lib.hid (N8.out.far hF9 (fun q hq => by cases hq) (fun q hq => .inl hq))
            have LI := Lib.hid (lists_any hR9.at N9.out.at (by rw [recsOf_len, HN.out]; omega))
            have EQ : Hid ((recsOf l == recsOf l) = true) := beq_self_eq_true _
            clear hG9 hR9 hF9 hv9
            go_wp2_with fail
            refine LI.out.mono ?_
            rintro e w10 ⟨rfl, hO10⟩
            rw [EQ.out]
            have O10 := Lib.hid hO10
            clear hO10
            go_wp2_with fail
            go_ret
            exact ⟨rfl, HB.out.trans ((G9.out.own.trans O10.out (by simp)).below HB.out.size (by simp))⟩
theorem fits_walk {w : World} (v : Value) (l : List Int) (h : IntsAt w v l) : Calls Try.prog 4 #[v] w fun e w' => e = .returned (.bool true) ∧ Below w.heap.size w w' := by
  by_cases hl : l.length ≤ 40
  · exact fits_main v l w h hl
  · exact fits_many v l w h (by omega)
end Go.Proofs.Ytjbjikigiienkaa.W
