import Derived.Test.YtfkmjbpnjgnkbaaGreatMHrA
import Derived.Test.YtfkmjbpnjgnkbaaGreatMOpen
import Derived.Deep.LoopGhost
/-
  The walk of HeapRounds.
-/
namespace Go.Proofs.YtfkmjbpnjgnkbaaGreat.H
set_option linter.unusedSimpArgs false
open Go Go.RowKit Go.Proofs.YtfkmjbpnjgnkbaaGreat.D Go.Proofs.YtfkmjbpnjgnkbaaGreat.B Go.Proofs.YtfkmjbpnjgnkbaaGreat.C Go.Proofs.YtfkmjbpnjgnkbaaGreat.G Go.Proofs.YtfkmjbpnjgnkbaaGreat.P
set_option linter.unusedVariables false
set_option maxRecDepth 100000 in
set_option maxHeartbeats 4000000 in
theorem rounds_out {w : World} (n : Int) (bn : -9223372036854775808 ≤ n ∧ n ≤ 9223372036854775807) (s : Int) (bs : -9223372036854775808 ≤ s ∧ s ≤ 9223372036854775807) (m : Int) (bm : -9223372036854775808 ≤ m ∧ m ≤ 9223372036854775807) (ho : ¬ (1 ≤ n ∧ n ≤ 30 ∧ 1 ≤ s ∧ s ≤ 370 ∧ 1 ≤ m ∧ m ≤ 8)) :
    Calls Tryz.prog 3 #[.int .i64 n, .int .i64 s, .int .i64 m] w fun e w' => e = .returned (.bool true) ∧ Below w.heap.size w w' := by
  have K := Lib.hid (known_any w)
  by_cases h1 : n < 1
  · clear ho
    go_enter Tryz.func3, Tryz.ntmps3
    go_wp2_with (go_at_call 5; refine K.out.mono ?_; rintro e w1 ⟨rfl, hO1⟩; have O1 := Lib.hid hO1; clear hO1)
    go_ret
    exact ⟨rfl, O1.out.below (Nat.le_refl _) (by simp)⟩
  by_cases h2 : 30 < n
  · clear ho
    go_enter Tryz.func3, Tryz.ntmps3
    go_wp2_with (go_at_call 5; refine K.out.mono ?_; rintro e w1 ⟨rfl, hO1⟩; have O1 := Lib.hid hO1; clear hO1)
    go_ret
    exact ⟨rfl, O1.out.below (Nat.le_refl _) (by simp)⟩
  by_cases h3 : s < 1
  · clear ho
    go_enter Tryz.func3, Tryz.ntmps3
    go_wp2_with (go_at_call 5; refine K.out.mono ?_; rintro e w1 ⟨rfl, hO1⟩; have O1 := Lib.hid hO1; clear hO1)
    go_ret
    exact ⟨rfl, O1.out.below (Nat.le_refl _) (by simp)⟩
  by_cases h4 : 370 < s
  · clear ho
    go_enter Tryz.func3, Tryz.ntmps3
    go_wp2_with (go_at_call 5; refine K.out.mono ?_; rintro e w1 ⟨rfl, hO1⟩; have O1 := Lib.hid hO1; clear hO1)
    go_ret
    exact ⟨rfl, O1.out.below (Nat.le_refl _) (by simp)⟩
  by_cases h5 : m < 1
  · clear ho
    go_enter Tryz.func3, Tryz.ntmps3
    go_wp2_with (go_at_call 5; refine K.out.mono ?_; rintro e w1 ⟨rfl, hO1⟩; have O1 := Lib.hid hO1; clear hO1)
    go_ret
    exact ⟨rfl, O1.out.below (Nat.le_refl _) (by simp)⟩
  have h6 : 8 < m := by omega
  clear ho
  go_enter Tryz.func3, Tryz.ntmps3
  go_wp2_with (go_at_call 5; refine K.out.mono ?_; rintro e w1 ⟨rfl, hO1⟩; have O1 := Lib.hid hO1; clear hO1)
  go_ret
  exact ⟨rfl, O1.out.below (Nat.le_refl _) (by simp)⟩
theorem RidRow.cells {w : World} {ao : Option Addr} {n cap : Nat} {L : List Nat} (h : RidRow w (.slice ao n cap) L) (hl : L.length = n) (h0 : 0 < n) : ∃ b o, ao = some ⟨b, o, none⟩ ∧ n ≤ cap ∧ ∀ j, j < n → w.cell? ⟨b, o + j, none⟩ = some (.int .u64 (L.getD j 0 : Nat)) := by
  obtain ⟨ao', cap', he, hc, hx⟩ := h.at
  simp only [Value.slice.injEq] at he
  obtain ⟨rfl, _, rfl⟩ := he
  subst hl
  obtain ⟨b, o, rfl, hx2⟩ := hx h0
  exact ⟨b, o, rfl, hc, hx2⟩
/-- What holds between two rounds. -/
structure Round (w : World) (p hb n s : Nat) (L : List Nat) (V : (Nat → Option Ver) → Prop) (k : Nat) (M : List Nat) (u : List Bool) (pg : Nat → List UInt8) (ids : List Nat) (wr : World) : Prop where
  heap : HeapL w p hb 300 M u pg ids k wr
  fits : Fits pg ids (n * s) n
  vers : V (verR pg ids)
theorem Round.pages {w wr : World} {p hb n s k : Nat} {L M ids : List Nat} {V : (Nat → Option Ver) → Prop} {u : List Bool} {pg : Nat → List UInt8} (h : Round w p hb n s L V k M u pg ids wr) (hn : n ≤ 30) (hs : s ≤ 370) : ids.length ≤ 118 := by
  have h1 := h.fits.few
  have h2 : n * s ≤ 30 * 370 := Nat.mul_le_mul hn hs
  omega
set_option maxRecDepth 100000 in
set_option maxHeartbeats 4000000 in
theorem rounds_main {w : World} (n s m : Nat) (h1 : 1 ≤ n) (h2 : n ≤ 30) (h3 : 1 ≤ s) (h4 : s ≤ 370) (h5 : 1 ≤ m) (h6 : m ≤ 8) :
    Calls Tryz.prog 3 #[.int .i64 n, .int .i64 s, .int .i64 m] w fun e w' => e = .returned (.bool true) ∧ Below w.heap.size w w' := by
  have K := Lib.hid (known_any w)
  have MD : Hid (∀ w1, Only [] w w1 → Calls Tryz.prog 6 #[.int .i64 300] w1 fun e w' => ∃ p hb M, e = .returned (.tuple #[.pointer (some ⟨p, 0, none⟩), .pointer (some ⟨hb, 0, none⟩)]) ∧ Round w p hb n s [] (fun V => ∀ x, V x = none) 4 M (usedN 300) pg0 [0] w') := fun w1 hO => by
    refine (made_any w1 300 (by omega) (by omega)).mono ?_
    rintro e w' ⟨p, hb, M, rfl, hM⟩
    exact ⟨p, hb, M, rfl, HeapL.made (by omega) hO hM, Fits.first (n := 300) (by omega) _ _, (heap_first (n := 300) (by omega)).2.2.2.2⟩
  obtain ⟨z, hz⟩ : ∃ z : List UInt8, List.replicate s 0 = z := ⟨_, rfl⟩
  have hzl : z.length = s := by rw [← hz, List.length_replicate]
  have mk0 := make_u8s s (by omega)
  rw [hz] at mk0
  have ZL := Lib.hid hzl
  clear hz hzl
  have mk : ∀ w : World, (Instr.makeSlice 33 (.int .i64 (s : Int)) (.int .i64 (s : Int))).run Tryz.prog w = .ok (.slice (some ⟨w.heap.size, 0, none⟩) s s) (w.alloc (.cells (u8s z).toArray 5)) := mk0
  clear mk0
  have g1 : ¬ (n : Int) < 1 := by omega
  have g2 : ¬ (30 : Int) < n := by omega
  have g3 : ¬ (s : Int) < 1 := by omega
  have g4 : ¬ (370 : Int) < s := by omega
  have g5 : ¬ (m : Int) < 1 := by omega
  have g6 : ¬ (8 : Int) < m := by omega
  go_enter Tryz.func3, Tryz.ntmps3
  go_wp2_with (first
    | (go_at_call 5; refine K.out.mono ?_; rintro e w1 ⟨rfl, hO1⟩; have O1 := Lib.hid hO1; clear hO1)
    | (go_at_call 6; refine (MD.out _ O1.out).mono ?_; rintro e w2 ⟨p, hb, M2, rfl, hH2⟩; have H2 := Lib.hid hH2; clear hH2))
  clear g1 g2 g3 g4 g5 g6
  go_loopg [9] m (fun gk s9 wr => ∃ (r : Nat) (M : List Nat) (u : List Bool) (pg : Nat → List UInt8) (ids : List Nat), gk = m - r ∧ r ≤ m ∧ s9 = .int .i64 r ∧ Round w p hb n s [] (fun V => ∀ x, V x = none) (4 + 20000 * r) M u pg ids wr)
  case atStart => exact ⟨0, M2, usedN 300, pg0, [0], rfl, Nat.zero_le _, rfl, H2.out⟩
  case round =>
    obtain ⟨r, M, u, pg, ids, hgk, hr, rfl, hR⟩ := hrel
    rename World => wr
    have HGK := Lib.hid hgk
    have R0 := Lib.hid hR
    clear hgk hR H2
    by_cases hlt : r < m
    · have hr0 : (0 : Int) ≤ r := by omega
      have hr1 : (r : Int) < m := by omega
      go_wp2_with fail
      go_loopg [10, 11] n (fun gq s10 s11 wx => ∃ (i : Nat) (L : List Nat) (Mi : List Nat) (ui : List Bool) (pgi : Nat → List UInt8) (idi : List Nat), gq = n - i ∧ i ≤ n ∧ s11 = .int .i64 i ∧ L.length = i ∧ Round w p hb n s [] (fun V => Vers V L (fun j => ⟨z, r, 0, 0⟩)) (4 + 20000 * r + 300 * i) Mi ui pgi idi wx ∧ RidRow wx s10 L ∧ ∀ x, s10.ownBlock = some x → w.heap.size ≤ x ∧ x ∉ Mi ∧ x ≠ hb)
      case atStart => exact ⟨0, [], M, u, pg, ids, rfl, Nat.zero_le _, rfl, rfl, ⟨R0.out.heap, R0.out.fits, Vers.nil R0.out.vers _⟩, ⟨rfl, .inl ⟨rfl, rfl⟩⟩, fun x hx => by simp [Value.ownBlock] at hx⟩
      case round =>
        obtain ⟨i, L, Mi, ui, pgi, idi, hgq, hi, rfl, hL, hRi, hRow, hN⟩ := hrel
        rename World => wx
        have HGQ := Lib.hid hgq
        have HL := Lib.hid hL
        have RR := Lib.hid hRi
        have HROW := Lib.hid hRow
        have HN := Lib.hid hN
        obtain ⟨ao, cap, rfl, hcap, hcell⟩ := hRow.at
        rw [hL] at hcap ⊢
        have NP := Lib.hid (hRi.pages h2 h4)
        clear hgq hL hRi hRow hN hcell R0
        by_cases hli : i < n
        · have hi0 : (0 : Int) ≤ i := by omega
          have hi1 : (i : Int) < n := by omega
          have IN : Hid (∀ w1 v, Only [] wx w1 → BytesAt w1 v z → (∀ a n c, v = .slice (some a) n c → a.block ∉ Mi ∧ a.block < w1.heap.size) → Calls Tryz.prog 7 #[.pointer (some ⟨hb, 0, none⟩), v, .int .u64 r] w1 fun e w' => ∃ x u' pg' ids' M', e = .returned (.tuple #[.int .u64 (x : Nat), .int .i64 0]) ∧ InsL w w1 p hb 300 (4 + 20000 * r + 300 * i) Mi idi ui pgi z r x u' pg' ids' M' w') := fun w1 v hO hv hvM => by
            have := NP.out
            exact (RR.out.heap.past hO).insert (by omega) (by omega) hv hvM r (by unfold W64; omega) (by rw [ZL.out]; omega) (by rw [ZL.out]; omega)
          have RI : Hid (wx.ownsRow 0 29 1 (.slice ao i cap) i (u64s L)) := by
            have h := HROW.out
            unfold RidRow at h
            rw [HL.out] at h
            exact Lib.hid h
          go_wp2_with (first
            | (go_at_call 7; refine (IN.out _ _ ((Only.refl [] wx).alloc _) (bytes_made _ ZL.out.symm) (fun a n c h => by cases h; exact ⟨fun hm => Nat.lt_irrefl _ (RR.out.heap.pool.lt _ hm), by rw [World.size_alloc]; exact Nat.lt_succ_self _⟩)).mono ?_; rintro e w3 ⟨x, u3, pg3, ids3, M3, rfl, hI3⟩; have I3 := Lib.hid hI3; have RW3 := Lib.hid (show w3.ownsRow 0 29 1 (.slice ao i cap) i (u64s L) from owns_later (owns_later RI.out ((Only.refl [] wx).alloc (.cells (u8s z).toArray 5)) (by simp)) hI3.step.1 (fun x hx => (HN.out x (by rw [HL.out]; exact hx)).2.1)); clear hI3)
            | (refine wpList_push rfl (.tmp 70) (.tmp 72) 27 rfl 29 Tryz.underlying27 (info_parts info_rid) rfl (.slice ao i cap) i (u64s L) rfl (by exact owns_later RW3.out ((Only.refl [] w3).alloc _) (by simp)) _ _ _ rfl (by exact (Blk.new _ _ _).cell 0) rfl (by omega) (by decide) ?_; intro g6 cp w6 hown hO6 hat hg6; clear hg6))
          have XN : ∀ y ∈ (Value.slice ao i cap).ownBlock.toList, y ∉ M3 ∧ y ≠ hb ∧ w.heap.size ≤ y := fun y hy => by
            have hy := Option.mem_toList.1 hy
            have h1 := HN.out y (by rw [HL.out]; exact hy)
            have h2 := owns_lt RI.out hy
            exact ⟨P.Step.keep I3.out.step (by rw [World.size_alloc]; omega) h1.2.1, h1.2.2, h1.1⟩
          have RW4 : (w3.alloc (.cells #[.int .u64 x] 29)).ownsRow 0 29 1 (.slice ao i cap) i (u64s L) := owns_later RW3.out ((Only.refl [] w3).alloc _) (by simp)
          have H6 := Lib.hid (((I3.out.heap.past ((Only.refl [] w3).alloc (.cells #[.int .u64 x] 29))).later hO6 (fun y hy cs hcs => owns_ne RW4 hcs (by decide) (Option.mem_toList.1 hy)) XN).more (k' := 4 + 20000 * r + 300 * (i + 1)) (by have := NP.out; omega))
          have R6 : Hid (RidRow w6 (.slice (some ⟨g6, 0, none⟩) (i + 1) cp) (L ++ [x])) := rid_push (by rw [HL.out]; exact hown)
          have N6 : Hid (g6 ∉ M3 ∧ g6 ≠ hb ∧ w.heap.size ≤ g6) := by
            rcases hat with h | h
            · exact XN g6 (Option.mem_toList.2 h)
            · rw [World.size_alloc] at h
              have h1 := I3.out.heap.pool.lt
              have h2 := I3.out.heap.hp.lt
              have h3 := I3.out.heap.only.size
              exact ⟨fun hm => by have := h1 _ hm; omega, by omega, by omega⟩
          have V6 : Hid (Vers (verR pg3 ids3) (L ++ [x]) (fun j => ⟨z, r, 0, 0⟩)) := RR.out.vers.put I3.out.put rfl I3.out.ok.1 I3.out.ok.2
          have F6 : Hid (Fits pg3 ids3 (n * s) n) := by
            have hmul : n * s ≤ 30 * 370 := Nat.mul_le_mul h2 h4
            have hmul2 : (i + 1) * s ≤ n * s := Nat.mul_le_mul_right s hli
            rw [Nat.add_mul, Nat.one_mul] at hmul2
            exact I3.out.fits RR.out.heap.is_ RR.out.heap.zero (by rw [RR.out.heap.ulen]; omega) (by unfold W64; omega) RR.out.fits RR.out.vers.live (by rw [ZL.out]; omega) (by rw [ZL.out]; omega) (by rw [RR.out.vers.bytes (s := s) (fun _ => ZL.out), HL.out, ZL.out]; exact hmul2) (by rw [HL.out]; omega) (by omega) (by omega)
          clear XN RW4 hown hO6 hat
          go_roundg (n - (i + 1))
          case measure => have := HGQ.out; omega
          case rel => exact ⟨i + 1, L ++ [x], M3, u3, pg3, ids3, rfl, by omega, by go_num, by rw [List.length_append, HL.out]; rfl, ⟨H6.out, F6.out, V6.out⟩, R6.out, fun y hy => by
            simp only [Value.ownBlock, Option.some.injEq] at hy
            subst hy
            exact ⟨N6.out.2.2, N6.out.1, N6.out.2.1⟩⟩
        · obtain rfl : i = n := by omega
          have hni : ¬ (i : Int) < i := by omega
          have HN0 : Hid (∀ y, (Value.slice ao i cap).ownBlock = some y → w.heap.size ≤ y ∧ y < wx.heap.size ∧ y ∉ Mi ∧ y ≠ hb) := fun y hy => by
            have hx2 := HN.out y (by rw [HL.out]; exact hy)
            have h3 := owns_lt HROW.out (show (Value.slice ao L.length cap).ownBlock = some y by rw [HL.out]; exact hy)
            exact ⟨hx2.1, h3, hx2.2.1, hx2.2.2⟩
          have PG := Lib.hid (RR.out.heap.pages (by have := NP.out; omega) (by have := NP.out; omega))
          obtain ⟨b, hb⟩ : ∃ b, i * s = b := ⟨_, rfl⟩
          have hbl : b ≤ 30 * 370 := by rw [← hb]; exact Nat.mul_le_mul h2 h4
          have hbI : (i : Int) * (s : Int) = (b : Int) := by rw [← hb, Int.natCast_mul]
          have hfew := RR.out.fits.few
          rw [hb] at hfew
          have NP' := NP.out
          generalize hq : idi.length = q at *
          have hfewI : (q : Int) ≤ 2 + (b : Int) / 100 + (i : Int) / 6 := by omega
          have HQ := Lib.hid hq
          clear hq hb hfew
          go_wp2_with (go_at_call 8; refine PG.out.mono ?_; rintro e w4 ⟨ao4, cap4, M4, rfl, hr4, hH4, hS4⟩; have H4 := Lib.hid hH4; have S4 := Lib.hid hS4; clear hr4 hH4 hS4)
          have L0 : Hid (L.length = i) := HL.out
          have LN := Lib.hid RR.out.vers.nodup
          have LW : Hid (∀ t, t < i → L.getD t 0 < W64) := fun t ht => (RR.out.vers.ok _ (getD_mem (by rw [HL.out]; exact ht))).2
          have R4 : Hid (Round w p hb i s [] (fun V => (∀ x, V x ≠ none → x ∈ L) ∧ (i % 3 ≠ 0 → ∀ t, 0 ≤ t → t < i → V (L.getD ((t * 3 + r) % i) 0) ≠ none)) (4 + 20000 * r + 300 * i + 300) M4 ui pgi idi w4) := ⟨H4.out.more (by omega), RR.out.fits, RR.out.vers.only, fun _ t _ ht => by
            rw [RR.out.vers.at_ _ (by rw [HL.out]; exact Nat.mod_lt _ (by omega))]; simp⟩
          have RW : Hid (∀ wy Mj, Step M4 Mj w4 wy → RidRow wy (.slice ao i cap) L) := fun wy Mj hS => by
            have h := owns_later HROW.out S4.out.1 (fun y hy => (HN0.out y (by rw [HL.out] at hy; exact hy)).2.2.1)
            have h2 := owns_later h hS.1 (fun y hy => by
              have h3 := HN0.out y (by rw [HL.out] at hy; exact hy)
              exact P.Step.keep S4.out h3.2.1 h3.2.2.1)
            rw [HL.out] at h2
            unfold RidRow
            rw [HL.out]
            exact h2
          clear PG S4 H4 HN0 HN HROW RR hbI hfewI hbl
          go_loopg [16] i (fun gz s16 wy => ∃ (j : Nat) (Mj : List Nat) (pgj : Nat → List UInt8), gz = i - j ∧ j ≤ i ∧ s16 = .int .i64 j ∧ Round w p hb i s [] (fun V => (∀ x, V x ≠ none → x ∈ L) ∧ (i % 3 ≠ 0 → ∀ t, j ≤ t → t < i → V (L.getD ((t * 3 + r) % i) 0) ≠ none)) (4 + 20000 * r + 300 * i + 300 + 4 * j) Mj ui pgj idi wy ∧ Step M4 Mj w4 wy)
          case atStart => exact ⟨0, M4, pgi, rfl, Nat.zero_le _, rfl, R4.out, Step.refl _ _⟩
          case round =>
            obtain ⟨j, Mj, pgj, hgz, hj, rfl, hRj, hSj⟩ := hrel
            rename World => wy
            have HGZ := Lib.hid hgz
            have RJ := Lib.hid hRj
            have SJ := Lib.hid hSj
            have ROW := Lib.hid (RW.out wy Mj hSj)
            clear hgz hRj hSj R4
            by_cases hlj : j < i
            · have hj0 : (0 : Int) ≤ j := by omega
              have hj1 : (j : Int) < i := by omega
              obtain ⟨b0, o0, rfl, hcap0, hcell⟩ := ROW.out.cells L0.out (by omega)
              obtain ⟨t, ht⟩ : ∃ t, (j * 3 + r) % i = t := ⟨_, rfl⟩
              have htl : t < i := by rw [← ht]; exact Nat.mod_lt _ (by omega)
              have htI : ((j : Int) * 3 + r) % (i : Int) = (t : Int) := by rw [← ht]; simp
              have ht0 : (0 : Int) ≤ t := by omega
              have ht1 : (t : Int) < i := by omega
              have cx := hcell t htl
              have HT := Lib.hid ht
              have XW := Lib.hid (LW.out t htl)
              obtain ⟨x, hx⟩ : ∃ x, L.getD t 0 = x := ⟨_, rfl⟩
              have HX := Lib.hid hx
              rw [hx] at cx
              clear hcell ht hx
              cases hv : verR pgj idi x with
              | some v =>
                have FR := Lib.hid (RJ.out.heap.free (by omega) hv)
                clear hv
                go_wp2_with (go_at_call 9; refine FR.out.mono ?_; rintro e w5 ⟨pg5, M5, rfl, hH5, hn5, hr5, hS5, _⟩; have H5 := Lib.hid hH5; have N5 := Lib.hid hn5; have RE5 := Lib.hid hr5; have S5 := Lib.hid hS5; clear hH5 hn5 hr5 hS5)
                have RN : Hid (Round w p hb i s [] (fun V => (∀ x, V x ≠ none → x ∈ L) ∧ (i % 3 ≠ 0 → ∀ t, j + 1 ≤ t → t < i → V (L.getD ((t * 3 + r) % i) 0) ≠ none)) (4 + 20000 * r + 300 * i + 300 + 4 * (j + 1)) M5 ui pg5 idi w5) := ⟨H5.out.more (by omega), RJ.out.fits.same (fun y v' hy => by
                    by_cases e : y = x
                    · rw [e, N5.out] at hy; cases hy
                    · rw [RE5.out y e] at hy; exact ⟨v', hy, rfl⟩), fun y hy => by
                    by_cases e : y = x
                    · rw [e, N5.out] at hy; exact absurd rfl hy
                    · rw [RE5.out y e] at hy; exact RJ.out.vers.1 y hy, fun h3 t' ht1 ht2 => by
                    have e : L.getD ((t' * 3 + r) % i) 0 ≠ x := fun e => by
                      rw [← HX.out, ← HT.out] at e
                      have h4 := getD_inj LN.out (by rw [L0.out]; exact Nat.mod_lt _ (by omega)) (by rw [L0.out]; exact Nat.mod_lt _ (by omega)) e
                      have h5 := three_apart h3 ht2 hlj h4
                      omega
                    rw [RE5.out _ e]
                    exact RJ.out.vers.2 h3 t' (by omega) ht2⟩
                have SN := Lib.hid (SJ.out.trans S5.out)
                go_roundg (i - (j + 1))
                case measure => have := HGZ.out; omega
                case rel => exact ⟨j + 1, M5, pg5, rfl, by omega, by go_num, RN.out, SN.out⟩
              | none =>
                have hi3 : i % 3 = 0 := Classical.byContradiction fun h3 => RJ.out.vers.2 h3 j (Nat.le_refl _) hlj (by rw [HT.out, HX.out]; exact hv)
                have hi3I : (i : Int) % 3 = 0 := by omega
                have FR := Lib.hid (RJ.out.heap.freeNo (by omega) (by rw [← HX.out]; exact XW.out) hv)
                have I3 := Lib.hid hi3
                clear hv hi3
                go_wp2_with (go_at_call 9; refine FR.out.mono ?_; rintro e w5 ⟨M5, rfl, hH5, hS5⟩; have H5 := Lib.hid hH5; have S5 := Lib.hid hS5; clear hH5 hS5)
                have RN : Hid (Round w p hb i s [] (fun V => (∀ x, V x ≠ none → x ∈ L) ∧ (i % 3 ≠ 0 → ∀ t, j + 1 ≤ t → t < i → V (L.getD ((t * 3 + r) % i) 0) ≠ none)) (4 + 20000 * r + 300 * i + 300 + 4 * (j + 1)) M5 ui pgj idi w5) := ⟨H5.out.more (by omega), RJ.out.fits, RJ.out.vers.1, fun h3 => absurd I3.out h3⟩
                have SN := Lib.hid (SJ.out.trans S5.out)
                go_roundg (i - (j + 1))
                case measure => have := HGZ.out; omega
                case rel => exact ⟨j + 1, M5, pgj, rfl, by omega, by go_num, RN.out, SN.out⟩
            · obtain rfl : j = i := by omega
              have hnj : ¬ (j : Int) < j := by omega
              have R5 : Hid (Round w p hb j s [] (fun V => ∀ x, V x ≠ none → ∃ t, 0 ≤ t ∧ t < j ∧ x = L.getD t 0) (4 + 20000 * r + 300 * j + 300 + 4 * j) Mj ui pgj idi wy) := ⟨RJ.out.heap, RJ.out.fits, fun x hx => by
                obtain ⟨t, ht, he⟩ := List.getElem_of_mem (RJ.out.vers.1 x hx)
                exact ⟨t, Nat.zero_le _, by rw [← L0.out]; exact ht, by rw [List.getD_eq_getElem?_getD, List.getElem?_eq_getElem ht]; exact he.symm⟩⟩
              clear RJ
              go_wp2_with fail
              go_loopg [17] j (fun gz s17 wz => ∃ (l : Nat) (Ml : List Nat) (pgl : Nat → List UInt8), gz = j - l ∧ l ≤ j ∧ s17 = .int .i64 l ∧ Round w p hb j s [] (fun V => ∀ x, V x ≠ none → ∃ t, l ≤ t ∧ t < j ∧ x = L.getD t 0) (4 + 20000 * r + 300 * j + 300 + 4 * j + 4 * l) Ml ui pgl idi wz ∧ Step M4 Ml w4 wz)
              case atStart => exact ⟨0, Mj, pgj, rfl, Nat.zero_le _, rfl, R5.out, SJ.out⟩
              case round =>
                obtain ⟨l, Ml, pgl, hgz, hl, rfl, hRl, hSl⟩ := hrel
                rename World => wz
                have HGL := Lib.hid hgz
                have RL := Lib.hid hRl
                have SL := Lib.hid hSl
                have ROWL := Lib.hid (RW.out wz Ml hSl)
                clear hgz hRl hSl R5 SJ ROW
                by_cases hll : l < j
                · have hl0 : (0 : Int) ≤ l := by omega
                  have hl1 : (l : Int) < j := by omega
                  obtain ⟨b0, o0, rfl, hcap0, hcell⟩ := ROWL.out.cells L0.out (by omega)
                  have cx := hcell l hll
                  have XW := Lib.hid (LW.out l hll)
                  obtain ⟨x, hx⟩ : ∃ x, L.getD l 0 = x := ⟨_, rfl⟩
                  have HX := Lib.hid hx
                  rw [hx] at cx
                  clear hcell hx
                  cases hv : verR pgl idi x with
                  | some v =>
                    have FR := Lib.hid (RL.out.heap.free (by omega) hv)
                    clear hv
                    go_wp2_with (go_at_call 9; refine FR.out.mono ?_; rintro e w5 ⟨pg5, M5, rfl, hH5, hn5, hr5, hS5, _⟩; have H5 := Lib.hid hH5; have N5 := Lib.hid hn5; have RE5 := Lib.hid hr5; have S5 := Lib.hid hS5; clear hH5 hn5 hr5 hS5)
                    have RN : Hid (Round w p hb j s [] (fun V => ∀ x, V x ≠ none → ∃ t, l + 1 ≤ t ∧ t < j ∧ x = L.getD t 0) (4 + 20000 * r + 300 * j + 300 + 4 * j + 4 * (l + 1)) M5 ui pg5 idi w5) := ⟨H5.out.more (by omega), RL.out.fits.same (fun y v' hy => by
                        by_cases e : y = x
                        · rw [e, N5.out] at hy; cases hy
                        · rw [RE5.out y e] at hy; exact ⟨v', hy, rfl⟩), fun y hy => by
                        by_cases e : y = x
                        · rw [e, N5.out] at hy; exact absurd rfl hy
                        · rw [RE5.out y e] at hy
                          obtain ⟨t, h7, h8, h9⟩ := RL.out.vers y hy
                          have : t ≠ l := fun h => e (by rw [h9, h, HX.out])
                          exact ⟨t, by omega, h8, h9⟩⟩
                    have SN := Lib.hid (SL.out.trans S5.out)
                    go_roundg (j - (l + 1))
                    case measure => have := HGL.out; omega
                    case rel => exact ⟨l + 1, M5, pg5, rfl, by omega, by go_num, RN.out, SN.out⟩
                  | none =>
                    have FR := Lib.hid (RL.out.heap.freeNo (by omega) (by rw [← HX.out]; exact XW.out) hv)
                    have HV := Lib.hid hv
                    clear hv
                    go_wp2_with (go_at_call 9; refine FR.out.mono ?_; rintro e w5 ⟨M5, rfl, hH5, hS5⟩; have H5 := Lib.hid hH5; have S5 := Lib.hid hS5; clear hH5 hS5)
                    have RN : Hid (Round w p hb j s [] (fun V => ∀ x, V x ≠ none → ∃ t, l + 1 ≤ t ∧ t < j ∧ x = L.getD t 0) (4 + 20000 * r + 300 * j + 300 + 4 * j + 4 * (l + 1)) M5 ui pgl idi w5) := ⟨H5.out.more (by omega), RL.out.fits, fun y hy => by
                        obtain ⟨t, h7, h8, h9⟩ := RL.out.vers y hy
                        have : t ≠ l := fun h => hy (by rw [h9, h, HX.out]; exact HV.out)
                        exact ⟨t, by omega, h8, h9⟩⟩
                    have SN := Lib.hid (SL.out.trans S5.out)
                    go_roundg (j - (l + 1))
                    case measure => have := HGL.out; omega
                    case rel => exact ⟨l + 1, M5, pgl, rfl, by omega, by go_num, RN.out, SN.out⟩
                · obtain rfl : l = j := by omega
                  have hnl : ¬ (l : Int) < l := by omega
                  have VN : Hid (∀ x, verR pgl idi x = none) := fun x => Classical.byContradiction fun h => by
                    obtain ⟨t, h7, h8, _⟩ := RL.out.vers x h
                    omega
                  have hpg := RL.out.pages h2 h4
                  have AL := RL.out.heap.all (by omega) (by omega)
                  rw [rids_none RL.out.heap.is_ VN.out] at AL
                  have AL := Lib.hid AL
                  have PGL := Lib.hid hpg
                  clear hpg
                  go_wp2_with (go_at_call 10; refine AL.out.mono ?_; rintro e w5 ⟨ao5, cap5, M5, rfl, _, hH5, hS5⟩; have H5 := Lib.hid hH5; clear hH5 hS5)
                  have RN : Hid (Round w p hb l s [] (fun V => ∀ x, V x = none) (4 + 20000 * (r + 1)) M5 ui pgl idi w5) := ⟨H5.out.more (by have := PGL.out; omega), RL.out.fits, VN.out⟩
                  go_roundg (m - (r + 1))
                  case measure => have := HGK.out; omega
                  case rel => exact ⟨r + 1, M5, ui, pgl, idi, rfl, by omega, by go_num, RN.out⟩
    · obtain rfl : r = m := by omega
      have hnr : ¬ (r : Int) < r := by omega
      go_wp2_with fail
      go_ret
      exact ⟨rfl, R0.out.heap.only.below (Nat.le_refl _) (by simp)⟩
theorem rounds_law (n : Int) (bn : -9223372036854775808 ≤ n ∧ n ≤ 9223372036854775807) (s : Int) (bs : -9223372036854775808 ≤ s ∧ s ≤ 9223372036854775807) (m : Int) (bm : -9223372036854775808 ≤ m ∧ m ≤ 9223372036854775807) (w : World) :
    Calls Tryz.prog 3 #[.int .i64 n, .int .i64 s, .int .i64 m] w fun e w' => e = .returned (.bool true) ∧ Below w.heap.size w w' := by
  by_cases h : 1 ≤ n ∧ n ≤ 30 ∧ 1 ≤ s ∧ s ≤ 370 ∧ 1 ≤ m ∧ m ≤ 8
  · obtain ⟨a, rfl⟩ := Int.eq_ofNat_of_zero_le (show 0 ≤ n by omega)
    obtain ⟨b, rfl⟩ := Int.eq_ofNat_of_zero_le (show 0 ≤ s by omega)
    obtain ⟨c, rfl⟩ := Int.eq_ofNat_of_zero_le (show 0 ≤ m by omega)
    exact rounds_main a b c (by omega) (by omega) (by omega) (by omega) (by omega) (by omega)
  · exact rounds_out n bn s bs m bm h
end Go.Proofs.YtfkmjbpnjgnkbaaGreat.H
