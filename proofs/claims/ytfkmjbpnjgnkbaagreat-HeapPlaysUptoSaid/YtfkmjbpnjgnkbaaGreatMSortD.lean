import Derived.Test.YtfkmjbpnjgnkbaaGreatMSortC
import Derived.Deep.CutRange
/-
  slices.Sort's family at ints of one kind: the partial insertion sort, by its contract.
-/
namespace Go.Proofs.YtfkmjbpnjgnkbaaGreat.I
set_option linter.unusedSimpArgs false
open Go Go.RowKit Go.Sort
set_option linter.unusedVariables false

theorem scan_go (b i : Nat) (d : Array Int) (h : i < b) (hl : lt d[i]! d[i - 1]! = false) : scanSorted lt d b i = scanSorted lt d b (i + 1) := by
  rw [scanSorted, if_pos (by simp [h, hl])]
theorem scan_stop (b i : Nat) (d : Array Int) (h : ¬ i < b ∨ lt d[i]! d[i - 1]! = true) : scanSorted lt d b i = i := by
  rw [scanSorted, if_neg]
  rcases h with h | h
  · simp [h]
  · simp [h]
theorem down_go (j : Nat) (d : Array Int) (hj : 1 ≤ j) (hl : lt d[j]! d[j - 1]! = true) : shiftDown lt j d = shiftDown lt (j - 1) (swp d j (j - 1)) := by
  obtain ⟨k, rfl⟩ : ∃ k, j = k + 1 := ⟨j - 1, by omega⟩
  simp only [Nat.add_sub_cancel] at hl ⊢
  rw [shiftDown, hl]; simp
theorem down_stop (j : Nat) (d : Array Int) (h : j = 0 ∨ lt d[j]! d[j - 1]! = false) : shiftDown lt j d = d := by
  cases j with
  | zero => rw [shiftDown]
  | succ k =>
    rcases h with h | h
    · omega
    · simp only [Nat.add_sub_cancel] at h
      rw [shiftDown, h]; simp
theorem up_go (b j : Nat) (d : Array Int) (hj : j < b) (hl : lt d[j]! d[j - 1]! = true) : shiftUp lt b j d = shiftUp lt b (j + 1) (swp d j (j - 1)) := by
  rw [shiftUp, if_pos hj, hl]; simp
theorem up_stop (b j : Nat) (d : Array Int) (h : ¬ j < b ∨ lt d[j]! d[j - 1]! = false) : shiftUp lt b j d = d := by
  rw [shiftUp]
  rcases h with h | h
  · rw [if_neg h]
  · rw [h]; simp
set_option maxHeartbeats 4000000 in
set_option maxRecDepth 1000000 in
theorem pins_any (g cap a b : Nat) (d : Array Int) (rest : List Value) (w : World) (h : SR w g d rest) (hab : a < b) (hb : b ≤ d.size) (hsz : d.size ≤ 1000000) :
    Calls Tryz.prog 86 #[.slice (some ⟨g, 0, none⟩) d.size cap, .int .i64 a, .int .i64 b] w fun e w' => e = .returned (.bool (Sort.partialInsertionSort lt d a b).2) ∧ SR w' g (Sort.partialInsertionSort lt d a b).1 rest ∧ Only [g] w w' := by
  have H0 := Lib.hid h
  obtain ⟨n, hn⟩ : ∃ n, d.size = n := ⟨_, rfl⟩
  have HN := Lib.hid hn
  rw [hn] at hb hsz ⊢
  clear h hn
  go_enter Tryz.func86, Tryz.ntmps86
  go_wp2_with fail
  go_loopg [7, 8, 9, 10] 5 (fun gk v7 v8 v9 v10 wr => ∃ (s i : Nat) (dk : Array Int), gk = s ∧ v7 = .int .i64 i ∧ v8 = .int .i64 ((5 : Int) - s) ∧ s ≤ 5 ∧ a < i ∧ i ≤ b ∧ dk.size = n ∧ SR wr g dk rest ∧ Only [g] w wr ∧ partialIns lt a b s i dk = Sort.partialInsertionSort lt d a b)
  case atStart => exact ⟨5, a + 1, d, rfl, by go_num, rfl, by omega, by omega, by omega, HN.out, H0.out, Only.refl _ _, rfl⟩
  case round =>
    obtain ⟨s, i0, dk, hgk, rfl, rfl, hs5, hai0, hib0, hsk, hr, hO, hI⟩ := hrel
    rename World => w1
    have HGK := Lib.hid hgk
    have HR := Lib.hid hr
    have HO := Lib.hid hO
    have HI := Lib.hid hI
    have HS := Lib.hid hsk
    clear hgk hr hO hI hsk
    cases s with
    | zero =>
      go_wp2_with fail
      go_ret
      rw [← HI.out]
      exact ⟨rfl, HR.out, HO.out⟩
    | succ s =>
      have hs1 : (5 : Int) - ((s + 1 : Nat) : Int) < 5 := by omega
      go_wp2_with fail
      go_loopg [7] (b - i0) (fun gj v7 wr => ∃ (i : Nat), gj = b - i ∧ v7 = .int .i64 i ∧ i0 ≤ i ∧ i ≤ b ∧ SR wr g dk rest ∧ Only [g] w wr ∧ scanSorted lt dk b i = scanSorted lt dk b i0)
      case atStart => exact ⟨i0, rfl, rfl, Nat.le_refl _, hib0, HR.out, HO.out, rfl⟩
      case round =>
        clear HR HO
        obtain ⟨i, hgj, rfl, hi0, hib, hrj, hOj, hJ⟩ := hrel
        rename World => w2
        have HGJ := Lib.hid hgj
        have HR := Lib.hid hrj
        have HO := Lib.hid hOj
        have HJ := Lib.hid hJ
        clear hgj hrj hOj hJ
        obtain ⟨G, hG⟩ : ∃ G : Nat → Int, ∀ t, G t = dk[t]! := ⟨fun t => dk[t]!, fun _ => rfl⟩
        have hcw : ∀ t, t < n → w2.cell? ⟨g, t, none⟩ = some (.int kq (G t)) := fun t ht => by rw [hG]; exact HR.out.cell t (by rw [HS.out]; exact ht)
        have hfw : ∀ t, t < n → w2.frozen? ⟨g, t, none⟩ = false := fun t ht => HR.out.frozen t
        have HG := Lib.hid hG
        clear hG
        by_cases hlt : i < b
        · have hlti : (i : Int) < b := by omega
          have hin : i < n := by omega
          have hini : (i : Int) < n := by omega
          obtain ⟨k, hk0⟩ : ∃ k, i - 1 = k := ⟨_, rfl⟩
          have HK := Lib.hid hk0
          have ew : IntKind.i64.wrap ((i : Int) - 1) = (k : Int) := by rw [IntKind.wrap_i64]; omega
          have hkn : (k : Int) < n := by omega
          have hkn1 : k < n := by omega
          have hkj : k < i := by omega
          clear hk0
          obtain ⟨q, hq⟩ : ∃ q, lt (G i) (G k) = q := ⟨_, rfl⟩
          have HQ : Hid (lt dk[i]! dk[i - 1]! = q) := by show _ = _; rw [HK.out, ← HG.out, ← HG.out]; exact hq
          go_wp2_with fail
          go_quiet (first | (go_at_call 87; refine Calls.quiet_of_same (less_any _ _ _)))
          rw [hq]
          clear hq
          have R2 : Hid (SR (w2.drewN nq) g dk rest) := HR.out.past ((Only.refl _ _).drewN _)
          have O2 : Hid (Only [g] w (w2.drewN nq)) := HO.out.drewN _
          clear hcw hfw
          generalize w2.drewN nq = w3 at *
          cases q
          · go_wp2_with fail
            go_roundg (b - (i + 1))
            case measure => have := HGJ.out; omega
            case rel => exact ⟨i + 1, rfl, by go_num, by omega, by omega, R2.out, O2.out, by rw [← HJ.out, scan_go _ _ _ hlt HQ.out]⟩
          · have SC : Hid (scanSorted lt dk b i0 = i) := by show _ = _; rw [← HJ.out, scan_stop _ _ _ (.inr HQ.out)]
            have hib1 : ((i : Int) == b) = false := by simp; omega
            by_cases h50 : b - a < 50
            · have h50i : (b : Int) - a < 50 := by omega
              go_wp2_with fail
              go_ret
              have e : Sort.partialInsertionSort lt d a b = (dk, false) := by rw [← HI.out, partialIns_succ, SC.out, if_neg (by omega), if_pos h50]
              rw [e]
              exact ⟨rfl, R2.out, O2.out⟩
            · have h50i : ¬ (b : Int) - a < 50 := by omega
              have hcw : ∀ t, t < n → w3.cell? ⟨g, t, none⟩ = some (.int kq (G t)) := fun t ht => by rw [HG.out]; exact R2.out.cell t (by rw [HS.out]; exact ht)
              have hfw : ∀ t, t < n → w3.frozen? ⟨g, t, none⟩ = false := fun t ht => R2.out.frozen t
              have R4 : Hid (∀ N, SR (((w3.drewN N).setCell ⟨g, i, none⟩ (.int kq (G k))).setCell ⟨g, k, none⟩ (.int kq (G i))) g (swp dk i k) rest) := fun N => by
                rw [HG.out, HG.out]
                exact (R2.out.past ((Only.refl _ _).drewN _)).swap i k (by rw [HS.out]; omega) (by rw [HS.out]; omega)
              have O4 : Hid (∀ N, Only [g] w (((w3.drewN N).setCell ⟨g, i, none⟩ (.int kq (G k))).setCell ⟨g, k, none⟩ (.int kq (G i)))) := fun N => only_swap (O2.out.drewN _) _ _ _ _
              go_wp2_with fail
              go_region
              have R5 : Hid (SR (((w3.setCell ⟨g, i, none⟩ (.int kq (G k))).setCell ⟨g, k, none⟩ (.int kq (G i))).drew) g (swp dk i k) rest) := R4.out 1
              have O5 : Hid (Only [g] w (((w3.setCell ⟨g, i, none⟩ (.int kq (G k))).setCell ⟨g, k, none⟩ (.int kq (G i))).drew)) := O4.out 1
              clear R4 O4 hcw hfw
              generalize ((w3.setCell ⟨g, i, none⟩ (.int kq (G k))).setCell ⟨g, k, none⟩ (.int kq (G i))).drew = w4 at *
              obtain ⟨ds, hds⟩ : ∃ ds, swp dk i k = ds := ⟨_, rfl⟩
              rw [hds] at R5
              have S5 : Hid (ds.size = n) := by show _ = _; rw [← hds, size_swp]; exact HS.out
              have STEP : Hid (Sort.partialInsertionSort lt d a b = partialIns lt a b s i (fixUp lt b i (fixDown lt a i ds))) := by
                show _ = _
                rw [← HI.out, partialIns_succ, SC.out, if_neg (by omega), if_neg h50, HK.out, hds]
              have HK0 := HK
              clear hds HI HG HQ R2 O2 HJ SC HK
              obtain ⟨ia, hia⟩ : ∃ ia, i - a = ia := ⟨_, rfl⟩
              have eia : (i : Int) - a = (ia : Int) := by omega
              obtain ⟨bi, hbi⟩ : ∃ bi, b - i = bi := ⟨_, rfl⟩
              have ebi : (b : Int) - i = (bi : Int) := by omega
              have HIA := Lib.hid (And.intro hia hbi)
              clear hia hbi
              go_upto_if 61 with fail
              go_cut [9] from 13 to 132 (fun s9 wx => ∃ d1 : Array Int, d1.size = n ∧ SR wx g d1 rest ∧ Only [g] w wx ∧ fixDown lt a i ds = d1)
              case first =>
                by_cases h2 : 2 ≤ ia
                · have h2i : (2 : Int) ≤ ia := by omega
                  have FD : Hid (fixDown lt a i ds = shiftDown lt k ds) := by show _ = _; unfold fixDown; rw [if_pos (by have := HIA.out; omega), HK0.out]
                  go_wp2_with fail
                  go_loopg [9] k (fun gl v9 wr => ∃ (j : Nat) (dj : Array Int), gl = j ∧ v9 = .int .i64 j ∧ j ≤ k ∧ dj.size = n ∧ SR wr g dj rest ∧ Only [g] w wr ∧ shiftDown lt j dj = shiftDown lt k ds)
                  case atStart => exact ⟨k, ds, rfl, rfl, Nat.le_refl _, S5.out, R5.out, O5.out, rfl⟩
                  case round =>
                    clear S5 R5 O5
                    obtain ⟨j, dj, hgl, rfl, hjk, hsj, hrj, hoj, hJ⟩ := hrel
                    rename World => w7
                    have HGL := Lib.hid hgl
                    have RJ := Lib.hid hrj
                    have OJ := Lib.hid hoj
                    have JJ := Lib.hid hJ
                    have SJ := Lib.hid hsj
                    clear hgl hrj hoj hJ hsj
                    by_cases hjlt : 1 ≤ j
                    · have hjlti : (1 : Int) ≤ j := by omega
                      have hjn : j < n := by omega
                      have hjni : (j : Int) < n := by omega
                      clear ew
                      obtain ⟨G2, hG⟩ : ∃ G2 : Nat → Int, ∀ t, G2 t = dj[t]! := ⟨fun t => dj[t]!, fun _ => rfl⟩
                      have hcw : ∀ t, t < n → w7.cell? ⟨g, t, none⟩ = some (.int kq (G2 t)) := fun t ht => by rw [hG]; exact RJ.out.cell t (by rw [SJ.out]; exact ht)
                      have hfw : ∀ t, t < n → w7.frozen? ⟨g, t, none⟩ = false := fun t ht => RJ.out.frozen t
                      have HG := Lib.hid hG
                      clear hG
                      obtain ⟨m, hk0⟩ : ∃ m, j - 1 = m := ⟨_, rfl⟩
                      have HK := Lib.hid hk0
                      have ew : IntKind.i64.wrap ((j : Int) - 1) = (m : Int) := by rw [IntKind.wrap_i64]; omega
                      have hkn : (m : Int) < n := by omega
                      have hkn1 : m < n := by omega
                      have hkj : m < j := by omega
                      clear hk0
                      obtain ⟨q, hq⟩ : ∃ q, lt (G2 j) (G2 m) = q := ⟨_, rfl⟩
                      have HQ : Hid (lt dj[j]! dj[j - 1]! = q) := by show _ = _; rw [HK.out, ← HG.out, ← HG.out]; exact hq
                      go_wp2_with fail
                      go_quiet (first | (go_at_call 87; refine Calls.quiet_of_same (less_any _ _ _)))
                      rw [hq]
                      clear hq
                      have R8 : Hid (SR (w7.drewN nq) g dj rest) := RJ.out.past ((Only.refl _ _).drewN _)
                      have O8 : Hid (Only [g] w (w7.drewN nq)) := OJ.out.drewN _
                      clear hcw hfw
                      generalize w7.drewN nq = w8 at *
                      cases q
                      · go_wp2_with fail
                        go_meet
                        case rel => exact ⟨dj, SJ.out, R8.out, O8.out, by rw [FD.out, ← JJ.out, down_stop _ _ (.inr HQ.out)]⟩
                      · have hcw : ∀ t, t < n → w8.cell? ⟨g, t, none⟩ = some (.int kq (G2 t)) := fun t ht => by rw [HG.out]; exact R8.out.cell t (by rw [SJ.out]; exact ht)
                        have hfw : ∀ t, t < n → w8.frozen? ⟨g, t, none⟩ = false := fun t ht => R8.out.frozen t
                        go_wp2_with fail
                        go_region
                        all_goals go_wp2_with fail
                        go_roundg m
                        case measure => have := HGL.out; omega
                        case rel =>
                          refine ⟨m, swp dj j m, rfl, by go_num, by omega, by rw [size_swp]; exact SJ.out, ?_, only_swap (O8.out.drewN 1) _ _ _ _, by rw [← JJ.out, down_go _ _ hjlt HQ.out, HK.out]⟩
                          rw [HG.out, HG.out]
                          exact (R8.out.past ((Only.refl _ _).drewN 1)).swap j m (by rw [SJ.out]; omega) (by rw [SJ.out]; omega)
                    · have hjlti : ¬ (1 : Int) ≤ j := by omega
                      go_wp2_with fail
                      go_meet
                      case rel => exact ⟨dj, SJ.out, RJ.out, OJ.out, by rw [FD.out, ← JJ.out, down_stop _ _ (.inl (by omega))]⟩
                · have h2i : ¬ (2 : Int) ≤ ia := by omega
                  go_wp2_with fail
                  go_meet
                  case rel => exact ⟨ds, S5.out, R5.out, O5.out, by have := HIA.out; unfold fixDown; rw [if_neg (by omega)]⟩
              case rest =>
                obtain ⟨d1, hs1', hr1, ho1, hf1⟩ := hcut
                have S6 := Lib.hid hs1'
                have R6 := Lib.hid hr1
                have O6 := Lib.hid ho1
                have F6 := Lib.hid hf1
                clear hs1' hr1 ho1 hf1
                have RND : Hid (∀ d2 : Array Int, fixUp lt b i d1 = d2 → Sort.partialInsertionSort lt d a b = partialIns lt a b s i d2) := fun d2 h2 => by rw [STEP.out, F6.out, h2]
                by_cases h2 : 2 ≤ bi
                · have h2i : (2 : Int) ≤ bi := by omega
                  have FU : Hid (fixUp lt b i d1 = shiftUp lt b (i + 1) d1) := by show _ = _; unfold fixUp; rw [if_pos (by have := HIA.out; omega)]
                  go_wp2_with fail
                  go_loopg [10] (b - (i + 1)) (fun gl v10 wr => ∃ (j : Nat) (dj : Array Int), gl = b - j ∧ v10 = .int .i64 j ∧ i + 1 ≤ j ∧ j ≤ b ∧ dj.size = n ∧ SR wr g dj rest ∧ Only [g] w wr ∧ shiftUp lt b j dj = shiftUp lt b (i + 1) d1)
                  case atStart => exact ⟨i + 1, d1, rfl, by go_num, Nat.le_refl _, by omega, S6.out, R6.out, O6.out, rfl⟩
                  case round =>
                    clear S6 R6 O6
                    obtain ⟨j, dj, hgl, rfl, hij, hjb, hsj, hrj, hoj, hJ⟩ := hrel
                    rename World => w7
                    have HGL := Lib.hid hgl
                    have RJ := Lib.hid hrj
                    have OJ := Lib.hid hoj
                    have JJ := Lib.hid hJ
                    have SJ := Lib.hid hsj
                    clear hgl hrj hoj hJ hsj
                    by_cases hjlt : j < b
                    · have hjlti : (j : Int) < b := by omega
                      have hjn : j < n := by omega
                      have hjni : (j : Int) < n := by omega
                      obtain ⟨G2, hG⟩ : ∃ G2 : Nat → Int, ∀ t, G2 t = dj[t]! := ⟨fun t => dj[t]!, fun _ => rfl⟩
                      have hcw : ∀ t, t < n → w7.cell? ⟨g, t, none⟩ = some (.int kq (G2 t)) := fun t ht => by rw [hG]; exact RJ.out.cell t (by rw [SJ.out]; exact ht)
                      have hfw : ∀ t, t < n → w7.frozen? ⟨g, t, none⟩ = false := fun t ht => RJ.out.frozen t
                      have HG := Lib.hid hG
                      clear hG
                      obtain ⟨m, hk0⟩ : ∃ m, j - 1 = m := ⟨_, rfl⟩
                      have HK := Lib.hid hk0
                      have ew : IntKind.i64.wrap ((j : Int) - 1) = (m : Int) := by rw [IntKind.wrap_i64]; omega
                      have hkn : (m : Int) < n := by omega
                      have hkn1 : m < n := by omega
                      have hkj : m < j := by omega
                      clear hk0
                      obtain ⟨q, hq⟩ : ∃ q, lt (G2 j) (G2 m) = q := ⟨_, rfl⟩
                      have HQ : Hid (lt dj[j]! dj[j - 1]! = q) := by show _ = _; rw [HK.out, ← HG.out, ← HG.out]; exact hq
                      go_wp2_with fail
                      go_quiet (first | (go_at_call 87; refine Calls.quiet_of_same (less_any _ _ _)))
                      rw [hq]
                      clear hq
                      have R8 : Hid (SR (w7.drewN nq) g dj rest) := RJ.out.past ((Only.refl _ _).drewN _)
                      have O8 : Hid (Only [g] w (w7.drewN nq)) := OJ.out.drewN _
                      clear hcw hfw
                      generalize w7.drewN nq = w8 at *
                      cases q
                      · go_wp2_with fail
                        go_roundg s
                        case measure => have := HGK.out; omega
                        case rel => exact ⟨s, i, dj, rfl, rfl, by congr 1; omega, by omega, by omega, by omega, SJ.out, R8.out, O8.out, (RND.out dj (by rw [FU.out, ← JJ.out, up_stop _ _ _ (.inr HQ.out)])).symm⟩
                      · have hcw : ∀ t, t < n → w8.cell? ⟨g, t, none⟩ = some (.int kq (G2 t)) := fun t ht => by rw [HG.out]; exact R8.out.cell t (by rw [SJ.out]; exact ht)
                        have hfw : ∀ t, t < n → w8.frozen? ⟨g, t, none⟩ = false := fun t ht => R8.out.frozen t
                        go_wp2_with fail
                        go_region
                        all_goals go_wp2_with fail
                        go_roundg (b - (j + 1))
                        case measure => have := HGL.out; omega
                        case rel =>
                          refine ⟨j + 1, swp dj j m, rfl, by go_num, by omega, by omega, by rw [size_swp]; exact SJ.out, ?_, only_swap (O8.out.drewN 1) _ _ _ _, by rw [← JJ.out, up_go _ _ _ hjlt HQ.out, HK.out]⟩
                          rw [HG.out, HG.out]
                          exact (R8.out.past ((Only.refl _ _).drewN 1)).swap j m (by rw [SJ.out]; omega) (by rw [SJ.out]; omega)
                    · have hjlti : ¬ (j : Int) < b := by omega
                      go_wp2_with fail
                      go_roundg s
                      case measure => have := HGK.out; omega
                      case rel => exact ⟨s, i, dj, rfl, rfl, by congr 1; omega, by omega, by omega, by omega, SJ.out, RJ.out, OJ.out, (RND.out dj (by rw [FU.out, ← JJ.out, up_stop _ _ _ (.inl hjlt)])).symm⟩
                · have h2i : ¬ (2 : Int) ≤ bi := by omega
                  go_wp2_with fail
                  go_roundg s
                  case measure => have := HGK.out; omega
                  case rel => exact ⟨s, i, d1, rfl, rfl, by congr 1; omega, by omega, by omega, by omega, S6.out, R6.out, O6.out, (RND.out d1 (by unfold fixUp; rw [if_neg (by have := HIA.out; omega)])).symm⟩
        · obtain rfl : b = i := by omega
          have SC : Hid (scanSorted lt dk b i0 = b) := by show _ = _; rw [← HJ.out, scan_stop _ _ _ (.inl hlt)]
          have hbb : ¬ (b : Int) < b := by omega
          go_wp2_with fail
          go_quiet (first | (go_at_call 87; refine Calls.quiet_of_same (less_any _ _ _)))
          go_wp2_with fail
          go_ret
          have e : Sort.partialInsertionSort lt d a b = (dk, true) := by rw [← HI.out, partialIns_succ, SC.out]; simp
          rw [e]
          exact ⟨rfl, HR.out.past ((Only.refl _ _).drewN _), HO.out.drewN _⟩
end Go.Proofs.YtfkmjbpnjgnkbaaGreat.I
