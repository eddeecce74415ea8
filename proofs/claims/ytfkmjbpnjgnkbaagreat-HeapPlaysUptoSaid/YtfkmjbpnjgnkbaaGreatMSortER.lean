import Derived.Test.YtfkmjbpnjgnkbaaGreatMSortDR
import Derived.Sort.LotC
/-
  slices.Sort's family at ints of one kind: the two partitions, by contracts.
-/
namespace Go.Proofs.YtfkmjbpnjgnkbaaGreat.IR
set_option linter.unusedSimpArgs false
open Go Go.RowKit Go.Sort
set_option linter.unusedVariables false

theorem scanUp_go (p : Int → Bool) (d : Array Int) (j i : Nat) (h : i ≤ j) (hp : p d[i]! = true) : scanUp p d j i = scanUp p d j (i + 1) := by
  rw [scanUp, if_pos (by simp [h, hp])]
theorem scanUp_stop (p : Int → Bool) (d : Array Int) (j i : Nat) (h : ¬ i ≤ j ∨ p d[i]! = false) : scanUp p d j i = i := by
  rw [scanUp, if_neg]
  rcases h with h | h
  · simp [h]
  · simp [h]
theorem scanDown_go (p : Int → Bool) (d : Array Int) (i j : Nat) (hj : 1 ≤ j) (h : i ≤ j) (hp : p d[j]! = true) : scanDown p d i j = scanDown p d i (j - 1) := by
  obtain ⟨k, rfl⟩ : ∃ k, j = k + 1 := ⟨j - 1, by omega⟩
  rw [scanDown, if_pos (by simp [h, hp])]
  rfl
theorem scanDown_stop (p : Int → Bool) (d : Array Int) (i j : Nat) (h : ¬ i ≤ j ∨ p d[j]! = false) : scanDown p d i j = j := by
  cases j with
  | zero => rw [scanDown]
  | succ k =>
    rw [scanDown, if_neg]
    rcases h with h | h
    · simp [h]
    · simp [h]
theorem SR.after {w : World} {g : Nat} {d : Array Int} {rest : List Value} (h : SR w g d rest) (x y : Nat) (hx : x < d.size) (hy : y < d.size) :
    (w.setCell ⟨g, x, none⟩ (.int kq d[y]!)).cell? ⟨g, y, none⟩ = some (.int kq d[y]!) := by
  rw [(h.set x hx d[y]!).cell y (by simpa using hy)]
  by_cases e : x = y
  · subst e; simp [hx]
  · simp [hy, e]
set_option maxHeartbeats 8000000 in
set_option maxRecDepth 1000000 in
theorem peq_any (g cap a b pv : Nat) (d : Array Int) (rest : List Value) (w : World) (h : SR w g d rest) (hab : a ≤ pv) (hpb : pv < b) (hb : b ≤ d.size) (hsz : d.size ≤ 1000000) :
    Calls Tryz.prog 101 #[.slice (some ⟨g, 0, none⟩) d.size cap, .int .i64 a, .int .i64 b, .int .i64 pv] w fun e w' => ∃ mid : Nat, e = .returned (.int .i64 mid) ∧ mid = (Sort.partitionEqual lt d a b pv).1 ∧ SR w' g (Sort.partitionEqual lt d a b pv).2 rest ∧ Only [g] w w' := by
  have H0 := Lib.hid h
  obtain ⟨n, hn⟩ : ∃ n, d.size = n := ⟨_, rfl⟩
  have HN := Lib.hid hn
  rw [hn] at hb hsz ⊢
  clear h hn
  have han : a < n := by omega
  have hpn : pv < n := by omega
  have hani : (a : Int) < n := by omega
  have hpni : (pv : Int) < n := by omega
  obtain ⟨i0, hi0⟩ : ∃ i0, a + 1 = i0 := ⟨_, rfl⟩
  obtain ⟨j0, hj0⟩ : ∃ j0, b - 1 = j0 := ⟨_, rfl⟩
  have ei0 : (a : Int) + 1 = (i0 : Int) := by omega
  have ej0 : (b : Int) - 1 = (j0 : Int) := by omega
  have hij0 : i0 ≤ j0 + 1 := by omega
  have hj0n : j0 < n := by omega
  have hai0 : a < i0 := by omega
  have hj0b : j0 < b := by omega
  have HIJ := Lib.hid (And.intro hi0 hj0)
  clear hi0 hj0
  have HW : Hid (Only [g] w w) := Only.refl _ _
  go_enter Tryz.func101, Tryz.ntmps101
  obtain ⟨G, hG⟩ : ∃ G : Nat → Int, ∀ t, G t = d[t]! := ⟨fun t => d[t]!, fun _ => rfl⟩
  have hcw : ∀ t, t < n → w.cell? ⟨g, t, none⟩ = some (.int kq (G t)) := fun t ht => by rw [hG]; exact H0.out.cell t (by rw [HN.out]; exact ht)
  have hfw : ∀ t, t < n → w.frozen? ⟨g, t, none⟩ = false := fun t ht => H0.out.frozen t
  have HG := Lib.hid hG
  clear hG
  have hs1 : (w.setCell ⟨g, a, none⟩ (.int kq (G pv))).cell? ⟨g, pv, none⟩ = some (.int kq (G pv)) := by rw [HG.out]; exact H0.out.after a pv (by rw [HN.out]; omega) (by rw [HN.out]; omega)
  have hs2 : (w.drew.setCell ⟨g, a, none⟩ (.int kq (G pv))).cell? ⟨g, pv, none⟩ = some (.int kq (G pv)) := hs1
  have R9 : Hid (SR (((w.setCell ⟨g, a, none⟩ (.int kq (G pv))).setCell ⟨g, pv, none⟩ (.int kq (G a))).drew) g (swp d a pv) rest) := by
    show SR _ _ _ _
    rw [HG.out, HG.out]
    exact (H0.out.past ((Only.refl _ _).drewN 1)).swap a pv (by rw [HN.out]; omega) (by rw [HN.out]; omega)
  have O9 : Hid (Only [g] w (((w.setCell ⟨g, a, none⟩ (.int kq (G pv))).setCell ⟨g, pv, none⟩ (.int kq (G a))).drew)) := only_swap (HW.out.drewN 1) _ _ _ _
  go_wp2_with fail
  go_region
  generalize ((w.setCell ⟨g, a, none⟩ (.int kq (G pv))).setCell ⟨g, pv, none⟩ (.int kq (G a))).drew = w1 at *
  obtain ⟨ds, hds⟩ : ∃ ds, swp d a pv = ds := ⟨_, rfl⟩
  rw [hds] at R9
  have HS : Hid (ds.size = n) := by show _ = _; rw [← hds, size_swp]; exact HN.out
  have HDS := Lib.hid hds
  have R1 := R9
  have O1 := O9
  clear hds hcw hfw hs1 hs2 R9 O9 HG
  have PE : Hid (Sort.partitionEqual lt d a b pv = partEqLoop lt a i0 j0 ds) := by show _ = _; unfold Sort.partitionEqual; rw [HIJ.out.1, HIJ.out.2, HDS.out]
  go_wp2_with fail
  go_loopg [9, 10] (j0 + 1 - i0) (fun gk v9 v10 wr => ∃ (i1 j1 : Nat) (dk : Array Int), gk = j1 + 1 - i1 ∧ v9 = .int .i64 i1 ∧ v10 = .int .i64 j1 ∧ i1 ≤ j1 + 1 ∧ a < i1 ∧ j1 < n ∧ dk.size = n ∧ SR wr g dk rest ∧ Only [g] w wr ∧ partEqLoop lt a i1 j1 dk = partEqLoop lt a i0 j0 ds)
  case atStart => exact ⟨i0, j0, ds, rfl, rfl, by go_num, hij0, hai0, hj0n, HS.out, R1.out, O1.out, rfl⟩
  case round =>
    clear R1 O1 HS
    obtain ⟨i1, j1, dk, hgk, rfl, rfl, hij, hai, hjn1, hsk, hr, ho, hI⟩ := hrel
    rename World => w2
    have HGK := Lib.hid hgk
    have R1 := Lib.hid hr
    have O1 := Lib.hid ho
    have HI := Lib.hid hI
    have HS := Lib.hid hsk
    clear hgk hr ho hI hsk
    go_wp2_with fail
    go_loopg [9] (j1 + 1 - i1) (fun gl v9 wr => ∃ i : Nat, gl = j1 + 1 - i ∧ v9 = .int .i64 i ∧ i1 ≤ i ∧ i ≤ j1 + 1 ∧ SR wr g dk rest ∧ Only [g] w wr ∧ scanUp (fun x => !lt dk[a]! x) dk j1 i = scanUp (fun x => !lt dk[a]! x) dk j1 i1)
    case atStart => exact ⟨i1, rfl, by go_num, Nat.le_refl _, by omega, R1.out, O1.out, rfl⟩
    case round =>
      obtain ⟨i, hgl, rfl, hii, hij1, hrj, hoj, hJ⟩ := hrel
      rename World => w4
      have HGL := Lib.hid hgl
      have RJ := Lib.hid hrj
      have OJ := Lib.hid hoj
      have JJ := Lib.hid hJ
      clear hgl hrj hoj hJ
      by_cases hle : i ≤ j1
      · have hlei : (i : Int) ≤ j1 := by omega
        have hin : i < n := by omega
        have hini : (i : Int) < n := by omega
        obtain ⟨G, hG⟩ : ∃ G : Nat → Int, ∀ t, G t = dk[t]! := ⟨fun t => dk[t]!, fun _ => rfl⟩
        have hcw : ∀ t, t < n → w4.cell? ⟨g, t, none⟩ = some (.int kq (G t)) := fun t ht => by rw [hG]; exact RJ.out.cell t (by rw [HS.out]; exact ht)
        have hfw : ∀ t, t < n → w4.frozen? ⟨g, t, none⟩ = false := fun t ht => RJ.out.frozen t
        have HG := Lib.hid hG
        clear hG
        obtain ⟨q, hq⟩ : ∃ q, lt (G a) (G i) = q := ⟨_, rfl⟩
        have HQ : Hid (lt dk[a]! dk[i]! = q) := by show _ = _; rw [← HG.out, ← HG.out]; exact hq
        go_wp2_with fail
        go_quiet (first | (go_at_call 100; refine Calls.quiet_of_same (less_any _ _ _)))
        rw [hq]
        clear hq
        have R8 : Hid (SR (w4.drewN nq) g dk rest) := RJ.out.past ((Only.refl _ _).drewN _)
        have O8 : Hid (Only [g] w (w4.drewN nq)) := OJ.out.drewN _
        clear hcw hfw
        generalize w4.drewN nq = w8 at *
        cases q
        · go_wp2_with fail
          go_roundg (j1 + 1 - (i + 1))
          case measure => have := HGL.out; omega
          case rel => exact ⟨i + 1, rfl, by go_num, by omega, by omega, R8.out, O8.out, by rw [← JJ.out, scanUp_go _ _ _ _ hle (by simp [HQ.out])]⟩
        · have UP : Hid (scanUp (fun x => !lt dk[a]! x) dk j1 i1 = i) := by show _ = _; rw [← JJ.out]; exact scanUp_stop _ _ _ _ (.inr (by simp [HQ.out]))
          have UF : Hid (i ≤ j1 → lt dk[a]! dk[i]! = true) := fun _ => HQ.out
          have RU := R8
          have OU := O8
          clear HQ JJ HGL RJ OJ HG
          go_wp2_with fail
          go_loopg [10] (j1 + 1) (fun gl v10 wr => ∃ j : Nat, gl = j + 1 ∧ v10 = .int .i64 j ∧ i ≤ j + 1 ∧ j ≤ j1 ∧ SR wr g dk rest ∧ Only [g] w wr ∧ scanDown (fun x => lt dk[a]! x) dk i j = scanDown (fun x => lt dk[a]! x) dk i j1)
          case atStart => exact ⟨j1, rfl, rfl, by omega, Nat.le_refl _, RU.out, OU.out, rfl⟩
          case round =>
            obtain ⟨j, hgl, rfl, hij, hjj, hrj, hoj, hJ⟩ := hrel
            rename World => w5
            have HGL := Lib.hid hgl
            have RJ := Lib.hid hrj
            have OJ := Lib.hid hoj
            have JJ := Lib.hid hJ
            clear hgl hrj hoj hJ
            by_cases hle : i ≤ j
            · have hlei : (i : Int) ≤ j := by omega
              have hjn : j < n := by omega
              have hjni : (j : Int) < n := by omega
              obtain ⟨G, hG⟩ : ∃ G : Nat → Int, ∀ t, G t = dk[t]! := ⟨fun t => dk[t]!, fun _ => rfl⟩
              have hcw : ∀ t, t < n → w5.cell? ⟨g, t, none⟩ = some (.int kq (G t)) := fun t ht => by rw [hG]; exact RJ.out.cell t (by rw [HS.out]; exact ht)
              have hfw : ∀ t, t < n → w5.frozen? ⟨g, t, none⟩ = false := fun t ht => RJ.out.frozen t
              have HG := Lib.hid hG
              clear hG
              obtain ⟨q, hq⟩ : ∃ q, lt (G a) (G j) = q := ⟨_, rfl⟩
              have HQ : Hid (lt dk[a]! dk[j]! = q) := by show _ = _; rw [← HG.out, ← HG.out]; exact hq
              go_wp2_with fail
              go_quiet (first | (go_at_call 100; refine Calls.quiet_of_same (less_any _ _ _)))
              rw [hq]
              clear hq
              have R8 : Hid (SR (w5.drewN nq) g dk rest) := RJ.out.past ((Only.refl _ _).drewN _)
              have O8 : Hid (Only [g] w (w5.drewN nq)) := OJ.out.drewN _
              clear hcw hfw
              generalize w5.drewN nq = w8 at *
              cases q
              · have DN : Hid (scanDown (fun x => lt dk[a]! x) dk i j1 = j) := by show _ = _; rw [← JJ.out]; exact scanDown_stop _ _ _ _ (.inr (by simp [HQ.out]))
                have NE : Hid (i ≠ j) := fun e => by
                  have h1 := UF.out (by omega)
                  have h2 := HQ.out
                  rw [← e, h1] at h2
                  cases h2
                have hlt : i < j := by have := NE.out; omega
                have hgt : ¬ (j : Int) < i := by omega
                have hne : i ≠ j := by omega
                have hin2 : i < n := by omega
                have hin2i : (i : Int) < n := by omega
                clear HG
                obtain ⟨G, hG⟩ : ∃ G : Nat → Int, ∀ t, G t = dk[t]! := ⟨fun t => dk[t]!, fun _ => rfl⟩
                have hcw : ∀ t, t < n → w8.cell? ⟨g, t, none⟩ = some (.int kq (G t)) := fun t ht => by rw [hG]; exact R8.out.cell t (by rw [HS.out]; exact ht)
                have hfw : ∀ t, t < n → w8.frozen? ⟨g, t, none⟩ = false := fun t ht => R8.out.frozen t
                have HG := Lib.hid hG
                clear hG
                have R9 : Hid (SR (((w8.setCell ⟨g, i, none⟩ (.int kq (G j))).setCell ⟨g, j, none⟩ (.int kq (G i))).drew) g (swp dk i j) rest) := by
                  show SR _ _ _ _
                  rw [HG.out, HG.out]
                  exact (R8.out.past ((Only.refl _ _).drewN 1)).swap i j (by rw [HS.out]; omega) (by rw [HS.out]; omega)
                have O9 : Hid (Only [g] w (((w8.setCell ⟨g, i, none⟩ (.int kq (G j))).setCell ⟨g, j, none⟩ (.int kq (G i))).drew)) := only_swap (O8.out.drewN 1) _ _ _ _
                go_wp2_with fail
                go_region
                have STEP : Hid (partEqLoop lt a (i + 1) (j - 1) (swp dk i j) = partEqLoop lt a i0 j0 ds) := by
                  show _ = _
                  rw [← HI.out, partEqLoop_eq lt a i1 j1 dk, UP.out, DN.out, if_neg (by omega)]
                go_wp2_with fail
                go_roundg (j - 1 + 1 - (i + 1))
                case measure => have := HGK.out; omega
                case rel => exact ⟨i + 1, j - 1, swp dk i j, rfl, by go_num, by go_num, by omega, by omega, by omega, by rw [size_swp]; exact HS.out, R9.out, O9.out, STEP.out⟩
              · go_wp2_with fail
                go_roundg j
                case measure => have := HGL.out; omega
                case rel => exact ⟨j - 1, by omega, by go_num, by omega, by omega, R8.out, O8.out, by rw [← JJ.out, scanDown_go _ _ _ _ (by omega) hle (by simp [HQ.out])]⟩
            · have hlei : decide ((i : Int) ≤ j) = false := by rw [decide_eq_false_iff_not]; omega
              have DN : Hid (scanDown (fun x => lt dk[a]! x) dk i j1 = j) := by show _ = _; rw [← JJ.out]; exact scanDown_stop _ _ _ _ (.inl hle)
              go_wp2_with fail
              go_quiet (first | (go_at_call 100; refine Calls.quiet_of_same (less_any _ _ _)))
              have R8 : Hid (SR (w5.drewN nq) g dk rest) := RJ.out.past ((Only.refl _ _).drewN _)
              have O8 : Hid (Only [g] w (w5.drewN nq)) := OJ.out.drewN _
              generalize w5.drewN nq = w8 at *
              have hgt : (j : Int) < i := by omega
              go_wp2_with fail
              go_ret
              have e : Sort.partitionEqual lt d a b pv = (i, dk) := by
                rw [PE.out, ← HI.out, partEqLoop_eq, UP.out, DN.out, if_pos (by omega)]
              rw [e]
              exact ⟨i, rfl, rfl, R8.out, O8.out⟩
      · have hlei : decide ((i : Int) ≤ j1) = false := by rw [decide_eq_false_iff_not]; omega
        have UP : Hid (scanUp (fun x => !lt dk[a]! x) dk j1 i1 = i) := by show _ = _; rw [← JJ.out]; exact scanUp_stop _ _ _ _ (.inl hle)
        have UF : Hid (i ≤ j1 → lt dk[a]! dk[i]! = true) := fun h => absurd h hle
        go_wp2_with fail
        go_quiet (first | (go_at_call 100; refine Calls.quiet_of_same (less_any _ _ _)))
        have RU : Hid (SR (w4.drewN nq) g dk rest) := RJ.out.past ((Only.refl _ _).drewN _)
        have OU : Hid (Only [g] w (w4.drewN nq)) := OJ.out.drewN _
        generalize w4.drewN nq = w8 at *
        clear JJ HGL RJ OJ
        go_wp2_with fail
        go_loopg [10] (j1 + 1) (fun gl v10 wr => ∃ j : Nat, gl = j + 1 ∧ v10 = .int .i64 j ∧ i ≤ j + 1 ∧ j ≤ j1 ∧ SR wr g dk rest ∧ Only [g] w wr ∧ scanDown (fun x => lt dk[a]! x) dk i j = scanDown (fun x => lt dk[a]! x) dk i j1)
        case atStart => exact ⟨j1, rfl, rfl, by omega, Nat.le_refl _, RU.out, OU.out, rfl⟩
        case round =>
          obtain ⟨j, hgl, rfl, hij, hjj, hrj, hoj, hJ⟩ := hrel
          rename World => w5
          have HGL := Lib.hid hgl
          have RJ := Lib.hid hrj
          have OJ := Lib.hid hoj
          have JJ := Lib.hid hJ
          clear hgl hrj hoj hJ
          by_cases hle : i ≤ j
          · exfalso; omega
          · have hlei : decide ((i : Int) ≤ j) = false := by rw [decide_eq_false_iff_not]; omega
            have DN : Hid (scanDown (fun x => lt dk[a]! x) dk i j1 = j) := by show _ = _; rw [← JJ.out]; exact scanDown_stop _ _ _ _ (.inl hle)
            go_wp2_with fail
            go_quiet (first | (go_at_call 100; refine Calls.quiet_of_same (less_any _ _ _)))
            have R8 : Hid (SR (w5.drewN nq) g dk rest) := RJ.out.past ((Only.refl _ _).drewN _)
            have O8 : Hid (Only [g] w (w5.drewN nq)) := OJ.out.drewN _
            generalize w5.drewN nq = w8 at *
            have hgt : (j : Int) < i := by omega
            go_wp2_with fail
            go_ret
            have e : Sort.partitionEqual lt d a b pv = (i, dk) := by
              rw [PE.out, ← HI.out, partEqLoop_eq, UP.out, DN.out, if_pos (by omega)]
            rw [e]
            exact ⟨i, rfl, rfl, R8.out, O8.out⟩
set_option maxHeartbeats 8000000 in
set_option maxRecDepth 1000000 in
theorem part_any (g cap a b pv : Nat) (d : Array Int) (rest : List Value) (w : World) (h : SR w g d rest) (hab : a ≤ pv) (hpb : pv < b) (hb : b ≤ d.size) (hsz : d.size ≤ 1000000) :
    Calls Tryz.prog 102 #[.slice (some ⟨g, 0, none⟩) d.size cap, .int .i64 a, .int .i64 b, .int .i64 pv] w fun e w' => ∃ (mid : Nat) (ap : Bool), e = .returned (.tuple #[.int .i64 mid, .bool ap]) ∧ mid = (Sort.partition lt d a b pv).1 ∧ SR w' g (Sort.partition lt d a b pv).2.2 rest ∧ Only [g] w w' := by
  have H0 := Lib.hid h
  obtain ⟨n, hn⟩ : ∃ n, d.size = n := ⟨_, rfl⟩
  have HN := Lib.hid hn
  rw [hn] at hb hsz ⊢
  clear h hn
  have han : a < n := by omega
  have hpn : pv < n := by omega
  have hani : (a : Int) < n := by omega
  have hpni : (pv : Int) < n := by omega
  obtain ⟨i0, hi0⟩ : ∃ i0, a + 1 = i0 := ⟨_, rfl⟩
  obtain ⟨j0, hj0⟩ : ∃ j0, b - 1 = j0 := ⟨_, rfl⟩
  have ei0 : (a : Int) + 1 = (i0 : Int) := by omega
  have ej0 : (b : Int) - 1 = (j0 : Int) := by omega
  have hij0 : i0 ≤ j0 + 1 := by omega
  have hj0n : j0 < n := by omega
  have hai0 : a < i0 := by omega
  have hj0b : j0 < b := by omega
  have HIJ := Lib.hid (And.intro hi0 hj0)
  clear hi0 hj0
  have HW : Hid (Only [g] w w) := Only.refl _ _
  go_enter Tryz.func102, Tryz.ntmps102
  obtain ⟨G, hG⟩ : ∃ G : Nat → Int, ∀ t, G t = d[t]! := ⟨fun t => d[t]!, fun _ => rfl⟩
  have hcw : ∀ t, t < n → w.cell? ⟨g, t, none⟩ = some (.int kq (G t)) := fun t ht => by rw [hG]; exact H0.out.cell t (by rw [HN.out]; exact ht)
  have hfw : ∀ t, t < n → w.frozen? ⟨g, t, none⟩ = false := fun t ht => H0.out.frozen t
  have HG := Lib.hid hG
  clear hG
  have hs1 : (w.setCell ⟨g, a, none⟩ (.int kq (G pv))).cell? ⟨g, pv, none⟩ = some (.int kq (G pv)) := by rw [HG.out]; exact H0.out.after a pv (by rw [HN.out]; omega) (by rw [HN.out]; omega)
  have hs2 : (w.drew.setCell ⟨g, a, none⟩ (.int kq (G pv))).cell? ⟨g, pv, none⟩ = some (.int kq (G pv)) := hs1
  have R9 : Hid (SR (((w.setCell ⟨g, a, none⟩ (.int kq (G pv))).setCell ⟨g, pv, none⟩ (.int kq (G a))).drew) g (swp d a pv) rest) := by
    show SR _ _ _ _
    rw [HG.out, HG.out]
    exact (H0.out.past ((Only.refl _ _).drewN 1)).swap a pv (by rw [HN.out]; omega) (by rw [HN.out]; omega)
  have O9 : Hid (Only [g] w (((w.setCell ⟨g, a, none⟩ (.int kq (G pv))).setCell ⟨g, pv, none⟩ (.int kq (G a))).drew)) := only_swap (HW.out.drewN 1) _ _ _ _
  go_wp2_with fail
  go_region
  generalize ((w.setCell ⟨g, a, none⟩ (.int kq (G pv))).setCell ⟨g, pv, none⟩ (.int kq (G a))).drew = w1 at *
  obtain ⟨ds, hds⟩ : ∃ ds, swp d a pv = ds := ⟨_, rfl⟩
  rw [hds] at R9
  have HS : Hid (ds.size = n) := by show _ = _; rw [← hds, size_swp]; exact HN.out
  have HDS := Lib.hid hds
  have R1 := R9
  have O1 := O9
  clear hds hcw hfw hs1 hs2 R9 O9 HG
  have PA : Hid (∀ m dm, partLoop lt a i0 j0 ds = (m, dm) → (Sort.partition lt d a b pv).1 = m ∧ (Sort.partition lt d a b pv).2.2 = swp dm m a) := fun m dm hm => by
    rw [partition_fst, partition_arr, HIJ.out.1, HIJ.out.2, HDS.out, hm]
    exact ⟨rfl, rfl⟩
  go_wp2_with fail
  go_loopg [10] (j0 + 1 - i0) (fun gl v10 wr => ∃ i : Nat, gl = j0 + 1 - i ∧ v10 = .int .i64 i ∧ i0 ≤ i ∧ i ≤ j0 + 1 ∧ SR wr g ds rest ∧ Only [g] w wr ∧ scanUp (fun x => lt x ds[a]!) ds j0 i = scanUp (fun x => lt x ds[a]!) ds j0 i0)
  case atStart => exact ⟨i0, rfl, by go_num, Nat.le_refl _, by omega, R1.out, O1.out, rfl⟩
  case round =>
    obtain ⟨i, hgl, rfl, hii, hij1, hrj, hoj, hJ⟩ := hrel
    rename World => w4
    have HGL := Lib.hid hgl
    have RJ := Lib.hid hrj
    have OJ := Lib.hid hoj
    have JJ := Lib.hid hJ
    clear hgl hrj hoj hJ
    by_cases hle : i ≤ j0
    · have hlei : (i : Int) ≤ j0 := by omega
      have hin : i < n := by omega
      have hini : (i : Int) < n := by omega
      obtain ⟨G, hG⟩ : ∃ G : Nat → Int, ∀ t, G t = ds[t]! := ⟨fun t => ds[t]!, fun _ => rfl⟩
      have hcw : ∀ t, t < n → w4.cell? ⟨g, t, none⟩ = some (.int kq (G t)) := fun t ht => by rw [hG]; exact RJ.out.cell t (by rw [HS.out]; exact ht)
      have hfw : ∀ t, t < n → w4.frozen? ⟨g, t, none⟩ = false := fun t ht => RJ.out.frozen t
      have HG := Lib.hid hG
      clear hG
      obtain ⟨q, hq⟩ : ∃ q, lt (G i) (G a) = q := ⟨_, rfl⟩
      have HQ : Hid (lt ds[i]! ds[a]! = q) := by show _ = _; rw [← HG.out, ← HG.out]; exact hq
      go_wp2_with fail
      go_quiet (first | (go_at_call 100; refine Calls.quiet_of_same (less_any _ _ _)))
      rw [hq]
      clear hq
      have R8 : Hid (SR (w4.drewN nq) g ds rest) := RJ.out.past ((Only.refl _ _).drewN _)
      have O8 : Hid (Only [g] w (w4.drewN nq)) := OJ.out.drewN _
      clear hcw hfw
      generalize w4.drewN nq = w8 at *
      cases q
      · have UP : Hid (scanUp (fun x => lt x ds[a]!) ds j0 i0 = i) := by show _ = _; rw [← JJ.out]; exact scanUp_stop _ _ _ _ (.inr (by simp [HQ.out]))
        have UF : Hid (i ≤ j0 → lt ds[i]! ds[a]! = false) := fun _ => HQ.out
        have RU := R8
        have OU := O8
        clear HQ JJ HGL RJ OJ HG
        go_wp2_with fail
        go_loopg [11] (j0 + 1) (fun gl v11 wr => ∃ j : Nat, gl = j + 1 ∧ v11 = .int .i64 j ∧ i ≤ j + 1 ∧ j ≤ j0 ∧ SR wr g ds rest ∧ Only [g] w wr ∧ scanDown (fun x => !lt x ds[a]!) ds i j = scanDown (fun x => !lt x ds[a]!) ds i j0)
        case atStart => exact ⟨j0, rfl, rfl, by omega, Nat.le_refl _, RU.out, OU.out, rfl⟩
        case round =>
          obtain ⟨j, hgl, rfl, hij, hjj, hrj, hoj, hJ⟩ := hrel
          rename World => w5
          have HGL := Lib.hid hgl
          have RJ := Lib.hid hrj
          have OJ := Lib.hid hoj
          have JJ := Lib.hid hJ
          clear hgl hrj hoj hJ
          by_cases hle : i ≤ j
          · have hlei : (i : Int) ≤ j := by omega
            have hjn : j < n := by omega
            have hjni : (j : Int) < n := by omega
            obtain ⟨G, hG⟩ : ∃ G : Nat → Int, ∀ t, G t = ds[t]! := ⟨fun t => ds[t]!, fun _ => rfl⟩
            have hcw : ∀ t, t < n → w5.cell? ⟨g, t, none⟩ = some (.int kq (G t)) := fun t ht => by rw [hG]; exact RJ.out.cell t (by rw [HS.out]; exact ht)
            have hfw : ∀ t, t < n → w5.frozen? ⟨g, t, none⟩ = false := fun t ht => RJ.out.frozen t
            have HG := Lib.hid hG
            clear hG
            obtain ⟨q, hq⟩ : ∃ q, lt (G j) (G a) = q := ⟨_, rfl⟩
            have HQ : Hid (lt ds[j]! ds[a]! = q) := by show _ = _; rw [← HG.out, ← HG.out]; exact hq
            go_wp2_with fail
            go_quiet (first | (go_at_call 100; refine Calls.quiet_of_same (less_any _ _ _)))
            rw [hq]
            clear hq
            have R8 : Hid (SR (w5.drewN nq) g ds rest) := RJ.out.past ((Only.refl _ _).drewN _)
            have O8 : Hid (Only [g] w (w5.drewN nq)) := OJ.out.drewN _
            clear hcw hfw
            generalize w5.drewN nq = w8 at *
            cases q
            · go_wp2_with fail
              go_roundg j
              case measure => have := HGL.out; omega
              case rel => exact ⟨j - 1, by omega, by go_num, by omega, by omega, R8.out, O8.out, by rw [← JJ.out, scanDown_go _ _ _ _ (by omega) hle (by simp [HQ.out])]⟩
            · have DN : Hid (scanDown (fun x => !lt x ds[a]!) ds i j0 = j) := by show _ = _; rw [← JJ.out]; exact scanDown_stop _ _ _ _ (.inr (by simp [HQ.out]))
              have NE : Hid (i ≠ j) := fun e => by
                have h1 := UF.out (by omega)
                have h2 := HQ.out
                rw [← e, h1] at h2
                cases h2
              have hlt : i < j := by have := NE.out; omega
              have hgt : ¬ (j : Int) < i := by omega
              have hne : i ≠ j := by omega
              have hin2 : i < n := by omega
              have hin2i : (i : Int) < n := by omega
              clear HG
              obtain ⟨G, hG⟩ : ∃ G : Nat → Int, ∀ t, G t = ds[t]! := ⟨fun t => ds[t]!, fun _ => rfl⟩
              have hcw : ∀ t, t < n → w8.cell? ⟨g, t, none⟩ = some (.int kq (G t)) := fun t ht => by rw [hG]; exact R8.out.cell t (by rw [HS.out]; exact ht)
              have hfw : ∀ t, t < n → w8.frozen? ⟨g, t, none⟩ = false := fun t ht => R8.out.frozen t
              have HG := Lib.hid hG
              clear hG
              have R9 : Hid (SR (((w8.setCell ⟨g, i, none⟩ (.int kq (G j))).setCell ⟨g, j, none⟩ (.int kq (G i))).drew) g (swp ds i j) rest) := by
                show SR _ _ _ _
                rw [HG.out, HG.out]
                exact (R8.out.past ((Only.refl _ _).drewN 1)).swap i j (by rw [HS.out]; omega) (by rw [HS.out]; omega)
              have O9 : Hid (Only [g] w (((w8.setCell ⟨g, i, none⟩ (.int kq (G j))).setCell ⟨g, j, none⟩ (.int kq (G i))).drew)) := only_swap (O8.out.drewN 1) _ _ _ _
              go_wp2_with fail
              go_region
              have STEP : Hid (partLoop lt a (i + 1) (j - 1) (swp ds i j) = partLoop lt a i0 j0 ds) := by
                show _ = _
                rw [partLoop_eq lt a i0 j0 ds, UP.out, DN.out, if_neg (by omega)]
              have S9 : Hid ((swp ds i j).size = n) := by show _ = _; rw [size_swp]; exact HS.out
              go_wp2_with fail
              go_loopg [10, 11] (j - 1 + 1 - (i + 1)) (fun gk v10 v11 wr => ∃ (i1 j1 : Nat) (dk : Array Int), gk = j1 + 1 - i1 ∧ v10 = .int .i64 i1 ∧ v11 = .int .i64 j1 ∧ i1 ≤ j1 + 1 ∧ a < i1 ∧ j1 < n ∧ dk.size = n ∧ SR wr g dk rest ∧ Only [g] w wr ∧ partLoop lt a i1 j1 dk = partLoop lt a i0 j0 ds)
              case atStart => exact ⟨i + 1, j - 1, swp ds i j, rfl, by go_num, by go_num, by omega, by omega, by omega, S9.out, R9.out, O9.out, STEP.out⟩
              case round =>
                clear R1 O1 HS R9 O9 R8 O8 RU OU RJ OJ S9 STEP UP UF DN NE HQ JJ HGL
                obtain ⟨i1, j1, dk, hgk, rfl, rfl, hij, hai, hjn1, hsk, hr, ho, hI⟩ := hrel
                rename World => w2
                have HGK := Lib.hid hgk
                have R1 := Lib.hid hr
                have O1 := Lib.hid ho
                have HI := Lib.hid hI
                have HS := Lib.hid hsk
                clear hgk hr ho hI hsk
                go_wp2_with fail
                go_loopg [10] (j1 + 1 - i1) (fun gl v10 wr => ∃ i : Nat, gl = j1 + 1 - i ∧ v10 = .int .i64 i ∧ i1 ≤ i ∧ i ≤ j1 + 1 ∧ SR wr g dk rest ∧ Only [g] w wr ∧ scanUp (fun x => lt x dk[a]!) dk j1 i = scanUp (fun x => lt x dk[a]!) dk j1 i1)
                case atStart => exact ⟨i1, rfl, by go_num, Nat.le_refl _, by omega, R1.out, O1.out, rfl⟩
                case round =>
                  obtain ⟨i, hgl, rfl, hii, hij1, hrj, hoj, hJ⟩ := hrel
                  rename World => w4
                  have HGL := Lib.hid hgl
                  have RJ := Lib.hid hrj
                  have OJ := Lib.hid hoj
                  have JJ := Lib.hid hJ
                  clear hgl hrj hoj hJ
                  by_cases hle : i ≤ j1
                  · have hlei : (i : Int) ≤ j1 := by omega
                    have hin : i < n := by omega
                    have hini : (i : Int) < n := by omega
                    obtain ⟨G, hG⟩ : ∃ G : Nat → Int, ∀ t, G t = dk[t]! := ⟨fun t => dk[t]!, fun _ => rfl⟩
                    have hcw : ∀ t, t < n → w4.cell? ⟨g, t, none⟩ = some (.int kq (G t)) := fun t ht => by rw [hG]; exact RJ.out.cell t (by rw [HS.out]; exact ht)
                    have hfw : ∀ t, t < n → w4.frozen? ⟨g, t, none⟩ = false := fun t ht => RJ.out.frozen t
                    have HG := Lib.hid hG
                    clear hG
                    obtain ⟨q, hq⟩ : ∃ q, lt (G i) (G a) = q := ⟨_, rfl⟩
                    have HQ : Hid (lt dk[i]! dk[a]! = q) := by show _ = _; rw [← HG.out, ← HG.out]; exact hq
                    go_wp2_with fail
                    go_quiet (first | (go_at_call 100; refine Calls.quiet_of_same (less_any _ _ _)))
                    rw [hq]
                    clear hq
                    have R8 : Hid (SR (w4.drewN nq) g dk rest) := RJ.out.past ((Only.refl _ _).drewN _)
                    have O8 : Hid (Only [g] w (w4.drewN nq)) := OJ.out.drewN _
                    clear hcw hfw
                    generalize w4.drewN nq = w8 at *
                    cases q
                    · have UP : Hid (scanUp (fun x => lt x dk[a]!) dk j1 i1 = i) := by show _ = _; rw [← JJ.out]; exact scanUp_stop _ _ _ _ (.inr (by simp [HQ.out]))
                      have UF : Hid (i ≤ j1 → lt dk[i]! dk[a]! = false) := fun _ => HQ.out
                      have RU := R8
                      have OU := O8
                      clear HQ JJ HGL RJ OJ HG
                      go_wp2_with fail
                      go_loopg [11] (j1 + 1) (fun gl v11 wr => ∃ j : Nat, gl = j + 1 ∧ v11 = .int .i64 j ∧ i ≤ j + 1 ∧ j ≤ j1 ∧ SR wr g dk rest ∧ Only [g] w wr ∧ scanDown (fun x => !lt x dk[a]!) dk i j = scanDown (fun x => !lt x dk[a]!) dk i j1)
                      case atStart => exact ⟨j1, rfl, rfl, by omega, Nat.le_refl _, RU.out, OU.out, rfl⟩
                      case round =>
                        obtain ⟨j, hgl, rfl, hij, hjj, hrj, hoj, hJ⟩ := hrel
                        rename World => w5
                        have HGL := Lib.hid hgl
                        have RJ := Lib.hid hrj
                        have OJ := Lib.hid hoj
                        have JJ := Lib.hid hJ
                        clear hgl hrj hoj hJ
                        by_cases hle : i ≤ j
                        · have hlei : (i : Int) ≤ j := by omega
                          have hjn : j < n := by omega
                          have hjni : (j : Int) < n := by omega
                          obtain ⟨G, hG⟩ : ∃ G : Nat → Int, ∀ t, G t = dk[t]! := ⟨fun t => dk[t]!, fun _ => rfl⟩
                          have hcw : ∀ t, t < n → w5.cell? ⟨g, t, none⟩ = some (.int kq (G t)) := fun t ht => by rw [hG]; exact RJ.out.cell t (by rw [HS.out]; exact ht)
                          have hfw : ∀ t, t < n → w5.frozen? ⟨g, t, none⟩ = false := fun t ht => RJ.out.frozen t
                          have HG := Lib.hid hG
                          clear hG
                          obtain ⟨q, hq⟩ : ∃ q, lt (G j) (G a) = q := ⟨_, rfl⟩
                          have HQ : Hid (lt dk[j]! dk[a]! = q) := by show _ = _; rw [← HG.out, ← HG.out]; exact hq
                          go_wp2_with fail
                          go_quiet (first | (go_at_call 100; refine Calls.quiet_of_same (less_any _ _ _)))
                          rw [hq]
                          clear hq
                          have R8 : Hid (SR (w5.drewN nq) g dk rest) := RJ.out.past ((Only.refl _ _).drewN _)
                          have O8 : Hid (Only [g] w (w5.drewN nq)) := OJ.out.drewN _
                          clear hcw hfw
                          generalize w5.drewN nq = w8 at *
                          cases q
                          · go_wp2_with fail
                            go_roundg j
                            case measure => have := HGL.out; omega
                            case rel => exact ⟨j - 1, by omega, by go_num, by omega, by omega, R8.out, O8.out, by rw [← JJ.out, scanDown_go _ _ _ _ (by omega) hle (by simp [HQ.out])]⟩
                          · have DN : Hid (scanDown (fun x => !lt x dk[a]!) dk i j1 = j) := by show _ = _; rw [← JJ.out]; exact scanDown_stop _ _ _ _ (.inr (by simp [HQ.out]))
                            have NE : Hid (i ≠ j) := fun e => by
                              have h1 := UF.out (by omega)
                              have h2 := HQ.out
                              rw [← e, h1] at h2
                              cases h2
                            have hlt : i < j := by have := NE.out; omega
                            have hgt : ¬ (j : Int) < i := by omega
                            have hne : i ≠ j := by omega
                            have hin2 : i < n := by omega
                            have hin2i : (i : Int) < n := by omega
                            clear HG
                            obtain ⟨G, hG⟩ : ∃ G : Nat → Int, ∀ t, G t = dk[t]! := ⟨fun t => dk[t]!, fun _ => rfl⟩
                            have hcw : ∀ t, t < n → w8.cell? ⟨g, t, none⟩ = some (.int kq (G t)) := fun t ht => by rw [hG]; exact R8.out.cell t (by rw [HS.out]; exact ht)
                            have hfw : ∀ t, t < n → w8.frozen? ⟨g, t, none⟩ = false := fun t ht => R8.out.frozen t
                            have HG := Lib.hid hG
                            clear hG
                            have R9 : Hid (SR (((w8.setCell ⟨g, i, none⟩ (.int kq (G j))).setCell ⟨g, j, none⟩ (.int kq (G i))).drew) g (swp dk i j) rest) := by
                              show SR _ _ _ _
                              rw [HG.out, HG.out]
                              exact (R8.out.past ((Only.refl _ _).drewN 1)).swap i j (by rw [HS.out]; omega) (by rw [HS.out]; omega)
                            have O9 : Hid (Only [g] w (((w8.setCell ⟨g, i, none⟩ (.int kq (G j))).setCell ⟨g, j, none⟩ (.int kq (G i))).drew)) := only_swap (O8.out.drewN 1) _ _ _ _
                            go_wp2_with fail
                            go_region
                            have STEP : Hid (partLoop lt a (i + 1) (j - 1) (swp dk i j) = partLoop lt a i0 j0 ds) := by
                              show _ = _
                              rw [← HI.out, partLoop_eq lt a i1 j1 dk, UP.out, DN.out, if_neg (by omega)]
                            go_wp2_with fail
                            go_roundg (j - 1 + 1 - (i + 1))
                            case measure => have := HGK.out; omega
                            case rel => exact ⟨i + 1, j - 1, swp dk i j, rfl, by go_num, by go_num, by omega, by omega, by omega, by rw [size_swp]; exact HS.out, R9.out, O9.out, STEP.out⟩
                        · have hlei : decide ((i : Int) ≤ j) = false := by rw [decide_eq_false_iff_not]; omega
                          have DN : Hid (scanDown (fun x => !lt x dk[a]!) dk i j1 = j) := by show _ = _; rw [← JJ.out]; exact scanDown_stop _ _ _ _ (.inl hle)
                          go_wp2_with fail
                          go_quiet (first | (go_at_call 100; refine Calls.quiet_of_same (less_any _ _ _)))
                          have R8 : Hid (SR (w5.drewN nq) g dk rest) := RJ.out.past ((Only.refl _ _).drewN _)
                          have O8 : Hid (Only [g] w (w5.drewN nq)) := OJ.out.drewN _
                          generalize w5.drewN nq = w8 at *
                          have hgt : (j : Int) < i := by omega
                          have hjn2 : j < n := by omega
                          have hjn2i : (j : Int) < n := by omega
                          have E := Lib.hid (PA.out j dk (by rw [← HI.out, partLoop_eq, UP.out, DN.out, if_pos (by omega)]))
                          obtain ⟨G, hG⟩ : ∃ G : Nat → Int, ∀ t, G t = dk[t]! := ⟨fun t => dk[t]!, fun _ => rfl⟩
                          have hcw : ∀ t, t < n → w8.cell? ⟨g, t, none⟩ = some (.int kq (G t)) := fun t ht => by rw [hG]; exact R8.out.cell t (by rw [HS.out]; exact ht)
                          have hfw : ∀ t, t < n → w8.frozen? ⟨g, t, none⟩ = false := fun t ht => R8.out.frozen t
                          have HG := Lib.hid hG
                          clear hG
                          have hs1 : (w8.setCell ⟨g, j, none⟩ (.int kq (G a))).cell? ⟨g, a, none⟩ = some (.int kq (G a)) := by rw [HG.out]; exact R8.out.after j a (by rw [HS.out]; omega) (by rw [HS.out]; omega)
                          have hs2 : (w8.drew.setCell ⟨g, j, none⟩ (.int kq (G a))).cell? ⟨g, a, none⟩ = some (.int kq (G a)) := hs1
                          have R9 : Hid (SR (((w8.setCell ⟨g, j, none⟩ (.int kq (G a))).setCell ⟨g, a, none⟩ (.int kq (G j))).drew) g (swp dk j a) rest) := by
                            show SR _ _ _ _
                            rw [HG.out, HG.out]
                            exact (R8.out.past ((Only.refl _ _).drewN 1)).swap j a (by rw [HS.out]; omega) (by rw [HS.out]; omega)
                          have O9 : Hid (Only [g] w (((w8.setCell ⟨g, j, none⟩ (.int kq (G a))).setCell ⟨g, a, none⟩ (.int kq (G j))).drew)) := only_swap (O8.out.drewN 1) _ _ _ _
                          go_wp2_with fail
                          go_region
                          go_wp2_with fail
                          go_ret2
                          rw [E.out.1, E.out.2]
                          exact ⟨j, _, rfl, rfl, R9.out, O9.out⟩
                    · go_wp2_with fail
                      go_roundg (j1 + 1 - (i + 1))
                      case measure => have := HGL.out; omega
                      case rel => exact ⟨i + 1, rfl, by go_num, by omega, by omega, R8.out, O8.out, by rw [← JJ.out, scanUp_go _ _ _ _ hle (by simp [HQ.out])]⟩
                  · have hlei : decide ((i : Int) ≤ j1) = false := by rw [decide_eq_false_iff_not]; omega
                    have UP : Hid (scanUp (fun x => lt x dk[a]!) dk j1 i1 = i) := by show _ = _; rw [← JJ.out]; exact scanUp_stop _ _ _ _ (.inl hle)
                    have UF : Hid (i ≤ j1 → lt dk[i]! dk[a]! = false) := fun h => absurd h hle
                    go_wp2_with fail
                    go_quiet (first | (go_at_call 100; refine Calls.quiet_of_same (less_any _ _ _)))
                    have RU : Hid (SR (w4.drewN nq) g dk rest) := RJ.out.past ((Only.refl _ _).drewN _)
                    have OU : Hid (Only [g] w (w4.drewN nq)) := OJ.out.drewN _
                    generalize w4.drewN nq = w8 at *
                    clear JJ HGL RJ OJ
                    go_wp2_with fail
                    go_loopg [11] (j1 + 1) (fun gl v11 wr => ∃ j : Nat, gl = j + 1 ∧ v11 = .int .i64 j ∧ i ≤ j + 1 ∧ j ≤ j1 ∧ SR wr g dk rest ∧ Only [g] w wr ∧ scanDown (fun x => !lt x dk[a]!) dk i j = scanDown (fun x => !lt x dk[a]!) dk i j1)
                    case atStart => exact ⟨j1, rfl, rfl, by omega, Nat.le_refl _, RU.out, OU.out, rfl⟩
                    case round =>
                      obtain ⟨j, hgl, rfl, hij, hjj, hrj, hoj, hJ⟩ := hrel
                      rename World => w5
                      have HGL := Lib.hid hgl
                      have RJ := Lib.hid hrj
                      have OJ := Lib.hid hoj
                      have JJ := Lib.hid hJ
                      clear hgl hrj hoj hJ
                      by_cases hle : i ≤ j
                      · exfalso; omega
                      · have hlei : decide ((i : Int) ≤ j) = false := by rw [decide_eq_false_iff_not]; omega
                        have DN : Hid (scanDown (fun x => !lt x dk[a]!) dk i j1 = j) := by show _ = _; rw [← JJ.out]; exact scanDown_stop _ _ _ _ (.inl hle)
                        go_wp2_with fail
                        go_quiet (first | (go_at_call 100; refine Calls.quiet_of_same (less_any _ _ _)))
                        have R8 : Hid (SR (w5.drewN nq) g dk rest) := RJ.out.past ((Only.refl _ _).drewN _)
                        have O8 : Hid (Only [g] w (w5.drewN nq)) := OJ.out.drewN _
                        generalize w5.drewN nq = w8 at *
                        have hgt : (j : Int) < i := by omega
                        have hjn2 : j < n := by omega
                        have hjn2i : (j : Int) < n := by omega
                        have E := Lib.hid (PA.out j dk (by rw [← HI.out, partLoop_eq, UP.out, DN.out, if_pos (by omega)]))
                        obtain ⟨G, hG⟩ : ∃ G : Nat → Int, ∀ t, G t = dk[t]! := ⟨fun t => dk[t]!, fun _ => rfl⟩
                        have hcw : ∀ t, t < n → w8.cell? ⟨g, t, none⟩ = some (.int kq (G t)) := fun t ht => by rw [hG]; exact R8.out.cell t (by rw [HS.out]; exact ht)
                        have hfw : ∀ t, t < n → w8.frozen? ⟨g, t, none⟩ = false := fun t ht => R8.out.frozen t
                        have HG := Lib.hid hG
                        clear hG
                        have hs1 : (w8.setCell ⟨g, j, none⟩ (.int kq (G a))).cell? ⟨g, a, none⟩ = some (.int kq (G a)) := by rw [HG.out]; exact R8.out.after j a (by rw [HS.out]; omega) (by rw [HS.out]; omega)
                        have hs2 : (w8.drew.setCell ⟨g, j, none⟩ (.int kq (G a))).cell? ⟨g, a, none⟩ = some (.int kq (G a)) := hs1
                        have R9 : Hid (SR (((w8.setCell ⟨g, j, none⟩ (.int kq (G a))).setCell ⟨g, a, none⟩ (.int kq (G j))).drew) g (swp dk j a) rest) := by
                          show SR _ _ _ _
                          rw [HG.out, HG.out]
                          exact (R8.out.past ((Only.refl _ _).drewN 1)).swap j a (by rw [HS.out]; omega) (by rw [HS.out]; omega)
                        have O9 : Hid (Only [g] w (((w8.setCell ⟨g, j, none⟩ (.int kq (G a))).setCell ⟨g, a, none⟩ (.int kq (G j))).drew)) := only_swap (O8.out.drewN 1) _ _ _ _
                        go_wp2_with fail
                        go_region
                        go_wp2_with fail
                        go_ret2
                        rw [E.out.1, E.out.2]
                        exact ⟨j, _, rfl, rfl, R9.out, O9.out⟩
          · have hlei : decide ((i : Int) ≤ j) = false := by rw [decide_eq_false_iff_not]; omega
            have DN : Hid (scanDown (fun x => !lt x ds[a]!) ds i j0 = j) := by show _ = _; rw [← JJ.out]; exact scanDown_stop _ _ _ _ (.inl hle)
            go_wp2_with fail
            go_quiet (first | (go_at_call 100; refine Calls.quiet_of_same (less_any _ _ _)))
            have R8 : Hid (SR (w5.drewN nq) g ds rest) := RJ.out.past ((Only.refl _ _).drewN _)
            have O8 : Hid (Only [g] w (w5.drewN nq)) := OJ.out.drewN _
            generalize w5.drewN nq = w8 at *
            have hgt : (j : Int) < i := by omega
            have hjn2 : j < n := by omega
            have hjn2i : (j : Int) < n := by omega
            have E := Lib.hid (PA.out j ds (by rw [partLoop_eq, UP.out, DN.out, if_pos (by omega)]))
            obtain ⟨G, hG⟩ : ∃ G : Nat → Int, ∀ t, G t = ds[t]! := ⟨fun t => ds[t]!, fun _ => rfl⟩
            have hcw : ∀ t, t < n → w8.cell? ⟨g, t, none⟩ = some (.int kq (G t)) := fun t ht => by rw [hG]; exact R8.out.cell t (by rw [HS.out]; exact ht)
            have hfw : ∀ t, t < n → w8.frozen? ⟨g, t, none⟩ = false := fun t ht => R8.out.frozen t
            have HG := Lib.hid hG
            clear hG
            have hs1 : (w8.setCell ⟨g, j, none⟩ (.int kq (G a))).cell? ⟨g, a, none⟩ = some (.int kq (G a)) := by rw [HG.out]; exact R8.out.after j a (by rw [HS.out]; omega) (by rw [HS.out]; omega)
            have hs2 : (w8.drew.setCell ⟨g, j, none⟩ (.int kq (G a))).cell? ⟨g, a, none⟩ = some (.int kq (G a)) := hs1
            have R9 : Hid (SR (((w8.setCell ⟨g, j, none⟩ (.int kq (G a))).setCell ⟨g, a, none⟩ (.int kq (G j))).drew) g (swp ds j a) rest) := by
              show SR _ _ _ _
              rw [HG.out, HG.out]
              exact (R8.out.past ((Only.refl _ _).drewN 1)).swap j a (by rw [HS.out]; omega) (by rw [HS.out]; omega)
            have O9 : Hid (Only [g] w (((w8.setCell ⟨g, j, none⟩ (.int kq (G a))).setCell ⟨g, a, none⟩ (.int kq (G j))).drew)) := only_swap (O8.out.drewN 1) _ _ _ _
            go_wp2_with fail
            go_region
            go_wp2_with fail
            go_ret2
            rw [E.out.1, E.out.2]
            exact ⟨j, _, rfl, rfl, R9.out, O9.out⟩
      · go_wp2_with fail
        go_roundg (j0 + 1 - (i + 1))
        case measure => have := HGL.out; omega
        case rel => exact ⟨i + 1, rfl, by go_num, by omega, by omega, R8.out, O8.out, by rw [← JJ.out, scanUp_go _ _ _ _ hle (by simp [HQ.out])]⟩
    · have hlei : decide ((i : Int) ≤ j0) = false := by rw [decide_eq_false_iff_not]; omega
      have UP : Hid (scanUp (fun x => lt x ds[a]!) ds j0 i0 = i) := by show _ = _; rw [← JJ.out]; exact scanUp_stop _ _ _ _ (.inl hle)
      have UF : Hid (i ≤ j0 → lt ds[i]! ds[a]! = false) := fun h => absurd h hle
      go_wp2_with fail
      go_quiet (first | (go_at_call 100; refine Calls.quiet_of_same (less_any _ _ _)))
      have RU : Hid (SR (w4.drewN nq) g ds rest) := RJ.out.past ((Only.refl _ _).drewN _)
      have OU : Hid (Only [g] w (w4.drewN nq)) := OJ.out.drewN _
      generalize w4.drewN nq = w8 at *
      clear JJ HGL RJ OJ
      go_wp2_with fail
      go_loopg [11] (j0 + 1) (fun gl v11 wr => ∃ j : Nat, gl = j + 1 ∧ v11 = .int .i64 j ∧ i ≤ j + 1 ∧ j ≤ j0 ∧ SR wr g ds rest ∧ Only [g] w wr ∧ scanDown (fun x => !lt x ds[a]!) ds i j = scanDown (fun x => !lt x ds[a]!) ds i j0)
      case atStart => exact ⟨j0, rfl, rfl, by omega, Nat.le_refl _, RU.out, OU.out, rfl⟩
      case round =>
        obtain ⟨j, hgl, rfl, hij, hjj, hrj, hoj, hJ⟩ := hrel
        rename World => w5
        have HGL := Lib.hid hgl
        have RJ := Lib.hid hrj
        have OJ := Lib.hid hoj
        have JJ := Lib.hid hJ
        clear hgl hrj hoj hJ
        by_cases hle : i ≤ j
        · exfalso; omega
        · have hlei : decide ((i : Int) ≤ j) = false := by rw [decide_eq_false_iff_not]; omega
          have DN : Hid (scanDown (fun x => !lt x ds[a]!) ds i j0 = j) := by show _ = _; rw [← JJ.out]; exact scanDown_stop _ _ _ _ (.inl hle)
          go_wp2_with fail
          go_quiet (first | (go_at_call 100; refine Calls.quiet_of_same (less_any _ _ _)))
          have R8 : Hid (SR (w5.drewN nq) g ds rest) := RJ.out.past ((Only.refl _ _).drewN _)
          have O8 : Hid (Only [g] w (w5.drewN nq)) := OJ.out.drewN _
          generalize w5.drewN nq = w8 at *
          have hgt : (j : Int) < i := by omega
          have hjn2 : j < n := by omega
          have hjn2i : (j : Int) < n := by omega
          have E := Lib.hid (PA.out j ds (by rw [partLoop_eq, UP.out, DN.out, if_pos (by omega)]))
          obtain ⟨G, hG⟩ : ∃ G : Nat → Int, ∀ t, G t = ds[t]! := ⟨fun t => ds[t]!, fun _ => rfl⟩
          have hcw : ∀ t, t < n → w8.cell? ⟨g, t, none⟩ = some (.int kq (G t)) := fun t ht => by rw [hG]; exact R8.out.cell t (by rw [HS.out]; exact ht)
          have hfw : ∀ t, t < n → w8.frozen? ⟨g, t, none⟩ = false := fun t ht => R8.out.frozen t
          have HG := Lib.hid hG
          clear hG
          have hs1 : (w8.setCell ⟨g, j, none⟩ (.int kq (G a))).cell? ⟨g, a, none⟩ = some (.int kq (G a)) := by rw [HG.out]; exact R8.out.after j a (by rw [HS.out]; omega) (by rw [HS.out]; omega)
          have hs2 : (w8.drew.setCell ⟨g, j, none⟩ (.int kq (G a))).cell? ⟨g, a, none⟩ = some (.int kq (G a)) := hs1
          have R9 : Hid (SR (((w8.setCell ⟨g, j, none⟩ (.int kq (G a))).setCell ⟨g, a, none⟩ (.int kq (G j))).drew) g (swp ds j a) rest) := by
            show SR _ _ _ _
            rw [HG.out, HG.out]
            exact (R8.out.past ((Only.refl _ _).drewN 1)).swap j a (by rw [HS.out]; omega) (by rw [HS.out]; omega)
          have O9 : Hid (Only [g] w (((w8.setCell ⟨g, j, none⟩ (.int kq (G a))).setCell ⟨g, a, none⟩ (.int kq (G j))).drew)) := only_swap (O8.out.drewN 1) _ _ _ _
          go_wp2_with fail
          go_region
          go_wp2_with fail
          go_ret2
          rw [E.out.1, E.out.2]
          exact ⟨j, _, rfl, rfl, R9.out, O9.out⟩
end Go.Proofs.YtfkmjbpnjgnkbaaGreat.IR
