import Derived.Test.YtfkmjbpnjgnkbaaGreatMSortF
import Derived.Sort.LotD3
/-
  slices.Sort at ints of one kind: pdqsort; Sort: by contracts.
-/
namespace Go.Proofs.YtfkmjbpnjgnkbaaGreat.I
set_option linter.unusedSimpArgs false
open Go Go.RowKit Go.Sort
set_option linter.unusedVariables false

/-- The row is sorted between a and b. -/
def Sorted1 (w : World) (g a b : Nat) (d : Array Int) (rest : List Value) (e : Ending) (w' : World) : Prop :=
  e = .returned (.tuple #[]) ∧ ∃ d', SR w' g d' rest ∧ PermIn a b d d' ∧ SortedIn lt a b d' ∧ Only [g] w w'
set_option maxHeartbeats 8000000 in
set_option maxRecDepth 1000000 in
theorem pdq_any (g cap n : Nat) (rest : List Value) (hn : n ≤ 524287) : ∀ (m a b lim : Nat) (d : Array Int) (w : World), b - a ≤ m → SR w g d rest → d.size = n → a ≤ b → b ≤ n → lim ≤ 64 → Sort.Below lt a b d →
    Calls Tryz.prog 64 #[.slice (some ⟨g, 0, none⟩) n cap, .int .i64 a, .int .i64 b, .int .i64 lim] w (Sorted1 w g a b d rest) := by
  intro m
  induction m using Nat.strongRecOn with
  | _ m ih =>
    intro a b lim d w hm h hd hab hb hl hB
    have H0 := Lib.hid h
    have HD := Lib.hid hd
    have HB := Lib.hid hB
    have IH := Lib.hid ih
    clear h hd hB ih
    go_enter Tryz.func64, Tryz.ntmps64
    go_wp2_with fail
    go_loopg [1, 2, 3, 8, 9] (b - a) (fun gk v1 v2 v3 v8 v9 wr => ∃ (x y l : Nat) (wb wp : Bool) (dk : Array Int), gk = y - x ∧ v1 = .int .i64 x ∧ v2 = .int .i64 y ∧ v3 = .int .i64 l ∧ v8 = .bool wb ∧ v9 = .bool wp ∧ x ≤ y ∧ y ≤ n ∧ y - x ≤ m ∧ l ≤ 64 ∧ dk.size = n ∧ Sort.Below lt x y dk ∧ SR wr g dk rest ∧ Only [g] w wr ∧ (∀ R, PermIn x y dk R → SortedIn lt x y R → PermIn a b d R ∧ SortedIn lt a b R))
    case atStart => exact ⟨a, b, lim, true, true, d, rfl, rfl, rfl, rfl, rfl, rfl, hab, hb, hm, hl, HD.out, HB.out, H0.out, Only.refl _ _, fun R h1 h2 => ⟨h1, h2⟩⟩
    case round =>
      clear H0 HD HB hm hl hab hb
      obtain ⟨x, y, l, wb, wp, dk, hgk, rfl, rfl, rfl, rfl, rfl, hxy, hyn, hym, hl, hsk, hB, hr, hO, hF⟩ := hrel
      rename World => w1
      have HGK := Lib.hid hgk
      have HS := Lib.hid hsk
      have HB := Lib.hid hB
      have R1 := Lib.hid hr
      have O1 := Lib.hid hO
      have HF := Lib.hid hF
      clear hgk hsk hB hr hO hF
      obtain ⟨len, hlen⟩ : ∃ len, y - x = len := ⟨_, rfl⟩
      have elen : (y : Int) - x = (len : Int) := by omega
      have HL := Lib.hid hlen
      clear hlen
      by_cases h12 : len ≤ 12
      · have h12i : (len : Int) ≤ 12 := by omega
        have C1 := Lib.hid (ins_any g cap x y dk rest w1 R1.out hxy (by rw [HS.out]; exact hyn) (by rw [HS.out]; omega))
        rw [HS.out] at C1
        go_wp2_with fail
        refine C1.out.mono ?_
        rintro e w2 ⟨rfl, hr2, hO2⟩
        have R2 := Lib.hid hr2
        have O2 := Lib.hid (O1.out.trans hO2 (fun z hz => .inl hz))
        clear hr2 hO2
        go_wp2_with fail
        go_end0
        have hI := insertionSort_holds (lt := lt) swo_ltInt dk x y hxy (by rw [HS.out]; exact hyn)
        have hJ := HF.out _ hI.1 hI.2
        exact ⟨rfl, _, R2.out, hJ.1, hJ.2, O2.out⟩
      · have h12i : ¬ (len : Int) ≤ 12 := by omega
        by_cases hl0 : l = 0
        · subst hl0
          have C1 := Lib.hid (heap_any g cap x y dk rest w1 R1.out hxy (by rw [HS.out]; exact hyn) (by rw [HS.out]; omega))
          rw [HS.out] at C1
          go_wp2_with fail
          refine C1.out.mono ?_
          rintro e w2 ⟨rfl, hr2, hO2⟩
          have R2 := Lib.hid hr2
          have O2 := Lib.hid (O1.out.trans hO2 (fun z hz => .inl hz))
          clear hr2 hO2
          go_wp2_with fail
          first | go_end0 | refine bodyPost_ret (results_none rfl _ _ _) rfl ?_
          have hI := heapSort_holds (lt := lt) swo_ltInt dk x y hxy (by rw [HS.out]; exact hyn)
          have hJ := HF.out _ hI.1 hI.2
          exact ⟨rfl, _, R2.out, hJ.1, hJ.2, O2.out⟩
        · have hl0i : ((l : Int) == 0) = false := by simp; exact hl0
          have hxy12 : x + 12 < y := by have := HL.out; omega
          have hyS : Hid (y ≤ dk.size ∧ dk.size ≤ 524287) := by show _ ∧ _; rw [HS.out]; exact ⟨hyn, hn⟩
          go_upto_if 35 with fail
          go_cut [3] from 19 to 133 (fun s3 wx => ∃ (l2 : Nat) (d1 : Array Int), s3 = .int .i64 l2 ∧ l2 ≤ 64 ∧ SR wx g d1 rest ∧ PermIn x y dk d1 ∧ Only [g] w wx)
          case first =>
            cases wb
            · have C1 := Lib.hid (break_any g cap x y dk rest w1 R1.out hxy12 hyS.out.1 hyS.out.2)
              rw [HS.out] at C1
              have hl1 : 1 ≤ l := by omega
              go_wp2_with fail
              refine C1.out.mono ?_
              rintro e w2 ⟨rfl, d1, hr2, hp2, hO2⟩
              have R2 := Lib.hid hr2
              have P2 := Lib.hid hp2
              have O2 := Lib.hid (O1.out.trans hO2 (fun z hz => .inl hz))
              clear hr2 hO2 hp2
              go_wp2_with fail
              go_meet
              case rel => exact ⟨l - 1, d1, by go_num, by omega, R2.out, P2.out, O2.out⟩
            · go_wp2_with fail
              go_meet
              case rel => exact ⟨l, dk, rfl, hl, R1.out, permIn_refl _ _ _, O1.out⟩
          case rest =>
            obtain ⟨l2, d1, rfl, hl2, hr2, hp2, hO2⟩ := hcut
            rename World => w2
            have S2 : Hid (d1.size = n) := hp2.1.trans HS.out
            have R2 := Lib.hid hr2
            have P2 := Lib.hid hp2
            have O2 := Lib.hid hO2
            have C2 := Lib.hid (pivot_any g cap x y d1 rest w2 hr2 hxy12 (by rw [S2.out]; exact hyn) (by rw [S2.out]; omega))
            rw [S2.out] at C2
            clear hr2 hp2 hO2 R1 O1
            go_wp2_with fail
            refine C2.out.mono ?_
            rintro e w3 ⟨p, hint, rfl, hxp, hpy, hh0, hh2, hO3⟩
            have R3 := Lib.hid (R2.out.past hO3)
            have O3 := Lib.hid (O2.out.trans hO3 (fun z hz => by cases hz))
            clear hO3 R2 O2 C2
            go_upto_if 50 with fail
            go_cut [11, 12] from 19 to 133 (fun s11 s12 wx => ∃ (p2 : Nat) (h2 : Int) (d2 : Array Int), s11 = .int .i64 p2 ∧ s12 = .int .i64 h2 ∧ x ≤ p2 ∧ p2 < y ∧ SR wx g d2 rest ∧ PermIn x y dk d2 ∧ Only [g] w wx)
            case first =>
              by_cases h2 : hint = 2
              · subst h2
                have C3 := Lib.hid (rev_any g cap x y d1 rest w3 R3.out (by omega) (by rw [S2.out]; exact hyn) (by rw [S2.out]; omega))
                rw [S2.out] at C3
                obtain ⟨u, hu⟩ : ∃ u, (y - 1) - (p - x) = u := ⟨_, rfl⟩
                have eu1 : (p : Int) - x = ((p - x : Nat) : Int) := by omega
                obtain ⟨u1, hu1⟩ : ∃ u1, p - x = u1 := ⟨_, rfl⟩
                obtain ⟨y1, hy1⟩ : ∃ y1, y - 1 = y1 := ⟨_, rfl⟩
                rw [hu1] at eu1
                have ey1 : (y : Int) - 1 = (y1 : Int) := by omega
                have eu : (y1 : Int) - u1 = (u : Int) := by omega
                have hux : x ≤ u ∧ u < y := by omega
                have HU := Lib.hid hux
                clear hu hu1 hy1 hux
                go_wp2_with fail
                refine C3.out.mono ?_
                rintro e w4 ⟨rfl, d2, hr4, hp4, hO4⟩
                have R4 := Lib.hid hr4
                have P4 := Lib.hid (permIn_trans _ _ _ _ _ P2.out hp4)
                have O4 := Lib.hid (O3.out.trans hO4 (fun z hz => .inl hz))
                clear hr4 hp4 hO4
                go_wp2_with fail
                go_meet
                case rel => exact ⟨u, 1, d2, rfl, rfl, HU.out.1, HU.out.2, R4.out, P4.out, O4.out⟩
              · have h2b : (hint == 2) = false := by simpa using h2
                clear h2
                go_wp2_with fail
                go_meet
                case rel => exact ⟨p, hint, d1, rfl, rfl, hxp, hpy, R3.out, P2.out, O3.out⟩
            case rest =>
              clear R3 O3 hxp hpy hh0 hh2
              obtain ⟨p2, h2, d2, rfl, rfl, hxp, hpy, hr4, hp4, hO4⟩ := hcut
              rename World => w4
              have S4 : Hid (d2.size = n) := hp4.1.trans HS.out
              have R4 := Lib.hid hr4
              have P4 := Lib.hid hp4
              have O4 := Lib.hid hO4
              clear hr4 hp4 hO4
              go_upto_region 15 with fail
              go_cut [68] from 19 to 133 (fun s68 wx => ∃ q : Bool, s68 = .bool q ∧ SR wx g d2 rest ∧ Only [g] w wx)
              case first =>
                cases wb <;> cases wp <;> (go_wp2_with fail; go_meet; case rel => exact ⟨_, rfl, R4.out, O4.out⟩)
              case rest =>
                clear R4 O4
                obtain ⟨q, rfl, hr4, hO4⟩ := hcut
                rename World => w5
                have R4 := Lib.hid hr4
                have O4 := Lib.hid hO4
                clear hr4 hO4
                go_upto_if 68 with fail
                go_cut [] from 19 to 133 (fun wx => ∃ (d3 : Array Int), SR wx g d3 rest ∧ PermIn x y dk d3 ∧ Only [g] w wx)
                case first =>
                  cases q
                  · go_wp2_with fail
                    go_meet
                    case rel => exact ⟨d2, R4.out, P4.out, O4.out⟩
                  · have C5 := Lib.hid (pins_any g cap x y d2 rest w5 R4.out (by omega) (by rw [S4.out]; exact hyn) (by rw [S4.out]; omega))
                    rw [S4.out] at C5
                    have F5 := Lib.hid (partialInsertionSort_holds (lt := lt) swo_ltInt d2 x y (by omega) (by rw [S4.out]; exact hyn) (HB.out.perm hyS.out.1 P4.out))
                    obtain ⟨d3, hd3⟩ : ∃ d3, (Sort.partialInsertionSort lt d2 x y).1 = d3 := ⟨_, rfl⟩
                    obtain ⟨r, hr⟩ : ∃ r, (Sort.partialInsertionSort lt d2 x y).2 = r := ⟨_, rfl⟩
                    rw [hd3, hr] at C5 F5
                    clear hd3 hr
                    go_wp2_with fail
                    refine C5.out.mono ?_
                    rintro e w6 ⟨rfl, hr6, hO6⟩
                    have R6 := Lib.hid hr6
                    have O6 := Lib.hid (O4.out.trans hO6 (fun z hz => .inl hz))
                    clear hr6 hO6
                    cases r
                    · go_wp2_with fail
                      go_meet
                      case rel => exact ⟨d3, R6.out, permIn_trans _ _ _ _ _ P4.out F5.out.1, O6.out⟩
                    · go_wp2_with fail
                      first | go_end0 | refine bodyPost_ret (results_none rfl _ _ _) rfl ?_
                      have hJ := HF.out _ (permIn_trans _ _ _ _ _ P4.out F5.out.1) (F5.out.2 trivial)
                      exact ⟨rfl, d3, R6.out, hJ.1, hJ.2, O6.out⟩
                case rest =>
                  clear R4 O4
                  obtain ⟨d3, hr6, hp6, hO6⟩ := hcut
                  rename World => w6
                  have S6 : Hid (d3.size = n) := hp6.1.trans HS.out
                  have R6 := Lib.hid hr6
                  have P6 := Lib.hid hp6
                  have O6 := Lib.hid hO6
                  have B6 : Hid (Sort.Below lt x y d3) := HB.out.perm hyS.out.1 hp6
                  have F6 : Hid (∀ R, PermIn x y d3 R → SortedIn lt x y R → PermIn a b d R ∧ SortedIn lt a b R) := fun R h1 h2 => HF.out R (permIn_trans _ _ _ _ _ P6.out h1) h2
                  clear hr6 hp6 hO6 HF HB P4 P2
                  obtain ⟨G, hG⟩ : ∃ G : Nat → Int, ∀ t, G t = d3[t]! := ⟨fun t => d3[t]!, fun _ => rfl⟩
                  have hcw : ∀ t, t < n → w6.cell? ⟨g, t, none⟩ = some (.int kq (G t)) := fun t ht => by rw [hG]; exact R6.out.cell t (by rw [S6.out]; exact ht)
                  have HG := Lib.hid hG
                  clear hG
                  have hpn : p2 < n := by omega
                  have hpni : (p2 : Int) < n := by omega
                  go_upto_region 17 with fail
                  go_cut [87] from 19 to 133 (fun s87 wx => ∃ q2 : Bool, s87 = .bool q2 ∧ SR wx g d3 rest ∧ Only [g] w wx ∧ (q2 = true → 0 < x ∧ lt d3[x - 1]! d3[p2]! = false))
                  case first =>
                    by_cases hx0 : 0 < x
                    · obtain ⟨xm, hxm⟩ : ∃ xm, x - 1 = xm := ⟨_, rfl⟩
                      have HXM := Lib.hid hxm
                      have ew : IntKind.i64.wrap ((x : Int) - 1) = (xm : Int) := by rw [IntKind.wrap_i64]; omega
                      have hxn : xm < n := by omega
                      have hxni : (xm : Int) < n := by omega
                      clear hxm
                      go_wp2_with fail
                      go_quiet (first | (go_at_call 87; refine Calls.quiet_of_same (less_any _ _ _)))
                      go_wp2_with fail
                      go_meet
                      case rel => exact ⟨_, rfl, R6.out.past ((Only.refl _ _).drewN _), O6.out.drewN _, fun h => ⟨hx0, by rw [HXM.out, ← HG.out, ← HG.out]; simpa using h⟩⟩
                    · obtain rfl : x = 0 := by omega
                      go_wp2_with fail
                      go_quiet (first | (go_at_call 87; refine Calls.quiet_of_same (less_any _ _ _)))
                      go_wp2_with fail
                      go_meet
                      case rel => exact ⟨_, rfl, R6.out.past ((Only.refl _ _).drewN _), O6.out.drewN _, fun h => by cases h⟩
                  case rest =>
                    clear R6 O6 hcw HG
                    obtain ⟨q2, rfl, hr7, hO7, hq2⟩ := hcut
                    rename World => w7
                    have R7 := Lib.hid hr7
                    have O7 := Lib.hid hO7
                    have Q2 := Lib.hid hq2
                    clear hr7 hO7 hq2
                    cases q2
                    · have C8 := Lib.hid (part_any g cap x y p2 d3 rest w7 R7.out hxp hpy (by rw [S6.out]; exact hyn) (by rw [S6.out]; omega))
                      rw [S6.out] at C8
                      obtain ⟨mid, ap0, d4, hpart⟩ : ∃ mid ap0 d4, Sort.partition lt d3 x y p2 = (mid, ap0, d4) := ⟨_, _, _, rfl⟩
                      have RP := Lib.hid (round_part (lt := lt) swo_ltInt (partition_holds _) hxp hpy (by rw [S6.out]; exact hyn) B6.out hpart)
                      rw [hpart] at C8
                      clear hpart
                      go_wp2_with fail
                      refine C8.out.mono ?_
                      rintro e w8 ⟨mid2, ap, rfl, hmid, hr8, hO8⟩
                      obtain rfl : mid2 = mid := hmid
                      have R8 := Lib.hid hr8
                      have O8 := Lib.hid (O7.out.trans hO8 (fun z hz => .inl hz))
                      have S8 : Hid (d4.size = n) := RP.out.2.2.1.trans S6.out
                      have hxm : x ≤ mid2 := RP.out.1
                      have hmy : mid2 < y := RP.out.2.1
                      clear hr8 hO8
                      obtain ⟨ll, hll⟩ : ∃ ll, mid2 - x = ll := ⟨_, rfl⟩
                      obtain ⟨rl, hrl⟩ : ∃ rl, y - mid2 = rl := ⟨_, rfl⟩
                      obtain ⟨t8, ht8⟩ : ∃ t8, len / 8 = t8 := ⟨_, rfl⟩
                      obtain ⟨mp, hmp⟩ : ∃ mp, mid2 + 1 = mp := ⟨_, rfl⟩
                      have ell : (mid2 : Int) - x = (ll : Int) := by omega
                      have erl : (y : Int) - mid2 = (rl : Int) := by omega
                      have et8 : (len : Int).tdiv 8 = (t8 : Int) := by rw [Int.tdiv_eq_ediv_of_nonneg (by omega)]; omega
                      have emp : (mid2 : Int) + 1 = (mp : Int) := by omega
                      have HQ := Lib.hid (And.intro hll (And.intro hrl hmp))
                      clear hll hrl ht8 hmp
                      by_cases hlr : ll < rl
                      · have hlri : (ll : Int) < rl := by omega
                        have C9 := Lib.hid (IH.out (mid2 - x) (by omega) x mid2 l2 d4 w8 (Nat.le_refl _) R8.out S8.out hxm (by omega) hl2 RP.out.2.2.2.1)
                        go_wp2_with fail
                        refine C9.out.mono ?_
                        rintro e w9 ⟨rfl, d5, hr9, hp9, hs9, hO9⟩
                        have R9 := Lib.hid hr9
                        have O9 := Lib.hid (O8.out.trans hO9 (fun z hz => .inl hz))
                        have L9 := Lib.hid (RP.out.2.2.2.2.2.1 d5 hp9 hs9)
                        have S9 : Hid (d5.size = n) := hp9.1.trans S8.out
                        clear hr9 hp9 hs9 hO9
                        go_wp2_with fail
                        go_roundg (y - mp)
                        case measure => have := HGK.out; have := HQ.out; omega
                        case rel =>
                          have hmp := HQ.out.2.2
                          exact ⟨mp, y, l2, _, ap, d5, rfl, rfl, rfl, rfl, rfl, rfl, by omega, hyn, by omega, hl2, S9.out, by rw [← hmp]; exact L9.out.1, R9.out, O9.out, fun R hR hs => by
                            have := L9.out.2 R (by rw [hmp]; exact hR) (by rw [hmp]; exact hs)
                            exact F6.out R this.1 this.2⟩
                      · have hlri : ¬ (ll : Int) < rl := by omega
                        have C9 := Lib.hid (IH.out (y - mp) (by have := HQ.out; omega) mp y l2 d4 w8 (Nat.le_refl _) R8.out S8.out (by have := HQ.out; omega) hyn hl2 (by have h := RP.out.2.2.2.2.1; rw [HQ.out.2.2] at h; exact h))
                        go_wp2_with fail
                        refine C9.out.mono ?_
                        rintro e w9 ⟨rfl, d5, hr9, hp9, hs9, hO9⟩
                        have R9 := Lib.hid hr9
                        have O9 := Lib.hid (O8.out.trans hO9 (fun z hz => .inl hz))
                        have L9 := Lib.hid (RP.out.2.2.2.2.2.2 d5 (by rw [HQ.out.2.2]; exact hp9) (by rw [HQ.out.2.2]; exact hs9))
                        have S9 : Hid (d5.size = n) := hp9.1.trans S8.out
                        clear hr9 hp9 hs9 hO9
                        go_wp2_with fail
                        go_roundg (mid2 - x)
                        case measure => have := HGK.out; omega
                        case rel =>
                          exact ⟨x, mid2, l2, _, ap, d5, rfl, rfl, rfl, rfl, rfl, rfl, hxm, by omega, by omega, hl2, S9.out, L9.out.1, R9.out, O9.out, fun R hR hs => by
                            have := L9.out.2 R hR hs
                            exact F6.out R this.1 this.2⟩
                    · have C8 := Lib.hid (peq_any g cap x y p2 d3 rest w7 R7.out hxp hpy (by rw [S6.out]; exact hyn) (by rw [S6.out]; omega))
                      rw [S6.out] at C8
                      obtain ⟨mid, d4, hpart⟩ : ∃ mid d4, Sort.partitionEqual lt d3 x y p2 = (mid, d4) := ⟨_, _, rfl⟩
                      have RP := Lib.hid (round_eq (lt := lt) swo_ltInt (partitionEqual_holds _) (Q2.out rfl).1 hxp hpy (by rw [S6.out]; exact hyn) B6.out (Q2.out rfl).2 hpart)
                      rw [hpart] at C8
                      clear hpart
                      go_wp2_with fail
                      refine C8.out.mono ?_
                      rintro e w8 ⟨mid2, rfl, hmid, hr8, hO8⟩
                      obtain rfl : mid2 = mid := hmid
                      have R8 := Lib.hid hr8
                      have O8 := Lib.hid (O7.out.trans hO8 (fun z hz => .inl hz))
                      clear hr8 hO8
                      go_wp2_with fail
                      go_roundg (y - mid2)
                      case measure => have := HGK.out; have := RP.out.1; have := RP.out.2.1; omega
                      case rel =>
                        obtain ⟨h1, h2, h3, h4, h5⟩ := RP.out
                        exact ⟨mid2, y, l2, wb, wp, d4, rfl, rfl, rfl, rfl, rfl, rfl, h2, hyn, by omega, hl2, h3.trans S6.out, h4, R8.out, O8.out, fun R hR hs => by
                          have := h5 R hR hs
                          exact F6.out R this.1 this.2⟩
theorem ins_none (w : World) : Calls Tryz.prog 81 #[.slice none 0 0, .int .i64 0, .int .i64 0] w fun e w' => e = .returned (.tuple #[]) ∧ Only [] w w' := by
  go_enter Tryz.func81, Tryz.ntmps81
  go_wp2_with fail
  go_loopg [6] 0 (fun gk vi wr => vi = .int .i64 1 ∧ wr = w)
  case atStart => exact ⟨rfl, rfl⟩
  case round =>
    obtain ⟨rfl, rfl⟩ := hrel
    go_wp2_with fail
    go_end0
    exact ⟨rfl, Only.refl _ _⟩
set_option maxRecDepth 1000000 in
theorem pdq_none (l : Int) (w : World) : Calls Tryz.prog 64 #[.slice none 0 0, .int .i64 0, .int .i64 0, .int .i64 l] w fun e w' => e = .returned (.tuple #[]) ∧ Only [] w w' := by
  have I := Lib.hid (fun w => ins_none w)
  go_enter Tryz.func64, Tryz.ntmps64
  go_wp2_with fail
  go_loopg [1, 2] 0 (fun gk v1 v2 wr => v1 = .int .i64 0 ∧ v2 = .int .i64 0 ∧ wr = w)
  case atStart => exact ⟨rfl, rfl, rfl⟩
  case round =>
    obtain ⟨rfl, rfl, rfl⟩ := hrel
    go_wp2_with fail
    refine (I.out _).mono ?_
    rintro e w2 ⟨rfl, hO⟩
    go_wp2_with fail
    first | go_end0 | refine bodyPost_ret (results_none rfl _ _ _) rfl ?_
    exact ⟨rfl, hO⟩
theorem sort_none (w : World) : Calls Tryz.prog 38 #[.slice none 0 0] w fun e w' => e = .returned (.tuple #[]) ∧ Only [] w w' := by
  have L := Lib.hid (fun w => len_any 0 w (by omega))
  have P := Lib.hid (fun l w => pdq_none l w)
  go_enter Tryz.func38, Tryz.ntmps38
  go_wp2_with (first | (go_at_call 65; refine (L.out _).mono ?_; rintro e w' ⟨rfl, rfl⟩) | (go_at_call 64; refine (P.out _ _).mono ?_; rintro e w' ⟨rfl, hO⟩))
  go_end0
  exact ⟨rfl, hO⟩
theorem rising_of {l : List Int} {d' : Array Int} (hp : PermIn 0 l.toArray.size l.toArray d') (hs : SortedIn lt 0 l.toArray.size d') : d'.toList = rising l := by
  have h := sorted_unique_holds (lt := lt) swo_ltInt (fun x y h1 h2 => by simp only [ltInt, decide_eq_false_iff_not] at h1 h2; omega) l.toArray d' hp hs
  rw [h]
  unfold rising
  congr 1
  funext x y
  by_cases h : y < x
  · simp [ltInt, h] <;> omega
  · simp [ltInt, h] <;> omega
set_option maxHeartbeats 1000000 in
theorem sort_any (g n cap : Nat) (l : List Int) (w : World) (hl : l.length = n) (hn : n ≤ 524287) (h : w.ownsRow 0 3 1 (.slice (some ⟨g, 0, none⟩) n cap) n (l.map (Value.int kq))) :
    Calls Tryz.prog 38 #[.slice (some ⟨g, 0, none⟩) n cap] w (Sorts w g n cap l) := by
  obtain ⟨cur, hb, hc, ht, hnc⟩ := owns_blk h
  have hcm : cap ≤ maxLen := by
    rcases h.2 with ⟨h0, _⟩ | ⟨_, _, _, hv, _, _, _, h4, _⟩
    · cases h0
    · simp only [Value.slice.injEq] at hv
      rw [hv.2.2]; exact h4
  rw [Nat.mul_one] at ht hc
  have hsr : SR w g l.toArray (cur.drop n) := by
    refine Blk.to hb ?_
    rw [← ht, List.take_append_drop]
  have LEN := Lib.hid (fun w => len_any n w (by omega))
  have hl20 : Lib.bitLen n ≤ 64 := by have := bitLen_le20 n (by omega); omega
  have P : Hid (Calls Tryz.prog 64 #[.slice (some ⟨g, 0, none⟩) n cap, .int .i64 0, .int .i64 n, .int .i64 (Lib.bitLen n)] w (Sorted1 w g 0 n l.toArray (cur.drop n))) :=
    pdq_any g cap n (cur.drop n) hn n 0 n (Lib.bitLen n) l.toArray w (by omega) hsr (by simpa using hl) (Nat.zero_le _) (Nat.le_refl _) hl20 (.inl rfl)
  have FIN : Hid (∀ w', (∃ d', SR w' g d' (cur.drop n) ∧ PermIn 0 n l.toArray d' ∧ SortedIn lt 0 n d' ∧ Only [g] w w') → Sorts w g n cap l (.returned (.tuple #[])) w') := by
    rintro w' ⟨d', hr, hp, hs, hO⟩
    have hsz : l.toArray.size = n := by simpa using hl
    rw [← hsz] at hp hs
    have e := rising_of hp hs
    have hrl : (rising l).length = n := by rw [rising_len, hl]
    refine ⟨rfl, ⟨by simp [hrl], .inr ⟨g, cap, ((rising l).map (Value.int kq) ++ cur.drop n).toArray, rfl, Nat.zero_le _, ?_, hnc, hcm, ?_, ?_⟩⟩, hO⟩
    · have := hr
      unfold SR Blk at this
      rw [e] at this
      exact this
    · simp [hrl]; omega
    · simp only [Nat.mul_one]
      rw [List.take_append_of_le_length (by simp [hrl]), List.take_of_length_le (by simp [hrl])]
  clear h hb hc ht hsr hl20 hl
  have hn64 : (n : Int) ≤ 524287 := by omega
  go_enter Tryz.func38, Tryz.ntmps38
  go_wp2_with (first | (go_at_call 65; refine (LEN.out _).mono ?_; rintro e w' ⟨rfl, rfl⟩) | (go_at_call 64; refine P.out.mono ?_; rintro e w' ⟨rfl, hR⟩))
  go_end0
  exact FIN.out _ hR
end Go.Proofs.YtfkmjbpnjgnkbaaGreat.I
