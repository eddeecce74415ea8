/-
  slices.Sort's family at ints of one kind: the heap sort, by contracts.
-/
import Derived.Test.YtilkbcoofbkemaaSortA
namespace Go.Proofs.Ytilkbcoofbkemaa.I
set_option linter.unusedSimpArgs false
open Go Go.RowKit Go.Sort
set_option linter.unusedVariables false

theorem sift_stop (hi first root : Nat) (d : Array Int) (h : 2 * root + 1 ≥ hi) : Sort.siftDown lt hi first root d = d := by
  rw [Sort.siftDown, dif_pos h]
theorem sift_one (hi first root c : Nat) (d : Array Int) (hc : 2 * root + 1 = c) (h : c < hi) (h2 : hi ≤ c + 1 ∨ lt d[first + c]! d[first + (c + 1)]! = false) :
    Sort.siftDown lt hi first root d = if lt d[first + root]! d[first + c]! = true then Sort.siftDown lt hi first c (swp d (first + root) (first + c)) else d := by
  subst hc
  rw [Sort.siftDown, dif_neg (by omega)]
  have hg : (decide (2 * root + 1 + 1 < hi) && lt d[first + (2 * root + 1)]! d[first + (2 * root + 1) + 1]!) = false := by
    rcases h2 with h2 | h2
    · rw [decide_eq_false (by omega)]; rfl
    · rw [show first + (2 * root + 1) + 1 = first + (2 * root + 1 + 1) by omega, h2, Bool.and_false]
  rw [hg]
  cases hq : lt d[first + root]! d[first + (2 * root + 1)]! <;> simp
theorem sift_two (hi first root c : Nat) (d : Array Int) (hc : 2 * root + 2 = c) (h : c < hi) (h2 : lt d[first + (2 * root + 1)]! d[first + c]! = true) :
    Sort.siftDown lt hi first root d = if lt d[first + root]! d[first + c]! = true then Sort.siftDown lt hi first c (swp d (first + root) (first + c)) else d := by
  subst hc
  rw [Sort.siftDown, dif_neg (by omega)]
  have hg : (decide (2 * root + 1 + 1 < hi) && lt d[first + (2 * root + 1)]! d[first + (2 * root + 1) + 1]!) = true := by
    rw [decide_eq_true (by omega), show first + (2 * root + 1) + 1 = first + (2 * root + 2) by omega, h2]; rfl
  rw [hg, if_pos rfl]
  cases hq : lt d[first + root]! d[first + (2 * root + 2)]! with
  | false => simp
  | true => rw [if_neg (by simp), dif_pos h, if_pos rfl]
set_option maxHeartbeats 4000000 in
set_option maxRecDepth 1000000 in
theorem sift_any (g cap lo hi first : Nat) (d : Array Int) (rest : List Value) (w : World) (h : SR w g d rest) (hlo : lo ≤ hi) (hb : first + hi ≤ d.size) (hsz : d.size ≤ 1000000) :
    Calls Try.prog 58 #[.slice (some ⟨g, 0, none⟩) d.size cap, .int .i64 lo, .int .i64 hi, .int .i64 first] w fun e w' => e = .returned (.tuple #[]) ∧ SR w' g (Sort.siftDown lt hi first lo d) rest ∧ Only [g] w w' := by
  have H0 := Lib.hid h
  obtain ⟨n, hn⟩ : ∃ n, d.size = n := ⟨_, rfl⟩
  have HN := Lib.hid hn
  rw [hn] at hb hsz ⊢
  clear h hn
  go_enter Try.func58, Try.ntmps58
  go_wp2_with fail
  go_loopg [8] (hi + 1 - lo) (fun gk v8 wr => ∃ (root : Nat) (dk : Array Int), gk = hi + 1 - root ∧ v8 = .int .i64 root ∧ root ≤ hi ∧ dk.size = n ∧ SR wr g dk rest ∧ Only [g] w wr ∧ Sort.siftDown lt hi first root dk = Sort.siftDown lt hi first lo d)
  case atStart => exact ⟨lo, d, rfl, rfl, hlo, HN.out, H0.out, Only.refl _ _, rfl⟩
  case round =>
    obtain ⟨root, dk, hgk, rfl, hroot, hsk, hr, hO, hI⟩ := hrel
    rename World => w1
    have HGK := Lib.hid hgk
    have HR := Lib.hid hr
    have HO := Lib.hid hO
    have HI := Lib.hid hI
    have HS := Lib.hid hsk
    clear hgk hr hO hI hsk
    obtain ⟨c, hc⟩ : ∃ c, 2 * root + 1 = c := ⟨_, rfl⟩
    have HC := Lib.hid hc
    have ec : IntKind.i64.wrap (2 * (root : Int) + 1) = (c : Int) := by rw [IntKind.wrap_i64]; omega
    by_cases hch : c < hi
    · have hch1 : ¬ ((hi : Int) ≤ c) := by omega
      obtain ⟨G, hG⟩ : ∃ G : Nat → Int, ∀ t, G t = dk[t]! := ⟨fun t => dk[t]!, fun _ => rfl⟩
      have hcw : ∀ t, t < n → w1.cell? ⟨g, t, none⟩ = some (.int kq (G t)) := fun t ht => by rw [hG]; exact HR.out.cell t (by rw [HS.out]; exact ht)
      have hfw : ∀ t, t < n → w1.frozen? ⟨g, t, none⟩ = false := fun t ht => HR.out.frozen t
      have HG := Lib.hid hG
      obtain ⟨c1, hc1⟩ : ∃ c1, c + 1 = c1 := ⟨_, rfl⟩
      obtain ⟨p, hp⟩ : ∃ p, first + root = p := ⟨_, rfl⟩
      obtain ⟨p0, hp0⟩ : ∃ p0, first + c = p0 := ⟨_, rfl⟩
      obtain ⟨p1, hp1⟩ : ∃ p1, first + c1 = p1 := ⟨_, rfl⟩
      have ec1 : (c : Int) + 1 = (c1 : Int) := by omega
      have ep : (first : Int) + root = (p : Int) := by omega
      have ep0 : (first : Int) + c = (p0 : Int) := by omega
      have ep1 : (first : Int) + c1 = (p1 : Int) := by omega
      have ep2 : (p0 : Int) + 1 = (p1 : Int) := by omega
      have hp3 : p < n := by omega
      have hp4 : p0 < n := by omega
      have hp3i : (p : Int) < n := by omega
      have hp4i : (p0 : Int) < n := by omega
      have hpne : p ≠ p0 := by omega
      have hpne1 : p ≠ p1 := by omega
      have HP := Lib.hid (And.intro hp (And.intro hp0 (And.intro hp1 hc1)))
      clear hG hp hp0 hp1 hc1 hc
      by_cases hch2 : c1 < hi
      · have hch2i : (c1 : Int) < hi := by omega
        have hp5 : p1 < n := by have := HP.out; omega
        have hp5i : (p1 : Int) < n := by omega
        obtain ⟨q0, hq0⟩ : ∃ q0, lt (G p0) (G p1) = q0 := ⟨_, rfl⟩
        have HQ0 : Hid (lt dk[p0]! dk[p1]! = q0) := by show _ = _; rw [← HG.out, ← HG.out]; exact hq0
        go_wp2_with fail
        go_quiet (first | (go_at_call 53; refine Calls.quiet_of_same (less_any _ _ _)))
        rw [hq0]
        clear hq0
        have R2 : Hid (SR (w1.drewN nq) g dk rest) := HR.out.past ((Only.refl _ _).drewN _)
        have O2 : Hid (Only [g] w (w1.drewN nq)) := HO.out.drewN _
        clear hcw hfw
        generalize w1.drewN nq = w2 at *
        have hcw : ∀ t, t < n → w2.cell? ⟨g, t, none⟩ = some (.int kq (G t)) := fun t ht => by rw [HG.out]; exact R2.out.cell t (by rw [HS.out]; exact ht)
        have hfw : ∀ t, t < n → w2.frozen? ⟨g, t, none⟩ = false := fun t ht => R2.out.frozen t
        cases q0
        · have STEP : Hid (Sort.siftDown lt hi first root dk = if lt dk[p]! dk[p0]! = true then Sort.siftDown lt hi first c (swp dk p p0) else dk) := by
            obtain ⟨h1, h2, h3, h4⟩ := HP.out
            have := sift_one hi first root c dk HC.out hch (.inr (by rw [h2, h4, h3]; exact HQ0.out))
            rw [h1, h2] at this
            exact this
          go_wp2_with fail
          go_quiet (first | (go_at_call 53; refine Calls.quiet_of_same (less_any _ _ _)))
          obtain ⟨q, hq⟩ : ∃ q, lt (G p) (G p0) = q := ⟨_, rfl⟩
          have HQ : Hid (lt dk[p]! dk[p0]! = q) := by show _ = _; rw [← HG.out, ← HG.out]; exact hq
          rw [hq]
          clear hq
          cases q
          · go_wp2_with fail
            first | go_end0 | refine bodyPost_ret (results_none rfl _ _ _) rfl ?_
            refine ⟨rfl, (R2.out.past ((Only.refl _ _).drewN _)).to ?_, O2.out.drewN _⟩
            rw [← HI.out, STEP.out, if_neg (by rw [HQ.out]; simp)]
          · go_wp2_with fail
            go_region
            all_goals go_wp2_with fail
            go_roundg (hi + 1 - c)
            case measure => have := HGK.out; have := HC.out; have := HP.out; omega
            case rel =>
              refine ⟨c, swp dk p p0, rfl, rfl, by have := HP.out; omega, by rw [size_swp]; exact HS.out, ?_, only_swap (O2.out.drewN _) _ _ _ _, by rw [← HI.out, STEP.out, if_pos HQ.out]⟩
              rw [HG.out, HG.out]
              exact (R2.out.past ((Only.refl _ _).drewN _)).swap p p0 (by rw [HS.out]; omega) (by rw [HS.out]; omega)
        · have STEP : Hid (Sort.siftDown lt hi first root dk = if lt dk[p]! dk[p1]! = true then Sort.siftDown lt hi first c1 (swp dk p p1) else dk) := by
            obtain ⟨h1, h2, h3, h4⟩ := HP.out
            have h5 := HC.out
            have := sift_two hi first root c1 dk (by omega) hch2 (by rw [h5, h2, h3]; exact HQ0.out)
            rw [h1, h3] at this
            exact this
          go_wp2_with fail
          go_quiet (first | (go_at_call 53; refine Calls.quiet_of_same (less_any _ _ _)))
          obtain ⟨q, hq⟩ : ∃ q, lt (G p) (G p1) = q := ⟨_, rfl⟩
          have HQ : Hid (lt dk[p]! dk[p1]! = q) := by show _ = _; rw [← HG.out, ← HG.out]; exact hq
          rw [hq]
          clear hq
          cases q
          · go_wp2_with fail
            first | go_end0 | refine bodyPost_ret (results_none rfl _ _ _) rfl ?_
            refine ⟨rfl, (R2.out.past ((Only.refl _ _).drewN _)).to ?_, O2.out.drewN _⟩
            rw [← HI.out, STEP.out, if_neg (by rw [HQ.out]; simp)]
          · go_wp2_with fail
            go_region
            all_goals go_wp2_with fail
            go_roundg (hi + 1 - c1)
            case measure => have := HGK.out; have := HC.out; have := HP.out; omega
            case rel =>
              refine ⟨c1, swp dk p p1, rfl, rfl, by have := HP.out; omega, by rw [size_swp]; exact HS.out, ?_, only_swap (O2.out.drewN _) _ _ _ _, by rw [← HI.out, STEP.out, if_pos HQ.out]⟩
              rw [HG.out, HG.out]
              exact (R2.out.past ((Only.refl _ _).drewN _)).swap p p1 (by rw [HS.out]; omega) (by rw [HS.out]; omega)
      · have hch2i : decide ((c1 : Int) < hi) = false := by rw [decide_eq_false_iff_not]; omega
        have STEP : Hid (Sort.siftDown lt hi first root dk = if lt dk[p]! dk[p0]! = true then Sort.siftDown lt hi first c (swp dk p p0) else dk) := by
          obtain ⟨h1, h2, h3, h4⟩ := HP.out
          have := sift_one hi first root c dk HC.out hch (.inl (by omega))
          rw [h1, h2] at this
          exact this
        go_wp2_with fail
        go_quiet (first | (go_at_call 53; refine Calls.quiet_of_same (less_any _ _ _)))
        have R2 : Hid (SR (w1.drewN nq) g dk rest) := HR.out.past ((Only.refl _ _).drewN _)
        have O2 : Hid (Only [g] w (w1.drewN nq)) := HO.out.drewN _
        clear hcw hfw
        generalize w1.drewN nq = w2 at *
        have hcw : ∀ t, t < n → w2.cell? ⟨g, t, none⟩ = some (.int kq (G t)) := fun t ht => by rw [HG.out]; exact R2.out.cell t (by rw [HS.out]; exact ht)
        have hfw : ∀ t, t < n → w2.frozen? ⟨g, t, none⟩ = false := fun t ht => R2.out.frozen t
        go_wp2_with fail
        go_quiet (first | (go_at_call 53; refine Calls.quiet_of_same (less_any _ _ _)))
        obtain ⟨q, hq⟩ : ∃ q, lt (G p) (G p0) = q := ⟨_, rfl⟩
        have HQ : Hid (lt dk[p]! dk[p0]! = q) := by show _ = _; rw [← HG.out, ← HG.out]; exact hq
        rw [hq]
        clear hq
        cases q
        · go_wp2_with fail
          first | go_end0 | refine bodyPost_ret (results_none rfl _ _ _) rfl ?_
          refine ⟨rfl, (R2.out.past ((Only.refl _ _).drewN _)).to ?_, O2.out.drewN _⟩
          rw [← HI.out, STEP.out, if_neg (by rw [HQ.out]; simp)]
        · go_wp2_with fail
          go_region
          all_goals go_wp2_with fail
          go_roundg (hi + 1 - c)
          case measure => have := HGK.out; have := HC.out; have := HP.out; omega
          case rel =>
            refine ⟨c, swp dk p p0, rfl, rfl, by have := HP.out; omega, by rw [size_swp]; exact HS.out, ?_, only_swap (O2.out.drewN _) _ _ _ _, by rw [← HI.out, STEP.out, if_pos HQ.out]⟩
            rw [HG.out, HG.out]
            exact (R2.out.past ((Only.refl _ _).drewN _)).swap p p0 (by rw [HS.out]; omega) (by rw [HS.out]; omega)
    · have hch1 : ((hi : Int) ≤ c) := by omega
      go_wp2_with fail
      first | go_end0 | refine bodyPost_ret (results_none rfl _ _ _) rfl ?_
      refine ⟨rfl, HR.out.to ?_, HO.out⟩
      rw [← HI.out, sift_stop _ _ _ _ (by have := HC.out; omega)]
theorem size_sift (hi first : Nat) : ∀ (n root : Nat) (d : Array Int), hi - root ≤ n → (Sort.siftDown lt hi first root d).size = d.size
  | 0, root, d, h => by rw [sift_stop _ _ _ _ (by omega)]
  | n + 1, root, d, h => by
    by_cases hs : 2 * root + 1 ≥ hi
    · rw [sift_stop _ _ _ _ hs]
    · have e : ∃ c, root < c ∧ Sort.siftDown lt hi first root d = if lt d[first + root]! d[first + c]! = true then Sort.siftDown lt hi first c (swp d (first + root) (first + c)) else d := by
        by_cases h2 : 2 * root + 2 < hi ∧ lt d[first + (2 * root + 1)]! d[first + (2 * root + 2)]! = true
        · exact ⟨2 * root + 2, by omega, sift_two hi first root _ d rfl h2.1 h2.2⟩
        · refine ⟨2 * root + 1, by omega, sift_one hi first root _ d rfl (by omega) ?_⟩
          by_cases h3 : hi ≤ 2 * root + 1 + 1
          · exact .inl h3
          · exact .inr (by have : ¬ lt d[first + (2 * root + 1)]! d[first + (2 * root + 2)]! = true := fun h => h2 ⟨by omega, h⟩; simpa using this)
      obtain ⟨c, hc, e⟩ := e
      rw [e]
      split
      · rw [size_sift hi first n c _ (by omega), size_swp]
      · rfl
set_option maxHeartbeats 4000000 in
set_option maxRecDepth 1000000 in
theorem heap_any (g cap a b : Nat) (d : Array Int) (rest : List Value) (w : World) (h : SR w g d rest) (hab : a ≤ b) (hb : b ≤ d.size) (hsz : d.size ≤ 1000000) :
    Calls Try.prog 48 #[.slice (some ⟨g, 0, none⟩) d.size cap, .int .i64 a, .int .i64 b] w fun e w' => e = .returned (.tuple #[]) ∧ SR w' g (Sort.heapSort lt d a b) rest ∧ Only [g] w w' := by
  have H0 := Lib.hid h
  obtain ⟨n, hn⟩ : ∃ n, d.size = n := ⟨_, rfl⟩
  have HN := Lib.hid hn
  rw [hn] at hb hsz ⊢
  obtain ⟨hi, hhi⟩ : ∃ hi, b - a = hi := ⟨_, rfl⟩
  have ehi : (b : Int) - a = (hi : Int) := by omega
  have HHI := Lib.hid hhi
  obtain ⟨k0, hk0⟩ : ∃ k0, (hi - 1) / 2 = k0 := ⟨_, rfl⟩
  have ek0 : ((hi : Int) - 1).tdiv 2 = (k0 : Int) := by
    rcases Nat.eq_zero_or_pos hi with h0 | h0
    · subst h0; rw [← hk0]; decide
    · rw [Int.tdiv_eq_ediv_of_nonneg (by omega)]; omega
  have hk1 : k0 ≤ hi := by omega
  have HK0 := Lib.hid hk0
  have hhn : a + hi ≤ n := by omega
  clear h hn hhi hk0
  go_enter Try.func48, Try.ntmps48
  go_wp2_with fail
  go_loopg [9] (k0 + 1) (fun gk v9 wr => ∃ (k : Nat) (z : Int) (dk : Array Int), gk = k ∧ v9 = .int .i64 z ∧ z = (k : Int) - 1 ∧ k ≤ hi + 1 ∧ dk.size = n ∧ SR wr g dk rest ∧ Only [g] w wr ∧ Sort.heapBuild lt hi a k dk = Sort.heapBuild lt hi a (k0 + 1) d)
  case atStart => exact ⟨k0 + 1, k0, d, rfl, rfl, by omega, by omega, HN.out, H0.out, Only.refl _ _, rfl⟩
  case round =>
    obtain ⟨k, z, dk, hgk, rfl, hz, hkh, hsk, hr, hO, hI⟩ := hrel
    rename World => w1
    have HGK := Lib.hid hgk
    have HR := Lib.hid hr
    have HO := Lib.hid hO
    have HI := Lib.hid hI
    have HS := Lib.hid hsk
    clear hgk hr hO hI hsk
    cases k with
    | succ m =>
      obtain rfl : z = (m : Int) := by omega
      have hm0 : (0 : Int) ≤ m := by omega
      have SC := Lib.hid (sift_any g cap m hi a dk rest w1 HR.out (by omega) (by rw [HS.out]; omega) (by rw [HS.out]; omega))
      rw [HS.out] at SC
      clear hz
      go_wp2_with (go_at_call 58; refine SC.out.mono ?_; rintro e w2 ⟨rfl, hr2, hO2⟩)
      go_roundg m
      case measure => have := HGK.out; omega
      case rel => exact ⟨m, (m : Int) - 1, _, rfl, by go_num, rfl, by omega, by rw [size_sift _ _ _ _ _ (Nat.le_refl _)]; exact HS.out, hr2, HO.out.trans hO2 (fun x hx => .inl hx), HI.out⟩
    | zero =>
      obtain rfl : z = -1 := by omega
      have HB : Hid (dk = Sort.heapBuild lt hi a (k0 + 1) d) := HI.out
      clear hz
      go_wp2_with fail
      obtain ⟨d0, hd0⟩ : ∃ d0, Sort.heapBuild lt hi a (k0 + 1) d = d0 := ⟨_, rfl⟩
      have HD0 := Lib.hid hd0
      rw [hd0] at HB
      clear hd0 HI HGK
      go_loopg [10] hi (fun gk v10 wr => ∃ (k : Nat) (z : Int) (dk : Array Int), gk = k ∧ v10 = .int .i64 z ∧ z = (k : Int) - 1 ∧ k ≤ hi ∧ dk.size = n ∧ SR wr g dk rest ∧ Only [g] w wr ∧ Sort.heapPop lt a k dk = Sort.heapPop lt a hi d0)
      case atStart => exact ⟨hi, _, dk, rfl, rfl, by omega, Nat.le_refl _, HS.out, HR.out, HO.out, by rw [HB.out]⟩
      case round =>
        clear HR HS HO HB
        obtain ⟨k, z, dk, hgk, rfl, hz, hkh, hsk, hr, hO, hI⟩ := hrel
        rename World => w2
        have HGK := Lib.hid hgk
        have HR := Lib.hid hr
        have HO := Lib.hid hO
        have HI := Lib.hid hI
        have HS := Lib.hid hsk
        clear hgk hr hO hI hsk
        cases k with
        | succ m =>
          obtain rfl : z = (m : Int) := by omega
          have hm0 : (0 : Int) ≤ m := by omega
          obtain ⟨G, hG⟩ : ∃ G : Nat → Int, ∀ t, G t = dk[t]! := ⟨fun t => dk[t]!, fun _ => rfl⟩
          have hcw : ∀ t, t < n → w2.cell? ⟨g, t, none⟩ = some (.int kq (G t)) := fun t ht => by rw [hG]; exact HR.out.cell t (by rw [HS.out]; exact ht)
          have hfw : ∀ t, t < n → w2.frozen? ⟨g, t, none⟩ = false := fun t ht => HR.out.frozen t
          have HG := Lib.hid hG
          obtain ⟨p, hp⟩ : ∃ p, a + m = p := ⟨_, rfl⟩
          have ep : (a : Int) + m = (p : Int) := by omega
          have hpn : p < n := by omega
          have hpn1 : (p : Int) < n := by omega
          have han : a < n := by omega
          have han1 : (a : Int) < n := by omega
          have HP := Lib.hid hp
          have R3 : Hid (∀ N, SR (((w2.drewN N).setCell ⟨g, a, none⟩ (.int kq (G p))).setCell ⟨g, p, none⟩ (.int kq (G a))) g (swp dk a p) rest) := fun N => by
            rw [HG.out, HG.out]
            exact (HR.out.past ((Only.refl _ _).drewN _)).swap a p (by rw [HS.out]; omega) (by rw [HS.out]; omega)
          have O3 : Hid (∀ N, Only [g] w (((w2.drewN N).setCell ⟨g, a, none⟩ (.int kq (G p))).setCell ⟨g, p, none⟩ (.int kq (G a)))) := fun N => only_swap (HO.out.drewN _) _ _ _ _
          have SC : Hid (∀ w3, SR w3 g (swp dk a p) rest → Calls Try.prog 58 #[.slice (some ⟨g, 0, none⟩) n cap, .int .i64 0, .int .i64 m, .int .i64 a] w3 fun e w' => e = .returned (.tuple #[]) ∧ SR w' g (Sort.siftDown lt m a 0 (swp dk a p)) rest ∧ Only [g] w3 w') := fun w3 h3 => by
            have := sift_any g cap 0 m a (swp dk a p) rest w3 h3 (by omega) (by rw [size_swp, HS.out]; omega) (by rw [size_swp, HS.out]; omega)
            rw [size_swp, HS.out] at this
            exact this
          clear hz hG hp
          by_cases hm : m = 0
          · have hap : p = a := by have := HP.out; omega
            subst hap
            subst hm
            go_wp2_with fail
            go_region
            all_goals go_wp2_with fail
            refine (SC.out _ (R3.out _)).mono ?_
            rintro e w4 ⟨rfl, hr4, hO4⟩
            have R4 := Lib.hid hr4
            have O4 := Lib.hid ((O3.out _).trans hO4 (fun x hx => .inl hx))
            clear hr4 hO4
            go_wp2_with fail
            go_roundg 0
            case measure => have := HGK.out; omega
            case rel => exact ⟨0, ((0 : Nat) : Int) - 1, _, rfl, by go_num, rfl, by omega, by rw [size_sift _ _ _ _ _ (Nat.le_refl _), size_swp]; exact HS.out, R4.out, O4.out, by rw [← HI.out, Sort.heapPop, Nat.add_zero]; rfl⟩
          · have hap : a ≠ p := by have := HP.out; omega
            go_wp2_with fail
            go_region
            all_goals go_wp2_with fail
            refine (SC.out _ (R3.out _)).mono ?_
            rintro e w4 ⟨rfl, hr4, hO4⟩
            have R4 := Lib.hid hr4
            have O4 := Lib.hid ((O3.out _).trans hO4 (fun x hx => .inl hx))
            clear hr4 hO4
            go_wp2_with fail
            go_roundg m
            case measure => have := HGK.out; omega
            case rel => exact ⟨m, (m : Int) - 1, _, rfl, by go_num, rfl, by omega, by rw [size_sift _ _ _ _ _ (Nat.le_refl _), size_swp]; exact HS.out, R4.out, O4.out, by rw [← HI.out, Sort.heapPop, HP.out]⟩
        | zero =>
          obtain rfl : z = -1 := by omega
          clear hz
          go_wp2_with fail
          go_end0
          refine ⟨rfl, HR.out.to ?_, HO.out⟩
          unfold Sort.heapSort
          rw [HHI.out, HK0.out, HD0.out, ← HI.out]
          rfl
end Go.Proofs.Ytilkbcoofbkemaa.I
