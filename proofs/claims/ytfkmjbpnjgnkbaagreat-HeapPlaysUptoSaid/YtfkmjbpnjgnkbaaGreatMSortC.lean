import Derived.Test.YtfkmjbpnjgnkbaaGreatMIter
import Derived.Test.YtfkmjbpnjgnkbaaGreatMPush
import Derived.Sort.LotA
import Derived.Sort.LotB
import Derived.Sort.WalkA
import Derived.WalkKit
import Derived.BigGuard
import Derived.BigCall
import Derived.CellFam
import Derived.Deep.Draws
import Derived.Deep.QuietTactic
import Derived.BigQuiet
import Derived.Lib.Hide
import Derived.Deep.LoopGhost
/-
  slices.Sort's family at ints of one kind: the row in memory; Less; the insertion sort, by contracts.
-/
namespace Go.Proofs.YtfkmjbpnjgnkbaaGreat.I
set_option linter.unusedSimpArgs false
open Go Go.RowKit Go.Sort
set_option linter.unusedVariables false

abbrev lt : Int → Int → Bool := ltInt
/-- The row in block g reads as d; behind it lies rest. -/
def SR (w : World) (g : Nat) (d : Array Int) (rest : List Value) : Prop := Blk w g (d.toList.map (Value.int kq) ++ rest) 3
section
variable {w w' : World} {g : Nat} {d d' : Array Int} {rest : List Value}
theorem SR.cell (h : SR w g d rest) (i : Nat) (hi : i < d.size) : w.cell? ⟨g, i, none⟩ = some (.int kq d[i]!) := by
  rw [Blk.cell h, List.getElem?_append_left (by simpa using hi), List.getElem?_map]
  simp [hi]
theorem SR.frozen (h : SR w g d rest) (i : Nat) : w.frozen? ⟨g, i, none⟩ = false := Blk.frozen h i
theorem SR.past (h : SR w g d rest) (hO : Only [] w w') : SR w' g d rest := hO.blk h (by simp)
theorem SR.lt (h : SR w g d rest) : g < w.heap.size := Blk.lt h
theorem SR.set (h : SR w g d rest) (i : Nat) (hi : i < d.size) (x : Int) : SR (w.setCell ⟨g, i, none⟩ (.int kq x)) g (d.setIfInBounds i x) rest := by
  unfold SR
  refine Blk.to (Blk.set h i (.int kq x)) ?_
  rw [List.set_append_left _ _ (by simpa using hi), Array.toList_setIfInBounds, List.map_set]
theorem SR.swap (h : SR w g d rest) (i j : Nat) (hi : i < d.size) (hj : j < d.size) :
    SR ((w.setCell ⟨g, i, none⟩ (.int kq d[j]!)).setCell ⟨g, j, none⟩ (.int kq d[i]!)) g (swp d i j) rest :=
  (h.set i hi _).set j (by simpa using hj) _
theorem only_swap (hO : Only [g] w w') (i j : Nat) (x y : Value) : Only [g] w ((w'.setCell ⟨g, i, none⟩ x).setCell ⟨g, j, none⟩ y) :=
  (hO.setCell (.inl (by simp)) _).setCell (.inl (by simp)) _
theorem SR.to (h : SR w g d rest) (e : d = d') : SR w g d' rest := e ▸ h
end
theorem nan_any (x : Int) (w : World) : Calls Tryz.prog 112 #[.int kq x] w fun e w' => e = .returned (.bool false) ∧ w = w' := by
  go_enter Tryz.func112, Tryz.ntmps112
  go_wp2
  go_ret
  exact ⟨by simp, rfl⟩
theorem less_any (x y : Int) (w : World) : Calls Tryz.prog 87 #[.int kq x, .int kq y] w fun e w' => e = .returned (.bool (lt x y)) ∧ w' = w := by
  go_enter Tryz.func87, Tryz.ntmps87
  go_wp2_with (go_at_call 112; refine (nan_any _ _).mono ?_; rintro e w' ⟨rfl, rfl⟩)
  go_ret
  exact ⟨by simp [ltInt], rfl⟩
set_option maxHeartbeats 4000000 in
set_option maxRecDepth 1000000 in
theorem ins_any (g cap a b : Nat) (d : Array Int) (rest : List Value) (w : World) (h : SR w g d rest) (hab : a ≤ b) (hb : b ≤ d.size) (hsz : d.size ≤ 1000000) :
    Calls Tryz.prog 81 #[.slice (some ⟨g, 0, none⟩) d.size cap, .int .i64 a, .int .i64 b] w fun e w' => e = .returned (.tuple #[]) ∧ SR w' g (Sort.insertionSort lt d a b) rest ∧ Only [g] w w' := by
  have H0 := Lib.hid h
  obtain ⟨n, hn⟩ : ∃ n, d.size = n := ⟨_, rfl⟩
  have HN := Lib.hid hn
  rw [hn] at hb hsz ⊢
  clear h hn
  go_enter Tryz.func81, Tryz.ntmps81
  go_wp2_with fail
  go_loopg [6] (b + 1 - (a + 1)) (fun gk vi wr => ∃ (i : Nat) (dk : Array Int), gk = b + 1 - i ∧ vi = .int .i64 i ∧ a < i ∧ i ≤ b + 1 ∧ dk.size = n ∧ SR wr g dk rest ∧ Only [g] w wr ∧ insOuter lt a b i dk = insOuter lt a b (a + 1) d)
  case atStart => exact ⟨a + 1, d, rfl, by go_num, by omega, by omega, HN.out, H0.out, Only.refl _ _, rfl⟩
  case round =>
    obtain ⟨i, dk, hgk, rfl, hai, hib, hsk, hr, hO, hI⟩ := hrel
    rename World => w1
    have HGK := Lib.hid hgk
    have HR := Lib.hid hr
    have HO := Lib.hid hO
    have HI := Lib.hid hI
    have HS := Lib.hid hsk
    clear hgk hr hO hI hsk
    have hi0 : (0 : Int) ≤ i := by omega
    by_cases hlt : i < b
    · have hi1 : (i : Int) < b := by omega
      go_wp2_with fail
      go_loopg [7] i (fun gj vj wr => ∃ (j : Nat) (dj : Array Int), gj = j ∧ vj = .int .i64 j ∧ a ≤ j ∧ j ≤ i ∧ dj.size = n ∧ SR wr g dj rest ∧ Only [g] w wr ∧ insInner lt a j dj = insInner lt a i dk)
      case atStart => exact ⟨i, dk, rfl, rfl, by omega, Nat.le_refl _, HS.out, HR.out, HO.out, rfl⟩
      case round =>
        obtain ⟨j, dj, hgj, rfl, haj, hji, hsj, hrj, hOj, hIj⟩ := hrel
        rename World => w2
        have HGJ := Lib.hid hgj
        have RJ := Lib.hid hrj
        have OJ := Lib.hid hOj
        have IJ := Lib.hid hIj
        have SJ := Lib.hid hsj
        clear hgj hrj hOj hIj hsj
        obtain ⟨G, hG⟩ : ∃ G : Nat → Int, ∀ t, G t = dj[t]! := ⟨fun t => dj[t]!, fun _ => rfl⟩
        have hcw : ∀ t, t < n → w2.cell? ⟨g, t, none⟩ = some (.int kq (G t)) := fun t ht => by rw [hG]; exact RJ.out.cell t (by rw [SJ.out]; exact ht)
        have hfw : ∀ t, t < n → w2.frozen? ⟨g, t, none⟩ = false := fun t ht => RJ.out.frozen t
        have HG := Lib.hid hG
        have OUT : Hid ((j ≤ a ∨ lt dj[j]! dj[j - 1]! = false) → ∃ i' dk', b + 1 - (i + 1) = b + 1 - i' ∧ Value.int .i64 ((i : Int) + 1) = .int .i64 (i' : Nat) ∧ a < i' ∧ i' ≤ b + 1 ∧ dk'.size = n ∧ SR w2 g dk' rest ∧ Only [g] w w2 ∧ insOuter lt a b i' dk' = insOuter lt a b (a + 1) d) := fun hs =>
          ⟨i + 1, dj, rfl, by go_num, by omega, by omega, SJ.out, RJ.out, OJ.out, by rw [← HI.out, insOuter_go _ _ _ _ _ hlt, ← IJ.out, insInner_stop _ _ _ _ hs]⟩
        clear hG
        have hjn : j < n := by omega
        have hjn1 : (j : Int) < n := by omega
        go_wp2_with fail
        by_cases hja : a < j
        · obtain ⟨k, hk⟩ : ∃ k, j - 1 = k := ⟨_, rfl⟩
          have HK := Lib.hid hk
          have ew : IntKind.i64.wrap ((j : Int) - 1) = (k : Int) := by rw [IntKind.wrap_i64]; omega
          have hkn : (k : Int) < n := by omega
          have hkn1 : k < n := by omega
          have hkj : k < j := by omega
          clear hk
          go_quiet (first | (go_at_call 87; refine Calls.quiet_of_same (less_any _ _ _)))
          obtain ⟨q, hq⟩ : ∃ q, lt (G j) (G k) = q := ⟨_, rfl⟩
          have HQ : Hid (lt dj[j]! dj[j - 1]! = q) := by show _ = _; rw [HK.out, ← HG.out, ← HG.out]; exact hq
          rw [hq]
          clear hq
          cases q
          · go_wp2_with fail
            go_roundg (b + 1 - (i + 1))
            case measure => have := HGK.out; omega
            case rel =>
              obtain ⟨i', dk', e1, e2, e3⟩ := OUT.out (.inr HQ.out)
              exact ⟨i', dk', e1, e2, e3.1, e3.2.1, e3.2.2.1, e3.2.2.2.1.past ((Only.refl _ _).drewN _), e3.2.2.2.2.1.drewN _, e3.2.2.2.2.2⟩
          · go_wp2_with fail
            go_region
            all_goals go_wp2_with fail
            go_roundg (j - 1)
            case measure => have := HGJ.out; omega
            case rel =>
              refine ⟨j - 1, swp dj j (j - 1), rfl, by rw [HK.out], by omega, by omega, by rw [size_swp]; exact SJ.out, ?_, ?_, ?_⟩
              · rw [HK.out, HG.out, HG.out]
                exact (RJ.out.past ((Only.refl _ _).drewN _)).swap j k (by rw [SJ.out]; omega) (by rw [SJ.out]; omega)
              · exact only_swap (OJ.out.drewN _) j k _ _
              · rw [← IJ.out, insInner_go _ _ _ _ hja HQ.out]
        · go_quiet (first | (go_at_call 87; refine Calls.quiet_of_same (less_any _ _ _)))
          go_wp2_with fail
          go_roundg (b + 1 - (i + 1))
          case measure => have := HGK.out; omega
          case rel =>
            obtain ⟨i', dk', e1, e2, e3⟩ := OUT.out (.inl (by omega))
            exact ⟨i', dk', e1, e2, e3.1, e3.2.1, e3.2.2.1, e3.2.2.2.1.past ((Only.refl _ _).drewN _), e3.2.2.2.2.1.drewN _, e3.2.2.2.2.2⟩
    · have hge : ¬ (i : Int) < b := by omega
      go_wp2_with fail
      go_end0
      refine ⟨rfl, HR.out.to ?_, HO.out⟩
      unfold Sort.insertionSort
      rw [← HI.out, insOuter_stop _ _ _ _ _ hlt]
end Go.Proofs.YtfkmjbpnjgnkbaaGreat.I

/-
  slices.Sort's family at ints of one kind: the heap sort, by contracts.
-/
namespace Go.Proofs.YtfkmjbpnjgnkbaaGreat.I
set_option linter.unusedSimpArgs false
open Go Go.RowKit Go.Sort
set_option linter.unusedVariables false

theorem sift_stop (hi first root : Nat) (d : Array Int) (h : 2 * root + 1 ≥ hi) : Sort.siftDown lt hi first root d = d := by
  rw [Sort.siftDown, dif_pos h]
theorem sift_one (hi first root c : Nat) (d : Array Int) (hc : 2 * root + 1 = c) (h : c < hi) (h2 : hi ≤ c + 1 ∨ lt d[first + c]! d[first + (c + 1)]! = false) :
    Sort.siftDown lt hi first root d = if lt d[first + root]! d[first + c]! = true then Sort.siftDown lt hi first c (swp d (first + root) (first + c)) else d := by
  subst hc
  rw [Sort.siftDown, dif_neg (by omega)]
  have hg : (decide (2 * root + 1 + 1 < hi) && lt d[first + (2 * root + 1)]! d[first + (2 * root + 1) + 1]!) = false := by
    rcases h2 with h2 | h2
    · rw [decide_eq_false (by omega)]; rfl
    · rw [show first + (2 * root + 1) + 1 = first + (2 * root + 1 + 1) by omega, h2, Bool.and_false]
  rw [hg]
  cases hq : lt d[first + root]! d[first + (2 * root + 1)]! <;> simp
theorem sift_two (hi first root c : Nat) (d : Array Int) (hc : 2 * root + 2 = c) (h : c < hi) (h2 : lt d[first + (2 * root + 1)]! d[first + c]! = true) :
    Sort.siftDown lt hi first root d = if lt d[first + root]! d[first + c]! = true then Sort.siftDown lt hi first c (swp d (first + root) (first + c)) else d := by
  subst hc
  rw [Sort.siftDown, dif_neg (by omega)]
  have hg : (decide (2 * root + 1 + 1 < hi) && lt d[first + (2 * root + 1)]! d[first + (2 * root + 1) + 1]!) = true := by
    rw [decide_eq_true (by omega), show first + (2 * root + 1) + 1 = first + (2 * root + 2) by omega, h2]; rfl
  rw [hg, if_pos rfl]
  cases hq : lt d[first + root]! d[first + (2 * root + 2)]! with
  | false => simp
  | true => rw [if_neg (by simp), dif_pos h, if_pos rfl]
set_option maxHeartbeats 4000000 in
set_option maxRecDepth 1000000 in
theorem sift_any (g cap lo hi first : Nat) (d : Array Int) (rest : List Value) (w : World) (h : SR w g d rest) (hlo : lo ≤ hi) (hb : first + hi ≤ d.size) (hsz : d.size ≤ 1000000) :
    Calls Tryz.prog 107 #[.slice (some ⟨g, 0, none⟩) d.size cap, .int .i64 lo, .int .i64 hi, .int .i64 first] w fun e w' => e = .returned (.tuple #[]) ∧ SR w' g (Sort.siftDown lt hi first lo d) rest ∧ Only [g] w w' := by
  have H0 := Lib.hid h
  obtain ⟨n, hn⟩ : ∃ n, d.size = n := ⟨_, rfl⟩
  have HN := Lib.hid hn
  rw [hn] at hb hsz ⊢
  clear h hn
  go_enter Tryz.func107, Tryz.ntmps107
  go_wp2_with fail
  go_loopg [8] (hi + 1 - lo) (fun gk v8 wr => ∃ (root : Nat) (dk : Array Int), gk = hi + 1 - root ∧ v8 = .int .i64 root ∧ root ≤ hi ∧ dk.size = n ∧ SR wr g dk rest ∧ Only [g] w wr ∧ Sort.siftDown lt hi first root dk = Sort.siftDown lt hi first lo d)
  case atStart => exact ⟨lo, d, rfl, rfl, hlo, HN.out, H0.out, Only.refl _ _, rfl⟩
  case round =>
    obtain ⟨root, dk, hgk, rfl, hroot, hsk, hr, hO, hI⟩ := hrel
    rename World => w1
    have HGK := Lib.hid hgk
    have HR := Lib.hid hr
    have HO := Lib.hid hO
    have HI := Lib.hid hI
    have HS := Lib.hid hsk
    clear hgk hr hO hI hsk
    obtain ⟨c, hc⟩ : ∃ c, 2 * root + 1 = c := ⟨_, rfl⟩
    have HC := Lib.hid hc
    have ec : IntKind.i64.wrap (2 * (root : Int) + 1) = (c : Int) := by rw [IntKind.wrap_i64]; omega
    by_cases hch : c < hi
    · have hch1 : ¬ ((hi : Int) ≤ c) := by omega
      obtain ⟨G, hG⟩ : ∃ G : Nat → Int, ∀ t, G t = dk[t]! := ⟨fun t => dk[t]!, fun _ => rfl⟩
      have hcw : ∀ t, t < n → w1.cell? ⟨g, t, none⟩ = some (.int kq (G t)) := fun t ht => by rw [hG]; exact HR.out.cell t (by rw [HS.out]; exact ht)
      have hfw : ∀ t, t < n → w1.frozen? ⟨g, t, none⟩ = false := fun t ht => HR.out.frozen t
      have HG := Lib.hid hG
      obtain ⟨c1, hc1⟩ : ∃ c1, c + 1 = c1 := ⟨_, rfl⟩
      obtain ⟨p, hp⟩ : ∃ p, first + root = p := ⟨_, rfl⟩
      obtain ⟨p0, hp0⟩ : ∃ p0, first + c = p0 := ⟨_, rfl⟩
      obtain ⟨p1, hp1⟩ : ∃ p1, first + c1 = p1 := ⟨_, rfl⟩
      have ec1 : (c : Int) + 1 = (c1 : Int) := by omega
      have ep : (first : Int) + root = (p : Int) := by omega
      have ep0 : (first : Int) + c = (p0 : Int) := by omega
      have ep1 : (first : Int) + c1 = (p1 : Int) := by omega
      have ep2 : (p0 : Int) + 1 = (p1 : Int) := by omega
      have hp3 : p < n := by omega
      have hp4 : p0 < n := by omega
      have hp3i : (p : Int) < n := by omega
      have hp4i : (p0 : Int) < n := by omega
      have hpne : p ≠ p0 := by omega
      have hpne1 : p ≠ p1 := by omega
      have HP := Lib.hid (And.intro hp (And.intro hp0 (And.intro hp1 hc1)))
      clear hG hp hp0 hp1 hc1 hc
      by_cases hch2 : c1 < hi
      · have hch2i : (c1 : Int) < hi := by omega
        have hp5 : p1 < n := by have := HP.out; omega
        have hp5i : (p1 : Int) < n := by omega
        obtain ⟨q0, hq0⟩ : ∃ q0, lt (G p0) (G p1) = q0 := ⟨_, rfl⟩
        have HQ0 : Hid (lt dk[p0]! dk[p1]! = q0) := by show _ = _; rw [← HG.out, ← HG.out]; exact hq0
        go_wp2_with fail
        go_quiet (first | (go_at_call 87; refine Calls.quiet_of_same (less_any _ _ _)))
        rw [hq0]
        clear hq0
        have R2 : Hid (SR (w1.drewN nq) g dk rest) := HR.out.past ((Only.refl _ _).drewN _)
        have O2 : Hid (Only [g] w (w1.drewN nq)) := HO.out.drewN _
        clear hcw hfw
        generalize w1.drewN nq = w2 at *
        have hcw : ∀ t, t < n → w2.cell? ⟨g, t, none⟩ = some (.int kq (G t)) := fun t ht => by rw [HG.out]; exact R2.out.cell t (by rw [HS.out]; exact ht)
        have hfw : ∀ t, t < n → w2.frozen? ⟨g, t, none⟩ = false := fun t ht => R2.out.frozen t
        cases q0
        · have STEP : Hid (Sort.siftDown lt hi first root dk = if lt dk[p]! dk[p0]! = true then Sort.siftDown lt hi first c (swp dk p p0) else dk) := by
            obtain ⟨h1, h2, h3, h4⟩ := HP.out
            have := sift_one hi first root c dk HC.out hch (.inr (by rw [h2, h4, h3]; exact HQ0.out))
            rw [h1, h2] at this
            exact this
          go_wp2_with fail
          go_quiet (first | (go_at_call 87; refine Calls.quiet_of_same (less_any _ _ _)))
          obtain ⟨q, hq⟩ : ∃ q, lt (G p) (G p0) = q := ⟨_, rfl⟩
          have HQ : Hid (lt dk[p]! dk[p0]! = q) := by show _ = _; rw [← HG.out, ← HG.out]; exact hq
          rw [hq]
          clear hq
          cases q
          · go_wp2_with fail
            first | go_end0 | refine bodyPost_ret (results_none rfl _ _ _) rfl ?_
            refine ⟨rfl, (R2.out.past ((Only.refl _ _).drewN _)).to ?_, O2.out.drewN _⟩
            rw [← HI.out, STEP.out, if_neg (by rw [HQ.out]; simp)]
          · go_wp2_with fail
            go_region
            all_goals go_wp2_with fail
            go_roundg (hi + 1 - c)
            case measure => have := HGK.out; have := HC.out; have := HP.out; omega
            case rel =>
              refine ⟨c, swp dk p p0, rfl, rfl, by have := HP.out; omega, by rw [size_swp]; exact HS.out, ?_, only_swap (O2.out.drewN _) _ _ _ _, by rw [← HI.out, STEP.out, if_pos HQ.out]⟩
              rw [HG.out, HG.out]
              exact (R2.out.past ((Only.refl _ _).drewN _)).swap p p0 (by rw [HS.out]; omega) (by rw [HS.out]; omega)
        · have STEP : Hid (Sort.siftDown lt hi first root dk = if lt dk[p]! dk[p1]! = true then Sort.siftDown lt hi first c1 (swp dk p p1) else dk) := by
            obtain ⟨h1, h2, h3, h4⟩ := HP.out
            have h5 := HC.out
            have := sift_two hi first root c1 dk (by omega) hch2 (by rw [h5, h2, h3]; exact HQ0.out)
            rw [h1, h3] at this
            exact this
          go_wp2_with fail
          go_quiet (first | (go_at_call 87; refine Calls.quiet_of_same (less_any _ _ _)))
          obtain ⟨q, hq⟩ : ∃ q, lt (G p) (G p1) = q := ⟨_, rfl⟩
          have HQ : Hid (lt dk[p]! dk[p1]! = q) := by show _ = _; rw [← HG.out, ← HG.out]; exact hq
          rw [hq]
          clear hq
          cases q
          · go_wp2_with fail
            first | go_end0 | refine bodyPost_ret (results_none rfl _ _ _) rfl ?_
            refine ⟨rfl, (R2.out.past ((Only.refl _ _).drewN _)).to ?_, O2.out.drewN _⟩
            rw [← HI.out, STEP.out, if_neg (by rw [HQ.out]; simp)]
          · go_wp2_with fail
            go_region
            all_goals go_wp2_with fail
            go_roundg (hi + 1 - c1)
            case measure => have := HGK.out; have := HC.out; have := HP.out; omega
            case rel =>
              refine ⟨c1, swp dk p p1, rfl, rfl, by have := HP.out; omega, by rw [size_swp]; exact HS.out, ?_, only_swap (O2.out.drewN _) _ _ _ _, by rw [← HI.out, STEP.out, if_pos HQ.out]⟩
              rw [HG.out, HG.out]
              exact (R2.out.past ((Only.refl _ _).drewN _)).swap p p1 (by rw [HS.out]; omega) (by rw [HS.out]; omega)
      · have hch2i : decide ((c1 : Int) < hi) = false := by rw [decide_eq_false_iff_not]; omega
        have STEP : Hid (Sort.siftDown lt hi first root dk = if lt dk[p]! dk[p0]! = true then Sort.siftDown lt hi first c (swp dk p p0) else dk) := by
          obtain ⟨h1, h2, h3, h4⟩ := HP.out
          have := sift_one hi first root c dk HC.out hch (.inl (by omega))
          rw [h1, h2] at this
          exact this
        go_wp2_with fail
        go_quiet (first | (go_at_call 87; refine Calls.quiet_of_same (less_any _ _ _)))
        have R2 : Hid (SR (w1.drewN nq) g dk rest) := HR.out.past ((Only.refl _ _).drewN _)
        have O2 : Hid (Only [g] w (w1.drewN nq)) := HO.out.drewN _
        clear hcw hfw
        generalize w1.drewN nq = w2 at *
        have hcw : ∀ t, t < n → w2.cell? ⟨g, t, none⟩ = some (.int kq (G t)) := fun t ht => by rw [HG.out]; exact R2.out.cell t (by rw [HS.out]; exact ht)
        have hfw : ∀ t, t < n → w2.frozen? ⟨g, t, none⟩ = false := fun t ht => R2.out.frozen t
        go_wp2_with fail
        go_quiet (first | (go_at_call 87; refine Calls.quiet_of_same (less_any _ _ _)))
        obtain ⟨q, hq⟩ : ∃ q, lt (G p) (G p0) = q := ⟨_, rfl⟩
        have HQ : Hid (lt dk[p]! dk[p0]! = q) := by show _ = _; rw [← HG.out, ← HG.out]; exact hq
        rw [hq]
        clear hq
        cases q
        · go_wp2_with fail
          first | go_end0 | refine bodyPost_ret (results_none rfl _ _ _) rfl ?_
          refine ⟨rfl, (R2.out.past ((Only.refl _ _).drewN _)).to ?_, O2.out.drewN _⟩
          rw [← HI.out, STEP.out, if_neg (by rw [HQ.out]; simp)]
        · go_wp2_with fail
          go_region
          all_goals go_wp2_with fail
          go_roundg (hi + 1 - c)
          case measure => have := HGK.out; have := HC.out; have := HP.out; omega
          case rel =>
            refine ⟨c, swp dk p p0, rfl, rfl, by have := HP.out; omega, by rw [size_swp]; exact HS.out, ?_, only_swap (O2.out.drewN _) _ _ _ _, by rw [← HI.out, STEP.out, if_pos HQ.out]⟩
            rw [HG.out, HG.out]
            exact (R2.out.past ((Only.refl _ _).drewN _)).swap p p0 (by rw [HS.out]; omega) (by rw [HS.out]; omega)
    · have hch1 : ((hi : Int) ≤ c) := by omega
      go_wp2_with fail
      first | go_end0 | refine bodyPost_ret (results_none rfl _ _ _) rfl ?_
      refine ⟨rfl, HR.out.to ?_, HO.out⟩
      rw [← HI.out, sift_stop _ _ _ _ (by have := HC.out; omega)]
theorem size_sift (hi first : Nat) : ∀ (n root : Nat) (d : Array Int), hi - root ≤ n → (Sort.siftDown lt hi first root d).size = d.size
  | 0, root, d, h => by rw [sift_stop _ _ _ _ (by omega)]
  | n + 1, root, d, h => by
    by_cases hs : 2 * root + 1 ≥ hi
    · rw [sift_stop _ _ _ _ hs]
    · have e : ∃ c, root < c ∧ Sort.siftDown lt hi first root d = if lt d[first + root]! d[first + c]! = true then Sort.siftDown lt hi first c (swp d (first + root) (first + c)) else d := by
        by_cases h2 : 2 * root + 2 < hi ∧ lt d[first + (2 * root + 1)]! d[first + (2 * root + 2)]! = true
        · exact ⟨2 * root + 2, by omega, sift_two hi first root _ d rfl h2.1 h2.2⟩
        · refine ⟨2 * root + 1, by omega, sift_one hi first root _ d rfl (by omega) ?_⟩
          by_cases h3 : hi ≤ 2 * root + 1 + 1
          · exact .inl h3
          · exact .inr (by have : ¬ lt d[first + (2 * root + 1)]! d[first + (2 * root + 2)]! = true := fun h => h2 ⟨by omega, h⟩; simpa using this)
      obtain ⟨c, hc, e⟩ := e
      rw [e]
      split
      · rw [size_sift hi first n c _ (by omega), size_swp]
      · rfl
set_option maxHeartbeats 4000000 in
set_option maxRecDepth 1000000 in
theorem heap_any (g cap a b : Nat) (d : Array Int) (rest : List Value) (w : World) (h : SR w g d rest) (hab : a ≤ b) (hb : b ≤ d.size) (hsz : d.size ≤ 1000000) :
    Calls Tryz.prog 82 #[.slice (some ⟨g, 0, none⟩) d.size cap, .int .i64 a, .int .i64 b] w fun e w' => e = .returned (.tuple #[]) ∧ SR w' g (Sort.heapSort lt d a b) rest ∧ Only [g] w w' := by
  have H0 := Lib.hid h
  obtain ⟨n, hn⟩ : ∃ n, d.size = n := ⟨_, rfl⟩
  have HN := Lib.hid hn
  rw [hn] at hb hsz ⊢
  obtain ⟨hi, hhi⟩ : ∃ hi, b - a = hi := ⟨_, rfl⟩
  have ehi : (b : Int) - a = (hi : Int) := by omega
  have HHI := Lib.hid hhi
  obtain ⟨k0, hk0⟩ : ∃ k0, (hi - 1) / 2 = k0 := ⟨_, rfl⟩
  have ek0 : ((hi : Int) - 1).tdiv 2 = (k0 : Int) := by
    rcases Nat.eq_zero_or_pos hi with h0 | h0
    · subst h0; rw [← hk0]; decide
    · rw [Int.tdiv_eq_ediv_of_nonneg (by omega)]; omega
  have hk1 : k0 ≤ hi := by omega
  have HK0 := Lib.hid hk0
  have hhn : a + hi ≤ n := by omega
  clear h hn hhi hk0
  go_enter Tryz.func82, Tryz.ntmps82
  go_wp2_with fail
  go_loopg [9] (k0 + 1) (fun gk v9 wr => ∃ (k : Nat) (z : Int) (dk : Array Int), gk = k ∧ v9 = .int .i64 z ∧ z = (k : Int) - 1 ∧ k ≤ hi + 1 ∧ dk.size = n ∧ SR wr g dk rest ∧ Only [g] w wr ∧ Sort.heapBuild lt hi a k dk = Sort.heapBuild lt hi a (k0 + 1) d)
  case atStart => exact ⟨k0 + 1, k0, d, rfl, rfl, by omega, by omega, HN.out, H0.out, Only.refl _ _, rfl⟩
  case round =>
    obtain ⟨k, z, dk, hgk, rfl, hz, hkh, hsk, hr, hO, hI⟩ := hrel
    rename World => w1
    have HGK := Lib.hid hgk
    have HR := Lib.hid hr
    have HO := Lib.hid hO
    have HI := Lib.hid hI
    have HS := Lib.hid hsk
    clear hgk hr hO hI hsk
    cases k with
    | succ m =>
      obtain rfl : z = (m : Int) := by omega
      have hm0 : (0 : Int) ≤ m := by omega
      have SC := Lib.hid (sift_any g cap m hi a dk rest w1 HR.out (by omega) (by rw [HS.out]; omega) (by rw [HS.out]; omega))
      rw [HS.out] at SC
      clear hz
      go_wp2_with (go_at_call 107; refine SC.out.mono ?_; rintro e w2 ⟨rfl, hr2, hO2⟩)
      go_roundg m
      case measure => have := HGK.out; omega
      case rel => exact ⟨m, (m : Int) - 1, _, rfl, by go_num, rfl, by omega, by rw [size_sift _ _ _ _ _ (Nat.le_refl _)]; exact HS.out, hr2, HO.out.trans hO2 (fun x hx => .inl hx), HI.out⟩
    | zero =>
      obtain rfl : z = -1 := by omega
      have HB : Hid (dk = Sort.heapBuild lt hi a (k0 + 1) d) := HI.out
      clear hz
      go_wp2_with fail
      obtain ⟨d0, hd0⟩ : ∃ d0, Sort.heapBuild lt hi a (k0 + 1) d = d0 := ⟨_, rfl⟩
      have HD0 := Lib.hid hd0
      rw [hd0] at HB
      clear hd0 HI HGK
      go_loopg [10] hi (fun gk v10 wr => ∃ (k : Nat) (z : Int) (dk : Array Int), gk = k ∧ v10 = .int .i64 z ∧ z = (k : Int) - 1 ∧ k ≤ hi ∧ dk.size = n ∧ SR wr g dk rest ∧ Only [g] w wr ∧ Sort.heapPop lt a k dk = Sort.heapPop lt a hi d0)
      case atStart => exact ⟨hi, _, dk, rfl, rfl, by omega, Nat.le_refl _, HS.out, HR.out, HO.out, by rw [HB.out]⟩
      case round =>
        clear HR HS HO HB
        obtain ⟨k, z, dk, hgk, rfl, hz, hkh, hsk, hr, hO, hI⟩ := hrel
        rename World => w2
        have HGK := Lib.hid hgk
        have HR := Lib.hid hr
        have HO := Lib.hid hO
        have HI := Lib.hid hI
        have HS := Lib.hid hsk
        clear hgk hr hO hI hsk
        cases k with
        | succ m =>
          obtain rfl : z = (m : Int) := by omega
          have hm0 : (0 : Int) ≤ m := by omega
          obtain ⟨G, hG⟩ : ∃ G : Nat → Int, ∀ t, G t = dk[t]! := ⟨fun t => dk[t]!, fun _ => rfl⟩
          have hcw : ∀ t, t < n → w2.cell? ⟨g, t, none⟩ = some (.int kq (G t)) := fun t ht => by rw [hG]; exact HR.out.cell t (by rw [HS.out]; exact ht)
          have hfw : ∀ t, t < n → w2.frozen? ⟨g, t, none⟩ = false := fun t ht => HR.out.frozen t
          have HG := Lib.hid hG
          obtain ⟨p, hp⟩ : ∃ p, a + m = p := ⟨_, rfl⟩
          have ep : (a : Int) + m = (p : Int) := by omega
          have hpn : p < n := by omega
          have hpn1 : (p : Int) < n := by omega
          have han : a < n := by omega
          have han1 : (a : Int) < n := by omega
          have HP := Lib.hid hp
          have R3 : Hid (∀ N, SR (((w2.drewN N).setCell ⟨g, a, none⟩ (.int kq (G p))).setCell ⟨g, p, none⟩ (.int kq (G a))) g (swp dk a p) rest) := fun N => by
            rw [HG.out, HG.out]
            exact (HR.out.past ((Only.refl _ _).drewN _)).swap a p (by rw [HS.out]; omega) (by rw [HS.out]; omega)
          have O3 : Hid (∀ N, Only [g] w (((w2.drewN N).setCell ⟨g, a, none⟩ (.int kq (G p))).setCell ⟨g, p, none⟩ (.int kq (G a)))) := fun N => only_swap (HO.out.drewN _) _ _ _ _
          have SC : Hid (∀ w3, SR w3 g (swp dk a p) rest → Calls Tryz.prog 107 #[.slice (some ⟨g, 0, none⟩) n cap, .int .i64 0, .int .i64 m, .int .i64 a] w3 fun e w' => e = .returned (.tuple #[]) ∧ SR w' g (Sort.siftDown lt m a 0 (swp dk a p)) rest ∧ Only [g] w3 w') := fun w3 h3 => by
            have := sift_any g cap 0 m a (swp dk a p) rest w3 h3 (by omega) (by rw [size_swp, HS.out]; omega) (by rw [size_swp, HS.out]; omega)
            rw [size_swp, HS.out] at this
            exact this
          clear hz hG hp
          by_cases hm : m = 0
          · have hap : p = a := by have := HP.out; omega
            subst hap
            subst hm
            go_wp2_with fail
            go_region
            all_goals go_wp2_with fail
            refine (SC.out _ (R3.out _)).mono ?_
            rintro e w4 ⟨rfl, hr4, hO4⟩
            have R4 := Lib.hid hr4
            have O4 := Lib.hid ((O3.out _).trans hO4 (fun x hx => .inl hx))
            clear hr4 hO4
            go_wp2_with fail
            go_roundg 0
            case measure => have := HGK.out; omega
            case rel => exact ⟨0, ((0 : Nat) : Int) - 1, _, rfl, by go_num, rfl, by omega, by rw [size_sift _ _ _ _ _ (Nat.le_refl _), size_swp]; exact HS.out, R4.out, O4.out, by rw [← HI.out, Sort.heapPop, Nat.add_zero]; rfl⟩
          · have hap : a ≠ p := by have := HP.out; omega
            go_wp2_with fail
            go_region
            all_goals go_wp2_with fail
            refine (SC.out _ (R3.out _)).mono ?_
            rintro e w4 ⟨rfl, hr4, hO4⟩
            have R4 := Lib.hid hr4
            have O4 := Lib.hid ((O3.out _).trans hO4 (fun x hx => .inl hx))
            clear hr4 hO4
            go_wp2_with fail
            go_roundg m
            case measure => have := HGK.out; omega
            case rel => exact ⟨m, (m : Int) - 1, _, rfl, by go_num, rfl, by omega, by rw [size_sift _ _ _ _ _ (Nat.le_refl _), size_swp]; exact HS.out, R4.out, O4.out, by rw [← HI.out, Sort.heapPop, HP.out]⟩
        | zero =>
          obtain rfl : z = -1 := by omega
          clear hz
          go_wp2_with fail
          go_end0
          refine ⟨rfl, HR.out.to ?_, HO.out⟩
          unfold Sort.heapSort
          rw [HHI.out, HK0.out, HD0.out, ← HI.out]
          rfl
end Go.Proofs.YtfkmjbpnjgnkbaaGreat.I

/-
  slices.Sort's family at ints of one kind: the pivot's choice; a range reversed: by contracts.
-/
namespace Go.Proofs.YtfkmjbpnjgnkbaaGreat.I
set_option linter.unusedSimpArgs false
open Go Go.RowKit Go.Sort
set_option linter.unusedVariables false

/-- The count of swaps, in a box. -/
def Box (w : World) (sb : Nat) (s : Int) : Prop := Blk w sb [.int .i64 s] 3
theorem Box.cell {w : World} {sb : Nat} {s : Int} (h : Box w sb s) : w.cell? ⟨sb, 0, none⟩ = some (.int .i64 s) := Blk.cell h 0
set_option maxHeartbeats 1000000 in
set_option maxRecDepth 1000000 in
theorem order2_any (g cap a b sb : Nat) (s : Int) (d : Array Int) (rest : List Value) (w : World) (h : SR w g d rest) (hs : Box w sb s) (hne : g ≠ sb) (ha : a < d.size) (hb : b < d.size) (hsz : d.size ≤ 1000000) :
    Calls Tryz.prog 122 #[.slice (some ⟨g, 0, none⟩) d.size cap, .int .i64 a, .int .i64 b, .pointer (some ⟨sb, 0, none⟩)] w fun e w' => ∃ (x y : Nat) (s' : Int), e = .returned (.tuple #[.int .i64 x, .int .i64 y]) ∧ ((x = a ∧ y = b) ∨ (x = b ∧ y = a)) ∧ Box w' sb s' ∧ Only [sb] w w' := by
  have HR := Lib.hid h
  have HB := Lib.hid hs
  obtain ⟨n, hn⟩ : ∃ n, d.size = n := ⟨_, rfl⟩
  have HN := Lib.hid hn
  rw [hn] at ha hb hsz ⊢
  obtain ⟨G, hG⟩ : ∃ G : Nat → Int, ∀ t, G t = d[t]! := ⟨fun t => d[t]!, fun _ => rfl⟩
  have hcw : ∀ t, t < n → w.cell? ⟨g, t, none⟩ = some (.int kq (G t)) := fun t ht => by rw [hG]; exact HR.out.cell t (by rw [HN.out]; exact ht)
  have cs := HB.out.cell
  have fs := Blk.frozen HB.out 0
  have ha1 : (a : Int) < n := by omega
  have hb1 : (b : Int) < n := by omega
  clear h hn hs hG
  go_enter Tryz.func122, Tryz.ntmps122
  go_wp2_with fail
  go_quiet (first | (go_at_call 87; refine Calls.quiet_of_same (less_any _ _ _)))
  obtain ⟨q, hq⟩ : ∃ q, lt (G b) (G a) = q := ⟨_, rfl⟩
  rw [hq]
  clear hq
  cases q
  · go_wp2_with fail
    go_ret2
    exact ⟨a, b, s, rfl, .inl ⟨rfl, rfl⟩, Blk.drewN HB.out _, (Only.refl _ _).drewN _⟩
  · go_wp2_with fail
    first | go_region | skip
    all_goals go_wp2_with fail
    go_ret2
    exact ⟨b, a, _, rfl, .inr ⟨rfl, rfl⟩, Blk.set (Blk.drewN HB.out _) 0 _, ((Only.refl _ _).drewN _).setCell (.inl (by simp)) _⟩
theorem SR.beside {w w' : World} {g sb : Nat} {d : Array Int} {rest : List Value} (h : SR w g d rest) (hne : g ≠ sb) (hO : Only [sb] w w') : SR w' g d rest := hO.blk h (by simpa using hne)
set_option maxHeartbeats 1000000 in
set_option maxRecDepth 1000000 in
theorem median_any (g cap a b c sb : Nat) (s : Int) (d : Array Int) (rest : List Value) (w : World) (h : SR w g d rest) (hs : Box w sb s) (hne : g ≠ sb) (ha : a < d.size) (hb : b < d.size) (hc : c < d.size) (hsz : d.size ≤ 1000000) :
    Calls Tryz.prog 111 #[.slice (some ⟨g, 0, none⟩) d.size cap, .int .i64 a, .int .i64 b, .int .i64 c, .pointer (some ⟨sb, 0, none⟩)] w fun e w' => ∃ (x : Nat) (s' : Int), e = .returned (.int .i64 x) ∧ (x = a ∨ x = b ∨ x = c) ∧ Box w' sb s' ∧ Only [sb] w w' := by
  have O1 := Lib.hid (fun (w1 : World) (h1 : SR w1 g d rest) (x y : Nat) (s1 : Int) (hb1 : Box w1 sb s1) (hx : x < d.size) (hy : y < d.size) => order2_any g cap x y sb s1 d rest w1 h1 hb1 hne hx hy hsz)
  have HR := Lib.hid h
  have HB := Lib.hid hs
  have HA := Lib.hid (And.intro ha (And.intro hb hc))
  obtain ⟨n, hn⟩ : ∃ n, d.size = n := ⟨_, rfl⟩
  rw [hn] at O1 HA ha hb hc ⊢
  clear h hn hs hsz ha hb hc
  go_enter Tryz.func111, Tryz.ntmps111
  go_wp2_with fail
  refine (O1.out w HR.out a b s HB.out HA.out.1 HA.out.2.1).mono ?_
  rintro e w1 ⟨x1, y1, s1, rfl, hxy1, hB1, hO1⟩
  have X1 := Lib.hid hxy1
  have B1 := Lib.hid hB1
  have P1 := Lib.hid hO1
  have R1 := Lib.hid (HR.out.beside hne hO1)
  have L1 : Hid (x1 < n ∧ y1 < n) := by have := HA.out; rcases hxy1 with ⟨rfl, rfl⟩ | ⟨rfl, rfl⟩ <;> exact ⟨by omega, by omega⟩
  clear hxy1 hB1 hO1
  go_wp2_with fail
  refine (O1.out w1 R1.out y1 c s1 B1.out L1.out.2 HA.out.2.2).mono ?_
  rintro e w2 ⟨x2, y2, s2, rfl, hxy2, hB2, hO2⟩
  have X2 := Lib.hid hxy2
  have B2 := Lib.hid hB2
  have P2 := Lib.hid (P1.out.trans hO2 (fun x hx => .inl hx))
  have R2 := Lib.hid (R1.out.beside hne hO2)
  have L2 : Hid (x2 < n ∧ y2 < n) := by have := HA.out; have := L1.out; rcases hxy2 with ⟨rfl, rfl⟩ | ⟨rfl, rfl⟩ <;> exact ⟨by omega, by omega⟩
  clear hxy2 hB2 hO2
  go_wp2_with fail
  refine (O1.out w2 R2.out x1 x2 s2 B2.out L1.out.1 L2.out.1).mono ?_
  rintro e w3 ⟨x3, y3, s3, rfl, hxy3, hB3, hO3⟩
  have X3 := Lib.hid hxy3
  have B3 := Lib.hid hB3
  have P3 := Lib.hid (P2.out.trans hO3 (fun x hx => .inl hx))
  clear hxy3 hB3 hO3
  go_wp2_with fail
  go_ret
  refine ⟨y3, s3, rfl, ?_, B3.out, P3.out⟩
  have h1 := X1.out
  have h2 := X2.out
  have h3 := X3.out
  omega
theorem medA_any (g cap a sb : Nat) (s : Int) (d : Array Int) (rest : List Value) (w : World) (h : SR w g d rest) (hs : Box w sb s) (hne : g ≠ sb) (ha0 : 0 < a) (ha : a + 1 < d.size) (hsz : d.size ≤ 1000000) :
    Calls Tryz.prog 110 #[.slice (some ⟨g, 0, none⟩) d.size cap, .int .i64 a, .pointer (some ⟨sb, 0, none⟩)] w fun e w' => ∃ (x : Nat) (s' : Int), e = .returned (.int .i64 x) ∧ (a ≤ x + 1 ∧ x ≤ a + 1) ∧ Box w' sb s' ∧ Only [sb] w w' := by
  obtain ⟨p, hp⟩ : ∃ p, a - 1 = p := ⟨_, rfl⟩
  obtain ⟨q, hq⟩ : ∃ q, a + 1 = q := ⟨_, rfl⟩
  have ep : (a : Int) - 1 = (p : Int) := by omega
  have eq : (a : Int) + 1 = (q : Int) := by omega
  have ew : IntKind.i64.wrap (p : Int) = (p : Int) := by rw [IntKind.wrap_i64]; omega
  have ew2 : IntKind.i64.wrap (q : Int) = (q : Int) := by rw [IntKind.wrap_i64]; omega
  have M := Lib.hid (median_any g cap p a q sb s d rest w h hs hne (by omega) (by omega) (by omega) hsz)
  have HA := Lib.hid (And.intro hp (And.intro hq ha0))
  clear hp hq h hs
  go_enter Tryz.func110, Tryz.ntmps110
  go_wp2_with fail
  refine M.out.mono ?_
  rintro e w1 ⟨x, s', rfl, hx, hB, hO⟩
  have X := Lib.hid hx
  have B1 := Lib.hid hB
  have P1 := Lib.hid hO
  clear hx hB hO
  go_wp2_with fail
  go_ret
  refine ⟨x, s', rfl, ?_, B1.out, P1.out⟩
  have := X.out
  have := HA.out
  omega
set_option maxHeartbeats 2000000 in
set_option maxRecDepth 1000000 in
theorem pivot_any (g cap a b : Nat) (d : Array Int) (rest : List Value) (w : World) (h : SR w g d rest) (hl : a + 12 < b) (hb : b ≤ d.size) (hsz : d.size ≤ 1000000) :
    Calls Tryz.prog 84 #[.slice (some ⟨g, 0, none⟩) d.size cap, .int .i64 a, .int .i64 b] w fun e w' => ∃ (p : Nat) (hint : Int), e = .returned (.tuple #[.int .i64 p, .int .i64 hint]) ∧ a ≤ p ∧ p < b ∧ 0 ≤ hint ∧ hint ≤ 2 ∧ Only [] w w' := by
  have HA1 := Lib.hid (fun (w1 : World) (h1 : SR w1 g d rest) (x : Nat) (s1 : Int) (hb1 : Box w1 w.heap.size s1) (hx0 : 0 < x) (hx : x + 1 < d.size) => medA_any g cap x w.heap.size s1 d rest w1 h1 hb1 (by have := h.lt; omega) hx0 hx hsz)
  have HM1 := Lib.hid (fun (w1 : World) (h1 : SR w1 g d rest) (x y z : Nat) (s1 : Int) (hb1 : Box w1 w.heap.size s1) (hx : x < d.size) (hy : y < d.size) (hz : z < d.size) => median_any g cap x y z w.heap.size s1 d rest w1 h1 hb1 (by have := h.lt; omega) hx hy hz hsz)
  have HR := Lib.hid (h.past ((Only.refl [] w).alloc (.cells #[.int .i64 0] 3)))
  have HB : Hid (Box (w.alloc (.cells #[.int .i64 0] 3)) w.heap.size 0) := Blk.new' _ _ _ rfl
  have HN : Hid (g ≠ w.heap.size) := by have := h.lt; show _ ≠ _; omega
  have HO : Hid (Only [w.heap.size] w (w.alloc (.cells #[.int .i64 0] 3))) := (Only.refl _ _).alloc _
  have HW : Hid (∀ w', Only [w.heap.size] w w' → Only [] w w') := fun w' hw => hw.mono (fun x hx => by simp at hx; subst hx; exact .inr (Nat.le_refl _))
  obtain ⟨n, hn⟩ : ∃ n, d.size = n := ⟨_, rfl⟩
  rw [hn] at HA1 HM1 hb hsz ⊢
  obtain ⟨l, hl0⟩ : ∃ l, b - a = l := ⟨_, rfl⟩
  obtain ⟨l4, hl4⟩ : ∃ l4, l / 4 = l4 := ⟨_, rfl⟩
  obtain ⟨i0, hi0⟩ : ∃ i0, a + l4 = i0 := ⟨_, rfl⟩
  obtain ⟨j0, hj0⟩ : ∃ j0, a + l4 * 2 = j0 := ⟨_, rfl⟩
  obtain ⟨k0, hk0⟩ : ∃ k0, a + l4 * 3 = k0 := ⟨_, rfl⟩
  have el : (b : Int) - a = (l : Int) := by omega
  have el4 : (l : Int).tdiv 4 = (l4 : Int) := by rw [Int.tdiv_eq_ediv_of_nonneg (by omega)]; omega
  have ei0 : (a : Int) + l4 = (i0 : Int) := by omega
  have ej0 : (a : Int) + l4 * 2 = (j0 : Int) := by omega
  have ek0 : (a : Int) + l4 * 3 = (k0 : Int) := by omega
  have HE := Lib.hid (And.intro hl0 (And.intro hl4 (And.intro hi0 (And.intro hj0 hk0))))
  have hl8 : (8 : Int) ≤ l := by omega
  have hl12 : 12 < l := by omega
  have hl4s : l4 ≤ 250000 := by omega
  clear h hn hl0 hl4 hi0 hj0 hk0
  by_cases h50 : 50 ≤ l
  · have h50i : (50 : Int) ≤ l := by omega
    go_enter Tryz.func84, Tryz.ntmps84
    go_wp2_with fail
    refine (HA1.out _ HR.out i0 0 HB.out (by have := HE.out; omega) (by have := HE.out; omega)).mono ?_
    rintro e w1 ⟨i1, s1, rfl, hi1, hB1, hO1⟩
    have X1 := Lib.hid hi1
    have B1 := Lib.hid hB1
    have P1 := Lib.hid (HO.out.trans hO1 (fun x hx => .inl hx))
    have R1 := Lib.hid (HR.out.beside HN.out hO1)
    clear hi1 hB1 hO1
    go_wp2_with fail
    refine (HA1.out _ R1.out j0 s1 B1.out (by have := HE.out; omega) (by have := HE.out; omega)).mono ?_
    rintro e w2 ⟨j1, s2, rfl, hj1, hB2, hO2⟩
    have X2 := Lib.hid hj1
    have B2 := Lib.hid hB2
    have P2 := Lib.hid (P1.out.trans hO2 (fun x hx => .inl hx))
    have R2 := Lib.hid (R1.out.beside HN.out hO2)
    clear hj1 hB2 hO2
    go_wp2_with fail
    refine (HA1.out _ R2.out k0 s2 B2.out (by have := HE.out; omega) (by have := HE.out; omega)).mono ?_
    rintro e w3 ⟨k1, s3, rfl, hk1, hB3, hO3⟩
    have X3 := Lib.hid hk1
    have B3 := Lib.hid hB3
    have P3 := Lib.hid (P2.out.trans hO3 (fun x hx => .inl hx))
    have R3 := Lib.hid (R2.out.beside HN.out hO3)
    clear hk1 hB3 hO3
    have LL : Hid ((a ≤ i1 ∧ i1 < b) ∧ (a ≤ j1 ∧ j1 < b) ∧ (a ≤ k1 ∧ k1 < b)) := by
      have h1 := X1.out; have h2 := X2.out; have h3 := X3.out; have h4 := HE.out
      exact ⟨⟨by omega, by omega⟩, ⟨by omega, by omega⟩, ⟨by omega, by omega⟩⟩
    go_wp2_with fail
    refine (HM1.out _ R3.out i1 j1 k1 s3 B3.out (by have := LL.out; omega) (by have := LL.out; omega) (by have := LL.out; omega)).mono ?_
    rintro e w4 ⟨x, s, rfl, hx, hB4, hO4⟩
    have XX : Hid (a ≤ x ∧ x < b) := by have := LL.out; exact ⟨by omega, by omega⟩
    have BX := Lib.hid hB4
    have PX := Lib.hid (HW.out _ (P3.out.trans hO4 (fun x hx => .inl hx)))
    clear hx hB4 hO4
    have c0 := BX.out.cell
    by_cases h0 : s = 0
    · subst h0
      go_wp2_with fail
      go_ret2
      exact ⟨x, 1, rfl, XX.out.1, XX.out.2, by omega, by omega, PX.out⟩
    · by_cases h12 : s = 12
      · subst h12
        go_wp2_with fail
        go_ret2
        exact ⟨x, 2, rfl, XX.out.1, XX.out.2, by omega, by omega, PX.out⟩
      · have h0b : (s == 0) = false := by simpa using h0
        have h12b : (s == 12) = false := by simpa using h12
        clear h0 h12
        go_wp2_with fail
        go_ret2
        exact ⟨x, 0, rfl, XX.out.1, XX.out.2, by omega, by omega, PX.out⟩
  · have h50i : ¬ (50 : Int) ≤ l := by omega
    go_enter Tryz.func84, Tryz.ntmps84
    go_wp2_with fail
    refine (HM1.out _ HR.out i0 j0 k0 0 HB.out (by have := HE.out; omega) (by have := HE.out; omega) (by have := HE.out; omega)).mono ?_
    rintro e w4 ⟨x, s, rfl, hx, hB4, hO4⟩
    have XX : Hid (a ≤ x ∧ x < b) := by have := HE.out; exact ⟨by omega, by omega⟩
    have BX := Lib.hid hB4
    have PX := Lib.hid (HW.out _ (HO.out.trans hO4 (fun x hx => .inl hx)))
    clear hx hB4 hO4
    have c0 := BX.out.cell
    by_cases h0 : s = 0
    · subst h0
      go_wp2_with fail
      go_ret2
      exact ⟨x, 1, rfl, XX.out.1, XX.out.2, by omega, by omega, PX.out⟩
    · by_cases h12 : s = 12
      · subst h12
        go_wp2_with fail
        go_ret2
        exact ⟨x, 2, rfl, XX.out.1, XX.out.2, by omega, by omega, PX.out⟩
      · have h0b : (s == 0) = false := by simpa using h0
        have h12b : (s == 12) = false := by simpa using h12
        clear h0 h12
        go_wp2_with fail
        go_ret2
        exact ⟨x, 0, rfl, XX.out.1, XX.out.2, by omega, by omega, PX.out⟩
/-- The row is permuted between a and b. -/
def Perms (w : World) (g a b : Nat) (d : Array Int) (rest : List Value) (w' : World) : Prop := ∃ d', SR w' g d' rest ∧ PermIn a b d d' ∧ Only [g] w w'
set_option maxHeartbeats 2000000 in
set_option maxRecDepth 1000000 in
theorem rev_any (g cap a b : Nat) (d : Array Int) (rest : List Value) (w : World) (h : SR w g d rest) (hab : a < b) (hb : b ≤ d.size) (hsz : d.size ≤ 1000000) :
    Calls Tryz.prog 85 #[.slice (some ⟨g, 0, none⟩) d.size cap, .int .i64 a, .int .i64 b] w fun e w' => e = .returned (.tuple #[]) ∧ Perms w g a b d rest w' := by
  have H0 := Lib.hid h
  obtain ⟨n, hn⟩ : ∃ n, d.size = n := ⟨_, rfl⟩
  have HN := Lib.hid hn
  rw [hn] at hb hsz ⊢
  clear h hn
  go_enter Tryz.func85, Tryz.ntmps85
  go_wp2_with fail
  go_loopg [6, 7] (b - 1) (fun gk v6 v7 wr => ∃ (i j : Nat) (dk : Array Int), gk = j ∧ v6 = .int .i64 i ∧ v7 = .int .i64 j ∧ a ≤ i ∧ j < b ∧ dk.size = n ∧ PermIn a b d dk ∧ SR wr g dk rest ∧ Only [g] w wr)
  case atStart => exact ⟨a, b - 1, d, rfl, rfl, by go_num, Nat.le_refl _, by omega, HN.out, permIn_refl _ _ _, H0.out, Only.refl _ _⟩
  case round =>
    obtain ⟨i, j, dk, hgk, rfl, rfl, hai, hjb, hsk, hP, hr, hO⟩ := hrel
    rename World => w1
    have HGK := Lib.hid hgk
    have HR := Lib.hid hr
    have HO := Lib.hid hO
    have HP := Lib.hid hP
    have HS := Lib.hid hsk
    clear hgk hr hO hP hsk
    by_cases hij : i < j
    · have hij1 : (i : Int) < j := by omega
      have hjn : j < n := by omega
      have hin : i < n := by omega
      have hjn1 : (j : Int) < n := by omega
      have hin1 : (i : Int) < n := by omega
      obtain ⟨G, hG⟩ : ∃ G : Nat → Int, ∀ t, G t = dk[t]! := ⟨fun t => dk[t]!, fun _ => rfl⟩
      have hcw : ∀ t, t < n → w1.cell? ⟨g, t, none⟩ = some (.int kq (G t)) := fun t ht => by rw [hG]; exact HR.out.cell t (by rw [HS.out]; exact ht)
      have hfw : ∀ t, t < n → w1.frozen? ⟨g, t, none⟩ = false := fun t ht => HR.out.frozen t
      have HG := Lib.hid hG
      clear hG
      go_wp2_with fail
      go_region
      all_goals go_wp2_with fail
      go_roundg (j - 1)
      case measure => have := HGK.out; omega
      case rel =>
        refine ⟨i + 1, j - 1, swp dk i j, rfl, by go_num, by go_num, by omega, by omega, by rw [size_swp]; exact HS.out, ?_, ?_, only_swap (HO.out.drewN _) _ _ _ _⟩
        · exact permIn_trans _ _ _ _ _ HP.out (swp_permIn _ _ _ _ _ hai (by omega) (by omega) hjb (by rw [HS.out]; exact hb))
        · rw [HG.out, HG.out]
          exact (HR.out.past ((Only.refl _ _).drewN _)).swap i j (by rw [HS.out]; omega) (by rw [HS.out]; omega)
    · have hij1 : ¬ (i : Int) < j := by omega
      go_wp2_with fail
      go_end0
      exact ⟨rfl, dk, HR.out, HP.out, HO.out⟩
end Go.Proofs.YtfkmjbpnjgnkbaaGreat.I
