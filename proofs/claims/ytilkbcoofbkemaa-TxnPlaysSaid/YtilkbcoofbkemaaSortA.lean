/-
  slices.Sort's family at ints of one kind: the row in memory; Less; the insertion sort, by contracts.
-/
import Derived.Test.YtilkbcoofbkemaaIter
import Derived.Test.YtilkbcoofbkemaaRowsK
import Derived.Sort.LotA
import Derived.Sort.LotB
import Derived.Sort.WalkA
import Derived.WalkKit
import Derived.BigGuard
import Derived.BigCall
import Derived.CellFam
import Derived.Deep.Draws
import Derived.Deep.QuietTactic
import Derived.BigQuiet
import Derived.Lib.Hide
import Derived.Deep.LoopGhost
namespace Go.Proofs.Ytilkbcoofbkemaa.I
set_option linter.unusedSimpArgs false
open Go Go.RowKit Go.Sort
set_option linter.unusedVariables false

abbrev lt : Int → Int → Bool := ltInt
/-- The row in block g reads as d; behind it lies rest. -/
def SR (w : World) (g : Nat) (d : Array Int) (rest : List Value) : Prop := Blk w g (d.toList.map (Value.int kq) ++ rest) 26
section
variable {w w' : World} {g : Nat} {d d' : Array Int} {rest : List Value}
theorem SR.cell (h : SR w g d rest) (i : Nat) (hi : i < d.size) : w.cell? ⟨g, i, none⟩ = some (.int kq d[i]!) := by
  rw [Blk.cell h, List.getElem?_append_left (by simpa using hi), List.getElem?_map]
  simp [hi]
theorem SR.frozen (h : SR w g d rest) (i : Nat) : w.frozen? ⟨g, i, none⟩ = false := Blk.frozen h i
theorem SR.past (h : SR w g d rest) (hO : Only [] w w') : SR w' g d rest := hO.blk h (by simp)
theorem SR.lt (h : SR w g d rest) : g < w.heap.size := Blk.lt h
theorem SR.set (h : SR w g d rest) (i : Nat) (hi : i < d.size) (x : Int) : SR (w.setCell ⟨g, i, none⟩ (.int kq x)) g (d.setIfInBounds i x) rest := by
  unfold SR
  refine Blk.to (Blk.set h i (.int kq x)) ?_
  rw [List.set_append_left _ _ (by simpa using hi), Array.toList_setIfInBounds, List.map_set]
theorem SR.swap (h : SR w g d rest) (i j : Nat) (hi : i < d.size) (hj : j < d.size) :
    SR ((w.setCell ⟨g, i, none⟩ (.int kq d[j]!)).setCell ⟨g, j, none⟩ (.int kq d[i]!)) g (swp d i j) rest :=
  (h.set i hi _).set j (by simpa using hj) _
theorem only_swap (hO : Only [g] w w') (i j : Nat) (x y : Value) : Only [g] w ((w'.setCell ⟨g, i, none⟩ x).setCell ⟨g, j, none⟩ y) :=
  (hO.setCell (.inl (by simp)) _).setCell (.inl (by simp)) _
theorem SR.to (h : SR w g d rest) (e : d = d') : SR w g d' rest := e ▸ h
end
theorem nan_any (x : Int) (w : World) : Calls Try.prog 63 #[.int kq x] w fun e w' => e = .returned (.bool false) ∧ w = w' := by
  go_enter Try.func63, Try.ntmps63
  go_wp2
  go_ret
  exact ⟨by simp, rfl⟩
theorem less_any (x y : Int) (w : World) : Calls Try.prog 53 #[.int kq x, .int kq y] w fun e w' => e = .returned (.bool (lt x y)) ∧ w' = w := by
  go_enter Try.func53, Try.ntmps53
  go_wp2_with (go_at_call 63; refine (nan_any _ _).mono ?_; rintro e w' ⟨rfl, rfl⟩)
  go_ret
  exact ⟨by simp [ltInt], rfl⟩
set_option maxHeartbeats 4000000 in
set_option maxRecDepth 1000000 in
theorem ins_any (g cap a b : Nat) (d : Array Int) (rest : List Value) (w : World) (h : SR w g d rest) (hab : a ≤ b) (hb : b ≤ d.size) (hsz : d.size ≤ 1000000) :
    Calls Try.prog 47 #[.slice (some ⟨g, 0, none⟩) d.size cap, .int .i64 a, .int .i64 b] w fun e w' => e = .returned (.tuple #[]) ∧ SR w' g (Sort.insertionSort lt d a b) rest ∧ Only [g] w w' := by
  have H0 := Lib.hid h
  obtain ⟨n, hn⟩ : ∃ n, d.size = n := ⟨_, rfl⟩
  have HN := Lib.hid hn
  rw [hn] at hb hsz ⊢
  clear h hn
  go_enter Try.func47, Try.ntmps47
  go_wp2_with fail
  go_loopg [6] (b + 1 - (a + 1)) (fun gk vi wr => ∃ (i : Nat) (dk : Array Int), gk = b + 1 - i ∧ vi = .int .i64 i ∧ a < i ∧ i ≤ b + 1 ∧ dk.size = n ∧ SR wr g dk rest ∧ Only [g] w wr ∧ insOuter lt a b i dk = insOuter lt a b (a + 1) d)
  case atStart => exact ⟨a + 1, d, rfl, by go_num, by omega, by omega, HN.out, H0.out, Only.refl _ _, rfl⟩
  case round =>
    obtain ⟨i, dk, hgk, rfl, hai, hib, hsk, hr, hO, hI⟩ := hrel
    rename World => w1
    have HGK := Lib.hid hgk
    have HR := Lib.hid hr
    have HO := Lib.hid hO
    have HI := Lib.hid hI
    have HS := Lib.hid hsk
    clear hgk hr hO hI hsk
    have hi0 : (0 : Int) ≤ i := by omega
    by_cases hlt : i < b
    · have hi1 : (i : Int) < b := by omega
      go_wp2_with fail
      go_loopg [7] i (fun gj vj wr => ∃ (j : Nat) (dj : Array Int), gj = j ∧ vj = .int .i64 j ∧ a ≤ j ∧ j ≤ i ∧ dj.size = n ∧ SR wr g dj rest ∧ Only [g] w wr ∧ insInner lt a j dj = insInner lt a i dk)
      case atStart => exact ⟨i, dk, rfl, rfl, by omega, Nat.le_refl _, HS.out, HR.out, HO.out, rfl⟩
      case round =>
        obtain ⟨j, dj, hgj, rfl, haj, hji, hsj, hrj, hOj, hIj⟩ := hrel
        rename World => w2
        have HGJ := Lib.hid hgj
        have RJ := Lib.hid hrj
        have OJ := Lib.hid hOj
        have IJ := Lib.hid hIj
        have SJ := Lib.hid hsj
        clear hgj hrj hOj hIj hsj
        obtain ⟨G, hG⟩ : ∃ G : Nat → Int, ∀ t, G t = dj[t]! := ⟨fun t => dj[t]!, fun _ => rfl⟩
        have hcw : ∀ t, t < n → w2.cell? ⟨g, t, none⟩ = some (.int kq (G t)) := fun t ht => by rw [hG]; exact RJ.out.cell t (by rw [SJ.out]; exact ht)
        have hfw : ∀ t, t < n → w2.frozen? ⟨g, t, none⟩ = false := fun t ht => RJ.out.frozen t
        have HG := Lib.hid hG
        have OUT : Hid ((j ≤ a ∨ lt dj[j]! dj[j - 1]! = false) → ∃ i' dk', b + 1 - (i + 1) = b + 1 - i' ∧ Value.int .i64 ((i : Int) + 1) = .int .i64 (i' : Nat) ∧ a < i' ∧ i' ≤ b + 1 ∧ dk'.size = n ∧ SR w2 g dk' rest ∧ Only [g] w w2 ∧ insOuter lt a b i' dk' = insOuter lt a b (a + 1) d) := fun hs =>
          ⟨i + 1, dj, rfl, by go_num, by omega, by omega, SJ.out, RJ.out, OJ.out, by rw [← HI.out, insOuter_go _ _ _ _ _ hlt, ← IJ.out, insInner_stop _ _ _ _ hs]⟩
        clear hG
        have hjn : j < n := by omega
        have hjn1 : (j : Int) < n := by omega
        go_wp2_with fail
        by_cases hja : a < j
        · obtain ⟨k, hk⟩ : ∃ k, j - 1 = k := ⟨_, rfl⟩
          have HK := Lib.hid hk
          have ew : IntKind.i64.wrap ((j : Int) - 1) = (k : Int) := by rw [IntKind.wrap_i64]; omega
          have hkn : (k : Int) < n := by omega
          have hkn1 : k < n := by omega
          have hkj : k < j := by omega
          clear hk
          go_quiet (first | (go_at_call 53; refine Calls.quiet_of_same (less_any _ _ _)))
          obtain ⟨q, hq⟩ : ∃ q, lt (G j) (G k) = q := ⟨_, rfl⟩
          have HQ : Hid (lt dj[j]! dj[j - 1]! = q) := by show _ = _; rw [HK.out, ← HG.out, ← HG.out]; exact hq
          rw [hq]
          clear hq
          cases q
          · go_wp2_with fail
            go_roundg (b + 1 - (i + 1))
            case measure => have := HGK.out; omega
            case rel =>
              obtain ⟨i', dk', e1, e2, e3⟩ := OUT.out (.inr HQ.out)
              exact ⟨i', dk', e1, e2, e3.1, e3.2.1, e3.2.2.1, e3.2.2.2.1.past ((Only.refl _ _).drewN _), e3.2.2.2.2.1.drewN _, e3.2.2.2.2.2⟩
          · go_wp2_with fail
            go_region
            all_goals go_wp2_with fail
            go_roundg (j - 1)
            case measure => have := HGJ.out; omega
            case rel =>
              refine ⟨j - 1, swp dj j (j - 1), rfl, by rw [HK.out], by omega, by omega, by rw [size_swp]; exact SJ.out, ?_, ?_, ?_⟩
              · rw [HK.out, HG.out, HG.out]
                exact (RJ.out.past ((Only.refl _ _).drewN _)).swap j k (by rw [SJ.out]; omega) (by rw [SJ.out]; omega)
              · exact only_swap (OJ.out.drewN _) j k _ _
              · rw [← IJ.out, insInner_go _ _ _ _ hja HQ.out]
        · go_quiet (first | (go_at_call 53; refine Calls.quiet_of_same (less_any _ _ _)))
          go_wp2_with fail
          go_roundg (b + 1 - (i + 1))
          case measure => have := HGK.out; omega
          case rel =>
            obtain ⟨i', dk', e1, e2, e3⟩ := OUT.out (.inl (by omega))
            exact ⟨i', dk', e1, e2, e3.1, e3.2.1, e3.2.2.1, e3.2.2.2.1.past ((Only.refl _ _).drewN _), e3.2.2.2.2.1.drewN _, e3.2.2.2.2.2⟩
    · have hge : ¬ (i : Int) < b := by omega
      go_wp2_with fail
      go_end0
      refine ⟨rfl, HR.out.to ?_, HO.out⟩
      unfold Sort.insertionSort
      rw [← HI.out, insOuter_stop _ _ _ _ _ hlt]
end Go.Proofs.Ytilkbcoofbkemaa.I
