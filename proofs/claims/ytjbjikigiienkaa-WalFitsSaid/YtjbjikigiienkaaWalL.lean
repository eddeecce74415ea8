/-
  The program's log: Least; lists of bytes that are held against one another: by contracts.
-/
import Derived.Test.YtjbjikigiienkaaWalK
namespace Go.Proofs.Ytjbjikigiienkaa.W
set_option linter.unusedSimpArgs false
open Go.RowKit Go.Proofs.Ytjbjikigiienkaa.D Go.Proofs.Ytjbjikigiienkaa.B
set_option linter.unusedVariables false
variable {W w w' w2 : World} {p d : Nat} {v v' : Value} {l l' : LS} {M M' : List Nat} {s s' : DS}

/-- Slices of bytes that are read, wherever they lie. -/
def RowsAt (w : World) (v : Value) (ls : List (List UInt8)) : Prop :=
  ∃ ao cap, v = .slice ao ls.length cap ∧ (0 < ls.length → ∃ b o, ao = some ⟨b, o, none⟩ ∧ ∀ j, j < ls.length → ∃ x, w.cell? ⟨b, o + j, none⟩ = some x ∧ BytesAt w x (ls.getD j []))
theorem bytes_past {u : Value} {b : List UInt8} (h : BytesAt w u b) (hO : Only [] w w') : BytesAt w' u b := bytes_over h hO (by simp)
theorem RowsAt.past {ls : List (List UInt8)} (h : RowsAt w v ls) (hO : Only [] w w') : RowsAt w' v ls := by
  obtain ⟨ao, cap, rfl, hc⟩ := h
  refine ⟨ao, cap, rfl, fun h0 => ?_⟩
  obtain ⟨b, o, rfl, hc2⟩ := hc h0
  refine ⟨b, o, rfl, fun j hj => ?_⟩
  obtain ⟨x, h1, h2⟩ := hc2 j hj
  exact ⟨x, hO.cell h1 (by simp), bytes_past h2 hO⟩
theorem rows_owned {n : Nat} {xs : List Value} {ls : List (List UInt8)} (h1 : w.ownsRow 0 34 1 v n xs) (h2 : ByteRows 5 w xs ls) (hn : ls.length = n) : RowsAt w v ls := by
  subst hn
  rcases h1.2 with ⟨rfl, h0⟩ | ⟨g, cap, cur, rfl, _, hh, h3, h4, h5, h6⟩
  · obtain rfl : ls = [] := List.eq_nil_of_length_eq_zero h0
    exact ⟨none, 0, rfl, fun h => by simp at h⟩
  · refine ⟨_, cap, rfl, fun h0 => ⟨g, 0, rfl, fun j hj => ⟨xs.getD j undef, ?_, (h2.2 j hj).at⟩⟩⟩
    have := h1.cells (g := g) rfl j (xs.getD j undef) (by rw [List.getD_eq_getElem?_getD, List.getElem?_eq_getElem (by rw [h2.1]; exact hj)]; rfl)
    rw [add_plain] at this
    exact this
theorem RowsTo.at {w0 : World} {B : Nat} {ls : List (List UInt8)} (h : RowsTo w0 w B v ls) : RowsAt w v ls := by
  obtain ⟨xs, h1, h2, _⟩ := h
  exact rows_owned h1 h2 rfl
theorem getD_drop' {α : Type} (b : List α) (n j : Nat) (x : α) : (b.drop n).getD j x = b.getD (n + j) x := by
  rw [List.getD_eq_getElem?_getD, List.getD_eq_getElem?_getD, List.getElem?_drop]
theorem getD_take' {α : Type} (b : List α) (n j : Nat) (x : α) (h : j < n) : (b.take n).getD j x = b.getD j x := by
  rw [List.getD_eq_getElem?_getD, List.getD_eq_getElem?_getD, List.getElem?_take, if_pos h]
def sumL : List Int → Int
  | [] => 0
  | r :: l => r + 4 + sumL l
theorem sumL_snoc (l : List Int) (r : Int) : sumL (l ++ [r]) = sumL l + (r + 4) := by
  induction l with
  | nil => simp [sumL]
  | cons a l ih => simp only [List.cons_append, sumL, ih]; omega
theorem sumL_bounds (l : List Int) (h : ∀ r ∈ l, 0 ≤ r ∧ r ≤ 65536) : 0 ≤ sumL l ∧ sumL l ≤ 65540 * l.length := by
  induction l with
  | nil => simp [sumL]
  | cons a l ih =>
    have h1 := h a (by simp)
    have h2 := ih (fun r hr => h r (by simp [hr]))
    simp only [sumL, List.length_cons]
    omega
def leastS (l : List Int) : Int := max (2 + (sumL l + 511) / 512) 4
set_option maxRecDepth 100000 in
theorem least_any (l : List Int) (h : IntsAt w v l) (hl : l.length ≤ 10000) (hr : ∀ r ∈ l, 0 ≤ r ∧ r ≤ 65536) :
    Calls Try.prog 19 #[v] w fun e w' => e = .returned (.int .i64 (leastS l)) ∧ w = w' := by
  obtain ⟨ao, cap, rfl, hc⟩ := h
  have HC := Lib.hid hc
  have HR := Lib.hid hr
  have HB := Lib.hid (sumL_bounds l hr)
  have HS : Hid (leastS l = max (2 + (sumL l + 511) / 512) 4) := rfl
  obtain ⟨n, hn⟩ : ∃ n, l.length = n := ⟨_, rfl⟩
  have HN := Lib.hid hn
  rw [hn] at hl ⊢
  clear hc hr hn
  go_enter Try.func19, Try.ntmps19
  go_wp2_with fail
  go_loopg [3, 11] n (fun gk s3 i wr => ∃ k : Nat, gk = n - k ∧ k ≤ n ∧ i = .int .i64 k ∧ s3 = .int .i64 (sumL (l.take k)) ∧ wr = w)
  case atStart => exact ⟨0, by omega, Nat.zero_le _, rfl, rfl, rfl⟩
  case round =>
    obtain ⟨k, hgk, hk, rfl, rfl, rfl⟩ := hrel
    have HGK := Lib.hid hgk
    clear hgk
    have hb := sumL_bounds (l.take k) (fun r hr => HR.out r (List.mem_of_mem_take hr))
    have hlk : (l.take k).length ≤ k := List.length_take_le _ _
    by_cases hlt : k < n
    · have hk0 : (0 : Int) ≤ k := by omega
      have hk1 : (k : Int) < n := by omega
      obtain ⟨b, o, rfl, hc⟩ := HC.out (by rw [HN.out]; omega)
      have ck := hc k (by rw [HN.out]; exact hlt)
      have hx := HR.out (l.getD k 0) (by rw [List.getD_eq_getElem?_getD, List.getElem?_eq_getElem (by rw [HN.out]; exact hlt)]; exact List.getElem_mem _)
      have HSN : Hid (sumL (l.take (k + 1)) = sumL (l.take k) + (l.getD k 0 + 4)) := by
        show _ = _
        rw [List.take_succ_eq_append_getElem (by rw [HN.out]; exact hlt), sumL_snoc, List.getD_eq_getElem?_getD, List.getElem?_eq_getElem (by rw [HN.out]; exact hlt)]; rfl
      generalize l.getD k 0 = x at *
      generalize sumL (l.take k) = q at *
      have hx1 : ¬ x < 0 := by omega
      have hx2 : ¬ 65536 < x := by omega
      clear hc
      go_wp2_with fail
      go_roundg (n - (k + 1))
      case measure => have := HGK.out; omega
      case rel => exact ⟨k + 1, rfl, by omega, by go_num, by rw [HSN.out], rfl⟩
    · obtain rfl : k = n := by omega
      have hk1 : ¬ (k : Int) < k := by omega
      have HT : Hid (sumL (l.take k) = sumL l) := by show _ = _; rw [List.take_of_length_le (by rw [HN.out]; exact Nat.le_refl _)]
      have hb2 := HB.out
      rw [HN.out] at hb2
      rw [HT.out]
      generalize sumL l = q at *
      have hq : IntKind.i64.wrap ((q + 512 - 1).tdiv 512) = (q + 511) / 512 := by rw [IntKind.wrap_i64, Int.tdiv_eq_ediv_of_nonneg (by omega)]; omega
      have hq2 : (q + 512 - 1) / 512 = (q + 511) / 512 := by omega
      go_wp2_with fail
      all_goals (go_ret; exact ⟨ret_int (by rw [HS.out]; omega), rfl⟩)
set_option maxRecDepth 100000 in
theorem lists_any {x y : Value} {a b : List (List UInt8)} (hx : RowsAt w x a) (hy : RowsAt w y b) (hl : a.length ≤ 16777216) :
    Calls Try.prog 20 #[x, y] w fun e w' => e = .returned (.bool (a == b)) ∧ Only [] w w' := by
  obtain ⟨ao, cap, rfl, hc⟩ := hx
  obtain ⟨bo, cbp, rfl, hd⟩ := hy
  have HC := Lib.hid hc
  have HD := Lib.hid hd
  obtain ⟨n, hn⟩ : ∃ n, a.length = n := ⟨_, rfl⟩
  obtain ⟨m, hm⟩ : ∃ m, b.length = m := ⟨_, rfl⟩
  have HN := Lib.hid hn
  have HM := Lib.hid hm
  rw [hn] at hl ⊢
  rw [hm]
  clear hc hd hn hm
  by_cases hnm : n = m
  · subst hnm
    go_enter Try.func20, Try.ntmps20
    go_wp2_with fail
    go_loopg [5] n (fun gk i wr => ∃ k : Nat, gk = n - k ∧ k ≤ n ∧ i = .int .i64 k ∧ a.take k = b.take k ∧ Only [] w wr)
    case atStart => exact ⟨0, by omega, Nat.zero_le _, rfl, rfl, Only.refl _ _⟩
    case round =>
      obtain ⟨k, hgk, hk, rfl, he, hO⟩ := hrel
      have HGK := Lib.hid hgk
      have HE := Lib.hid he
      have O := Lib.hid hO
      clear hgk he hO
      by_cases hlt : k < n
      · have hk0 : (0 : Int) ≤ k := by omega
        have hk1 : (k : Int) < n := by omega
        obtain ⟨b1, o1, rfl, hc⟩ := HC.out (by rw [HN.out]; omega)
        obtain ⟨b2, o2, rfl, hd⟩ := HD.out (by rw [HM.out]; omega)
        obtain ⟨x, cx, bx⟩ := hc k (by rw [HN.out]; exact hlt)
        obtain ⟨y, cy, by'⟩ := hd k (by rw [HM.out]; exact hlt)
        have cx := O.out.cell cx (by simp)
        have cy := O.out.cell cy (by simp)
        have kx : ∀ m, (convert 34 9 x).run Try.prog (wr.drewN m) = .ok (.string ⟨(a.getD k []).toArray⟩) (wr.drewN m) := fun m => bytes_string (bytes_past bx (O.out.drewN m))
        have ky : ∀ m, (convert 34 9 y).run Try.prog (wr.drewN m) = .ok (.string ⟨(b.getD k []).toArray⟩) (wr.drewN m) := fun m => bytes_string (bytes_past by' (O.out.drewN m))
        have ha1 : a.take (k + 1) = a.take k ++ [a.getD k []] := by
          rw [List.take_succ_eq_append_getElem (by rw [HN.out]; exact hlt), List.getD_eq_getElem?_getD, List.getElem?_eq_getElem (by rw [HN.out]; exact hlt)]; rfl
        have hb1 : b.take (k + 1) = b.take k ++ [b.getD k []] := by
          rw [List.take_succ_eq_append_getElem (by rw [HM.out]; exact hlt), List.getD_eq_getElem?_getD, List.getElem?_eq_getElem (by rw [HM.out]; exact hlt)]; rfl
        have HA1 := Lib.hid ha1
        have HB1 := Lib.hid hb1
        have HNE : Hid (a.getD k [] ≠ b.getD k [] → (a == b) = false) := fun h => by
          simp only [beq_eq_false_iff_ne, ne_eq]
          intro h2; exact h (by rw [h2])
        generalize a.getD k [] = ak at *
        generalize b.getD k [] = bk at *
        generalize hq : (ak == bk) = q at *
        have HQ := Lib.hid hq
        clear hc hd ha1 hb1 hq
        cases q
        · have hq := HQ.out
          go_wp2_with fail
          go_quiet (fail)
          go_wp2_with fail
          go_ret
          exact ⟨by rw [HNE.out (by have := HQ.out; simpa using this)]; rfl, O.out.drewN _⟩
        · have hq := HQ.out
          go_wp2_with fail
          go_quiet (fail)
          go_wp2_with fail
          go_roundg (n - (k + 1))
          case measure => have := HGK.out; omega
          case rel => exact ⟨k + 1, rfl, by omega, by go_num, by rw [HA1.out, HB1.out, HE.out, show ak = bk by have := HQ.out; simpa using this], O.out.drewN _⟩
      · obtain rfl : k = n := by omega
        have hk1 : ¬ (k : Int) < k := by omega
        have HAB : Hid (a = b) := by
          have := HE.out
          rw [List.take_of_length_le (by rw [HN.out]; exact Nat.le_refl _), List.take_of_length_le (by rw [HM.out]; exact Nat.le_refl _)] at this
          exact this
        go_wp2_with fail
        go_ret
        exact ⟨by rw [HAB.out]; simp, O.out⟩
  · have hnm1 : ((n : Int) == (m : Int)) = false := by simp; omega
    have hnm2 : ((n : Int) != (m : Int)) = true := by simp; omega
    have HNE := Lib.hid hnm
    clear hnm
    go_enter Try.func20, Try.ntmps20
    go_wp2_with fail
    go_ret
    refine ⟨?_, Only.refl _ _⟩
    have : (a == b) = false := by
      simp only [beq_eq_false_iff_ne, ne_eq]
      intro h
      have := HNE.out
      rw [← HN.out, ← HM.out, h] at this
      exact this rfl
    rw [this]
    rfl
end Go.Proofs.Ytjbjikigiienkaa.W
