/-
  slices.Sort's family at ints of one kind: the pivot's choice; a range reversed: by contracts.
-/
import Derived.Test.YtilkbcoofbkemaaSortB
namespace Go.Proofs.Ytilkbcoofbkemaa.I
set_option linter.unusedSimpArgs false
open Go Go.RowKit Go.Sort
set_option linter.unusedVariables false

/-- The count of swaps, in a box. -/
def Box (w : World) (sb : Nat) (s : Int) : Prop := Blk w sb [.int .i64 s] 3
theorem Box.cell {w : World} {sb : Nat} {s : Int} (h : Box w sb s) : w.cell? ⟨sb, 0, none⟩ = some (.int .i64 s) := Blk.cell h 0
set_option maxHeartbeats 1000000 in
set_option maxRecDepth 1000000 in
theorem order2_any (g cap a b sb : Nat) (s : Int) (d : Array Int) (rest : List Value) (w : World) (h : SR w g d rest) (hs : Box w sb s) (hne : g ≠ sb) (ha : a < d.size) (hb : b < d.size) (hsz : d.size ≤ 1000000) :
    Calls Try.prog 64 #[.slice (some ⟨g, 0, none⟩) d.size cap, .int .i64 a, .int .i64 b, .pointer (some ⟨sb, 0, none⟩)] w fun e w' => ∃ (x y : Nat) (s' : Int), e = .returned (.tuple #[.int .i64 x, .int .i64 y]) ∧ ((x = a ∧ y = b) ∨ (x = b ∧ y = a)) ∧ Box w' sb s' ∧ Only [sb] w w' := by
  have HR := Lib.hid h
  have HB := Lib.hid hs
  obtain ⟨n, hn⟩ : ∃ n, d.size = n := ⟨_, rfl⟩
  have HN := Lib.hid hn
  rw [hn] at ha hb hsz ⊢
  obtain ⟨G, hG⟩ : ∃ G : Nat → Int, ∀ t, G t = d[t]! := ⟨fun t => d[t]!, fun _ => rfl⟩
  have hcw : ∀ t, t < n → w.cell? ⟨g, t, none⟩ = some (.int kq (G t)) := fun t ht => by rw [hG]; exact HR.out.cell t (by rw [HN.out]; exact ht)
  have cs := HB.out.cell
  have fs := Blk.frozen HB.out 0
  have ha1 : (a : Int) < n := by omega
  have hb1 : (b : Int) < n := by omega
  clear h hn hs hG
  go_enter Try.func64, Try.ntmps64
  go_wp2_with fail
  go_quiet (first | (go_at_call 53; refine Calls.quiet_of_same (less_any _ _ _)))
  obtain ⟨q, hq⟩ : ∃ q, lt (G b) (G a) = q := ⟨_, rfl⟩
  rw [hq]
  clear hq
  cases q
  · go_wp2_with fail
    go_ret2
    exact ⟨a, b, s, rfl, .inl ⟨rfl, rfl⟩, Blk.drewN HB.out _, (Only.refl _ _).drewN _⟩
  · go_wp2_with fail
    first | go_region | skip
    all_goals go_wp2_with fail
    go_ret2
    exact ⟨b, a, _, rfl, .inr ⟨rfl, rfl⟩, Blk.set (Blk.drewN HB.out _) 0 _, ((Only.refl _ _).drewN _).setCell (.inl (by simp)) _⟩
theorem SR.beside {w w' : World} {g sb : Nat} {d : Array Int} {rest : List Value} (h : SR w g d rest) (hne : g ≠ sb) (hO : Only [sb] w w') : SR w' g d rest := hO.blk h (by simpa using hne)
set_option maxHeartbeats 1000000 in
set_option maxRecDepth 1000000 in
theorem median_any (g cap a b c sb : Nat) (s : Int) (d : Array Int) (rest : List Value) (w : World) (h : SR w g d rest) (hs : Box w sb s) (hne : g ≠ sb) (ha : a < d.size) (hb : b < d.size) (hc : c < d.size) (hsz : d.size ≤ 1000000) :
    Calls Try.prog 62 #[.slice (some ⟨g, 0, none⟩) d.size cap, .int .i64 a, .int .i64 b, .int .i64 c, .pointer (some ⟨sb, 0, none⟩)] w fun e w' => ∃ (x : Nat) (s' : Int), e = .returned (.int .i64 x) ∧ (x = a ∨ x = b ∨ x = c) ∧ Box w' sb s' ∧ Only [sb] w w' := by
  have O1 := Lib.hid (fun (w1 : World) (h1 : SR w1 g d rest) (x y : Nat) (s1 : Int) (hb1 : Box w1 sb s1) (hx : x < d.size) (hy : y < d.size) => order2_any g cap x y sb s1 d rest w1 h1 hb1 hne hx hy hsz)
  have HR := Lib.hid h
  have HB := Lib.hid hs
  have HA := Lib.hid (And.intro ha (And.intro hb hc))
  obtain ⟨n, hn⟩ : ∃ n, d.size = n := ⟨_, rfl⟩
  rw [hn] at O1 HA ha hb hc ⊢
  clear h hn hs hsz ha hb hc
  go_enter Try.func62, Try.ntmps62
  go_wp2_with fail
  refine (O1.out w HR.out a b s HB.out HA.out.1 HA.out.2.1).mono ?_
  rintro e w1 ⟨x1, y1, s1, rfl, hxy1, hB1, hO1⟩
  have X1 := Lib.hid hxy1
  have B1 := Lib.hid hB1
  have P1 := Lib.hid hO1
  have R1 := Lib.hid (HR.out.beside hne hO1)
  have L1 : Hid (x1 < n ∧ y1 < n) := by have := HA.out; rcases hxy1 with ⟨rfl, rfl⟩ | ⟨rfl, rfl⟩ <;> exact ⟨by omega, by omega⟩
  clear hxy1 hB1 hO1
  go_wp2_with fail
  refine (O1.out w1 R1.out y1 c s1 B1.out L1.out.2 HA.out.2.2).mono ?_
  rintro e w2 ⟨x2, y2, s2, rfl, hxy2, hB2, hO2⟩
  have X2 := Lib.hid hxy2
  have B2 := Lib.hid hB2
  have P2 := Lib.hid (P1.out.trans hO2 (fun x hx => .inl hx))
  have R2 := Lib.hid (R1.out.beside hne hO2)
  have L2 : Hid (x2 < n ∧ y2 < n) := by have := HA.out; have := L1.out; rcases hxy2 with ⟨rfl, rfl⟩ | ⟨rfl, rfl⟩ <;> exact ⟨by omega, by omega⟩
  clear hxy2 hB2 hO2
  go_wp2_with fail
  refine (O1.out w2 R2.out x1 x2 s2 B2.out L1.out.1 L2.out.1).mono ?_
  rintro e w3 ⟨x3, y3, s3, rfl, hxy3, hB3, hO3⟩
  have X3 := Lib.hid hxy3
  have B3 := Lib.hid hB3
  have P3 := Lib.hid (P2.out.trans hO3 (fun x hx => .inl hx))
  clear hxy3 hB3 hO3
  go_wp2_with fail
  go_ret
  refine ⟨y3, s3, rfl, ?_, B3.out, P3.out⟩
  have h1 := X1.out
  have h2 := X2.out
  have h3 := X3.out
  omega
theorem medA_any (g cap a sb : Nat) (s : Int) (d : Array Int) (rest : List Value) (w : World) (h : SR w g d rest) (hs : Box w sb s) (hne : g ≠ sb) (ha0 : 0 < a) (ha : a + 1 < d.size) (hsz : d.size ≤ 1000000) :
    Calls Try.prog 61 #[.slice (some ⟨g, 0, none⟩) d.size cap, .int .i64 a, .pointer (some ⟨sb, 0, none⟩)] w fun e w' => ∃ (x : Nat) (s' : Int), e = .returned (.int .i64 x) ∧ (a ≤ x + 1 ∧ x ≤ a + 1) ∧ Box w' sb s' ∧ Only [sb] w w' := by
  obtain ⟨p, hp⟩ : ∃ p, a - 1 = p := ⟨_, rfl⟩
  obtain ⟨q, hq⟩ : ∃ q, a + 1 = q := ⟨_, rfl⟩
  have ep : (a : Int) - 1 = (p : Int) := by omega
  have eq : (a : Int) + 1 = (q : Int) := by omega
  have ew : IntKind.i64.wrap (p : Int) = (p : Int) := by rw [IntKind.wrap_i64]; omega
  have ew2 : IntKind.i64.wrap (q : Int) = (q : Int) := by rw [IntKind.wrap_i64]; omega
  have M := Lib.hid (median_any g cap p a q sb s d rest w h hs hne (by omega) (by omega) (by omega) hsz)
  have HA := Lib.hid (And.intro hp (And.intro hq ha0))
  clear hp hq h hs
  go_enter Try.func61, Try.ntmps61
  go_wp2_with fail
  refine M.out.mono ?_
  rintro e w1 ⟨x, s', rfl, hx, hB, hO⟩
  have X := Lib.hid hx
  have B1 := Lib.hid hB
  have P1 := Lib.hid hO
  clear hx hB hO
  go_wp2_with fail
  go_ret
  refine ⟨x, s', rfl, ?_, B1.out, P1.out⟩
  have := X.out
  have := HA.out
  omega
set_option maxHeartbeats 2000000 in
set_option maxRecDepth 1000000 in
theorem pivot_any (g cap a b : Nat) (d : Array Int) (rest : List Value) (w : World) (h : SR w g d rest) (hl : a + 12 < b) (hb : b ≤ d.size) (hsz : d.size ≤ 1000000) :
    Calls Try.prog 50 #[.slice (some ⟨g, 0, none⟩) d.size cap, .int .i64 a, .int .i64 b] w fun e w' => ∃ (p : Nat) (hint : Int), e = .returned (.tuple #[.int .i64 p, .int .i64 hint]) ∧ a ≤ p ∧ p < b ∧ 0 ≤ hint ∧ hint ≤ 2 ∧ Only [] w w' := by
  have HA1 := Lib.hid (fun (w1 : World) (h1 : SR w1 g d rest) (x : Nat) (s1 : Int) (hb1 : Box w1 w.heap.size s1) (hx0 : 0 < x) (hx : x + 1 < d.size) => medA_any g cap x w.heap.size s1 d rest w1 h1 hb1 (by have := h.lt; omega) hx0 hx hsz)
  have HM1 := Lib.hid (fun (w1 : World) (h1 : SR w1 g d rest) (x y z : Nat) (s1 : Int) (hb1 : Box w1 w.heap.size s1) (hx : x < d.size) (hy : y < d.size) (hz : z < d.size) => median_any g cap x y z w.heap.size s1 d rest w1 h1 hb1 (by have := h.lt; omega) hx hy hz hsz)
  have HR := Lib.hid (h.past ((Only.refl [] w).alloc (.cells #[.int .i64 0] 3)))
  have HB : Hid (Box (w.alloc (.cells #[.int .i64 0] 3)) w.heap.size 0) := Blk.new' _ _ _ rfl
  have HN : Hid (g ≠ w.heap.size) := by have := h.lt; show _ ≠ _; omega
  have HO : Hid (Only [w.heap.size] w (w.alloc (.cells #[.int .i64 0] 3))) := (Only.refl _ _).alloc _
  have HW : Hid (∀ w', Only [w.heap.size] w w' → Only [] w w') := fun w' hw => hw.mono (fun x hx => by simp at hx; subst hx; exact .inr (Nat.le_refl _))
  obtain ⟨n, hn⟩ : ∃ n, d.size = n := ⟨_, rfl⟩
  rw [hn] at HA1 HM1 hb hsz ⊢
  obtain ⟨l, hl0⟩ : ∃ l, b - a = l := ⟨_, rfl⟩
  obtain ⟨l4, hl4⟩ : ∃ l4, l / 4 = l4 := ⟨_, rfl⟩
  obtain ⟨i0, hi0⟩ : ∃ i0, a + l4 = i0 := ⟨_, rfl⟩
  obtain ⟨j0, hj0⟩ : ∃ j0, a + l4 * 2 = j0 := ⟨_, rfl⟩
  obtain ⟨k0, hk0⟩ : ∃ k0, a + l4 * 3 = k0 := ⟨_, rfl⟩
  have el : (b : Int) - a = (l : Int) := by omega
  have el4 : (l : Int).tdiv 4 = (l4 : Int) := by rw [Int.tdiv_eq_ediv_of_nonneg (by omega)]; omega
  have ei0 : (a : Int) + l4 = (i0 : Int) := by omega
  have ej0 : (a : Int) + l4 * 2 = (j0 : Int) := by omega
  have ek0 : (a : Int) + l4 * 3 = (k0 : Int) := by omega
  have HE := Lib.hid (And.intro hl0 (And.intro hl4 (And.intro hi0 (And.intro hj0 hk0))))
  have hl8 : (8 : Int) ≤ l := by omega
  have hl12 : 12 < l := by omega
  have hl4s : l4 ≤ 250000 := by omega
  clear h hn hl0 hl4 hi0 hj0 hk0
  by_cases h50 : 50 ≤ l
  · have h50i : (50 : Int) ≤ l := by omega
    go_enter Try.func50, Try.ntmps50
    go_wp2_with fail
    refine (HA1.out _ HR.out i0 0 HB.out (by have := HE.out; omega) (by have := HE.out; omega)).mono ?_
    rintro e w1 ⟨i1, s1, rfl, hi1, hB1, hO1⟩
    have X1 := Lib.hid hi1
    have B1 := Lib.hid hB1
    have P1 := Lib.hid (HO.out.trans hO1 (fun x hx => .inl hx))
    have R1 := Lib.hid (HR.out.beside HN.out hO1)
    clear hi1 hB1 hO1
    go_wp2_with fail
    refine (HA1.out _ R1.out j0 s1 B1.out (by have := HE.out; omega) (by have := HE.out; omega)).mono ?_
    rintro e w2 ⟨j1, s2, rfl, hj1, hB2, hO2⟩
    have X2 := Lib.hid hj1
    have B2 := Lib.hid hB2
    have P2 := Lib.hid (P1.out.trans hO2 (fun x hx => .inl hx))
    have R2 := Lib.hid (R1.out.beside HN.out hO2)
    clear hj1 hB2 hO2
    go_wp2_with fail
    refine (HA1.out _ R2.out k0 s2 B2.out (by have := HE.out; omega) (by have := HE.out; omega)).mono ?_
    rintro e w3 ⟨k1, s3, rfl, hk1, hB3, hO3⟩
    have X3 := Lib.hid hk1
    have B3 := Lib.hid hB3
    have P3 := Lib.hid (P2.out.trans hO3 (fun x hx => .inl hx))
    have R3 := Lib.hid (R2.out.beside HN.out hO3)
    clear hk1 hB3 hO3
    have LL : Hid ((a ≤ i1 ∧ i1 < b) ∧ (a ≤ j1 ∧ j1 < b) ∧ (a ≤ k1 ∧ k1 < b)) := by
      have h1 := X1.out; have h2 := X2.out; have h3 := X3.out; have h4 := HE.out
      exact ⟨⟨by omega, by omega⟩, ⟨by omega, by omega⟩, ⟨by omega, by omega⟩⟩
    go_wp2_with fail
    refine (HM1.out _ R3.out i1 j1 k1 s3 B3.out (by have := LL.out; omega) (by have := LL.out; omega) (by have := LL.out; omega)).mono ?_
    rintro e w4 ⟨x, s, rfl, hx, hB4, hO4⟩
    have XX : Hid (a ≤ x ∧ x < b) := by have := LL.out; exact ⟨by omega, by omega⟩
    have BX := Lib.hid hB4
    have PX := Lib.hid (HW.out _ (P3.out.trans hO4 (fun x hx => .inl hx)))
    clear hx hB4 hO4
    have c0 := BX.out.cell
    by_cases h0 : s = 0
    · subst h0
      go_wp2_with fail
      go_ret2
      exact ⟨x, 1, rfl, XX.out.1, XX.out.2, by omega, by omega, PX.out⟩
    · by_cases h12 : s = 12
      · subst h12
        go_wp2_with fail
        go_ret2
        exact ⟨x, 2, rfl, XX.out.1, XX.out.2, by omega, by omega, PX.out⟩
      · have h0b : (s == 0) = false := by simpa using h0
        have h12b : (s == 12) = false := by simpa using h12
        clear h0 h12
        go_wp2_with fail
        go_ret2
        exact ⟨x, 0, rfl, XX.out.1, XX.out.2, by omega, by omega, PX.out⟩
  · have h50i : ¬ (50 : Int) ≤ l := by omega
    go_enter Try.func50, Try.ntmps50
    go_wp2_with fail
    refine (HM1.out _ HR.out i0 j0 k0 0 HB.out (by have := HE.out; omega) (by have := HE.out; omega) (by have := HE.out; omega)).mono ?_
    rintro e w4 ⟨x, s, rfl, hx, hB4, hO4⟩
    have XX : Hid (a ≤ x ∧ x < b) := by have := HE.out; exact ⟨by omega, by omega⟩
    have BX := Lib.hid hB4
    have PX := Lib.hid (HW.out _ (HO.out.trans hO4 (fun x hx => .inl hx)))
    clear hx hB4 hO4
    have c0 := BX.out.cell
    by_cases h0 : s = 0
    · subst h0
      go_wp2_with fail
      go_ret2
      exact ⟨x, 1, rfl, XX.out.1, XX.out.2, by omega, by omega, PX.out⟩
    · by_cases h12 : s = 12
      · subst h12
        go_wp2_with fail
        go_ret2
        exact ⟨x, 2, rfl, XX.out.1, XX.out.2, by omega, by omega, PX.out⟩
      · have h0b : (s == 0) = false := by simpa using h0
        have h12b : (s == 12) = false := by simpa using h12
        clear h0 h12
        go_wp2_with fail
        go_ret2
        exact ⟨x, 0, rfl, XX.out.1, XX.out.2, by omega, by omega, PX.out⟩
/-- The row is permuted between a and b. -/
def Perms (w : World) (g a b : Nat) (d : Array Int) (rest : List Value) (w' : World) : Prop := ∃ d', SR w' g d' rest ∧ PermIn a b d d' ∧ Only [g] w w'
set_option maxHeartbeats 2000000 in
set_option maxRecDepth 1000000 in
theorem rev_any (g cap a b : Nat) (d : Array Int) (rest : List Value) (w : World) (h : SR w g d rest) (hab : a < b) (hb : b ≤ d.size) (hsz : d.size ≤ 1000000) :
    Calls Try.prog 51 #[.slice (some ⟨g, 0, none⟩) d.size cap, .int .i64 a, .int .i64 b] w fun e w' => e = .returned (.tuple #[]) ∧ Perms w g a b d rest w' := by
  have H0 := Lib.hid h
  obtain ⟨n, hn⟩ : ∃ n, d.size = n := ⟨_, rfl⟩
  have HN := Lib.hid hn
  rw [hn] at hb hsz ⊢
  clear h hn
  go_enter Try.func51, Try.ntmps51
  go_wp2_with fail
  go_loopg [6, 7] (b - 1) (fun gk v6 v7 wr => ∃ (i j : Nat) (dk : Array Int), gk = j ∧ v6 = .int .i64 i ∧ v7 = .int .i64 j ∧ a ≤ i ∧ j < b ∧ dk.size = n ∧ PermIn a b d dk ∧ SR wr g dk rest ∧ Only [g] w wr)
  case atStart => exact ⟨a, b - 1, d, rfl, rfl, by go_num, Nat.le_refl _, by omega, HN.out, permIn_refl _ _ _, H0.out, Only.refl _ _⟩
  case round =>
    obtain ⟨i, j, dk, hgk, rfl, rfl, hai, hjb, hsk, hP, hr, hO⟩ := hrel
    rename World => w1
    have HGK := Lib.hid hgk
    have HR := Lib.hid hr
    have HO := Lib.hid hO
    have HP := Lib.hid hP
    have HS := Lib.hid hsk
    clear hgk hr hO hP hsk
    by_cases hij : i < j
    · have hij1 : (i : Int) < j := by omega
      have hjn : j < n := by omega
      have hin : i < n := by omega
      have hjn1 : (j : Int) < n := by omega
      have hin1 : (i : Int) < n := by omega
      obtain ⟨G, hG⟩ : ∃ G : Nat → Int, ∀ t, G t = dk[t]! := ⟨fun t => dk[t]!, fun _ => rfl⟩
      have hcw : ∀ t, t < n → w1.cell? ⟨g, t, none⟩ = some (.int kq (G t)) := fun t ht => by rw [hG]; exact HR.out.cell t (by rw [HS.out]; exact ht)
      have hfw : ∀ t, t < n → w1.frozen? ⟨g, t, none⟩ = false := fun t ht => HR.out.frozen t
      have HG := Lib.hid hG
      clear hG
      go_wp2_with fail
      go_region
      all_goals go_wp2_with fail
      go_roundg (j - 1)
      case measure => have := HGK.out; omega
      case rel =>
        refine ⟨i + 1, j - 1, swp dk i j, rfl, by go_num, by go_num, by omega, by omega, by rw [size_swp]; exact HS.out, ?_, ?_, only_swap (HO.out.drewN _) _ _ _ _⟩
        · exact permIn_trans _ _ _ _ _ HP.out (swp_permIn _ _ _ _ _ hai (by omega) (by omega) hjb (by rw [HS.out]; exact hb))
        · rw [HG.out, HG.out]
          exact (HR.out.past ((Only.refl _ _).drewN _)).swap i j (by rw [HS.out]; omega) (by rw [HS.out]; omega)
    · have hij1 : ¬ (i : Int) < j := by omega
      go_wp2_with fail
      go_end0
      exact ⟨rfl, dk, HR.out, HP.out, HO.out⟩
end Go.Proofs.Ytilkbcoofbkemaa.I
