import Derived.Test.YtfkmjbpnjgnkbaaGreatMSortE
import Derived.Lib.Strings
import Derived.Lib.Slices
import Derived.Lib.Small
import Derived.Lib.Walk
import Derived.Lib.BitFns
import Derived.Laws.Bits64b
import Derived.Laws.BitsAllLaws
/-
  slices.Sort's family at ints of one kind: bits.Len; the patterns broken; pdqsort; Sort: by contracts.
-/
namespace Go.Proofs.YtfkmjbpnjgnkbaaGreat.I
set_option linter.unusedSimpArgs false
open Go Go.RowKit Go.Sort
set_option linter.unusedVariables false

set_option maxRecDepth 100000 in
theorem tab_size : (Lib.len8tab.size : Int) = 256 := by
  have : Lib.len8tab.size = 256 := by decide
  omega
theorem tab_get (y : Int) (h : y.toNat < Lib.len8tab.size) : ((Lib.len8tab[y.toNat]'h).toNat : Int) = Lib.len8 y := by
  unfold Lib.len8
  rw [getElem?_pos Lib.len8tab y.toNat h]
  rfl
theorem wrap_len (k a b : Nat) (hk : k ≤ 56) (ha : a ≤ 8) (hb : b = k + a) : wrap64 ((k : Int) + wrap64 (a : Int)) = (b : Int) := by
  unfold wrap64; omega
theorem wrap_len0 (a : Nat) (ha : a ≤ 8) : wrap64 (wrap64 (a : Int)) = (a : Int) := by
  unfold wrap64; omega
set_option maxHeartbeats 4000000 in
set_option maxRecDepth 1000000 in
theorem len64_any (x : Int) (w : World) (h0 : 0 ≤ x) (h1 : x ≤ 1048575) : Calls Tryz.prog 91 #[.int .u64 x] w fun e w' => e = .returned (.int .i64 (Lib.bitLen x.toNat)) ∧ w = w' := by
  have h32 : ¬ (4294967296 : Int) ≤ x := by omega
  go_enter Tryz.func91, Tryz.ntmps91
  go_wp2
  all_goals first
    | (go_ret; refine ⟨congrArg Ending.returned (congrArg (Value.int IntKind.i64) ?_), rfl⟩)
    | (exfalso
       have hs := tab_size
       omega)
  all_goals first
    | (rw [tab_get (x / 65536) _, Lib.len8_of (x / 65536) (by omega) (by omega)]
       have e : (x / 65536).toNat = x.toNat / 65536 := by omega
       have l := Lib.bitLen_le8' (x / 65536) (by omega) (by omega)
       have s := Lib.bitLen_shift16 x.toNat (by omega) (by omega)
       rw [e] at l ⊢
       exact wrap_len 16 _ _ (by omega) l s)
    | (rw [tab_get (x / 256) _, Lib.len8_of (x / 256) (by omega) (by omega)]
       have e : (x / 256).toNat = x.toNat / 256 := by omega
       have l := Lib.bitLen_le8' (x / 256) (by omega) (by omega)
       have s := Lib.bitLen_shift8 x.toNat (by omega) (by omega)
       rw [e] at l ⊢
       exact wrap_len 8 _ _ (by omega) l s)
    | (rw [tab_get x _, Lib.len8_of x (by omega) (by omega)]
       have l := Lib.bitLen_le8' x (by omega) (by omega)
       exact wrap_len0 _ l)
theorem len_any (x : Nat) (w : World) (h1 : x ≤ 1048575) : Calls Tryz.prog 65 #[.int .u64 x] w fun e w' => e = .returned (.int .i64 (Lib.bitLen x)) ∧ w = w' := by
  have L := Lib.hid (len64_any x w (by omega) (by omega))
  go_enter Tryz.func65, Tryz.ntmps65
  go_wp2_with (go_at_call 91; refine L.out.mono ?_; rintro e w' ⟨rfl, rfl⟩)
  go_ret
  exact ⟨by simp, rfl⟩
theorem bitLen_zero : Lib.bitLen 0 = 0 := by decide
theorem bitLen_two (n : Nat) : ∀ x : Nat, x ≤ n → x < 2 ^ 64 → x < 2 ^ Lib.bitLen x ∧ 2 ^ Lib.bitLen x ≤ 2 * x + 1 := by
  induction n with
  | zero => intro x hx _; obtain rfl : x = 0 := by omega
            rw [bitLen_zero]; decide
  | succ n ih =>
    intro x hx h64
    by_cases h0 : x = 0
    · subst h0; rw [bitLen_zero]; decide
    · rw [Lib.bitLen_half x h0 h64, Nat.pow_add, Nat.pow_one]
      have := ih (x / 2) (by omega) (by omega)
      by_cases h1 : x / 2 = 0
      · rw [h1, bitLen_zero]; omega
      · have he : 2 ^ Lib.bitLen (x / 2) ≤ 2 * (x / 2) := by
          have hpos : 0 < Lib.bitLen (x / 2) := by rw [Lib.bitLen_half _ h1 (by omega)]; omega
          obtain ⟨k, hk⟩ : ∃ k, Lib.bitLen (x / 2) = k + 1 := ⟨Lib.bitLen (x / 2) - 1, by omega⟩
          rw [hk, Nat.pow_succ] at this ⊢
          omega
        omega
theorem bitLen_le20 (x : Nat) (h : x ≤ 1048575) : Lib.bitLen x ≤ 20 := Lib.bitLen_le x 20 (by omega) (by omega)
theorem pow_le20 (k : Nat) (h : k ≤ 20) : 2 ^ k ≤ 1048576 := Nat.pow_le_pow_right (by omega) h
set_option maxHeartbeats 1000000 in
theorem npow_any (x : Nat) (w : World) (h1 : x ≤ 524287) (h0 : 0 < x) : Calls Tryz.prog 108 #[.int .i64 x] w fun e w' => ∃ k m : Nat, e = .returned (.int .u64 m) ∧ m = 2 ^ k ∧ x < m ∧ m ≤ 2 * x ∧ w = w' := by
  have L := Lib.hid (len_any x w (by omega))
  obtain ⟨k, hk⟩ : ∃ k, Lib.bitLen x = k := ⟨_, rfl⟩
  have B := Lib.hid (bitLen_two x x (Nat.le_refl _) (by omega))
  have hk20 : k ≤ 20 := by rw [← hk]; exact bitLen_le20 x (by omega)
  rw [hk] at L B
  obtain ⟨m, hm⟩ : ∃ m, 2 ^ k = m := ⟨_, rfl⟩
  have em : (2 : Int) ^ k = (m : Int) := by rw [← hm]; exact (Int.natCast_pow 2 k).symm
  have hmm : m ≤ 1048576 := by rw [← hm]; exact pow_le20 k hk20
  have HM := Lib.hid hm
  clear hk hm
  go_enter Tryz.func108, Tryz.ntmps108
  go_wp2_with (go_at_call 65; refine L.out.mono ?_; rintro e w' ⟨rfl, rfl⟩)
  go_ret
  have hB := B.out
  rw [HM.out] at hB
  refine ⟨k, m, ?_, HM.out.symm, hB.1, ?_, rfl⟩
  · rfl
  · have hm2 := HM.out
    cases k with
    | zero => simp at hm2; omega
    | succ k => rw [Nat.pow_succ] at hm2; omega
theorem xor_range (a b : Int) : ∃ y : Nat, bits .xor .u64 a b = (y : Int) ∧ y < 18446744073709551616 := by
  have h : ∃ z : Int, bits .xor .u64 a b = IntKind.u64.wrap z := ⟨_, rfl⟩
  obtain ⟨z, hz⟩ := h
  rw [hz, IntKind.wrap_u64]
  exact ⟨(z % 18446744073709551616).toNat, by omega, by omega⟩
set_option maxHeartbeats 1000000 in
theorem next_any (rb x : Nat) (w : World) (hx : x < 18446744073709551616) (h : Blk w rb [.int .u64 x] 169) :
    Calls Tryz.prog 109 #[.pointer (some ⟨rb, 0, none⟩)] w fun e w' => ∃ y : Nat, e = .returned (.int .u64 y) ∧ y < 18446744073709551616 ∧ Blk w' rb [.int .u64 y] 169 ∧ Only [rb] w w' := by
  have H0 := Lib.hid h
  have c0 := h.cell 0
  have f0 := h.frozen 0
  simp only [List.getElem?_cons_zero] at c0
  clear h
  go_enter Tryz.func109, Tryz.ntmps109
  go_wp2_with fail
  go_region
  obtain ⟨y1, ey1, hy1⟩ := xor_range (x : Int) (IntKind.u64.wrap ((x : Int) * 8192))
  rw [ey1]
  clear ey1
  have B1 : Hid (Blk ((w.setCell ⟨rb, 0, none⟩ (.int .u64 y1)).drew) rb [.int .u64 y1] 169) := Blk.drew (Blk.set H0.out 0 _)
  have O1 : Hid (Only [rb] w ((w.setCell ⟨rb, 0, none⟩ (.int .u64 y1)).drew)) := ((Only.refl _ _).setCell (.inl (by simp)) _).drew
  clear c0 f0
  generalize (w.setCell ⟨rb, 0, none⟩ (.int .u64 y1)).drew = w1 at *
  have c0 := B1.out.cell 0
  have f0 := B1.out.frozen 0
  simp only [List.getElem?_cons_zero] at c0
  go_wp2_with fail
  go_region
  obtain ⟨y2, ey2, hy2⟩ := xor_range (y1 : Int) ((y1 : Int) / 128)
  rw [ey2]
  clear ey2
  have B2 : Hid (Blk ((w1.setCell ⟨rb, 0, none⟩ (.int .u64 y2)).drew) rb [.int .u64 y2] 169) := Blk.drew (Blk.set B1.out 0 _)
  have O2 : Hid (Only [rb] w ((w1.setCell ⟨rb, 0, none⟩ (.int .u64 y2)).drew)) := ((O1.out).setCell (.inl (by simp)) _).drew
  clear c0 f0
  generalize (w1.setCell ⟨rb, 0, none⟩ (.int .u64 y2)).drew = w2 at *
  have c0 := B2.out.cell 0
  have f0 := B2.out.frozen 0
  simp only [List.getElem?_cons_zero] at c0
  go_wp2_with fail
  go_region
  obtain ⟨y3, ey3, hy3⟩ := xor_range (y2 : Int) (IntKind.u64.wrap ((y2 : Int) * 131072))
  rw [ey3]
  clear ey3
  have B3 : Hid (Blk ((w2.setCell ⟨rb, 0, none⟩ (.int .u64 y3)).drew) rb [.int .u64 y3] 169) := Blk.drew (Blk.set B2.out 0 _)
  have O3 : Hid (Only [rb] w ((w2.setCell ⟨rb, 0, none⟩ (.int .u64 y3)).drew)) := ((O2.out).setCell (.inl (by simp)) _).drew
  clear c0 f0
  generalize (w2.setCell ⟨rb, 0, none⟩ (.int .u64 y3)).drew = w3 at *
  have c0 := B3.out.cell 0
  have f0 := B3.out.frozen 0
  simp only [List.getElem?_cons_zero] at c0
  go_wp2_with fail
  go_ret
  exact ⟨y3, rfl, hy3, B3.out, O3.out⟩
set_option maxHeartbeats 4000000 in
set_option maxRecDepth 1000000 in
theorem break_any (g cap a b : Nat) (d : Array Int) (rest : List Value) (w : World) (h : SR w g d rest) (hl : a + 12 < b) (hb : b ≤ d.size) (hsz : d.size ≤ 524287) :
    Calls Tryz.prog 83 #[.slice (some ⟨g, 0, none⟩) d.size cap, .int .i64 a, .int .i64 b] w fun e w' => e = .returned (.tuple #[]) ∧ Perms w g a b d rest w' := by
  have H0 := Lib.hid h
  have HNE : Hid (g ≠ w.heap.size) := by have := h.lt; show _ ≠ _; omega
  obtain ⟨n, hn⟩ : ∃ n, d.size = n := ⟨_, rfl⟩
  have HN := Lib.hid hn
  rw [hn] at hb hsz ⊢
  obtain ⟨l, hl0⟩ : ∃ l, b - a = l := ⟨_, rfl⟩
  obtain ⟨l4, hl4⟩ : ∃ l4, l / 4 = l4 := ⟨_, rfl⟩
  obtain ⟨l2, hl2⟩ : ∃ l2, l4 * 2 = l2 := ⟨_, rfl⟩
  obtain ⟨m0, hm0⟩ : ∃ m0, a + l2 = m0 := ⟨_, rfl⟩
  obtain ⟨i0, hi0⟩ : ∃ i0, m0 - 1 = i0 := ⟨_, rfl⟩
  obtain ⟨top, htop⟩ : ∃ top, m0 + 1 = top := ⟨_, rfl⟩
  have el : (b : Int) - a = (l : Int) := by omega
  have el4 : (l : Int).tdiv 4 = (l4 : Int) := by rw [Int.tdiv_eq_ediv_of_nonneg (by omega)]; omega
  have el2 : (l4 : Int) * 2 = (l2 : Int) := by omega
  have em0 : (a : Int) + l2 = (m0 : Int) := by omega
  have ei0 : (m0 : Int) - 1 = (i0 : Int) := by omega
  have etop : (m0 : Int) + 1 = (top : Int) := by omega
  have hl8 : (8 : Int) ≤ l := by omega
  have hls : l ≤ 524287 := by omega
  have NP := Lib.hid (fun w1 => npow_any l w1 hls (by omega))
  have HE : Hid (b = a + l ∧ a ≤ i0 ∧ top < b ∧ i0 ≤ top) := ⟨by omega, by omega, by omega, by omega⟩
  have htn : top < n := by omega
  clear h hn hl0 hl4 hl2 hm0 hi0 htop
  go_enter Tryz.func83, Tryz.ntmps83
  go_wp2_with fail
  refine (NP.out _).mono ?_
  rintro e w' ⟨k, m, rfl, hm, hlm, hml, rfl⟩
  have HM := Lib.hid hm
  obtain ⟨m1, hm1⟩ : ∃ m1, m - 1 = m1 := ⟨_, rfl⟩
  have em1 : (m : Int) - 1 = (m1 : Int) := by omega
  have em2 : IntKind.u64.wrap (m1 : Int) = (m1 : Int) := by rw [IntKind.wrap_u64]; omega
  have HM1 := Lib.hid hm1
  have R0 : Hid (SR (w.alloc (.cells #[.int .u64 l] 169)) g d rest) := H0.out.past ((Only.refl _ _).alloc _)
  have B0 : Hid (Blk (w.alloc (.cells #[.int .u64 l] 169)) w.heap.size [.int .u64 l] 169) := Blk.new _ _ _
  have O0 : Hid (Only [g] w (w.alloc (.cells #[.int .u64 l] 169))) := (Only.refl _ _).alloc _
  have hrb : Hid (∀ w1 w2 : World, Only [g] w w1 → Only [w.heap.size] w1 w2 → Only [g] w w2) := fun w1 w2 h1 h2 => h1.trans h2 (fun z hz => by simp at hz; subst hz; exact .inr (Nat.le_refl _))
  clear hm hm1
  go_wp2_with fail
  go_loopg [9, 10] (top + 1 - i0) (fun gk v9 v10 wr => ∃ (x y : Nat) (dk : Array Int), gk = top + 1 - x ∧ v9 = .int .i64 x ∧ i0 ≤ x ∧ x ≤ top + 1 ∧ y < 18446744073709551616 ∧ dk.size = n ∧ PermIn a b d dk ∧ SR wr g dk rest ∧ Blk wr w.heap.size [.int .u64 y] 169 ∧ Only [g] w wr)
  case atStart => exact ⟨i0, l, d, rfl, rfl, Nat.le_refl _, by have := HE.out; omega, by omega, HN.out, permIn_refl _ _ _, R0.out, B0.out, O0.out⟩
  case round =>
    clear R0 B0 O0
    obtain ⟨x, y, dk, hgk, rfl, hix, hxt, hy, hsk, hP, hr, hB, hO⟩ := hrel
    rename World => w1
    have HGK := Lib.hid hgk
    have R1 := Lib.hid hr
    have B1 := Lib.hid hB
    have O1 := Lib.hid hO
    have HP := Lib.hid hP
    have HS := Lib.hid hsk
    clear hgk hr hB hO hP hsk
    by_cases hle : x ≤ top
    · have hlei : (x : Int) ≤ top := by omega
      have hxn : x < n := by omega
      have hxni : (x : Int) < n := by omega
      have NX := Lib.hid (next_any w.heap.size y w1 hy B1.out)
      go_wp2_with fail
      refine NX.out.mono ?_
      rintro e w2 ⟨y2, rfl, hy2, hB2, hO2⟩
      have B2 := Lib.hid hB2
      have R2 : Hid (SR w2 g dk rest) := R1.out.beside HNE.out hO2
      have O2 := Lib.hid (hrb.out _ _ O1.out hO2)
      clear hB2 hO2 B1 R1 O1 hy NX
      obtain ⟨o, ho⟩ : ∃ o, y2 &&& m1 = o := ⟨_, rfl⟩
      have hoe : bits .and .u64 (y2 : Int) (m1 : Int) = (o : Int) := by rw [u64_and_nat _ _ hy2 (by omega), ho]
      have hom : o ≤ m1 := by rw [← ho]; exact Nat.and_le_right
      have hol : o < 2 * l := by omega
      clear ho
      obtain ⟨G, hG⟩ : ∃ G : Nat → Int, ∀ t, G t = dk[t]! := ⟨fun t => dk[t]!, fun _ => rfl⟩
      have hcw : ∀ t, t < n → w2.cell? ⟨g, t, none⟩ = some (.int kq (G t)) := fun t ht => by rw [hG]; exact R2.out.cell t (by rw [HS.out]; exact ht)
      have hfw : ∀ t, t < n → w2.frozen? ⟨g, t, none⟩ = false := fun t ht => R2.out.frozen t
      have HG := Lib.hid hG
      clear hG
      by_cases hge : l ≤ o
      · have hgei : (l : Int) ≤ o := by omega
        obtain ⟨o2, ho2⟩ : ∃ o2, o - l = o2 := ⟨_, rfl⟩
        have eo2 : (o : Int) - l = (o2 : Int) := by omega
        have ho2l : o2 < l := by omega
        obtain ⟨p, hp⟩ : ∃ p, a + o2 = p := ⟨_, rfl⟩
        have ep : (a : Int) + o2 = (p : Int) := by omega
        have HPP : Hid (a ≤ p ∧ p < b) := by have := HE.out; exact ⟨by omega, by omega⟩
        have hpb : p < b := HPP.out.2
        clear ho2 hp
        have hpn : p < n := by omega
        have hpni : (p : Int) < n := by omega
        have hs1 : (w2.setCell ⟨g, x, none⟩ (.int kq (G p))).cell? ⟨g, p, none⟩ = some (.int kq (G p)) := by rw [HG.out]; exact R2.out.after x p (by rw [HS.out]; omega) (by rw [HS.out]; omega)
        have hs2 : (w2.drew.setCell ⟨g, x, none⟩ (.int kq (G p))).cell? ⟨g, p, none⟩ = some (.int kq (G p)) := hs1
        have R9 : Hid (SR (((w2.setCell ⟨g, x, none⟩ (.int kq (G p))).setCell ⟨g, p, none⟩ (.int kq (G x))).drew) g (swp dk x p) rest) := by
          show SR _ _ _ _
          rw [HG.out, HG.out]
          exact (R2.out.past ((Only.refl _ _).drewN 1)).swap x p (by rw [HS.out]; omega) (by rw [HS.out]; omega)
        have O9 : Hid (Only [g] w2 (((w2.setCell ⟨g, x, none⟩ (.int kq (G p))).setCell ⟨g, p, none⟩ (.int kq (G x))).drew)) := only_swap ((Only.refl _ _).drewN 1) _ _ _ _
        go_wp2_with fail
        go_region
        all_goals go_wp2_with fail
        go_roundg (top + 1 - (x + 1))
        case measure => have := HGK.out; omega
        case rel =>
          refine ⟨x + 1, y2, swp dk x p, rfl, by go_num, by have := HE.out; omega, by omega, hy2, by rw [size_swp]; exact HS.out, ?_, R9.out, O9.out.blk B2.out (by simpa using fun h => HNE.out h.symm), O2.out.trans O9.out (fun z hz => .inl hz)⟩
          exact permIn_trans _ _ _ _ _ HP.out (swp_permIn _ _ _ _ _ (by have := HE.out; omega) (by have := HE.out; omega) (by have := HE.out; have := HPP.out; omega) (by have := HE.out; have := HPP.out; omega) (by rw [HS.out]; exact hb))
      · have hgei : ¬ (l : Int) ≤ o := by omega
        obtain ⟨p, hp⟩ : ∃ p, a + o = p := ⟨_, rfl⟩
        have ep : (a : Int) + o = (p : Int) := by omega
        have HPP : Hid (a ≤ p ∧ p < b) := by have := HE.out; exact ⟨by omega, by omega⟩
        have hpb : p < b := HPP.out.2
        clear hp
        have hpn : p < n := by omega
        have hpni : (p : Int) < n := by omega
        have hs1 : (w2.setCell ⟨g, x, none⟩ (.int kq (G p))).cell? ⟨g, p, none⟩ = some (.int kq (G p)) := by rw [HG.out]; exact R2.out.after x p (by rw [HS.out]; omega) (by rw [HS.out]; omega)
        have hs2 : (w2.drew.setCell ⟨g, x, none⟩ (.int kq (G p))).cell? ⟨g, p, none⟩ = some (.int kq (G p)) := hs1
        have R9 : Hid (SR (((w2.setCell ⟨g, x, none⟩ (.int kq (G p))).setCell ⟨g, p, none⟩ (.int kq (G x))).drew) g (swp dk x p) rest) := by
          show SR _ _ _ _
          rw [HG.out, HG.out]
          exact (R2.out.past ((Only.refl _ _).drewN 1)).swap x p (by rw [HS.out]; omega) (by rw [HS.out]; omega)
        have O9 : Hid (Only [g] w2 (((w2.setCell ⟨g, x, none⟩ (.int kq (G p))).setCell ⟨g, p, none⟩ (.int kq (G x))).drew)) := only_swap ((Only.refl _ _).drewN 1) _ _ _ _
        go_wp2_with fail
        go_region
        all_goals go_wp2_with fail
        go_roundg (top + 1 - (x + 1))
        case measure => have := HGK.out; omega
        case rel =>
          refine ⟨x + 1, y2, swp dk x p, rfl, by go_num, by have := HE.out; omega, by omega, hy2, by rw [size_swp]; exact HS.out, ?_, R9.out, O9.out.blk B2.out (by simpa using fun h => HNE.out h.symm), O2.out.trans O9.out (fun z hz => .inl hz)⟩
          exact permIn_trans _ _ _ _ _ HP.out (swp_permIn _ _ _ _ _ (by have := HE.out; omega) (by have := HE.out; omega) (by have := HE.out; have := HPP.out; omega) (by have := HE.out; have := HPP.out; omega) (by rw [HS.out]; exact hb))
    · have hlei : ¬ (x : Int) ≤ top := by omega
      go_wp2_with fail
      go_end0
      exact ⟨rfl, dk, R1.out, HP.out, O1.out⟩
end Go.Proofs.YtfkmjbpnjgnkbaaGreat.I
