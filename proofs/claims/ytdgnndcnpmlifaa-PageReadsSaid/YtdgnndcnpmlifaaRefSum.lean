/-
  The document's check sums (package pantileref2) by contracts.
-/
import Derived.Test.YtdgnndcnpmlifaaFrame
import Derived.BigQuiet
namespace Go.Proofs.Ytdgnndcnpmlifaa.C
set_option linter.unusedSimpArgs false
open Go Go.RowKit Go.Proofs.Ytdgnndcnpmlifaa.B
set_option linter.unusedVariables false
set_option maxRecDepth 100000 in
set_option maxHeartbeats 4000000 in
theorem radd_any {w : World} {v : Value} {l : List UInt8} (h : BytesAt w v l) (hl : l.length ≤ 1048576) (s : Nat) (hs : s < 4294967296) :
    Calls Try.prog 65 #[.int .u32 s, v] w fun e w' => e = .returned (.int .u32 ((4294967295 - run (4294967295 - s) l : Nat) : Int)) ∧ w = w' := by
  obtain ⟨ao, cap, rfl, hc⟩ := h
  have HC := Lib.hid hc
  clear hc
  generalize hm : l.length = m at *
  have HM := Lib.hid hm
  clear hm
  obtain ⟨r0, hr0⟩ : ∃ r0, 4294967295 - s = r0 := ⟨_, rfl⟩
  have hr0l : r0 < 4294967296 := by omega
  have ec := compl_u32 s hs
  rw [hr0] at ec ⊢
  clear hr0
  go_enter Try.func65, Try.ntmps65
  go_wp2_with fail
  go_loopg [5, 6] m (fun gk s5 s6 wx => ∃ k : Nat, gk = m - k ∧ k ≤ m ∧ s6 = .int .i64 k ∧ s5 = .int .u32 (run r0 (l.take k) : Nat) ∧ wx = w)
  case atStart => exact ⟨0, rfl, Nat.zero_le _, rfl, rfl, rfl⟩
  case round =>
    obtain ⟨k, hgk, hk, rfl, rfl, rfl⟩ := hrel
    have HGK := Lib.hid hgk
    clear hgk
    by_cases hlt : k < m
    · obtain ⟨b, o, rfl, hb⟩ := HC.out (by omega)
      have c1 := hb k hlt
      have hk0 : (0 : Int) ≤ k := by omega
      have hk1 : (k : Int) < m := by omega
      have ER : Hid (run r0 (l.take (k + 1)) = byte (run r0 (l.take k)) (l.getD k 0)) := by
        show _ = _
        rw [List.take_succ_eq_append_getElem (by rw [HM.out]; exact hlt), run_snoc, List.getD_eq_getElem?_getD, List.getElem?_eq_getElem (by rw [HM.out]; exact hlt)]; rfl
      have hrl := run_lt hr0l (l.take k)
      generalize run r0 (l.take k) = r at *
      generalize l.getD k 0 = x at *
      have EB : Hid (byte r x = steps 8 (r ^^^ x.toNat)) := rfl
      have hxl := x.toNat_lt
      have hx1 := xor_byte_lt hrl x
      have e1 := bits_xor_u32 r x.toNat hrl (by omega)
      generalize r ^^^ x.toNat = r1 at *
      clear hb
      go_wp2_with fail
      go_loopg [5, 7] 8 (fun gk s5 s7 wy => ∃ j : Nat, gk = 8 - j ∧ j ≤ 8 ∧ s7 = .int .i64 j ∧ s5 = .int .u32 (steps j r1 : Nat) ∧ wy = wr)
      case atStart => exact ⟨0, rfl, Nat.zero_le _, rfl, rfl, rfl⟩
      case round =>
        obtain ⟨j, hgj, hj, rfl, rfl, rfl⟩ := hrel
        have HGJ := Lib.hid hgj
        have hsl := steps_lt hx1 j
        have EN : Hid (steps (j + 1) r1 = step1 (steps j r1)) := rfl
        clear hgj c1 e1
        by_cases hj8 : j < 8
        · have hj0 : (0 : Int) ≤ j := by omega
          have hj1 : (j : Int) < 8 := by omega
          generalize steps j r1 = y at *
          obtain ⟨q, hq⟩ : ∃ q, y / 2 = q := ⟨_, rfl⟩
          have e2 : (y : Int) / 2 = (q : Int) := by omega
          obtain ⟨qx, hqx⟩ : ∃ qx, q ^^^ 3988292384 = qx := ⟨_, rfl⟩
          have ex : bits .xor .u32 (q : Int) 3988292384 = (qx : Int) := by rw [← hqx]; exact bits_xor_u32 q 3988292384 (by omega) (by decide)
          rcases Nat.mod_two_eq_zero_or_one y with h2 | h2
          · have h2i : (y : Int) % 2 = 0 := by omega
            have EV : Hid (q = step1 y) := by show _ = _; unfold step1; rw [if_neg (by omega), hq]
            clear ex hqx hq h2
            go_wp2_with fail
            go_roundg (8 - (j + 1))
            case measure => have := HGJ.out; omega
            case rel => exact ⟨j + 1, rfl, by omega, by go_num, by rw [EN.out, ← EV.out], rfl⟩
          · have h2i : (y : Int) % 2 = 1 := by omega
            have EV : Hid (qx = step1 y) := by show _ = _; unfold step1; rw [if_pos h2, hq, ← hqx]; rfl
            clear hqx hq h2
            go_wp2_with fail
            go_roundg (8 - (j + 1))
            case measure => have := HGJ.out; omega
            case rel => exact ⟨j + 1, rfl, by omega, by go_num, by rw [EN.out, ← EV.out], rfl⟩
        · obtain rfl : j = 8 := by omega
          go_wp2_with fail
          go_roundg (m - (k + 1))
          case measure => have := HGK.out; omega
          case rel => exact ⟨k + 1, rfl, by omega, by go_num, by rw [ER.out, EB.out], rfl⟩
    · obtain rfl : k = m := by omega
      rw [List.take_of_length_le (by rw [HM.out]; exact Nat.le_refl _)]
      have hrl := run_lt hr0l l
      obtain ⟨r, hr⟩ : ∃ r, run r0 l = r := ⟨_, rfl⟩
      rw [hr] at hrl ⊢
      have HR := Lib.hid hr
      clear hr
      have ec := compl_u32 r hrl
      go_wp2_with fail
      go_ret
      rw [HR.out]
      exact ⟨rfl, rfl⟩
/-- The sum of bytes, by the document. -/
theorem rsum_any {w : World} {v : Value} {l : List UInt8} (h : BytesAt w v l) (hl : l.length ≤ 1048576) :
    Calls Try.prog 52 #[v] w fun e w' => e = .returned (.int .u32 (sum l : Nat)) ∧ w = w' := by
  have A := radd_any h hl 0 (by decide)
  have e : (4294967295 - run (4294967295 - 0) l : Nat) = sum l := rfl
  rw [e] at A
  obtain ⟨ao, cap, rfl, hc⟩ := h
  clear hc
  generalize sum l = s at *
  go_enter Try.func52, Try.ntmps52
  go_wp2_with (go_at_call 65; refine A.mono ?_; rintro e w1 ⟨rfl, rfl⟩)
  go_ret
  exact ⟨rfl, rfl⟩
/-! ### four bytes -/
theorem le_four (n : Nat) (hn : n < 4294967296) : u8s (le n 4) = [.int .u8 ((n : Int) % 256), .int .u8 ((n : Int) / 256 % 256), .int .u8 ((n : Int) / 65536 % 256), .int .u8 ((n : Int) / 16777216)] := by
  have h := fun j => le_cell n j
  have h0 := h 0
  have h1 := h 1
  have h2 := h 2
  have h3 := h 3
  have e : (n : Int) / 16777216 % 256 = (n : Int) / 16777216 := by omega
  simp only [le, List.nil_append, u8s, List.map_append, List.map_cons, List.map_nil, List.cons_append]
  rw [← h0, ← h1, ← h2, ← h3]
  simp [e]
set_option maxRecDepth 100000 in
theorem four_any {w : World} (n : Nat) (hn : n < 4294967296) :
    Calls Try.prog 60 #[.slice none 0 0, .int .u32 n] w fun e w' => ∃ a c, e = .returned (.slice a 4 c) ∧ Own w w' (.slice a 4 c) (le n 4) := by
  have H4 := Lib.hid (le_four n hn)
  have HL : Hid ((u8s (le n 4)).length = 4 * 1) := by show _ = _; rw [length_u8s, le_len]
  go_enter Try.func60, Try.ntmps60
  go_wp2_with (refine wpList_grow rfl (.tmp 5) (.tmp 17) 23 rfl 5 Try.underlying23 (info_parts info_byte) rfl (by omega) (.slice none 0 0) 0 [] rfl ⟨rfl, .inl ⟨rfl, rfl⟩⟩ (some ⟨w.heap.size, 0, none⟩) 4 4 rfl (u8s (le n 4)) HL.out (fun _ => ⟨_, rfl, by rw [H4.out]; exact fun j u hj => (Blk.new _ 5 w).add_cell j u hj⟩) (u8s_oneCell _) (by omega) (by omega) ?_; intro v5 w5 hg5; have G5 := Lib.hid ((hg5.pre ((Only.refl [] w).alloc _)).to (Nat.zero_add 4) (List.nil_append _)); clear hg5; obtain ⟨a5, c5, rfl⟩ := G5.out.shape)
  go_ret
  exact ⟨a5, c5, rfl, G5.out.row, fun k hk => by
    rcases G5.out.lies k hk with h1 | h1
    · cases h1
    · exact h1, G5.out.only.mono (by simp [Value.ownBlock])⟩
theorem ret_int {k : IntKind} {a b : Int} (h : a = b) : Ending.returned (.int k a) = .returned (.int k b) := by rw [h]
set_option maxRecDepth 100000 in
/-- The number of four bytes. -/
theorem number_any {w : World} {b o m c : Nat} {l : List UInt8} (hl : l.length = m) (hm : 4 ≤ m) (hb : ∀ j, j < m → w.cell? ⟨b, o + j, none⟩ = some (.int .u8 (l.getD j 0).toNat)) :
    Calls Try.prog 51 #[.slice (some ⟨b, o, none⟩) m c] w fun e w' => e = .returned (.int .u32 (unle (l.take 4) : Nat)) ∧ Only [] w w' := by
  have c0 := hb 0 (by omega)
  have c1 := hb 1 (by omega)
  have c2 := hb 2 (by omega)
  have c3 := hb 3 (by omega)
  have b0 := (l.getD 0 0).toNat_lt
  have b1 := (l.getD 1 0).toNat_lt
  have b2 := (l.getD 2 0).toNat_lt
  have b3 := (l.getD 3 0).toNat_lt
  have E : Hid (unle (l.take 4) = (l.getD 0 0).toNat + 256 * ((l.getD 1 0).toNat + 256 * ((l.getD 2 0).toNat + 256 * (l.getD 3 0).toNat))) := by
    show _ = _
    rcases l with _ | ⟨x0, _ | ⟨x1, _ | ⟨x2, _ | ⟨x3, r⟩⟩⟩⟩ 
    · simp at hl; omega
    · simp at hl; omega
    · simp at hl; omega
    · simp at hl; omega
    · simp [unle]
  generalize l.getD 0 0 = x0 at *
  generalize l.getD 1 0 = x1 at *
  generalize l.getD 2 0 = x2 at *
  generalize l.getD 3 0 = x3 at *
  clear hb
  rw [Nat.add_zero] at c0
  have hm0 : (0 : Int) < m := by omega
  have hn0 : 0 < m := by omega
  have hn1 : 1 < m := by omega
  have hn2 : 2 < m := by omega
  have hn3 : 3 < m := by omega
  clear hm hl
  have hm1 : (1 : Int) < m := by omega
  have hm2 : (2 : Int) < m := by omega
  have hm3 : (3 : Int) < m := by omega
  go_enter Try.func51, Try.ntmps51
  go_wp2_with fail
  go_quiet (fail)
  go_wp2_with fail
  go_ret
  rw [E.out]
  exact ⟨ret_int (by omega), (Only.refl _ _).drewN _⟩
end Go.Proofs.Ytdgnndcnpmlifaa.C
