/-
  The laws' known over logs answers true. The calls on a log when all goes well, as contracts.
-/
import Derived.Test.YtjbjikigiienkaaWalU
import Derived.Test.YtjbjikigiienkaaWalL
import Derived.Lib.SlBytesConst
import Derived.Lib.SmallJoins
namespace Go.Proofs.Ytjbjikigiienkaa.W
set_option linter.unusedSimpArgs false
open Go.RowKit Go.Proofs.Ytjbjikigiienkaa.D Go.Proofs.Ytjbjikigiienkaa.B
set_option linter.unusedVariables false
variable {W w w' w2 : World} {p d : Nat} {v v' : Value} {l l' : LS} {M M' : List Nat} {s s' : DS} {B : List UInt8}

theorem Dk.step (h : Dk W w d M s) (hD : Disk w' d M' s') (hS : Step M M' w w') : Dk W w' d M' s' :=
  ⟨hD, h.own.trans hS.1 (fun x hx => .inr (h.nd x hx)), fun x hx => by
    rcases hS.2 x hx with h1 | h1
    · exact h.nd x h1
    · have := h.own.size; omega⟩
theorem Dk.made (hD : Disk w d M s) (hS : Step [] M W w) : Dk W w d M s := ⟨hD, hS.1, fun x hx => by
  rcases hS.2 x hx with h1 | h1
  · simp at h1
  · exact h1⟩
theorem placed_ok (a z n : Nat) (h4 : 4 ≤ z) (hp : a + z ≤ n) : placedB a z n = true := by
  unfold placedB; simp; omega
theorem Dk.format' (h : Dk W w d M s) (a z : Nat) (h4 : 4 ≤ z) (hp : a + z ≤ s.now.length) (hb : s.now.length ≤ 16384) (hr : Room s 2) (ht : ∀ i, i < 2 → turnOf (s.now.getD (a + i) []) + 2 < 18446744073709551616) {r : Int} (hf : formatS s a z = (s', r)) :
    Calls Try.prog 9 #[.pointer (some ⟨d, 0, none⟩), .int .i64 a, .int .i64 z] w fun e w' => e = .returned (.int .i64 r) ∧ ∃ M', Dk W w' d M' s' ∧ Far (.slice none 0 0) w w' := by
  refine (format_any h a z (by omega) (by omega) hb hr (by rw [Int.toNat_natCast]; exact ht)).mono ?_
  intro e w' hp2
  unfold FormatPost at hp2
  rw [if_pos (placed_ok a z _ h4 hp), Int.toNat_natCast, Int.toNat_natCast, hf] at hp2
  exact hp2
def OpenYes (W : World) (d : Nat) (w : World) (l' : LS) (rs : List (List UInt8)) (s' : DS) (e : Ending) (w' : World) : Prop :=
  ∃ p v vr M' B, e = .returned (.tuple #[.pointer (some ⟨p, 0, none⟩), vr, .int .i64 0]) ∧ Logd W w' p d v l' M' s' ∧ RowsTo w w' B vr rs ∧ Far (.slice none 0 0) w w' ∧ (∀ k, v.ownBlock = some k → B ≤ k)
theorem Dk.open' (h : Dk W w d M s) (a z : Nat) (h4 : 4 ≤ z) (hp : a + z ≤ s.now.length) (hb : s.now.length ≤ 16384) (hr : Room s 2) {rs : List (List UInt8)} (ho : openS s a z = (some (l', rs), s', 0)) :
    Calls Try.prog 10 #[.pointer (some ⟨d, 0, none⟩), .int .i64 a, .int .i64 z] w (OpenYes W d w l' rs s') := by
  refine (open_any h a z (by omega) (by omega) hb hr).mono ?_
  intro e w' hp2
  unfold OpenPost at hp2
  rw [if_pos (placed_ok a z _ h4 hp), Int.toNat_natCast, Int.toNat_natCast, ho] at hp2
  exact hp2
theorem Logd.append' (h : Logd W w p d v l M s) (hL : Live l s B) (hc : s.count ≤ 1000000000) (u : Value) (b : List UInt8) (hu : BytesAt w u b) (huv : ∀ a n c, u = .slice (some a) n c → a.block ≠ p ∧ v.ownBlock ≠ some a.block) (hb : b.length ≤ 65536) (hroom : (b.length : Int) ≤ (l.room : Int) - l.fin - 4) :
    Calls Try.prog 12 #[.pointer (some ⟨p, 0, none⟩), u] w fun e w' => e = .returned (.int .i64 0) ∧ ∃ v' l', Logd W w' p d v' l' M s ∧ Live l' s (B ++ (le b.length 4 ++ b)) ∧ l'.first = l.first ∧ l'.size = l.size ∧ l'.sure = l.sure ∧ Far v w w' ∧ (∀ k, v'.ownBlock = some k → v.ownBlock = some k ∨ w.heap.size ≤ k) := by
  have ok := hL.ok (by omega)
  refine (append_any h ok.two ok.big ok.fin (by rw [ok.tail]; have := ok.fin; omega) u b hu huv (by omega)).mono ?_
  intro e w' hp
  unfold AppendPost at hp
  obtain ⟨l', h1, h2, h3, h4, h5⟩ := hL.append b hb hroom
  rw [h1] at hp
  obtain ⟨rfl, v', h6, h7, h8⟩ := hp
  exact ⟨rfl, v', l', h6, h5, h2, h3, h4, h7, h8⟩
theorem Live.few (h : Live l s B) : nchunks l ≤ 16384 := by
  have h1 := h.place
  have h2 := h.big
  have h3 : B.length ≤ (l.size - 2) * 512 := h.room
  have h4 : l.tail.length ≤ B.length := by rw [h.tail, List.length_drop]; omega
  unfold nchunks
  omega
theorem Logd.flush' (h : Logd W w p d v l M s) (hL : Live l s B) (hc0 : 0 ≤ s.count) (hc : s.count ≤ 1000000000) :
    Calls Try.prog 13 #[.pointer (some ⟨p, 0, none⟩)] w fun e w' => e = .returned (.int .i64 0) ∧ ∃ v' M' l' s', Logd W w' p d v' l' M' s' ∧ Live l' s' B ∧ l'.first = l.first ∧ l'.size = l.size ∧ l'.sure = B.length ∧ s'.now.length = s.now.length ∧ s.count ≤ s'.count ∧ s'.count ≤ s.count + 16387 ∧ Far v w w' ∧ (∀ k, v'.ownBlock = some k → v.ownBlock = some k ∨ w.heap.size ≤ k) := by
  have ok := hL.ok (by omega)
  have hfew := hL.few
  refine (flush_any h ok ⟨hc0, by omega, by rw [hL.none]; simp; omega⟩).mono ?_
  intro e w' hp
  unfold LogPost at hp
  obtain ⟨l', s', h1, h2, h3, h4, h5, h6, h7, h8⟩ := hL.flush (by omega)
  rw [h1] at hp
  obtain ⟨rfl, v', M', h9, h10, h11⟩ := hp
  exact ⟨rfl, v', M', l', s', h9, h5, h2, h3, h4, h6, h7, by omega, h10, h11⟩
theorem fresh_turn (n a : Nat) : turnOf ((DS.fresh n).now.getD a []) + 2 < 18446744073709551616 := by
  simp only [DS.fresh, List.getD_eq_getElem?_getD]
  rw [List.getElem?_replicate]
  split
  · simp [turn_zeros]
  · simp [turnOf, unle]
theorem Live.again (h : Live l s B) (keep : List Int) : Live l (s.restart keep) B ∧ (s.restart keep).count = s.count ∧ (s.restart keep).now.length = s.now.length := by
  obtain ⟨c1, n1, r1, u1, k1⟩ := h.calm.restart h.none h.same keep
  have e : cat l (s.restart keep) (l.size - 2) = cat l s (l.size - 2) := cat_congr l l s _ rfl _ (fun i _ => by rw [n1])
  exact ⟨{ calm := c1, none := r1, same := by rw [u1, n1], place := by rw [n1]; exact h.place, four := h.four, big := by rw [n1]; exact h.big, fin := h.fin, room := h.room, sure := h.sure, tail := h.tail, t0 := h.t0, t1 := by rw [k1]; exact h.t1, slot := h.slot,
            head := (by rw [n1]; exact h.head), other := (by rw [n1]; exact h.other), data := (by rw [e]; exact h.data), alive := h.alive }, k1, by rw [n1]⟩
theorem Dk.restart' (h : Dk W w d M s) (hr : s.row.length ≤ 1048576) : Calls Try.prog 17 #[.pointer (some ⟨d, 0, none⟩), .agg #[.slice none 0 0]] w fun e w' => e = .returned (.tuple #[]) ∧ ∃ M', Dk W w' d M' (s.restart []) ∧ Far (.slice none 0 0) w w' := by
  refine (h.dk.restart0 hr (keep := []) ⟨none, 0, rfl, fun h => by simp at h⟩ (fun h => by simp at h)).mono ?_
  rintro e w' ⟨rfl, M', hD, hS⟩
  exact ⟨rfl, M', h.step hD hS, Far.step h.dk hS _⟩
theorem lit_bytes (w : World) (x : UInt8) : BytesAt (w.alloc (.cells #[.int .u8 x.toNat] 5 (1, 2))) (.slice (some ⟨w.heap.size, 0, none⟩) 1 1) [x] :=
  ⟨_, 1, rfl, fun _ => ⟨_, 0, rfl, fun j hj => by
    simp only [List.length_cons, List.length_nil] at hj
    obtain rfl : j = 0 := by omega
    exact World.cell?_alloc_mark w #[.int .u8 x.toNat] 5 (1, 2) 0⟩⟩
set_option maxRecDepth 100000 in
set_option maxHeartbeats 1000000 in
theorem known_yes (w : World) : Calls Try.prog 6 #[] w fun e w' => e = .returned (.bool true) ∧ Below w.heap.size w w' := by
  obtain ⟨s1, l1, hf1, hl1a, hl1b, hl1c, hL1, hk1, hn1⟩ := format_fresh 8 0 8 (by omega) (by omega) (by omega)
  have HF1 := Lib.hid hf1
  have HL1 := Lib.hid hL1
  have HK1 := Lib.hid hk1
  have HN1 := Lib.hid hn1
  obtain ⟨l2, ho2, hl2a, hl2b, hl2c, hL2⟩ := hL1.opened (by rw [hk1]; omega) [] (by simp [recs_nil])
  rw [hl1a, hl1b] at ho2
  rw [List.take_nil] at hL2
  have HO2 := Lib.hid ho2
  have HL2 := Lib.hid hL2
  have N : Hid (Calls Try.prog 8 #[.int .i64 8] w fun e w' => ∃ d M, e = .returned (.tuple #[.pointer (some ⟨d, 0, none⟩), .int .i64 0]) ∧ Disk w' d M (DS.fresh 8) ∧ Step [] M w w') := Disk.new (n := 8) (by omega) (by omega)
  go_enter Try.func6, Try.ntmps6
  go_wp2_with fail
  refine N.out.mono ?_
  rintro e w2 ⟨d, M2, rfl, hD2, hS2⟩
  have D2 := Lib.hid (Dk.made hD2 hS2)
  clear hD2 hS2
  have FM : Hid (Calls Try.prog 9 #[.pointer (some ⟨d, 0, none⟩), .int .i64 0, .int .i64 8] w2 fun e w' => e = .returned (.int .i64 0) ∧ ∃ M', Dk w w' d M' s1 ∧ Far (.slice none 0 0) w2 w') := D2.out.format' 0 8 (by omega) (by simp [DS.fresh]) (by simp [DS.fresh]) ⟨by simp [DS.fresh], by simp [DS.fresh], by simp [DS.fresh]⟩ (fun i _ => fresh_turn 8 _) HF1.out
  go_wp2_with fail
  refine FM.out.mono ?_
  rintro e w3 ⟨rfl, M3, hD3, hF3⟩
  have D3 := Lib.hid hD3
  clear hD3 hF3
  have OP : Hid (Calls Try.prog 10 #[.pointer (some ⟨d, 0, none⟩), .int .i64 0, .int .i64 8] w3 (OpenYes w d w3 l2 [] s1)) := D3.out.open' 0 8 (by omega) (by rw [HN1.out]; omega) (by rw [HN1.out]; omega) ⟨by rw [HK1.out]; omega, by rw [HK1.out]; omega, by rw [HL1.out.none]; simp⟩ HO2.out
  clear hf1 hL1 hk1 hn1 ho2 hL2
  go_wp2_with fail
  refine OP.out.mono ?_
  rintro e w4 ⟨p, v, vr, M4, B4, rfl, hG4, hR4, hF4, hv4⟩
  have G4 := Lib.hid hG4
  obtain ⟨av, cv, rfl⟩ : ∃ av cv, vr = .slice av 0 cv := by
    obtain ⟨xs, h1, _⟩ := hR4
    obtain ⟨x, c, h, _⟩ := owns_shape h1
    exact ⟨x, c, h⟩
  clear hG4 hR4 hF4 hv4
  have kc := fun (w : World) (C : Array Value) (n c : Nat) => Lib.run_convert_bytes_const (P := Try.prog) w 34 5 C n c Try.underlying34 Try.underlying5
  have OX : Hid (Only [] w4 (w4.alloc (.cells #[.int .u8 97] 5 (1, 2)))) := (Only.refl _ _).alloc _
  have BX : Hid (BytesAt (w4.alloc (.cells #[.int .u8 97] 5 (1, 2))) (.slice (some ⟨w4.heap.size, 0, none⟩) 1 1) [97]) := lit_bytes w4 97
  have L2A : Hid (l2.size = 8 ∧ l2.fin = 0 ∧ l2.sure = 0) := ⟨hl2b.trans hl1b, by rw [HL2.out.fin]; rfl, hl2c.trans hl1c⟩
  have PS : Hid (p < w4.heap.size ∧ v.ownBlock ≠ some w4.heap.size) := ⟨G4.out.lg.log.lt, fun h => by have := owns_lt G4.out.lg.tail h; omega⟩
  have A1 := Lib.hid ((G4.out.past OX.out).append' HL2.out (by rw [HK1.out]; omega) (.slice (some ⟨w4.heap.size, 0, none⟩) 1 1) [97] BX.out (fun a n c h => by
    simp only [Value.slice.injEq, Option.some.injEq] at h
    obtain ⟨rfl, _⟩ := h
    exact ⟨by have := PS.out.1; simp only; omega, PS.out.2⟩) (by simp) (by unfold LS.room; rw [L2A.out.1, L2A.out.2.1]; decide))
  go_wp2_with fail
  refine A1.out.mono ?_
  rintro e w5 ⟨rfl, v5, l5, hG5, hL5, hl5a, hl5b, hl5c, hF5, hv5⟩
  have G5 := Lib.hid hG5
  have HL5 := Lib.hid hL5
  have L5A : Hid (l5.size = 8 ∧ l5.first = 0 ∧ l5.sure = 0) := ⟨hl5b.trans L2A.out.1, by rw [hl5a, hl2a, hl1a], hl5c.trans L2A.out.2.2⟩
  clear hG5 hL5 hF5 hv5
  have FL := Lib.hid (G5.out.flush' HL5.out (by rw [HK1.out]; omega) (by rw [HK1.out]; omega))
  go_wp2_with fail
  refine FL.out.mono ?_
  rintro e w6 ⟨rfl, v6, M6, l6, s6, hG6, hL6, hl6a, hl6b, hl6c, hn6, hk6a, hk6b, hF6, hv6⟩
  have G6 := Lib.hid hG6
  have HL6 := Lib.hid hL6
  have K6 : Hid (0 ≤ s6.count ∧ s6.count ≤ 100000) := by have := HK1.out; exact ⟨by omega, by omega⟩
  have N6 : Hid (s6.now.length = 8) := hn6.trans HN1.out
  have L6A : Hid (l6.size = 8 ∧ l6.first = 0 ∧ l6.sure = 5) := ⟨hl6b.trans L5A.out.1, hl6a.trans L5A.out.2.1, by rw [hl6c]; rfl⟩
  clear hG6 hL6 hF6 hv6 hk6a hk6b hn6
  have OX6 : Hid (Only [] w6 (w6.alloc (.cells #[.int .u8 98] 5 (1, 2)))) := (Only.refl _ _).alloc _
  have BX6 : Hid (BytesAt (w6.alloc (.cells #[.int .u8 98] 5 (1, 2))) (.slice (some ⟨w6.heap.size, 0, none⟩) 1 1) [98]) := lit_bytes w6 98
  have PS6 : Hid (p < w6.heap.size ∧ v6.ownBlock ≠ some w6.heap.size) := ⟨G6.out.lg.log.lt, fun h => by have := owns_lt G6.out.lg.tail h; omega⟩
  have A6 := Lib.hid ((G6.out.past OX6.out).append' HL6.out (by have := K6.out; omega) (.slice (some ⟨w6.heap.size, 0, none⟩) 1 1) [98] BX6.out (fun a n c h => by
    simp only [Value.slice.injEq, Option.some.injEq] at h
    obtain ⟨rfl, _⟩ := h
    exact ⟨by have := PS6.out.1; simp only; omega, PS6.out.2⟩) (by simp) (by unfold LS.room; rw [L6A.out.1, HL6.out.fin]; decide))
  go_wp2_with fail
  refine A6.out.mono ?_
  rintro e w7 ⟨rfl, v7, l7, hG7, hL7, hl7a, hl7b, hl7c, hF7, hv7⟩
  have G7 := Lib.hid hG7
  obtain ⟨hL8, hk8, hn8⟩ := hL7.again []
  obtain ⟨l9, ho9, hl9a, hl9b, hl9c, hL9⟩ := hL8.opened (by rw [hk8]; have := K6.out; omega) [[97]] (by
    rw [hl7c, L6A.out.2.2]
    refine (congrArg recs (show _ = enc [[97]] by decide)).trans (recs_enc [[97]] (by simp)))
  rw [hl7a, hl7b, L6A.out.1, L6A.out.2.1] at ho9
  have HO9 := Lib.hid ho9
  have RS := Lib.hid (G7.out.dks.restart' (by rw [hL7.none]; simp))
  have R9 : Hid ((s6.restart []).now.length = 8 ∧ 0 ≤ (s6.restart []).count ∧ (s6.restart []).count ≤ 100000 ∧ (s6.restart []).row = []) := ⟨by rw [hn8, N6.out], by rw [hk8]; exact K6.out.1, by rw [hk8]; exact K6.out.2, hL8.none⟩
  clear hG7 hF7 hv7 hL7 hL8 hk8 hn8 ho9 hl9a hl9b hl9c hL9
  go_wp2_with fail
  refine RS.out.mono ?_
  rintro e w8 ⟨rfl, M8, hD8, hF8⟩
  have D8 := Lib.hid hD8
  clear hD8 hF8
  have OP : Hid (Calls Try.prog 10 #[.pointer (some ⟨d, 0, none⟩), .int .i64 0, .int .i64 8] w8 (OpenYes w d w8 l9 [[97]] (s6.restart []))) := D8.out.open' 0 8 (by omega) (by rw [R9.out.1]; omega) (by rw [R9.out.1]; omega) ⟨R9.out.2.1, by have := R9.out; omega, by rw [R9.out.2.2.2]; simp⟩ HO9.out
  go_wp2_with fail
  refine OP.out.mono ?_
  rintro e w9 ⟨p9, v9, vr9, M9, B9, rfl, hG9, hR9, hF9, hv9⟩
  have G9 := Lib.hid hG9
  obtain ⟨ar, cr, rfl, hc⟩ := hR9.at
  obtain ⟨g, o, rfl, hc2⟩ := hc (by simp)
  obtain ⟨x, cx, bx⟩ := hc2 0 (by simp)
  have kx : (convert 34 9 x).run Try.prog w9 = .ok (.string ⟨([97] : List UInt8).toArray⟩) w9 := bytes_string bx
  have cx' : w9.cell? ⟨g, o, none⟩ = some x := cx
  clear hG9 hR9 hF9 hv9 hc hc2 cx
  go_wp2_with fail
  go_ret
  exact ⟨rfl, G9.out.own.below (Nat.le_refl _) (by simp)⟩
end Go.Proofs.Ytjbjikigiienkaa.W
