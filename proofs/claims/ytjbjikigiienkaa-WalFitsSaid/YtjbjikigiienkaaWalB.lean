/-
  The program's log: how it lies in memory; room, read, heading by contracts.
-/
import Derived.Test.YtjbjikigiienkaaWalA
import Derived.BigQuiet
import Derived.Deep.QuietTactic
namespace Go.Proofs.Ytjbjikigiienkaa.W
set_option linter.unusedSimpArgs false
open Go.RowKit Go.Proofs.Ytjbjikigiienkaa.D Go.Proofs.Ytjbjikigiienkaa.B
set_option linter.unusedVariables false

def logCells (d : Nat) (v : Value) (l : LS) : List Value := [.pointer (some ⟨d, 0, none⟩), .int .i64 l.first, .int .i64 l.size, .int .u64 l.turn, .int .i64 l.slot, .int .i64 l.fin, .int .i64 l.sure, v, .bool l.dead]
/-- The log l, over the disk at d, lies at block p; v is its tail. -/
structure LogAt (w : World) (p d : Nat) (v : Value) (l : LS) : Prop where
  log : Blk w p (logCells d v l) 58
  tail : ByteRow 5 w v l.tail
variable {w w' : World} {p d : Nat} {v : Value} {l : LS}

theorem room_any (h : Blk w p (logCells d v l) 58) (h2 : 2 ≤ l.size) (hs : l.size ≤ 65536) :
    Calls Try.prog 29 #[.pointer (some ⟨p, 0, none⟩)] w fun e w' => e = .returned (.int .i64 l.room) ∧ w = w' := by
  have c2 := h.cell 2
  simp [logCells] at c2
  have hr0 : ((l.size : Int) - 2) * 512 = (l.room : Int) := by unfold LS.room; omega
  have hr := Lib.hid hr0
  clear hr0
  go_enter Try.func29, Try.ntmps29
  go_wp2
  go_ret
  exact ⟨by rw [← hr.out]; rfl, rfl⟩

theorem unle8 (l : List UInt8) (h : l.length ≤ 8) : unle l < 18446744073709551616 := by
  have h1 := unle_lt l
  have h2 : 256 ^ l.length ≤ 256 ^ 8 := Nat.pow_le_pow_right (by omega) h
  have h3 : (256 : Nat) ^ 8 = 18446744073709551616 := rfl
  omega
theorem wrap_back (f : Nat) (hf : f < 18446744073709551616) : IntKind.u64.wrap (wrap64 (f : Int)) = f := by
  simp [IntKind.wrap, IntKind.signed, IntKind.bits, wrap64]
  omega
set_option maxRecDepth 100000 in
theorem read_any (h : Blk w p (logCells d v l) 58) (h2 : 2 ≤ l.size) (hs : l.size ≤ 65536) (b : Nat) (c : Nat) (hc : 512 ≤ c) (B : List UInt8) (hB : B.length = 512) (hb : ∀ j, j < 512 → w.cell? ⟨b, j, none⟩ = some (.int .u8 (B.getD j 0).toNat)) :
    Calls Try.prog 37 #[.pointer (some ⟨p, 0, none⟩), .slice (some ⟨b, 0, none⟩) 512 c] w fun e w' => e = .returned (.tuple #[.int .u64 (turnOf B), .int .i64 (wrap64 (finOf B)), .bool (okOf l B)]) ∧ Only [] w w' := by
  have c2 := h.cell 2
  simp [logCells] at c2
  have sl : ∀ o, o + 8 ≤ 512 → ∀ j, j < ((B.drop o).take 8).length → w.cell? ⟨b, o + j, none⟩ = some (.int .u8 (((B.drop o).take 8).getD j 0).toNat) := by
    intro o ho j hj
    rw [List.length_take, List.length_drop] at hj
    rw [hb (o + j) (by omega), List.getD_eq_getElem?_getD, List.getD_eq_getElem?_getD, List.getElem?_take, if_pos (by omega), List.getElem?_drop]
  have U1 : ∀ n, Calls Try.prog 40 #[.slice (some ⟨b, 8, none⟩) 8 (c - 8)] (w.drewN n) fun e w' => e = .returned (.int .u64 (turnOf B)) ∧ ∃ m, w' = w.drewN m := fun n => by
    have := unlittle_any (w := w.drewN n) b 8 (c - 8) ((B.drop 8).take 8) (by rw [List.length_take]; omega) (sl 8 (by omega))
    rw [show ((B.drop 8).take 8).length = 8 by rw [List.length_take, List.length_drop]; omega] at this
    exact this.mono fun e w' ⟨h1, h2⟩ => ⟨h1, n, h2.symm⟩
  have U2 : ∀ n, Calls Try.prog 40 #[.slice (some ⟨b, 16, none⟩) 8 (c - 16)] (w.drewN n) fun e w' => e = .returned (.int .u64 (finOf B)) ∧ ∃ m, w' = w.drewN m := fun n => by
    have := unlittle_any (w := w.drewN n) b 16 (c - 16) ((B.drop 16).take 8) (by rw [List.length_take]; omega) (sl 16 (by omega))
    rw [show ((B.drop 16).take 8).length = 8 by rw [List.length_take, List.length_drop]; omega] at this
    exact this.mono fun e w' ⟨h1, h2⟩ => ⟨h1, n, h2.symm⟩
  have HU1 := Lib.hid U1
  have HU2 := Lib.hid U2
  have hc2 : (8 : Int) ≤ c := by omega
  have hc3 : (16 : Int) ≤ c := by omega
  have hc4 : (24 : Int) ≤ c := by omega
  have hc8 : ¬ c = 8 := by omega
  have hc16 : ¬ c = 16 := by omega
  clear U1 U2 sl
  have HOK : Hid (okOf l B = (B == headB l.size (turnOf B) (finOf B) && decide (0 < turnOf B) && decide (finOf B ≤ l.room))) := rfl
  have ht : turnOf B < 18446744073709551616 := unle8 _ (by rw [List.length_take]; omega)
  have hf : finOf B < 18446744073709551616 := unle8 _ (by rw [List.length_take]; omega)
  have HBY : Hid (BytesAt w (.slice (some ⟨b, 0, none⟩) 512 c) B) := ⟨_, c, by rw [hB], fun _ => ⟨b, 0, rfl, fun j hj => by rw [Nat.zero_add]; exact hb j (by omega)⟩⟩
  have HBL := Lib.hid hB
  have HROOM := Lib.hid (room_any h h2 hs)
  have HLOG := Lib.hid h
  clear hB hb
  have hroom : l.room ≤ 33553408 := by unfold LS.room; omega
  generalize turnOf B = t at *
  generalize finOf B = f at *
  go_enter Try.func37, Try.ntmps37
  go_wp2_with fail
  go_quiet ((go_at_call 40; (first | with_reducible exact HU1.out _ | with_reducible exact HU2.out _)))
  go_wp2_with fail
  refine (head_any l.size t f (by omega) ht hf _ (wrap_back f hf)).mono ?_
  rintro e w1 ⟨v1, rfl, ho1, hk1, hO1⟩
  have R1 := Lib.hid ho1
  have O1 : Hid (Only [] w w1) := ((Only.refl [] w).drewN nq).trans hO1 (by simp)
  clear ho1 hk1 hO1
  go_wp2_with fail
  have he := equal_any (HBY.out.later (M := []) O1.out (by simp)) R1.out.at
  refine he.mono ?_
  rintro e w' ⟨rfl, rfl⟩
  clear he
  have HROOM1 := Lib.hid (room_any (O1.out.blk HLOG.out (by simp)) h2 hs)
  generalize hq : (B == headB l.size t f) = q at *
  have HQ := Lib.hid hq
  clear hq
  cases q
  · go_wp2_with fail
    go_ret3
    refine ⟨?_, O1.out⟩
    rw [HOK.out]
    simp
  · by_cases h0 : 0 < t
    · have h0' : (0 : Int) < t := by omega
      by_cases hbig : f < 9223372036854775808
      · have ew : wrap64 (f : Int) = f := by unfold wrap64; omega
        rw [ew]
        have EW := Lib.hid ew
        clear ew
        by_cases hr : f ≤ l.room
        · have hr' : (f : Int) ≤ l.room := by omega
          go_wp2_with (go_at_call 29; refine HROOM1.out.mono ?_; rintro e w' ⟨rfl, rfl⟩)
          go_ret3
          refine ⟨?_, O1.out⟩
          rw [HOK.out]
          simp [h0, hr]
          exact EW.out.symm
        · have hr' : ¬ (f : Int) ≤ l.room := by omega
          go_wp2_with (go_at_call 29; refine HROOM1.out.mono ?_; rintro e w' ⟨rfl, rfl⟩)
          go_ret3
          refine ⟨?_, O1.out⟩
          rw [HOK.out]
          simp [hr]
          exact EW.out.symm
      · have hneg : wrap64 (f : Int) < 0 := by unfold wrap64; omega
        have hge : ¬ (0 : Int) ≤ wrap64 (f : Int) := by omega
        have hnr : ¬ f ≤ l.room := by omega
        have HNR := Lib.hid hnr
        clear hbig hf hnr ht
        generalize hfi : wrap64 (f : Int) = fi at *
        have HFI := Lib.hid hfi
        clear hfi
        have hd : decide ((0 : Int) ≤ fi) = false := by simpa using hneg
        clear hneg hge
        go_wp2_with fail
        go_ret3
        refine ⟨?_, O1.out⟩
        rw [HOK.out]
        simp [HNR.out]
        exact HFI.out.symm
    · have h0' : ¬ (0 : Int) < t := by omega
      go_wp2_with fail
      go_ret3
      refine ⟨?_, O1.out⟩
      rw [HOK.out]
      simp [h0]
end Go.Proofs.Ytjbjikigiienkaa.W
