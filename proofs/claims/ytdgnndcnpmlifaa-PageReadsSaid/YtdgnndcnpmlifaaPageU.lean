/-
  The laws on pages: known, few, the helper's Bytes: by contracts.
-/
import Derived.Test.YtdgnndcnpmlifaaPageL
import Derived.Test.YtdgnndcnpmlifaaStepsP
import Derived.Lib.SlBytesConst
namespace Go.Proofs.Ytdgnndcnpmlifaa.G
set_option linter.unusedSimpArgs false
open Go Go.RowKit Go.Proofs.Ytdgnndcnpmlifaa.B Go.Proofs.Ytdgnndcnpmlifaa.C
set_option linter.unusedVariables false
theorem push_all : ∀ (l : List UInt8) (s : ByteArray), (l.map fun b => (b.toNat : Int)).foldl (fun r n => r.push (UInt8.ofNat n.toNat)) s = ⟨s.data ++ l.toArray⟩
  | [], s => by simp
  | b :: l, s => by
    simp only [List.map_cons, List.foldl_cons, Int.toNat_natCast, UInt8.ofNat_toNat]
    rw [push_all l]
    show (⟨s.data.push b ++ l.toArray⟩ : ByteArray) = _
    congr 1
    simp
theorem bytes_string {w : World} {v : Value} {l : List UInt8} (h : BytesAt w v l) : (convert 23 9 v).run Try.prog w = .ok (.string ⟨l.toArray⟩) w := by
  obtain ⟨ao, cap, rfl, hc0⟩ := h
  rw [run_convert_bytes_string w 23 9 5 ao l.length cap Try.underlying23 Try.underlying5 Try.underlying9]
  by_cases h0 : l = []
  · subst h0
    cases ao with
    | none => rfl
    | some a => rfl
  · obtain ⟨b, o, rfl, hc⟩ := hc0 (List.length_pos_iff.2 h0)
    have hl := run_loadCells_list (P := Try.prog) w ⟨b, o, none⟩ (u8s l) (cells_src hc)
    rw [length_u8s] at hl
    have e : u8s l = (l.map fun b => (b.toNat : Int)).map (Value.int .u8) := by simp [u8s]
    rw [e] at hl
    rw [run_bytesToString w ⟨b, o, none⟩ l.length cap _ hl, push_all]
    simp
theorem bytesf_any {w : World} {x y : Value} {a b : List UInt8} (hx : BytesAt w x a) (hy : BytesAt w y b) :
    Calls Try.prog 19 #[x, y] w fun e w' => e = .returned (.bool (a == b)) ∧ w = w' := by
  have c1 := bytes_string hx
  have c2 := bytes_string hy
  go_enter Try.func19, Try.ntmps19
  go_wp2
  go_ret
  exact ⟨rfl, rfl⟩
theorem bytesf_yes {w : World} {x y : Value} {a b : List UInt8} (hx : BytesAt w x a) (hy : BytesAt w y b) (e : a = b) :
    Calls Try.prog 19 #[x, y] w fun e w' => e = .returned (.bool true) ∧ w = w' := by
  have := bytesf_any hx hy
  rw [beq_iff_eq.2 e] at this
  exact this
theorem Blk.bytes {w : World} {b : Nat} {l : List UInt8} {t : TypeId} (h : Blk w b (u8s l) t) {n c : Nat} (hn : n = l.length) : BytesAt w (.slice (some ⟨b, 0, none⟩) n c) l := by
  subst hn
  refine ⟨_, c, rfl, fun _ => ⟨b, 0, rfl, fun j hj => ?_⟩⟩
  rw [Nat.zero_add, h.cell, u8s_get, List.getElem?_eq_getElem hj, List.getD_eq_getElem?_getD, List.getElem?_eq_getElem hj]
  rfl
theorem bytes_made {w : World} {l : List UInt8} {t : TypeId} (fr : Nat × Nat) {n c : Nat} (hn : n = l.length) : BytesAt (w.alloc (.cells (u8s l).toArray t fr)) (.slice (some ⟨w.heap.size, 0, none⟩) n c) l := by
  subst hn
  refine ⟨_, c, rfl, fun _ => ⟨w.heap.size, 0, rfl, fun j hj => ?_⟩⟩
  rw [Nat.zero_add, cell_of_row _ w.heap.size j (u8s l).toArray t fr (heap_alloc_new w _)]
  rw [List.getElem?_toArray, u8s_get, List.getElem?_eq_getElem hj, List.getD_eq_getElem?_getD, List.getElem?_eq_getElem hj]
  rfl
set_option maxRecDepth 100000 in
set_option maxHeartbeats 1000000 in
theorem known_any (w : World) : Calls Try.prog 8 #[] w fun e w' => e = .returned (.bool true) ∧ Only [] w w' := by
  have NW : Hid (Calls Try.prog 9 #[.int .u8 1] w fun e w' => ∃ gb c, e = .returned (.slice (some ⟨gb, 0, none⟩) 512 c) ∧ Buf w' gb c (newP 1) ∧ w.heap.size ≤ gb ∧ Only [] w w') := new_any 1
  have hF : Fresh (newP 1) 1 := new_fresh 1
  generalize newP 1 = p at *
  obtain ⟨l, hl⟩ : ∃ l : List UInt8, [97, 98] = l := ⟨_, rfl⟩
  have hll : l.length = 2 := by rw [← hl]; rfl
  have hlu : ([.int .u8 97, .int .u8 98] : List Value) = u8s l := by rw [← hl]; rfl
  obtain ⟨he, hI, hn, hs, hf, hd⟩ := fresh_ins (b := l) hF (by omega) (by omega)
  obtain ⟨f1, f2⟩ := hF.free
  rw [hll] at hf
  have INS : Hid (∀ w1 v vb, BytesC w1 v p → BytesAt w1 vb l → Calls Try.prog 10 #[v, vb] w1 fun e w' => ∃ gb c, e = .returned (.tuple #[.slice (some ⟨gb, 0, none⟩) 512 c, .int .i64 0, .int .i64 0]) ∧ Buf w' gb c (insP p l) ∧ w1.heap.size ≤ gb ∧ Only [] w1 w') := fun w1 v vb h1 h2 => by
    have := insert_yes h1 h2 he
    rw [f1] at this
    exact this
  have FR1 : Hid (∀ w1 v, BytesC w1 v p → Calls Try.prog 11 #[v] w1 fun e w' => e = .returned (.int .i64 502) ∧ Only [] w1 w') := fun w1 v h1 => by
    have := freef_any h1
    rw [free_ok hF.pg, f2] at this
    exact this
  have FR2 : Hid (∀ w1 v, BytesC w1 v (insP p l) → Calls Try.prog 11 #[v] w1 fun e w' => e = .returned (.int .i64 496) ∧ Only [] w1 w') := fun w1 v h1 => by
    have := freef_any h1
    rw [free_ok hI.pg, show freeB (insP p l) = 496 by omega] at this
    exact this
  have DL : Hid (∀ w1 v, BytesC w1 v (insP p l) → Calls Try.prog 12 #[v, .int .i64 0] w1 fun e w' => ∃ gb c, e = .returned (.tuple #[.slice (some ⟨gb, 0, none⟩) 512 c, .int .i64 0]) ∧ Buf w' gb c p ∧ w1.heap.size ≤ gb ∧ Only [] w1 w') := fun w1 v h1 => by
    refine (delete_yes h1 hI.pg (i := 0) (by omega) hs).mono ?_
    rintro e w' ⟨gb, c, r, he, hr, hb, hg, hO⟩
    rw [hd r hr] at hb
    exact ⟨gb, c, he, hb, hg, hO⟩
  generalize insP p l = q at *
  have kc := fun (w : World) (C : Array Value) (n c : Nat) => Lib.run_convert_bytes_const (P := Try.prog) w 23 5 C n c Try.underlying23 Try.underlying5
  have HLL : Hid (2 = l.length) := hll.symm
  clear hl he hI hn hs hf hd f1 f2 hF
  go_enter Try.func8, Try.ntmps8
  go_wp2_with (first
    | (go_at_call 9; refine NW.out.mono ?_; rintro e w1 ⟨gb, c, rfl, hb1, hg1, hO1⟩; have B1 := Lib.hid hb1; have O1 := Lib.hid hO1; clear hb1 hg1 hO1)
    | (go_at_call 10; refine (INS.out _ _ _ (B1.out.past ((Only.refl [] w1).alloc _)).c (bytes_made _ HLL.out)).mono ?_; rintro e w3 ⟨gb2, c2, rfl, hb3, hg3, hO3⟩; have Q3 := Lib.hid hb3; have B3 := Lib.hid ((B1.out.past ((Only.refl [] w1).alloc _)).past hO3); have O3 := Lib.hid ((O1.out.alloc _).trans hO3 (by simp)); clear hb3 hg3 hO3)
    | (go_at_call_of 11 (Value.slice (some (Addr.mk gb 0 none)) 512 c); refine (FR1.out _ _ B3.out.c).mono ?_; rintro e w4 ⟨rfl, hO4⟩; have Q4 := Lib.hid (Q3.out.past hO4); have B4 := Lib.hid (B3.out.past hO4); have O4 := Lib.hid (O3.out.trans hO4 (by simp)); clear hO4)
    | (go_at_call 11; refine (FR2.out _ _ Q4.out.c).mono ?_; rintro e w5 ⟨rfl, hO5⟩; have Q5 := Lib.hid (Q4.out.past hO5); have B5 := Lib.hid (B4.out.past hO5); have O5 := Lib.hid (O4.out.trans hO5 (by simp)); clear hO5)
    | (go_at_call 12; refine (DL.out _ _ Q5.out.c).mono ?_; rintro e w6 ⟨gb6, c6, rfl, hb6, hg6, hO6⟩; have Q6 := Lib.hid hb6; have B6 := Lib.hid (B5.out.past hO6); have O6 := Lib.hid (O5.out.trans hO6 (by simp)); clear hb6 hg6 hO6)
    | (go_at_call 19; refine (bytesf_yes Q6.out.at B6.out.at rfl).mono ?_; rintro e w7 ⟨rfl, rfl⟩))
  go_ret
  exact ⟨rfl, O6.out⟩
open Classical in
noncomputable def fewB (l : List StepD) : Bool := decide (l.length ≤ 160 ∧ ∀ i, i < l.length → (l.getD i stepZ).cell.length ≤ 600)
theorem few_yes {l : List StepD} : fewB l = true ↔ (l.length ≤ 160 ∧ ∀ i, i < l.length → (l.getD i stepZ).cell.length ≤ 600) := by unfold fewB; simp
theorem few_no {l : List StepD} (h : ¬ (l.length ≤ 160 ∧ ∀ i, i < l.length → (l.getD i stepZ).cell.length ≤ 600)) : fewB l = false := by rw [Bool.eq_false_iff]; exact fun hx => h (few_yes.1 hx)
/-- few: where it says yes the steps are short and few. -/
theorem few_any {w : World} {v : Value} {l : List StepD} (h : StepsAt w v l) :
    Calls Try.prog 15 #[v] w fun e w' => e = .returned (.bool (fewB l)) ∧ w = w' := by
  obtain ⟨ao, cap, rfl, hm, hc⟩ := h
  have HC := Lib.hid hc
  clear hc
  have FY : Hid (l.length ≤ 160 → (∀ i, i < l.length → (l.getD i stepZ).cell.length ≤ 600) → fewB l = true) := fun h1 h2 => few_yes.2 ⟨h1, h2⟩
  have FN : Hid ((l.length ≤ 160 → ∃ i, i < l.length ∧ ¬ (l.getD i stepZ).cell.length ≤ 600) → fewB l = false) := fun h1 => few_no fun h2 => by
    obtain ⟨i, h3, h4⟩ := h1 h2.1
    exact h4 (h2.2 i h3)
  generalize fewB l = z at *
  generalize hn : l.length = n at *
  have HN := Lib.hid hn
  have hm2 : n ≤ 9223372036854775807 := by unfold maxLen at hm; omega
  clear hn hm
  go_enter Try.func15, Try.ntmps15
  go_wp2_with fail
  go_loopg [3] n (fun gk s3 wx => ∃ j : Nat, gk = n - j ∧ j ≤ n ∧ s3 = .int .i64 j ∧ wx = w ∧ ∀ i, i < j → (l.getD i stepZ).cell.length ≤ 600)
  case atStart => exact ⟨0, rfl, Nat.zero_le _, rfl, rfl, fun i hi => by omega⟩
  case round =>
    obtain ⟨j, hgk, hj, rfl, rfl, hs⟩ := hrel
    have HGK := Lib.hid hgk
    have HS := Lib.hid hs
    clear hgk hs
    by_cases hlt : j < n
    · have hj0 : (0 : Int) ≤ j := by omega
      have hj1 : (j : Int) < n := by omega
      obtain ⟨b, o, rfl, hst⟩ := HC.out (by omega)
      obtain ⟨kv, hk⟩ := hst j hlt
      have hb := hk.bytes.1
      have y2 := hk.c.2.2
      obtain ⟨ak, kc, rfl, _⟩ := hb
      clear hst hk
      have HK : Hid (∀ m, (l.getD j stepZ).cell.length = m → m ≤ 600 → ∀ i, i < j + 1 → (l.getD i stepZ).cell.length ≤ 600) := fun m h1 h2 i hi => by
        by_cases hij : i = j
        · rw [hij]; omega
        · exact HS.out i (by omega)
      have FNj := Lib.hid (fun h => FN.out (fun _ => ⟨j, hlt, h⟩))
      generalize hkl : (l.getD j stepZ).cell.length = m at *
      have HKm := Lib.hid (HK.out m rfl)
      clear HK hkl
      by_cases h6 : m ≤ 600
      · have i1 : ¬ (m : Int) > 600 := by omega
        have i2 : (m : Int) ≤ 600 := by omega
        have HX := Lib.hid (HKm.out h6)
        go_wp2_with fail
        go_roundg (n - (j + 1))
        case measure => have := HGK.out; omega
        case rel => exact ⟨j + 1, rfl, by omega, by go_num, rfl, HX.out⟩
      · have i1 : (m : Int) > 600 := by omega
        have i2 : ¬ (m : Int) ≤ 600 := by omega
        have ZF := Lib.hid (FNj.out h6)
        go_wp2_with fail
        go_ret
        exact ⟨by rw [ZF.out]; rfl, rfl⟩
    · obtain rfl : j = n := by omega
      by_cases h6 : j ≤ 160
      · have i1 : (j : Int) ≤ 160 := by omega
        have ZT := Lib.hid (FY.out h6 HS.out)
        go_wp2_with fail
        go_ret
        exact ⟨by rw [ZT.out]; rfl, rfl⟩
      · have i1 : ¬ (j : Int) ≤ 160 := by omega
        have i2 : (160 : Int) < j := by omega
        have ZF := Lib.hid (FN.out (fun h => absurd h h6))
        go_wp2_with fail
        go_ret
        exact ⟨by rw [ZF.out]; rfl, rfl⟩
end Go.Proofs.Ytdgnndcnpmlifaa.G
