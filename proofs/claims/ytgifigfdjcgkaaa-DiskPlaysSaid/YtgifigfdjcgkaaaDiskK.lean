/-
  known of the package of laws on disks answers true at whatever world.
-/
import Derived.Test.YtgifigfdjcgkaaaDiskX
namespace Go.Proofs.Ytgifigfdjcgkaaa.D
set_option linter.unusedSimpArgs false
open Go.RowKit
set_option linter.unusedVariables false

/-- A block of bytes of the caller's own is a slice of bytes. -/
theorem Blk.bytes {w : World} {b : Nat} {l : List UInt8} {t : TypeId} (h : Blk w b (u8s l) t) {n c : Nat} (hn : n = l.length) : BytesAt w (.slice (some ⟨b, 0, none⟩) n c) l := by
  subst hn
  refine ⟨_, c, rfl, fun _ => ⟨b, 0, rfl, fun j hj => ?_⟩⟩
  rw [Nat.zero_add, h.cell, u8s_get, List.getElem?_eq_getElem hj, List.getD_eq_getElem?_getD, List.getElem?_eq_getElem hj]
  rfl
theorem Blk.ints {w : World} {b : Nat} {l : List Int} {t : TypeId} (h : Blk w b (l.map (Value.int .i64)) t) {n c : Nat} (hn : n = l.length) : IntsAt w (.slice (some ⟨b, 0, none⟩) n c) l := by
  subst hn
  refine ⟨_, c, rfl, fun _ => ⟨b, 0, rfl, fun j hj => ?_⟩⟩
  rw [Nat.zero_add, h.cell, List.getElem?_map, List.getElem?_eq_getElem hj, List.getD_eq_getElem?_getD, List.getElem?_eq_getElem hj]
  rfl
theorem notIn {M : List Nat} {b : Nat} {v : Value} {n c : Nat} (hv : v = .slice (some ⟨b, 0, none⟩) n c) (h : b ∉ M) : ∀ a n c, v = .slice (some a) n c → a.block ∉ M := by
  intro a n' c' h2
  rw [hv] at h2
  simp only [Value.slice.injEq, Option.some.injEq] at h2
  rw [← h2.1]; exact h

theorem write_ok {s : DS} {i : Nat} {l : Sector} (he : s.err = 0) (hi : i < s.now.length) (hl : l.length = 512) : s.write i l = ({ s.changed with now := s.now.set i l, row := s.row ++ [(i, l)] }, 0) := by
  unfold DS.write
  rw [if_neg (by simp [he]), if_neg (by omega), if_neg (by omega)]
  simp
theorem sync_ok {s : DS} (he : s.err = 0) : s.sync = (s.changed.synced, 0) := by simp [DS.sync, he]

theorem Disk.write' {w d M s} (h : Disk w d M s) {i : Int} {l : Sector} {s' : DS} {r : Int} (e : s.write i l = (s', r)) (hc0 : 0 ≤ s.count) (hc1 : s.count ≤ 1099511627776) (hr : s.row.length ≤ 1048575) {v : Value} (hb : BytesAt w v l) (hbM : ∀ a n c, v = .slice (some a) n c → a.block ∉ M) :
    Calls Try.prog 10 #[.pointer (some ⟨d, 0, none⟩), .int .i64 i, v] w fun e w' => e = .returned (.int .i64 r) ∧ ∃ M', Disk w' d M' s' ∧ Step M M' w w' := by
  have := h.write hc0 hc1 hr i hb hbM
  rw [e] at this; exact this
theorem Disk.sync' {w d M s} (h : Disk w d M s) {s' : DS} {r : Int} (e : s.sync = (s', r)) (hc0 : 0 ≤ s.count) (hc1 : s.count ≤ 1099511627776) (hr : s.row.length ≤ 1048576) :
    Calls Try.prog 12 #[.pointer (some ⟨d, 0, none⟩)] w fun e w' => e = .returned (.int .i64 r) ∧ ∃ M', Disk w' d M' s' ∧ Step M M' w w' := by
  have := h.sync hc0 hc1 hr
  rw [e] at this; exact this
theorem Disk.read' {w d M s} (h : Disk w d M s) {i : Int} {l : List UInt8} {r : Int} (e : s.read i = (l, r)) :
    Calls Try.prog 14 #[.pointer (some ⟨d, 0, none⟩), .int .i64 i] w fun e w' => ∃ v, e = .returned (.tuple #[v, .int .i64 r]) ∧ Fresh w w' v l ∧ Only [] w w' := by
  have := h.read i
  rw [e] at this; exact this
theorem Step.next {M M' M'' : List Nat} {a w w' : World} (h : Step M M' a w) (k : Step M' M'' w w') : Step M M'' a w' :=
  ⟨h.1.trans k.1 h.2, fun x hx => by
    rcases k.2 x hx with h1 | h1
    · exact h.2 x h1
    · right; have := h.1.size; omega⟩
theorem Step.only {M M' : List Nat} {a w w' : World} (h : Step M M' a w) (k : Only [] w w') : Step M M' a w' := ⟨h.1.trans k (by simp), h.2⟩
theorem Step.below {M : List Nat} {w w' : World} (h : Step [] M w w') : Below w.heap.size w w' := h.1.below (Nat.le_refl _) (by simp)
theorem Disk.newer {w d M s} (h : Disk w d M s) {b : Nat} (hb : w.heap.size ≤ b) : b ∉ M := fun hm => by have := h.lt b hm; omega

def kA : Sector := sec 1 512
def kB : Sector := sec 9 512
theorem kA_len : kA.length = 512 := sec_len _ _
theorem kB_len : kB.length = 512 := sec_len _ _
def kT : Sector := kB.take 3 ++ kA.drop 3
def k0 : DS := ⟨[zeros, zeros], [zeros, zeros], [], 0, 0, -1, false⟩
def k1 : DS := ⟨[kA, zeros], [zeros, zeros], [(0, kA)], 1, 0, -1, false⟩
def k2 : DS := ⟨[kA, zeros], [kA, zeros], [], 2, 0, -1, false⟩
def k3 : DS := ⟨[kB, zeros], [kA, zeros], [(0, kB)], 3, 0, -1, false⟩
def k4 : DS := ⟨[kT, zeros], [kT, zeros], [], 3, 0, -1, false⟩
theorem dec0 : dec 0 0 = 0 := dec_eq (by omega) (by omega)
theorem dec1 : dec (-1) (-1) = -1 := dec_eq (by omega) (by omega)
theorem k0_eq : DS.fresh 2 = k0 := rfl
theorem k1_eq : k0.write 0 kA = (k1, 0) := by
  refine (write_ok (s := k0) (i := 0) (l := kA) (by decide) (by simp [k0]) kA_len).trans ?_
  simp [DS.changed, k0, k1, dec0, dec1]
theorem k2_eq : k1.sync = (k2, 0) := by
  refine (sync_ok (s := k1) rfl).trans ?_
  simp [DS.changed, DS.synced, DS.settledTo, k1, k2, dec0, dec1]
theorem k3_eq : k2.write 0 kB = (k3, 0) := by
  refine (write_ok (s := k2) (i := 0) (l := kB) rfl (by simp [k2]) kB_len).trans ?_
  simp [DS.changed, k2, k3, dec0, dec1]
theorem k4_eq : k3.restart [3] = k4 := by
  have h : kept [3] 0 = 3 := by decide
  simp [DS.restart, k3, k4, tornTo, tearOne, h, kT]
theorem k5_eq : k4.read 0 = (kT, 0) := rfl
theorem kT_len : kT.length = 512 := by rw [kT, List.length_append, List.length_take, List.length_drop, kA_len, kB_len]; rfl

set_option maxRecDepth 100000 in
set_option maxHeartbeats 1000000 in
theorem known_yes (w : World) : Calls Try.prog 8 #[] w fun e w' => e = .returned (.bool true) ∧ Below w.heap.size w w' := by
  have N : ∀ w, Calls Try.prog 9 #[.int .i64 2] w fun e w' => ∃ d M, e = .returned (.tuple #[.pointer (some ⟨d, 0, none⟩), .int .i64 0]) ∧ Disk w' d M k0 ∧ Step [] M w w' := fun w => Disk.new (n := 2) (by omega) (by omega)
  have S1 : ∀ w, Calls Try.prog 11 #[.int .u8 1, .bool false] w fun e w' => e = .returned (.slice (some ⟨w.heap.size, 0, none⟩) 512 512) ∧ Blk w' w.heap.size (u8s kA) 5 ∧ Only [] w w' := fun w => sector_any 1 false w
  have S2 : ∀ w, Calls Try.prog 11 #[.int .u8 9, .bool false] w fun e w' => e = .returned (.slice (some ⟨w.heap.size, 0, none⟩) 512 512) ∧ Blk w' w.heap.size (u8s kB) 5 ∧ Only [] w w' := fun w => sector_any 9 false w
  have HN := Lib.hid N
  have HS1 := Lib.hid S1
  have HS2 := Lib.hid S2
  clear N S1 S2
  go_enter Try.func8, Try.ntmps8
  go_wp2_with (go_at_call 9; refine (HN.out _).mono ?_; rintro e w1 ⟨d, M1, rfl, hD1, hS1⟩; have D1 := Lib.hid hD1; have O1 := Lib.hid hS1; clear hD1 hS1)
  refine (HS1.out _).mono ?_
  rintro e w2 ⟨rfl, hb2, hO2⟩
  have D2 := Lib.hid (D1.out.past hO2)
  have B2 := Lib.hid hb2
  have O2 := Lib.hid (O1.out.only hO2)
  clear hb2 hO2
  go_wp2_with fail
  refine (D2.out.write' k1_eq (by decide) (by decide) (by decide) (Blk.bytes B2.out kA_len.symm) (notIn rfl (D1.out.newer (Nat.le_refl _)))).mono ?_
  rintro e w3 ⟨rfl, M3, hD3, hS3⟩
  have D3 := Lib.hid hD3
  have O3 := Lib.hid (O2.out.next hS3)
  clear hD3 hS3
  go_wp2_with fail
  refine (D3.out.sync' k2_eq (by decide) (by decide) (by decide)).mono ?_
  rintro e w4 ⟨rfl, M4, hD4, hS4⟩
  have D4 := Lib.hid hD4
  have O4 := Lib.hid (O3.out.next hS4)
  clear hD4 hS4
  go_wp2_with fail
  refine (HS2.out _).mono ?_
  rintro e w5 ⟨rfl, hb5, hO5⟩
  have D5 := Lib.hid (D4.out.past hO5)
  have B5 := Lib.hid hb5
  have O5 := Lib.hid (O4.out.only hO5)
  clear hb5 hO5
  go_wp2_with fail
  refine (D5.out.write' k3_eq (by decide) (by decide) (by decide) (Blk.bytes B5.out kB_len.symm) (notIn rfl (D4.out.newer (Nat.le_refl _)))).mono ?_
  rintro e w6 ⟨rfl, M6, hD6, hS6⟩
  have D6 := Lib.hid hD6
  have O6 := Lib.hid (O5.out.next hS6)
  clear hD6 hS6
  go_wp2_with fail
  have D6' := Lib.hid (D6.out.past ((Only.refl _ _).alloc (.cells #[.int .i64 3] 3)))
  refine (D6'.out.restart (by decide) (Blk.ints (l := [3]) (Blk.new _ _ _) rfl) (notIn rfl (D6.out.newer (Nat.le_refl _)))).mono ?_
  rw [k4_eq]
  rintro e w7 ⟨rfl, M7, hD7, hS7⟩
  have D7 := Lib.hid hD7
  have O7 := Lib.hid ((O6.out.only ((Only.refl _ _).alloc _)).next hS7)
  clear hD7 hS7
  go_wp2_with fail
  refine (D7.out.read' k5_eq).mono ?_
  rintro e w8 ⟨v, rfl, hv, hO8⟩
  have O8 := Lib.hid (O7.out.only hO8)
  rcases hv with ⟨_, h⟩ | ⟨rfl, hb8⟩
  · exact absurd (congrArg List.length h) (by rw [kT_len]; decide)
  rw [kT_len]
  have c0 := hb8.cell 0
  have c2 := hb8.cell 2
  have c3 := hb8.cell 3
  have g0 : (u8s kT)[0]? = some (.int .u8 9) := by rfl
  have g2 : (u8s kT)[2]? = some (.int .u8 11) := by rfl
  have g3 : (u8s kT)[3]? = some (.int .u8 4) := by rfl
  rw [g0] at c0
  rw [g2] at c2
  rw [g3] at c3
  clear hb8 hO8 g0 g2 g3
  go_wp2
  go_ret
  exact ⟨rfl, O8.out.below⟩
end Go.Proofs.Ytgifigfdjcgkaaa.D
