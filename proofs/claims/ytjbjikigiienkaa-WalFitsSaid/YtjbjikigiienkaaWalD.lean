/-
  The program's log over a disk: heads and placed by their contracts.
-/
import Derived.Test.YtjbjikigiienkaaWalC
namespace Go.Proofs.Ytjbjikigiienkaa.W
set_option linter.unusedSimpArgs false
open Go.RowKit Go.Proofs.Ytjbjikigiienkaa.D Go.Proofs.Ytjbjikigiienkaa.B
set_option linter.unusedVariables false
variable {W w w' w2 : World} {p d : Nat} {v v' : Value} {l l' : LS} {M M' : List Nat} {s s' : DS}

/-- What a contract asks of the disk's numbers. -/
structure Room (s : DS) (n : Nat) : Prop where
  c0 : 0 ≤ s.count
  c1 : s.count + n ≤ 1099511627776
  r : s.row.length + n ≤ 1048575

theorem sliced {w : World} {v : Value} {l : List UInt8} {m : Nat} (h : ByteRow 5 w v l) (hl : l.length = m) (h0 : 0 < m) : ∃ g c, v = .slice (some ⟨g, 0, none⟩) m c ∧ m ≤ c := by
  subst hl
  rcases h.2 with ⟨_, h1⟩ | ⟨g, cap, cur, rfl, _, _, h3, _⟩
  · omega
  · exact ⟨g, cap, rfl, h3⟩

def HeadsPost (W : World) (p d : Nat) (v : Value) (l : LS) (s : DS) (fin : Nat) (w : World) (e : Ending) (w' : World) : Prop :=
  e = .returned (.int .i64 (headsS l s fin).2.2) ∧ ∃ M', Logd W w' p d v (headsS l s fin).1 M' (headsS l s fin).2.1 ∧ Far v w w'
set_option maxRecDepth 100000 in
set_option maxHeartbeats 1000000 in
theorem heads_any (h : Logd W w p d v l M s) (fin : Nat) (hf : fin < 9223372036854775808) (hsz : l.size ≤ 65536) (hfi : l.first ≤ 65536) (ht : l.turn + 1 < 18446744073709551616) (hslot : l.slot < 2) (hr : Room s 2) :
    Calls Try.prog 23 #[.pointer (some ⟨p, 0, none⟩), .int .i64 fin] w (HeadsPost W p d v l s fin w) := by
  have HH := Lib.hid h
  have c0 := h.lg.log.cell 0
  have c1 := h.lg.log.cell 1
  have c2 := h.lg.log.cell 2
  have c3 := h.lg.log.cell 3
  have c4 := h.lg.log.cell 4
  simp only [logCells, List.getElem?_cons_zero, List.getElem?_cons_succ] at c0 c1 c2 c3 c4
  have HR := Lib.hid hr
  clear h hr
  obtain ⟨q, hq⟩ : ∃ q : Nat, (l.slot + 1) % 2 = q := ⟨_, rfl⟩
  obtain ⟨ai, hai⟩ : ∃ ai : Nat, l.first + q = ai := ⟨_, rfl⟩
  obtain ⟨t1, ht1⟩ : ∃ t1 : Nat, l.turn + 1 = t1 := ⟨_, rfl⟩
  have e4 : (((l.slot : Int) + 1) % 2) = (q : Int) := by omega
  have e1 : IntKind.i64.wrap ((l.first : Int) + (q : Int)) = (ai : Int) := by rw [IntKind.wrap_i64]; omega
  have e3 : IntKind.u64.wrap ((l.turn : Int) + 1) = (t1 : Int) := by simp [IntKind.wrap, IntKind.signed, IntKind.bits]; omega
  have e5 : ((l.turn : Int) + 1) = (t1 : Int) := by omega
  obtain ⟨a1, r1, hw⟩ : ∃ a1 r1, s.write (ai : Int) (headB l.size t1 fin) = (a1, r1) := ⟨_, _, rfl⟩
  have HW := Lib.hid hw
  have HS : Hid (headsS l s fin = if r1 ≠ 0 then (l, a1, r1) else if a1.sync.2 ≠ 0 then (l, a1.sync.1, a1.sync.2) else ({ l with turn := t1, slot := q }, a1.sync.1, 0)) := by
    show _ = _
    unfold headsS
    rw [hq, hai, ht1, hw]
  have HSM : Hid (a1.count = s.count + 1 ∧ a1.row.length ≤ s.row.length + 1) := by
    have := write_same s ai (headB l.size t1 fin)
    rw [hw] at this
    exact ⟨this.1, this.2.1⟩
  have ht1' : t1 < 18446744073709551616 := by omega
  have HT1 := Lib.hid ht1'
  have E4 := Lib.hid e4
  have E5 := Lib.hid e5
  have HHD := Lib.hid (fun w => head_any (w := w) l.size t1 fin (by omega) ht1' (by omega) (fin : Int) (by simp [IntKind.wrap, IntKind.signed, IntKind.bits]; omega))
  clear hw hq hai ht1 e4 ht1' ht e5
  have pM : Hid (p ∉ M) := fun hm => HH.out.dk.off (by decide) (by decide) (by decide) _ hm _ HH.out.lg.log
  go_enter Try.func23, Try.ntmps23
  go_wp2_with fail
  rw [E4.out]
  go_region_held3 (fun w' => w'.cell? ⟨p, 0, none⟩ = some (.pointer (some ⟨d, 0, none⟩)) ∧ w'.cell? ⟨p, 1, none⟩ = some (.int .i64 l.first) ∧ w'.cell? ⟨p, 2, none⟩ = some (.int .i64 l.size) ∧ w'.cell? ⟨p, 3, none⟩ = some (.int .u64 l.turn)) (first | go_keep | exact hKEEP)
    (first
      | (go_at_call 39; refine (HHD.out _).mono ?_; rintro e w3 ⟨v3, rfl, ho3, hk3, hO3⟩; obtain ⟨g3, k3, rfl, _⟩ := sliced ho3 (headB_len _ _ _) (by omega); have hKEEP := And.intro (hO3.cell (p := ⟨p, 0, none⟩) c0 (by simp)) (And.intro (hO3.cell (p := ⟨p, 1, none⟩) c1 (by simp)) (And.intro (hO3.cell (p := ⟨p, 2, none⟩) c2 (by simp)) (hO3.cell (p := ⟨p, 3, none⟩) c3 (by simp)))))
      | (go_at_call 38; refine (((HH.out.past (Only.refl _ _).drew).past hO3).dk.write' HW.out HR.out.c0 (by have := HR.out.c1; omega) (by have := HR.out.r; omega) ho3.at (notIn rfl (fun hm => by have := hk3 g3 rfl; have := HH.out.dk.lt _ hm; simp at *; omega))).mono ?_; rintro e w5 ⟨rfl, M5, hD5, hS5⟩; have hKEEP := And.intro (hS5.1.cell (p := ⟨p, 0, none⟩) hKEEP.1 pM.out) (And.intro (hS5.1.cell (p := ⟨p, 1, none⟩) hKEEP.2.1 pM.out) (And.intro (hS5.1.cell (p := ⟨p, 2, none⟩) hKEEP.2.2.1 pM.out) (hS5.1.cell (p := ⟨p, 3, none⟩) hKEEP.2.2.2 pM.out)))))
  have O3 : Hid (Only [] w w3) := ((Only.refl _ _).drew).trans hO3 (by simp)
  have L5 := Lib.hid ((HH.out.past O3.out).step hD5 hS5)
  have F5 := Lib.hid ((Far.past v O3.out).trans (Far.step (HH.out.dk.past O3.out) hS5 v) (fun x hx => .inl hx))
  clear ho3 hk3 hO3 hD5 hS5 hKEEP c0 c1 c2 c3 c4
  by_cases hr1 : r1 = 0
  · subst hr1
    have c0 := L5.out.lg.log.cell 0
    have c3 := L5.out.lg.log.cell 3
    simp only [logCells, List.getElem?_cons_zero, List.getElem?_cons_succ] at c0 c3
    obtain ⟨a2, r2, hs2⟩ : ∃ a2 r2, a1.sync = (a2, r2) := ⟨_, _, rfl⟩
    have HS2 := Lib.hid hs2
    rw [hs2] at HS
    clear hs2
    go_wp2_with fail
    refine (L5.out.dk.sync' HS2.out (by have := HSM.out.1; have := HR.out.c0; omega) (by have := HSM.out.1; have := HR.out.c1; omega) (by have := HSM.out.2; have := HR.out.r; omega)).mono ?_
    rintro e w6 ⟨rfl, M6, hD6, hS6⟩
    have L6 := Lib.hid (L5.out.step hD6 hS6)
    have F6 := Lib.hid (F5.out.trans (Far.step L5.out.dk hS6 v) (fun x hx => .inl hx))
    clear hD6 hS6 c0 c3
    by_cases hr2 : r2 = 0
    · subst hr2
      have c3 := L6.out.lg.log.cell 3
      have f3 := L6.out.lg.log.frozen 3
      have f4 := L6.out.lg.log.frozen 4
      obtain ⟨y4, c4⟩ := L6.out.lg.log.at 4 (by simp [logCells])
      simp only [logCells, List.getElem?_cons_zero, List.getElem?_cons_succ] at c3
      go_wp2_with fail
      go_ret
      unfold HeadsPost
      rw [HS.out]
      simp only [ne_eq, not_true_eq_false, if_false]
      have hO7 : Only [p] w6 ((w6.setCell ⟨p, 3, none⟩ (.int .u64 t1)).setCell ⟨p, 4, none⟩ (.int .i64 q)) := ((Only.refl [p] _).setCell (.inl (by simp)) _).setCell (.inl (by simp)) _
      exact ⟨rfl, M6, L6.out.cells (l' := { l with turn := t1, slot := q }) hO7 ((((L6.out.lg.log.set 3 _).set 4 _)).to (by simp [logCells])) rfl, F6.out.trans (Far.cells L6.out.lg.log hO7 v) (fun x hx => .inl hx)⟩
    · have hb : (r2 != 0) = true := by simp [hr2]
      have hb2 : (r2 == 0) = false := by simp [hr2]
      go_wp2_with fail
      go_ret
      unfold HeadsPost
      rw [HS.out]
      simp only [hr2, ne_eq, not_true_eq_false, not_false_eq_true, if_false, if_true]
      exact ⟨rfl, M6, L6.out, F6.out⟩
  · have hb : (r1 != 0) = true := by simp [hr1]
    have hb2 : (r1 == 0) = false := by simp [hr1]
    go_wp2_with fail
    go_ret
    unfold HeadsPost
    rw [HS.out]
    simp only [hr1, ne_eq, not_false_eq_true, if_true]
    exact ⟨rfl, M5, L5.out, F5.out⟩

def placedB (first sectors : Int) (n : Nat) : Bool := decide (0 ≤ first) && decide (4 ≤ sectors) && decide (first + sectors ≤ n)
set_option maxRecDepth 100000 in
theorem placed_any (h : Disk w d M s) (first sectors : Int) (h1 : -9223372036854775808 ≤ first ∧ first ≤ 9223372036854775807) (h2 : -9223372036854775808 ≤ sectors ∧ sectors ≤ 9223372036854775807) :
    Calls Try.prog 21 #[.pointer (some ⟨d, 0, none⟩), .int .i64 first, .int .i64 sectors] w fun e w' => e = .returned (.bool (placedB first sectors s.now.length)) ∧ w = w' := by
  have hbig := h.len.2
  have HS := Lib.hid h.sectors
  have HH := Lib.hid h
  clear h
  have HP : Hid (placedB first sectors s.now.length = (decide (0 ≤ first) && decide (4 ≤ sectors) && decide (first + sectors ≤ s.now.length))) := rfl
  generalize s.now.length = n at *
  by_cases a1 : 0 ≤ first
  · by_cases a2 : 4 ≤ sectors
    · by_cases a3 : sectors ≤ 65536
      · by_cases a4 : first ≤ n
        · have a5 : IntKind.i64.wrap ((n : Int) - first) = n - first := by rw [IntKind.wrap_i64]; omega
          by_cases a6 : sectors ≤ n - first
          · go_enter Try.func21, Try.ntmps21
            go_wp2_with (go_at_call 35; refine HS.out.mono ?_; rintro e w' ⟨rfl, rfl⟩)
            go_ret
            refine ⟨?_, rfl⟩
            rw [HP.out]
            simp [a1, a2]
            omega
          · go_enter Try.func21, Try.ntmps21
            go_wp2_with (go_at_call 35; refine HS.out.mono ?_; rintro e w' ⟨rfl, rfl⟩)
            go_ret
            refine ⟨?_, rfl⟩
            rw [HP.out]
            simp [a1, a2]
            omega
        · go_enter Try.func21, Try.ntmps21
          go_wp2_with (go_at_call 35; refine HS.out.mono ?_; rintro e w' ⟨rfl, rfl⟩)
          go_ret
          refine ⟨?_, rfl⟩
          rw [HP.out]
          simp [a1, a2]
          omega
      · go_enter Try.func21, Try.ntmps21
        go_wp2_with (go_at_call 35; refine HS.out.mono ?_; rintro e w' ⟨rfl, rfl⟩)
        go_ret
        refine ⟨?_, rfl⟩
        rw [HP.out]
        simp [a1, a2]
        omega
    · go_enter Try.func21, Try.ntmps21
      go_wp2_with (go_at_call 35; refine HS.out.mono ?_; rintro e w' ⟨rfl, rfl⟩)
      go_ret
      refine ⟨?_, rfl⟩
      rw [HP.out]
      simp
      omega
  · go_enter Try.func21, Try.ntmps21
    go_wp2_with (go_at_call 35; refine HS.out.mono ?_; rintro e w' ⟨rfl, rfl⟩)
    go_ret
    refine ⟨?_, rfl⟩
    rw [HP.out]
    simp
    omega
end Go.Proofs.Ytjbjikigiienkaa.W
