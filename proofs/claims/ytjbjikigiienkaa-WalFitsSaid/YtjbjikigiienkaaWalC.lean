/-
  The program's log over a disk: heading by its contract.
-/
import Derived.Test.YtjbjikigiienkaaWalB
import Derived.Deep.RegionHeld3
namespace Go.Proofs.Ytjbjikigiienkaa.W
set_option linter.unusedSimpArgs false
open Go.RowKit Go.Proofs.Ytjbjikigiienkaa.D Go.Proofs.Ytjbjikigiienkaa.B
set_option linter.unusedVariables false
variable {W w w' w2 : World} {p d : Nat} {v v' : Value} {l l' : LS} {M M' : List Nat} {s s' : DS}

/-- What a call on the log leaves alone: all blocks but the log's, the disk's, the tail's. -/
structure Far (v : Value) (w w' : World) : Prop where
  size : w.heap.size ≤ w'.heap.size
  keep : ∀ k cs t, Blk w k cs t → t ≠ 58 → t ≠ 54 → t ≠ 71 → t ≠ 73 → v.ownBlock ≠ some k → Blk w' k cs t
theorem Far.refl (v : Value) (w : World) : Far v w w := ⟨Nat.le_refl _, fun _ _ _ h _ _ _ _ _ => h⟩
theorem Far.past (v : Value) (hO : Only [] w w') : Far v w w' := ⟨hO.size, fun k cs t h _ _ _ _ _ => hO.blk h (by simp)⟩
theorem Far.trans (h : Far v w w') (k : Far v' w' w2) (hv : ∀ x, v'.ownBlock = some x → v.ownBlock = some x ∨ w.heap.size ≤ x) : Far v w w2 := ⟨Nat.le_trans h.size k.size, fun x cs t hb h1 h2 h3 h4 h5 =>
  k.keep x cs t (h.keep x cs t hb h1 h2 h3 h4 h5) h1 h2 h3 h4 (fun hx => by
    rcases hv x hx with h6 | h6
    · exact h5 h6
    · have := hb.lt; omega)⟩
/-- The log l at p over the disk s at d, all made since W. -/
structure Logd (W w : World) (p d : Nat) (v : Value) (l : LS) (M : List Nat) (s : DS) : Prop where
  dk : Disk w d M s
  lg : LogAt w p d v l
  own : Only [] W w
  nd : ∀ x ∈ M, W.heap.size ≤ x
  np : W.heap.size ≤ p
  nv : ∀ k, v.ownBlock = some k → W.heap.size ≤ k
theorem Logd.past (h : Logd W w p d v l M s) (hO : Only [] w w') : Logd W w' p d v l M s :=
  ⟨h.dk.past hO, ⟨hO.blk h.lg.log (by simp), h.lg.tail.off hO (Off.nil _ _)⟩, h.own.trans hO (by simp), h.nd, h.np, h.nv⟩
/-- The log's own cells have turned. -/
theorem Logd.cells (h : Logd W w p d v l M s) (hO : Only [p] w w') (hb : Blk w' p (logCells d v l') 58) (ht : l'.tail = l.tail) : Logd W w' p d v l' M s where
  dk := h.dk.later hO (fun k hk cs hq => by simp at hk; subst hk; exact h.lg.log.ne hq (by decide) rfl) (fun k hk hm => by simp at hm; subst hm; exact h.dk.off (by decide) (by decide) (by decide) _ hk _ h.lg.log)
  lg := ⟨hb, by rw [ht]; exact h.lg.tail.off hO (Off.one h.lg.log (by decide))⟩
  own := h.own.trans hO (fun x hx => .inr (by simp at hx; subst hx; exact h.np))
  nd := h.nd
  np := h.np
  nv := h.nv
theorem Far.cells (h : Blk w p (logCells d v l) 58) (hO : Only [p] w w') (v : Value) : Far v w w' := ⟨hO.size, fun k cs t hb h1 _ _ _ _ => hO.blk hb (by simp; rintro rfl; exact h1 (hb.inj h).2)⟩
/-- A step on the disk. -/
theorem Logd.step (h : Logd W w p d v l M s) (hD : Disk w' d M' s') (hS : Step M M' w w') : Logd W w' p d v l M' s' where
  dk := hD
  lg := ⟨hS.1.blk h.lg.log (fun hm => h.dk.off (by decide) (by decide) (by decide) _ hm _ h.lg.log), h.lg.tail.off hS.1 (h.dk.off (by decide) (by decide) (by decide))⟩
  own := h.own.trans hS.1 (fun x hx => .inr (h.nd x hx))
  nd := fun x hx => by
    rcases hS.2 x hx with h1 | h1
    · exact h.nd x h1
    · have := h.own.size; omega
  np := h.np
  nv := h.nv
theorem Far.step (h : Disk w d M s) (hS : Step M M' w w') (v : Value) : Far v w w' := ⟨hS.1.size, fun k cs t hb _ h2 h3 h4 _ => hS.1.blk hb (fun hm => h.off (Ne.symm h2) (Ne.symm h3) (Ne.symm h4) _ hm _ hb)⟩

/-- The log's places and numbers are such as they may be. -/
structure Sane (l : LS) (s : DS) : Prop where
  two : 2 ≤ l.size
  fit : l.first + l.size ≤ s.now.length
  big : s.now.length ≤ 16384

def HeadingPost (W : World) (p d : Nat) (v : Value) (l : LS) (M : List Nat) (s : DS) (w : World) (e : Ending) (w' : World) : Prop :=
  if s.down = true then e = .returned (.tuple #[.bool false, .int .i64 13]) ∧ Logd W w' p d v l M s ∧ Far v w w'
  else e = .returned (.tuple #[.bool (decide (0 < (l.seeTo s 2).turn)), .int .i64 0]) ∧ Logd W w' p d v (l.seeTo s 2) M s ∧ Far v w w'
set_option maxRecDepth 100000 in
set_option maxHeartbeats 1000000 in
theorem heading_any (h : Logd W w p d v l M s) (hs : Sane l s) (ht : l.turn < 18446744073709551616) :
    Calls Try.prog 22 #[.pointer (some ⟨p, 0, none⟩)] w (HeadingPost W p d v l M s w) := by
  have HH := Lib.hid h
  have h2 := hs.two
  have hfit := hs.fit
  have hbig := hs.big
  clear h hs
  by_cases hdn : s.down = true
  · have HRD : Hid (s.read (l.first : Int) = ([], 13)) := by
      show _ = _
      unfold DS.read
      rw [if_pos hdn]
    have HDN := Lib.hid hdn
    clear hdn
    go_enter Try.func22, Try.ntmps22
    go_wp2_with fail
    go_loopg [10] 0 (fun gk i wr => i = .int .i64 0 ∧ wr = w)
    case atStart => exact ⟨rfl, rfl⟩
    case round =>
      obtain ⟨rfl, rfl⟩ := hrel
      have c0 := HH.out.lg.log.cell 0
      have c1 := HH.out.lg.log.cell 1
      simp only [logCells, List.getElem?_cons_zero, List.getElem?_cons_succ] at c0 c1
      have HR := Lib.hid (fun w' (hO : Only [] wr w') => (HH.out.dk.past hO).read' HRD.out)
      have e1 : IntKind.i64.wrap (l.first : Int) = (l.first : Int) := by rw [IntKind.wrap_i64]; omega
      go_wp2_with fail
      go_region_held3 (fun w' => w'.cell? ⟨p, 0, none⟩ = some (.pointer (some ⟨d, 0, none⟩)) ∧ w'.cell? ⟨p, 1, none⟩ = some (.int .i64 l.first)) (first | go_keep | exact hKEEP)
        ((go_at_call 36; refine (HR.out _ (Only.refl _ _).drew).mono ?_; rintro e w3 ⟨v3, rfl, hv3, hO3⟩; have hKEEP := And.intro (hO3.cell (p := ⟨p, 0, none⟩) c0 (by simp)) (hO3.cell (p := ⟨p, 1, none⟩) c1 (by simp))))
      have O3 : Hid (Only [] wr w3) := ((Only.refl _ _).drew).trans hO3 (by simp)
      clear hv3 hO3 hKEEP c0 c1
      go_wp2_with fail
      go_ret2
      unfold HeadingPost
      rw [if_pos HDN.out]
      exact ⟨rfl, HH.out.past O3.out, Far.past v O3.out⟩
  · have hdn2 : s.down = false := by simpa using hdn
    have HRD : Hid (∀ k, k < 2 → s.read ((l.first + k : Nat) : Int) = (s.now.getD (l.first + k) [], 0)) := by
      intro k hk
      unfold DS.read
      rw [if_neg (by simp [hdn2]), if_neg (by omega), Int.toNat_natCast]
    have HDN := Lib.hid hdn2
    have HLEN : Hid (∀ k, k < 2 → (s.now.getD (l.first + k) []).length = 512) := fun k hk => HH.out.dk.secLen.1 _ (by omega)
    clear hdn hdn2
    go_enter Try.func22, Try.ntmps22
    go_wp2_with fail
    go_loopg [10] 2 (fun gk i wr => ∃ k : Nat, gk = 2 - k ∧ k ≤ 2 ∧ i = .int .i64 k ∧ Logd W wr p d v (l.seeTo s k) M s ∧ Far v w wr ∧ (l.seeTo s k).turn < 18446744073709551616)
    case atStart => exact ⟨0, rfl, by omega, rfl, HH.out, Far.refl _ _, ht⟩
    case round =>
      obtain ⟨k, hgk, hk, rfl, hL, hF, htk⟩ := hrel
      have HGK := Lib.hid hgk
      have L := Lib.hid hL
      have FR := Lib.hid hF
      have SF := Lib.hid (LS.seeTo_first l s k)
      clear hgk hL hF
      have c0 := L.out.lg.log.cell 0
      have c1 := L.out.lg.log.cell 1
      have c3 := L.out.lg.log.cell 3
      simp only [logCells, List.getElem?_cons_zero, List.getElem?_cons_succ] at c0 c1 c3
      rw [SF.out.1] at c1
      by_cases hlt : k < 2
      · have hk0 : (0 : Int) ≤ k := by omega
        have hk1 : (k : Int) < 2 := by omega
        have R := Lib.hid (HRD.out k hlt)
        have HB := Lib.hid (HLEN.out k hlt)
        generalize hB : s.now.getD (l.first + k) [] = B at *
        have HBE := Lib.hid hB
        have HN : Hid ((l.seeTo s (k + 1)) = (l.seeTo s k).see k B) := by show _ = _; rw [LS.seeTo, hB]
        clear hB
        generalize hl1 : l.seeTo s k = l1 at *
        have e1 : IntKind.i64.wrap ((l.first : Int) + k) = ((l.first + k : Nat) : Int) := by rw [IntKind.wrap_i64]; omega
        have hR := L.out.dk.read' (i := ((l.first + k : Nat) : Int)) R.out
        have HR := Lib.hid (fun w' (hO : Only [] wr w') => (L.out.dk.past hO).read' R.out)
        clear hR
        go_wp2_with fail
        go_region_held3 (fun w' => w'.cell? ⟨p, 0, none⟩ = some (.pointer (some ⟨d, 0, none⟩)) ∧ w'.cell? ⟨p, 1, none⟩ = some (.int .i64 l.first)) (first | go_keep | exact hKEEP)
          ((go_at_call 36; refine (HR.out _ (Only.refl _ _).drew).mono ?_; rintro e w3 ⟨v3, rfl, hv3, hO3⟩; have hKEEP := And.intro (hO3.cell (p := ⟨p, 0, none⟩) c0 (by simp)) (hO3.cell (p := ⟨p, 1, none⟩) c1 (by simp))))
        obtain ⟨rfl, hb3⟩ : v3 = .slice (some ⟨wr.heap.size, 0, none⟩) 512 512 ∧ Blk w3 wr.heap.size (u8s B) 5 := by
          rcases hv3 with ⟨_, h⟩ | ⟨h, hb⟩
          · have := HB.out; rw [h] at this; cases this
          · rw [HB.out] at h; exact ⟨h, hb⟩
        have O3 : Hid (Only [] wr w3) := ((Only.refl _ _).drew).trans hO3 (by simp)
        have L3 := Lib.hid (L.out.past O3.out)
        have F3 := Lib.hid (FR.out.trans (Far.past v O3.out) (fun x hx => .inl hx))
        have B3 := Lib.hid hb3
        have RD := Lib.hid (read_any L3.out.lg.log (by rw [SF.out.2.1]; exact h2) (by rw [SF.out.2.1]; omega) wr.heap.size 512 (by omega) B HB.out (fun j hj => by rw [hb3.cell, u8s_get, List.getElem?_eq_getElem (by rw [HB.out]; exact hj), List.getD_eq_getElem?_getD, List.getElem?_eq_getElem (by rw [HB.out]; exact hj)]; rfl))
        clear hv3 hO3 hb3 hKEEP c0 c1 c3
        go_wp2_with fail
        refine RD.out.mono ?_
        rintro e w4 ⟨rfl, hO4⟩
        have L4 := Lib.hid (L3.out.past hO4)
        have F4 := Lib.hid (F3.out.trans (Far.past v hO4) (fun x hx => .inl hx))
        clear hO4
        have c3 := L4.out.lg.log.cell 3
        have f3 := L4.out.lg.log.frozen 3
        have f4 := L4.out.lg.log.frozen 4
        have f6 := L4.out.lg.log.frozen 6
        obtain ⟨y4, c4⟩ := L4.out.lg.log.at 4 (by simp [logCells])
        obtain ⟨y6, c6⟩ := L4.out.lg.log.at 6 (by simp [logCells])
        simp only [logCells, List.getElem?_cons_zero, List.getElem?_cons_succ] at c3
        have hT := unle8 ((B.drop 8).take 8) (by rw [List.length_take]; omega)
        have hFi := unle8 ((B.drop 16).take 8) (by rw [List.length_take]; omega)
        have HTT : Hid (turnOf B < 18446744073709551616) := hT
        clear hT hFi
        generalize hq : okOf l1 B = q at *
        have HQ := Lib.hid hq
        clear hq
        cases q
        · have HS : Hid (l1.see k B = l1) := by
            show _ = _
            unfold LS.see
            rw [HQ.out]; simp
          go_wp2_with fail
          go_roundg (2 - (k + 1))
          case measure => have := HGK.out; omega
          case rel => exact ⟨k + 1, rfl, by omega, by go_num, by rw [HN.out, HS.out]; exact L4.out, F4.out, by rw [HN.out, HS.out]; exact htk⟩
        · by_cases hgt : l1.turn < turnOf B
          · have HS : Hid (l1.see k B = { l1 with turn := turnOf B, sure := finOf B, slot := k }) := by
              show _ = _
              unfold LS.see
              rw [HQ.out, if_pos ⟨rfl, hgt⟩]
            have HFB : Hid (finOf B ≤ l1.room) := by
              have := HQ.out
              unfold okOf at this
              simp only [Bool.and_eq_true, decide_eq_true_eq] at this
              exact this.2
            have hroom : l1.room ≤ 33553408 := by unfold LS.room; rw [SF.out.2.1]; omega
            have ef : wrap64 (finOf B : Int) = finOf B := by have := HFB.out; unfold wrap64; omega
            rw [ef]
            clear ef
            have hgt' : ((l1.turn : Int) < turnOf B) := by omega
            go_wp2_with fail
            go_roundg (2 - (k + 1))
            case measure => have := HGK.out; omega
            case rel =>
              refine ⟨k + 1, rfl, by omega, by go_num, ?_, ?_, by rw [HN.out, HS.out]; exact HTT.out⟩
              · rw [HN.out, HS.out]
                refine L4.out.cells (l' := { l1 with turn := turnOf B, sure := finOf B, slot := k }) ?_ (Blk.to (by repeat' (first | exact L4.out.lg.log | apply Blk.set)) (by simp [logCells])) rfl
                repeat (first | exact Only.refl _ _ | refine Only.setCell ?_ (.inl (by simp)) _)
              · refine F4.out.trans (Far.cells L4.out.lg.log ?_ v) (fun x hx => .inl hx)
                repeat (first | exact Only.refl _ _ | refine Only.setCell ?_ (.inl (by simp)) _)
          · have HS : Hid (l1.see k B = l1) := by
              show _ = _
              unfold LS.see
              rw [if_neg (fun h => hgt h.2)]
            have hgt' : ¬ ((l1.turn : Int) < turnOf B) := by omega
            go_wp2_with fail
            go_roundg (2 - (k + 1))
            case measure => have := HGK.out; omega
            case rel => exact ⟨k + 1, rfl, by omega, by go_num, by rw [HN.out, HS.out]; exact L4.out, F4.out, by rw [HN.out, HS.out]; exact htk⟩
      · obtain rfl : k = 2 := by omega
        by_cases h0 : 0 < (l.seeTo s 2).turn
        · have h0' : (0 : Int) < (l.seeTo s 2).turn := by omega
          go_wp2_with fail
          go_ret2
          unfold HeadingPost
          rw [if_neg (by rw [HDN.out]; simp)]
          exact ⟨by simp [h0], L.out, FR.out⟩
        · have h0' : ¬ (0 : Int) < (l.seeTo s 2).turn := by omega
          go_wp2_with fail
          go_ret2
          unfold HeadingPost
          rw [if_neg (by rw [HDN.out]; simp)]
          exact ⟨by simp [h0], L.out, FR.out⟩
end Go.Proofs.Ytjbjikigiienkaa.W
