/-
  The document's table: the horizon, by its contract.
-/
import Derived.Test.YtilkbcoofbkemaaRefB
namespace Go.Proofs.Ytilkbcoofbkemaa.T
set_option linter.unusedSimpArgs false
open Go Go.RowKit Go.Proofs.Ytilkbcoofbkemaa.I
set_option linter.unusedVariables false
variable {w : World} {r n0 : Nat} {v : Value} {R : RRows} {S : TS}
set_option maxHeartbeats 1000000 in
theorem rhor_any (h : RefAt w r n0 v R S) (hl : R.length ≤ 1048576) (hops : ∀ p ∈ R, p.1.s.op.length ≤ 1048576) :
    Calls Try.prog 33 #[.pointer (some ⟨r, 0, none⟩)] w fun e w' => e = .returned (.int .u64 S.horizon) ∧ Only [] w w' := by
  have HH := Lib.hid h
  obtain ⟨ao, c, rfl, hc⟩ := h.form
  have HC := Lib.hid hc
  have c0 := h.tab.cell 2
  have c1 := h.tab.cell 1
  simp only [List.getElem?_cons_succ, List.getElem?_cons_zero] at c0 c1
  have C0 := Lib.hid c0
  have OPS := Lib.hid hops
  obtain ⟨nx, hnx⟩ : ∃ nx, S.next = nx := ⟨_, rfl⟩
  have HNX := Lib.hid hnx
  rw [hnx] at c1
  clear h hc hops hnx
  generalize hm : R.length = m at *
  have HM := Lib.hid hm
  clear hm
  go_enter Try.func33, Try.ntmps33
  go_wp2_with fail
  go_loopg [3, 4] m (fun gk s3 s4 wx => ∃ (k o : Nat), gk = m - k ∧ k ≤ m ∧ s4 = .int .i64 k ∧ s3 = .int .u64 o ∧ S.Num o ∧ o ≤ nx ∧ (∀ i, i < k → ∀ p, R[i]? = some p → p.1.st = 1 → p.1.s.le o) ∧ Only [] w wx)
  case atStart => exact ⟨0, nx, rfl, Nat.zero_le _, rfl, rfl, .inl HNX.out.symm, Nat.le_refl _, fun i hi => absurd hi (Nat.not_lt_zero _), Only.refl _ _⟩
  case round =>
    obtain ⟨k, o, hgk, hk, rfl, rfl, hnum, hle, hall, hO⟩ := hrel
    have HGK := Lib.hid hgk
    have NUM := Lib.hid hnum
    have LE := Lib.hid hle
    have ALL := Lib.hid hall
    have OO := Lib.hid hO
    have c0 := hO.cell C0.out (by simp)
    clear hgk hnum hle hall hO c1
    by_cases hlt : k < m
    · obtain ⟨g, rfl, hcc⟩ := HC.out (by omega)
      have hkR : k < R.length := by rw [HM.out]; exact hlt
      have hR := List.getElem?_eq_getElem hkR
      generalize R[k] = p at *
      have x0 := OO.out.cell (hcc k _ hR 0 (by omega)) (by simp)
      have x1 := OO.out.cell (hcc k _ hR 1 (by omega)) (by simp)
      have x4 := OO.out.cell (hcc k _ hR 4 (by omega)) (by simp)
      have hpm := List.mem_of_getElem? hR
      have hrow := (HH.out.past OO.out).rows p hpm
      obtain ⟨ao, cap, hpv⟩ := owns_form hrow
      have hna := nats_owned hrow
      have hop := OPS.out p hpm
      obtain ⟨⟨id, st, own, pn, op⟩, pv⟩ := p
      have hpv : pv = .slice ao op.length cap := hpv
      subst hpv
      simp only at hop
      simp only [txCells, List.getElem?_cons_succ, List.getElem?_cons_zero, Nat.add_zero] at x0 x1 x4
      have HR := Lib.hid hR
      have NA := Lib.hid hna
      have PM := Lib.hid (List.mem_map_of_mem (f := fun p : RTx × Value => p.1) hpm)
      have HKR := Lib.hid hkR
      clear hcc hrow hna hpm hR hkR
      have hki : (k : Int) < m := by omega
      have hk0 : (0 : Int) ≤ k := by omega
      by_cases h1 : st = 1
      · have h1i : (st != 1) = false := by simp [h1]
        have SN : Hid (⟨own, pn, op⟩ ∈ S.opens) := HH.out.twin.mem_open PM.out h1
        have EO : Hid (own = id) := HH.out.twin.own _ PM.out
        subst h1
        generalize hpl : op.length = n at *
        have HPL := Lib.hid hpl
        clear hpl
        have hn2 : (n : Int) ≤ 1048576 := by omega
        have N2 : Hid (S.Num (min o id)) := by
          show S.Num _
          rcases Nat.le_total o id with h | h
          · rw [Nat.min_eq_left h]; exact NUM.out
          · rw [Nat.min_eq_right h]; exact .inr ⟨_, SN.out, .inl EO.out.symm⟩
        have em : min (o : Int) (id : Int) = ((min o id : Nat) : Int) := by omega
        go_wp2_with fail
        generalize ho2 : min o id = o2 at *
        have HO2 := Lib.hid ho2
        clear em ho2
        go_loop [3, 5] (fun out i => ∃ (k o3 : Nat), k ≤ n ∧ i = .int .i64 k ∧ out = .int .u64 o3 ∧ S.Num o3 ∧ o3 ≤ o2 ∧ ∀ j, j < k → o3 ≤ op.getD j 0) (fun out i => n - (intOf i).toNat)
        case atStart => exact ⟨0, o2, Nat.zero_le _, rfl, rfl, N2.out, Nat.le_refl _, fun j hj => by omega⟩
        case round =>
          obtain ⟨q, o3, hq, rfl, rfl, hn3, ho3, hj3⟩ := hrel
          have N3 := Lib.hid hn3
          have J3 := Lib.hid hj3
          have L3 := Lib.hid ho3
          clear hn3 hj3 ho3
          by_cases hlt2 : q < n
          · obtain ⟨b, off, rfl⟩ : ∃ b off, ao = some ⟨b, off, none⟩ := by
              obtain ⟨ao', c', he, hc⟩ := NA.out
              obtain ⟨b, off, h1, _⟩ := hc (by rw [HPL.out]; omega)
              cases he
              exact ⟨b, off, h1⟩
            have cc : wr.cell? ⟨b, off + q, none⟩ = some (.int .u64 (op.getD q 0 : Nat)) := NA.out.cellAt (by rw [HPL.out]; exact hlt2)
            have HG : Hid (op.getD q 0 ∈ op) := by show _ ∈ _; rw [List.getD_eq_getElem?_getD, List.getElem?_eq_getElem (by rw [HPL.out]; exact hlt2)]; exact List.getElem_mem _
            generalize hx : op.getD q 0 = x at *
            have HX := Lib.hid hx
            clear hx
            have hqi : (q : Int) < n := by omega
            have em : min (o3 : Int) (x : Int) = ((min o3 x : Nat) : Int) := by omega
            go_wp2_with fail
            refine ⟨⟨q + 1, min o3 x, by omega, by go_num, rfl, ?_, Nat.le_trans (Nat.min_le_left _ _) L3.out, fun j hj => ?_⟩, by simp [intOf]; omega⟩
            · rcases Nat.le_total o3 x with h | h
              · rw [Nat.min_eq_left h]; exact N3.out
              · rw [Nat.min_eq_right h]; exact .inr ⟨_, SN.out, .inr HG.out⟩
            · rcases Nat.lt_or_ge j q with h1 | h1
              · exact Nat.le_trans (Nat.min_le_left _ _) (J3.out j h1)
              · obtain rfl : j = q := by omega
                rw [HX.out]; exact Nat.min_le_right _ _
          · obtain rfl : q = n := by omega
            go_wp2_with fail
            go_roundg (m - (k + 1))
            case measure => rw [HGK.out]; omega
            have hl3 := L3.out
            have hh2 := HO2.out
            refine ⟨k + 1, o3, rfl, by omega, by go_num, rfl, N3.out, by have := LE.out; omega, fun i hi p hp hst => ?_, OO.out⟩
            rcases Nat.lt_or_ge i k with h1 | h1
            · have := ALL.out i h1 p hp hst
              exact ⟨by have := this.1; omega, fun x hx => by have := this.2 x hx; omega⟩
            · obtain rfl : i = k := by omega
              rw [HR.out] at hp
              cases hp
              refine ⟨by show o3 ≤ own; rw [EO.out]; omega, fun x hx => ?_⟩
              obtain ⟨j, hj, e⟩ := List.mem_iff_getElem.1 hx
              have := J3.out j (by have := HPL.out; simp only at hj; omega)
              rw [List.getD_eq_getElem?_getD, List.getElem?_eq_getElem hj] at this
              rw [← e]; exact this
      · have h1i : (st != 1) = true := by simp [h1]
        have H1 := Lib.hid h1
        clear h1
        go_wp2_with fail
        go_roundg (m - (k + 1))
        case measure => rw [HGK.out]; omega
        refine ⟨k + 1, o, rfl, by omega, by go_num, rfl, NUM.out, LE.out, fun i hi p hp hst => ?_, OO.out⟩
        rcases Nat.lt_or_ge i k with h1 | h1
        · exact ALL.out i h1 p hp hst
        · obtain rfl : i = k := by omega
          rw [HR.out] at hp
          cases hp
          exact absurd hst H1.out
    · obtain rfl : k = m := by omega
      go_wp2_with fail
      go_ret
      have e : o = S.horizon := HH.out.twin.isHor NUM.out (by rw [HNX.out]; exact LE.out) (fun x hx hst => by
        rw [List.mem_map] at hx
        obtain ⟨p, hp, rfl⟩ := hx
        obtain ⟨i, hi, e⟩ := List.mem_iff_getElem.1 hp
        exact ALL.out i (by rw [← HM.out]; exact hi) p (by rw [List.getElem?_eq_getElem hi, e]) hst)
      rw [← e]
      exact ⟨rfl, OO.out⟩
end Go.Proofs.Ytilkbcoofbkemaa.T
