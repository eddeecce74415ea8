/-
  The document's table: Begin, by its contract.
-/
import Derived.Test.YtilkbcoofbkemaaRefC
import Derived.Test.YtilkbcoofbkemaaTStays
namespace Go.Proofs.Ytilkbcoofbkemaa.T
set_option linter.unusedSimpArgs false
open Go Go.RowKit Go.Proofs.Ytilkbcoofbkemaa.I
set_option linter.unusedVariables false
variable {w : World} {r n0 : Nat} {v : Value} {R : RRows} {S : TS}
theorem info_tx : (Try.prog.info? 80).map (fun i => (i.zero, i.size, i.bytes)) = some (some (.agg #[.int .u64 0, .int .i64 0, .int .u64 0, .int .u64 0, .slice none 0 0]), 5, 56) := by kernel_rfl
set_option maxRecDepth 100000 in
set_option maxHeartbeats 2000000 in
theorem rbegin_any (h : RefAt w r n0 v R S) (hl : R.length ≤ 1048576) (hsm : S.next + 1 < 9223372036854775808) :
    Calls Try.prog 23 #[.pointer (some ⟨r, 0, none⟩)] w fun e w' => ∃ sv v', e = .returned (.tuple #[.int .u64 S.next, snapV S.snap sv]) ∧ w'.ownsRow 0 26 1 sv S.nums.length (nats S.nums) ∧ (∀ k, sv.ownBlock = some k → w.heap.size ≤ k) ∧ RefAt w' r n0 v' (R ++ [(⟨S.next, 1, S.snap⟩, sv)]) S.begin ∧ Only (r :: v.ownBlock.toList) w w' ∧ (∀ k, v'.ownBlock = some k → v.ownBlock = some k ∨ w.heap.size ≤ k) := by
  have HH := Lib.hid h
  have OP : Hid (∀ w1, Only [] w w1 → Calls Try.prog 34 #[.pointer (some ⟨r, 0, none⟩)] w1 fun e w' => ∃ v, e = .returned v ∧ NatRow w1 w' v S.nums) := fun w1 hO => ropen_any (HH.out.past hO) hl
  have c1 := h.tab.cell 1
  simp only [List.getElem?_cons_succ, List.getElem?_cons_zero] at c1
  obtain ⟨nx, hnx⟩ : ∃ nx, S.next = nx := ⟨_, rfl⟩
  have HNX := Lib.hid hnx
  rw [hnx] at c1 ⊢
  have ewx : IntKind.u64.wrap ((nx : Int) + 1) = ((nx + 1 : Nat) : Int) := by simp [IntKind.wrap, IntKind.signed, IntKind.bits]; omega
  have HSM := Lib.hid hsm
  have HL := Lib.hid hl
  clear hsm hl
  have T1 := Lib.hid c1
  have htl : r < w.heap.size := h.tab.lt
  have htne : ¬ r = w.heap.size + 1 := by omega
  clear h hnx
  go_enter Try.func23, Try.ntmps23
  go_wp2_with fail
  go_upto_region 1 with fail
  go_cut [4] from 5 (fun s4 wx => ∃ sb a3 c3, s4 = .pointer (some ⟨sb, 0, none⟩) ∧ Blk wx sb [.int .u64 nx, .int .u64 nx, .slice a3 S.nums.length c3] 29 ∧ wx.ownsRow 0 26 1 (.slice a3 S.nums.length c3) S.nums.length (nats S.nums) ∧ (∀ k, (Value.slice a3 S.nums.length c3).ownBlock = some k → w.heap.size ≤ k) ∧ Only [] w wx ∧ Blk wx w.heap.size [.int .u64 0, .int .u64 0, .slice none 0 0] 29 ∧ w.heap.size < sb)
  case first =>
    go_region_held3 (fun w' => w'.cell? ⟨r, 1, none⟩ = some (.int .u64 nx)) (first | go_keep | exact hKEEP | exact cell_past3 hKEEP htne) (first | (go_at_call 34; refine (OP.out _ (((Only.refl _ _).alloc _).drew)).mono ?_; rintro e w3 ⟨v3, rfl, hr3, hn3, hO3⟩; obtain ⟨a3, c3, rfl⟩ := owns_form hr3; have hKEEP := hO3.cell (p := ⟨r, 1, none⟩) (Blk.cellAlloc _ T1.out) (by simp)) | (go_at_call 34; refine (OP.out _ ((((Only.refl _ _).alloc _).alloc _).drew)).mono ?_; rintro e w3 ⟨v3, rfl, hr3, hn3, hO3⟩; obtain ⟨a3, c3, rfl⟩ := owns_form hr3; have hKEEP := hO3.cell (p := ⟨r, 1, none⟩) (Blk.cellAlloc _ (Blk.cellAlloc _ T1.out)) (by simp); have BX : Blk w3 (w.heap.size + 1) [.int .u64 0, .int .u64 0, .slice none 0 0] 29 := hO3.blk (Blk.new' _ _ _ (by simp)) (by simp); have x0 := BX.cell 0; have x1 := BX.cell 1; have x2 := BX.cell 2; have fx0 := BX.frozen 0; have fx1 := BX.frozen 1; have fx2 := BX.frozen 2; simp only [List.getElem?_cons_succ, List.getElem?_cons_zero] at x0 x1 x2))
    · go_wp2_with fail
      go_meet
      case rel =>
        have O3 : Only [] w w3 := (((Only.refl _ _).alloc _).drew).trans hO3 (by simp)
        exact ⟨w3.heap.size, a3, c3, rfl, Blk.new' _ _ _ rfl, owns_past hr3 ((Only.refl _ _).alloc _), fun k hk => by have := hn3 k hk; have h2 : (w.alloc (.cells #[.int .u64 0, .int .u64 0, .slice none 0 0] 29)).heap.size ≤ k := this; simp at h2; omega, O3.alloc _, (hO3.blk (Blk.new _ _ w) (by simp)).alloc _, by have := hO3.size; have h2 : (w.alloc (.cells #[.int .u64 0, .int .u64 0, .slice none 0 0] 29)).heap.size ≤ w3.heap.size := this; simp at h2; omega⟩
    · go_wp2_with fail
      go_meet
      case rel =>
        have O3 : Only [] w w3 := ((((Only.refl _ _).alloc _).alloc _).drew).trans hO3 (by simp)
        have O4 : Only [w.heap.size + 1] w3 (((w3.setCell ⟨w.heap.size + 1, 0, none⟩ (.int .u64 nx)).setCell ⟨w.heap.size + 1, 1, none⟩ (.int .u64 nx)).setCell ⟨w.heap.size + 1, 2, none⟩ (.slice a3 S.nums.length c3)) := (((Only.refl _ _).setCell (.inl (by simp)) _).setCell (.inl (by simp)) _).setCell (.inl (by simp)) _
        refine ⟨w.heap.size + 1, a3, c3, rfl, (((BX.set 0 _).set 1 _).set 2 _).to (by simp), owns_off hr3 O4 (Off.one BX (by decide)), fun k hk => ?_, O3.trans O4 (fun x hx => by simp at hx; subst hx; right; omega), O4.blk (hO3.blk ((Blk.new _ _ w).alloc _) (by simp)) (by simp), by omega⟩
        have := hn3 k hk
        have h2 : ((w.alloc (.cells #[.int .u64 0, .int .u64 0, .slice none 0 0] 29)).alloc (.cells #[.int .u64 0, .int .u64 0, .slice none 0 0] 29)).heap.size ≤ k := this
        simp at h2; omega
  case rest =>
    obtain ⟨sb, a3, c3, rfl, hb4, hr4, hn4, hO4, hres, hsb⟩ := hcut
    rename World => w4
    have B4 := Lib.hid hb4
    have R4 := Lib.hid hr4
    have N4 := Lib.hid hn4
    have O4 := Lib.hid hO4
    have Q4 := Lib.hid hres
    have H4 := Lib.hid (HH.out.past hO4)
    clear hb4 hr4 hn4 hO4 hres OP T1 c1
    obtain ⟨av, cv, rfl⟩ := owns_form H4.out.own
    have c1 := H4.out.tab.cell 1
    have c2 := H4.out.tab.cell 2
    have x0 := B4.out.cell 0
    have x1 := B4.out.cell 1
    have x2 := B4.out.cell 2
    have f2 := H4.out.tab.frozen 2
    simp only [List.getElem?_cons_succ, List.getElem?_cons_zero] at c1 c2 x0 x1 x2
    rw [HNX.out] at c1
    have hrv : ¬ (Value.slice av R.length cv).ownBlock = some r := owns_ne H4.out.own H4.out.tab (by decide)
    have HRV := Lib.hid hrv
    have HL4 : R.length ≤ 1048576 := HL.out
    have rlt := H4.out.tab.lt
    clear hrv
    generalize hm : R.length = m at *
    have HM := Lib.hid hm
    clear hm
    generalize hnl : S.nums.length = nl at *
    have HNL := Lib.hid hnl
    clear hnl
    go_wp2_with fail
    go_cut [4] from 5 (fun s4 wx => s4 = .pointer (some ⟨sb, 0, none⟩) ∧ ∃ a5 c5, Blk wx r [.int .u64 n0, .int .u64 nx, .slice a5 (m + 1) c5] 78 ∧ wx.ownsRow 0 80 5 (.slice a5 (m + 1) c5) (m + 1) (R.flatMap txCells ++ [.int .u64 nx, .int .i64 1, .int .u64 nx, .int .u64 nx, .slice a3 nl c3]) ∧ Only (r :: (Value.slice av m cv).ownBlock.toList) w4 wx ∧ (∀ k, (Value.slice a5 (m + 1) c5).ownBlock = some k → (Value.slice av m cv).ownBlock = some k ∨ w4.heap.size ≤ k))
    case first =>
      go_region_law ((refine step_grow rfl (.tmp 20) (.tmp 27) 76 rfl 80 Try.underlying76 (info_parts info_tx) rfl (by omega) (.slice av m cv) m (R.flatMap txCells) rfl (by exact owns_past (HM.out ▸ H4.out.own) ((((Only.refl _ _).alloc _).drew))) (some ⟨w4.heap.size, 0, none⟩) 1 1 rfl [.int .u64 nx, .int .i64 1, .int .u64 nx, .int .u64 nx, .slice a3 nl c3] rfl (fun _ => ⟨_, rfl, fun j u hj => ((Blk.new [.int .u64 nx, .int .i64 1, .int .u64 nx, .int .u64 nx, .slice a3 nl c3] 80 w4).drew).add_cell j u hj⟩) (by intro u hu; simp at hu; rcases hu with rfl | rfl | rfl | rfl | rfl <;> rfl) (by omega) (by decide) ?_; intro v5 w5 hg5; obtain ⟨a5, c5, rfl⟩ := hg5.shape; have G5 := Lib.hid hg5; have c2' := hg5.only.cell (p := ⟨r, 2, none⟩) (Blk.cellAlloc _ c2) (fun hx => HRV.out (by simpa using hx)); have f2' := (hg5.only.blk ((H4.out.tab.alloc _).drew) (fun hx => HRV.out (by simpa using hx))).frozen 2; clear hg5))
      all_goals
        go_wp2_with fail
        go_meet
        case rel =>
          have hne5 : r ∉ (Value.slice av m cv).ownBlock.toList := fun hx => HRV.out (by simpa using hx)
          have hb5 := G5.out.only.blk ((H4.out.tab.alloc _).drew) hne5
          have O6 : Only [r] w5 (w5.setCell ⟨r, 2, none⟩ (.slice a5 (m + 1) c5)) := (Only.refl [r] w5).setCell (.inl (by simp)) _
          refine ⟨rfl, a5, c5, ?_, ?_, ?_, fun k hk => ?_⟩
          · have := hb5.set 2 (.slice a5 (m + 1) c5)
            rw [HNX.out] at this
            exact this.to (by simp)
          · exact owns_off G5.out.own O6 (Off.one hb5 (by decide))
          · have O4a : Only (r :: (Value.slice av m cv).ownBlock.toList) w4 (w4.alloc (.cells #[.int .u64 nx, .int .i64 1, .int .u64 nx, .int .u64 nx, .slice a3 nl c3] 80)).drew := ((Only.refl _ w4).alloc _).drew
            exact (O4a.trans G5.out.only (fun x hx => .inl (by simp [hx]))).trans O6 (fun x hx => .inl (by simp at hx; simp [hx]))
          · rcases G5.out.lies k hk with h1 | h1
            · exact .inl h1
            · right
              have h2 := World.size_alloc w4
              have h3 : (w4.alloc (.cells #[.int .u64 nx, .int .i64 1, .int .u64 nx, .int .u64 nx, .slice a3 nl c3] 80)).heap.size ≤ k := h1
              simp at h3; omega
    case rest =>
      obtain ⟨rfl, a5, c5, hb6, hr6, hO6, hl6⟩ := hcut
      rename World => w6
      have hsr : sb ∉ r :: (Value.slice av m cv).ownBlock.toList := by
        intro hx
        rcases List.mem_cons.1 hx with e | e
        · exact B4.out.ne H4.out.tab (by decide) e
        · exact owns_ne H4.out.own B4.out (by decide) (by simpa using e)
      have hqr : w.heap.size ∉ r :: (Value.slice av m cv).ownBlock.toList := by
        intro hx
        rcases List.mem_cons.1 hx with e | e
        · omega
        · exact owns_ne H4.out.own Q4.out (by decide) (by simpa using e)
      have hur : Off 26 w4 (r :: (Value.slice av m cv).ownBlock.toList) := fun k hk cs hb => by
        rcases List.mem_cons.1 hk with e | e
        · subst e; exact Off.one H4.out.tab (by decide) _ (by simp) _ hb
        · exact owns_foot H4.out.own (by decide) k e cs hb
      have X6 := Lib.hid (hO6.blk B4.out hsr)
      have Q6 := Lib.hid (hO6.blk Q4.out hqr)
      have R6 := Lib.hid (owns_off R4.out hO6 hur)
      have RR6 := Lib.hid (fun p hp => owns_off (H4.out.rows p hp) hO6 hur)
      have B6 := Lib.hid hb6
      have OW6 := Lib.hid hr6
      have O6 := Lib.hid hO6
      have L6 := Lib.hid hl6
      have c1 := hb6.cell 1
      have f1 := hb6.frozen 1
      simp only [List.getElem?_cons_succ, List.getElem?_cons_zero] at c1
      clear hb6 hr6 hO6 hl6 hsr hqr hur x0 x1 x2 c2 f2
      go_wp2_with fail
      obtain ⟨w7, hw7⟩ : ∃ w7, w6.setCell ⟨r, 1, none⟩ (.int .u64 ((nx : Int) + 1)) = w7 := ⟨_, rfl⟩
      have hsbr : sb ∉ [r] := by simpa using X6.out.ne B6.out (by decide)
      have hqbr : w.heap.size ∉ [r] := by simp; omega
      have O7 : Hid (Only [r] w6 w7) := by
        rw [← hw7]
        exact (Only.refl [r] w6).setCell (.inl (by simp)) _
      have B7 : Hid (Blk w7 r [.int .u64 n0, .int .u64 (nx + 1 : Nat), .slice a5 (m + 1) c5] 78) := by
        rw [← hw7]
        exact (B6.out.set 1 _).to (by simp)
      rw [hw7]
      clear hw7
      have X7 := Lib.hid (O7.out.blk X6.out hsbr)
      have Q7 := Lib.hid (O7.out.blk Q6.out hqbr)
      have x0 := X7.out.cell 0
      have x1 := X7.out.cell 1
      have x2 := X7.out.cell 2
      have r0 := Q7.out.cell 0
      have r1 := Q7.out.cell 1
      have r2 := Q7.out.cell 2
      have f0 := Q7.out.frozen 0
      have f1 := Q7.out.frozen 1
      have f2 := Q7.out.frozen 2
      simp only [List.getElem?_cons_succ, List.getElem?_cons_zero] at x0 x1 x2 r0 r1 r2
      have hsbne : w.heap.size ≠ sb := by omega
      go_region_held3 (fun w' => w'.cell? ⟨sb, 0, none⟩ = some (.int .u64 nx) ∧ w'.cell? ⟨sb, 1, none⟩ = some (.int .u64 nx) ∧ w'.cell? ⟨sb, 2, none⟩ = some (.slice a3 nl c3)) (go_keep) (fail)
      go_wp2_with fail
      obtain ⟨w8, hw8⟩ : ∃ w8, (((w7.setCell ⟨w.heap.size, 0, none⟩ (.int .u64 nx)).setCell ⟨w.heap.size, 1, none⟩ (.int .u64 nx)).setCell ⟨w.heap.size, 2, none⟩ (.slice a3 nl c3)).drew = w8 := ⟨_, rfl⟩
      have R8 : Blk w8 w.heap.size [.int .u64 nx, .int .u64 nx, .slice a3 nl c3] 29 := by
        rw [← hw8]
        exact ((((Q7.out.set 0 _).set 1 _).set 2 _).drew).to (by simp)
      have O8 : Only [w.heap.size] w7 w8 := by
        rw [← hw8]
        exact ((((Only.refl _ _).setCell (.inl (by simp)) _).setCell (.inl (by simp)) _).setCell (.inl (by simp)) _).drew
      rw [hw8]
      clear hw8 x0 x1 x2 r0 r1 r2 f0 f1 f2
      have q0 := R8.cell 0
      have q1 := R8.cell 1
      have q2 := R8.cell 2
      simp only [List.getElem?_cons_succ, List.getElem?_cons_zero] at q0 q1 q2
      have hsp : snapV S.snap (.slice a3 nl c3) = .agg #[.int .u64 nx, .int .u64 nx, .slice a3 nl c3] := by simp [snapV, TS.snap, HNX.out]
      have hk67 : ∀ {e : TypeId}, 78 ≠ e → Off e w6 [r] := fun he => Off.one B6.out he
      have hk78 : ∀ {e : TypeId}, 29 ≠ e → Off e w7 [w.heap.size] := fun he => Off.one Q7.out he
      have hrow : ∀ {e : TypeId} {size n : Nat} {v : Value} {xs : List Value}, w6.ownsRow 0 e size v n xs → 78 ≠ e → 29 ≠ e → w8.ownsRow 0 e size v n xs := fun ho h1 h2 => owns_off (owns_off ho O7.out (hk67 h1)) O8 (hk78 h2)
      refine bodyPost_ret (v := .tuple #[.int .u64 nx, .agg #[.int .u64 nx, .int .u64 nx, .slice a3 nl c3]]) (by simp [results, Try.results23, go_sem, q0, q1, q2]) rfl ⟨.slice a3 nl c3, .slice a5 (m + 1) c5, by rw [hsp], ?_, N4.out, ⟨?_, ?_, fun p hp => ?_, ?_, ?_⟩, ?_, fun k hk => ?_⟩
      · rw [HNL.out]; exact hrow R6.out (by decide) (by decide)
      · have := O8.blk B7.out (by simp; omega)
        have e : S.begin.next = nx + 1 := by show S.next + 1 = _; rw [HNX.out]
        rw [e]; exact this
      · have := hrow OW6.out (by decide) (by decide)
        rw [List.length_append, HM.out, List.flatMap_append]
        simpa [txCells, TS.snap, HNX.out] using this
      · rcases List.mem_append.1 hp with hp | hp
        · exact hrow (RR6.out p hp) (by decide) (by decide)
        · simp at hp
          subst hp
          have := hrow R6.out (by decide) (by decide)
          show w8.ownsRow 0 26 1 (.slice a3 nl c3) S.nums.length (nats S.nums)
          rw [HNL.out]; exact this
      · have := HH.out.twin.begin
        rw [HNX.out] at this
        simpa using this
      · show S.next + 1 < _; exact HSM.out
      · rw [HM.out]
        have hA : Only (r :: (Value.slice av m cv).ownBlock.toList) w w4 := O4.out.mono (by simp)
        refine ((hA.trans O6.out (fun x hx => .inl hx)).trans O7.out (fun x hx => ?_)).trans O8 (fun x hx => ?_)
        · simp at hx; subst hx; left; simp
        · simp at hx; subst hx; right; exact Nat.le_refl _
      · rcases L6.out k hk with h1 | h1
        · rw [HM.out]; exact .inl h1
        · right; have := O4.out.size; omega
end Go.Proofs.Ytilkbcoofbkemaa.T
