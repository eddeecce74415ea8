import Derived.Test.YtfkmjbpnjgnkbaaGreatMHpU
import Derived.Test.YtfkmjbpnjgnkbaaGreatMHpS
import Derived.Test.YtfkmjbpnjgnkbaaGreatMSortGR
import Derived.Test.YtfkmjbpnjgnkbaaGreatMRegionY
import Derived.Deep.LoopGhost
/-
  The program's heap: All: by contracts.
-/
namespace Go.Proofs.YtfkmjbpnjgnkbaaGreat.H
set_option linter.unusedSimpArgs false
open Go Go.RowKit Go.Proofs.YtfkmjbpnjgnkbaaGreat Go.Proofs.YtfkmjbpnjgnkbaaGreat.D Go.Proofs.YtfkmjbpnjgnkbaaGreat.B Go.Proofs.YtfkmjbpnjgnkbaaGreat.C Go.Proofs.YtfkmjbpnjgnkbaaGreat.G Go.Proofs.YtfkmjbpnjgnkbaaGreat.P
set_option linter.unusedVariables false
/-- The places of versions in a page's first j slots. -/
def ridsTo (id : Nat) (p : List UInt8) (j : Nat) : List Nat := ((List.range j).filter fun i => (verAt p i).isSome).map fun i => id * 128 + i
theorem ridsTo_succ (id : Nat) (p : List UInt8) (j : Nat) : ridsTo id p (j + 1) = ridsTo id p j ++ (if (verAt p j).isSome then [id * 128 + j] else []) := by
  unfold ridsTo
  rw [List.range_succ, List.filter_append, List.map_append]
  congr 1
  cases h : (verAt p j).isSome <;> simp [h]
theorem ridsTo_len (id : Nat) (p : List UInt8) (j : Nat) : (ridsTo id p j).length ≤ j := by
  unfold ridsTo
  rw [List.length_map]
  exact Nat.le_trans (List.length_filter_le _ _) (by simp)
/-- What All's closure leaves. -/
def Rowed (w : World) (N : Nat) (v : Value) (n : Nat) (xs : List Value) (w' : World) : Prop :=
  ∃ v', BoxRow w' N 27 29 v' n xs ∧ (∀ x, v'.ownBlock = some x → v.ownBlock = some x ∨ w.heap.size ≤ x) ∧ Only (N :: v.ownBlock.toList) w w'
theorem grew_done {w wA w6 : World} {N n n' : Nat} {tb te : TypeId} {v v6 : Value} {xs ys : List Value} (hB : BoxRow w N tb te v n xs) (hO : Only [] w wA) (hG : Grew wA w6 te 1 v v6 n' ys) :
    BoxRow (w6.setCell ⟨N, 0, none⟩ v6) N tb te v6 n' ys ∧ (∀ x, v6.ownBlock = some x → v.ownBlock = some x ∨ w.heap.size ≤ x) ∧ Only (N :: v.ownBlock.toList) w (w6.setCell ⟨N, 0, none⟩ v6) := by
  have hN := hB.box.lt
  have hs := hO.size
  have hNo : N ∉ v.ownBlock.toList := fun hx => Nat.lt_irrefl _ (hB.above N (Option.mem_toList.1 hx))
  have b6 := hG.only.blk (hO.blk hB.box (by simp)) hNo
  have hab : ∀ x, v6.ownBlock = some x → N < x := fun x hx => by
    rcases hG.lies x hx with h | h
    · exact hB.above _ h
    · omega
  refine ⟨⟨b6.set 0 _, owns_later hG.own (only_one (X := [N]) _ (by simp)) (fun x hx => ?_), hab⟩, fun x hx => ?_, ?_⟩
  · have := hab x hx; simp; omega
  · rcases hG.lies x hx with h | h
    · exact .inl h
    · right; omega
  · exact ((hO.mono (M' := N :: v.ownBlock.toList) (by simp)).trans hG.only (fun x hx => .inl (List.mem_cons_of_mem _ hx))).trans (only_one (X := N :: v.ownBlock.toList) _ (by simp)) (fun x hx => .inl hx)
theorem Rowed.then {w w2 w' : World} {N n' : Nat} {v v1 v6 : Value} {ys : List Value} (hl : ∀ x, v1.ownBlock = some x → v.ownBlock = some x ∨ w.heap.size ≤ x) (hO : Only (N :: v.ownBlock.toList) w w2)
    (h : BoxRow w' N 27 29 v6 n' ys ∧ (∀ x, v6.ownBlock = some x → v1.ownBlock = some x ∨ w2.heap.size ≤ x) ∧ Only (N :: v1.ownBlock.toList) w2 w') : Rowed w N v n' ys w' := by
  have hs := hO.size
  refine ⟨v6, h.1, fun x hx => ?_, hO.trans h.2.2 (fun x hx => ?_)⟩
  · rcases h.2.1 x hx with h1 | h1
    · exact hl x h1
    · right; omega
  · rcases List.mem_cons.1 hx with h1 | h1
    · exact .inl (by simp [h1])
    · rcases hl x (Option.mem_toList.1 h1) with h2 | h2
      · exact .inl (by simp [h2])
      · exact .inr h2
set_option maxRecDepth 100000 in
set_option maxHeartbeats 2000000 in
theorem avisit_any {w : World} {N id gb c n root next : Nat} {p : List UInt8} {v : Value} {xs : List Value} (hB : BoxRow w N 27 29 v n xs) (hn : n ≤ 1000000) (hb : Buf w gb c p) (hg : N < gb) (hgv : ∀ x, v.ownBlock = some x → x ≠ gb) (hid : id < 65536) (hp : HPage root next p) (hs : nS p ≤ 29) :
    Calls Tryz.prog 41 #[.int .i64 id, .slice (some ⟨gb, 0, none⟩) 512 c, .pointer (some ⟨N, 0, none⟩)] w fun e w' => e = .returned (.bool true) ∧ Rowed w N v (n + (ridsTo id p (nS p)).length) (xs ++ u64s (ridsTo id p (nS p))) w' := by
  have SL : Hid (∀ w1, BytesC w1 (.slice (some ⟨gb, 0, none⟩) 512 c) p → Calls Tryz.prog 42 #[.slice (some ⟨gb, 0, none⟩) 512 c] w1 fun e w' => e = .returned (.int .i64 (nS p : Nat)) ∧ Only [] w1 w') := fun w1 h => by
    have := slotsf_any h
    rw [slots_ok hp.pg] at this
    exact this
  have RD : Hid (∀ (w1 : World) (j : Nat), j < 128 → Calls Tryz.prog 31 #[.int .i64 id, .int .i64 j] w1 fun e w' => e = .returned (.int .u64 (id * 128 + j : Nat)) ∧ w1 = w') := fun w1 j h => rid_any w1 id j hid h
  have GV : Hid (∀ (w1 : World) (j : Nat), j < nS p → (verAt p j).isSome = true → BytesC w1 (.slice (some ⟨gb, 0, none⟩) 512 c) p → (j : Int) % 2 = 1 ∧ Calls Tryz.prog 43 #[.slice (some ⟨gb, 0, none⟩) 512 c, .int .i64 j] w1 fun e w' => ∃ v, e = .returned (.tuple #[v, .int .i64 0]) ∧ Only [] w1 w') := fun w1 j hj hv h => by
    obtain ⟨vv, hvv⟩ := Option.isSome_iff_exists.1 hv
    obtain ⟨hodd, s, hs1, _⟩ := verAt_some hp hvv
    obtain ⟨h1, h2⟩ := ct_isSome hs1
    refine ⟨by omega, (get_yes h hp.pg h1 h2).mono ?_⟩
    rintro e w' ⟨v', rfl, hO⟩
    exact ⟨v', rfl, hO.2.2⟩
  have GN : Hid (∀ (w1 : World) (j : Nat), j < nS p → (verAt p j).isSome = false → BytesC w1 (.slice (some ⟨gb, 0, none⟩) 512 c) p → ∃ b : Bool, decide ((j : Int) % 2 = 1) = b ∧ Calls Tryz.prog 43 #[.slice (some ⟨gb, 0, none⟩) 512 c, .int .i64 j] w1 fun e w' => ∃ v z, e = .returned (.tuple #[v, .int .i64 (z : Nat)]) ∧ (b = true → z = 41) ∧ Only [] w1 w') := fun w1 j hj hv h => by
    by_cases hodd : j % 2 = 1
    · refine ⟨true, by simp; omega, ?_⟩
      have hc : ct p j = none := by
        have : verAt p j = none := by simpa using hv
        exact (verAt_none hp hodd).1 this
      refine (get_no h (j : Nat) (by omega) (z := 41) (getE_bad hp.pg ?_) (by decide)).mono ?_
      · right; right
        rw [Int.toNat_natCast]
        exact Classical.byContradiction fun h0 => (ct_none.1 hc) ⟨hj, h0⟩
      · rintro e w' ⟨rfl, hO⟩
        exact ⟨_, 41, rfl, fun _ => rfl, hO⟩
    · refine ⟨false, by simp; omega, ?_⟩
      by_cases h0 : sP p j = 0
      · refine (get_no h (j : Nat) (by omega) (z := 41) (getE_bad hp.pg (.inr (.inr (by rw [Int.toNat_natCast]; exact h0)))) (by decide)).mono ?_
        rintro e w' ⟨rfl, hO⟩
        exact ⟨_, 41, rfl, (fun h => by simp at h), hO⟩
      · refine (get_yes h hp.pg hj h0).mono ?_
        rintro e w' ⟨v', rfl, hO⟩
        exact ⟨v', 0, rfl, (fun h => by simp at h), hO.2.2⟩
  have HB := Lib.hid hB
  have HG := Lib.hid hb
  have HP := Lib.hid hp.pg
  have HBC := Lib.hid hb.c
  have VL := Lib.hid (ridsTo_len id p)
  clear hB hb
  generalize hns : nS p = m at *
  go_enter Tryz.func41, Tryz.ntmps41
  go_wp2_with (go_at_call 42; refine (SL.out _ HBC.out).mono ?_; rintro e w1 ⟨rfl, hO1⟩; have O1 := Lib.hid hO1; clear hO1)
  go_loopg [11] m (fun gk s11 wr => ∃ (j : Nat), gk = m - j ∧ j ≤ m ∧ s11 = .int .i64 j ∧ Rowed w N v (n + (ridsTo id p j).length) (xs ++ u64s (ridsTo id p j)) wr)
  case atStart => exact ⟨0, rfl, Nat.zero_le _, rfl, v, by simpa [ridsTo, u64s] using HB.out.later O1.out (by simp) (by simp), fun x hx => .inl hx, O1.out.mono (by simp)⟩
  case round =>
    obtain ⟨j, hgk, hj, rfl, v1, hB1, hv1, hO1⟩ := hrel
    rename World => wr
    have HGK := Lib.hid hgk
    have B1 := Lib.hid hB1
    have V1 := Lib.hid hv1
    have OR := Lib.hid hO1
    have BG : Hid (Buf wr gb c p) := HG.out.later OR.out (by
      intro h
      rcases List.mem_cons.1 h with h | h
      · omega
      · exact hgv gb (Option.mem_toList.1 h) rfl)
    have C1 := Lib.hid BG.out.c
    have LJ := VL.out j
    clear hgk hB1 hv1 hO1
    by_cases hlt : j < m
    · have hj0 : (0 : Int) ≤ j := by omega
      have hj1 : (j : Int) < m := by omega
      have RS := Lib.hid (ridsTo_succ id p j)
      by_cases hv : (verAt p j).isSome = true
      · obtain ⟨e1, CG⟩ := GV.out wr j hlt hv C1.out
        have CG := Lib.hid CG
        go_wp2_with (first
          | (go_at_call 43; refine CG.out.mono ?_; rintro e w2 ⟨v2, rfl, hO2⟩; have O2 := Lib.hid hO2; clear hO2))
        have B2 := Lib.hid (B1.out.later O2.out (by simp) (by simp))
        obtain ⟨ao, cap, rfl⟩ := owns_slice B1.out.row
        have c2 := B2.out.box.cell 0
        simp only [List.getElem?_cons_zero] at c2
        obtain ⟨rr, hrr⟩ : ∃ rr, id * 128 + j = rr := ⟨_, rfl⟩
        have RDj : Hid (∀ w1, Calls Tryz.prog 31 #[.int .i64 id, .int .i64 j] w1 fun e w' => e = .returned (.int .u64 (rr : Nat)) ∧ w1 = w') := fun w1 => by rw [← hrr]; exact RD.out w1 j (by omega)
        have RS : Hid (ridsTo id p (j + 1) = ridsTo id p j ++ [rr]) := by show _ = _; rw [RS.out, if_pos hv, hrr]
        have OA : Hid (Only [] w2 (w2.alloc (.cells #[.int .u64 rr] 29)).drew) := ((Only.refl [] w2).alloc _).drew
        have c2b := (B2.out.box.alloc (.cells #[.int .u64 rr] 29)).cell 0
        simp only [List.getElem?_cons_zero] at c2b
        have NB : Hid (N ∉ (Value.slice ao (n + (ridsTo id p j).length) cap).ownBlock.toList) := fun hx => Nat.lt_irrefl _ (B2.out.above N (Option.mem_toList.1 hx))
        clear hrr
        refine wp_region_held_drew (S := fun _ => True) (by kernel_rfl) trivial (fun hHeld => ?_)
        refine take_at 1 28 (.int .i64 id) rfl rfl (by kernel_rfl) (by kernel_rfl) (by kernel_rfl) (fun _ _ _ h => h) (Or.inl ⟨by rfl, fun w1 hw1 => by go_simp⟩) hHeld ?_
        (try simp only [Act.put, List.setIfInBounds_toArray, List.set_cons_zero, List.set_cons_succ])
        refine take_at 2 29 (.int .i64 j) rfl rfl (by kernel_rfl) (by kernel_rfl) (by kernel_rfl) (fun _ _ _ h => h) (Or.inl ⟨by rfl, fun w1 hw1 => by go_simp⟩) hHeld ?_
        (try simp only [Act.put, List.setIfInBounds_toArray, List.set_cons_zero, List.set_cons_succ])
        refine tell_at 3 30 (.int .u64 rr) rfl rfl (by kernel_rfl) (by kernel_rfl) (by kernel_rfl) (fun _ _ _ h => h) ⟨by rfl, fun w1 hw1 => by unfold Oper.quietAt; go_simp; exact ((RDj.out _).mono fun e w2 ⟨h1, h2⟩ => ⟨h1, h2.symm⟩)⟩ hHeld ?_
        (try simp only [Act.put, List.setIfInBounds_toArray, List.set_cons_zero, List.set_cons_succ])
        refine two_at 0 4 rfl rfl (by kernel_rfl) (by rfl) (by rfl) (fun K hK => ?_) (fun K hK => ?_)
        · go_wp2_with fail
          refine hK.out _ _ trivial ?_
          clear hK K
          (try simp only [Act.put, List.setIfInBounds_toArray, List.set_cons_zero, List.set_cons_succ])
          refine one_at 4 rfl (by kernel_rfl) (by rfl) (fun K hK => ?_)
          go_wp2_with fail
          refine hK.out _ _ trivial ?_
          clear hK K
          (try simp only [Act.put, List.setIfInBounds_toArray, List.set_cons_zero, List.set_cons_succ])
          refine one_at 5 rfl (by kernel_rfl) (by rfl) (fun K hK => ?_)
          refine grow_at 32 rfl (.tmp 27) (.tmp 31) 27 rfl 29 Tryz.underlying27 (info_parts info_rid) rfl (by decide) (.slice ao (n + (ridsTo id p j).length) cap) (n + (ridsTo id p j).length) (xs ++ u64s (ridsTo id p j)) rfl (owns_later B2.out.row OA.out (by simp)) (some ⟨w2.heap.size, 0, none⟩) 1 1 rfl [.int .u64 rr] rfl (fun _ => ⟨_, rfl, fun t u ht => ?_⟩) (by simp [Value.oneCell']) (by omega) (by decide) ?_
          · cases t with
            | zero => simp at ht; subst ht; exact (Blk.new' #[.int .u64 rr] 29 w2 rfl).cell 0
            | succ t => simp at ht
          intro v6 w6 hg6
          obtain ⟨ao6, cap6, rfl⟩ := hg6.shape
          refine hK.out _ _ trivial ?_
          clear hK K
          (try simp only [Act.put, List.setIfInBounds_toArray, List.set_cons_zero, List.set_cons_succ])
          have b6 := hg6.only.blk (OA.out.blk B2.out.box (by simp)) NB.out
          have c6 := b6.cell 0
          have f6 := b6.frozen 0
          simp only [List.getElem?_cons_zero] at c6
          have D6 := Lib.hid (grew_done B2.out OA.out hg6)
          clear hg6 b6 c2 c2b
          refine one_at 6 rfl (by kernel_rfl) (by rfl) (fun K hK => ?_)
          go_wp2_with fail
          refine hK.out _ _ trivial ?_
          clear hK K hHeld c6 f6
          (try simp only [Act.put, List.setIfInBounds_toArray, List.set_cons_zero, List.set_cons_succ])
          refine wpAnyH_done (by kernel_rfl) ?_ _
          have F6 := Lib.hid (Rowed.then V1.out (OR.out.trans O2.out (by simp)) D6.out)
          clear D6
          go_wp2_with fail
          go_roundg (m - (j + 1))
          case measure => have := HGK.out; omega
          case rel => exact ⟨j + 1, rfl, by omega, by go_num, by rw [RS.out, List.length_append, u64s_append, ← List.append_assoc]; exact F6.out⟩
        · go_wp2_with fail
          refine hK.out _ _ trivial ?_
          clear hK K
          (try simp only [Act.put, List.setIfInBounds_toArray, List.set_cons_zero, List.set_cons_succ])
          refine one_at 0 rfl (by kernel_rfl) (by rfl) (fun K hK => ?_)
          go_wp2_with fail
          refine hK.out _ _ trivial ?_
          clear hK K
          (try simp only [Act.put, List.setIfInBounds_toArray, List.set_cons_zero, List.set_cons_succ])
          refine one_at 5 rfl (by kernel_rfl) (by rfl) (fun K hK => ?_)
          refine grow_at 32 rfl (.tmp 27) (.tmp 31) 27 rfl 29 Tryz.underlying27 (info_parts info_rid) rfl (by decide) (.slice ao (n + (ridsTo id p j).length) cap) (n + (ridsTo id p j).length) (xs ++ u64s (ridsTo id p j)) rfl (owns_later B2.out.row OA.out (by simp)) (some ⟨w2.heap.size, 0, none⟩) 1 1 rfl [.int .u64 rr] rfl (fun _ => ⟨_, rfl, fun t u ht => ?_⟩) (by simp [Value.oneCell']) (by omega) (by decide) ?_
          · cases t with
            | zero => simp at ht; subst ht; exact (Blk.new' #[.int .u64 rr] 29 w2 rfl).cell 0
            | succ t => simp at ht
          intro v6 w6 hg6
          obtain ⟨ao6, cap6, rfl⟩ := hg6.shape
          refine hK.out _ _ trivial ?_
          clear hK K
          (try simp only [Act.put, List.setIfInBounds_toArray, List.set_cons_zero, List.set_cons_succ])
          have b6 := hg6.only.blk (OA.out.blk B2.out.box (by simp)) NB.out
          have c6 := b6.cell 0
          have f6 := b6.frozen 0
          simp only [List.getElem?_cons_zero] at c6
          have D6 := Lib.hid (grew_done B2.out OA.out hg6)
          clear hg6 b6 c2 c2b
          refine one_at 6 rfl (by kernel_rfl) (by rfl) (fun K hK => ?_)
          go_wp2_with fail
          refine hK.out _ _ trivial ?_
          clear hK K hHeld c6 f6
          (try simp only [Act.put, List.setIfInBounds_toArray, List.set_cons_zero, List.set_cons_succ])
          refine wpAnyH_done (by kernel_rfl) ?_ _
          have F6 := Lib.hid (Rowed.then V1.out (OR.out.trans O2.out (by simp)) D6.out)
          clear D6
          go_wp2_with fail
          go_roundg (m - (j + 1))
          case measure => have := HGK.out; omega
          case rel => exact ⟨j + 1, rfl, by omega, by go_num, by rw [RS.out, List.length_append, u64s_append, ← List.append_assoc]; exact F6.out⟩
      · have hvf : (verAt p j).isSome = false := by simpa using hv
        obtain ⟨b, hb, CG⟩ := GN.out wr j hlt hvf C1.out
        have CG := Lib.hid CG
        have RS : Hid (ridsTo id p (j + 1) = ridsTo id p j) := by show _ = _; rw [RS.out, if_neg hv, List.append_nil]
        clear hv hvf
        cases b with
        | true =>
          have e1 : (j : Int) % 2 = 1 := by simpa using hb
          clear hb
          go_wp2_with (first
            | (go_at_call 43; refine CG.out.mono ?_; rintro e w2 ⟨v2, z, rfl, hz, hO2⟩; obtain rfl := hz rfl; have O2 := Lib.hid hO2; clear hO2 hz))
          have F6 : Hid (Rowed w N v (n + (ridsTo id p j).length) (xs ++ u64s (ridsTo id p j)) w2) := ⟨v1, B1.out.later O2.out (by simp) (by simp), V1.out, OR.out.trans O2.out (by simp)⟩
          go_roundg (m - (j + 1))
          case measure => have := HGK.out; omega
          case rel => exact ⟨j + 1, rfl, by omega, by go_num, by rw [RS.out]; exact F6.out⟩
        | false =>
          have e1 : (j : Int) % 2 = 0 := by have : ¬ (j : Int) % 2 = 1 := by simpa using hb
                                            omega
          clear hb
          go_wp2_with (first
            | (go_at_call 43; refine CG.out.mono ?_; rintro e w2 ⟨v2, z, rfl, hz, hO2⟩; have O2 := Lib.hid hO2; clear hO2 hz))
          have F6 : Hid (Rowed w N v (n + (ridsTo id p j).length) (xs ++ u64s (ridsTo id p j)) w2) := ⟨v1, B1.out.later O2.out (by simp) (by simp), V1.out, OR.out.trans O2.out (by simp)⟩
          go_roundg (m - (j + 1))
          case measure => have := HGK.out; omega
          case rel => exact ⟨j + 1, rfl, by omega, by go_num, by rw [RS.out]; exact F6.out⟩
    · obtain rfl : j = m := by omega
      go_wp2_with fail
      go_ret
      exact ⟨rfl, v1, B1.out, V1.out, OR.out⟩
/-- The places of versions in a heap's first i pages. -/
def ridsOf (pg : Nat → List UInt8) (l : List Nat) : List Nat := l.flatMap fun id => ridsTo id (pg id) (nS (pg id))
theorem ridsOf_snoc (pg : Nat → List UInt8) {ids : List Nat} {i : Nat} (h : i < ids.length) : ridsOf pg (ids.take (i + 1)) = ridsOf pg (ids.take i) ++ ridsTo (ids.getD i 0) (pg (ids.getD i 0)) (nS (pg (ids.getD i 0))) := by
  unfold ridsOf
  rw [List.take_succ_eq_append_getElem h, List.flatMap_append, List.getD_eq_getElem?_getD, List.getElem?_eq_getElem h]
  simp
theorem ridsOf_len {u : List Bool} {pg : Nat → List UInt8} {root : Nat} {ids : List Nat} (hI : HeapIs u pg root ids) : ∀ i, i ≤ ids.length → (ridsOf pg (ids.take i)).length ≤ 29 * i
  | 0, _ => by simp [ridsOf]
  | i + 1, hi => by
    rw [ridsOf_snoc pg (by omega), List.length_append]
    have h1 := ridsOf_len hI i (by omega)
    have h2 := ridsTo_len (ids.getD i 0) (pg (ids.getD i 0)) (nS (pg (ids.getD i 0)))
    have h3 := hI.slots _ (getD_mem (show i < ids.length by omega))
    omega
def AllJ (N : Nat) (pg : Nat → List UInt8) (ids : List Nat) (S : Nat) (i : Nat) (M1 : List Nat) (w1 : World) : Prop :=
  ∃ v, BoxRow w1 N 27 29 v (ridsOf pg (ids.take i)).length (u64s (ridsOf pg (ids.take i))) ∧ ∀ x, v.ownBlock = some x → S ≤ x ∧ x ∉ M1
/-- The places of versions, rising. -/
def risen (l : List Nat) : List Value := (IR.rising (l.map fun j => ((j : Nat) : Int))).map (Value.int .u64)
set_option maxRecDepth 100000 in
set_option maxHeartbeats 1000000 in
theorem all_any {w : World} {hb p root k : Nat} {M : List Nat} {u : List Bool} {pg : Nat → List UInt8} {ids : List Nat} (hP : PoolV w p M u pg k) (hk : k + 2 * ids.length ≤ 1000000) (hH : HpAt w hb p root) (hM : hb ∉ M) (hI : HeapIs u pg root ids) (hl : ids.length ≤ 10000) :
    Calls Tryz.prog 10 #[.pointer (some ⟨hb, 0, none⟩)] w fun e w' => ∃ v M', e = .returned (.tuple #[v, .int .i64 0]) ∧ w'.ownsRow 0 29 1 v (ridsOf pg ids).length (risen (ridsOf pg ids)) ∧ (∀ x, v.ownBlock = some x → w.heap.size ≤ x ∧ x ∉ M') ∧ PoolV w' p M' u pg (k + 2 * ids.length) ∧ Step M M' w w' := by
  have hMlt := hP.lt
  have hbl := hH.lt
  have hu := hP.size
  have EA : Hid (∀ w1, w1 = w.alloc (.cells #[.slice none 0 0] 27) → Calls Tryz.prog 28 #[.pointer (some ⟨hb, 0, none⟩), .func (.func 41) #[] #[.pointer (some ⟨w.heap.size, 0, none⟩)]] w1 fun e w' => e = .returned (.int .i64 0) ∧ ∃ M', Each w1 p M [w.heap.size] u pg (k + 2 * ids.length) M' w' ∧ AllJ w.heap.size pg ids w1.heap.size ids.length M' w') := by
    rintro w1 rfl
    have hs := World.size_alloc w (.cells #[.slice none 0 0] 27)
    have O1 := (Only.refl [] w).alloc (.cells #[.slice none 0 0] 27)
    refine (each_any (X := [w.heap.size]) (hP.past O1) hk (hH.past O1) hM (by simp; omega) hI 41 (enters_of Tryz.func41 (by kernel_rfl) rfl) _ (AllJ w.heap.size pg ids (w.alloc (.cells #[.slice none 0 0] 27)).heap.size) (fun _ _ _ => False) ?_ ?_ ?_).mono ?_
    · exact ⟨_, ⟨Blk.new' _ _ w rfl, ⟨rfl, .inl ⟨rfl, rfl⟩⟩, fun x hx => by simp [Value.ownBlock] at hx⟩, fun x hx => by simp [Value.ownBlock] at hx⟩
    · rintro i M1 w1 M2 w2 ⟨v, hB, hv⟩ hm hS
      have hN : w.heap.size ∉ M1 := fun h => by
        rcases hm _ h with h1 | h1
        · have := hMlt _ h1; omega
        · omega
      exact ⟨v, hB.later hS.1 hN (fun x hx => (hv x hx).2), fun x hx => ⟨(hv x hx).1, P.Step.keep hS (owns_lt hB.row hx) (hv x hx).2⟩⟩
    · rintro i M1 w1 gb c hi ⟨v, hB, hv⟩ hE hb1 hg1 hn1
      have hlen := ridsOf_len hI i (by omega)
      refine (avisit_any hB (by omega) hb1 (by omega) (fun x hx e => ?_) (hI.id_lt hu) (hI.page i hi) (hI.slots _ (getD_mem hi))).mono ?_
      · subst e
        obtain ⟨cur, hcur, _⟩ := owns_blk hb1.2
        exact owns_ne hB.row hcur (by decide) hx
      rintro e w2 ⟨rfl, v', hB', hv', hO⟩
      have hN : w.heap.size ∉ M1 := fun h => by
        rcases hE.mine _ h with h1 | h1
        · have := hMlt _ h1; omega
        · omega
      refine ⟨hE.row hO (fun x hx cs hcs => ?_) (fun x hx => ?_), .inl ⟨rfl, v', by rw [ridsOf_snoc pg hi, List.length_append, u64s_append]; exact hB', fun x hx => ?_⟩⟩
      · rcases List.mem_cons.1 hx with h | h
        · subst h; exact absurd rfl (hcs.ne hB.box (by decide))
        · exact owns_ne hB.row hcs (by decide) (Option.mem_toList.1 h)
      · rcases List.mem_cons.1 hx with h | h
        · subst h; exact ⟨hN, .inl (by simp)⟩
        · exact ⟨(hv x (Option.mem_toList.1 h)).2, .inr (hv x (Option.mem_toList.1 h)).1⟩
      · rcases hv' x hx with h | h
        · exact hv x h
        · have h1 := hE.only.size
          exact ⟨by omega, fun hm => by have := hE.pool.lt _ hm; omega⟩
    · rintro e w' ⟨rfl, M', hE, h | ⟨i, _, h⟩⟩
      · exact ⟨rfl, M', hE, h⟩
      · exact h.elim
  have hlen := ridsOf_len hI ids.length (Nat.le_refl _)
  rw [List.take_of_length_le (Nat.le_refl _)] at hlen
  have RLEN : Hid ((ridsOf pg ids).length ≤ 290000) := by show _ ≤ _; omega
  have EA : Hid (∀ w1, w1 = w.alloc (.cells #[.slice none 0 0] 27) → Calls Tryz.prog 28 #[.pointer (some ⟨hb, 0, none⟩), .func (.func 41) #[] #[.pointer (some ⟨w.heap.size, 0, none⟩)]] w1 fun e w' => e = .returned (.int .i64 0) ∧ ∃ M', Each w1 p M [w.heap.size] u pg (k + 2 * ids.length) M' w' ∧ AllJ w.heap.size pg ids w1.heap.size ids.length M' w') := EA
  have SN : Hid (∀ w1, Calls Tryz.prog 44 #[.slice none 0 0] w1 fun e w' => e = .returned (.tuple #[]) ∧ Only [] w1 w') := fun w1 => IR.sort_none w1
  have SA : Hid (∀ (g n cap : Nat) (l : List Nat) (w1 : World), l.length = n → n ≤ 290000 → w1.ownsRow 0 29 1 (.slice (some ⟨g, 0, none⟩) n cap) n (u64s l) → Calls Tryz.prog 44 #[.slice (some ⟨g, 0, none⟩) n cap] w1 fun e w' => e = .returned (.tuple #[]) ∧ w'.ownsRow 0 29 1 (.slice (some ⟨g, 0, none⟩) n cap) n (risen l) ∧ Only [g] w1 w') := fun g n cap l w1 hl hn h => IR.sort_any g n cap (l.map fun j => ((j : Nat) : Int)) w1 (by simp [hl]) (by omega) (by
    have e : u64s l = (l.map fun j => ((j : Nat) : Int)).map (Value.int .u64) := by simp [u64s]
    rw [e] at h; exact h)
  have ST : Hid (∀ (v : Value) (n : Nat) (l : List Nat) (w1 : World), l.length = n → n ≤ 290000 → w1.ownsRow 0 29 1 v n (u64s l) → Calls Tryz.prog 44 #[v] w1 fun e w' => e = .returned (.tuple #[]) ∧ w'.ownsRow 0 29 1 v n (risen l) ∧ Only v.ownBlock.toList w1 w') := fun v n l w1 hl hn h => by
    rcases Nat.eq_zero_or_pos n with h0 | h0
    · rcases h.2 with ⟨rfl, _⟩ | ⟨g, cap, cur, rfl, _⟩
      · refine (SN.out w1).mono ?_
        rintro e w' ⟨rfl, hO⟩
        subst h0
        have : l = [] := List.eq_nil_of_length_eq_zero hl
        subst this
        exact ⟨rfl, by simpa [risen, IR.rising, u64s] using owns_later h hO (by simp), hO⟩
      · exact SA.out g n cap l w1 hl hn h
    · obtain ⟨g, cap, rfl⟩ := owns_some h h0
      exact SA.out g n cap l w1 hl hn h
  clear hMlt hbl hu hlen SA SN
  go_enter Tryz.func10, Tryz.ntmps10
  go_wp2_with (go_at_call 28; refine (EA.out _ rfl).mono ?_; rintro e w2 ⟨rfl, M2, hE, v, hB, hv⟩; rw [List.take_of_length_le (Nat.le_refl _)] at hB; obtain ⟨ao, cap, rfl⟩ := owns_slice hB.row; have c0 := hB.box.cell 0; simp only [List.getElem?_cons_zero] at c0; have EE := Lib.hid hE; have HB := Lib.hid hB; have HV := Lib.hid hv; clear hE hB hv)
  refine (ST.out _ _ _ _ rfl RLEN.out HB.out.row).mono ?_
  rintro e w3 ⟨rfl, hr3, hO3⟩
  have c3 := (hO3.blk HB.out.box (fun hx => Nat.lt_irrefl _ (HB.out.above _ (Option.mem_toList.1 hx)))).cell 0
  simp only [List.getElem?_cons_zero] at c3
  have R3 := Lib.hid hr3
  have O3 := Lib.hid hO3
  clear hr3 hO3 c0
  go_wp2_with fail
  go_ret2
  have hs := World.size_alloc w (.cells #[.slice none 0 0] 27)
  have hv := HV.out
  have hE := EE.out
  refine ⟨.slice ao (ridsOf pg ids).length cap, M2, rfl, R3.out, fun x hx => ?_, hE.pool.later O3.out (fun x hx cs hcs => ?_) (fun x hx hxg => ?_), (((Only.refl M w).alloc (.cells #[.slice none 0 0] 27)).trans hE.only (fun x hx => ?_)).trans O3.out (fun x hx => ?_), fun x hx => ?_⟩
  · exact ⟨by have := (hv x hx).1; omega, (hv x hx).2⟩
  · exact owns_ne HB.out.row hcs (by decide) (Option.mem_toList.1 hx)
  · exact (hv x (Option.mem_toList.1 hxg)).2 hx
  · rcases List.mem_append.1 hx with h | h
    · simp at h; subst h; exact .inr (Nat.le_refl _)
    · exact .inl h
  · have := (hv x (Option.mem_toList.1 hx)).1; exact .inr (by omega)
  · rcases hE.mine x hx with h | h
    · exact .inl h
    · exact .inr (by omega)
end Go.Proofs.YtfkmjbpnjgnkbaaGreat.H
