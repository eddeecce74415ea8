import Derived.Test.YtikonbnhbalpmaaMPoolB
import Derived.Test.YtikonbnhbalpmaaMPlain
import Derived.Deep.RegionHeld3
import Derived.IntWalk
/-
  The pool's frames: one changed, one more, one fewer; touches, frees.
-/
namespace Go.Proofs.Ytikonbnhbalpmaa.P
set_option linter.unusedSimpArgs false
open Go Go.RowKit Go.Proofs.Ytikonbnhbalpmaa Go.Proofs.Ytikonbnhbalpmaa.D
set_option linter.unusedVariables false
variable {w w' : World} {p d ub hm pm asked k : Nat} {MD M : List Nat} {L : List Pl} {S : PS}

/-! ### the row of frames -/
/-- The frame at a place becomes g. -/
def putF (L : List Pl) (g : Pl) : List Pl := L.map fun x => if x.at_ = g.at_ then g else x
theorem putF_mem {g x : Pl} (h : x ∈ putF L g) : x = g ∨ (x ∈ L ∧ x.at_ ≠ g.at_) := by
  obtain ⟨y, hy, rfl⟩ := List.mem_map.1 h
  split
  · exact .inl rfl
  · next hne => exact .inr ⟨hy, hne⟩
theorem putF_in {l g : Pl} (hl : l ∈ L) (ha : g.at_ = l.at_) : g ∈ putF L g := List.mem_map.2 ⟨l, hl, by rw [if_pos ha.symm]⟩
theorem putF_at (L : List Pl) (g : Pl) : (putF L g).map (·.at_) = L.map (·.at_) := by
  unfold putF
  rw [List.map_map]
  apply List.map_congr_left
  intro x _
  show (if x.at_ = g.at_ then g else x).at_ = x.at_
  split
  · next h => exact h.symm
  · rfl
theorem putF_heldM {l g : Pl} (hl : l ∈ L) (ha : g.at_ = l.at_) (hi : g.f.id = l.f.id) (hn : (L.map (·.at_)).Nodup) : heldM (putF L g) = heldM L := by
  unfold heldM putF
  rw [List.map_map]
  apply List.map_congr_left
  intro x hx
  show (((if x.at_ = g.at_ then g else x).f.id : Int), Value.pointer (some ⟨(if x.at_ = g.at_ then g else x).at_, 0, none⟩)) = _
  split
  · next h =>
    have : x = l := same_of hn hx hl (h.trans ha)
    rw [this, hi, ha]
  · rfl
/-- What the frame of page id has. -/
def PS.setF (S : PS) (f : Fr) : PS := { S with held := S.held.map fun x => if x.id = f.id then f else x }
theorem putF_fst {l g : Pl} (hl : l ∈ L) (ha : g.at_ = l.at_) (hi : g.f.id = l.f.id) (hn : (L.map (·.at_)).Nodup) (hn2 : (L.map (·.f.id)).Nodup) : (putF L g).map (·.f) = (L.map (·.f)).map fun x => if x.id = g.f.id then g.f else x := by
  unfold putF
  rw [List.map_map, List.map_map]
  apply List.map_congr_left
  intro x hx
  show (if x.at_ = g.at_ then g else x).f = if x.f.id = g.f.id then g.f else x.f
  by_cases h : x = l
  · subst h; rw [if_pos ha.symm, if_pos hi.symm]
  · rw [if_neg (fun e => h (same_of hn hx hl (e.trans ha))), if_neg (fun e => h (same_of hn2 hx hl (e.trans hi)))]
theorem PoolAt.poolNe (h : PoolAt w p d MD ub hm pm asked L S k) : p ≠ ub ∧ p ≠ hm ∧ p ≠ pm ∧ ub ≠ hm ∧ ub ≠ pm ∧ ∀ l ∈ L, l.at_ ≠ p ∧ l.at_ ≠ ub ∧ l.at_ ≠ hm ∧ l.at_ ≠ pm :=
  ⟨h.pool.ne h.used (by decide), (h.heldm.ne h.pool).symm, (h.pins.ne h.pool).symm, (h.heldm.ne h.used).symm, (h.pins.ne h.used).symm,
    fun l hl => ⟨(h.frame l hl).1.ne h.pool (by decide), (h.frame l hl).1.ne h.used (by decide), (h.heldm.ne (h.frame l hl).1).symm, (h.pins.ne (h.frame l hl).1).symm⟩⟩
/-- One frame was changed; the pool's own block may have been. -/
theorem PoolAt.put (h : PoolAt w p d MD ub hm pm asked L S k) (hn : (L.map (·.f.id)).Nodup) {l g : Pl} (hl : l ∈ L) (ha : g.at_ = l.at_) (hi : g.f.id = l.f.id) {asked' k' : Nat} (hk : k ≤ k') (hak : asked' ≤ k') (hgk : g.last ≤ k') (hO : Only [p, l.at_] w w')
    (hp : Blk w' p (poolCells d ub hm pm asked' S) 79) (hg : Blk w' l.at_ (frameCells g) 112) (hr : ByteRow 5 w' g.v g.f.b) : PoolAt w' p d MD ub hm pm asked' (putF L g) (S.setF g.f) k' := by
  obtain ⟨n1, n2, n3, n4, n5, n6⟩ := h.poolNe
  obtain ⟨m1, m2, m3, m4⟩ := n6 l hl
  have hX : Aside w [p, l.at_] := fun x hx => by
    simp at hx
    rcases hx with rfl | rfl
    · exact .inl ⟨_, h.pool⟩
    · exact .inr (.inl ⟨_, (h.frame l hl).1⟩)
  refine ⟨hX.disk h.disk hO, hp, hO.blk h.used (by simp; exact ⟨n1.symm, m2.symm⟩), ?_, h.pins.later hO (by simp; exact ⟨n3.symm, m4.symm⟩), ?_, ?_, ?_, h.ne, hak, ?_, h.size⟩
  · rw [putF_heldM hl ha hi h.apart]
    exact h.heldm.later hO (by simp; exact ⟨n2.symm, m3.symm⟩)
  · intro x hx
    rcases putF_mem hx with rfl | ⟨hx, hne⟩
    · rw [ha]; exact ⟨hg, hr⟩
    · exact ⟨hO.blk (h.frame x hx).1 (by simp; exact ⟨(n6 x hx).1, fun e => hne (e.trans ha.symm)⟩), hX.row (h.frame x hx).2 hO⟩
  · rw [putF_fst hl ha hi h.apart hn, h.fst]; rfl
  · rw [putF_at]; exact h.apart
  · intro x hx
    rcases putF_mem hx with rfl | ⟨hx, hne⟩
    · exact hgk
    · exact Nat.le_trans (h.last x hx) hk
theorem PS.setF_same (hf : (S.held.map (·.id)).Nodup) {f : Fr} (h : f ∈ S.held) : S.setF f = S := by
  unfold PS.setF
  have : (S.held.map fun x => if x.id = f.id then f else x) = S.held := by
    conv => rhs; rw [← List.map_id S.held]
    apply List.map_congr_left
    intro x hx
    split
    · next e => exact (same_of hf hx h e).symm
    · rfl
  rw [this]
/-- A frame more. -/
theorem PoolAt.more (h : PoolAt w p d MD ub hm pm asked L S k) {g : Pl} (hid : ∀ l ∈ L, l.f.id ≠ g.f.id) (hnew : w.heap.size ≤ g.at_) {w1 : World} (hO1 : Only [] w w1) (hO : Only [hm] w1 w')
    (hm' : MapAt w' hm .i64 (mput (heldM L) (g.f.id : Int) (.pointer (some ⟨g.at_, 0, none⟩)))) (hg : Blk w1 g.at_ (frameCells g) 112) (hr : ByteRow 5 w1 g.v g.f.b) (hgk : g.last ≤ k) : PoolAt w' p d MD ub hm pm asked (L ++ [g]) { S with held := S.held ++ [g.f] } k := by
  have h1 := h.past2 hO1
  obtain ⟨n1, n2, n3, n4, n5, n6⟩ := h1.poolNe
  have hX : Aside w1 [hm] := fun x hx => by
    simp at hx
    subst hx
    exact .inr (.inr (.inr ⟨_, _, h1.heldm⟩))
  refine ⟨hX.disk h1.disk hO, hO.blk h1.pool (by simpa using n2), hO.blk h1.used (by simpa using n4), ?_, h1.pins.later hO (by simpa using h.ne.symm), ?_, ?_, ?_, h.ne, h.asked, ?_, h.size⟩
  · rw [put_new (look_nowhere hid)] at hm'
    simpa [heldM] using hm'
  · intro x hx
    rcases List.mem_append.1 hx with hx | hx
    · exact ⟨hO.blk (h1.frame x hx).1 (by simpa using (n6 x hx).2.2.1), hX.row (h1.frame x hx).2 hO⟩
    · simp at hx
      subst hx
      exact ⟨hO.blk hg (by simpa using (h1.heldm.ne hg).symm), hX.row hr hO⟩
  · simp [h.fst]
  · rw [List.map_append, List.nodup_append]
    refine ⟨h.apart, by simp, ?_⟩
    intro a ha b hb
    obtain ⟨l, hl, rfl⟩ := List.mem_map.1 ha
    simp at hb
    subst hb
    have := (h.frame l hl).1.lt
    omega
  · intro x hx
    rcases List.mem_append.1 hx with hx | hx
    · exact h.last x hx
    · simp at hx; subst hx; exact hgk
/-- A page is in no frame any more. -/
theorem heldM_del (L : List Pl) (id : Nat) : mdel (heldM L) (id : Int) = heldM (L.filter fun l => l.f.id != id) := by
  unfold mdel heldM
  rw [List.filter_map]
  congr 1
  apply List.filter_congr
  intro x _
  show ((x.f.id : Int) != (id : Int)) = (x.f.id != id)
  by_cases h : x.f.id = id
  · rw [h]; simp
  · rw [bne_iff_ne.2 (fun e => h (Int.natCast_inj.1 e)), bne_iff_ne.2 h]
def PS.drop (S : PS) (id : Nat) : PS := { S with held := S.held.filter fun f => f.id != id }
theorem PoolAt.drop (h : PoolAt w p d MD ub hm pm asked L S k) (id : Nat) (hO : Only [hm] w w') (hm' : MapAt w' hm .i64 (mdel (heldM L) (id : Int))) : PoolAt w' p d MD ub hm pm asked (L.filter fun l => l.f.id != id) (S.drop id) k := by
  obtain ⟨n1, n2, n3, n4, n5, n6⟩ := h.poolNe
  have hX : Aside w [hm] := fun x hx => by
    simp at hx
    subst hx
    exact .inr (.inr (.inr ⟨_, _, h.heldm⟩))
  refine ⟨hX.disk h.disk hO, hO.blk h.pool (by simpa using n2), hO.blk h.used (by simpa using n4), ?_, h.pins.later hO (by simpa using h.ne.symm), ?_, ?_, ?_, h.ne, h.asked, ?_, h.size⟩
  · rw [← heldM_del]; exact hm'
  · intro x hx
    have hx := (List.mem_filter.1 hx).1
    exact ⟨hO.blk (h.frame x hx).1 (by simpa using (n6 x hx).2.2.1), hX.row (h.frame x hx).2 hO⟩
  · show _ = S.held.filter _
    rw [← h.fst, List.filter_map]; rfl
  · exact h.apart.sublist (List.filter_sublist.map _)
  · exact fun x hx => h.last x (List.mem_filter.1 hx).1

/-! ### touches -/
set_option maxHeartbeats 1000000 in
theorem touches_any (h : PoolAt w p d MD ub hm pm asked L S k) (hf : S.Fine k) (hk : k ≤ 1000000000000) {l : Pl} (hl : l ∈ L) :
    Calls Try.prog 53 #[.pointer (some ⟨p, 0, none⟩), .int .i64 l.f.id] w fun e w' => e = .returned (.pointer (some ⟨l.at_, 0, none⟩)) ∧ PoolAt w' p d MD ub hm pm (asked + 1) (putF L { l with last := asked + 1 }) S (k + 1) ∧ Only [p, l.at_] w w' := by
  have c7 := h.pool.cell 7
  have c4 := h.pool.cell 4
  have l3 := (h.frame l hl).1.cell 3
  simp only [poolCells, frameCells, List.getElem?_cons_succ, List.getElem?_cons_zero] at c4 c7 l3
  have f7 := h.pool.frozen 7
  have g3 := (h.frame l hl).1.frozen 3
  have hne := ((h.poolNe.2.2.2.2.2) l hl).1
  have hne2 := hne.symm
  have hak : asked ≤ 1000000000000 := Nat.le_trans h.asked hk
  have hlk : (Instr.lookup 76 (.map (some hm)) (.int .i64 (l.f.id : Int)) false).run Try.prog (w.setCell ⟨p, 7, none⟩ (.int .i64 ((asked : Int) + 1))) = .ok (.pointer (some ⟨l.at_, 0, none⟩)) (w.setCell ⟨p, 7, none⟩ (.int .i64 ((asked : Int) + 1))) := by
    have := (h.heldm.later (only_set w p 7 (.int .i64 ((asked : Int) + 1))) (by simpa using h.poolNe.2.1.symm)).look Try.underlying76 Try.underlying3 (zero_ptr _) (l.f.id : Int) false
    rw [look_held (h.ids hf) hl] at this
    exact this
  have HH := Lib.hid h
  have HF := Lib.hid hf
  have HL := Lib.hid hl
  have HK := Lib.hid hk
  clear h hf hl hk
  obtain ⟨la, lv, lt, ⟨li, lb, ln, ld⟩⟩ := l
  simp only at *
  go_enter Try.func53, Try.ntmps53
  go_wp2_with fail
  go_ret
  have hO : Only [p, la] w ((w.setCell ⟨p, 7, none⟩ (.int .i64 ((asked : Int) + 1))).setCell ⟨la, 3, none⟩ (.int .i64 ((asked : Int) + 1))) := ((Only.refl _ _).setCell (.inl (by simp)) _).setCell (.inl (by simp)) _
  refine ⟨rfl, ?_, hO⟩
  have h := HH.out
  have hb := (h.frame _ HL.out).1
  have key := h.put (h.ids HF.out) HL.out (g := ⟨la, lv, asked + 1, ⟨li, lb, ln, ld⟩⟩) rfl rfl (asked' := asked + 1) (k' := k + 1) (by omega) (by have := h.asked; omega) (by show asked + 1 ≤ _; have := h.asked; omega) hO
    (((h.pool.set 7 _).far _ (by exact hne2)).to (by simp [poolCells])) (((hb.far _ (by exact hne)).set 3 _).to (by simp [frameCells])) (owns_off (h.frame _ HL.out).2 hO (Aside.off (fun x hx => by
      simp at hx
      rcases hx with rfl | rfl
      · exact .inl ⟨_, h.pool⟩
      · exact .inr (.inl ⟨_, hb⟩)) (by decide) (by decide) (by decide)))
  have e : S.setF ⟨li, lb, ln, ld⟩ = S := PS.setF_same HF.out.once (by rw [← h.fst]; exact List.mem_map_of_mem HL.out)
  rw [e] at key
  exact key
end Go.Proofs.Ytikonbnhbalpmaa.P
