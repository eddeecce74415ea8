/-
  The pool's lays and holds, by contracts.
-/
import Derived.Test.YtmgifohjoakdjaaPoolD
namespace Go.Proofs.Ytmgifohjoakdjaa.P
set_option linter.unusedSimpArgs false
open Go Go.RowKit Go.Proofs.Ytmgifohjoakdjaa Go.Proofs.Ytmgifohjoakdjaa.D Go.Proofs.Ytmgifohjoakdjaa.B
set_option linter.unusedVariables false
variable {w w' : World} {p d ub hm pm asked k : Nat} {MD M : List Nat} {L : List Pl} {S : PS}

/-- What page id has, whoever holds it. -/
def PS.page (S : PS) (id : Nat) : List UInt8 := match S.held.find? (·.id == id) with
  | some f => f.b
  | none => S.d.now.getD (S.first + id) []
def PS.isHeld (S : PS) (id : Nat) : Prop := ∃ f ∈ S.held, f.id = id
theorem find_id {H : List Fr} (hn : (H.map (·.id)).Nodup) {f : Fr} (hf : f ∈ H) : H.find? (fun x => x.id == f.id) = some f := by
  cases h : H.find? (fun x => x.id == f.id) with
  | none => exact absurd (List.find?_eq_none.1 h f hf) (by simp)
  | some g =>
    have h1 := List.find?_some h
    have h2 := List.mem_of_find?_eq_some h
    rw [same_of hn h2 hf (by simpa using h1)]
theorem find_no {H : List Fr} {id : Nat} (h : ∀ f ∈ H, f.id ≠ id) : H.find? (fun x => x.id == id) = none := List.find?_eq_none.2 fun x hx => by simpa using h x hx
theorem PS.page_in (hn : (S.held.map (·.id)).Nodup) {f : Fr} (hf : f ∈ S.held) : S.page f.id = f.b := by
  unfold PS.page; rw [find_id hn hf]
theorem PS.page_out {id : Nat} (h : ∀ f ∈ S.held, f.id ≠ id) : S.page id = S.d.now.getD (S.first + id) [] := by
  unfold PS.page; rw [find_no h]

/-! ### a frame is filled -/
theorem PS.Fine.setF (h : S.Fine k) {f : Fr} (hi : f.id < S.used.length) (hl : f.b.length = 512) (hd : f.dirty = true) : (S.setF f).Fine k where
  well := h.well
  room := h.room
  ids := fun x hx => by
    obtain ⟨y, hy, rfl⟩ := List.mem_map.1 hx
    split
    · exact hi
    · exact h.ids y hy
  len := fun x hx => by
    obtain ⟨y, hy, rfl⟩ := List.mem_map.1 hx
    split
    · exact hl
    · exact h.len y hy
  count0 := h.count0
  count := h.count
  row := h.row
  once := by
    have e : (S.setF f).held.map (·.id) = S.held.map (·.id) := by
      show (S.held.map _).map _ = _
      rw [List.map_map]
      apply List.map_congr_left
      intro x _
      show (if x.id = f.id then f else x).id = x.id
      split
      · next e => exact e.symm
      · rfl
    rw [e]; exact h.once
  few := by show (S.held.map _).length ≤ S.frames; rw [List.length_map]; exact h.few
  frames := h.frames
  clean := fun x hx hxd => by
    obtain ⟨y, hy, rfl⟩ := List.mem_map.1 hx
    split
    · next e => rw [if_pos e, hd] at hxd; cases hxd
    · next e => rw [if_neg e] at hxd; exact h.clean y hy hxd
theorem PS.Fine.addF (h : S.Fine k) {f : Fr} (hi : f.id < S.used.length) (hl : f.b.length = 512) (hn : ∀ x ∈ S.held, x.id ≠ f.id) (hr : S.held.length < S.frames) (hc : f.dirty = false → S.d.now.getD (S.first + f.id) [] = f.b) : ({ S with held := S.held ++ [f] } : PS).Fine k where
  well := h.well
  room := h.room
  ids := fun x hx => by
    rcases List.mem_append.1 hx with hx | hx
    · exact h.ids x hx
    · simp at hx; subst hx; exact hi
  len := fun x hx => by
    rcases List.mem_append.1 hx with hx | hx
    · exact h.len x hx
    · simp at hx; subst hx; exact hl
  count0 := h.count0
  count := h.count
  row := h.row
  once := by
    show ((S.held ++ [f]).map _).Nodup
    rw [List.map_append, List.nodup_append]
    refine ⟨h.once, by simp, ?_⟩
    intro a ha b hb
    obtain ⟨x, hx, rfl⟩ := List.mem_map.1 ha
    simp at hb
    subst hb
    exact hn x hx
  few := by show (S.held ++ [f]).length ≤ S.frames; simp; omega
  frames := h.frames
  clean := fun x hx hxd => by
    rcases List.mem_append.1 hx with hx | hx
    · exact h.clean x hx hxd
    · simp at hx; subst hx; exact hc hxd
theorem PoolAt.filled (h : PoolAt w p d MD ub hm pm asked L S k) (hn : (L.map (·.f.id)).Nodup) {l : Pl} (hl : l ∈ L) {v : Value} {b : List UInt8} (hv : ByteRow 5 w v b) (lsn : Nat) :
    PoolAt (((w.setCell ⟨l.at_, 0, none⟩ v).setCell ⟨l.at_, 1, none⟩ (.int .u64 lsn)).setCell ⟨l.at_, 2, none⟩ (.bool true)) p d MD ub hm pm asked (putF L ⟨l.at_, v, l.last, ⟨l.f.id, b, lsn, true⟩⟩) (S.setF ⟨l.f.id, b, lsn, true⟩) k := by
  have hb := (h.frame l hl).1
  have hO : Only [p, l.at_] w (((w.setCell ⟨l.at_, 0, none⟩ v).setCell ⟨l.at_, 1, none⟩ (.int .u64 lsn)).setCell ⟨l.at_, 2, none⟩ (.bool true)) := (((Only.refl _ _).setCell (.inl (by simp)) _).setCell (.inl (by simp)) _).setCell (.inl (by simp)) _
  have hne := ((h.poolNe.2.2.2.2.2) l hl).1
  exact h.put hn hl (g := ⟨l.at_, v, l.last, ⟨l.f.id, b, lsn, true⟩⟩) rfl rfl (Nat.le_refl _) h.asked (h.last l hl) hO
    (((h.pool.far _ (by exact hne.symm)).far _ (by exact hne.symm)).far _ (by exact hne.symm)) ((((hb.set 0 v).set 1 _).set 2 _).to (by simp [frameCells])) (hv.off hO (Aside.off (fun x hx => by
      simp at hx
      rcases hx with rfl | rfl
      · exact .inl ⟨_, h.pool⟩
      · exact .inr (.inl ⟨_, hb⟩)) (by decide) (by decide) (by decide)))

theorem owns_shape2 {v : Value} {l : List UInt8} (h : ByteRow 5 w v l) : ∃ a c, v = .slice a l.length c := by
  rcases h.2 with ⟨rfl, h0⟩ | ⟨g, cap, cur, rfl, _⟩
  · exact ⟨none, 0, by rw [h0]⟩
  · exact ⟨_, cap, rfl⟩
/-- Where the frames are behind one that was filled and touched. -/
theorem filled_places {w0 : World} {l : Pl} (hl : l ∈ L) (hM : ∀ l ∈ L, l.at_ ∈ M ∧ ∀ x, l.v.ownBlock = some x → x ∈ M) {v : Value} (hv : ∀ x, v.ownBlock = some x → w0.heap.size ≤ x) {f : Fr} {n n' : Nat} {x : Pl} (hx : x ∈ putF (putF L ⟨l.at_, v, n, f⟩) ⟨l.at_, v, n', f⟩) :
    (x.at_ ∈ M ∨ w0.heap.size ≤ x.at_) ∧ ∀ y, x.v.ownBlock = some y → y ∈ M ∨ w0.heap.size ≤ y := by
  rcases putF_mem hx with rfl | ⟨hx, hne⟩
  · exact ⟨.inl (hM l hl).1, fun y hy => .inr (hv y hy)⟩
  · rcases putF_mem hx with rfl | ⟨hx, hne⟩
    · exact ⟨.inl (hM l hl).1, fun y hy => .inr (hv y hy)⟩
    · exact ⟨.inl (hM x hx).1, fun y hy => .inl ((hM x hx).2 y hy)⟩
theorem bytes_later {v : Value} {b : List UInt8} {X : List Nat} (h : BytesAt w v b) (hO : Only X w w') (hX : ∀ a n c, v = .slice (some a) n c → a.block ∉ X) : BytesAt w' v b := by
  obtain ⟨ao, cap, rfl, hc⟩ := h
  refine ⟨ao, cap, rfl, fun h0 => ?_⟩
  obtain ⟨g, o, rfl, hc2⟩ := hc h0
  exact ⟨g, o, rfl, fun j hj => hO.cell (p := ⟨g, o + j, none⟩) (hc2 j hj) (hX ⟨g, o, none⟩ _ _ rfl)⟩
theorem bytes_lt {v : Value} {b : List UInt8} (h : BytesAt w v b) (h0 : 0 < b.length) {a : Addr} {n c : Nat} (hv : v = .slice (some a) n c) : a.block < w.heap.size := by
  obtain ⟨ao, cap, rfl, hc⟩ := h
  obtain ⟨g, o, rfl, hc2⟩ := hc h0
  simp only [Value.slice.injEq, Option.some.injEq] at hv
  rw [← hv.1]
  exact cell_lt (hc2 0 h0)
theorem ids_more {g : Pl} (hn : (L.map (·.f.id)).Nodup) (h : ∀ l ∈ L, l.f.id ≠ g.f.id) : ((L ++ [g]).map (·.f.id)).Nodup := by
  rw [List.map_append, List.nodup_append]
  refine ⟨hn, by simp, ?_⟩
  intro a ha b hb
  obtain ⟨x, hx, rfl⟩ := List.mem_map.1 ha
  simp at hb
  subst hb
  exact h x hx
theorem setF_more {f f0 : Fr} (h : ∀ x ∈ S.held, x.id ≠ f.id) : ({ S with held := S.held ++ [⟨f.id, f0.b, f0.lsn, f0.dirty⟩] } : PS).setF f = { S with held := S.held ++ [f] } := by
  unfold PS.setF
  have : ((S.held ++ [(⟨f.id, f0.b, f0.lsn, f0.dirty⟩ : Fr)]).map fun x => if x.id = f.id then f else x) = S.held ++ [f] := by
    rw [List.map_append]
    congr 1
    · conv => rhs; rw [← List.map_id S.held]
      apply List.map_congr_left
      intro x hx
      rw [if_neg (h x hx)]; rfl
    · simp
  simp only [this]
/-! ### lays -/
/-- What lays may have done, and told. -/
inductive Lays (S : PS) (id : Nat) (b : List UInt8) (lsn : Nat) : Int → PS → Prop
  | held (f : Fr) (hf : f ∈ S.held) (hi : f.id = id) : Lays S id b lsn 0 (S.setF ⟨id, b, if f.dirty then max lsn f.lsn else lsn, true⟩)
  | full (hi : ∀ f ∈ S.held, f.id ≠ id) (h : Frees S 52 S) : Lays S id b lsn 52 S
  | more (hi : ∀ f ∈ S.held, f.id ≠ id) {S1 : PS} (h : Frees S 0 S1) : Lays S id b lsn 0 { S1 with held := S1.held ++ [⟨id, b, lsn, true⟩] }
theorem Lays.to {id : Nat} {b : List UInt8} {lsn : Nat} {r : Int} {S1 S2 : PS} (h : Lays S id b lsn r S1) (e : S1 = S2) : Lays S id b lsn r S2 := e ▸ h
theorem Frees.held {r : Int} {S' : PS} (h : Frees S r S') : ∀ f ∈ S'.held, f ∈ S.held := by
  cases h with
  | room => exact fun f h => h
  | none => exact fun f h => h
  | one h f hf hr => exact fun x hx => (List.mem_filter.1 hx).1
theorem Frees.same {r : Int} {S' : PS} (h : Frees S r S') : S'.used = S.used ∧ S'.first = S.first ∧ S'.frames = S.frames ∧ S'.durable = S.durable := by
  cases h <;> exact ⟨rfl, rfl, rfl, rfl⟩
set_option maxRecDepth 100000 in
set_option maxHeartbeats 4000000 in
theorem lays_any (h : Pool w p d M S k) (hk : k ≤ 1000000) (id : Nat) (hid : id < S.used.length) {v : Value} {b : List UInt8} (hv : BytesAt w v b) (hvM : ∀ a n c, v = .slice (some a) n c → a.block ∉ M) (hb : b.length = 512) (lsn : Nat) :
    Calls Try.prog 27 #[.pointer (some ⟨p, 0, none⟩), .int .i64 id, v, .int .u64 lsn] w fun e w' => ∃ r S' M', e = .returned (.int .i64 r) ∧ Lays S id b lsn r S' ∧ Pool w' p d M' S' (k + 2) ∧ Step M M' w w' := by
  have HP := Lib.hid h
  obtain ⟨MD, ub, hm, pm, asked, L, hA, hm1, hm2, hm3, hm4, hm5, hm6⟩ := h.at_
  have HA := Lib.hid hA
  have HF := Lib.hid h.fine
  have HM : Hid ((∀ x ∈ MD, x ∈ M) ∧ p ∈ M ∧ ub ∈ M ∧ hm ∈ M ∧ pm ∈ M ∧ (∀ l ∈ L, l.at_ ∈ M ∧ ∀ x, l.v.ownBlock = some x → x ∈ M)) := ⟨hm1, hm2, hm3, hm4, hm5, hm6⟩
  have HV := Lib.hid hv
  have HVM := Lib.hid hvM
  have HB := Lib.hid hb
  have HID := Lib.hid hid
  have c4 := hA.pool.cell 4
  simp only [poolCells, List.getElem?_cons_succ, List.getElem?_cons_zero] at c4
  clear hm1 hm2 hm3 hm4 hm5 hm6 hv hvM hb hid
  by_cases hheld : ∃ l ∈ L, l.f.id = id
  · obtain ⟨l, hl, rfl⟩ := hheld
    have hlk := hA.lookHeld HF.out hl (Only.refl [] w) true
    have b1 := (hA.frame l hl).1.cell 1
    have b2 := (hA.frame l hl).1.cell 2
    simp only [if_true, frameCells, List.getElem?_cons_succ, List.getElem?_cons_zero] at hlk b1 b2
    have HL := Lib.hid hl
    have hne := ((hA.poolNe.2.2.2.2.2) l hl).1
    clear hl hA h
    obtain ⟨la, lv, lt, ⟨li, lb, ln, ld⟩⟩ := l
    simp only at *
    have CL : Hid (Calls Try.prog 29 #[v] w fun e w' => ∃ v', e = .returned v' ∧ B.Own w w' v' b) := clone_any HV.out (by have := HB.out; omega)
    have FS : ∀ n : Nat, Hid ((S.setF ⟨li, b, n, true⟩).Fine k) := fun n => HF.out.setF HID.out HB.out rfl
    cases ld with
    | false =>
      go_enter Try.func27, Try.ntmps27
      go_wp2_with (first
        | (go_at_call 29; refine CL.out.mono ?_; rintro e w1 ⟨v1, rfl, hr1, hn1, hO1⟩; obtain ⟨a1, c1, rfl⟩ := owns_shape2 hr1; have R1 := Lib.hid hr1; have N1 := Lib.hid hn1; have O1 := Lib.hid hO1; have b1' := hO1.blk (HA.out.frame _ HL.out).1 (by simp); have y0 := b1'.cell 0; have y1 := b1'.cell 1; have y2 := b1'.cell 2; have z0 := b1'.frozen 0; have z1 := b1'.frozen 1; have z2 := b1'.frozen 2; simp only [frameCells, List.getElem?_cons_succ, List.getElem?_cons_zero] at y0 y1 y2; clear hr1 hn1 hO1 b1')
        | (go_at_call 36; refine (touches_any ((HA.out.past2 O1.out).filled (HA.out.ids HF.out) HL.out R1.out lsn) (FS lsn).out (by omega) (putF_in HL.out rfl)).mono ?_; rintro e w3 ⟨rfl, hA3, hO3⟩; have A3 := Lib.hid hA3; have O3 := Lib.hid hO3; clear hA3 hO3))
      go_ret
      have hO : Only M w w3 := (((O1.out.mono (M' := M) (by simp)).trans ((((Only.refl [la] _).setCell (.inl (by simp)) _).setCell (.inl (by simp)) _).setCell (.inl (by simp)) _) (fun x hx => by simp at hx; subst hx; exact .inl (HM.out.2.2.2.2.2 _ HL.out).1))).trans O3.out (fun x hx => by
        simp at hx
        rcases hx with rfl | rfl
        · exact .inl HM.out.2.1
        · exact .inl (HM.out.2.2.2.2.2 _ HL.out).1)
      obtain ⟨M', hP, hS⟩ := Pool.ofAt HP.out.lt hO A3.out ((FS lsn).out.more (Nat.le_succ _)) (fun x hx => .inl (HM.out.1 x hx)) HM.out.2.1 (.inl HM.out.2.2.1) (.inl HM.out.2.2.2.1) (.inl HM.out.2.2.2.2.1) (fun l hl => filled_places HL.out HM.out.2.2.2.2.2 N1.out hl)
      exact ⟨_, _, M', rfl, .held ⟨li, lb, ln, false⟩ (by rw [← HA.out.fst]; exact List.mem_map_of_mem HL.out) rfl, hP.more (Nat.le_succ _), hS⟩
    | true =>
      rcases Nat.lt_or_ge lsn ln with hc | hc
      · have HMX : Hid (max lsn ln = ln) := by show _ = _; omega
        have hci : (lsn : Int) < ln := by omega
        go_enter Try.func27, Try.ntmps27
        go_wp2_with (first
          | (go_at_call 29; refine CL.out.mono ?_; rintro e w1 ⟨v1, rfl, hr1, hn1, hO1⟩; obtain ⟨a1, c1, rfl⟩ := owns_shape2 hr1; have R1 := Lib.hid hr1; have N1 := Lib.hid hn1; have O1 := Lib.hid hO1; have b1' := hO1.blk (HA.out.frame _ HL.out).1 (by simp); have y0 := b1'.cell 0; have y1 := b1'.cell 1; have y2 := b1'.cell 2; have z0 := b1'.frozen 0; have z1 := b1'.frozen 1; have z2 := b1'.frozen 2; simp only [frameCells, List.getElem?_cons_succ, List.getElem?_cons_zero] at y0 y1 y2; clear hr1 hn1 hO1 b1')
          | (go_at_call 36; refine (touches_any ((HA.out.past2 O1.out).filled (HA.out.ids HF.out) HL.out R1.out ln) (FS ln).out (by omega) (putF_in HL.out rfl)).mono ?_; rintro e w3 ⟨rfl, hA3, hO3⟩; have A3 := Lib.hid hA3; have O3 := Lib.hid hO3; clear hA3 hO3))
        go_ret
        have hO : Only M w w3 := (((O1.out.mono (M' := M) (by simp)).trans ((((Only.refl [la] _).setCell (.inl (by simp)) _).setCell (.inl (by simp)) _).setCell (.inl (by simp)) _) (fun x hx => by simp at hx; subst hx; exact .inl (HM.out.2.2.2.2.2 _ HL.out).1))).trans O3.out (fun x hx => by
          simp at hx
          rcases hx with rfl | rfl
          · exact .inl HM.out.2.1
          · exact .inl (HM.out.2.2.2.2.2 _ HL.out).1)
        obtain ⟨M', hP, hS⟩ := Pool.ofAt HP.out.lt hO A3.out ((FS ln).out.more (Nat.le_succ _)) (fun x hx => .inl (HM.out.1 x hx)) HM.out.2.1 (.inl HM.out.2.2.1) (.inl HM.out.2.2.2.1) (.inl HM.out.2.2.2.2.1) (fun l hl => filled_places HL.out HM.out.2.2.2.2.2 N1.out hl)
        exact ⟨_, _, M', rfl, ((Lays.held ⟨li, lb, ln, true⟩ (by rw [← HA.out.fst]; exact List.mem_map_of_mem HL.out) rfl : Lays S li b lsn 0 _).to (congrArg (fun n => S.setF ⟨li, b, n, true⟩) HMX.out)), hP.more (Nat.le_succ _), hS⟩
      · have HMX : Hid (max lsn ln = lsn) := by show _ = _; omega
        have hci : (ln : Int) ≤ lsn := by omega
        go_enter Try.func27, Try.ntmps27
        go_wp2_with (first
          | (go_at_call 29; refine CL.out.mono ?_; rintro e w1 ⟨v1, rfl, hr1, hn1, hO1⟩; obtain ⟨a1, c1, rfl⟩ := owns_shape2 hr1; have R1 := Lib.hid hr1; have N1 := Lib.hid hn1; have O1 := Lib.hid hO1; have b1' := hO1.blk (HA.out.frame _ HL.out).1 (by simp); have y0 := b1'.cell 0; have y1 := b1'.cell 1; have y2 := b1'.cell 2; have z0 := b1'.frozen 0; have z1 := b1'.frozen 1; have z2 := b1'.frozen 2; simp only [frameCells, List.getElem?_cons_succ, List.getElem?_cons_zero] at y0 y1 y2; clear hr1 hn1 hO1 b1')
          | (go_at_call 36; refine (touches_any ((HA.out.past2 O1.out).filled (HA.out.ids HF.out) HL.out R1.out lsn) (FS lsn).out (by omega) (putF_in HL.out rfl)).mono ?_; rintro e w3 ⟨rfl, hA3, hO3⟩; have A3 := Lib.hid hA3; have O3 := Lib.hid hO3; clear hA3 hO3))
        go_ret
        have hO : Only M w w3 := (((O1.out.mono (M' := M) (by simp)).trans ((((Only.refl [la] _).setCell (.inl (by simp)) _).setCell (.inl (by simp)) _).setCell (.inl (by simp)) _) (fun x hx => by simp at hx; subst hx; exact .inl (HM.out.2.2.2.2.2 _ HL.out).1))).trans O3.out (fun x hx => by
          simp at hx
          rcases hx with rfl | rfl
          · exact .inl HM.out.2.1
          · exact .inl (HM.out.2.2.2.2.2 _ HL.out).1)
        obtain ⟨M', hP, hS⟩ := Pool.ofAt HP.out.lt hO A3.out ((FS lsn).out.more (Nat.le_succ _)) (fun x hx => .inl (HM.out.1 x hx)) HM.out.2.1 (.inl HM.out.2.2.1) (.inl HM.out.2.2.2.1) (.inl HM.out.2.2.2.2.1) (fun l hl => filled_places HL.out HM.out.2.2.2.2.2 N1.out hl)
        exact ⟨_, _, M', rfl, ((Lays.held ⟨li, lb, ln, true⟩ (by rw [← HA.out.fst]; exact List.mem_map_of_mem HL.out) rfl : Lays S li b lsn 0 _).to (congrArg (fun n => S.setF ⟨li, b, n, true⟩) HMX.out)), hP.more (Nat.le_succ _), hS⟩
  · have hno : ∀ l ∈ L, l.f.id ≠ id := fun l hl e => hheld ⟨l, hl, e⟩
    have hlk : (Instr.lookup 59 (.map (some hm)) (.int .i64 (id : Int)) true).run Try.prog w = .ok (.tuple #[.pointer none, .bool false]) w := by
      have := hA.heldm.look Try.underlying59 Try.underlying3 (zero_ptr w) (id : Int) true
      rw [look_nowhere hno] at this
      exact this
    have HNO : Hid (∀ f ∈ S.held, f.id ≠ id) := fun f hf => by
      rw [← HA.out.fst] at hf
      obtain ⟨l, hl, rfl⟩ := List.mem_map.1 hf
      exact hno l hl
    clear hA h hheld hno
    go_enter Try.func27, Try.ntmps27
    go_wp2_with fail
    refine (frees_any HP.out hk).mono ?_
    rintro e w1 ⟨r, S1, M1, rfl, hfr, hP1, hS1⟩
    have FR := Lib.hid hfr
    have P1 := Lib.hid hP1
    have S1' := Lib.hid hS1
    clear hP1 hS1 c4 hlk
    have hr : r = 0 ∨ (r = 52 ∧ S1 = S) := by cases hfr <;> simp
    clear hfr
    rcases hr with rfl | ⟨rfl, rfl⟩
    · obtain ⟨MD1, ub1, hm1, pm1, asked1, L1, hA1, g1, g2, g3, g4, g5, g6⟩ := P1.out.at_
      have HA1 := Lib.hid hA1
      have HF1 := Lib.hid P1.out.fine
      have HM1 : Hid ((∀ x ∈ MD1, x ∈ M1) ∧ p ∈ M1 ∧ ub1 ∈ M1 ∧ hm1 ∈ M1 ∧ pm1 ∈ M1 ∧ (∀ l ∈ L1, l.at_ ∈ M1 ∧ ∀ x, l.v.ownBlock = some x → x ∈ M1)) := ⟨g1, g2, g3, g4, g5, g6⟩
      have c4 := hA1.pool.cell 4
      simp only [poolCells, List.getElem?_cons_succ, List.getElem?_cons_zero] at c4
      have HNO1 : Hid (∀ l ∈ L1, l.f.id ≠ id) := fun l hl => HNO.out l.f (FR.out.held l.f (by rw [← HA1.out.fst]; exact List.mem_map_of_mem hl))
      clear hA1 g1 g2 g3 g4 g5 g6
      have B1 : Blk (w1.alloc (.cells #[.slice none 0 0, .int .u64 0, .bool false, .int .i64 0] 70)) w1.heap.size (frameCells ⟨w1.heap.size, .slice none 0 0, 0, ⟨id, [], 0, false⟩⟩) 70 := Blk.new _ _ w1
      have HB1 := Lib.hid B1
      clear B1
      have c4a := ((Only.refl [] w1).alloc (.cells #[.slice none 0 0, .int .u64 0, .bool false, .int .i64 0] 70)).cell c4 (by simp)
      have HV1 : Hid (BytesAt w1 v b) := bytes_later HV.out S1'.out.1 HVM.out
      have HVM1 : Hid (∀ a n c, v = .slice (some a) n c → a.block ∉ M1) := fun a n c e => Step.keep S1'.out (bytes_lt HV.out (by have := HB.out; omega) e) (HVM.out a n c e)
      have HN2 : Hid (((L1 ++ [(⟨w1.heap.size, .slice none 0 0, 0, ⟨id, [], 0, false⟩⟩ : Pl)]).map (·.f.id)).Nodup) := ids_more (HA1.out.ids HF1.out) HNO1.out
      have ES : Hid (({ S1 with held := S1.held ++ [⟨id, [], 0, false⟩] } : PS).setF ⟨id, b, lsn, true⟩ = { S1 with held := S1.held ++ [⟨id, b, lsn, true⟩] }) := setF_more (f := ⟨id, b, lsn, true⟩) (f0 := ⟨id, [], 0, false⟩) (by rw [← HA1.out.fst]; intro f hf; obtain ⟨l, hl, rfl⟩ := List.mem_map.1 hf; exact HNO1.out l hl)
      have HF2 : Hid (({ S1 with held := S1.held ++ [⟨id, [], 0, false⟩] } : PS).setF ⟨id, b, lsn, true⟩ |>.Fine (k + 1)) := by
        show PS.Fine _ _
        rw [ES.out]
        exact HF1.out.addF (by rw [FR.out.same.1]; exact HID.out) HB.out (by rw [← HA1.out.fst]; intro f hf; obtain ⟨l, hl, rfl⟩ := List.mem_map.1 hf; exact HNO1.out l hl) (FR.out.room_ HF.out) (fun h => by cases h)
      go_wp2_with (first
        | (refine wpList_put rfl _ _ _ 59 rfl Try.underlying59 Try.underlying3 hm1 (heldM L1) rfl (HA1.out.heldm.past ((Only.refl _ _).alloc (.cells #[.slice none 0 0, .int .u64 0, .bool false, .int .i64 0] 70))) id rfl (.pointer (some ⟨w1.heap.size, 0, none⟩)) rfl ?_; intro w2 hm2 hO2 hs2; have A2 := Lib.hid (HA1.out.more (g := ⟨w1.heap.size, .slice none 0 0, 0, ⟨id, [], 0, false⟩⟩) HNO1.out (Nat.le_refl _) ((Only.refl [] w1).alloc _) hO2 hm2 HB1.out ⟨rfl, .inl ⟨rfl, rfl⟩⟩ (Nat.zero_le _)); have O2 := Lib.hid (((Only.refl [hm1] w1).alloc (.cells #[.slice none 0 0, .int .u64 0, .bool false, .int .i64 0] 70)).trans hO2 (fun x hx => .inl hx)); have y2 := (A2.out.frame ⟨w1.heap.size, .slice none 0 0, 0, ⟨id, [], 0, false⟩⟩ (by simp)).1.cell 2; simp only [frameCells, List.getElem?_cons_succ, List.getElem?_cons_zero] at y2; clear hm2 hO2 c4 c4a)
        | (go_at_call 29; refine (clone_any (bytes_later HV1.out O2.out (by intro a n c e h; simp at h; exact HVM1.out a n c e (h ▸ HM1.out.2.2.2.1))) (by have := HB.out; omega)).mono ?_; rintro e w3 ⟨v1, rfl, hr1, hn1, hO3⟩; obtain ⟨a1, c1, rfl⟩ := owns_shape2 hr1; have R1 := Lib.hid hr1; have N1 := Lib.hid hn1; have O3 := Lib.hid hO3; have b1' := hO3.blk (A2.out.frame ⟨w1.heap.size, .slice none 0 0, 0, ⟨id, [], 0, false⟩⟩ (by simp)).1 (by simp); have y0 := b1'.cell 0; have y1 := b1'.cell 1; have y2 := b1'.cell 2; have z0 := b1'.frozen 0; have z1 := b1'.frozen 1; have z2 := b1'.frozen 2; simp only [frameCells, List.getElem?_cons_succ, List.getElem?_cons_zero] at y0 y1 y2; clear hr1 hn1 hO3 b1')
        | (go_at_call 36; refine (touches_any ((A2.out.past2 O3.out).filled (l := ⟨w1.heap.size, .slice none 0 0, 0, ⟨id, [], 0, false⟩⟩) HN2.out (by simp) R1.out lsn) HF2.out (by omega) (putF_in (l := ⟨w1.heap.size, .slice none 0 0, 0, ⟨id, [], 0, false⟩⟩) (by simp) rfl)).mono ?_; rintro e w4 ⟨rfl, hA4, hO4⟩; have A4 := Lib.hid hA4; have O4 := Lib.hid hO4; clear hA4 hO4))
      go_ret
      have hM1 : ∀ x ∈ M1, x ∈ M ∨ w.heap.size ≤ x := S1'.out.2
      have hsz : w.heap.size ≤ w1.heap.size := S1'.out.1.size
      have hO : Only M w w4 := (((S1'.out.1.trans O2.out (fun x hx => by simp at hx; subst hx; exact hM1 _ HM1.out.2.2.2.1)).trans O3.out (by simp)).trans ((((Only.refl [w1.heap.size] _).setCell (.inl (by simp)) _).setCell (.inl (by simp)) _).setCell (.inl (by simp)) _) (fun x hx => by simp at hx; subst hx; exact .inr hsz)).trans O4.out (fun x hx => by
        simp at hx
        rcases hx with rfl | rfl
        · exact .inl HM.out.2.1
        · exact .inr hsz)
      obtain ⟨M', hP, hS⟩ := Pool.ofAt HP.out.lt hO (A4.out.to ES.out) (by rw [← ES.out]; exact HF2.out.more (Nat.le_succ _)) (fun x hx => hM1 x (HM1.out.1 x hx)) HM.out.2.1 (hM1 _ HM1.out.2.2.1) (hM1 _ HM1.out.2.2.2.1) (hM1 _ HM1.out.2.2.2.2.1) (fun l hl => by
        have hv : ∀ y, (Value.slice a1 b.length c1).ownBlock = some y → w.heap.size ≤ y := fun y hy => by
          have h1 := N1.out y hy
          have h2 := O2.out.size
          have h3 : w2.heap.size = w1.heap.size + 1 := by have := hs2; simpa using this
          omega
        rcases putF_mem hl with rfl | ⟨hl, _⟩
        · exact ⟨.inr hsz, fun y hy => .inr (hv y hy)⟩
        · rcases putF_mem hl with rfl | ⟨hl, _⟩
          · exact ⟨.inr hsz, fun y hy => .inr (hv y hy)⟩
          · rcases List.mem_append.1 hl with hl | hl
            · exact ⟨hM1 _ (HM1.out.2.2.2.2.2 l hl).1, fun y hy => hM1 _ ((HM1.out.2.2.2.2.2 l hl).2 y hy)⟩
            · simp at hl
              subst hl
              exact ⟨.inr hsz, fun y hy => by simp [Value.ownBlock] at hy⟩)
      exact ⟨_, _, M', rfl, .more HNO.out FR.out, hP, hS⟩
    · go_wp2_with fail
      go_ret
      exact ⟨_, _, M1, rfl, .full HNO.out FR.out, P1.out.more (by omega), S1'.out⟩
end Go.Proofs.Ytmgifohjoakdjaa.P
