/-
  The pool's frees: a frame for one page more.
-/
import Derived.Test.YtmgifohjoakdjaaPoolC
import Derived.Deep.RegionHeld3
namespace Go.Proofs.Ytmgifohjoakdjaa.P
set_option linter.unusedSimpArgs false
open Go Go.RowKit Go.Proofs.Ytmgifohjoakdjaa Go.Proofs.Ytmgifohjoakdjaa.D
set_option linter.unusedVariables false
variable {w w' : World} {p d ub hm pm asked k : Nat} {MD M : List Nat} {L : List Pl} {S : PS}

/-- A sector is written. -/
def _root_.Go.Proofs.Ytmgifohjoakdjaa.D.DS.lay (s : DS) (i : Nat) (l : List UInt8) : DS := { s.changed with now := s.now.set i l, row := s.row ++ [(i, l)] }
/-- A frame is given up. -/
def PS.giveUp (S : PS) (f : Fr) : PS := { S.drop f.id with d := if f.dirty then S.d.lay (S.first + f.id) f.b else S.d }
/-- What frees may have done, and told. -/
inductive Frees (S : PS) : Int → PS → Prop
  | room (h : S.held.length < S.frames) : Frees S 0 S
  | none (h : S.frames ≤ S.held.length) (hs : ∀ f ∈ S.held, f.free S.durable = false) : Frees S 52 S
  | one (h : S.frames ≤ S.held.length) (f : Fr) (hf : f ∈ S.held) (hr : f.free S.durable = true) : Frees S 0 (S.giveUp f)
theorem PS.Fine.drop (h : S.Fine k) (id : Nat) : (S.drop id).Fine k where
  well := h.well
  room := h.room
  ids := fun f hf => h.ids f (List.mem_filter.1 hf).1
  len := fun f hf => h.len f (List.mem_filter.1 hf).1
  count0 := h.count0
  count := h.count
  row := h.row
  once := h.once.sublist (List.filter_sublist.map _)
  few := Nat.le_trans (List.length_filter_le _ _) h.few
  frames := h.frames
  clean := fun f hf hd => h.clean f (List.mem_filter.1 hf).1 hd
theorem getD_set_ne {α : Type} (l : List α) (i j : Nat) (x z : α) (h : i ≠ j) : (l.set i x).getD j z = l.getD j z := by
  rw [List.getD_eq_getElem?_getD, List.getD_eq_getElem?_getD, List.getElem?_set_ne h]
theorem getD_set_self {α : Type} (l : List α) (i : Nat) (x z : α) (h : i < l.length) : (l.set i x).getD i z = x := by
  rw [List.getD_eq_getElem?_getD, List.getElem?_set_self h]; rfl
theorem PS.Fine.giveUp (h : S.Fine k) (f : Fr) : (S.giveUp f).Fine (k + 1) := by
  have hd := h.drop f.id
  unfold PS.giveUp
  cases f.dirty with
  | false => exact hd.more (Nat.le_succ _)
  | true =>
    refine ⟨?_, ?_, hd.ids, hd.len, ?_, ?_, ?_, hd.once, hd.few, hd.frames, ?_⟩
    · have := h.well.changed; exact ⟨this.1, this.2, this.3⟩
    · show _ ≤ (S.d.now.set _ _).length; rw [List.length_set]; exact h.room
    · show 0 ≤ S.d.count + 1; have := h.count0; omega
    · show S.d.count + 1 ≤ _; have := h.count; omega
    · show (S.d.row ++ [_]).length ≤ _; have := h.row; simp; omega
    · intro x hx hxd
      have hne := (List.mem_filter.1 hx).2
      show (S.d.now.set (S.first + f.id) f.b).getD (S.first + x.id) [] = x.b
      rw [getD_set_ne _ _ _ _ _ (by simp at hne; omega)]
      exact h.clean x (List.mem_filter.1 hx).1 hxd
theorem Frees.fine {r : Int} {S' : PS} (h : Frees S r S') (hf : S.Fine k) : S'.Fine (k + 1) := by
  cases h with
  | room => exact hf.more (Nat.le_succ _)
  | none => exact hf.more (Nat.le_succ _)
  | one h f hm hr => exact hf.giveUp f
/-- Behind frees that served there is room. -/
theorem Frees.room_ {S' : PS} (h : Frees S 0 S') (hf : S.Fine k) : S'.held.length < S'.frames := by
  cases h with
  | room h => exact h
  | one h f hm hr =>
    show (S.held.filter _).length < S.frames
    have h1 := hf.few
    have : (S.held.filter fun x => x.id != f.id).length < S.held.length := by
      apply Nat.lt_of_le_of_ne (List.length_filter_le _ _)
      intro e
      have := List.length_filter_eq_length_iff.1 e f hm
      simp at this
    omega
theorem PoolAt.size2 (h : PoolAt w p d MD ub hm pm asked L S k) : L.length = S.held.length := by rw [← h.fst, List.length_map]
/-- A pool, its blocks told. -/
theorem Pool.ofAt {w0 : World} (hM : ∀ x ∈ M, x < w0.heap.size) (hO : Only M w0 w') (h : PoolAt w' p d MD ub hm pm asked L S k) (hf : S.Fine k) (h1 : ∀ x ∈ MD, x ∈ M ∨ w0.heap.size ≤ x) (h2 : p ∈ M) (h3 : ub ∈ M ∨ w0.heap.size ≤ ub) (h4 : hm ∈ M ∨ w0.heap.size ≤ hm) (h5 : pm ∈ M ∨ w0.heap.size ≤ pm)
    (h6 : ∀ l ∈ L, (l.at_ ∈ M ∨ w0.heap.size ≤ l.at_) ∧ ∀ x, l.v.ownBlock = some x → x ∈ M ∨ w0.heap.size ≤ x) : ∃ M', Pool w' p d M' S k ∧ Step M M' w0 w' := by
  refine ⟨M ++ (MD ++ [ub, hm, pm] ++ L.map (·.at_) ++ L.filterMap (·.v.ownBlock)), ⟨⟨MD, ub, hm, pm, asked, L, h, fun x hx => by simp [hx], by simp [h2], by simp, by simp, by simp, fun l hl => ⟨?_, fun x hx => ?_⟩⟩, ?_, hf⟩, hO, ?_⟩
  · simp only [List.mem_append, List.mem_map]
    exact .inr (.inl (.inr ⟨l, hl, rfl⟩))
  · simp only [List.mem_append, List.mem_filterMap]
    exact .inr (.inr ⟨l, hl, hx⟩)
  · intro x hx
    simp only [List.mem_append, List.mem_map, List.mem_filterMap, List.mem_cons, List.not_mem_nil, or_false] at hx
    rcases hx with hx | ((hx | (rfl | rfl | rfl)) | ⟨l, hl, rfl⟩) | ⟨l, hl, hx⟩
    · exact Nat.lt_of_lt_of_le (hM x hx) hO.size
    · exact h.disk.lt x hx
    · exact h.used.lt
    · exact h.heldm.lt
    · exact h.pins.lt
    · exact (h.frame l hl).1.lt
    · exact owns_lt (h.frame l hl).2 hx
  · intro x hx
    simp only [List.mem_append, List.mem_map, List.mem_filterMap, List.mem_cons, List.not_mem_nil, or_false] at hx
    rcases hx with hx | ((hx | (rfl | rfl | rfl)) | ⟨l, hl, rfl⟩) | ⟨l, hl, hx⟩
    · exact .inl hx
    · exact h1 x hx
    · exact h3
    · exact h4
    · exact h5
    · exact (h6 l hl).1
    · exact (h6 l hl).2 x hx
theorem PoolAt.lookLen (h : PoolAt w p d MD ub hm pm asked L S k) (hO : Only [] w w') : (Builtin.len_ #[59] 3 #[.map (some hm)]).run Try.prog w' = .ok (.int .i64 L.length) w' := by
  have := (h.heldm.past hO).len (P := Try.prog) Try.underlying59 3
  simpa [heldM] using this
/-- The disk alone was changed. -/
theorem PoolAt.step (h : PoolAt w p d MD ub hm pm asked L S k) {MD' : List Nat} {s' : DS} (hD : Disk w' d MD' s') (hS : Step MD MD' w w') : PoolAt w' p d MD' ub hm pm asked L { S with d := s' } k := by
  have one : ∀ x, Aside w [x] → x ∉ MD := fun x hx hm => hx.apart h.disk x hm (by simp)
  refine ⟨hD, hS.1.blk h.pool (one p (fun x hx => by simp at hx; subst hx; exact .inl ⟨_, h.pool⟩)), hS.1.blk h.used (one ub (fun x hx => by simp at hx; subst hx; exact .inr (.inr (.inl ⟨_, h.used⟩)))),
    h.heldm.later hS.1 (one hm (fun x hx => by simp at hx; subst hx; exact .inr (.inr (.inr ⟨_, _, h.heldm⟩)))), h.pins.later hS.1 (one pm (fun x hx => by simp at hx; subst hx; exact .inr (.inr (.inr ⟨_, _, h.pins⟩)))),
    fun l hl => ⟨hS.1.blk (h.frame l hl).1 (one l.at_ (fun x hx => by simp at hx; subst hx; exact .inr (.inl ⟨_, (h.frame l hl).1⟩))), (h.frame l hl).2.off hS.1 (h.disk.off (by decide) (by decide) (by decide))⟩, h.fst, h.apart, h.ne, h.asked, h.last, h.size⟩
theorem PoolAt.up (h : PoolAt w p d MD ub hm pm asked L S k) {k2 : Nat} (hk : k ≤ k2) : PoolAt w p d MD ub hm pm asked L S k2 :=
  ⟨h.disk, h.pool, h.used, h.heldm, h.pins, h.frame, h.fst, h.apart, h.ne, Nat.le_trans h.asked hk, fun l hl => Nat.le_trans (h.last l hl) hk, h.size⟩
theorem PoolAt.to {S' : PS} (h : PoolAt w p d MD ub hm pm asked L S k) (e : S = S') : PoolAt w p d MD ub hm pm asked L S' k := e ▸ h
set_option maxHeartbeats 2000000 in
theorem frees_any (h : Pool w p d M S k) (hk : k ≤ 1000000) : Calls Try.prog 35 #[.pointer (some ⟨p, 0, none⟩)] w fun e w' => ∃ r S' M', e = .returned (.int .i64 r) ∧ Frees S r S' ∧ Pool w' p d M' S' (k + 1) ∧ Step M M' w w' := by
  have HP := Lib.hid h
  obtain ⟨MD, ub, hm, pm, asked, L, hA, hm1, hm2, hm3, hm4, hm5, hm6⟩ := h.at_
  have HA := Lib.hid hA
  have HF := Lib.hid h.fine
  have c2 := hA.pool.cell 2
  have c4 := hA.pool.cell 4
  simp only [poolCells, List.getElem?_cons_succ, List.getElem?_cons_zero] at c2 c4
  have C2 := Later.cell c2
  have C4 := Later.cell c4
  have LL : ∀ x : Later w, (Builtin.len_ #[59] 3 #[.map (some hm)]).run Try.prog x.v = .ok (.int .i64 L.length) x.v := fun x => hA.lookLen x.h
  have hlen := hA.size2
  have HM : Hid ((∀ x ∈ MD, x ∈ M) ∧ p ∈ M ∧ ub ∈ M ∧ hm ∈ M ∧ pm ∈ M ∧ (∀ l ∈ L, l.at_ ∈ M ∧ ∀ x, l.v.ownBlock = some x → x ∈ M)) := ⟨hm1, hm2, hm3, hm4, hm5, hm6⟩
  clear h hA hm1 hm2 hm3 hm4 hm5 hm6 c2 c4
  generalize hfr : S.frames = fr at *
  have HFR := Lib.hid hfr
  generalize hln : L.length = n at *
  have HN := Lib.hid hln
  have HLEN := Lib.hid hlen
  clear hfr hln hlen
  by_cases hroom : n < fr
  · go_enter Try.func35, Try.ntmps35
    go_wp2_with fail
    refine wp_region_later (Only.refl _ _) (by kernel_rfl) (by kernel_rfl) ?_
    repeat (go_big_quiet_step (fail))
    refine wpQuiet_nil ?_
    rintro _ ⟨xq, rfl⟩
    go_wp2_with fail
    go_ret
    have := HLEN.out
    refine ⟨_, S, M, rfl, .room (by rw [HFR.out]; omega), (HP.out.past xq.h).more (Nat.le_succ _), xq.h.mono (by simp), fun x hx => .inl hx⟩
  · have hroom2 : decide (n < fr) = false := by simpa using hroom
    go_enter Try.func35, Try.ntmps35
    go_wp2_with fail
    refine wp_region_later (Only.refl _ _) (by kernel_rfl) (by kernel_rfl) ?_
    repeat (go_big_quiet_step (fail))
    refine wpQuiet_nil ?_
    rintro _ ⟨xq, rfl⟩
    go_wp2_with fail
    refine (victim_any (HA.out.past2 xq.h) HF.out).mono ?_
    rintro e w3 ⟨id, b, rfl, hv, hO3⟩
    have HV := Lib.hid hv
    have O3 := Lib.hid (xq.h.trans hO3 (by simp))
    clear hv hO3
    cases b with
    | false =>
      go_wp2_with fail
      go_ret
      refine ⟨_, S, M, rfl, .none (by have := HLEN.out; rw [HFR.out]; omega) ?_, (HP.out.past O3.out).more (Nat.le_succ _), O3.out.mono (by simp), fun x hx => .inl hx⟩
      have := HV.out
      unfold Victim at this
      rwa [if_neg (by simp)] at this
    | true =>
      obtain ⟨l, hl, hli, hlf⟩ : ∃ l ∈ L, l.f.id = id ∧ l.f.free S.durable = true := by
        have := HV.out
        unfold Victim at this
        rw [if_pos rfl, ← HA.out.fst] at this
        obtain ⟨f, hf, h1, h2⟩ := this
        obtain ⟨l, hl, rfl⟩ := List.mem_map.1 hf
        exact ⟨l, hl, h1, h2⟩
      subst hli
      have H3 := HA.out.past2 O3.out
      have hlk := H3.lookHeld HF.out hl (Only.refl [] w3) false
      simp only [Bool.false_eq_true, if_false] at hlk
      have b2 := (H3.frame l hl).1.cell 2
      have c4 := H3.pool.cell 4
      simp only [poolCells, frameCells, List.getElem?_cons_succ, List.getElem?_cons_zero] at c4 b2
      have HL := Lib.hid hl
      have HLF := Lib.hid hlf
      have HA3 := Lib.hid H3
      clear hl hlf H3 C2 C4 LL
      have E : Hid (Frees S 0 (S.giveUp l.f)) := .one (by have := HLEN.out; rw [HFR.out]; omega) l.f (by rw [← HA.out.fst]; exact List.mem_map_of_mem HL.out) HLF.out
      obtain ⟨la, lv, lt, ⟨li, lb, ln, ld⟩⟩ := l
      simp only at *
      cases ld with
      | false =>
        go_wp2_with (at_delete; refine wpList_del rfl _ _ 59 3 rfl Try.underlying59 Try.underlying3 hm (heldM L) rfl HA3.out.heldm li rfl ?_; intro w4 hm4 hO4 hs4)
        go_ret
        have hO : Only M w w4 := (O3.out.mono (M' := M) (by simp)).trans hO4 (fun x hx => by simp at hx; subst hx; exact .inl HM.out.2.2.2.1)
        obtain ⟨M', hP, hS⟩ := Pool.ofAt HP.out.lt hO ((HA3.out.drop li hO4 hm4).to (S' := S.giveUp ⟨li, lb, ln, false⟩) rfl) ((HF.out.drop li)) (fun x hx => .inl (HM.out.1 x hx)) HM.out.2.1 (.inl HM.out.2.2.1) (.inl HM.out.2.2.2.1) (.inl HM.out.2.2.2.2.1) (fun l hl => ⟨.inl (HM.out.2.2.2.2.2 l (List.mem_filter.1 hl).1).1, fun x hx => .inl ((HM.out.2.2.2.2.2 l (List.mem_filter.1 hl).1).2 x hx)⟩)
        exact ⟨_, _, M', rfl, E.out, hP.more (Nat.le_succ _), hS⟩
      | true =>
        have hi : li < S.used.length := HF.out.ids ⟨li, lb, ln, true⟩ (by rw [← HA.out.fst]; exact List.mem_map_of_mem HL.out)
        have hrm := HF.out.room
        have hnl := HA.out.disk.len.2
        have c0 := HA3.out.pool.cell 0
        have c1 := HA3.out.pool.cell 1
        have b0 := (HA3.out.frame _ HL.out).1.cell 0
        simp only [poolCells, frameCells, List.getElem?_cons_succ, List.getElem?_cons_zero] at c0 c1 b0
        have WR : Hid (∀ w1, Only [] w3 w1 → Calls Try.prog 13 #[.pointer (some ⟨d, 0, none⟩), .int .i64 ((S.first : Int) + li), lv] w1 fun e w' => e = .returned (.int .i64 0) ∧ ∃ M', Disk w' d M' (S.d.lay (S.first + li) lb) ∧ Step MD M' w1 w') := fun w1 hO => by
          have hD := HA3.out.disk.past hO
          have hr := (HA3.out.frame _ HL.out).2
          have := hD.write' (i := ((S.first + li : Nat) : Int)) (write_ok HF.out.well.err (by omega) (HF.out.len ⟨li, lb, ln, true⟩ (by rw [← HA.out.fst]; exact List.mem_map_of_mem HL.out))) HF.out.count0 (by have := HF.out.count; omega) (by have := HF.out.row; omega) (hr.off hO (Off.nil _ _)).at (fun a n c hv => by
            subst hv
            intro hin
            obtain ⟨cs, hb⟩ := owns_own (hr.off hO (Off.nil _ _)) (k := a.block) rfl
            exact hD.off (e := 5) (by decide) (by decide) (by decide) _ hin _ hb)
          rw [show ((S.first + li : Nat) : Int) = (S.first : Int) + li by omega] at this
          exact this
        obtain ⟨fi, hfi⟩ : ∃ fi, S.first = fi := ⟨_, rfl⟩
        have HFI := Lib.hid hfi
        rw [hfi] at c1 WR
        have e1 : IntKind.i64.wrap ((fi : Int) + li) = (fi : Int) + li := IntWalk.i64_in _ (by omega)
        clear hfi hi hrm hnl
        have aM : Hid (p ∉ MD ∧ la ∉ MD ∧ hm ∉ MD) := by
          have one : ∀ x, Aside w3 [x] → x ∉ MD := fun x hx hm => hx.apart HA3.out.disk x hm (by simp)
          exact ⟨one p (fun x hx => by simp at hx; subst hx; exact .inl ⟨_, HA3.out.pool⟩), one la (fun x hx => by simp at hx; subst hx; exact .inr (.inl ⟨_, (HA3.out.frame _ HL.out).1⟩)), one hm (fun x hx => by simp at hx; subst hx; exact .inr (.inr (.inr ⟨_, _, HA3.out.heldm⟩)))⟩
        go_wp2_with fail
        go_region_held3 (fun w' => w'.cell? ⟨p, 0, none⟩ = some (.pointer (some ⟨d, 0, none⟩)) ∧ w'.cell? ⟨p, 1, none⟩ = some (.int .i64 fi) ∧ w'.cell? ⟨la, 0, none⟩ = some lv) (first | go_keep | exact hKEEP)
          ((go_at_call 13; refine (WR.out _ (Only.refl _ _).drew).mono ?_; rintro e w5 ⟨rfl, M5, hD5, hS5⟩; have hKEEP := And.intro (hS5.1.cell (p := ⟨p, 0, none⟩) c0 aM.out.1) (And.intro (hS5.1.cell (p := ⟨p, 1, none⟩) c1 aM.out.1) (hS5.1.cell (p := ⟨la, 0, none⟩) b0 aM.out.2.1))))
        have A5 : Hid (PoolAt w5 p d M5 ub hm pm asked L { S with d := S.d.lay (S.first + li) lb } k) := by
          have hD : Disk w5 d M5 (S.d.lay (S.first + li) lb) := by rw [HFI.out]; exact hD5
          exact (HA3.out.past2 ((Only.refl _ _).drew)).step hD hS5
        have c4' := A5.out.pool.cell 4
        simp only [poolCells, List.getElem?_cons_succ, List.getElem?_cons_zero] at c4'
        have S5 := Lib.hid hS5
        clear hD5 hS5 hKEEP c0 c1 b0 e1
        go_wp2_with (at_delete; refine wpList_del rfl _ _ 59 3 rfl Try.underlying59 Try.underlying3 hm (heldM L) rfl A5.out.heldm li rfl ?_; intro w6 hm6 hO6 hs6)
        go_ret
        have hO : Only M w w6 := (((O3.out.mono (M' := M) (by simp)).trans (Only.drew (Only.refl [] _)) (by simp)).trans S5.out.1 (fun x hx => .inl (HM.out.1 x hx))).trans hO6 (fun x hx => by simp at hx; subst hx; exact .inl HM.out.2.2.2.1)
        have hM5 : ∀ x ∈ M5, x ∈ M ∨ w.heap.size ≤ x := fun x hx => by
          rcases S5.out.2 x hx with h1 | h1
          · exact .inl (HM.out.1 x h1)
          · right
            have h2 := O3.out.size
            have h3 : w3.drew.heap.size = w3.heap.size := rfl
            omega
        obtain ⟨M', hP, hS⟩ := Pool.ofAt HP.out.lt hO (((A5.out.drop li hO6 hm6).to (S' := S.giveUp ⟨li, lb, ln, true⟩) rfl).up (Nat.le_succ k)) (HF.out.giveUp _) hM5 HM.out.2.1 (.inl HM.out.2.2.1) (.inl HM.out.2.2.2.1) (.inl HM.out.2.2.2.2.1) (fun l hl => ⟨.inl (HM.out.2.2.2.2.2 l (List.mem_filter.1 hl).1).1, fun x hx => .inl ((HM.out.2.2.2.2.2 l (List.mem_filter.1 hl).1).2 x hx)⟩)
        exact ⟨_, _, M', rfl, E.out, hP, hS⟩
end Go.Proofs.Ytmgifohjoakdjaa.P
