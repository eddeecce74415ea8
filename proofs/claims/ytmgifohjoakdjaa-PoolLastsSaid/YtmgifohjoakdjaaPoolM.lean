/-
  The pool's Flush, by its contract.
-/
import Derived.Test.YtmgifohjoakdjaaPoolL
import Derived.Test.YtmgifohjoakdjaaQuietL
import Derived.Deep.RegionHeld3
namespace Go.Proofs.Ytmgifohjoakdjaa.P
set_option linter.unusedSimpArgs false
open Go Go.RowKit Go.Proofs.Ytmgifohjoakdjaa Go.Proofs.Ytmgifohjoakdjaa.D Go.Proofs.Ytmgifohjoakdjaa.B Go.Proofs.Ytmgifohjoakdjaa.I
set_option linter.unusedVariables false
variable {w w' : World} {p d ub hm pm asked k : Nat} {MD M : List Nat} {L : List Pl} {S : PS}

/-- Is a frame written by Flush? -/
def Fr.goes (f : Fr) (n : Nat) : Bool := f.dirty && decide (f.lsn ≤ n)
def PS.goes (S : PS) (id : Int) : Bool := S.held.any fun f => decide ((f.id : Int) = id) && f.goes S.durable
/-- One page is written, if it goes. -/
def PS.putOut (S : PS) (s : DS) (id : Int) : DS := if S.goes id = true then s.lay (S.first + id.toNat) (S.page id.toNat) else s
/-- The disk behind so many pages. -/
def PS.outs (S : PS) (ids : List Int) : DS := ids.foldl S.putOut S.d
theorem PS.outs_snoc (S : PS) (ids : List Int) (id : Int) : S.outs (ids ++ [id]) = S.putOut (S.outs ids) id := by
  unfold PS.outs; rw [List.foldl_append]; rfl
theorem goes_of (hn : (S.held.map (·.id)).Nodup) {f : Fr} (hf : f ∈ S.held) : S.goes (f.id : Int) = f.goes S.durable := by
  unfold PS.goes
  cases h : f.goes S.durable with
  | true => rw [List.any_eq_true]; exact ⟨f, hf, by simp [h]⟩
  | false =>
    rw [List.any_eq_false]
    intro x hx
    simp only [Bool.and_eq_true, decide_eq_true_eq, not_and]
    intro e
    rw [same_of hn hx hf (Int.natCast_inj.1 e), h]; simp
structure OutOk (S : PS) (s : DS) (k : Nat) : Prop where
  well : Well s
  c0 : 0 ≤ s.count
  c : s.count ≤ k
  r : s.row.length ≤ k
  len : s.now.length = S.d.now.length
theorem OutOk.lay {s : DS} (h : OutOk S s k) (i : Nat) (l : List UInt8) : OutOk S (s.lay i l) (k + 1) where
  well := by have := h.well.changed; exact ⟨this.1, this.2, this.3⟩
  c0 := by show 0 ≤ s.count + 1; have := h.c0; omega
  c := by show s.count + 1 ≤ _; have := h.c; omega
  r := by show (s.row ++ [_]).length ≤ _; have := h.r; simp; omega
  len := by show (s.now.set _ _).length = _; rw [List.length_set]; exact h.len
theorem OutOk.more {s : DS} (h : OutOk S s k) : OutOk S s (k + 1) := ⟨h.well, h.c0, by have := h.c; omega, by have := h.r; omega, h.len⟩
theorem heldIds_mem {x : Int} (h : x ∈ S.heldIds) : ∃ f ∈ S.held, (f.id : Int) = x := by
  have := (rising_perm (S.held.map fun f => (f.id : Int))).mem_iff.1 h
  exact List.mem_map.1 this
theorem owns_intform {v : Value} {l : List Int} (h : w.ownsRow 0 3 1 v l.length (l.map (Value.int .i64))) : ∃ a c, v = .slice a l.length c := by
  rcases h.2 with ⟨rfl, h0⟩ | ⟨g, cap, cur, rfl, _⟩
  · exact ⟨none, 0, by rw [h0]⟩
  · exact ⟨_, cap, rfl⟩
/-- What lies where, on the way. -/
structure OutAt (w0 w : World) (p d ub hm pm asked k : Nat) (M MD : List Nat) (L : List Pl) (S : PS) (s : DS) (v3 v12 : Value) (wrote : List Int) (j : Nat) : Prop where
  at_ : PoolAt w p d MD ub hm pm asked L { S with d := s } k
  ok : OutOk S s (k + j)
  sub : ∀ x ∈ MD, x ∈ M ∨ w0.heap.size ≤ x
  ids : w.ownsRow 0 3 1 v12 S.heldIds.length (S.heldIds.map (Value.int .i64))
  row : w.ownsRow 0 3 1 v3 wrote.length (wrote.map (Value.int .i64))
  own : Only M w0 w
  new : ∀ x, v3.ownBlock = some x → w0.heap.size ≤ x
  apart : ∀ x, v3.ownBlock = some x → v12.ownBlock ≠ some x
theorem OutAt.past {w0 : World} {s : DS} {v3 v12 : Value} {wrote : List Int} {j : Nat} (h : OutAt w0 w p d ub hm pm asked k M MD L S s v3 v12 wrote j) (hO : Only [] w w') : OutAt w0 w' p d ub hm pm asked k M MD L S s v3 v12 wrote j :=
  ⟨h.at_.past2 hO, h.ok, h.sub, owns_past h.ids hO, owns_past h.row hO, h.own.trans hO (by simp), h.new, h.apart⟩
/-- Behind Flush: those that were written are clean. -/
def cleanF (ids : List Int) (f : Fr) : Fr := if (f.id : Int) ∈ ids then { f with lsn := 0, dirty := false } else f
theorem cleanF_id (ids : List Int) (f : Fr) : (cleanF ids f).id = f.id := by unfold cleanF; split <;> rfl
theorem cleanF_b (ids : List Int) (f : Fr) : (cleanF ids f).b = f.b := by unfold cleanF; split <;> rfl
theorem cleanF_nil (f : Fr) : cleanF [] f = f := by unfold cleanF; rw [if_neg (by simp)]
def PS.flushed (S : PS) : PS := { S with d := (S.outs S.heldIds).changed.synced, held := S.held.map (cleanF (S.heldIds.filter S.goes)) }
theorem map_ids (H : List Fr) (ids : List Int) : (H.map (cleanF ids)).map (·.id) = H.map (·.id) := by
  rw [List.map_map]
  apply List.map_congr_left
  intro x _
  exact cleanF_id ids x
/-- One more is clean. -/
theorem clean_step {H : List Fr} (hn : (H.map (·.id)).Nodup) {f : Fr} (hf : f ∈ H) (ids : List Int) :
    (H.map (cleanF ids)).map (fun x => if x.id = f.id then ({ f with lsn := 0, dirty := false } : Fr) else x) = H.map (cleanF (ids ++ [(f.id : Int)])) := by
  rw [List.map_map]
  apply List.map_congr_left
  intro x hx
  show (if (cleanF ids x).id = f.id then _ else cleanF ids x) = _
  rw [cleanF_id]
  by_cases h : x.id = f.id
  · have e : x = f := same_of hn hx hf h
    subst e
    rw [if_pos rfl]
    unfold cleanF
    rw [if_pos (by simp)]
  · rw [if_neg h]
    unfold cleanF
    have h2 : ¬ ((x.id : Int) = (f.id : Int)) := fun e => h (Int.natCast_inj.1 e)
    by_cases h3 : (x.id : Int) ∈ ids
    · rw [if_pos h3, if_pos (by simp [h3])]
    · rw [if_neg h3, if_neg (by simp [h3, h2])]
theorem putOut_len (s : DS) (id : Int) : (S.putOut s id).now.length = s.now.length := by
  unfold PS.putOut
  split
  · show (s.now.set _ _).length = _; rw [List.length_set]
  · rfl
theorem fold_now (hr : S.first + S.used.length ≤ S.d.now.length) {id : Nat} (hid : id < S.used.length) : ∀ (ids : List Int) (s : DS), s.now.length = S.d.now.length → (∀ x ∈ ids, 0 ≤ x) →
    (ids.foldl S.putOut s).now.getD (S.first + id) [] = if (id : Int) ∈ ids ∧ S.goes id = true then S.page id else s.now.getD (S.first + id) []
  | [], s, _, _ => by rw [if_neg (by simp)]; rfl
  | x :: ids, s, hl, h0 => by
    rw [List.foldl_cons, fold_now hr hid ids (S.putOut s x) (by rw [putOut_len]; exact hl) (fun y hy => h0 y (by simp [hy]))]
    by_cases h1 : (id : Int) ∈ ids ∧ S.goes id = true
    · rw [if_pos h1, if_pos ⟨by simp [h1.1], h1.2⟩]
    · rw [if_neg h1]
      by_cases h2 : x = (id : Int)
      · subst h2
        by_cases h3 : S.goes id = true
        · rw [if_pos ⟨by simp, h3⟩]
          unfold PS.putOut
          rw [if_pos h3, Int.toNat_natCast]
          exact getD_set_self _ _ _ _ (by omega)
        · rw [if_neg (fun h => h3 h.2)]
          unfold PS.putOut
          rw [if_neg h3]
      · have e : (S.putOut s x).now.getD (S.first + id) [] = s.now.getD (S.first + id) [] := by
          unfold PS.putOut
          split
          · have := h0 x (by simp)
            exact getD_set_ne _ _ _ _ _ (by omega)
          · rfl
        rw [e]
        by_cases h3 : (id : Int) ∈ x :: ids ∧ S.goes id = true
        · exfalso
          rcases List.mem_cons.1 h3.1 with h4 | h4
          · exact h2 h4.symm
          · exact h1 ⟨h4, h3.2⟩
        · rw [if_neg h3]
theorem heldIds_nonneg : ∀ x ∈ S.heldIds, 0 ≤ x := fun x hx => by
  obtain ⟨f, _, e⟩ := heldIds_mem hx
  omega
theorem heldIds_in {f : Fr} (hf : f ∈ S.held) : (f.id : Int) ∈ S.heldIds := (rising_perm _).mem_iff.2 (List.mem_map_of_mem hf)
theorem goes_held {id : Int} (h : S.goes id = true) : id ∈ S.heldIds := by
  unfold PS.goes at h
  rw [List.any_eq_true] at h
  obtain ⟨f, hf, h2⟩ := h
  simp only [Bool.and_eq_true, decide_eq_true_eq] at h2
  rw [← h2.1]; exact heldIds_in hf
/-- What a sector has behind Flush. -/
theorem flushed_now (hf : S.Fine k) {id : Nat} (hid : id < S.used.length) : S.flushed.d.now.getD (S.first + id) [] = if S.goes id = true then S.page id else S.d.now.getD (S.first + id) [] := by
  have := fold_now hf.room hid S.heldIds S.d rfl heldIds_nonneg
  show (S.outs S.heldIds).now.getD _ _ = _
  unfold PS.outs
  rw [this]
  by_cases h : S.goes id = true
  · rw [if_pos ⟨goes_held h, h⟩, if_pos h]
  · rw [if_neg (fun h2 => h h2.2), if_neg h]
theorem PS.Fine.flushed (h : S.Fine k) {k' : Nat} (ho : OutOk S (S.outs S.heldIds) k') : S.flushed.Fine (k' + 1) where
  well := by have := ho.well.changed; exact ⟨this.1, this.2, this.3⟩
  room := by show S.first + S.used.length ≤ (S.outs S.heldIds).now.length; rw [ho.len]; exact h.room
  ids := fun f hf => by
    obtain ⟨x, hx, rfl⟩ := List.mem_map.1 hf
    rw [cleanF_id]; exact h.ids x hx
  len := fun f hf => by
    obtain ⟨x, hx, rfl⟩ := List.mem_map.1 hf
    rw [cleanF_b]; exact h.len x hx
  count0 := by show 0 ≤ (S.outs S.heldIds).count + 1; have := ho.c0; omega
  count := by show (S.outs S.heldIds).count + 1 ≤ _; have := ho.c; omega
  row := Nat.zero_le _
  once := by show ((S.held.map _).map _).Nodup; rw [map_ids]; exact h.once
  few := by show (S.held.map _).length ≤ S.frames; rw [List.length_map]; exact h.few
  frames := h.frames
  clean := fun f hf hd => by
    obtain ⟨x, hx, rfl⟩ := List.mem_map.1 hf
    rw [cleanF_id, cleanF_b]
    have e := flushed_now h (h.ids x hx)
    show S.flushed.d.now.getD (S.first + x.id) [] = _
    rw [e, goes_of h.once hx, PS.page_in h.once hx]
    by_cases hg : x.goes S.durable = true
    · rw [if_pos hg]
    · rw [if_neg hg]
      refine h.clean x hx ?_
      unfold cleanF at hd
      rw [if_neg (fun hm => hg (by have := (List.mem_filter.1 hm).2; rw [goes_of h.once hx] at this; exact this))] at hd
      exact hd
set_option maxRecDepth 100000 in
set_option maxHeartbeats 4000000 in
theorem Pool.flush (h : Pool w p d M S k) (hk : k ≤ 900000) :
    Calls Try.prog 21 #[.pointer (some ⟨p, 0, none⟩)] w fun e w' => e = .returned (.int .i64 0) ∧ ∃ M', Pool w' p d M' S.flushed (k + 65) ∧ Step M M' w w' := by
  have HP := Lib.hid h
  obtain ⟨MD, ub, hm, pm, asked, L, hA, g1, g2, g3, g4, g5, g6⟩ := h.at_
  have HA := Lib.hid hA
  have HF := Lib.hid h.fine
  have HM : Hid ((∀ x ∈ MD, x ∈ M) ∧ p ∈ M ∧ ub ∈ M ∧ hm ∈ M ∧ pm ∈ M ∧ (∀ l ∈ L, l.at_ ∈ M ∧ ∀ x, l.v.ownBlock = some x → x ∈ M)) := ⟨g1, g2, g3, g4, g5, g6⟩
  have HH := Lib.hid h.heldList
  have HL64 : Hid (S.heldIds.length ≤ 64) := by
    show _ ≤ _
    unfold PS.heldIds
    rw [rising_len, List.length_map]
    have := h.fine.few; have := h.fine.frames.2; omega
  clear h hA g1 g2 g3 g4 g5 g6
  go_enter Try.func21, Try.ntmps21
  go_wp2_with (go_at_call 16; refine HH.out.mono ?_; rintro e w1 ⟨v12, rfl, hr1⟩; obtain ⟨a12, c12, rfl⟩ : ∃ a c, v12 = .slice a S.heldIds.length c := (by rcases hr1.1.2 with ⟨h1, h2⟩ | ⟨g, cap, cur, h1, _⟩; exact ⟨none, 0, by rw [h1, h2]⟩; exact ⟨_, cap, h1⟩); have R1 := Lib.hid hr1; clear hr1)
  obtain ⟨ids, hids⟩ : ∃ ids, S.heldIds = ids := ⟨_, rfl⟩
  have HI := Lib.hid hids
  obtain ⟨n, hn⟩ : ∃ n, S.heldIds.length = n := ⟨_, rfl⟩
  have HN := Lib.hid hn
  have hn64 : n ≤ 64 := by rw [← hn]; exact HL64.out
  have OA0 : Hid (OutAt w w1 p d ub hm pm asked k M MD L S (S.outs (S.heldIds.take 0)) (.slice none 0 0) (.slice a12 n c12) ((S.heldIds.take 0).filter S.goes) 0) := by
    have hO := R1.out.2.2
    have hf := HF.out
    have hr := R1.out.1
    rw [hn] at hr
    refine ⟨HA.out.past2 hO, ⟨hf.well, hf.count0, hf.count, hf.row, rfl⟩, fun x hx => .inl (HM.out.1 x hx), by rw [hn]; exact hr, ⟨rfl, .inl ⟨rfl, rfl⟩⟩, hO.mono (by simp), fun x hx => (by cases hx), fun x hx => (by cases hx)⟩
  rw [hn]
  clear hids hn
  go_loopg [3, 14] n (fun gk s3 i wx => ∃ (j : Nat) (MDj : List Nat), gk = n - j ∧ j ≤ n ∧ i = .int .i64 j ∧ OutAt w wx p d ub hm pm asked k M MDj L S (S.outs (S.heldIds.take j)) s3 (.slice a12 n c12) ((S.heldIds.take j).filter S.goes) j)
  case atStart => exact ⟨0, MD, rfl, Nat.zero_le _, rfl, OA0.out⟩
  case round =>
    obtain ⟨j, MDj, hgk, hj, rfl, hOA⟩ := hrel
    have HGK := Lib.hid hgk
    have OA := Lib.hid hOA
    clear hgk hOA OA0
    by_cases hlt : j < n
    · obtain ⟨g12, rfl⟩ : ∃ g, a12 = some ⟨g, 0, none⟩ := by
        rcases OA.out.ids.2 with ⟨h1, h2⟩ | ⟨g, cap, cur, h1, _⟩
        · rw [HN.out] at h2; omega
        · simp only [Value.slice.injEq] at h1; exact ⟨g, h1.1⟩
      have hjl : j < S.heldIds.length := by rw [HN.out]; exact hlt
      obtain ⟨f, hfm, hfe⟩ := heldIds_mem (List.getElem_mem hjl)
      have cj : wr.cell? ⟨g12, j, none⟩ = some (.int .i64 f.id) := by
        have hr := OA.out.ids
        rw [HN.out] at hr
        rw [hr.cellAt j (by omega), List.getElem?_map, List.getElem?_eq_getElem hjl, hfe]; rfl
      obtain ⟨l, hl, rfl⟩ := List.mem_map.1 (show f ∈ L.map (·.f) by rw [HA.out.fst]; exact hfm)
      have FFj : Hid ((L.map (·.f.id)).Nodup) := HA.out.ids HF.out
      have ETK : Hid (S.heldIds.take (j + 1) = S.heldIds.take j ++ [(l.f.id : Int)]) := by
        show _ = _
        rw [List.take_succ_eq_append_getElem hjl, hfe]
      have hlk : (Instr.lookup 59 (.map (some hm)) (.int .i64 (l.f.id : Int)) false).run Try.prog wr = .ok (.pointer (some ⟨l.at_, 0, none⟩)) wr := by
        have := OA.out.at_.heldm.look Try.underlying59 Try.underlying3 (zero_ptr wr) (l.f.id : Int) false
        rw [look_held FFj.out hl] at this
        exact this
      have EG : Hid (S.goes (l.f.id : Int) = l.f.goes S.durable) := goes_of HF.out.once hfm
      have EP : Hid (S.page l.f.id = l.f.b) := PS.page_in HF.out.once hfm
      have c4 := OA.out.at_.pool.cell 4
      have c6 := OA.out.at_.pool.cell 6
      have b1 := (OA.out.at_.frame l hl).1.cell 1
      have b2 := (OA.out.at_.frame l hl).1.cell 2
      simp only [poolCells, frameCells, List.getElem?_cons_succ, List.getElem?_cons_zero] at c4 c6 b1 b2
      have C6 := Later.cell c6
      have B1 := Later.cell b1
      have B2 := Later.cell b2
      have HL := Lib.hid hl
      have HFM := Lib.hid hfm
      have HID := Lib.hid (HF.out.ids _ hfm)
      clear b1 b2 c6 hl hfm hfe hjl
      obtain ⟨la, lv, lt, ⟨li, lb, ln, ld⟩⟩ := l
      simp only at *
      have hji : (j : Int) < n := by omega
      have hj0 : (0 : Int) ≤ j := by omega
      obtain ⟨du, hdu⟩ : ∃ du, S.durable = du := ⟨_, rfl⟩
      have HDU := Lib.hid hdu
      rw [hdu] at C6
      clear hdu
      by_cases hgo : ld = true ∧ ln ≤ du
      · have EYG : Hid (S.goes (li : Int) = true) := by
          show _ = _
          rw [EG.out, HDU.out]
          unfold Fr.goes
          simp [hgo.1, hgo.2]
        obtain ⟨rfl, hle⟩ := hgo
        have hst : decide (du < ln) = false := by simp; omega
        have e1 : Hid (S.outs (S.heldIds.take (j + 1)) = (S.outs (S.heldIds.take j)).lay (S.first + li) lb) := by
          show _ = _
          rw [ETK.out, PS.outs_snoc]
          unfold PS.putOut
          rw [if_pos EYG.out, Int.toNat_natCast, EP.out]
        have e2 : Hid ((S.heldIds.take (j + 1)).filter S.goes = (S.heldIds.take j).filter S.goes ++ [(li : Int)]) := by
          show _ = _
          rw [ETK.out, List.filter_append]
          simp [EYG.out]
        have hrm := HF.out.room
        have hok := OA.out.ok
        have hnl := OA.out.at_.disk.len.2
        have WR : Hid (∀ w1, Only [] wr w1 → Calls Try.prog 13 #[.pointer (some ⟨d, 0, none⟩), .int .i64 ((S.first : Int) + li), lv] w1 fun e w' => e = .returned (.int .i64 0) ∧ ∃ M', Disk w' d M' ((S.outs (S.heldIds.take j)).lay (S.first + li) lb) ∧ Step MDj M' w1 w') := fun w1 hO => by
          have hD := OA.out.at_.disk.past hO
          have hr := (OA.out.at_.frame _ HL.out).2
          have := hD.write' (i := ((S.first + li : Nat) : Int)) (write_ok hok.well.err (by have h1 := hok.len; have h2 := HID.out; show S.first + li < (S.outs (S.heldIds.take j)).now.length; omega) (HF.out.len _ HFM.out)) hok.c0 (by have := hok.c; show (S.outs (S.heldIds.take j)).count ≤ _; omega) (by have := hok.r; show (S.outs (S.heldIds.take j)).row.length ≤ _; omega) (hr.off hO (Off.nil _ _)).at (fun a n c hv => by
            subst hv
            intro hin
            obtain ⟨cs, hb⟩ := owns_own (hr.off hO (Off.nil _ _)) (k := a.block) rfl
            exact hD.off (e := 5) (by decide) (by decide) (by decide) _ hin _ hb)
          rw [show ((S.first + li : Nat) : Int) = (S.first : Int) + li by omega] at this
          exact this
        have c0 := OA.out.at_.pool.cell 0
        have c1 := OA.out.at_.pool.cell 1
        have b0 := (OA.out.at_.frame _ HL.out).1.cell 0
        simp only [poolCells, frameCells, List.getElem?_cons_succ, List.getElem?_cons_zero] at c0 c1 b0
        obtain ⟨fi, hfi⟩ : ∃ fi, S.first = fi := ⟨_, rfl⟩
        have HFI := Lib.hid hfi
        rw [hfi] at c1 WR
        have hib : (fi : Int) + li ≤ 65536 := by have h1 := hok.len; have h2 := HID.out; have h3 : (S.outs (S.heldIds.take j)).now.length ≤ 65536 := hnl; omega
        have ew : IntKind.i64.wrap ((fi : Int) + li) = (fi : Int) + li := IntWalk.i64_in _ (by omega)
        clear hfi hrm hok hnl hle
        have one : ∀ x, Aside wr [x] → x ∉ MDj := fun x hx hm => hx.apart OA.out.at_.disk x hm (by simp)
        have aM : Hid (p ∉ MDj ∧ la ∉ MDj) := ⟨one p (fun x hx => by simp at hx; subst hx; exact .inl ⟨_, OA.out.at_.pool⟩), one la (fun x hx => by simp at hx; subst hx; exact .inr (.inl ⟨_, (OA.out.at_.frame _ HL.out).1⟩))⟩
        clear one
        go_wp2_with fail
        refine wp_region_later (Only.refl _ _) (by kernel_rfl) (by kernel_rfl) ?_
        repeat (go_big_quiet_step (fail))
        refine wpQuiet_nil ?_
        rintro _ ⟨xq, rfl⟩
        have c0q := xq.h.cell c0 (by simp)
        have c1q := xq.h.cell c1 (by simp)
        have b0q := xq.h.cell b0 (by simp)
        have OQ := Lib.hid xq.h
        clear c0 c1 b0 C6 B1 B2 hlk c4 cj
        generalize xq.v = wq at *
        have OQD : Hid (Only [] wr wq.drew) := OQ.out.drew
        go_wp2_with fail
        go_region_held3 (fun w' => w'.cell? ⟨p, 0, none⟩ = some (.pointer (some ⟨d, 0, none⟩)) ∧ w'.cell? ⟨p, 1, none⟩ = some (.int .i64 fi) ∧ w'.cell? ⟨la, 0, none⟩ = some lv) (first | go_keep | exact hKEEP)
          ((go_at_call 13; refine (WR.out _ OQD.out).mono ?_; rintro e w5 ⟨rfl, M5, hD5, hS5⟩; have hKEEP := And.intro (hS5.1.cell (p := ⟨p, 0, none⟩) c0q aM.out.1) (And.intro (hS5.1.cell (p := ⟨p, 1, none⟩) c1q aM.out.1) (hS5.1.cell (p := ⟨la, 0, none⟩) b0q aM.out.2))))
        have OA5 : Hid (OutAt w w5 p d ub hm pm asked k M M5 L S (S.outs (S.heldIds.take (j + 1))) u3 (.slice (some ⟨g12, 0, none⟩) n c12) ((S.heldIds.take j).filter S.goes) (j + 1)) := by
          have h := OA.out.past OQD.out
          have hoff : Off 3 wq.drew MDj := h.at_.disk.off (by decide) (by decide) (by decide)
          refine ⟨?_, ?_, fun x hx => ?_, owns_off h.ids hS5.1 hoff, owns_off h.row hS5.1 hoff, h.own.trans hS5.1 (fun x hx => h.sub x hx), h.new, h.apart⟩
          · have hD : Disk w5 d M5 ((S.outs (S.heldIds.take j)).lay (S.first + li) lb) := by rw [HFI.out]; exact hD5
            rw [e1.out]
            exact h.at_.step hD hS5
          · rw [e1.out]; exact h.ok.lay _ _
          · rcases hS5.2 x hx with h1 | h1
            · exact h.sub x h1
            · right; have := h.own.size; omega
        clear hD5 hS5 hKEEP c0q c1q b0q ew
        have HWL : Hid (((S.heldIds.take j).filter S.goes).length ≤ 64) := by
          show _ ≤ _
          have h1 := List.length_filter_le S.goes (S.heldIds.take j)
          rw [List.length_take] at h1
          omega
        go_wp2_with (refine wpList_push rfl (.tmp 58) (.tmp 60) 39 rfl 3 Try.underlying39 (info_parts info_int) rfl u3 _ _ rfl (owns_past OA5.out.row ((Only.refl _ _).alloc (.cells #[.int .i64 li] 3))) _ _ _ rfl (by exact (Blk.new _ _ _).cell 0) rfl (by have := HWL.out; omega) (by decide) ?_; intro g7 cp7 w7 hown7 hO7 hat7 hg7)
        have OA7 : Hid (OutAt w w7 p d ub hm pm asked k M M5 L S (S.outs (S.heldIds.take (j + 1))) (.slice (some ⟨g7, 0, none⟩) (((S.heldIds.take j).filter S.goes).length + 1) cp7) (.slice (some ⟨g12, 0, none⟩) n c12) ((S.heldIds.take (j + 1)).filter S.goes) (j + 1)) := by
          have h := OA5.out.past ((Only.refl [] w5).alloc (.cells #[.int .i64 li] 3))
          have hint : ∀ x ∈ (u3 : Value).ownBlock.toList, ∃ cs, Blk (w5.alloc (.cells #[.int .i64 li] 3)) x cs 3 := fun x hx => owns_own h.row (by simpa using hx)
          have off1 : ∀ {b : Nat} {cs : List Value} {e : TypeId}, Blk (w5.alloc (.cells #[.int .i64 li] 3)) b cs e → 3 ≠ e → b ∉ (u3 : Value).ownBlock.toList := fun hb hne hx => by
            obtain ⟨cs', hb'⟩ := hint _ hx
            exact hb'.ne hb hne rfl
          have off2 : ∀ {b : Nat} {q m}, MapAt (w5.alloc (.cells #[.int .i64 li] 3)) b q m → b ∉ (u3 : Value).ownBlock.toList := fun hb hx => by
            obtain ⟨cs', hb'⟩ := hint _ hx
            exact hb.ne hb' rfl
          refine ⟨h.at_.later hO7 (h.at_.disk.later hO7 (owns_foot h.row (by decide)) (fun x hx hu => ?_)) (off1 h.at_.pool (by decide)) (off1 h.at_.used (by decide)) (off2 h.at_.heldm) (off2 h.at_.pins) (fun y hy => ⟨off1 (h.at_.frame y hy).1 (by decide), fun x hx hu => ?_⟩), h.ok, h.sub, owns_later h.ids hO7 (fun x hx hu => h.apart x (by simpa using hu) hx), ?_, h.own.trans hO7 (fun x hx => .inr (h.new x (by simpa using hx))), fun x hx => ?_, fun x hx e => ?_⟩
          · obtain ⟨cs', hb'⟩ := hint _ hu
            exact h.at_.disk.off (e := 3) (by decide) (by decide) (by decide) x hx _ hb'
          · obtain ⟨cs', hb'⟩ := hint _ hu
            obtain ⟨cs2, hb2⟩ := owns_own (h.at_.frame y hy).2 hx
            exact hb'.ne hb2 (by decide) rfl
          · rw [e2.out]
            have := hown7
            simpa using this
          · simp only [Value.ownBlock, Option.some.injEq] at hx
            subst hx
            rcases hat7 with h1 | h1
            · exact h.new _ h1
            · have := OA5.out.own.size; rw [h1, World.size_alloc]; omega
          · simp only [Value.ownBlock, Option.some.injEq] at hx
            subst hx
            rcases hat7 with h1 | h1
            · exact h.apart _ h1 e
            · have := owns_lt h.ids e; rw [h1] at this; omega
        clear hown7 hO7 hat7 hg7
        go_wp2_with fail
        go_roundg (n - (j + 1))
        case measure => have := HGK.out; omega
        case rel => exact ⟨j + 1, M5, rfl, by omega, by go_num, by have := OA7.out; exact this⟩
      · have ENG : Hid (S.goes (li : Int) = false) := by
          show _ = _
          rw [EG.out, HDU.out]
          unfold Fr.goes
          cases ld with
          | false => rfl
          | true => simp at hgo ⊢; omega
        have STAY : Hid (OutAt w wr p d ub hm pm asked k M MDj L S (S.outs (S.heldIds.take (j + 1))) u3 (.slice (some ⟨g12, 0, none⟩) n c12) ((S.heldIds.take (j + 1)).filter S.goes) (j + 1)) := by
          have e1 : S.outs (S.heldIds.take (j + 1)) = S.outs (S.heldIds.take j) := by
            rw [ETK.out, PS.outs_snoc]
            unfold PS.putOut
            rw [if_neg (by rw [ENG.out]; simp)]
          have e2 : (S.heldIds.take (j + 1)).filter S.goes = (S.heldIds.take j).filter S.goes := by
            rw [ETK.out, List.filter_append]
            simp [ENG.out]
          have h := OA.out
          rw [e1, e2]
          exact ⟨h.at_, h.ok.more, h.sub, h.ids, h.row, h.own, h.new, h.apart⟩
        cases ld with
        | false =>
          clear hgo
          go_wp2_with fail
          refine wp_region_later (Only.refl _ _) (by kernel_rfl) (by kernel_rfl) ?_
          repeat (go_big_quiet_step (fail))
          refine wpQuiet_nil ?_
          rintro _ ⟨xq, rfl⟩
          go_wp2_with fail
          go_roundg (n - (j + 1))
          case measure => have := HGK.out; omega
          case rel => exact ⟨j + 1, MDj, rfl, by omega, by go_num, STAY.out.past xq.h⟩
        | true =>
          have hst : decide (du < ln) = true := by simp at hgo ⊢; omega
          clear hgo
          go_wp2_with fail
          refine wp_region_later (Only.refl _ _) (by kernel_rfl) (by kernel_rfl) ?_
          repeat (go_big_quiet_step (fail))
          refine wpQuiet_nil ?_
          rintro _ ⟨xq, rfl⟩
          go_wp2_with fail
          go_roundg (n - (j + 1))
          case measure => have := HGK.out; omega
          case rel => exact ⟨j + 1, MDj, rfl, by omega, by go_num, STAY.out.past xq.h⟩
    · obtain rfl : j = n := by omega
      have hji : ¬ (j : Int) < j := by omega
      have hall : S.heldIds.take j = S.heldIds := List.take_of_length_le (by rw [HN.out]; exact Nat.le_refl _)
      rw [hall] at OA
      clear hall
      obtain ⟨a3, c3, rfl⟩ := owns_intform OA.out.row
      have c0 := OA.out.at_.pool.cell 0
      simp only [poolCells, List.getElem?_cons_succ, List.getElem?_cons_zero] at c0
      have SY : Hid (Calls Try.prog 33 #[.pointer (some ⟨d, 0, none⟩)] wr fun e w' => e = .returned (.int .i64 0) ∧ ∃ M', Disk w' d M' (S.outs S.heldIds).changed.synced ∧ Step MDj M' wr w') :=
        OA.out.at_.disk.sync' (sync_ok OA.out.ok.well.err) OA.out.ok.c0 (by have := OA.out.ok.c; show (S.outs S.heldIds).count ≤ _; omega) (by have := OA.out.ok.r; show (S.outs S.heldIds).row.length ≤ _; omega)
      obtain ⟨wl, hwl⟩ : ∃ wl, (S.heldIds.filter S.goes).length = wl := ⟨_, rfl⟩
      have HWL := Lib.hid hwl
      have hwl64 : wl ≤ 64 := by rw [← hwl]; exact Nat.le_trans (List.length_filter_le _ _) HL64.out
      rw [hwl]
      clear hwl
      go_wp2_with (go_at_call 33; refine SY.out.mono ?_; rintro e w5 ⟨rfl, M5, hD5, hS5⟩; have D5 := Lib.hid hD5; have S5 := Lib.hid hS5; clear hD5 hS5)
      have A5 : Hid (PoolAt w5 p d M5 ub hm pm asked L { S with d := (S.outs S.heldIds).changed.synced, held := S.held.map (cleanF ((S.heldIds.filter S.goes).take 0)) } k) := by
        have := OA.out.at_.step D5.out S5.out
        have e : S.held.map (cleanF ((S.heldIds.filter S.goes).take 0)) = S.held := by
          rw [List.take_zero]
          conv => rhs; rw [← List.map_id S.held]
          apply List.map_congr_left
          intro x _
          exact cleanF_nil x
        rw [e]; exact this
      have hoff : Off 3 wr MDj := OA.out.at_.disk.off (by decide) (by decide) (by decide)
      have R5 : Hid (w5.ownsRow 0 3 1 (.slice a3 (S.heldIds.filter S.goes).length c3) (S.heldIds.filter S.goes).length ((S.heldIds.filter S.goes).map (Value.int .i64))) := owns_off OA.out.row S5.out.1 hoff
      have O5 : Hid (Only M w w5) := OA.out.own.trans S5.out.1 (fun x hx => OA.out.sub x hx)
      have M5' : Hid (∀ x ∈ M5, x ∈ M ∨ w.heap.size ≤ x) := fun x hx => by
        rcases S5.out.2 x hx with h1 | h1
        · exact OA.out.sub x h1
        · right; have := OA.out.own.size; omega
      have FN : Hid (S.flushed.Fine (k + j + 1)) := HF.out.flushed OA.out.ok
      clear hoff c0 SY
      rw [HWL.out] at R5
      go_loopg [73] wl (fun gq x wy => ∃ (q : Nat) (L' : List Pl), gq = wl - q ∧ q ≤ wl ∧ x = .int .i64 q ∧ PoolAt wy p d M5 ub hm pm asked L' { S with d := (S.outs S.heldIds).changed.synced, held := S.held.map (cleanF ((S.heldIds.filter S.goes).take q)) } k ∧ Only M w wy ∧ wy.ownsRow 0 3 1 (.slice a3 wl c3) wl ((S.heldIds.filter S.goes).map (Value.int .i64)) ∧ ∀ l ∈ L', l.at_ ∈ M ∧ ∀ x, l.v.ownBlock = some x → x ∈ M)
      case atStart => exact ⟨0, L, rfl, Nat.zero_le _, rfl, A5.out, O5.out, R5.out, HM.out.2.2.2.2.2⟩
      case round =>
        obtain ⟨q, L', hgq, hq, rfl, hA', hO', hR', hM'⟩ := hrel
        rename World => wy
        have HGQ := Lib.hid hgq
        have AA := Lib.hid hA'
        have OO := Lib.hid hO'
        have RR := Lib.hid hR'
        have MM := Lib.hid hM'
        clear hgq hA' hO' hR' hM' A5 R5
        by_cases hqw : q < wl
        · obtain ⟨g3, rfl⟩ : ∃ g, a3 = some ⟨g, 0, none⟩ := by
            rcases RR.out.2 with ⟨h1, h2⟩ | ⟨g, cap, cur, h1, _⟩
            · omega
            · simp only [Value.slice.injEq] at h1; exact ⟨g, h1.1⟩
          have hql : q < (S.heldIds.filter S.goes).length := by rw [HWL.out]; exact hqw
          obtain ⟨f, hfm, hfe⟩ := heldIds_mem (List.mem_filter.1 (List.getElem_mem hql)).1
          have cq : wy.cell? ⟨g3, q, none⟩ = some (.int .i64 f.id) := by
            rw [RR.out.cellAt q (by omega), List.getElem?_map, List.getElem?_eq_getElem hql, hfe]; rfl
          have ETK : Hid ((S.heldIds.filter S.goes).take (q + 1) = (S.heldIds.filter S.goes).take q ++ [(f.id : Int)]) := by
            show _ = _
            rw [List.take_succ_eq_append_getElem hql, hfe]
          have hin : cleanF ((S.heldIds.filter S.goes).take q) f ∈ L'.map (·.f) := by rw [AA.out.fst]; exact List.mem_map_of_mem hfm
          obtain ⟨l, hl, hlf⟩ := List.mem_map.1 hin
          have hlid : l.f.id = f.id := by rw [hlf, cleanF_id]
          have hnd : (L'.map (·.f.id)).Nodup := by
            have e : L'.map (·.f.id) = (L'.map (·.f)).map (·.id) := by rw [List.map_map]; rfl
            rw [e, AA.out.fst]
            show ((S.held.map _).map _).Nodup
            rw [map_ids]; exact HF.out.once
          have hlk : (Instr.lookup 59 (.map (some hm)) (.int .i64 (f.id : Int)) false).run Try.prog wy.drew = .ok (.pointer (some ⟨l.at_, 0, none⟩)) wy.drew := by
            have := (AA.out.heldm.past ((Only.refl [] wy).drew)).look Try.underlying59 Try.underlying3 (zero_ptr wy.drew) (f.id : Int) false
            rw [← hlid, look_held hnd hl] at this
            rw [← hlid]
            exact this
          have c4 := AA.out.pool.cell 4
          have b1 := (AA.out.frame l hl).1.cell 1
          have b2 := (AA.out.frame l hl).1.cell 2
          have f1 := (AA.out.frame l hl).1.frozen 1
          have f2 := (AA.out.frame l hl).1.frozen 2
          simp only [poolCells, frameCells, List.getElem?_cons_succ, List.getElem?_cons_zero] at c4 b1 b2
          have fin : ∀ w2, Only [p, l.at_] wy w2 → Blk w2 p (poolCells d ub hm pm asked { S with d := (S.outs S.heldIds).changed.synced, held := S.held.map (cleanF ((S.heldIds.filter S.goes).take q)) }) 62 → Blk w2 l.at_ [l.v, .int .u64 0, .bool false, .int .i64 l.last] 70 → ∃ L2, PoolAt w2 p d M5 ub hm pm asked L2 { S with d := (S.outs S.heldIds).changed.synced, held := S.held.map (cleanF ((S.heldIds.filter S.goes).take (q + 1))) } k ∧ Only M w w2 ∧ w2.ownsRow 0 3 1 (.slice (some ⟨g3, 0, none⟩) wl c3) wl ((S.heldIds.filter S.goes).map (Value.int .i64)) ∧ ∀ l ∈ L2, l.at_ ∈ M ∧ ∀ x, l.v.ownBlock = some x → x ∈ M := by
            intro w2 hO hp hb
            have hX : Aside wy [p, l.at_] := fun x hx => by
              simp at hx
              rcases hx with rfl | rfl
              · exact .inl ⟨_, AA.out.pool⟩
              · exact .inr (.inl ⟨_, (AA.out.frame l hl).1⟩)
            have key := AA.out.put hnd hl (g := ⟨l.at_, l.v, l.last, ⟨l.f.id, l.f.b, 0, false⟩⟩) rfl rfl (Nat.le_refl k) AA.out.asked (AA.out.last l hl) hO hp (by simpa [frameCells] using hb) (hX.row (AA.out.frame l hl).2 hO)
            refine ⟨_, key.to ?_, OO.out.trans hO (fun x hx => ?_), owns_off RR.out hO (hX.off (by decide) (by decide) (by decide)), fun x hx => ?_⟩
            · have e := clean_step HF.out.once hfm ((S.heldIds.filter S.goes).take q)
              rw [ETK.out, ← e]
              unfold PS.setF
              have hlb : l.f.b = f.b := by rw [hlf, cleanF_b]
              simp only [hlid, hlb]
            · simp at hx
              rcases hx with rfl | rfl
              · exact .inl HM.out.2.1
              · exact .inl (MM.out l hl).1
            · rcases putF_mem hx with rfl | ⟨hx, _⟩
              · exact MM.out l hl
              · exact MM.out x hx
          have FIN := Lib.hid fin
          have HPB := Lib.hid AA.out.pool
          have HFB : Hid (Blk wy l.at_ (frameCells l) 70) := (AA.out.frame l hl).1
          have hne := ((AA.out.poolNe.2.2.2.2.2) l hl).1
          have HNE := Lib.hid hne
          clear fin hne hin hlf hnd hfm hfe hql hl hlid
          obtain ⟨la, lv, lt, ⟨li, lb, ln, ld⟩⟩ := l
          simp only [frameCells] at *
          have hqi : (q : Int) < wl := by omega
          have hq0 : (0 : Int) ≤ q := by omega
          go_wp2_with fail
          go_region
          all_goals
            go_wp2_with fail
            go_roundg (wl - (q + 1))
            case measure => have := HGQ.out; omega
            case rel =>
              have hpA := ((HPB.out.drew).far (a := ⟨la, 2, none⟩) (.bool false) (Ne.symm HNE.out)).far (a := ⟨la, 1, none⟩) (.int .u64 0) (Ne.symm HNE.out)
              have hpB := ((HPB.out.drew).far (a := ⟨la, 1, none⟩) (.int .u64 0) (Ne.symm HNE.out)).far (a := ⟨la, 2, none⟩) (.bool false) (Ne.symm HNE.out)
              obtain ⟨LA, a1, a2, a3, a4⟩ := FIN.out ((wy.drew.setCell ⟨la, 2, none⟩ (.bool false)).setCell ⟨la, 1, none⟩ (.int .u64 0)) ((((Only.refl [p, la] wy).drew).setCell (.inl (by simp)) _).setCell (.inl (by simp)) _) hpA (((HFB.out.drew.set 2 (.bool false)).set 1 (.int .u64 0)).to (by simp))
              obtain ⟨LB, b1, b2, b3, b4⟩ := FIN.out ((wy.drew.setCell ⟨la, 1, none⟩ (.int .u64 0)).setCell ⟨la, 2, none⟩ (.bool false)) ((((Only.refl [p, la] wy).drew).setCell (.inl (by simp)) _).setCell (.inl (by simp)) _) hpB (((HFB.out.drew.set 1 (.int .u64 0)).set 2 (.bool false)).to (by simp))
              first
              | exact ⟨q + 1, LA, rfl, by omega, by go_num, a1, a2, a3, a4⟩
              | exact ⟨q + 1, LB, rfl, by omega, by go_num, b1, b2, b3, b4⟩
        · obtain rfl : q = wl := by omega
          have hqi : ¬ (q : Int) < q := by omega
          have hwa : (S.heldIds.filter S.goes).take q = S.heldIds.filter S.goes := List.take_of_length_le (by rw [HWL.out]; exact Nat.le_refl _)
          rw [hwa] at AA
          clear hwa
          go_wp2_with fail
          go_ret
          obtain ⟨M', hP, hS⟩ := Pool.ofAt HP.out.lt OO.out ((AA.out.to (S' := S.flushed) rfl).up (show k ≤ k + j + 1 by omega)) FN.out M5'.out HM.out.2.1 (.inl HM.out.2.2.1) (.inl HM.out.2.2.2.1) (.inl HM.out.2.2.2.2.1) (fun l hl => ⟨.inl (MM.out l hl).1, fun x hx => .inl ((MM.out l hl).2 x hx)⟩)
          exact ⟨rfl, M', hP.more (by omega), hS⟩
end Go.Proofs.Ytmgifohjoakdjaa.P
