/-
  The pool's holds, by its contract.
-/
import Derived.Test.YtmgifohjoakdjaaPoolE
namespace Go.Proofs.Ytmgifohjoakdjaa.P
set_option linter.unusedSimpArgs false
open Go Go.RowKit Go.Proofs.Ytmgifohjoakdjaa Go.Proofs.Ytmgifohjoakdjaa.D Go.Proofs.Ytmgifohjoakdjaa.B
set_option linter.unusedVariables false
variable {w w' : World} {p d ub hm pm asked k : Nat} {MD M : List Nat} {L : List Pl} {S : PS}

/-- What holds may have done, and told. -/
inductive Holds (S : PS) (id : Nat) : Int → PS → Prop
  | held (f : Fr) (hf : f ∈ S.held) (hi : f.id = id) : Holds S id 0 S
  | full (hi : ∀ f ∈ S.held, f.id ≠ id) (h : Frees S 52 S) : Holds S id 52 S
  | more (hi : ∀ f ∈ S.held, f.id ≠ id) {S1 : PS} (h : Frees S 0 S1) : Holds S id 0 { S1 with held := S1.held ++ [⟨id, S.page id, 0, false⟩] }
/-- What it tells: the page's frame, or none. -/
def HeldAt (w : World) (pv : Value) (r : Int) (b : List UInt8) : Prop := (r = 0 ∧ ∃ la v, pv = .pointer (some ⟨la, 0, none⟩) ∧ w.cell? ⟨la, 0, none⟩ = some v ∧ ByteRow 5 w v b) ∨ (r ≠ 0 ∧ pv = .pointer none)
theorem Frees.now {r : Int} {S1 : PS} (h : Frees S r S1) {id : Nat} (hi : ∀ f ∈ S.held, f.id ≠ id) : S1.d.now.getD (S1.first + id) [] = S.d.now.getD (S.first + id) [] := by
  cases h with
  | room => rfl
  | none => rfl
  | one h f hf hr =>
    unfold PS.giveUp
    cases f.dirty with
    | false => rfl
    | true =>
      show (S.d.now.set (S.first + f.id) f.b).getD (S.first + id) [] = _
      have := hi f hf
      exact getD_set_ne _ _ _ _ _ (by omega)
theorem read_in {s : DS} (hw : Well s) {i : Nat} (h : i < s.now.length) : s.read (i : Int) = (s.now.getD i [], 0) := by
  unfold DS.read
  rw [hw.down, if_neg (by simp), if_neg (by omega)]
  simp
set_option maxRecDepth 100000 in
set_option maxHeartbeats 4000000 in
theorem holds_any (h : Pool w p d M S k) (hk : k ≤ 1000000) (id : Nat) (hid : id < S.used.length) :
    Calls Try.prog 28 #[.pointer (some ⟨p, 0, none⟩), .int .i64 id] w fun e w' => ∃ pv r S' M', e = .returned (.tuple #[pv, .int .i64 r]) ∧ Holds S id r S' ∧ HeldAt w' pv r (S.page id) ∧ Pool w' p d M' S' (k + 2) ∧ Step M M' w w' := by
  have HP := Lib.hid h
  obtain ⟨MD, ub, hm, pm, asked, L, hA, hm1, hm2, hm3, hm4, hm5, hm6⟩ := h.at_
  have HA := Lib.hid hA
  have HF := Lib.hid h.fine
  have HM : Hid ((∀ x ∈ MD, x ∈ M) ∧ p ∈ M ∧ ub ∈ M ∧ hm ∈ M ∧ pm ∈ M ∧ (∀ l ∈ L, l.at_ ∈ M ∧ ∀ x, l.v.ownBlock = some x → x ∈ M)) := ⟨hm1, hm2, hm3, hm4, hm5, hm6⟩
  have HID := Lib.hid hid
  have c4 := hA.pool.cell 4
  simp only [poolCells, List.getElem?_cons_succ, List.getElem?_cons_zero] at c4
  clear hm1 hm2 hm3 hm4 hm5 hm6
  by_cases hheld : ∃ l ∈ L, l.f.id = id
  · obtain ⟨l, hl, rfl⟩ := hheld
    have hlk := hA.lookHeld HF.out hl (Only.refl [] w) true
    simp only [if_true] at hlk
    have HL := Lib.hid hl
    clear hl hA h hid
    obtain ⟨la, lv, lt, ⟨li, lb, ln, ld⟩⟩ := l
    simp only at *
    go_enter Try.func28, Try.ntmps28
    go_wp2_with (go_at_call 36; refine (touches_any HA.out HF.out (by omega) HL.out).mono ?_; rintro e w3 ⟨rfl, hA3, hO3⟩; have A3 := Lib.hid hA3; have O3 := Lib.hid hO3; clear hA3 hO3)
    go_ret2
    have hmem : (⟨li, lb, ln, ld⟩ : Fr) ∈ S.held := by rw [← HA.out.fst]; exact List.mem_map_of_mem HL.out
    have hO : Only M w w3 := O3.out.mono (fun x hx => by
      simp at hx
      rcases hx with rfl | rfl
      · exact .inl HM.out.2.1
      · exact .inl (HM.out.2.2.2.2.2 _ HL.out).1)
    obtain ⟨M', hP, hS⟩ := Pool.ofAt HP.out.lt hO A3.out (HF.out.more (Nat.le_succ _)) (fun x hx => .inl (HM.out.1 x hx)) HM.out.2.1 (.inl HM.out.2.2.1) (.inl HM.out.2.2.2.1) (.inl HM.out.2.2.2.2.1) (fun x hx => by
      rcases putF_mem hx with rfl | ⟨hx, _⟩
      · exact ⟨.inl (HM.out.2.2.2.2.2 _ HL.out).1, fun y hy => .inl ((HM.out.2.2.2.2.2 _ HL.out).2 y hy)⟩
      · exact ⟨.inl (HM.out.2.2.2.2.2 _ hx).1, fun y hy => .inl ((HM.out.2.2.2.2.2 _ hx).2 y hy)⟩)
    have hfr := A3.out.frame ⟨la, lv, asked + 1, ⟨li, lb, ln, ld⟩⟩ (putF_in HL.out rfl)
    refine ⟨_, _, S, M', rfl, .held _ hmem rfl, .inl ⟨rfl, la, lv, rfl, ?_, ?_⟩, hP.more (Nat.le_succ _), hS⟩
    · have := hfr.1.cell 0
      simpa [frameCells] using this
    · rw [show S.page li = lb from PS.page_in HF.out.once hmem]
      exact hfr.2
  · have hno : ∀ l ∈ L, l.f.id ≠ id := fun l hl e => hheld ⟨l, hl, e⟩
    have hlk : (Instr.lookup 59 (.map (some hm)) (.int .i64 (id : Int)) true).run Try.prog w = .ok (.tuple #[.pointer none, .bool false]) w := by
      have := hA.heldm.look Try.underlying59 Try.underlying3 (zero_ptr w) (id : Int) true
      rw [look_nowhere hno] at this
      exact this
    have HNO : Hid (∀ f ∈ S.held, f.id ≠ id) := fun f hf => by
      rw [← HA.out.fst] at hf
      obtain ⟨l, hl, rfl⟩ := List.mem_map.1 hf
      exact hno l hl
    have hrm := HF.out.room
    have hnl := hA.disk.len.2
    have PG : Hid (S.page id = S.d.now.getD (S.first + id) []) := PS.page_out HNO.out
    have PL : Hid ((S.page id).length = 512) := by
      show _ = _
      rw [PG.out]
      exact hA.disk.secLen.1 _ (by omega)
    have c0 := hA.pool.cell 0
    have c1 := hA.pool.cell 1
    simp only [poolCells, frameCells, List.getElem?_cons_succ, List.getElem?_cons_zero] at c0 c1
    have RD : Hid (∀ w1, Only [] w w1 → Calls Try.prog 23 #[.pointer (some ⟨d, 0, none⟩), .int .i64 ((S.first : Int) + id)] w1 fun e w' => ∃ v, e = .returned (.tuple #[v, .int .i64 0]) ∧ Fresh w1 w' v (S.page id) ∧ Only [] w1 w') := fun w1 hO => by
      have hD := HA.out.disk.past hO
      have := hD.read' (i := ((S.first + id : Nat) : Int)) (read_in HF.out.well (by omega))
      rw [show ((S.first + id : Nat) : Int) = (S.first : Int) + id by omega, ← PG.out] at this
      exact this
    obtain ⟨fi, hfi⟩ : ∃ fi, S.first = fi := ⟨_, rfl⟩
    have HFI := Lib.hid hfi
    rw [hfi] at c1 RD
    have e1 : IntKind.i64.wrap ((fi : Int) + id) = (fi : Int) + id := IntWalk.i64_in _ (by omega)
    clear hfi hrm hnl hid hA h hheld hno
    generalize hpg : S.page id = pg at *
    have HPG := Lib.hid hpg
    clear hpg
    go_enter Try.func28, Try.ntmps28
    go_wp2_with fail
    go_region_held3 (fun w' => w'.cell? ⟨p, 0, none⟩ = some (.pointer (some ⟨d, 0, none⟩)) ∧ w'.cell? ⟨p, 1, none⟩ = some (.int .i64 fi)) (first | go_keep | exact hKEEP)
      ((go_at_call 23; refine (RD.out _ (Only.refl _ _).drew).mono ?_; rintro e w1 ⟨v1, rfl, hv1, hO1⟩; have hKEEP := And.intro (hO1.cell (p := ⟨p, 0, none⟩) c0 (by simp)) (hO1.cell (p := ⟨p, 1, none⟩) c1 (by simp))))
    obtain ⟨rfl, hb1⟩ : v1 = .slice (some ⟨w.heap.size, 0, none⟩) 512 512 ∧ Blk w1 w.heap.size (u8s pg) 5 := by
      rcases hv1 with ⟨_, h⟩ | ⟨h, hb⟩
      · have := PL.out; rw [h] at this; cases this
      · rw [PL.out] at h; exact ⟨h, hb⟩
    have R1 : Hid (ByteRow 5 w1 (.slice (some ⟨w.heap.size, 0, none⟩) 512 512) pg) := hb1.byteRow PL.out (by unfold maxLen; omega)
    have O1 : Hid (Only [] w w1) := ((Only.refl _ _).drew).trans hO1 (by simp)
    clear hv1 hO1 hKEEP c0 c1 e1 c4 hlk hb1
    go_wp2_with fail
    refine (frees_any (HP.out.past O1.out) hk).mono ?_
    rintro e w2 ⟨r, S1, M1, rfl, hfr, hP1, hS1⟩
    have FR := Lib.hid hfr
    have P1 := Lib.hid hP1
    have S1' := Lib.hid hS1
    have R2 : Hid (ByteRow 5 w2 (.slice (some ⟨w.heap.size, 0, none⟩) 512 512) pg) := owns_later R1.out hS1.1 (fun x hx => by
      simp [Value.ownBlock] at hx
      subst hx
      intro hm
      have := HP.out.lt _ hm
      omega)
    clear hP1 hS1
    have hr : r = 0 ∨ (r = 52 ∧ S1 = S) := by cases hfr <;> simp
    clear hfr
    rcases hr with rfl | ⟨rfl, rfl⟩
    · obtain ⟨MD1, ub1, hm1, pm1, asked1, L1, hA1, g1, g2, g3, g4, g5, g6⟩ := P1.out.at_
      have HA1 := Lib.hid hA1
      have HF1 := Lib.hid P1.out.fine
      have HM1 : Hid ((∀ x ∈ MD1, x ∈ M1) ∧ p ∈ M1 ∧ ub1 ∈ M1 ∧ hm1 ∈ M1 ∧ pm1 ∈ M1 ∧ (∀ l ∈ L1, l.at_ ∈ M1 ∧ ∀ x, l.v.ownBlock = some x → x ∈ M1)) := ⟨g1, g2, g3, g4, g5, g6⟩
      have c4 := hA1.pool.cell 4
      simp only [poolCells, List.getElem?_cons_succ, List.getElem?_cons_zero] at c4
      have HNO1 : Hid (∀ l ∈ L1, l.f.id ≠ id) := fun l hl => HNO.out l.f (FR.out.held l.f (by rw [← HA1.out.fst]; exact List.mem_map_of_mem hl))
      clear hA1 g1 g2 g3 g4 g5 g6
      have B1 : Blk (w2.alloc (.cells #[.slice (some ⟨w.heap.size, 0, none⟩) 512 512, .int .u64 0, .bool false, .int .i64 0] 70)) w2.heap.size (frameCells ⟨w2.heap.size, .slice (some ⟨w.heap.size, 0, none⟩) 512 512, 0, ⟨id, pg, 0, false⟩⟩) 70 := Blk.new _ _ w2
      have HB1 := Lib.hid B1
      clear B1
      have HF2 : Hid (({ S1 with held := S1.held ++ [⟨id, pg, 0, false⟩] } : PS).Fine (k + 1)) := by
        refine HF1.out.addF (by rw [FR.out.same.1]; exact HID.out) PL.out (by rw [← HA1.out.fst]; intro f hf; obtain ⟨l, hl, rfl⟩ := List.mem_map.1 hf; exact HNO1.out l hl) (FR.out.room_ HF.out) (fun _ => ?_)
        show S1.d.now.getD (S1.first + id) [] = pg
        rw [FR.out.now HNO.out]
        exact PG.out.symm
      go_wp2_with (first
        | (refine wpList_put rfl _ _ _ 59 rfl Try.underlying59 Try.underlying3 hm1 (heldM L1) rfl (HA1.out.heldm.past ((Only.refl _ _).alloc (.cells #[.slice (some ⟨w.heap.size, 0, none⟩) 512 512, .int .u64 0, .bool false, .int .i64 0] 70))) id rfl (.pointer (some ⟨w2.heap.size, 0, none⟩)) rfl ?_; intro w3 hm3 hO3 hs3; have A3 := Lib.hid (HA1.out.more (g := ⟨w2.heap.size, .slice (some ⟨w.heap.size, 0, none⟩) 512 512, 0, ⟨id, pg, 0, false⟩⟩) HNO1.out (Nat.le_refl _) ((Only.refl [] w2).alloc _) hO3 hm3 HB1.out (owns_past R2.out ((Only.refl [] w2).alloc _)) (Nat.zero_le _)); have O3 := Lib.hid (((Only.refl [hm1] w2).alloc (.cells #[.slice (some ⟨w.heap.size, 0, none⟩) 512 512, .int .u64 0, .bool false, .int .i64 0] 70)).trans hO3 (fun x hx => .inl hx)); clear hm3 hO3 c4)
        | (go_at_call 36; refine (touches_any A3.out HF2.out (by omega) (l := ⟨w2.heap.size, .slice (some ⟨w.heap.size, 0, none⟩) 512 512, 0, ⟨id, pg, 0, false⟩⟩) (by simp)).mono ?_; rintro e w4 ⟨rfl, hA4, hO4⟩; have A4 := Lib.hid hA4; have O4 := Lib.hid hO4; clear hA4 hO4))
      go_ret2
      have hM1 : ∀ x ∈ M1, x ∈ M ∨ w.heap.size ≤ x := fun x hx => by
        rcases S1'.out.2 x hx with h1 | h1
        · exact .inl h1
        · right; have := O1.out.size; omega
      have hsz : w.heap.size ≤ w2.heap.size := Nat.le_trans O1.out.size S1'.out.1.size
      have hO : Only M w w4 := ((((O1.out.mono (M' := M) (by simp)).trans S1'.out.1 (fun x hx => .inl hx)).trans O3.out (fun x hx => by simp at hx; subst hx; exact hM1 _ HM1.out.2.2.2.1))).trans O4.out (fun x hx => by
        simp at hx
        rcases hx with rfl | rfl
        · exact .inl HM.out.2.1
        · exact .inr hsz)
      obtain ⟨M', hP, hS⟩ := Pool.ofAt HP.out.lt hO A4.out (HF2.out.more (Nat.le_succ _)) (fun x hx => hM1 x (HM1.out.1 x hx)) HM.out.2.1 (hM1 _ HM1.out.2.2.1) (hM1 _ HM1.out.2.2.2.1) (hM1 _ HM1.out.2.2.2.2.1) (fun l hl => by
        have hv : ∀ y, (Value.slice (some ⟨w.heap.size, 0, none⟩) 512 512).ownBlock = some y → w.heap.size ≤ y := fun y hy => by
          simp [Value.ownBlock] at hy
          omega
        rcases putF_mem hl with rfl | ⟨hl, _⟩
        · exact ⟨.inr hsz, fun y hy => .inr (hv y hy)⟩
        · rcases List.mem_append.1 hl with hl | hl
          · exact ⟨hM1 _ (HM1.out.2.2.2.2.2 l hl).1, fun y hy => hM1 _ ((HM1.out.2.2.2.2.2 l hl).2 y hy)⟩
          · simp at hl
            subst hl
            exact ⟨.inr hsz, fun y hy => .inr (hv y hy)⟩)
      have hfr := A4.out.frame ⟨w2.heap.size, .slice (some ⟨w.heap.size, 0, none⟩) 512 512, asked1 + 1, ⟨id, pg, 0, false⟩⟩ (putF_in (l := ⟨w2.heap.size, .slice (some ⟨w.heap.size, 0, none⟩) 512 512, 0, ⟨id, pg, 0, false⟩⟩) (by simp) rfl)
      have hcl := hfr.1.cell 0
      refine ⟨_, _, _, M', rfl, ?_, .inl ⟨rfl, w2.heap.size, _, rfl, hcl, hfr.2⟩, hP, hS⟩
      have := Holds.more HNO.out FR.out
      rw [HPG.out] at this
      exact this
    · go_wp2_with fail
      go_ret2
      have hS : Step M M1 w w2 := ⟨(O1.out.mono (M' := M) (by simp)).trans S1'.out.1 (fun x hx => .inl hx), fun x hx => by
        rcases S1'.out.2 x hx with h1 | h1
        · exact .inl h1
        · right; have := O1.out.size; omega⟩
      exact ⟨_, _, _, M1, rfl, .full HNO.out FR.out, .inr ⟨by decide, rfl⟩, P1.out.more (by omega), hS⟩
end Go.Proofs.Ytmgifohjoakdjaa.P
