/-
  The pool's calls: Release, Get, Put, Durable.
-/
import Derived.Test.YtmgifohjoakdjaaPoolG
namespace Go.Proofs.Ytmgifohjoakdjaa.P
set_option linter.unusedSimpArgs false
open Go Go.RowKit Go.Proofs.Ytmgifohjoakdjaa Go.Proofs.Ytmgifohjoakdjaa.D Go.Proofs.Ytmgifohjoakdjaa.B
set_option linter.unusedVariables false
variable {w w' : World} {p d ub hm pm asked k : Nat} {MD M : List Nat} {L : List Pl} {S : PS}

theorem PS.is_nat {id : Nat} : S.is (id : Int) = true ↔ id < S.used.length ∧ S.used.getD id false = true := by
  unfold PS.is
  simp
theorem PS.is_no {i : Int} (h : S.is i = false) : i < 0 ∨ (∃ id : Nat, i = id ∧ (S.used.length ≤ id ∨ S.used.getD id false = false)) := by
  by_cases h0 : i < 0
  · exact .inl h0
  · obtain ⟨id, rfl⟩ := Int.eq_ofNat_of_zero_le (show 0 ≤ i by omega)
    refine .inr ⟨id, rfl, ?_⟩
    by_cases h1 : id < S.used.length
    · right
      cases hu : S.used.getD id false with
      | false => rfl
      | true => rw [PS.is_nat.2 ⟨h1, hu⟩] at h; cases h
    · left; omega
theorem PS.is_yes {i : Int} (h : S.is i = true) : ∃ id : Nat, i = id ∧ id < S.used.length ∧ S.used.getD id false = true := by
  by_cases h0 : i < 0
  · unfold PS.is at h
    rw [decide_eq_false (by omega)] at h; cases h
  · obtain ⟨id, rfl⟩ := Int.eq_ofNat_of_zero_le (show 0 ≤ i by omega)
    exact ⟨id, rfl, PS.is_nat.1 h⟩
/-! ### Release -/
def PS.release (S : PS) (id : Nat) : PS := { S.drop id with used := S.used.set id false }
set_option maxHeartbeats 2000000 in
theorem Pool.release_no (h : Pool w p d M S k) (i : Int) (hi : S.is i = false) : Calls Try.prog 9 #[.pointer (some ⟨p, 0, none⟩), .int .i64 i] w fun e w' => e = .returned (.int .i64 51) ∧ w = w' := by
  have IS := Lib.hid (h.is i hi)
  clear h hi
  go_enter Try.func9, Try.ntmps9
  go_wp2_with (go_at_call 25; refine IS.out.mono ?_; rintro e w1 ⟨rfl, rfl⟩)
  go_ret
  exact ⟨rfl, rfl⟩
set_option maxHeartbeats 2000000 in
theorem Pool.release_yes (h : Pool w p d M S k) (id : Nat) (hi : S.is (id : Int) = true) : Calls Try.prog 9 #[.pointer (some ⟨p, 0, none⟩), .int .i64 id] w fun e w' => e = .returned (.int .i64 0) ∧ ∃ M', Pool w' p d M' (S.release id) k ∧ Step M M' w w' := by
  have IS := Lib.hid (h.is id hi)
  have HP := Lib.hid h
  have HI := Lib.hid (PS.is_nat.1 hi)
  obtain ⟨MD, ub, hm, pm, asked, L, hA, g1, g2, g3, g4, g5, g6⟩ := h.at_
  have HA := Lib.hid hA
  have HM : Hid ((∀ x ∈ MD, x ∈ M) ∧ p ∈ M ∧ ub ∈ M ∧ hm ∈ M ∧ pm ∈ M ∧ (∀ l ∈ L, l.at_ ∈ M ∧ ∀ x, l.v.ownBlock = some x → x ∈ M)) := ⟨g1, g2, g3, g4, g5, g6⟩
  have c3 := hA.pool.cell 3
  have c5 := hA.pool.cell 5
  have c4 := (hA.use id false).pool.cell 4
  simp only [poolCells, List.getElem?_cons_succ, List.getElem?_cons_zero] at c3 c4 c5
  have hlk := hA.lookPins (Only.refl [] w) (id : Int)
  have cj := hA.usedCell HI.out.1
  have fj := hA.used.frozen id
  have hji := HI.out.1
  have hj0 : (0 : Int) ≤ id := by omega
  have A2 := Lib.hid (hA.use id false)
  clear h hi hA g1 g2 g3 g4 g5 g6
  generalize hn : S.used.length = n at *
  have hjn : (id : Int) < n := by omega
  generalize S.used.getD id false = bj at *
  have HN := Lib.hid hn
  clear hn
  go_enter Try.func9, Try.ntmps9
  go_wp2_with (first
    | (go_at_call 25; refine IS.out.mono ?_; rintro e w1 ⟨rfl, rfl⟩)
    | (at_delete; refine wpList_del rfl _ _ 59 3 rfl Try.underlying59 Try.underlying3 hm (heldM L) rfl A2.out.heldm id rfl ?_; intro w2 hm2 hO2 hs2))
  go_ret
  have hO : Only M w w2 := ((only_set w ub id (.bool false)).mono (M' := M) (fun x hx => by simp at hx; subst hx; exact .inl HM.out.2.2.1)).trans hO2 (fun x hx => by simp at hx; subst hx; exact .inl HM.out.2.2.2.1)
  obtain ⟨M', hP, hS⟩ := Pool.ofAt HP.out.lt hO ((A2.out.drop id hO2 hm2).to (S' := S.release id) rfl) ((HP.out.fine.use id false).drop id) (fun x hx => .inl (HM.out.1 x hx)) HM.out.2.1 (.inl HM.out.2.2.1) (.inl HM.out.2.2.2.1) (.inl HM.out.2.2.2.2.1) (fun l hl => ⟨.inl (HM.out.2.2.2.2.2 l (List.mem_filter.1 hl).1).1, fun x hx => .inl ((HM.out.2.2.2.2.2 l (List.mem_filter.1 hl).1).2 x hx)⟩)
  exact ⟨rfl, M', hP, hS⟩

/-! ### Get -/
set_option maxHeartbeats 2000000 in
theorem Pool.get_no (h : Pool w p d M S k) (i : Int) (hi : S.is i = false) : Calls Try.prog 11 #[.pointer (some ⟨p, 0, none⟩), .int .i64 i] w fun e w' => e = .returned (.tuple #[.slice none 0 0, .int .i64 51]) ∧ w = w' := by
  have IS := Lib.hid (h.is i hi)
  clear h hi
  go_enter Try.func11, Try.ntmps11
  go_wp2_with (go_at_call 25; refine IS.out.mono ?_; rintro e w1 ⟨rfl, rfl⟩)
  go_ret2
  exact ⟨rfl, rfl⟩
theorem Holds.code {id : Nat} {r : Int} {S' : PS} (h : Holds S id r S') : r = 0 ∨ (r = 52 ∧ S' = S) := by
  cases h <;> simp
/-- What Get tells: the page's bytes in a row of the caller's own, or none. -/
def Got (w w' : World) (M : List Nat) (v : Value) (r : Int) (b : List UInt8) : Prop := (r = 0 ∧ ByteRow 5 w' v b ∧ (∀ x, v.ownBlock = some x → w.heap.size ≤ x ∧ x ∉ M)) ∨ (r ≠ 0 ∧ v = .slice none 0 0)
set_option maxHeartbeats 2000000 in
theorem Pool.get_yes (h : Pool w p d M S k) (hk : k ≤ 1000000) (id : Nat) (hi : S.is (id : Int) = true) : Calls Try.prog 11 #[.pointer (some ⟨p, 0, none⟩), .int .i64 id] w fun e w' => ∃ v r S' M', e = .returned (.tuple #[v, .int .i64 r]) ∧ Holds S id r S' ∧ Got w w' M' v r (S.page id) ∧ Pool w' p d M' S' (k + 2) ∧ Step M M' w w' := by
  have IS := Lib.hid (h.is id hi)
  have HP := Lib.hid h
  have HI := Lib.hid (PS.is_nat.1 hi)
  have HPL : Hid ((S.page id).length ≤ 1048576) := by
    show _ ≤ _
    by_cases hh : ∃ f ∈ S.held, f.id = id
    · obtain ⟨f, hf, rfl⟩ := hh
      rw [PS.page_in h.fine.once hf, h.fine.len f hf]; omega
    · rw [PS.page_out (fun f hf e => hh ⟨f, hf, e⟩)]
      obtain ⟨MD, ub, hm, pm, asked, L, hA, _⟩ := h.at_
      have := h.fine.room
      have h2 := HI.out.1
      rw [hA.disk.secLen.1 _ (by omega)]; omega
  clear h hi
  go_enter Try.func11, Try.ntmps11
  go_wp2_with (go_at_call 25; refine IS.out.mono ?_; rintro e w1 ⟨rfl, rfl⟩)
  refine (holds_any HP.out hk id HI.out.1).mono ?_
  rintro e w1 ⟨pv, r, S1, M1, rfl, hh, hat, hP1, hS1⟩
  have HH := Lib.hid hh
  have P1 := Lib.hid hP1
  have S1' := Lib.hid hS1
  clear hP1 hS1
  rcases hh.code with rfl | ⟨rfl, rfl⟩
  · obtain ⟨_, la, v, rfl, c0, hr⟩ | ⟨h, _⟩ := hat
    · have R1 := Lib.hid hr
      obtain ⟨av, cv, rfl⟩ := owns_shape2 hr
      clear hh hr
      go_wp2_with (go_at_call 29; refine (clone_any R1.out.at HPL.out).mono ?_; rintro e w2 ⟨v2, rfl, hr2, hn2, hO2⟩; have R2 := Lib.hid hr2; have N2 := Lib.hid hn2; have O2 := Lib.hid hO2; clear hr2 hn2 hO2)
      go_ret2
      refine ⟨_, _, S1, M1, rfl, HH.out, .inl ⟨rfl, R2.out, fun x hx => ⟨?_, ?_⟩⟩, P1.out.past O2.out, ⟨S1'.out.1.trans O2.out (by simp), S1'.out.2⟩⟩
      · have := N2.out x hx; have := S1'.out.1.size; omega
      · intro hm
        have := N2.out x hx; have := P1.out.lt x hm; omega
    · exact absurd rfl h
  · obtain ⟨h, _⟩ | ⟨_, rfl⟩ := hat
    · cases h
    · clear hh
      go_wp2_with fail
      go_ret2
      exact ⟨_, _, S1, M1, rfl, HH.out, .inr ⟨by decide, rfl⟩, P1.out, S1'.out⟩

/-! ### Put -/
set_option maxHeartbeats 2000000 in
theorem Pool.put_no (h : Pool w p d M S k) (i : Int) (hi : S.is i = false) (v : Value) (lsn : Nat) : Calls Try.prog 19 #[.pointer (some ⟨p, 0, none⟩), .int .i64 i, v, .int .u64 lsn] w fun e w' => e = .returned (.int .i64 51) ∧ w = w' := by
  have IS := Lib.hid (h.is i hi)
  clear h hi
  go_enter Try.func19, Try.ntmps19
  go_wp2_with (go_at_call 25; refine IS.out.mono ?_; rintro e w1 ⟨rfl, rfl⟩)
  go_ret
  exact ⟨rfl, rfl⟩
set_option maxHeartbeats 2000000 in
theorem Pool.put_long (h : Pool w p d M S k) (i : Int) (hi : S.is i = true) (a : Option Addr) (n c : Nat) (hn : n ≠ 512) (lsn : Nat) : Calls Try.prog 19 #[.pointer (some ⟨p, 0, none⟩), .int .i64 i, .slice a n c, .int .u64 lsn] w fun e w' => e = .returned (.int .i64 50) ∧ w = w' := by
  have IS := Lib.hid (h.is i hi)
  have hni : ((n : Int) != 512) = true := by simp; omega
  clear h hi
  go_enter Try.func19, Try.ntmps19
  go_wp2_with (go_at_call 25; refine IS.out.mono ?_; rintro e w1 ⟨rfl, rfl⟩)
  go_ret
  exact ⟨rfl, rfl⟩
set_option maxHeartbeats 2000000 in
theorem Pool.put_yes (h : Pool w p d M S k) (hk : k ≤ 1000000) (id : Nat) (hi : S.is (id : Int) = true) {v : Value} {b : List UInt8} (hv : BytesAt w v b) (hvM : ∀ a n c, v = .slice (some a) n c → a.block ∉ M) (hb : b.length = 512) (lsn : Nat) :
    Calls Try.prog 19 #[.pointer (some ⟨p, 0, none⟩), .int .i64 id, v, .int .u64 lsn] w fun e w' => ∃ r S' M', e = .returned (.int .i64 r) ∧ Lays S id b lsn r S' ∧ Pool w' p d M' S' (k + 2) ∧ Step M M' w w' := by
  have IS := Lib.hid (h.is id hi)
  have LA := Lib.hid (lays_any h hk id (PS.is_nat.1 hi).1 hv hvM hb lsn)
  obtain ⟨av, cv, rfl, _⟩ := hv
  rw [hb] at LA ⊢
  clear h hi hvM
  go_enter Try.func19, Try.ntmps19
  go_wp2_with (first | (go_at_call 25; refine IS.out.mono ?_; rintro e w1 ⟨rfl, rfl⟩) | (go_at_call 27; refine LA.out.mono ?_; rintro e w2 ⟨r, S1, M1, rfl, hl, hP2, hS2⟩; have LY := Lib.hid hl; have P2 := Lib.hid hP2; have S2 := Lib.hid hS2; clear hl hP2 hS2))
  go_ret
  exact ⟨_, S1, M1, rfl, LY.out, P2.out, S2.out⟩
/-! ### Durable -/
def PS.raise (S : PS) (n : Nat) : PS := { S with durable := max S.durable n }
set_option maxHeartbeats 2000000 in
theorem Pool.durable (h : Pool w p d M S k) (n : Nat) : Calls Try.prog 20 #[.pointer (some ⟨p, 0, none⟩), .int .u64 n] w fun e w' => e = .returned (.tuple #[]) ∧ ∃ M', Pool w' p d M' (S.raise n) k ∧ Step M M' w w' := by
  have HP := Lib.hid h
  obtain ⟨MD, ub, hm, pm, asked, L, hA, g1, g2, g3, g4, g5, g6⟩ := h.at_
  have HA := Lib.hid hA
  have HM : Hid ((∀ x ∈ MD, x ∈ M) ∧ p ∈ M ∧ ub ∈ M ∧ hm ∈ M ∧ pm ∈ M ∧ (∀ l ∈ L, l.at_ ∈ M ∧ ∀ x, l.v.ownBlock = some x → x ∈ M)) := ⟨g1, g2, g3, g4, g5, g6⟩
  have c6 := hA.pool.cell 6
  have f6 := hA.pool.frozen 6
  simp only [poolCells, List.getElem?_cons_succ, List.getElem?_cons_zero] at c6
  clear h hA g1 g2 g3 g4 g5 g6
  obtain ⟨du, hdu⟩ : ∃ du, S.durable = du := ⟨_, rfl⟩
  have HDU := Lib.hid hdu
  rw [hdu] at c6
  clear hdu
  have fin : ∀ m, max du n = m → ∃ M', Pool (w.setCell ⟨p, 6, none⟩ (.int .u64 (m : Nat))) p d M' (S.raise n) k ∧ Step M M' w (w.setCell ⟨p, 6, none⟩ (.int .u64 (m : Nat))) := by
    intro m hm0
    have hO := only_set w p 6 (.int .u64 (m : Nat))
    obtain ⟨n1, n2, n3, n4, n5, n6⟩ := HA.out.poolNe
    have hX : Aside w [p] := fun y hy => by simp at hy; subst hy; exact .inl ⟨_, HA.out.pool⟩
    have A2 : PoolAt (w.setCell ⟨p, 6, none⟩ (.int .u64 (m : Nat))) p d MD ub hm pm asked L (S.raise n) k :=
      ⟨hX.disk HA.out.disk hO, (HA.out.pool.set 6 _).to (by simp [poolCells, PS.raise, HDU.out, hm0]), hO.blk HA.out.used (by simpa using n1.symm), HA.out.heldm.later hO (by simpa using n2.symm), HA.out.pins.later hO (by simpa using n3.symm), fun l hl => ⟨hO.blk (HA.out.frame l hl).1 (by simpa using (n6 l hl).1), hX.row (HA.out.frame l hl).2 hO⟩, HA.out.fst, HA.out.apart, HA.out.ne, HA.out.asked, HA.out.last, HA.out.size⟩
    have hf := HP.out.fine
    exact Pool.ofAt HP.out.lt (hO.mono (M' := M) (fun x hx => by simp at hx; subst hx; exact .inl HM.out.2.1)) A2 ⟨hf.well, hf.room, hf.ids, hf.len, hf.count0, hf.count, hf.row, hf.once, hf.few, hf.frames, hf.clean⟩ (fun x hx => .inl (HM.out.1 x hx)) HM.out.2.1 (.inl HM.out.2.2.1) (.inl HM.out.2.2.2.1) (.inl HM.out.2.2.2.2.1) (fun l hl => ⟨.inl (HM.out.2.2.2.2.2 l hl).1, fun x hx => .inl ((HM.out.2.2.2.2.2 l hl).2 x hx)⟩)
  have FIN := Lib.hid fin
  clear fin
  rcases Nat.lt_or_ge du n with hc | hc
  · have hci : (du : Int) < n := by omega
    go_enter Try.func20, Try.ntmps20
    go_wp2_with fail
    go_end0
    exact ⟨rfl, FIN.out n (by omega)⟩
  · have hci : (n : Int) ≤ du := by omega
    go_enter Try.func20, Try.ntmps20
    go_wp2_with fail
    go_end0
    exact ⟨rfl, FIN.out du (by omega)⟩
end Go.Proofs.Ytmgifohjoakdjaa.P
