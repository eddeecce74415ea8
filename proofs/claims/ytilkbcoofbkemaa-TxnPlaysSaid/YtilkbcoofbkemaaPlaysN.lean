/-
  What TxnPlays asks both tables of in one round over its snapshots, and of the snapshot of one transaction.
-/
import Derived.Test.YtilkbcoofbkemaaPlaysS
namespace Go.Proofs.Ytilkbcoofbkemaa.T
set_option linter.unusedSimpArgs false
open Go Go.RowKit Go.Proofs.Ytilkbcoofbkemaa.I
set_option linter.unusedVariables false
variable {w0 w : World} {t bo bg k : Nat} {S : TS} {r n0 : Nat} {v : Value} {R : RRows} {v8 : Value} {Q : SRows} {F : List Nat}
/-- A call that answers so at every later world. -/
abbrev AskN (f : FuncId) (args : Array Value) (w : World) (z : Value) : Prop := ∀ x : Later w, Calls Try.prog f args x.v fun e w' => e = .returned z ∧ ∃ y : Later w, w' = y.v
theorem PlayAt.deads (h : PlayAt w0 w t bo bg k S r n0 v R S v8 Q F) (hk : k ≤ 524287) {id xmax : Nat} (hi : id < 18446744073709551616) (hx : xmax < 18446744073709551616) :
    ∃ z, AskN 20 #[.pointer (some ⟨t, 0, none⟩), .agg #[.slice none 0 0, .int .u64 id, .int .u64 xmax, .int .u64 0]] w (.bool z) ∧ AskN 28 #[.pointer (some ⟨r, 0, none⟩), .agg #[.slice none 0 0, .int .u64 id, .int .u64 xmax, .int .u64 0]] w (.bool z) :=
  ⟨S.dead id xmax, fun x => Calls.later (fun w1 hO => (h.past hO).tab.tab.dead hk id xmax) x,
    fun x => Calls.later (fun w1 hO => rdead_any (h.past hO).ref (by have := h.len; omega) (fun p hp => by have := h.ops p hp; omega) id xmax hi hx) x⟩
/-- One snapshot of the law's row: its cells, and what both tables say of it. -/
theorem PlayAt.six (h : PlayAt w0 w t bo bg k S r n0 v R S v8 Q F) (hk : k ≤ 524287) {q id xmax : Nat} (hq : q < Q.length) (hi : id < 18446744073709551616) (hx : xmax < 18446744073709551616) :
    ∃ g c8, v8 = .slice (some ⟨g, 0, none⟩) Q.length c8 ∧ ∃ own pn ap np cp, (∀ x : Later w, x.v.cell? ⟨g, q * 3, none⟩ = some (.int .u64 ((own : Nat) : Int))) ∧ (∀ x : Later w, x.v.cell? ⟨g, q * 3 + 1, none⟩ = some (.int .u64 ((pn : Nat) : Int))) ∧ (∀ x : Later w, x.v.cell? ⟨g, q * 3 + 2, none⟩ = some (.slice ap np cp)) ∧
    ∃ z1 z2 z3,
      (AskN 13 #[.pointer (some ⟨t, 0, none⟩), .agg #[.int .u64 own, .int .u64 pn, .slice ap np cp], .int .u64 id] w (.bool z1) ∧ AskN 29 #[.pointer (some ⟨r, 0, none⟩), .agg #[.int .u64 own, .int .u64 pn, .slice ap np cp], .int .u64 id] w (.bool z1)) ∧
      (AskN 19 #[.pointer (some ⟨t, 0, none⟩), .agg #[.int .u64 own, .int .u64 pn, .slice ap np cp], .agg #[.slice none 0 0, .int .u64 id, .int .u64 xmax, .int .u64 0]] w (.bool z2) ∧ AskN 30 #[.pointer (some ⟨r, 0, none⟩), .agg #[.int .u64 own, .int .u64 pn, .slice ap np cp], .agg #[.slice none 0 0, .int .u64 id, .int .u64 xmax, .int .u64 0]] w (.bool z2)) ∧
      (AskN 21 #[.pointer (some ⟨t, 0, none⟩), .agg #[.int .u64 own, .int .u64 pn, .slice ap np cp], .agg #[.slice none 0 0, .int .u64 id, .int .u64 xmax, .int .u64 0]] w (.int .i64 z3) ∧ AskN 31 #[.pointer (some ⟨r, 0, none⟩), .agg #[.int .u64 own, .int .u64 pn, .slice ap np cp], .agg #[.slice none 0 0, .int .u64 id, .int .u64 xmax, .int .u64 0]] w (.int .i64 z3)) := by
  obtain ⟨⟨⟨own, pn, op⟩, pv⟩, hp⟩ : ∃ p, Q[q] = p := ⟨_, rfl⟩
  have hmem : (⟨own, pn, op⟩, pv) ∈ Q := by rw [← hp]; exact List.getElem_mem _
  obtain ⟨a8, c8, e8⟩ := owns_form h.snaps.own
  obtain ⟨g8, rfl⟩ : ∃ g8, a8 = some ⟨g8, 0, none⟩ := by
    rcases h.snaps.own.2 with ⟨_, h0⟩ | ⟨g, cap0, cur, h0, _⟩
    · omega
    · rw [e8] at h0; simp only [Value.slice.injEq] at h0; exact ⟨g, h0.1⟩
  subst e8
  have c0 := h.snaps.cell (k := q) (j := 0) hq (by omega)
  have c1 := h.snaps.cell (k := q) (j := 1) hq (by omega)
  have c2 := h.snaps.cell (k := q) (j := 2) hq (by omega)
  rw [hp] at c0 c1 c2
  have hrow := h.snaps.rows _ hmem
  obtain ⟨ap, cp, hpv⟩ := owns_form hrow
  have hpv : pv = .slice ap op.length cp := hpv
  subst hpv
  have hna : NatsAt w (.slice ap op.length cp) op := nats_owned hrow
  have hop : op.length ≤ 1048576 := by have := (h.qops _ hmem).1; show _ ≤ _; simp only at this; omega
  have hown : own < 18446744073709551616 := by
    have h1 := (h.qops _ hmem).2
    have h2 := h.tab.fine.nx
    simp only at h1; omega
  simp only [snapCells, List.getElem?_cons_succ, List.getElem?_cons_zero, Nat.add_zero] at c0 c1 c2
  refine ⟨g8, c8, rfl, own, pn, ap, op.length, cp, Later.cell c0, Later.cell c1, Later.cell c2, S.sees ⟨own, pn, op⟩ id, S.vis ⟨own, pn, op⟩ id xmax, S.write ⟨own, pn, op⟩ id xmax, ⟨?_, ?_⟩, ⟨?_, ?_⟩, ?_, ?_⟩
  · exact fun x => Calls.later (fun w1 hO => (h.past hO).tab.tab.sees ⟨own, pn, op⟩ _ (hna.past hO) hop id) x
  · exact fun x => Calls.later (fun w1 hO => rsees_any (h.past hO).ref ⟨own, pn, op⟩ _ (hna.past hO) hop id hi) x
  · exact fun x => Calls.later (fun w1 hO => (h.past hO).tab.tab.visible ⟨own, pn, op⟩ _ (hna.past hO) hop id xmax) x
  · exact fun x => Calls.later (fun w1 hO => rvisible_any (h.past hO).ref ⟨own, pn, op⟩ _ (hna.past hO) hop id xmax hi hx) x
  · exact fun x => Calls.later (fun w1 hO => (h.past hO).tab.tab.write ⟨own, pn, op⟩ _ (hna.past hO) hop id xmax) x
  · exact fun x => Calls.later (fun w1 hO => rwrite_any (h.past hO).ref ⟨own, pn, op⟩ _ (hna.past hO) hop id xmax hi hx hown) x
/-- The snapshot of an open transaction, by both tables. -/
theorem PlayAt.shots (h : PlayAt w0 w t bo bg k S r n0 v R S v8 Q F) (hk : k ≤ 524287) {id : Nat} (hi : id < 18446744073709551616) (ho : S.isOpen id = true) :
    ∃ pn n op, op.length = n ∧ n ≤ 1048576 ∧
      (∀ w1, Only [] w w1 → Calls Try.prog 26 #[.pointer (some ⟨t, 0, none⟩), .int .u64 id] w1 fun e w' => ∃ a c, e = .returned (.tuple #[.agg #[.int .u64 id, .int .u64 ((pn : Nat) : Int), .slice a n c], .int .i64 0]) ∧ NatsAt w' (.slice a n c) op ∧ Only [] w1 w') ∧
      (∀ w1, Only [] w w1 → Calls Try.prog 27 #[.pointer (some ⟨r, 0, none⟩), .int .u64 id] w1 fun e w' => ∃ a c, e = .returned (.tuple #[.agg #[.int .u64 id, .int .u64 ((pn : Nat) : Int), .slice a n c], .int .i64 0]) ∧ NatsAt w' (.slice a n c) op ∧ Only [] w1 w') := by
  obtain ⟨s, hs, hid⟩ := isOpen_mem.1 ho
  obtain ⟨own, pn, op⟩ := s
  have hid : own = id := hid
  subst hid
  have honce := h.tab.fine.rise.once
  have hop := h.tab.fine.ops _ hs
  have key : ∀ {w1 : World} {e : Ending} {w' : World}, (∃ s ∈ S.opens, s.own = own ∧ ∃ v, e = .returned (.tuple #[snapV s v, .int .i64 0]) ∧ NatRow w1 w' v s.op) → ∃ a c, e = .returned (.tuple #[.agg #[.int .u64 own, .int .u64 ((pn : Nat) : Int), .slice a op.length c], .int .i64 0]) ∧ NatsAt w' (.slice a op.length c) op ∧ Only [] w1 w' := by
    rintro w1 e w' ⟨s2, hs2, e2, vv, he, hr, hn, hO⟩
    obtain rfl := inj_once honce s2 hs2 ⟨own, pn, op⟩ hs e2
    obtain ⟨a, c, hvv⟩ := owns_form hr
    have hvv : vv = .slice a op.length c := hvv
    subst hvv
    exact ⟨a, c, he, nats_owned hr, hO⟩
  refine ⟨pn, op.length, op, rfl, by simp only at hop; omega, fun w1 hO => ?_, fun w1 hO => ?_⟩
  · obtain ⟨L, hT, _⟩ := (h.past hO).tab.at_
    exact (snapshot_yes hT honce ho (fun s hs => by have := h.tab.fine.ops s hs; omega)).mono fun e w' hc => key hc
  · exact (rsnapshot_yes (h.past hO).ref hi ho (fun p hp => by have := h.ops p hp; omega)).mono fun e w' hc => key hc
end Go.Proofs.Ytilkbcoofbkemaa.T
