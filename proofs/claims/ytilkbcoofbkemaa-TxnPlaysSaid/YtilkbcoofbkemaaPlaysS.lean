/-
  What TxnPlays holds: both tables, its row of snapshots; what each call leaves of them.
-/
import Derived.Test.YtilkbcoofbkemaaRefD
import Derived.Test.YtilkbcoofbkemaaRefG
import Derived.Test.YtilkbcoofbkemaaTxnH
namespace Go.Proofs.Ytilkbcoofbkemaa.T
set_option linter.unusedSimpArgs false
open Go Go.RowKit Go.Proofs.Ytilkbcoofbkemaa.I
set_option linter.unusedVariables false
/-- The tables (each with its state), the snapshots; none of their rows lies in one of the blocks F. -/
structure PlayAt (w0 w : World) (t bo bg k : Nat) (S : TS) (r n0 : Nat) (v : Value) (R : RRows) (S2 : TS) (v8 : Value) (Q : SRows) (F : List Nat) : Prop where
  tab : TabX w0 w t bo bg k S F
  ref : RefAt w r n0 v R S2
  snaps : SnapsAt w v8 Q
  hr : w0.heap.size ≤ r
  hv : ∀ x, v.ownBlock = some x → w0.heap.size ≤ x
  n8 : ∀ x, v8.ownBlock = some x → w0.heap.size ≤ x
  len : R.length ≤ k
  ops : ∀ p ∈ R, p.1.s.op.length ≤ k
  qlen : Q.length ≤ k
  qops : ∀ p ∈ Q, p.1.op.length ≤ k ∧ p.1.own < S.next
  apR : ∀ p ∈ R, ∀ x ∈ F, p.2.ownBlock ≠ some x
  apQ : ∀ p ∈ Q, ∀ x ∈ F, p.2.ownBlock ≠ some x
  fr : ∀ x ∈ F, w0.heap.size ≤ x ∧ x < w.heap.size ∧ ∃ cs, Blk w x cs 26
variable {w0 w : World} {t bo bg k : Nat} {S S2 : TS} {r n0 : Nat} {v : Value} {R : RRows} {v8 : Value} {Q : SRows} {F : List Nat}
theorem PlayAt.past (h : PlayAt w0 w t bo bg k S r n0 v R S2 v8 Q F) {w' : World} (hO : Only [] w w') : PlayAt w0 w' t bo bg k S r n0 v R S2 v8 Q F :=
  ⟨h.tab.past hO, h.ref.past hO, h.snaps.past hO, h.hr, h.hv, h.n8, h.len, h.ops, h.qlen, h.qops, h.apR, h.apQ, fun x hx => ⟨(h.fr x hx).1, Nat.lt_of_lt_of_le (h.fr x hx).2.1 hO.size, (h.fr x hx).2.2.imp fun cs hb => hO.blk hb (by simp)⟩⟩
/-- F forgotten. -/
theorem PlayAt.free (h : PlayAt w0 w t bo bg k S r n0 v R S2 v8 Q F) : PlayAt w0 w t bo bg k S r n0 v R S2 v8 Q [] :=
  ⟨h.tab.later (Only.refl [] w) (by simp) (by simp) (by simp) (by simp) (by simp) (by simp), h.ref, h.snaps, h.hr, h.hv, h.n8, h.len, h.ops, h.qlen, h.qops, by simp, by simp, by simp⟩
theorem PlayAt.more (h : PlayAt w0 w t bo bg k S r n0 v R S2 v8 Q F) {k2 : Nat} (hk : k ≤ k2) : PlayAt w0 w t bo bg k2 S r n0 v R S2 v8 Q F :=
  ⟨⟨h.tab.at_, h.tab.own, h.tab.fine.more hk, h.tab.ht, h.tab.hb, h.tab.hg⟩, h.ref, h.snaps, h.hr, h.hv, h.n8, Nat.le_trans h.len hk, fun p hp => Nat.le_trans (h.ops p hp) hk, Nat.le_trans h.qlen hk, fun p hp => ⟨Nat.le_trans (h.qops p hp).1 hk, (h.qops p hp).2⟩, h.apR, h.apQ, h.fr⟩
/-- A call of the program's table. -/
theorem PlayAt.call (h : PlayAt w0 w t bo bg k S r n0 v R S2 v8 Q F) {w' : World} {k' : Nat} {S' : TS} (hk : k ≤ k') (hn : S.next ≤ S'.next) (hT : TabX w0 w' t bo bg k' S' F) (hO : Only [t, bo, bg] w w') : PlayAt w0 w' t bo bg k' S' r n0 v R S2 v8 Q F where
  tab := hT
  ref := h.ref.later hO (h.tab.ne h.ref.tab (by decide)) (h.tab.tab.off (by decide)) (fun p hp x hx hm => by
    obtain ⟨cs, hb⟩ := owns_own (h.ref.rows p hp) hx
    exact h.tab.ne hb (by decide) hm)
  snaps := h.snaps.off hO (h.tab.tab.off (by decide)) (h.tab.tab.off (by decide))
  hr := h.hr
  hv := h.hv
  n8 := h.n8
  len := Nat.le_trans h.len hk
  ops := fun p hp => Nat.le_trans (h.ops p hp) hk
  qlen := Nat.le_trans h.qlen hk
  qops := fun p hp => ⟨Nat.le_trans (h.qops p hp).1 hk, Nat.lt_of_lt_of_le (h.qops p hp).2 hn⟩
  apR := h.apR
  apQ := h.apQ
  fr := fun x hx => by
    obtain ⟨h1, h2, cs, hb⟩ := h.fr x hx
    exact ⟨h1, Nat.lt_of_lt_of_le h2 hO.size, cs, hO.blk hb (h.tab.ne hb (by decide))⟩
/-- The blocks that a call of the document's table writes are none of the others. -/
theorem PlayAt.refOff (h : PlayAt w0 w t bo bg k S r n0 v R S2 v8 Q F) {e : TypeId} (h1 : 78 ≠ e) (h2 : e ≠ 80) : Off e w (r :: v.ownBlock.toList) := fun x hx cs hb => by
  rcases List.mem_cons.1 hx with e1 | e1
  · subst e1; exact Off.one h.ref.tab h1 _ (by simp) _ hb
  · exact owns_foot h.ref.own h2 x e1 cs hb
theorem PlayAt.refNe (h : PlayAt w0 w t bo bg k S r n0 v R S2 v8 Q F) : t ∉ r :: v.ownBlock.toList ∧ bo ∉ r :: v.ownBlock.toList ∧ bg ∉ r :: v.ownBlock.toList := by
  obtain ⟨L, hT, _⟩ := h.tab.at_
  have key : ∀ y ∈ [t, bo, bg], y ∉ r :: v.ownBlock.toList := fun y hy hx => by
    rcases List.mem_cons.1 hx with e | e
    · subst e; exact h.tab.ne h.ref.tab (by decide) hy
    · obtain ⟨cs, hb⟩ := owns_own h.ref.own (by simpa using e)
      exact h.tab.ne hb (by decide) hy
  exact ⟨key t (by simp), key bo (by simp), key bg (by simp)⟩
theorem PlayAt.refNew (h : PlayAt w0 w t bo bg k S r n0 v R S2 v8 Q F) : ∀ x ∈ r :: v.ownBlock.toList, w0.heap.size ≤ x := fun x hx => by
  rcases List.mem_cons.1 hx with e | e
  · subst e; exact h.hr
  · exact h.hv x (by simpa using e)
/-- A call of the document's table. -/
theorem PlayAt.rcall (h : PlayAt w0 w t bo bg k S r n0 v R S2 v8 Q F) {w' : World} {S2' : TS} {v' : Value} {R' : RRows} (hR : RefAt w' r n0 v' R' S2') (hO : Only (r :: v.ownBlock.toList) w w') (hv' : ∀ x, v'.ownBlock = some x → v.ownBlock = some x ∨ w.heap.size ≤ x) (hl : R'.length ≤ k) (hops : ∀ p ∈ R', p.1.s.op.length ≤ k) (hap : ∀ p ∈ R', ∀ x ∈ F, p.2.ownBlock ≠ some x) : PlayAt w0 w' t bo bg k S r n0 v' R' S2' v8 Q F where
  tab := h.tab.later hO h.refNe.1 h.refNe.2.1 h.refNe.2.2 (fun x hx => .inr (fun cs hb => h.refOff (by decide) (by decide) x hx cs hb)) h.refNew (fun x hx => .inl hx)
  ref := hR
  snaps := h.snaps.off hO (h.refOff (by decide) (by decide)) (h.refOff (by decide) (by decide))
  hr := h.hr
  hv := fun x hx => by
    rcases hv' x hx with h1 | h1
    · exact h.hv x h1
    · have := h.tab.own.size; omega
  n8 := h.n8
  len := hl
  ops := hops
  qlen := h.qlen
  qops := h.qops
  apR := hap
  apQ := h.apQ
  fr := fun x hx => by
    obtain ⟨h1, h2, cs, hb⟩ := h.fr x hx
    exact ⟨h1, Nat.lt_of_lt_of_le h2 hO.size, cs, hO.blk hb (fun hm => h.refOff (by decide) (by decide) x hm cs hb)⟩
/-- An end in the document's table. -/
theorem PlayAt.rend (h : PlayAt w0 w t bo bg k S r n0 v R S2 v8 Q F) {w' : World} {S2' : TS} {R' : RRows} (hR : RefAt w' r n0 v R' S2') (hs : SameRows R R') (hO : Only v.ownBlock.toList w w') : PlayAt w0 w' t bo bg k S r n0 v R' S2' v8 Q F := by
  refine h.rcall hR (hO.mono (fun x hx => .inl (by simp [hx]))) (fun x hx => .inl hx) (by rw [hs.1]; exact h.len) (fun p hp => ?_) (fun p hp x hx => ?_)
  · obtain ⟨q, hq, e⟩ := hs.2 p hp
    obtain ⟨a1, c1, e1⟩ := owns_form (hR.rows p hp)
    obtain ⟨a2, c2, e2⟩ := owns_form (h.ref.rows q hq)
    rw [e1, e2] at e
    simp only [Value.slice.injEq] at e
    rw [e.2.1]; exact h.ops q hq
  · obtain ⟨q, hq, e⟩ := hs.2 p hp
    rw [e]; exact h.apR q hq x hx
/-- The blocks of F were written. -/
theorem PlayAt.wrote (h : PlayAt w0 w t bo bg k S r n0 v R S2 v8 Q F) {w' : World} (hO : Only F w w') (hF : ∀ x ∈ F, ∃ cs, Blk w' x cs 26) : PlayAt w0 w' t bo bg k S r n0 v R S2 v8 Q F := by
  have hne : ∀ {b : Nat} {cs : List Value} {e : TypeId}, Blk w b cs e → e ≠ 26 → b ∉ F := fun hb he hx => by
    obtain ⟨_, _, cs', hb'⟩ := h.fr _ hx
    exact hb.ne hb' he rfl
  have hoff : ∀ {e : TypeId}, e ≠ 26 → Off e w F := fun he x hx cs hb => hne hb he hx
  obtain ⟨L, hT, _⟩ := h.tab.at_
  have htn : ∀ y ∈ [t, bo, bg], y ∉ F := fun y hy hx => by
    obtain ⟨_, _, cs', hb'⟩ := h.fr _ hx
    exact h.tab.ne hb' (by decide) hy
  exact {
    tab := h.tab.later hO (htn t (by simp)) (htn bo (by simp)) (htn bg (by simp)) (fun x hx => .inl hx) (fun x hx => (h.fr x hx).1) (fun x hx => .inl hx)
    ref := h.ref.later hO (hne h.ref.tab (by decide)) (hoff (by decide)) (fun p hp x hx hm => h.apR p hp x hm hx)
    snaps := ⟨owns_off h.snaps.own hO (hoff (by decide)), fun p hp => owns_later (h.snaps.rows p hp) hO (fun x hx hm => h.apQ p hp x hm hx)⟩
    hr := h.hr
    hv := h.hv
    n8 := h.n8
    len := h.len
    ops := h.ops
    qlen := h.qlen
    qops := h.qops
    apR := h.apR
    apQ := h.apQ
    fr := fun x hx => ⟨(h.fr x hx).1, Nat.lt_of_lt_of_le (h.fr x hx).2.1 hO.size, hF x hx⟩ }
/-- A snapshot was laid behind the others. -/
theorem PlayAt.push (h : PlayAt w0 w t bo bg k S r n0 v R S2 v8 Q F) {w' : World} {v8' : Value} {s : Snap} {sv : Value} (hg : Grew w w' 29 3 v8 v8' (Q.length + 1) (Q.flatMap snapCells ++ snapCells (s, sv))) (hs : w.ownsRow 0 26 1 sv s.op.length (nats s.op)) (hk : Q.length + 1 ≤ k) (hop : s.op.length ≤ k ∧ s.own < S.next) (hap : ∀ x ∈ F, sv.ownBlock ≠ some x) : PlayAt w0 w' t bo bg k S r n0 v R S2 v8' (Q ++ [(s, sv)]) F := by
  have hfoot : ∀ {e : TypeId}, e ≠ 29 → Off e w v8.ownBlock.toList := fun he => owns_foot h.snaps.own he
  have htn : ∀ y ∈ [t, bo, bg], y ∉ v8.ownBlock.toList := fun y hy hx => by
    obtain ⟨cs, hb⟩ := owns_own h.snaps.own (by simpa using hx)
    exact h.tab.ne hb (by decide) hy
  exact {
    tab := h.tab.later hg.only (htn t (by simp)) (htn bo (by simp)) (htn bg (by simp)) (fun x hx => .inr (fun cs hb => hfoot (by decide) x hx cs hb)) (fun x hx => h.n8 x (by simpa using hx)) (fun x hx => .inl hx)
    ref := h.ref.later hg.only (fun hx => hfoot (e := 78) (by decide) r hx _ h.ref.tab) (hfoot (by decide)) (fun p hp x hx hm => by
      obtain ⟨cs, hb⟩ := owns_own (h.ref.rows p hp) hx
      exact hfoot (e := 26) (by decide) x hm cs hb)
    snaps := h.snaps.more hg hs
    hr := h.hr
    hv := h.hv
    n8 := fun x hx => by
      rcases hg.lies x hx with h1 | h1
      · exact h.n8 x h1
      · have := h.tab.own.size; omega
    len := h.len
    ops := h.ops
    qlen := by simpa using hk
    qops := fun p hp => by
      rcases List.mem_append.1 hp with hp | hp
      · exact h.qops p hp
      · simp at hp; subst hp; exact hop
    apR := h.apR
    apQ := fun p hp => by
      rcases List.mem_append.1 hp with hp | hp
      · exact h.apQ p hp
      · simp at hp; subst hp; exact hap
    fr := fun x hx => by
      obtain ⟨h1, h2, cs, hb⟩ := h.fr x hx
      exact ⟨h1, Nat.lt_of_lt_of_le h2 hg.only.size, cs, hg.only.blk hb (fun hm => hfoot (e := 26) (by decide) x hm cs hb)⟩ }
/-- A row's length by its list. -/
theorem rowN {w : World} {a : Option Addr} {n c : Nat} {l : List Nat} (h : w.ownsRow 0 26 1 (.slice a n c) n (nats l)) (hl : l.length = n) : w.ownsRow 0 26 1 (.slice a n c) l.length (nats l) := by
  rw [hl]; exact h
/-- Begin of the program's table: its caller's row is apart from all others. -/
theorem PlayAt.begun (h : PlayAt w0 w t bo bg k S r n0 v R S2 v8 Q []) (hk : k ≤ 524287) {m n : Nat} (hm : S.next = m) (hn : S.opens.length = n) : Calls Try.prog 10 #[.pointer (some ⟨t, 0, none⟩)] w fun e w' => ∃ a c, e = .returned (.tuple #[.int .u64 m, .agg #[.int .u64 m, .int .u64 m, .slice a n c]]) ∧ w'.ownsRow 0 26 1 (.slice a n c) n (nats S.nums) ∧ PlayAt w0 w' t bo bg (k + 1) S.begin r n0 v R S2 v8 Q (Value.slice a n c).ownBlock.toList := by
  refine (h.tab.begin' (by simp) hk hm hn rfl).mono ?_
  rintro e w' ⟨a, c, he, hr, hT, hO, hX⟩
  refine ⟨a, c, he, by have := hr.1; rwa [TS.nums_len, hn] at this, ?_⟩
  have hP := h.call (Nat.le_succ _) (Nat.le_succ _) hT hO
  have hnew : ∀ x ∈ (Value.slice a n c).ownBlock.toList, w.heap.size ≤ x := fun x hx => hr.2 x (by simpa using hx)
  have hlt : ∀ x ∈ (Value.slice a n c).ownBlock.toList, x < w'.heap.size ∧ ∃ cs, Blk w' x cs 26 := fun x hx => ⟨owns_lt hr.1 (by simpa using hx), owns_own hr.1 (by simpa using hx)⟩
  have htab : TabX w0 w' t bo bg (k + 1) S.begin (Value.slice a n c).ownBlock.toList := by
    cases hb : (Value.slice a n c).ownBlock with
    | none => exact hT
    | some x => exact hX x hb
  exact {
    tab := htab
    ref := hP.ref
    snaps := hP.snaps
    hr := hP.hr
    hv := hP.hv
    n8 := hP.n8
    len := hP.len
    ops := hP.ops
    qlen := hP.qlen
    qops := hP.qops
    apR := fun p hp x hx e => by
      have h1 := owns_lt (h.ref.rows p hp) e
      have h2 := hnew x hx
      omega
    apQ := fun p hp x hx e => by
      have h1 := owns_lt (h.snaps.rows p hp) e
      have h2 := hnew x hx
      omega
    fr := fun x hx => ⟨Nat.le_trans h.tab.own.size (hnew x hx), (hlt x hx).1, (hlt x hx).2⟩ }
/-- Begin of the document's table. -/
theorem PlayAt.rbegun (h : PlayAt w0 w t bo bg k S r n0 v R S2 v8 Q F) (hk : R.length + 1 ≤ k) (hk2 : k ≤ 1048576) (hsm : S2.next + 1 < 9223372036854775808) (hop : S2.opens.length ≤ k) {m n : Nat} (hm : S2.next = m) (hn : S2.opens.length = n) : Calls Try.prog 23 #[.pointer (some ⟨r, 0, none⟩)] w fun e w' => ∃ a c v' R', e = .returned (.tuple #[.int .u64 m, .agg #[.int .u64 m, .int .u64 m, .slice a n c]]) ∧ w'.ownsRow 0 26 1 (.slice a n c) n (nats S2.nums) ∧ (∀ x ∈ F, (Value.slice a n c).ownBlock ≠ some x) ∧ PlayAt w0 w' t bo bg k S r n0 v' R' S2.begin v8 Q F ∧ Only (r :: v.ownBlock.toList) w w' := by
  refine (rbegin_any h.ref (by omega) hsm).mono ?_
  rintro e w' ⟨sv, v', he, hr, hnew, hR, hO, hv'⟩
  obtain ⟨a, c, rfl⟩ := owns_form hr
  have hl : S2.nums.length = n := by rw [TS.nums_len, hn]
  rw [hl] at he hr hnew hR
  subst hm
  have hap : ∀ x ∈ F, (Value.slice a n c).ownBlock ≠ some x := fun x hx e => by
    have h1 := hnew x e
    have h2 := (h.fr x hx).2.1
    omega
  refine ⟨a, c, v', _, he, hr, hap, h.rcall hR hO hv' (by simpa using hk) (fun p hp => ?_) (fun p hp => ?_), hO⟩
  · rcases List.mem_append.1 hp with hp | hp
    · exact h.ops p hp
    · simp at hp; subst hp
      show S2.nums.length ≤ k
      rw [TS.nums_len]; exact hop
  · rcases List.mem_append.1 hp with hp | hp
    · exact h.apR p hp
    · simp at hp; subst hp; exact hap
end Go.Proofs.Ytilkbcoofbkemaa.T
