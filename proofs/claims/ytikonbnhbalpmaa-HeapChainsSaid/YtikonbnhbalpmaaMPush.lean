import Derived.Test.YtikonbnhbalpmaaMRowsK
/-
  append of one element, and of a whole row onto nil, as the walks of slices of slices ask it. No program in sight.
-/
namespace Go.Proofs.Ytikonbnhbalpmaa
set_option linter.unusedSimpArgs false
open Go.RowKit
set_option linter.unusedVariables false

theorem cell_lt {w : World} {b o : Nat} {v : Value} (h : w.cell? ⟨b, o, none⟩ = some v) : b < w.heap.size := World.block_lt_of_cell? w ⟨b, o, none⟩ h
theorem Only.ofGrown {w w' : World} {row : Option Nat} (hg : w.grownBy w' row) : Only row.toList w w' :=
  (Only.refl _ _).grown hg (fun k hk => .inl (by simp [hk]))
/-- One element of one cell is appended. -/
theorem wpList_push {P : Program} {w : World} {ops : Array Oper} {rest : List Oper} {o : Oper} {a : Act} {Q : Exit → Act → World → Prop} (hgd : o.guard = none) (s x : Operand) (t : TypeId)
    (ho : o.op = .call { callee := .builtin .append, args := #[s, x], argTypes := #[t, t] })
    (e : TypeId) (ht : P.underlying t = some (.slice e)) {z : Value} {bytes : Nat} (hi : ∃ i, P.info? e = some i ∧ i.zero = some z ∧ i.size = 1 ∧ i.bytes = bytes) (hzs : z.cells.size = 1)
    (v : Value) (n : Nat) (xs : List Value) (hs : a.eval s = v) (hown : w.ownsRow 0 e 1 v n xs)
    (B c : Nat) (u : Value) (hx : a.eval x = .slice (some ⟨B, 0, none⟩) 1 c) (hB : w.cell? ⟨B, 0, none⟩ = some u) (h1 : u.oneCell' = true)
    (hn : n ≤ 16777216) (hb : bytes ≤ 1024)
    (h : ∀ g cap w', w'.ownsRow 0 e 1 (.slice (some ⟨g, 0, none⟩) (n + 1) cap) (n + 1) (xs ++ [u]) → Only v.ownBlock.toList w w' → (v.ownBlock = some g ∨ g = w.heap.size) → g < w'.heap.size → wpList P ops Q rest (a.put o.dst (.slice (some ⟨g, 0, none⟩) (n + 1) cap)) w') : wpList P ops Q (o :: rest) a w := by
  obtain ⟨i, hi, hz, hsz, hby⟩ := hi
  refine wpList_append_lies w hgd s x t ho 0 e i z 1 bytes ht hi hz hsz hby hzs (by omega) v n xs hs hown ⟨B, 0, none⟩ 1 c [u] hx rfl ?_ (by simpa using h1) (by omega) (by unfold maxLen; omega) ?_ (Nat.zero_le _) _ rfl ?_
  · intro j u' hj
    match j, hj with
    | 0, hj =>
      simp only [List.getElem?_cons_zero, Option.some.injEq] at hj
      subst hj
      rw [show (⟨B, 0, none⟩ : Addr).add 0 = ⟨B, 0, none⟩ from by simp [Addr.add]]
      exact hB
    | _ + 1, hj => simp at hj
  · calc (n + 1) * bytes ≤ 16777217 * 1024 := Nat.mul_le_mul (by omega) hb
      _ ≤ _ := by omega
  · intro g cap w' h2 h3 h4 h5
    exact h g cap w' h2 (Only.ofGrown h3) h4 h5
/-- A row is appended onto nil: a row of its own. -/
theorem wpList_clone {P : Program} {w : World} {ops : Array Oper} {rest : List Oper} {o : Oper} {a : Act} {Q : Exit → Act → World → Prop} (hgd : o.guard = none) (s x : Operand) (t : TypeId)
    (ho : o.op = .call { callee := .builtin .append, args := #[s, x], argTypes := #[t, t] })
    (e : TypeId) (ht : P.underlying t = some (.slice e)) {z : Value} {bytes : Nat} (hi : ∃ i, P.info? e = some i ∧ i.zero = some z ∧ i.size = 1 ∧ i.bytes = bytes) (hzs : z.cells.size = 1)
    (hs : a.eval s = .slice none 0 0) (B off m c : Nat) (xs : List Value) (hx : a.eval x = .slice (some ⟨B, off, none⟩) m c) (hl : xs.length = m) (hB : ∀ j u, xs[j]? = some u → w.cell? ⟨B, off + j, none⟩ = some u) (h1 : ∀ u ∈ xs, u.oneCell' = true)
    (h0 : 0 < m) (hn : m ≤ 16777216) (hb : bytes ≤ 1024)
    (h : ∀ cap w', w'.ownsRow 0 e 1 (.slice (some ⟨w.heap.size, 0, none⟩) m cap) m xs → Only [] w w' → w.heap.size < w'.heap.size → wpList P ops Q rest (a.put o.dst (.slice (some ⟨w.heap.size, 0, none⟩) m cap)) w') : wpList P ops Q (o :: rest) a w := by
  obtain ⟨i, hi, hz, hsz, hby⟩ := hi
  refine wpList_append_lies w hgd s x t ho 0 e i z 1 bytes ht hi hz hsz hby hzs (by omega) (.slice none 0 0) 0 [] hs ⟨rfl, .inl ⟨rfl, rfl⟩⟩ ⟨B, off, none⟩ m c xs hx (by omega) (fun j u hj => ?_) h1 h0 (by unfold maxLen; omega) ?_ (Nat.zero_le _) _ rfl ?_
  · rw [add_plain]; exact hB j u hj
  · calc (0 + m) * bytes ≤ 16777216 * 1024 := Nat.mul_le_mul (by omega) hb
      _ ≤ _ := by omega
  · intro g cap w' h2 h3 h4 h5
    rcases h4 with h4 | rfl
    · cases h4
    rw [Nat.zero_add] at h2
    rw [Nat.zero_add]
    exact h cap w' h2 (Only.ofGrown h3) h5
/-- The same as one step of a region that draws its order. -/
theorem step_clone {P : Program} {w : World} {ops : Array Oper} {o : Oper} {a : Act} {K : Act → World → Prop} {Q : Exit → Act → World → Prop} {E : Prop} (hgd : o.guard = none) (s x : Operand) (t : TypeId)
    (ho : o.op = .call { callee := .builtin .append, args := #[s, x], argTypes := #[t, t] })
    (e : TypeId) (ht : P.underlying t = some (.slice e)) {z : Value} {bytes : Nat} (hi : ∃ i, P.info? e = some i ∧ i.zero = some z ∧ i.size = 1 ∧ i.bytes = bytes) (hzs : z.cells.size = 1)
    (hs : a.eval s = .slice none 0 0) (B off m c : Nat) (xs : List Value) (hx : a.eval x = .slice (some ⟨B, off, none⟩) m c) (hl : xs.length = m) (hB : ∀ j u, xs[j]? = some u → w.cell? ⟨B, off + j, none⟩ = some u) (h1 : ∀ u ∈ xs, u.oneCell' = true)
    (h0 : 0 < m) (hn : m ≤ 16777216) (hb : bytes ≤ 1024)
    (h : ∀ cap w', w'.ownsRow 0 e 1 (.slice (some ⟨w.heap.size, 0, none⟩) m cap) m xs → Only [] w w' → w.heap.size < w'.heap.size → K (a.put o.dst (.slice (some ⟨w.heap.size, 0, none⟩) m cap)) w') :
    if Region.wanted o (yielded ops a.tmps) = true then Oper.wp P o a w K Q else E := by
  obtain ⟨i, hi, hz, hsz, hby⟩ := hi
  refine step_append_lies w hgd s x t ho 0 e i z 1 bytes ht hi hz hsz hby hzs (by omega) (.slice none 0 0) 0 [] hs ⟨rfl, .inl ⟨rfl, rfl⟩⟩ ⟨B, off, none⟩ m c xs hx (by omega) (fun j u hj => ?_) h1 h0 (by unfold maxLen; omega) ?_ (Nat.zero_le _) _ rfl ?_
  · rw [add_plain]; exact hB j u hj
  · calc (0 + m) * bytes ≤ 16777216 * 1024 := Nat.mul_le_mul (by omega) hb
      _ ≤ _ := by omega
  · intro g cap w' h2 h3 h4 h5
    rcases h4 with h4 | rfl
    · cases h4
    rw [Nat.zero_add] at h2
    rw [Nat.zero_add]
    exact h cap w' h2 (Only.ofGrown h3) h5
/-- copy, from wherever the cells lie, into a row of the caller's own. -/
theorem wpList_copy_owned {P : Program} {w : World} {ops : Array Oper} {rest : List Oper} {o : Oper} {a : Act} {Q : Exit → Act → World → Prop} (hgd : o.guard = none) (d s : Operand) (dT sT : TypeId)
    (ho : o.op = .call { callee := .builtin .copy, args := #[d, s], argTypes := #[dT, sT] }) (e : TypeId) (hu : P.underlying dT = some (.slice e)) (hsz : (P.info? e).map (·.size) = some 1)
    (g n c : Nat) (xs : List Value) (hown : w.ownsRow 0 e 1 (.slice (some ⟨g, 0, none⟩) n c) n xs) (sp : Option Addr) (sLen sCap : Nat) (hd : a.eval d = .slice (some ⟨g, 0, none⟩) n c) (hs : a.eval s = .slice sp sLen sCap)
    (cs : List Value) (hn : cs.length = Nat.min sLen n) (hpos : 0 < cs.length → ∃ ad, sp = some ad ∧ ∀ j v, cs[j]? = some v → w.cell? (ad.add j) = some v) (h1 : ∀ v ∈ cs, v.oneCell' = true)
    (h : ∀ w', w'.ownsRow 0 e 1 (.slice (some ⟨g, 0, none⟩) n c) n (cs ++ xs.drop cs.length) → Only [g] w w' → wpList P ops Q rest (a.put o.dst (goInt cs.length)) w') :
    wpList P ops Q (o :: rest) a w := by
  obtain ⟨cur, hb, hl, ht, hle⟩ := owns_blk hown
  have hcn : cs.length ≤ n := by rw [hn]; exact Nat.min_le_right _ _
  refine wpList_copy_blk hgd d s dT sT ho e hu hsz _ sp n c sLen sCap hd hs g 0 cur e hb cs hn (fun h0 => ⟨rfl, hpos h0⟩) (by omega) h1 ?_
  intro w' hb' hO
  refine h w' ⟨?_, .inr ⟨g, c, (splice cur 0 cs).toArray, rfl, Nat.zero_le _, hb', hle, ?_, ?_, ?_⟩⟩ hO
  · have := hown.1
    rw [List.length_append, List.length_drop]; omega
  · rcases hown.2 with ⟨h0, _⟩ | ⟨_, _, _, hv, _, _, _, h4, _⟩
    · cases h0
    · simp only [Value.slice.injEq] at hv
      rw [hv.2.2]; exact h4
  · simp [splice]; omega
  · simp only [splice, List.take_zero, List.nil_append, Nat.zero_add, Nat.mul_one, List.take_append, List.take_of_length_le hcn]
    rw [← ht, Nat.mul_one, List.drop_take]
end Go.Proofs.Ytikonbnhbalpmaa
