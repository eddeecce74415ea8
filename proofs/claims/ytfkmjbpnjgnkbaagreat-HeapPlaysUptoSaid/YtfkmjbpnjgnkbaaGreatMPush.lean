import Derived.Test.YtfkmjbpnjgnkbaaGreatMHeap
import Derived.Test.YtfkmjbpnjgnkbaaGreatMOpenU
/-
  Owned rows: what keeps them; rows of slices of bytes. No program in sight.
-/
namespace Go.Proofs.YtfkmjbpnjgnkbaaGreat
set_option linter.unusedSimpArgs false
open Go.RowKit
set_option linter.unusedVariables false

/-- None of these blocks is of type e. -/
def Off (e : TypeId) (w : World) (X : List Nat) : Prop := ∀ k ∈ X, ∀ cs, ¬ Blk w k cs e
theorem Off.nil (e : TypeId) (w : World) : Off e w [] := fun _ h => by simp at h
theorem Off.later {e : TypeId} {w w' : World} {X Y : List Nat} (h : Off e w X) (hO : Only Y w w') (hX : ∀ k ∈ X, k < w.heap.size ∧ k ∉ Y) : Off e w' X := fun k hk cs hb => by
  obtain ⟨h1, h2⟩ := hX k hk
  refine h k hk cs ?_
  unfold Blk at *
  rw [← hO.block k h1 h2]; exact hb
theorem Off.one {e t : TypeId} {w : World} {g : Nat} {cs : List Value} (hb : Blk w g cs t) (hne : t ≠ e) : Off e w [g] := fun k hk cs' hb' => by
  simp only [List.mem_cons, List.not_mem_nil, or_false] at hk
  subst hk
  exact hb.ne hb' hne rfl
theorem only_set (w : World) (g i : Nat) (v : Value) : Only [g] w (w.setCell ⟨g, i, none⟩ v) := (Only.refl _ _).setCell (.inl (by simp)) _
theorem owns_blk {w : World} {base : Nat} {e : TypeId} {size : Nat} {g n cap : Nat} {xs : List Value} (h : w.ownsRow base e size (.slice (some ⟨g, 0, none⟩) n cap) n xs) :
    ∃ cur, Blk w g cur e ∧ cur.length = cap * size ∧ cur.take (n * size) = xs ∧ n ≤ cap := by
  rcases h.2 with ⟨h0, _⟩ | ⟨g', cap', cur, hv, _, hh, h3, _, h5, h6⟩
  · cases h0
  · simp only [Value.slice.injEq, Option.some.injEq, Addr.mk.injEq, and_true, true_and] at hv
    obtain ⟨rfl, rfl⟩ := hv
    exact ⟨cur.toList, by unfold Blk; rw [Array.toArray_toList]; exact hh, by rw [Array.length_toList]; exact h5, h6, h3⟩
theorem owns_own {w : World} {base : Nat} {e : TypeId} {size : Nat} {v : Value} {n : Nat} {xs : List Value} (h : w.ownsRow base e size v n xs) {k : Nat} (hk : v.ownBlock = some k) : ∃ cs, Blk w k cs e := by
  rcases h.2 with ⟨rfl, _⟩ | ⟨g', cap', cur, rfl, _, hh, _⟩
  · cases hk
  · simp only [Value.ownBlock, Option.some.injEq] at hk
    subst hk
    exact ⟨cur.toList, by unfold Blk; rw [Array.toArray_toList]; exact hh⟩
theorem owns_off {w w' : World} {X : List Nat} {base : Nat} {e : TypeId} {size : Nat} {v : Value} {n : Nat} {xs : List Value} (h : w.ownsRow base e size v n xs) (hO : Only X w w') (hX : Off e w X) : w'.ownsRow base e size v n xs :=
  owns_later h hO (fun k hk hm => by obtain ⟨cs, hb⟩ := owns_own h hk; exact hX k hm cs hb)
theorem owns_past {w w' : World} {base : Nat} {e : TypeId} {size : Nat} {v : Value} {n : Nat} {xs : List Value} (h : w.ownsRow base e size v n xs) (hO : Only [] w w') : w'.ownsRow base e size v n xs := owns_off h hO (Off.nil _ _)
/-- A block that is full is an owned row. -/
theorem Blk.owns {w : World} {g : Nat} {cs : List Value} {e : TypeId} (h : Blk w g cs e) (hl : cs.length ≤ maxLen) : w.ownsRow 0 e 1 (.slice (some ⟨g, 0, none⟩) cs.length cs.length) cs.length cs :=
  ⟨by omega, .inr ⟨g, cs.length, cs.toArray, rfl, Nat.zero_le _, h, Nat.le_refl _, hl, by simp, by simp⟩⟩
/-- One element of an owned row is another one now. -/
theorem owns_set {w : World} {e : TypeId} {g n cap : Nat} {xs : List Value} (h : w.ownsRow 0 e 1 (.slice (some ⟨g, 0, none⟩) n cap) n xs) (i : Nat) (hi : i < n) (x : Value) :
    (w.setCell ⟨g, i, none⟩ x).ownsRow 0 e 1 (.slice (some ⟨g, 0, none⟩) n cap) n (xs.set i x) := by
  obtain ⟨h1, h2⟩ := h
  rcases h2 with ⟨h0, _⟩ | ⟨g', cap', cur, hv, hb, hh, h3, h4, h5, h6⟩
  · cases h0
  · simp only [Value.slice.injEq, Option.some.injEq, Addr.mk.injEq, and_true, true_and] at hv
    obtain ⟨rfl, rfl⟩ := hv
    refine ⟨by simp [h1], .inr ⟨g, cap, cur.setIfInBounds i x, rfl, hb, heap_setCell_same w g i cur e x hh, h3, h4, by simp [h5], ?_⟩⟩
    rw [Array.toList_setIfInBounds, List.take_set, h6]

theorem owns_foot {w : World} {base : Nat} {e t : TypeId} {size : Nat} {v : Value} {n : Nat} {xs : List Value} (h : w.ownsRow base e size v n xs) (hne : t ≠ e) : Off t w v.ownBlock.toList := fun k hk cs hb =>
  owns_ne h hb hne (by simpa using hk)
/-- A slice of bytes in a row of its own. -/
def ByteRow (bt : TypeId) (w : World) (v : Value) (l : List UInt8) : Prop := w.ownsRow 0 bt 1 v l.length (u8s l)
theorem ByteRow.off {bt : TypeId} {w w' : World} {X : List Nat} {v : Value} {l : List UInt8} (h : ByteRow bt w v l) (hO : Only X w w') (hX : Off bt w X) : ByteRow bt w' v l := owns_off h hO hX
theorem Blk.byteRow {bt : TypeId} {w : World} {g n : Nat} {l : List UInt8} (h : Blk w g (u8s l) bt) (hn : l.length = n) (hl : n ≤ maxLen) : ByteRow bt w (.slice (some ⟨g, 0, none⟩) n n) l := by
  subst hn
  have := Blk.owns h (by rw [length_u8s]; exact hl)
  rw [length_u8s] at this; exact this
theorem ByteRow.at {bt : TypeId} {w : World} {v : Value} {l : List UInt8} (h : ByteRow bt w v l) : BytesAt w v l := by
  rcases h.2 with ⟨rfl, h0⟩ | ⟨g, cap, cur, rfl, _, hh, h3, _, h5, h6⟩
  · exact ⟨none, 0, by rw [h0], fun h => by omega⟩
  · refine ⟨_, cap, rfl, fun _ => ⟨g, 0, rfl, fun j hj => ?_⟩⟩
    have hc := cell_of_row w g j cur bt (0, 0) hh
    have hj2 : (u8s l)[j]? = some (.int .u8 (l.getD j 0).toNat) := by
      rw [u8s_get, List.getElem?_eq_getElem hj, List.getD_eq_getElem?_getD, List.getElem?_eq_getElem hj]; rfl
    rw [← h6, List.getElem?_take, if_pos (by omega)] at hj2
    rw [Nat.zero_add, hc]
    simpa using hj2
theorem ByteRow.src {bt : TypeId} {w : World} {g n c : Nat} {l : List UInt8} (h : ByteRow bt w (.slice (some ⟨g, 0, none⟩) n c) l) : ∀ j u, (u8s l)[j]? = some u → w.cell? ⟨g, 0 + j, none⟩ = some u := by
  intro j u hj
  rcases h.2 with ⟨h0, _⟩ | ⟨g', cap', cur, hv, _, hh, h3, _, h5, h6⟩
  · cases h0
  · simp only [Value.slice.injEq, Option.some.injEq, Addr.mk.injEq, and_true, true_and] at hv
    obtain ⟨rfl, _⟩ := hv
    rw [← h6, List.getElem?_take] at hj
    split at hj
    · rw [Nat.zero_add, cell_of_row w g j cur bt (0, 0) hh]; simpa using hj
    · cases hj
/-- Slices of bytes, each in a row of its own. -/
def ByteRows (bt : TypeId) (w : World) (vs : List Value) (ls : List (List UInt8)) : Prop := vs.length = ls.length ∧ ∀ i, i < ls.length → ByteRow bt w (vs.getD i undef) (ls.getD i [])
theorem ByteRows.off {bt : TypeId} {w w' : World} {X : List Nat} {vs : List Value} {ls : List (List UInt8)} (h : ByteRows bt w vs ls) (hO : Only X w w') (hX : Off bt w X) : ByteRows bt w' vs ls := ⟨h.1, fun i hi => (h.2 i hi).off hO hX⟩
theorem ByteRows.past {bt : TypeId} {w w' : World} {vs : List Value} {ls : List (List UInt8)} (h : ByteRows bt w vs ls) (hO : Only [] w w') : ByteRows bt w' vs ls := h.off hO (Off.nil _ _)
theorem ByteRows.to {bt : TypeId} {w : World} {vs : List Value} {ls ls' : List (List UInt8)} (h : ByteRows bt w vs ls) (e : ls = ls') : ByteRows bt w vs ls' := e ▸ h
theorem ByteRows.nil (bt : TypeId) (w : World) : ByteRows bt w [] [] := ⟨rfl, fun _ h => by simp at h⟩
theorem ByteRows.snoc {bt : TypeId} {w : World} {vs : List Value} {ls : List (List UInt8)} {v : Value} {l : List UInt8} (h : ByteRows bt w vs ls) (hv : ByteRow bt w v l) : ByteRows bt w (vs ++ [v]) (ls ++ [l]) := by
  refine ⟨by simp [h.1], fun i hi => ?_⟩
  rw [List.getD_eq_getElem?_getD, List.getD_eq_getElem?_getD]
  by_cases h1 : i < ls.length
  · rw [List.getElem?_append_left (by rw [h.1]; exact h1), List.getElem?_append_left h1, ← List.getD_eq_getElem?_getD, ← List.getD_eq_getElem?_getD]
    exact h.2 i h1
  · have : i = ls.length := by simp at hi; omega
    subst this
    rw [List.getElem?_append_right (by rw [h.1]; exact Nat.le_refl _), List.getElem?_append_right (Nat.le_refl _), h.1, Nat.sub_self]
    exact hv
theorem ByteRows.set {bt : TypeId} {w : World} {vs : List Value} {ls : List (List UInt8)} {v : Value} {l : List UInt8} (h : ByteRows bt w vs ls) (i : Nat) (hv : ByteRow bt w v l) : ByteRows bt w (vs.set i v) (ls.set i l) := by
  refine ⟨by simp [h.1], fun j hj => ?_⟩
  rw [List.length_set] at hj
  have hj' : j < vs.length := by rw [h.1]; exact hj
  by_cases e : i = j
  · subst e
    rw [List.getD_eq_getElem?_getD, List.getD_eq_getElem?_getD, List.getElem?_set_self hj', List.getElem?_set_self hj]
    exact hv
  · rw [List.getD_eq_getElem?_getD, List.getD_eq_getElem?_getD, List.getElem?_set_ne e, List.getElem?_set_ne e, ← List.getD_eq_getElem?_getD, ← List.getD_eq_getElem?_getD]
    exact h.2 j hj
theorem ByteRows.oneCell {bt : TypeId} {w : World} {vs : List Value} {ls : List (List UInt8)} (h : ByteRows bt w vs ls) : ∀ v ∈ vs, v.oneCell' = true := fun v hv => by
  obtain ⟨i, hi, rfl⟩ := List.getElem_of_mem hv
  have := h.2 i (by rw [← h.1]; exact hi)
  rw [List.getD_eq_getElem?_getD, List.getElem?_eq_getElem hi] at this
  rcases this.2 with ⟨h1, _⟩ | ⟨_, _, _, h1, _⟩ <;> (simp only [Option.getD_some] at h1; rw [h1]; rfl)
end Go.Proofs.YtfkmjbpnjgnkbaaGreat

/-
  append of one element, and of a whole row onto nil, as the walks of slices of slices ask it. No program in sight.
-/
namespace Go.Proofs.YtfkmjbpnjgnkbaaGreat
set_option linter.unusedSimpArgs false
open Go.RowKit
set_option linter.unusedVariables false

theorem cell_lt {w : World} {b o : Nat} {v : Value} (h : w.cell? ⟨b, o, none⟩ = some v) : b < w.heap.size := World.block_lt_of_cell? w ⟨b, o, none⟩ h
theorem Only.ofGrown {w w' : World} {row : Option Nat} (hg : w.grownBy w' row) : Only row.toList w w' :=
  (Only.refl _ _).grown hg (fun k hk => .inl (by simp [hk]))
/-- One element of one cell is appended. -/
theorem wpList_push {P : Program} {w : World} {ops : Array Oper} {rest : List Oper} {o : Oper} {a : Act} {Q : Exit → Act → World → Prop} (hgd : o.guard = none) (s x : Operand) (t : TypeId)
    (ho : o.op = .call { callee := .builtin .append, args := #[s, x], argTypes := #[t, t] })
    (e : TypeId) (ht : P.underlying t = some (.slice e)) {z : Value} {bytes : Nat} (hi : ∃ i, P.info? e = some i ∧ i.zero = some z ∧ i.size = 1 ∧ i.bytes = bytes) (hzs : z.cells.size = 1)
    (v : Value) (n : Nat) (xs : List Value) (hs : a.eval s = v) (hown : w.ownsRow 0 e 1 v n xs)
    (B c : Nat) (u : Value) (hx : a.eval x = .slice (some ⟨B, 0, none⟩) 1 c) (hB : w.cell? ⟨B, 0, none⟩ = some u) (h1 : u.oneCell' = true)
    (hn : n ≤ 16777216) (hb : bytes ≤ 1024)
    (h : ∀ g cap w', w'.ownsRow 0 e 1 (.slice (some ⟨g, 0, none⟩) (n + 1) cap) (n + 1) (xs ++ [u]) → Only v.ownBlock.toList w w' → (v.ownBlock = some g ∨ g = w.heap.size) → g < w'.heap.size → wpList P ops Q rest (a.put o.dst (.slice (some ⟨g, 0, none⟩) (n + 1) cap)) w') : wpList P ops Q (o :: rest) a w := by
  obtain ⟨i, hi, hz, hsz, hby⟩ := hi
  refine wpList_append_lies w hgd s x t ho 0 e i z 1 bytes ht hi hz hsz hby hzs (by omega) v n xs hs hown ⟨B, 0, none⟩ 1 c [u] hx rfl ?_ (by simpa using h1) (by omega) (by unfold maxLen; omega) ?_ (Nat.zero_le _) _ rfl ?_
  · intro j u' hj
    match j, hj with
    | 0, hj =>
      simp only [List.getElem?_cons_zero, Option.some.injEq] at hj
      subst hj
      rw [show (⟨B, 0, none⟩ : Addr).add 0 = ⟨B, 0, none⟩ from by simp [Addr.add]]
      exact hB
    | _ + 1, hj => simp at hj
  · calc (n + 1) * bytes ≤ 16777217 * 1024 := Nat.mul_le_mul (by omega) hb
      _ ≤ _ := by omega
  · intro g cap w' h2 h3 h4 h5
    exact h g cap w' h2 (Only.ofGrown h3) h4 h5
/-- A row is appended onto nil: a row of its own. -/
theorem wpList_clone {P : Program} {w : World} {ops : Array Oper} {rest : List Oper} {o : Oper} {a : Act} {Q : Exit → Act → World → Prop} (hgd : o.guard = none) (s x : Operand) (t : TypeId)
    (ho : o.op = .call { callee := .builtin .append, args := #[s, x], argTypes := #[t, t] })
    (e : TypeId) (ht : P.underlying t = some (.slice e)) {z : Value} {bytes : Nat} (hi : ∃ i, P.info? e = some i ∧ i.zero = some z ∧ i.size = 1 ∧ i.bytes = bytes) (hzs : z.cells.size = 1)
    (hs : a.eval s = .slice none 0 0) (B off m c : Nat) (xs : List Value) (hx : a.eval x = .slice (some ⟨B, off, none⟩) m c) (hl : xs.length = m) (hB : ∀ j u, xs[j]? = some u → w.cell? ⟨B, off + j, none⟩ = some u) (h1 : ∀ u ∈ xs, u.oneCell' = true)
    (h0 : 0 < m) (hn : m ≤ 16777216) (hb : bytes ≤ 1024)
    (h : ∀ cap w', w'.ownsRow 0 e 1 (.slice (some ⟨w.heap.size, 0, none⟩) m cap) m xs → Only [] w w' → w.heap.size < w'.heap.size → wpList P ops Q rest (a.put o.dst (.slice (some ⟨w.heap.size, 0, none⟩) m cap)) w') : wpList P ops Q (o :: rest) a w := by
  obtain ⟨i, hi, hz, hsz, hby⟩ := hi
  refine wpList_append_lies w hgd s x t ho 0 e i z 1 bytes ht hi hz hsz hby hzs (by omega) (.slice none 0 0) 0 [] hs ⟨rfl, .inl ⟨rfl, rfl⟩⟩ ⟨B, off, none⟩ m c xs hx (by omega) (fun j u hj => ?_) h1 h0 (by unfold maxLen; omega) ?_ (Nat.zero_le _) _ rfl ?_
  · rw [add_plain]; exact hB j u hj
  · calc (0 + m) * bytes ≤ 16777216 * 1024 := Nat.mul_le_mul (by omega) hb
      _ ≤ _ := by omega
  · intro g cap w' h2 h3 h4 h5
    rcases h4 with h4 | rfl
    · cases h4
    rw [Nat.zero_add] at h2
    rw [Nat.zero_add]
    exact h cap w' h2 (Only.ofGrown h3) h5
/-- The same as one step of a region that draws its order. -/
theorem step_clone {P : Program} {w : World} {ops : Array Oper} {o : Oper} {a : Act} {K : Act → World → Prop} {Q : Exit → Act → World → Prop} {E : Prop} (hgd : o.guard = none) (s x : Operand) (t : TypeId)
    (ho : o.op = .call { callee := .builtin .append, args := #[s, x], argTypes := #[t, t] })
    (e : TypeId) (ht : P.underlying t = some (.slice e)) {z : Value} {bytes : Nat} (hi : ∃ i, P.info? e = some i ∧ i.zero = some z ∧ i.size = 1 ∧ i.bytes = bytes) (hzs : z.cells.size = 1)
    (hs : a.eval s = .slice none 0 0) (B off m c : Nat) (xs : List Value) (hx : a.eval x = .slice (some ⟨B, off, none⟩) m c) (hl : xs.length = m) (hB : ∀ j u, xs[j]? = some u → w.cell? ⟨B, off + j, none⟩ = some u) (h1 : ∀ u ∈ xs, u.oneCell' = true)
    (h0 : 0 < m) (hn : m ≤ 16777216) (hb : bytes ≤ 1024)
    (h : ∀ cap w', w'.ownsRow 0 e 1 (.slice (some ⟨w.heap.size, 0, none⟩) m cap) m xs → Only [] w w' → w.heap.size < w'.heap.size → K (a.put o.dst (.slice (some ⟨w.heap.size, 0, none⟩) m cap)) w') :
    if Region.wanted o (yielded ops a.tmps) = true then Oper.wp P o a w K Q else E := by
  obtain ⟨i, hi, hz, hsz, hby⟩ := hi
  refine step_append_lies w hgd s x t ho 0 e i z 1 bytes ht hi hz hsz hby hzs (by omega) (.slice none 0 0) 0 [] hs ⟨rfl, .inl ⟨rfl, rfl⟩⟩ ⟨B, off, none⟩ m c xs hx (by omega) (fun j u hj => ?_) h1 h0 (by unfold maxLen; omega) ?_ (Nat.zero_le _) _ rfl ?_
  · rw [add_plain]; exact hB j u hj
  · calc (0 + m) * bytes ≤ 16777216 * 1024 := Nat.mul_le_mul (by omega) hb
      _ ≤ _ := by omega
  · intro g cap w' h2 h3 h4 h5
    rcases h4 with h4 | rfl
    · cases h4
    rw [Nat.zero_add] at h2
    rw [Nat.zero_add]
    exact h cap w' h2 (Only.ofGrown h3) h5
/-- copy, from wherever the cells lie, into a row of the caller's own. -/
theorem wpList_copy_owned {P : Program} {w : World} {ops : Array Oper} {rest : List Oper} {o : Oper} {a : Act} {Q : Exit → Act → World → Prop} (hgd : o.guard = none) (d s : Operand) (dT sT : TypeId)
    (ho : o.op = .call { callee := .builtin .copy, args := #[d, s], argTypes := #[dT, sT] }) (e : TypeId) (hu : P.underlying dT = some (.slice e)) (hsz : (P.info? e).map (·.size) = some 1)
    (g n c : Nat) (xs : List Value) (hown : w.ownsRow 0 e 1 (.slice (some ⟨g, 0, none⟩) n c) n xs) (sp : Option Addr) (sLen sCap : Nat) (hd : a.eval d = .slice (some ⟨g, 0, none⟩) n c) (hs : a.eval s = .slice sp sLen sCap)
    (cs : List Value) (hn : cs.length = Nat.min sLen n) (hpos : 0 < cs.length → ∃ ad, sp = some ad ∧ ∀ j v, cs[j]? = some v → w.cell? (ad.add j) = some v) (h1 : ∀ v ∈ cs, v.oneCell' = true)
    (h : ∀ w', w'.ownsRow 0 e 1 (.slice (some ⟨g, 0, none⟩) n c) n (cs ++ xs.drop cs.length) → Only [g] w w' → wpList P ops Q rest (a.put o.dst (goInt cs.length)) w') :
    wpList P ops Q (o :: rest) a w := by
  obtain ⟨cur, hb, hl, ht, hle⟩ := owns_blk hown
  have hcn : cs.length ≤ n := by rw [hn]; exact Nat.min_le_right _ _
  refine wpList_copy_blk hgd d s dT sT ho e hu hsz _ sp n c sLen sCap hd hs g 0 cur e hb cs hn (fun h0 => ⟨rfl, hpos h0⟩) (by omega) h1 ?_
  intro w' hb' hO
  refine h w' ⟨?_, .inr ⟨g, c, (splice cur 0 cs).toArray, rfl, Nat.zero_le _, hb', hle, ?_, ?_, ?_⟩⟩ hO
  · have := hown.1
    rw [List.length_append, List.length_drop]; omega
  · rcases hown.2 with ⟨h0, _⟩ | ⟨_, _, _, hv, _, _, _, h4, _⟩
    · cases h0
    · simp only [Value.slice.injEq] at hv
      rw [hv.2.2]; exact h4
  · simp [splice]; omega
  · simp only [splice, List.take_zero, List.nil_append, Nat.zero_add, Nat.mul_one, List.take_append, List.take_of_length_le hcn]
    rw [← ht, Nat.mul_one, List.drop_take]
end Go.Proofs.YtfkmjbpnjgnkbaaGreat
