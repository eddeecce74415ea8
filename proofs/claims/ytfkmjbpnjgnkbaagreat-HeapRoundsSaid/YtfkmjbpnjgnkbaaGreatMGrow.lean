import Derived.Test.YtfkmjbpnjgnkbaaGreatMPush
import Derived.Deep.Upon
/-
  append of a row, empty or not, onto an owned slice. No program in sight.
-/
namespace Go.Proofs.YtfkmjbpnjgnkbaaGreat
set_option linter.unusedSimpArgs false
open Go.RowKit
set_option linter.unusedVariables false

/-- v has grown to v', which has n elements, the cells xs. -/
structure Grew (w w' : World) (e : TypeId) (size : Nat) (v v' : Value) (n : Nat) (xs : List Value) : Prop where
  own : w'.ownsRow 0 e size v' n xs
  only : Only v.ownBlock.toList w w'
  lies : ∀ k, v'.ownBlock = some k → v.ownBlock = some k ∨ w.heap.size ≤ k
  shape : ∃ ao cap, v' = .slice ao n cap
theorem Grew.trans {w w1 w2 : World} {e : TypeId} {size n1 n2 : Nat} {v v1 v2 : Value} {xs xs1 : List Value} (h : Grew w w1 e size v v1 n1 xs) (k : Grew w1 w2 e size v1 v2 n2 xs1) : Grew w w2 e size v v2 n2 xs1 where
  own := k.own
  only := h.only.trans k.only (fun x hx => by
    rcases h.lies x (by simpa using hx) with h1 | h1
    · exact .inl (by simp [h1])
    · exact .inr h1)
  lies := fun x hx => by
    rcases k.lies x hx with h1 | h1
    · exact h.lies x h1
    · right; have := h.only.size; omega
  shape := k.shape
theorem Grew.refl {w : World} {e : TypeId} {size n : Nat} {v : Value} {xs : List Value} (h : w.ownsRow 0 e size v n xs) : Grew w w e size v v n xs where
  own := h
  only := Only.refl _ _
  lies := fun _ h => .inl h
  shape := by
    rcases h.2 with ⟨rfl, rfl⟩ | ⟨g, cap, cur, rfl, _⟩
    · exact ⟨none, 0, rfl⟩
    · exact ⟨_, cap, rfl⟩
theorem Grew.to {w w1 : World} {e : TypeId} {size n n' : Nat} {v v1 : Value} {xs xs' : List Value} (h : Grew w w1 e size v v1 n xs) (e1 : n = n') (e2 : xs = xs') : Grew w w1 e size v v1 n' xs' := by subst e1; subst e2; exact h
/-- The world ahead has had blocks more. -/
theorem Grew.pre {w0 w w1 : World} {e : TypeId} {size n : Nat} {v v1 : Value} {xs : List Value} (hO : Only [] w0 w) (h : Grew w w1 e size v v1 n xs) : Grew w0 w1 e size v v1 n xs where
  own := h.own
  only := (hO.mono (by simp)).trans h.only (fun x hx => .inl hx)
  lies := fun x hx => by
    rcases h.lies x hx with h1 | h1
    · exact .inl h1
    · right; have := hO.size; omega
  shape := h.shape
theorem wp_grow {P : Program} {w : World} {o : Oper} {a : Act} {K : Act → World → Prop} {Q : Exit → Act → World → Prop} (s x : Operand) (t : TypeId)
    (ho : o.op = .call { callee := .builtin .append, args := #[s, x], argTypes := #[t, t] })
    (e : TypeId) (ht : P.underlying t = some (.slice e)) {z : Value} {size bytes : Nat} (hi : ∃ i, P.info? e = some i ∧ i.zero = some z ∧ i.size = size ∧ i.bytes = bytes) (hzs : z.cells.size = size) (hsz : 0 < size)
    (v : Value) (n : Nat) (xs : List Value) (hs : a.eval s = v) (hown : w.ownsRow 0 e size v n xs) (so : Option Addr) (m c : Nat) (hx : a.eval x = .slice so m c) (news : List Value) (hl : news.length = m * size)
    (hcell : 0 < m → ∃ ad, so = some ad ∧ ∀ j u, news[j]? = some u → w.cell? (ad.add j) = some u) (h1 : ∀ u ∈ news, u.oneCell' = true) (hnm : n + m ≤ 16777216) (hb : bytes ≤ 1024)
    (h : ∀ v' w', Grew w w' e size v v' (n + m) (xs ++ news) → K (a.put o.dst v') w') : o.wp P a w K Q := by
  obtain ⟨i, hi, hz, hs1, hby⟩ := hi
  by_cases h0 : m = 0
  · subst h0
    obtain rfl : news = [] := List.eq_nil_of_length_eq_zero (by omega)
    obtain ⟨base, cap, rfl, hcap⟩ : ∃ base cap, v = .slice base n cap ∧ n ≤ cap := by
      rcases hown.2 with ⟨rfl, rfl⟩ | ⟨g, cap, cur, rfl, _, _, h3, _⟩
      · exact ⟨none, 0, rfl, Nat.le_refl _⟩
      · exact ⟨_, cap, rfl, h3⟩
    have hr : (Builtin.append_ #[t, t] o.type #[.slice base n cap, .slice so 0 c]).run P w = .ok (.slice base n cap) w :=
      run_append_nothing (P := P) w t t o.type e i ht hi base n cap hcap _ (by
        cases so with
        | none => exact Src.ofNil w ht c
        | some ad => exact Src.ofSlice w ht ad 0 c [] (by simp) (fun j u hj => by simp at hj) (fun u hu => by cases hu))
    unfold Oper.wp execOp
    simp only [ho, resolve, invoke, builtin, Sem.run_bind, Sem.run_pure, Result.andThen_ok, List.map_toArray, List.map_cons, List.map_nil, hs, hx, hr]
    exact h (.slice base n cap) w ⟨by simpa using hown, Only.refl _ _, fun k hk => .inl hk, base, cap, rfl⟩
  · obtain ⟨ad, rfl, hnews⟩ := hcell (by omega)
    refine wp_append_lies w s x t ho 0 e i z size bytes ht hi hz hs1 hby hzs hsz v n xs hs hown ad m c news hx hl hnews h1 (by omega) (by unfold maxLen; omega) ?_ (Nat.zero_le _) _ rfl ?_
    · calc (n + m) * bytes ≤ 16777216 * 1024 := Nat.mul_le_mul hnm hb
        _ ≤ _ := by omega
    · intro g cap w' h2 h3 h4 h5
      refine h _ w' ⟨h2, Only.ofGrown h3, fun k hk => ?_, _, cap, rfl⟩
      simp only [Value.ownBlock, Option.some.injEq] at hk
      subst hk
      rcases h4 with h4 | h4
      · exact .inl h4
      · right; omega
theorem wpList_grow {P : Program} {w : World} {ops : Array Oper} {rest : List Oper} {o : Oper} {a : Act} {Q : Exit → Act → World → Prop} (hgd : o.guard = none) (s x : Operand) (t : TypeId)
    (ho : o.op = .call { callee := .builtin .append, args := #[s, x], argTypes := #[t, t] })
    (e : TypeId) (ht : P.underlying t = some (.slice e)) {z : Value} {size bytes : Nat} (hi : ∃ i, P.info? e = some i ∧ i.zero = some z ∧ i.size = size ∧ i.bytes = bytes) (hzs : z.cells.size = size) (hsz : 0 < size)
    (v : Value) (n : Nat) (xs : List Value) (hs : a.eval s = v) (hown : w.ownsRow 0 e size v n xs) (so : Option Addr) (m c : Nat) (hx : a.eval x = .slice so m c) (news : List Value) (hl : news.length = m * size)
    (hcell : 0 < m → ∃ ad, so = some ad ∧ ∀ j u, news[j]? = some u → w.cell? (ad.add j) = some u) (h1 : ∀ u ∈ news, u.oneCell' = true) (hnm : n + m ≤ 16777216) (hb : bytes ≤ 1024)
    (h : ∀ v' w', Grew w w' e size v v' (n + m) (xs ++ news) → wpList P ops Q rest (a.put o.dst v') w') : wpList P ops Q (o :: rest) a w :=
  wpList_plain hgd fun _ hK => wp_grow s x t ho e ht hi hzs hsz v n xs hs hown so m c hx news hl hcell h1 hnm hb fun v' w' hg => hK _ _ (h v' w' hg)
/-- The same as one step of a region that draws its order. -/
theorem step_grow {P : Program} {w : World} {ops : Array Oper} {o : Oper} {a : Act} {K : Act → World → Prop} {Q : Exit → Act → World → Prop} {E : Prop} (hgd : o.guard = none) (s x : Operand) (t : TypeId)
    (ho : o.op = .call { callee := .builtin .append, args := #[s, x], argTypes := #[t, t] })
    (e : TypeId) (ht : P.underlying t = some (.slice e)) {z : Value} {size bytes : Nat} (hi : ∃ i, P.info? e = some i ∧ i.zero = some z ∧ i.size = size ∧ i.bytes = bytes) (hzs : z.cells.size = size) (hsz : 0 < size)
    (v : Value) (n : Nat) (xs : List Value) (hs : a.eval s = v) (hown : w.ownsRow 0 e size v n xs) (so : Option Addr) (m c : Nat) (hx : a.eval x = .slice so m c) (news : List Value) (hl : news.length = m * size)
    (hcell : 0 < m → ∃ ad, so = some ad ∧ ∀ j u, news[j]? = some u → w.cell? (ad.add j) = some u) (h1 : ∀ u ∈ news, u.oneCell' = true) (hnm : n + m ≤ 16777216) (hb : bytes ≤ 1024)
    (h : ∀ v' w', Grew w w' e size v v' (n + m) (xs ++ news) → K (a.put o.dst v') w') :
    if Region.wanted o (yielded ops a.tmps) = true then Oper.wp P o a w K Q else E := by
  have hw : Region.wanted o (yielded ops a.tmps) = true := by simp [Region.wanted, hgd]
  rw [if_pos hw]
  exact wp_grow s x t ho e ht hi hzs hsz v n xs hs hown so m c hx news hl hcell h1 hnm hb h
end Go.Proofs.YtfkmjbpnjgnkbaaGreat
