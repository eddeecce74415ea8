/-
  append of so many zeros ('append(s, make([]T, k)...)') onto an owned slice. No program in sight.
-/
import Derived.Test.YtjbjikigiienkaaGrow
import Derived.Lib.AppendZerosOnto
namespace Go.Proofs.Ytjbjikigiienkaa
set_option linter.unusedSimpArgs false
open Go.RowKit
set_option linter.unusedVariables false

theorem zeroCells_one (z : Value) (n : Nat) : Builtin.zeroCells #[z] n = (List.replicate n z).toArray := by
  apply Array.ext
  · simp [Builtin.zeroCells]
  · intro i h1 h2
    simp only [Builtin.zeroCells, Array.getElem_map, Array.getElem_range]
    simp [Nat.mod_one]
theorem run_zeros {P : Program} (w : World) (t tn ty e : TypeId) {z zc : Value} {bytes : Nat} {kn : IntKind} (ht : P.underlying t = some (.slice e)) (htn : P.underlying tn = some (.int kn)) (hi : ∃ i, P.info? e = some i ∧ i.zero = some z ∧ i.size = 1 ∧ i.bytes = bytes) (hzc : z.cells = #[zc]) (h1 : zc.oneCell' = true)
    (v : Value) (n : Nat) (xs : List Value) (hown : w.ownsRow 0 e 1 v n xs) (k : Nat) (h0 : 0 < k) (hnk : n + k ≤ 16777216) (hb : bytes ≤ 1024) :
    ∃ v' w', (Builtin.append_ #[t, tn] ty #[v, .int .i64 k]).run P w = .ok v' w' ∧ Grew w w' e 1 v v' (n + k) (xs ++ List.replicate k zc) := by
  obtain ⟨i, hi, hz, hs, hby⟩ := hi
  have key : ∀ (base : Option Addr) (sCap : Nat), v = .slice base n sCap → sCap < n + k → sCap ≤ maxLen → (Builtin.firstCells i.size n (.slice base n sCap)).run P w.drew = .ok xs.toArray w.drew →
      ∃ v' w', (Builtin.append_ #[t, tn] ty #[v, .int .i64 k]).run P w = .ok v' w' ∧ Grew w w' e 1 v v' (n + k) (xs ++ List.replicate k zc) := by
    intro base sCap hv hg hcm hold
    subst hv
    have hnx : Builtin.nextslicecap (n + k) sCap * i.bytes ≤ 281474976710656 := by
      have h3 : Builtin.nextslicecap (n + k) sCap ≤ 268435456 := by
        unfold Builtin.nextslicecap
        split
        · omega
        · split
          · omega
          · have : ∀ r c, c ≤ 16777216 → Builtin.growBy (n + k) r c ≤ 268435456 := by
              intro r
              induction r with
              | zero => intro c hc; simp only [Builtin.growBy]; omega
              | succ r ih =>
                intro c hc
                simp only [Builtin.growBy]
                split
                · omega
                · by_cases h5 : c + (c + 768) / 4 ≤ 16777216
                  · exact ih _ h5
                  · have : ∀ r c, n + k ≤ c → c ≤ 268435456 → Builtin.growBy (n + k) r c ≤ 268435456 := by
                      intro r c h6 h7
                      cases r with
                      | zero => simpa only [Builtin.growBy] using h7
                      | succ r => simp only [Builtin.growBy]; rw [if_pos (by omega)]; exact h7
                    exact this r _ (by omega) (by omega)
            exact this 4 sCap (by omega)
      calc _ ≤ 268435456 * 1024 := Nat.mul_le_mul h3 (by omega)
        _ ≤ _ := by omega
    have hr := Lib.run_append_grow_zeros (P := P) w t tn ty e i z .i64 kn ht htn hi hz base n sCap xs hold k h0 (by omega) hg (by omega) (by rw [hby]; calc k * bytes ≤ 16777216 * 1024 := Nat.mul_le_mul (by omega) hb
        _ ≤ _ := by omega) hnx
    have hge := grownCap_ge w (n + k) sCap e
    have hle := grownCap_le_maxLen w (n + k) sCap e (by unfold maxLen; omega)
    generalize grownCap w (n + k) sCap e = cap' at *
    rw [hzc, zeroCells_one, zeroCells_one] at hr
    have hxl : xs.length = n := by have := hown.1; omega
    refine ⟨_, _, hr, ⟨⟨by simp [hxl], .inr ⟨w.heap.size, cap', _, rfl, Nat.zero_le _, heap_alloc_new w.drew _, hge, hle, by simp [hxl]; omega, ?_⟩⟩, ((Only.refl _ _).drew).alloc _, fun q hq => ?_, _, cap', rfl⟩⟩
    · simp only [Array.toList_append, Nat.mul_one]
      rw [List.take_append_of_le_length (by simp [hxl]), List.take_of_length_le (by simp [hxl])]
    · simp only [Value.ownBlock, Option.some.injEq] at hq
      right; show w.heap.size ≤ q; omega
  rcases hown.2 with ⟨rfl, rfl⟩ | ⟨g, cap, cur, rfl, hbg, hh, h3, h4, h5, h6⟩
  · obtain rfl : xs = [] := List.eq_nil_of_length_eq_zero (by have := hown.1; omega)
    exact key none 0 rfl (by omega) (Nat.zero_le _) (run_firstCells_none w.drew i.size 0 0 0)
  · by_cases hroom : n + k ≤ cap
    · have hxl : xs.length = n := by have := hown.1; omega
      have hst := run_storeCells_at P g (n * i.size) e (List.replicate k zc) 0 cur w hh (by rw [hs, List.length_replicate, h5]; omega) (by intro u hu; rw [List.mem_replicate] at hu; rw [hu.2]; exact h1)
      simp only [Nat.add_zero] at hst
      have hw : IntKind.i64.wrap (k : Int) = k := by rw [IntKind.wrap_i64]; omega
      have h48i : ¬ (281474976710656 < (k : Int) * (i.bytes : Int)) := by
        rw [← Int.natCast_mul, hby]
        have : k * bytes ≤ 16777216 * 1024 := Nat.mul_le_mul (by omega) hb
        omega
      have hneg : ¬ ((k : Int) < 0) := by omega
      have hk0 : k ≠ 0 := by omega
      refine ⟨.slice (some ⟨g, 0, none⟩) (n + k) cap, w.setRow g (cur.toList.take (n * i.size) ++ List.replicate k zc ++ cur.toList.drop (n * i.size + (List.replicate k zc).length)).toArray, ?_, ⟨⟨by simp [hxl], .inr ⟨g, cap, (cur.toList.take (n * i.size) ++ List.replicate k zc ++ cur.toList.drop (n * i.size + (List.replicate k zc).length)).toArray, rfl, hbg, ?_, hroom, h4, ?_, ?_⟩⟩, (Only.refl _ _).setRow (.inl (by simp [Value.ownBlock])) _, fun q hq => .inl hq, _, cap, rfl⟩⟩
      · simp [Builtin.append_, run_underlying ht, run_underlying htn, sizeOf, typeInfo, zeroValue, hi, hz, hs, asInt, asIntOf, hw, hneg, h48i, hroom, hzc, zeroCells_one, Addr.add_lit, hk0]
        rw [hs] at hst
        simp at hst
        rw [hst]
        rfl
      · simp only [World.setRow, Array.getElem?_modify, if_true, hh, Option.map_some]
      · have hcl : cur.toList.length = cap := by simpa using h5
        simp [hs]
        omega
      · have hcl : cur.toList.length = cap := by simpa using h5
        rw [hs, Nat.mul_one, Nat.mul_one]
        rw [Nat.mul_one] at h6
        rw [h6, List.append_assoc]
        show (xs ++ (List.replicate k zc ++ _)).take (n + k) = _
        rw [← List.append_assoc, List.take_append_of_le_length (by simp [hxl]), List.take_of_length_le (by simp [hxl])]
    · refine key _ cap rfl (by omega) h4 ?_
      have hxl : xs.length = n * i.size := by rw [hs]; exact hown.1
      exact run_firstCells_some (P := P) w.drew i.size n ⟨g, 0, none⟩ n cap xs hxl (fun j u hu => by
        have := hown.cells (g := g) rfl j u hu
        exact this)
theorem wpList_zeros {P : Program} {w : World} {ops : Array Oper} {rest : List Oper} {o : Oper} {a : Act} {Q : Exit → Act → World → Prop} (hgd : o.guard = none) (s x : Operand) (t tn : TypeId)
    (ho : o.op = .call { callee := .builtin .append, args := #[s, x], argTypes := #[t, tn] })
    (e : TypeId) {z zc : Value} {bytes : Nat} {kn : IntKind} (ht : P.underlying t = some (.slice e)) (htn : P.underlying tn = some (.int kn)) (hi : ∃ i, P.info? e = some i ∧ i.zero = some z ∧ i.size = 1 ∧ i.bytes = bytes) (hzc : z.cells = #[zc]) (h1 : zc.oneCell' = true)
    (v : Value) (n : Nat) (xs : List Value) (hs : a.eval s = v) (hown : w.ownsRow 0 e 1 v n xs) (k : Nat) (hx : a.eval x = .int .i64 k) (h0 : 0 < k) (hnk : n + k ≤ 16777216) (hb : bytes ≤ 1024)
    (h : ∀ v' w', Grew w w' e 1 v v' (n + k) (xs ++ List.replicate k zc) → wpList P ops Q rest (a.put o.dst v') w') : wpList P ops Q (o :: rest) a w := by
  obtain ⟨v', w', hr, hg⟩ := run_zeros (P := P) w t tn o.type e ht htn hi hzc h1 v n xs hown k h0 hnk hb
  exact Lib.wpList_append_run w hgd s x t tn ho v (.int .i64 k) hs hx v' w' hr (h v' w' hg)
end Go.Proofs.Ytjbjikigiienkaa
