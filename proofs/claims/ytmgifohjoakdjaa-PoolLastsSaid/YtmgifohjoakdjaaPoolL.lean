/-
  The pool's Adopt, by its contract.
-/
import Derived.Test.YtmgifohjoakdjaaPoolK
namespace Go.Proofs.Ytmgifohjoakdjaa.P
set_option linter.unusedSimpArgs false
open Go Go.RowKit Go.Proofs.Ytmgifohjoakdjaa Go.Proofs.Ytmgifohjoakdjaa.D Go.Proofs.Ytmgifohjoakdjaa.B
set_option linter.unusedVariables false
variable {w w' : World} {p d ub hm pm asked k : Nat} {MD M : List Nat} {L : List Pl} {S : PS}

def marks (l : List Int) (n : Nat) : List Bool := (List.range n).map fun j : Nat => decide ((j : Int) ∈ l)
theorem marks_len (l : List Int) (n : Nat) : (marks l n).length = n := by simp [marks]
theorem marks_get {l : List Int} {n j : Nat} (h : j < n) : (marks l n).getD j false = decide ((j : Int) ∈ l) := by
  rw [List.getD_eq_getElem?_getD, marks, List.getElem?_map, List.getElem?_range h]; rfl
theorem marks_nil (n : Nat) : marks [] n = List.replicate n false := by
  refine List.ext_getElem (by simp [marks]) fun i h1 h2 => ?_
  simp [marks]
theorem marks_snoc {l : List Int} {n a : Nat} (h : a < n) : (marks l n).set a true = marks (l ++ [(a : Int)]) n := by
  refine List.ext_getElem (by simp [marks]) fun i h1 h2 => ?_
  rw [List.getElem_set]
  simp only [marks, List.getElem_map, List.getElem_range]
  split
  · next e => subst e; simp
  · next e =>
    have : ¬ ((i : Int) = (a : Int)) := by omega
    simp [this]
theorem set_count : ∀ {l : List Bool} {a : Nat}, a < l.length → l.getD a false = false → count (l.set a true) = count l + 1
  | b :: l, 0, _, h => by
    have : b = false := h
    subst this
    simp [count]
  | b :: l, a + 1, hl, h => by
    have ih := set_count (l := l) (a := a) (by simpa using hl) h
    unfold count at ih ⊢
    rw [List.set_cons_succ, List.count_cons, List.count_cons, ih]
    omega
/-- Pages that may be adopted: each is one, and none twice. -/
def Good (l : List Int) (n : Nat) : Prop := ∀ i, i < l.length → 0 ≤ l.getD i 0 ∧ l.getD i 0 < n ∧ l.getD i 0 ∉ l.take i
theorem take_snoc' {α : Type} {l : List α} {k : Nat} (d : α) (h : k < l.length) : l.take (k + 1) = l.take k ++ [l.getD k d] := by
  rw [List.take_succ_eq_append_getElem h, List.getD_eq_getElem?_getD, List.getElem?_eq_getElem h]; rfl
theorem marks_count {l : List Int} {n : Nat} (h : Good l n) : ∀ k, k ≤ l.length → count (marks (l.take k) n) = k
  | 0, _ => by
    rw [List.take_zero, marks_nil]
    unfold count
    rw [List.count_replicate]; simp
  | k + 1, hk => by
    obtain ⟨h1, h2, h3⟩ := h k (by omega)
    obtain ⟨a, ha⟩ := Int.eq_ofNat_of_zero_le h1
    rw [ha] at h2 h3
    rw [take_snoc' 0 (by omega), ha, ← marks_snoc (by omega), set_count (by rw [marks_len]; omega) (by rw [marks_get (by omega)]; simpa using h3), marks_count h k (by omega)]
/-- Behind Adopt: just those are used; none is in a frame. -/
def PS.adopted (S : PS) (l : List Int) : PS := { S with used := marks l S.used.length, held := [] }
set_option maxRecDepth 100000 in
set_option maxHeartbeats 4000000 in
theorem Pool.adopt (h : Pool w p d M S k) {v : Value} {l : List Int} (hv : IntsAt w v l) (hl : l.length ≤ 1048576) :
    Calls Try.prog 18 #[.pointer (some ⟨p, 0, none⟩), v] w fun e w' => (Good l S.used.length ∧ e = .returned (.int .i64 0) ∧ ∃ M', Pool w' p d M' (S.adopted l) k ∧ Step M M' w w') ∨ (¬ Good l S.used.length ∧ e = .returned (.int .i64 51) ∧ Only [] w w') := by
  have HP := Lib.hid h
  obtain ⟨MD, ub, hm, pm, asked, L, hA, g1, g2, g3, g4, g5, g6⟩ := h.at_
  have HA := Lib.hid hA
  have HM : Hid ((∀ x ∈ MD, x ∈ M) ∧ p ∈ M ∧ ub ∈ M ∧ hm ∈ M ∧ pm ∈ M ∧ (∀ l ∈ L, l.at_ ∈ M ∧ ∀ x, l.v.ownBlock = some x → x ∈ M)) := ⟨g1, g2, g3, g4, g5, g6⟩
  obtain ⟨ao, cap, rfl, hc⟩ := hv
  have HC := Lib.hid hc
  have c3 := hA.pool.cell 3
  simp only [poolCells, List.getElem?_cons_succ, List.getElem?_cons_zero] at c3
  have hmk := bools_make S.used.length hA.size
  have hsz := hA.size
  clear h hA g1 g2 g3 g4 g5 g6 hc
  generalize hn : S.used.length = n at *
  have HN := Lib.hid hn
  clear hn
  generalize hm1 : l.length = m at *
  have HL := Lib.hid hm1
  clear hm1
  generalize hz : (List.replicate n (Value.bool false)).toArray = Z at *
  have HZ := Lib.hid hz
  clear hz
  go_enter Try.func18, Try.ntmps18
  go_wp2_with fail
  have B0 : Hid (Blk (w.alloc (.cells Z 4)) w.heap.size ((marks (l.take 0) n).map Value.bool) 4) := by
    show Blk _ _ _ _
    rw [← HZ.out, List.take_zero, marks_nil, List.map_replicate]
    exact Blk.new _ _ _
  clear hmk c3
  go_loopg [16] m (fun gk i wr => ∃ k : Nat, gk = m - k ∧ k ≤ m ∧ i = .int .i64 k ∧ Only [] w wr ∧ Blk wr w.heap.size ((marks (l.take k) n).map Value.bool) 4 ∧ ∀ i, i < k → 0 ≤ l.getD i 0 ∧ l.getD i 0 < n ∧ l.getD i 0 ∉ l.take i)
  case atStart => exact ⟨0, rfl, Nat.zero_le _, rfl, (Only.refl _ _).alloc _, B0.out, fun i hi => by omega⟩
  case round =>
    obtain ⟨j, hgj, hj, rfl, hO, hB, hG⟩ := hrel
    have HGJ := Lib.hid hgj
    have OO := Lib.hid hO
    have BB := Lib.hid hB
    have GG := Lib.hid hG
    clear hgj hO hB hG B0
    by_cases hlt : j < m
    · obtain ⟨eb, eo, rfl, hce⟩ := HC.out (by omega)
      have cj := OO.out.cell (hce j hlt) (by simp)
      clear hce
      obtain ⟨x, hx⟩ : ∃ x, l.getD j 0 = x := ⟨_, rfl⟩
      have HX := Lib.hid hx
      rw [hx] at cj
      clear hx
      have hji : (j : Int) < m := by omega
      have hj0 : (0 : Int) ≤ j := by omega
      by_cases h1 : x < 0
      · go_wp2_with fail
        go_ret
        exact .inr ⟨fun h => by have := (h j (by rw [HL.out]; exact hlt)).1; rw [HX.out] at this; omega, rfl, OO.out⟩
      · obtain ⟨a, rfl⟩ := Int.eq_ofNat_of_zero_le (show 0 ≤ x by omega)
        have h1i : decide ((a : Int) < 0) = false := by simp
        by_cases h2 : a < n
        · have h2i : decide (n ≤ a) = false := by simpa using h2
          have h2n : ¬ n ≤ a := by omega
          have ca : wr.cell? ⟨w.heap.size, a, none⟩ = some (.bool (decide ((a : Int) ∈ l.take j))) := by
            rw [BB.out.cell, List.getElem?_map, List.getElem?_eq_getElem (by rw [marks_len]; exact h2)]
            have := marks_get (l := l.take j) h2
            rw [List.getD_eq_getElem?_getD, List.getElem?_eq_getElem (by rw [marks_len]; exact h2)] at this
            simp only [Option.getD_some] at this
            rw [this]; rfl
          have fa := BB.out.frozen a
          have hai : (a : Int) < n := by omega
          by_cases h3 : (a : Int) ∈ l.take j
          · rw [decide_eq_true h3] at ca
            have H3 := Lib.hid h3
            clear h3
            go_wp2_with fail
            go_ret
            exact .inr ⟨fun h => by have := (h j (by rw [HL.out]; exact hlt)).2.2; rw [HX.out] at this; exact this H3.out, rfl, OO.out⟩
          · rw [decide_eq_false h3] at ca
            have H3 := Lib.hid h3
            clear h3
            go_wp2_with fail
            go_roundg (m - (j + 1))
            case measure => have := HGJ.out; omega
            case rel =>
              refine ⟨j + 1, rfl, by omega, by go_num, OO.out.setCell (.inr (Nat.le_refl _)) _, (BB.out.set a _).to ?_, fun i hi => ?_⟩
              · rw [take_snoc' 0 (by rw [HL.out]; exact hlt), HX.out, ← marks_snoc h2, List.map_set]
              · rcases Nat.lt_or_ge i j with h | h
                · exact GG.out i h
                · obtain rfl : i = j := by omega
                  rw [HX.out]
                  exact ⟨by omega, by omega, H3.out⟩
        · have h2i : n ≤ a := by omega
          have h2b : decide (n ≤ a) = true := by simpa using h2i
          go_wp2_with fail
          go_ret
          exact .inr ⟨fun h => by have := (h j (by rw [HL.out]; exact hlt)).2.1; rw [HX.out] at this; omega, rfl, OO.out⟩
    · obtain rfl : j = m := by omega
      have hji : ¬ (j : Int) < j := by omega
      have GD : Hid (Good l n) := fun i hi => GG.out i (by rw [← HL.out]; exact hi)
      have BL : Hid (Blk wr w.heap.size ((marks l n).map Value.bool) 4) := by
        have := BB.out
        rw [List.take_of_length_le (by rw [HL.out]; exact Nat.le_refl _)] at this
        exact this
      have hA := HA.out.past2 OO.out
      have A1 := Lib.hid hA
      have c5 := hA.pool.cell 5
      simp only [poolCells, List.getElem?_cons_succ, List.getElem?_cons_zero] at c5
      have hlen : (Builtin.len_ #[60] 3 #[.map (some pm)]).run Try.prog wr = .ok (.int .i64 0) wr := hA.pins.len (P := Try.prog) Try.underlying60 3
      have b1 := hA.pool.alloc (.map #[] 0)
      obtain ⟨y3, d3⟩ := b1.at 3 (by simp [poolCells])
      obtain ⟨y4, d4⟩ := b1.at 4 (by simp [poolCells])
      have f3 := b1.frozen 3
      have f4 := b1.frozen 4
      have hmm := @run_makeMap Try.prog
      clear hA b1
      go_wp2_with fail
      go_ret
      have hO1 : Only [] w (wr.alloc (.map #[] 0)) := OO.out.alloc _
      have hO2 : Only [p] (wr.alloc (.map #[] 0)) (((wr.alloc (.map #[] 0)).setCell ⟨p, 3, none⟩ (.slice (some ⟨w.heap.size, 0, none⟩) n n)).setCell ⟨p, 4, none⟩ (.map (some wr.heap.size))) := ((Only.refl _ _).setCell (.inl (by simp)) _).setCell (.inl (by simp)) _
      have A2 := A1.out.past2 ((Only.refl [] wr).alloc (.map #[] 0))
      have hX : Aside (wr.alloc (.map #[] 0)) [p] := fun y hy => by simp at hy; subst hy; exact .inl ⟨_, A2.pool⟩
      have hb := BL.out.alloc (.map #[] 0)
      have A3 : PoolAt (((wr.alloc (.map #[] 0)).setCell ⟨p, 3, none⟩ (.slice (some ⟨w.heap.size, 0, none⟩) n n)).setCell ⟨p, 4, none⟩ (.map (some wr.heap.size))) p d MD w.heap.size wr.heap.size pm asked [] (S.adopted l) k := by
        refine ⟨hX.disk A2.disk hO2, ((A2.pool.set 3 _).set 4 _).to ?_, (hO2.blk hb (by simpa using (A2.pool.ne hb (by decide)).symm)).to ?_, (MapAt.made wr .i64).later hO2 ?_, A2.pins.later hO2 ?_, (fun l hl => by cases hl), rfl, List.Pairwise.nil, ?_, A2.asked, (fun l hl => by cases hl), ?_⟩
        · simp [poolCells, PS.adopted, marks_len, HN.out]
        · show _ = (marks l S.used.length).map _
          rw [HN.out]
        · simpa using ((MapAt.made wr .i64).ne A2.pool)
        · simpa using A2.pins.ne A2.pool
        · intro e
          have := A1.out.pins.lt
          omega
        · show (marks l S.used.length).length ≤ _
          rw [marks_len, HN.out]; exact hsz
      have hf := HP.out.fine
      have F3 : (S.adopted l).Fine k := ⟨hf.well, by show S.first + (marks l S.used.length).length ≤ _; rw [marks_len]; exact hf.room, (fun f hf => by cases hf), (fun f hf => by cases hf), hf.count0, hf.count, hf.row, List.Pairwise.nil, Nat.zero_le _, hf.frames, (fun f hf => by cases hf)⟩
      have hwr : w.heap.size ≤ wr.heap.size := OO.out.size
      obtain ⟨M', hP, hS⟩ := Pool.ofAt HP.out.lt ((hO1.mono (M' := M) (by simp)).trans hO2 (fun x hx => by simp at hx; subst hx; exact .inl HM.out.2.1)) A3 F3 (fun x hx => .inl (HM.out.1 x hx)) HM.out.2.1 (.inr (Nat.le_refl _)) (.inr hwr) (.inl HM.out.2.2.2.2.1) (fun l hl => by cases hl)
      exact .inl ⟨GD.out, rfl, M', hP, hS⟩
end Go.Proofs.Ytmgifohjoakdjaa.P
