/-
  The document's disk: how it lies in memory; its small methods by contracts.
-/
import Derived.Test.YtgifigfdjcgkaaaRefM
import Derived.Test.YtgifigfdjcgkaaaSureW
namespace Go.Proofs.Ytgifigfdjcgkaaa.D
set_option linter.unusedSimpArgs false
open Go.RowKit
set_option linter.unusedVariables false

/-- A sector of the document's disk: a slice of bytes in a block of F. -/
def RSec (w : World) (F : List Nat) (v : Value) (l : Sector) : Prop := l.length = 512 ∧ ∃ g c, v = .slice (some ⟨g, 0, none⟩) 512 c ∧ g ∈ F ∧ ByteRow 5 w v l
def RSecs (w : World) (F : List Nat) (vs : List Value) (ls : List Sector) : Prop := vs.length = ls.length ∧ ∀ i, i < ls.length → RSec w F (vs.getD i undef) (ls.getD i [])
def RRow (w : World) (F : List Nat) (n : Nat) : List Value → List (Nat × Sector) → Prop
  | [], [] => True
  | a :: p :: vs, x :: xs => a = .int .i64 x.1 ∧ x.1 < n ∧ RSec w F p x.2 ∧ RRow w F n vs xs
  | _, _ => False
def rcells (sv nv rv : Value) (s : DS) : List Value := [sv, nv, rv, .int .i64 s.count, .int .i64 s.fail, .int .i64 s.halt, .bool s.down]
/-- The document's disk s lies at block d; F: all the blocks that it holds. -/
structure RefAt (w : World) (d : Nat) (F : List Nat) (s : DS) (sv nv rv : Value) (sx nx rx : List Value) : Prop where
  disk : Blk w d (rcells sv nv rv s) 69
  ownS : w.ownsRow 0 22 1 sv s.sure.length sx
  ownN : w.ownsRow 0 22 1 nv s.now.length nx
  ownR : w.ownsRow 0 71 2 rv s.row.length rx
  secS : RSecs w F sx s.sure
  secN : RSecs w F nx s.now
  row : RRow w F s.now.length rx s.row
  ne : ∀ k, sv.ownBlock = some k → nv.ownBlock ≠ some k
  few : s.now.length ≤ 65536
  fd : d ∈ F
  fS : ∀ k, sv.ownBlock = some k → k ∈ F
  fN : ∀ k, nv.ownBlock = some k → k ∈ F
  fR : ∀ k, rv.ownBlock = some k → k ∈ F
  lt : ∀ k ∈ F, k < w.heap.size
section
variable {w w' : World} {F G X : List Nat} {v : Value} {l : Sector} {vs : List Value} {ls : List Sector} {n d : Nat} {s : DS} {sv nv rv : Value} {sx nx rx : List Value}
theorem RSec.off (h : RSec w F v l) (hO : Only X w w') (hX : Off 5 w X) (hF : ∀ k ∈ F, k ∈ G) : RSec w' G v l := by
  obtain ⟨h1, g, c, rfl, hg, hb⟩ := h
  exact ⟨h1, g, c, rfl, hF g hg, hb.off hO hX⟩
theorem RSec.later (h : RSec w F v l) (hO : Only X w w') (hX : ∀ k ∈ F, k ∉ X) (hF : ∀ k ∈ F, k ∈ G) : RSec w' G v l := by
  obtain ⟨h1, g, c, rfl, hg, hb⟩ := h
  refine ⟨h1, g, c, rfl, hF g hg, owns_later hb hO (fun k hk => ?_)⟩
  simp only [Value.ownBlock, Option.some.injEq] at hk
  subst hk; exact hX g hg
theorem RSecs.off (h : RSecs w F vs ls) (hO : Only X w w') (hX : Off 5 w X) (hF : ∀ k ∈ F, k ∈ G) : RSecs w' G vs ls := ⟨h.1, fun i hi => (h.2 i hi).off hO hX hF⟩
theorem RSecs.later (h : RSecs w F vs ls) (hO : Only X w w') (hX : ∀ k ∈ F, k ∉ X) (hF : ∀ k ∈ F, k ∈ G) : RSecs w' G vs ls := ⟨h.1, fun i hi => (h.2 i hi).later hO hX hF⟩
theorem RSecs.set (h : RSecs w F vs ls) (i : Nat) (hv : RSec w F v l) : RSecs w F (vs.set i v) (ls.set i l) := by
  refine ⟨by simp [h.1], fun j hj => ?_⟩
  rw [List.length_set] at hj
  have hj' : j < vs.length := by rw [h.1]; exact hj
  by_cases e : i = j
  · subst e
    rw [List.getD_eq_getElem?_getD, List.getD_eq_getElem?_getD, List.getElem?_set_self hj', List.getElem?_set_self hj]
    exact hv
  · rw [List.getD_eq_getElem?_getD, List.getD_eq_getElem?_getD, List.getElem?_set_ne e, List.getElem?_set_ne e, ← List.getD_eq_getElem?_getD, ← List.getD_eq_getElem?_getD]
    exact h.2 j hj
theorem RSecs.snoc (h : RSecs w F vs ls) (hv : RSec w F v l) : RSecs w F (vs ++ [v]) (ls ++ [l]) := by
  refine ⟨by simp [h.1], fun i hi => ?_⟩
  rw [List.getD_eq_getElem?_getD, List.getD_eq_getElem?_getD]
  by_cases h1 : i < ls.length
  · rw [List.getElem?_append_left (by rw [h.1]; exact h1), List.getElem?_append_left h1, ← List.getD_eq_getElem?_getD, ← List.getD_eq_getElem?_getD]
    exact h.2 i h1
  · have : i = ls.length := by simp at hi; omega
    subst this
    rw [List.getElem?_append_right (by rw [h.1]; exact Nat.le_refl _), List.getElem?_append_right (Nat.le_refl _), h.1, Nat.sub_self]
    exact hv
theorem RRow.map (f : ∀ {v l}, RSec w F v l → RSec w' G v l) : ∀ {vs : List Value} {xs : List (Nat × Sector)}, RRow w F n vs xs → RRow w' G n vs xs
  | [], [], h => h
  | a :: p :: vs, x :: xs, h => by
    obtain ⟨h1, h2, h3, h4⟩ := h
    exact ⟨h1, h2, f h3, RRow.map f h4⟩
  | [], _ :: _, h => h.elim
  | [_], [], h => h.elim
  | [_], _ :: _, h => h.elim
  | _ :: _ :: _, [], h => h.elim
theorem RRow.snoc {i : Nat} (hi : i < n) (hp : RSec w F v l) : ∀ {vs : List Value} {xs : List (Nat × Sector)}, RRow w F n vs xs → RRow w F n (vs ++ [.int .i64 i, v]) (xs ++ [(i, l)])
  | [], [], h => ⟨rfl, hi, hp, trivial⟩
  | a :: p :: vs, x :: xs, h => by
    obtain ⟨h1, h2, h3, h4⟩ := h
    exact ⟨h1, h2, h3, RRow.snoc hi hp h4⟩
  | [], _ :: _, h => h.elim
  | [_], [], h => h.elim
  | [_], _ :: _, h => h.elim
  | _ :: _ :: _, [], h => h.elim
theorem RRow.get : ∀ {vs : List Value} {xs : List (Nat × Sector)} (k : Nat) (hk : k < xs.length), RRow w F n vs xs →
    ∃ p, vs[k * 2]? = some (.int .i64 xs[k].1) ∧ vs[k * 2 + 1]? = some p ∧ xs[k].1 < n ∧ RSec w F p xs[k].2
  | a :: p :: vs, x :: xs, 0, _, h => by
    obtain ⟨rfl, h2, h3, _⟩ := h
    exact ⟨p, rfl, rfl, h2, h3⟩
  | a :: p :: vs, x :: xs, k + 1, hk, h => by
    obtain ⟨_, _, _, h4⟩ := h
    obtain ⟨g, h1, h2, h3⟩ := RRow.get k (by simpa using hk) h4
    refine ⟨g, ?_, ?_, h3⟩
    · rw [show (k + 1) * 2 = k * 2 + 1 + 1 by omega, List.getElem?_cons_succ, List.getElem?_cons_succ]; exact h1
    · rw [show (k + 1) * 2 + 1 = (k * 2 + 1) + 1 + 1 by omega, List.getElem?_cons_succ, List.getElem?_cons_succ]; exact h2
  | [], [], k, hk, _ => by simp at hk
  | [], _ :: _, _, _, h => h.elim
  | [_], [], _, hk, h => h.elim
  | [_], _ :: _, _, _, h => h.elim
  | _ :: _ :: _, [], _, _, h => h.elim
/-- No block of this type has changed. -/
def Keeps (t : TypeId) (w w' : World) : Prop := ∀ k cs, Blk w k cs t → Blk w' k cs t
theorem Keeps.refl (t : TypeId) (w : World) : Keeps t w w := fun _ _ h => h
theorem Keeps.trans {t : TypeId} {w1 w2 w3 : World} (h : Keeps t w1 w2) (k : Keeps t w2 w3) : Keeps t w1 w3 := fun b cs hb => k b cs (h b cs hb)
theorem Keeps.of {t : TypeId} (hO : Only X w w') (hX : Off t w X) : Keeps t w w' := fun k cs hb => hO.blk hb (fun hm => hX k hm cs hb)
theorem Keeps.past {t : TypeId} (hO : Only [] w w') : Keeps t w w' := Keeps.of hO (Off.nil _ _)
theorem Keeps.one {t u : TypeId} {g : Nat} {cs : List Value} (hO : Only [g] w w') (hb : Blk w g cs u) (hne : u ≠ t) : Keeps t w w' := Keeps.of hO (Off.one hb hne)
theorem RefAt.later (h : RefAt w d F s sv nv rv sx nx rx) (hO : Only X w w') (hX : ∀ k ∈ F, k ∉ X) : RefAt w' d F s sv nv rv sx nx rx where
  disk := hO.blk h.disk (hX _ h.fd)
  ownS := owns_later h.ownS hO (fun k hk => hX k (h.fS k hk))
  ownN := owns_later h.ownN hO (fun k hk => hX k (h.fN k hk))
  ownR := owns_later h.ownR hO (fun k hk => hX k (h.fR k hk))
  secS := h.secS.later hO hX (fun _ h => h)
  secN := h.secN.later hO hX (fun _ h => h)
  row := h.row.map (fun h => h.later hO hX (fun _ h => h))
  ne := h.ne
  few := h.few
  fd := h.fd
  fS := h.fS
  fN := h.fN
  fR := h.fR
  lt := fun k hk => Nat.lt_of_lt_of_le (h.lt k hk) hO.size
theorem RefAt.past (h : RefAt w d F s sv nv rv sx nx rx) (hO : Only [] w w') : RefAt w' d F s sv nv rv sx nx rx := h.later hO (by simp)
/-- Only the struct's own numbers have turned. -/
theorem RefAt.cells (h : RefAt w d F s sv nv rv sx nx rx) (hO : Only [d] w w') {s' : DS} (hb : Blk w' d (rcells sv nv rv s') 69) (e1 : s'.now = s.now) (e2 : s'.sure = s.sure) (e3 : s'.row = s.row) : RefAt w' d F s' sv nv rv sx nx rx where
  disk := hb
  ownS := by rw [e2]; exact owns_off h.ownS hO (Off.one h.disk (by decide))
  ownN := by rw [e1]; exact owns_off h.ownN hO (Off.one h.disk (by decide))
  ownR := by rw [e3]; exact owns_off h.ownR hO (Off.one h.disk (by decide))
  secS := by rw [e2]; exact h.secS.off hO (Off.one h.disk (by decide)) (fun _ h => h)
  secN := by rw [e1]; exact h.secN.off hO (Off.one h.disk (by decide)) (fun _ h => h)
  row := by rw [e1, e3]; exact h.row.map (fun k => k.off hO (Off.one h.disk (by decide)) (fun _ h => h))
  ne := h.ne
  few := by rw [e1]; exact h.few
  fd := h.fd
  fS := h.fS
  fN := h.fN
  fR := h.fR
  lt := fun k hk => Nat.lt_of_lt_of_le (h.lt k hk) hO.size
end

set_option maxHeartbeats 400000 in
theorem rchange_any (d : Nat) (sv nv rv : Value) (s : DS) (w : World) (h : Blk w d (rcells sv nv rv s) 69) (hc0 : 0 ≤ s.count) (hc1 : s.count ≤ 1099511627776) (hf : s.fail ≤ 9223372036854775807) (hh : s.halt ≤ 9223372036854775807) :
    Calls Try.prog 35 #[.pointer (some ⟨d, 0, none⟩)] w fun e w' => e = .returned (.int .i64 s.err) ∧ Blk w' d (rcells sv nv rv s.rchanged) 69 ∧ Only [d] w w' := by
  obtain ⟨now, sure, row, count, fail, halt, down⟩ := s
  have c3 := h.cell 3
  have c4 := h.cell 4
  have c5 := h.cell 5
  have c6 := h.cell 6
  simp [rcells] at c3 c4 c5 c6
  have f3 := h.frozen 3
  have f4 := h.frozen 4
  have f5 := h.frozen 5
  have f6 := h.frozen 6
  have H := Lib.hid h
  simp only at hc0 hc1 hf hh
  clear h
  have hz : halt = 0 ∨ (0 < halt ∧ (halt == 0) = false) ∨ (¬ 0 < halt ∧ (halt == 0) = false) := by
    by_cases h0 : halt = 0
    · exact .inl h0
    · have : (halt == 0) = false := by simp [h0]
      by_cases h1 : 0 < halt
      · exact .inr (.inl ⟨h1, this⟩)
      · exact .inr (.inr ⟨h1, this⟩)
  rcases hz with rfl | ⟨hp, hb⟩ | ⟨hp, hb⟩
  all_goals
    cases down
    all_goals
      go_enter Try.func35, Try.ntmps35
      go_wp2_with fail
      all_goals
        go_ret
        refine ⟨by simp [DS.err, *], ?_, ?_⟩
        · exact Blk.to (by repeat' (first | exact H.out | apply Blk.set)) (by simp [DS.rchanged, rcells, *] <;> omega)
        · repeat (first | exact Only.refl _ _ | refine Only.setCell ?_ (.inl (by simp)) _)

theorem rcount_any (d : Nat) (sv nv rv : Value) (s : DS) (w : World) (h : Blk w d (rcells sv nv rv s) 69) :
    Calls Try.prog 31 #[.pointer (some ⟨d, 0, none⟩)] w fun e w' => e = .returned (.int .i64 s.count) ∧ w = w' := by
  have c3 := h.cell 3
  simp [rcells] at c3
  go_enter Try.func31, Try.ntmps31
  go_wp2
  go_ret
  exact ⟨rfl, rfl⟩
theorem rsectors_any (d n : Nat) (sv nv rv : Value) (s : DS) (w : World) (h : Blk w d (rcells sv nv rv s) 69) (hr : ∃ a c, nv = .slice a n c) :
    Calls Try.prog 30 #[.pointer (some ⟨d, 0, none⟩)] w fun e w' => e = .returned (.int .i64 n) ∧ w = w' := by
  obtain ⟨a, c, rfl⟩ := hr
  have c3 := h.cell 1
  simp [rcells] at c3
  go_enter Try.func30, Try.ntmps30
  go_wp2
  go_ret
  exact ⟨rfl, rfl⟩
theorem rpending_any (d n : Nat) (sv nv rv : Value) (s : DS) (w : World) (h : Blk w d (rcells sv nv rv s) 69) (hr : ∃ a c, rv = .slice a n c) :
    Calls Try.prog 32 #[.pointer (some ⟨d, 0, none⟩)] w fun e w' => e = .returned (.int .i64 n) ∧ w = w' := by
  obtain ⟨a, c, rfl⟩ := hr
  have c3 := h.cell 2
  simp [rcells] at c3
  go_enter Try.func32, Try.ntmps32
  go_wp2
  go_ret
  exact ⟨rfl, rfl⟩
theorem rfail_any (d : Nat) (sv nv rv : Value) (s : DS) (k : Int) (w : World) (hb : Blk w d (rcells sv nv rv s) 69) :
    Calls Try.prog 26 #[.pointer (some ⟨d, 0, none⟩), .int .i64 k] w fun e w' => e = .returned (.tuple #[]) ∧ Blk w' d (rcells sv nv rv { s with fail := max k 0 }) 69 ∧ Only [d] w w' := by
  have c4 := hb.cell 4
  simp [rcells] at c4
  have f4 := hb.frozen 4
  go_enter Try.func26, Try.ntmps26
  go_wp2_with fail
  · go_end0
    exact ⟨rfl, (hb.set 4 (.int .i64 0)).to (by simp [rcells]; omega), (Only.refl _ _).setCell (.inl (by simp)) _⟩
  · go_end0
    exact ⟨rfl, (hb.set 4 (.int .i64 k)).to (by simp [rcells]; omega), (Only.refl _ _).setCell (.inl (by simp)) _⟩
theorem rhalt_any (d : Nat) (sv nv rv : Value) (s : DS) (k : Int) (w : World) (hb : Blk w d (rcells sv nv rv s) 69) :
    Calls Try.prog 27 #[.pointer (some ⟨d, 0, none⟩), .int .i64 k] w fun e w' => e = .returned (.tuple #[]) ∧ Blk w' d (rcells sv nv rv { s with halt := max k (-1) }) 69 ∧ Only [d] w w' := by
  have c5 := hb.cell 5
  simp [rcells] at c5
  have f5 := hb.frozen 5
  go_enter Try.func27, Try.ntmps27
  go_wp2_with fail
  · go_end0
    exact ⟨rfl, (hb.set 5 (.int .i64 (-1))).to (by simp [rcells]; omega), (Only.refl _ _).setCell (.inl (by simp)) _⟩
  · go_end0
    exact ⟨rfl, (hb.set 5 (.int .i64 k)).to (by simp [rcells]; omega), (Only.refl _ _).setCell (.inl (by simp)) _⟩
end Go.Proofs.Ytgifigfdjcgkaaa.D
