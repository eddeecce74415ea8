/-
  The walk of PoolMakes.
-/
import Derived.Test.YtmgifohjoakdjaaPoolJ
import Derived.Test.YtmgifohjoakdjaaPoolL
import Derived.Test.YtmgifohjoakdjaaOpen
import Derived.Test.YtmgifohjoakdjaaQuietL
import Derived.Test.YtmgifohjoakdjaaOpenS
import Derived.Deep.LoopGhost
namespace Go.Proofs.Ytmgifohjoakdjaa.P
set_option linter.unusedSimpArgs false
open Go Go.RowKit Go.Proofs.Ytmgifohjoakdjaa Go.Proofs.Ytmgifohjoakdjaa.D Go.Proofs.Ytmgifohjoakdjaa.B Go.Proofs.Ytmgifohjoakdjaa.I
set_option linter.unusedVariables false
variable {w w' : World} {p d ub hm pm asked k : Nat} {MD M : List Nat} {L : List Pl} {S : PS}

/-- What the law looks at. -/
def Looks (a b c f : Int) (m : Nat) : Prop := 1 ≤ a ∧ a ≤ 50 ∧ -3 ≤ b ∧ b ≤ 60 ∧ -3 ≤ c ∧ c ≤ 60 ∧ -3 ≤ f ∧ f ≤ 70 ∧ m ≤ 60
set_option maxRecDepth 100000 in
set_option maxHeartbeats 4000000 in
theorem makes_out (a b c f : Int) {w : World} {v : Value} {l : List Int} (hv : IntsAt w v l) (ho : ¬ Looks a b c f l.length) :
    Calls Try.prog 4 #[.int .i64 a, .int .i64 b, .int .i64 c, .int .i64 f, v] w fun e w' => e = .returned (.bool true) ∧ Below w.heap.size w w' := by
  have K := Lib.hid (known_any w)
  obtain ⟨ao, cap, rfl, hc⟩ := hv
  clear hc
  unfold Looks at ho
  generalize l.length = m at *
  by_cases h1 : a < 1
  · clear ho
    go_enter Try.func4, Try.ntmps4
    go_wp2_with (go_at_call 6; refine K.out.mono ?_; rintro e w1 ⟨rfl, hO1⟩; have O1 := Lib.hid hO1; clear hO1)
    go_ret
    exact ⟨rfl, O1.out.below (Nat.le_refl _) (by simp)⟩
  by_cases h2 : 50 < a
  · clear ho
    go_enter Try.func4, Try.ntmps4
    go_wp2_with (go_at_call 6; refine K.out.mono ?_; rintro e w1 ⟨rfl, hO1⟩; have O1 := Lib.hid hO1; clear hO1)
    go_ret
    exact ⟨rfl, O1.out.below (Nat.le_refl _) (by simp)⟩
  by_cases h3 : b < -3
  · clear ho
    go_enter Try.func4, Try.ntmps4
    go_wp2_with (go_at_call 6; refine K.out.mono ?_; rintro e w1 ⟨rfl, hO1⟩; have O1 := Lib.hid hO1; clear hO1)
    go_ret
    exact ⟨rfl, O1.out.below (Nat.le_refl _) (by simp)⟩
  by_cases h4 : 60 < b
  · clear ho
    go_enter Try.func4, Try.ntmps4
    go_wp2_with (go_at_call 6; refine K.out.mono ?_; rintro e w1 ⟨rfl, hO1⟩; have O1 := Lib.hid hO1; clear hO1)
    go_ret
    exact ⟨rfl, O1.out.below (Nat.le_refl _) (by simp)⟩
  by_cases h5 : c < -3
  · clear ho
    go_enter Try.func4, Try.ntmps4
    go_wp2_with (go_at_call 6; refine K.out.mono ?_; rintro e w1 ⟨rfl, hO1⟩; have O1 := Lib.hid hO1; clear hO1)
    go_ret
    exact ⟨rfl, O1.out.below (Nat.le_refl _) (by simp)⟩
  by_cases h6 : 60 < c
  · clear ho
    go_enter Try.func4, Try.ntmps4
    go_wp2_with (go_at_call 6; refine K.out.mono ?_; rintro e w1 ⟨rfl, hO1⟩; have O1 := Lib.hid hO1; clear hO1)
    go_ret
    exact ⟨rfl, O1.out.below (Nat.le_refl _) (by simp)⟩
  by_cases h7 : f < -3
  · clear ho
    go_enter Try.func4, Try.ntmps4
    go_wp2_with (go_at_call 6; refine K.out.mono ?_; rintro e w1 ⟨rfl, hO1⟩; have O1 := Lib.hid hO1; clear hO1)
    go_ret
    exact ⟨rfl, O1.out.below (Nat.le_refl _) (by simp)⟩
  by_cases h8 : 70 < f
  · clear ho
    go_enter Try.func4, Try.ntmps4
    go_wp2_with (go_at_call 6; refine K.out.mono ?_; rintro e w1 ⟨rfl, hO1⟩; have O1 := Lib.hid hO1; clear hO1)
    go_ret
    exact ⟨rfl, O1.out.below (Nat.le_refl _) (by simp)⟩
  have h9 : (60 : Int) < m := by omega
  clear ho
  go_enter Try.func4, Try.ntmps4
  go_wp2_with (go_at_call 6; refine K.out.mono ?_; rintro e w1 ⟨rfl, hO1⟩; have O1 := Lib.hid hO1; clear hO1)
  go_ret
  exact ⟨rfl, O1.out.below (Nat.le_refl _) (by simp)⟩
/-- The disk on the way: so many sectors are laid. -/
structure Laid (w0 w : World) (d n k : Nat) (M : List Nat) (s : DS) : Prop where
  disk : Disk w d M s
  well : Well s
  c0 : 0 ≤ s.count
  c : s.count ≤ k
  r : s.row.length ≤ k
  len : s.now.length = n
  now : ∀ i, i < k → s.now.getD i [] = sec5 (UInt8.ofNat i)
  own : Only [] w0 w
  new : ∀ x ∈ M, w0.heap.size ≤ x
theorem owns_shape0 {e : TypeId} {v : Value} (h : w.ownsRow 0 e 1 v 0 []) : ∃ a c, v = .slice a 0 c := by
  rcases h.2 with ⟨rfl, _⟩ | ⟨g, cap, cur, rfl, _⟩
  · exact ⟨none, 0, rfl⟩
  · exact ⟨_, cap, rfl⟩
theorem owns_ints {v : Value} {l : List Int} (h : w.ownsRow 0 3 1 v l.length (l.map (Value.int .i64))) : IntsAt w v l := by
  rcases h.2 with ⟨rfl, h0⟩ | ⟨g, cap, cur, rfl, _⟩
  · exact ⟨none, 0, by rw [h0], fun h1 => by omega⟩
  · refine ⟨_, cap, rfl, fun _ => ⟨g, 0, rfl, fun j hj => ?_⟩⟩
    rw [Nat.zero_add, h.cellAt j (by omega), List.getElem?_map, List.getElem?_eq_getElem hj, List.getD_eq_getElem?_getD, List.getElem?_eq_getElem hj]
    rfl
/-- What holds of the pool ahead of a look at an adopted page. -/
structure Looked (w0 w : World) (p d k c b : Nat) (l : List Int) (M : List Nat) (S : PS) : Prop where
  pool : Pool w p d M S k
  used : S.used = marks l c
  easy : S.Easy
  page : ∀ id, id < c → S.page id = sec5 (UInt8.ofNat (b + id))
  own : Only [] w0 w
  new : ∀ x ∈ M, w0.heap.size ≤ x
theorem bytesf_yes {x y : Value} {a : List UInt8} (hx : BytesAt w x a) (hy : BytesAt w y a) :
    Calls Try.prog 12 #[x, y] w fun e w' => e = .returned (.bool true) ∧ w = w' := by
  have := bytesf_any hx hy
  rw [beq_self_eq_true] at this
  exact this
/-- Are the first k of them good? -/
def okAt (l : List Int) (n k : Nat) : Bool := decide (∀ i, i < k → 0 ≤ l.getD i 0 ∧ l.getD i 0 < n ∧ l.getD i 0 ∉ l.take i)
theorem okAt_zero (l : List Int) (n : Nat) : okAt l n 0 = true := decide_eq_true (fun i hi => absurd hi (Nat.not_lt_zero _))
theorem okAt_no {l : List Int} {n k : Nat} (h : okAt l n k = false) : okAt l n (k + 1) = false := by
  unfold okAt at *
  rw [decide_eq_false_iff_not] at *
  exact fun h2 => h fun i hi => h2 i (by omega)
theorem okAt_yes {l : List Int} {n k : Nat} (h : okAt l n k = true) : okAt l n (k + 1) = decide (0 ≤ l.getD k 0 ∧ l.getD k 0 < n ∧ l.getD k 0 ∉ l.take k) := by
  unfold okAt at *
  rw [decide_eq_true_eq] at h
  rw [decide_eq_decide]
  constructor
  · exact fun h2 => h2 k (Nat.lt_succ_self _)
  · intro h2 i hi
    rcases Nat.lt_or_ge i k with h3 | h3
    · exact h i h3
    · obtain rfl : i = k := by omega
      exact h2
theorem okAt_good {l : List Int} {n m : Nat} (h : l.length = m) : okAt l n m = true ↔ Good l n := by
  unfold okAt Good
  rw [h, decide_eq_true_eq]
/-- A slice of ints as an argument: its room is no less than its length. -/
def IntsC (w : World) (v : Value) (l : List Int) : Prop :=
  ∃ ao cap, v = .slice ao l.length cap ∧ l.length ≤ cap ∧ cap ≤ maxLen ∧ (0 < l.length → ∃ b o, ao = some ⟨b, o, none⟩ ∧ ∀ j, j < l.length → w.cell? ⟨b, o + j, none⟩ = some (.int .i64 (l.getD j 0)))
theorem IntsC.at {v : Value} {l : List Int} (h : IntsC w v l) : IntsAt w v l := by
  obtain ⟨ao, cap, h1, _, _, h2⟩ := h
  exact ⟨ao, cap, h1, h2⟩
section
open Go.ChangeShapes Go.WideShapes
theorem cells_int : Try.prog.cellsOf 3 = 1 := by kernel_rfl
set_option maxRecDepth 100000 in
theorem open_intsC {H : Type} {enc : TypeId × Value → H} {base : Nat} {spare : Nat → Bool} {held : Bool} {b0 : Nat} {r : Reach} {v : Value} {d : DataW H} {ps : List MemPlace} (hv : Value.okWide Try.prog w r b0 39 v) (h : DataW.Trod enc Try.prog w base spare held 39 v d ps) : ∃ l : List Int, IntsC w v l := by
  obtain ⟨a0, len, cap, rfl⟩ := okWide_slice Try.underlying39 hv
  obtain ⟨fuel, hf⟩ := h
  obtain ⟨ao, len', cap', hcs, hlc, hcm, h0, hel⟩ := slice_trod Try.underlying39 (by rw [cells_int]; omega) hf
  simp only [Value.cells, List.cons.injEq, Value.slice.injEq, and_true] at hcs
  obtain ⟨rfl, rfl, rfl⟩ := hcs
  rw [cells_int] at hel
  have key : ∀ i, ∃ z : Int, i < len → ∃ b o, a0 = some ⟨b, o, none⟩ ∧ w.cell? ⟨b, o + i, none⟩ = some (.int .i64 z) := by
    intro i
    by_cases hi : i < len
    · obtain ⟨b, o, es, n, y, rfl, hl, hcell, hy⟩ := hel i hi
      obtain ⟨z, rfl, _, _⟩ := DataW.trod_int Try.underlying3 hy
      refine ⟨z, fun _ => ⟨b, o, rfl, ?_⟩⟩
      have := hcell 0 (by omega)
      rw [Nat.mul_one, Nat.add_zero] at this
      exact this
    · exact ⟨0, fun h => absurd h hi⟩
  let f := fun i => (key i).choose
  have hf2 : ∀ i, i < len → ∃ b o, a0 = some ⟨b, o, none⟩ ∧ w.cell? ⟨b, o + i, none⟩ = some (.int .i64 (f i)) := fun i => (key i).choose_spec
  refine ⟨(List.range len).map f, a0, cap, by simp, by simpa using hlc, hcm, fun hp => ?_⟩
  have hp' : 0 < len := by simpa using hp
  obtain ⟨b, o, rfl⟩ := h0 hp'
  refine ⟨b, o, rfl, fun j hj => ?_⟩
  have hj' : j < len := by simpa using hj
  obtain ⟨b', o', he', hc'⟩ := hf2 j hj'
  simp only [Option.some.injEq, Addr.mk.injEq, and_true] at he'
  obtain ⟨rfl, rfl⟩ := he'
  rw [hc', List.getD_eq_getElem?_getD, List.getElem?_map, List.getElem?_range hj']
  rfl
end
theorem ints_take {b o n c : Nat} {l : List Int} (hc : ∀ j, j < n → w.cell? ⟨b, o + j, none⟩ = some (.int .i64 (l.getD j 0))) (hl : l.length = n) {k : Nat} (hk : k ≤ n) : IntsAt w (.slice (some ⟨b, o, none⟩) k c) (l.take k) := by
  have e : (l.take k).length = k := by rw [List.length_take]; omega
  refine ⟨_, c, by rw [e], fun _ => ⟨b, o, rfl, fun j hj => ?_⟩⟩
  rw [e] at hj
  rw [hc j (by omega), List.getD_eq_getElem?_getD, List.getD_eq_getElem?_getD, List.getElem?_take, if_pos hj]
set_option maxRecDepth 100000 in
set_option maxHeartbeats 4000000 in
theorem makes_main (n : Nat) (b c f : Int) {w : World} {v : Value} {l : List Int} (hv : IntsC w v l) (hl : Looks n b c f l.length) :
    Calls Try.prog 4 #[.int .i64 n, .int .i64 b, .int .i64 c, .int .i64 f, v] w fun e w' => e = .returned (.bool true) ∧ Below w.heap.size w w' := by
  have K := Lib.hid (known_any w)
  have DN : Hid (∀ w, Calls Try.prog 7 #[.int .i64 n] w fun e w' => ∃ d M, e = .returned (.tuple #[.pointer (some ⟨d, 0, none⟩), .int .i64 0]) ∧ Disk w' d M (DS.fresh n) ∧ Step [] M w w') := fun w => Disk.new (n := n) (by have := hl.1; omega) (by have := hl.2.1; omega)
  obtain ⟨ao, cap, rfl, hcap1, hcap2, hc⟩ := hv
  have CC := Lib.hid hc
  have CP := Lib.hid (And.intro hcap1 hcap2)
  clear hc hcap1 hcap2
  generalize hm : l.length = m at *
  have HM := Lib.hid hm
  clear hm
  obtain ⟨a1, a2, b1, b2, c1, c2, f1, f2, m1⟩ := hl
  have g1 : ¬ (n : Int) < 1 := by omega
  have g2 : ¬ (50 : Int) < n := by omega
  have g3 : ¬ b < -3 := by omega
  have g4 : ¬ 60 < b := by omega
  have g5 : ¬ c < -3 := by omega
  have g6 : ¬ 60 < c := by omega
  have g7 : ¬ f < -3 := by omega
  have g8 : ¬ 70 < f := by omega
  have g9 : ¬ (60 : Int) < m := by omega
  go_enter Try.func4, Try.ntmps4
  go_wp2_with (first
    | (go_at_call 6; refine K.out.mono ?_; rintro e w1 ⟨rfl, hO1⟩; have O1 := Lib.hid hO1; clear hO1)
    | (go_at_call 7; refine (DN.out _).mono ?_; rintro e w2 ⟨d, M2, rfl, hD2, hS2⟩; have D2 := Lib.hid hD2; have S2 := Lib.hid hS2; clear hD2 hS2))
  have LD0 : Hid (Laid w w2 d n 0 M2 (DS.fresh n)) := ⟨D2.out, ⟨rfl, rfl, rfl⟩, Int.le_refl _, Int.le_refl _, Nat.le_refl _, by simp [DS.fresh], fun i hi => absurd hi (Nat.not_lt_zero _), O1.out.trans S2.out.1 (by simp), fun x hx => by
    rcases S2.out.2 x hx with h | h
    · cases h
    · have := O1.out.size; omega⟩
  clear g1 g2 g3 g4 g5 g6 g7 g8 g9
  go_loopg [13] n (fun gk i wx => ∃ (k : Nat) (M : List Nat) (s : DS), gk = n - k ∧ k ≤ n ∧ i = .int .i64 k ∧ Laid w wx d n k M s)
  case atStart => exact ⟨0, M2, _, rfl, Nat.zero_le _, rfl, LD0.out⟩
  case round =>
    obtain ⟨k, M, s, hgk, hk, rfl, hL⟩ := hrel
    have HGK := Lib.hid hgk
    have LD := Lib.hid hL
    clear hgk hL LD0
    by_cases hlt : k < n
    · have hki : (k : Int) < n := by omega
      have hk0 : (0 : Int) ≤ k := by omega
      have eu : ((UInt8.ofNat k).toNat : Int) = (k : Int) := by rw [UInt8.toNat_ofNat']; omega
      have hsc := sector_any (UInt8.ofNat k) wr
      rw [eu] at hsc
      have SC := Lib.hid hsc
      clear eu hsc
      have HB := Lib.hid (sec5_len (UInt8.ofNat k))
      have HE : Hid (∀ S2, S2 = s.lay k (sec5 (UInt8.ofNat k)) → s.write (k : Int) (sec5 (UInt8.ofNat k)) = (S2, 0)) := fun S2 e => by
        rw [e]
        exact write_ok LD.out.well.err (by rw [LD.out.len]; exact hlt) (sec5_len _)
      go_wp2_with (first
        | (go_at_call 14; refine SC.out.mono ?_; rintro e w3 ⟨rfl, hb3, hO3⟩; have B3 := Lib.hid hb3; have O3 := Lib.hid hO3; have D3 := Lib.hid (LD.out.disk.past hO3); have N3 : Hid (wr.heap.size ∉ M) := (fun hx => Nat.lt_irrefl _ (LD.out.disk.lt _ hx)); clear hb3 hO3)
        | (go_at_call 13; refine (D3.out.write' (HE.out _ rfl) LD.out.c0 (by have := LD.out.c; omega) (by have := LD.out.r; omega) (Blk.bytes B3.out HB.out.symm) (notIn rfl N3.out)).mono ?_; rintro e w4 ⟨rfl, M4, hD4, hS4⟩; have D4 := Lib.hid hD4; have S4 := Lib.hid hS4; clear hD4 hS4))
      go_roundg (n - (k + 1))
      case measure => have := HGK.out; omega
      case rel =>
        have hw := LD.out.well.changed
        refine ⟨k + 1, M4, _, rfl, by omega, by go_num, D4.out, ⟨hw.1, hw.2, hw.3⟩, ?_, ?_, ?_, ?_, fun i hi => ?_, ?_, fun x hx => ?_⟩
        · show 0 ≤ s.count + 1; have := LD.out.c0; omega
        · show s.count + 1 ≤ _; have := LD.out.c; omega
        · show (s.row ++ [_]).length ≤ _; have := LD.out.r; simp; omega
        · show (s.now.set _ _).length = n; rw [List.length_set]; exact LD.out.len
        · show (s.now.set k (sec5 (UInt8.ofNat k))).getD i [] = _
          rcases Nat.lt_or_ge i k with h | h
          · rw [getD_set_ne _ _ _ _ _ (by omega)]; exact LD.out.now i h
          · obtain rfl : i = k := by omega
            exact getD_set_self _ _ _ _ (by rw [LD.out.len]; exact hlt)
        · exact (LD.out.own.trans O3.out (by simp)).trans S4.out.1 (fun x hx => .inr (LD.out.new x hx))
        · rcases S4.out.2 x hx with h1 | h1
          · exact LD.out.new x h1
          · have := LD.out.own.size; have := O3.out.size; omega
    · obtain rfl : k = n := by omega
      have hki : ¬ (k : Int) < k := by omega
      by_cases hfit : Fits k b c f
      · have hf2 := hfit
        obtain ⟨h1, h2, h3, h4, h5, h6⟩ := hf2
        obtain ⟨b, rfl⟩ := Int.eq_ofNat_of_zero_le h1
        obtain ⟨c, rfl⟩ := Int.eq_ofNat_of_zero_le (show 0 ≤ c by omega)
        obtain ⟨f, rfl⟩ := Int.eq_ofNat_of_zero_le (show 0 ≤ f by omega)
        have YO := Lib.hid (new_ok LD.out.disk LD.out.well LD.out.c0 k LD.out.c LD.out.r b c f (by rw [LD.out.len]; exact hfit))
        clear hfit
        have e0 : (b : Int) < 0 ↔ False := by simp
        have i1 : ¬ (b : Int) < 0 := by omega
        have i2 : ¬ (c : Int) < 1 := by omega
        have i3 : ¬ (k : Int) < b + c := by omega
        have i4 : ¬ (f : Int) < 1 := by omega
        have i5 : ¬ (64 : Int) < f := by omega
        clear e0
        have CU : Hid (count (PS.new s b c f).used = 0) := by
          show count (List.replicate c false) = 0
          unfold count
          rw [List.count_replicate]; simp
        have CH : Hid ((PS.new s b c f).heldIds = []) := by
          have : (rising []).length = 0 := rising_len []
          exact List.eq_nil_of_length_eq_zero this
        go_wp2_with (first
          | (go_at_call 8; refine YO.out.mono ?_; rintro e w3 ⟨p, M3, rfl, hP3, hS3⟩; have P3 := Lib.hid hP3; have S3 := Lib.hid hS3; clear hP3 hS3)
          | (go_at_call 15; refine P3.out.usedList.mono ?_; rintro e w4 ⟨v4, rfl, hr4, hO4⟩; obtain ⟨a4, c4, e4, _⟩ := hr4; rw [CU.out] at e4; subst e4; have O4 := Lib.hid hO4; clear hO4)
          | (go_at_call 16; refine (P3.out.past O4.out).heldList.mono ?_; rintro e w5 ⟨v5, rfl, hr5⟩; rw [CH.out] at hr5; obtain ⟨a5, c5, rfl⟩ := owns_shape0 hr5.1; have O5 := Lib.hid (O4.out.trans hr5.2.2 (by simp)); clear hr5))
        have P5 := Lib.hid (P3.out.past O5.out)
        have W5 : Hid (Only [] w w5) := (LD.out.own.trans S3.out.1 (fun x hx => .inr (LD.out.new x hx))).trans O5.out (by simp)
        go_loopg [15, 16] m (fun gj s15 x wx => ∃ j : Nat, gj = m - j ∧ j ≤ m ∧ x = .int .i64 j ∧ s15 = .bool (okAt l c j) ∧ Only [] w5 wx)
        case atStart => exact ⟨0, rfl, Nat.zero_le _, rfl, by rw [okAt_zero], Only.refl _ _⟩
        case round =>
          obtain ⟨j, hgj, hj, rfl, rfl, hO⟩ := hrel
          rename World => wx
          have HGJ := Lib.hid hgj
          have OX := Lib.hid hO
          clear hgj hO
          by_cases hjm : j < m
          · obtain ⟨eb, eo, rfl, hce⟩ := CC.out (by omega)
            have OWX := Lib.hid (W5.out.trans OX.out (by simp))
            have cj := OWX.out.cell (hce j hjm) (by simp)
            have HCJ := Later.cell cj
            have LH : Hid (∀ y : Later wx, Calls Try.prog 17 #[.slice (some ⟨eb, eo, none⟩) j cap, .int .i64 (l.getD j 0)] y.v fun e w' => e = .returned (.bool (decide (l.getD j 0 ∈ l.take j))) ∧ ∃ z : Later wx, w' = z.v) := fun y =>
              (has_any (ints_take (fun i hi => y.h.cell (OWX.out.cell (hce i hi) (by simp)) (by simp)) HM.out (by omega)) (by rw [List.length_take]; omega) (l.getD j 0)).mono fun e w' ⟨h1, h2⟩ => ⟨h1, y, h2.symm⟩
            clear hce cj
            have hji : (j : Int) < m := by omega
            have hj0 : (0 : Int) ≤ j := by omega
            obtain ⟨ok, hok⟩ : ∃ ok, okAt l c j = ok := ⟨_, rfl⟩
            have HOK := Lib.hid hok
            rw [hok]
            clear hok
            obtain ⟨x, hx⟩ : ∃ x, l.getD j 0 = x := ⟨_, rfl⟩
            have HX := Lib.hid hx
            rw [hx] at HCJ LH
            clear hx
            obtain ⟨hb, hhb⟩ : ∃ hb, decide (x ∈ l.take j) = hb := ⟨_, rfl⟩
            have HHB := Lib.hid hhb
            rw [hhb] at LH
            clear hhb
            cases ok with
            | false =>
              go_wp2_with fail
              refine wp_region_later (Only.refl _ _) (by kernel_rfl) (by kernel_rfl) ?_
              repeat (go_big_quiet_step (fail))
              refine wpQuiet_nil ?_
              rintro _ ⟨xq, rfl⟩
              go_wp2_with fail
              go_roundg (m - (j + 1))
              case measure => have := HGJ.out; omega
              case rel => exact ⟨j + 1, rfl, by omega, by go_num, by rw [okAt_no HOK.out], OX.out.trans xq.h (by simp)⟩
            | true =>
              have OS := Lib.hid (okAt_yes HOK.out)
              by_cases x0 : 0 ≤ x
              · have x0b : decide (0 ≤ x) = true := by simpa using x0
                by_cases x1 : x < c
                · have x1b : decide (x < c) = true := by simpa using x1
                  have OZ : Hid (okAt l c (j + 1) = !hb) := by
                    show _ = _
                    rw [OS.out, HX.out, ← HHB.out]
                    simp [x0, x1]
                  have hjc : (j : Int) ≤ cap := by have := CP.out.1; omega
                  have hcm : cap ≤ 9223372036854775807 := by have := CP.out.2; unfold maxLen at this; omega
                  cases hb
                  all_goals
                    go_wp2_with fail
                    refine wp_region_later (Only.refl _ _) (by kernel_rfl) (by kernel_rfl) ?_
                    repeat (go_big_quiet_step ((go_at_call 17; exact LH.out _)))
                    refine wpQuiet_nil ?_
                    rintro _ ⟨xq, rfl⟩
                    go_wp2_with fail
                    go_roundg (m - (j + 1))
                    case measure => have := HGJ.out; omega
                    case rel => exact ⟨j + 1, rfl, by omega, by go_num, by rw [OZ.out]; rfl, OX.out.trans xq.h (by simp)⟩
                · have x1b : decide (x < c) = false := by simpa using x1
                  have OZ : Hid (okAt l c (j + 1) = false) := by
                    show _ = _
                    rw [OS.out, HX.out]
                    simp; omega
                  go_wp2_with fail
                  refine wp_region_later (Only.refl _ _) (by kernel_rfl) (by kernel_rfl) ?_
                  repeat (go_big_quiet_step (fail))
                  refine wpQuiet_nil ?_
                  rintro _ ⟨xq, rfl⟩
                  go_wp2_with fail
                  go_roundg (m - (j + 1))
                  case measure => have := HGJ.out; omega
                  case rel => exact ⟨j + 1, rfl, by omega, by go_num, by rw [OZ.out], OX.out.trans xq.h (by simp)⟩
              · have x0b : decide (0 ≤ x) = false := by simpa using x0
                have OZ : Hid (okAt l c (j + 1) = false) := by
                  show _ = _
                  rw [OS.out, HX.out]
                  simp; omega
                go_wp2_with fail
                refine wp_region_later (Only.refl _ _) (by kernel_rfl) (by kernel_rfl) ?_
                repeat (go_big_quiet_step (fail))
                refine wpQuiet_nil ?_
                rintro _ ⟨xq, rfl⟩
                go_wp2_with fail
                go_roundg (m - (j + 1))
                case measure => have := HGJ.out; omega
                case rel => exact ⟨j + 1, rfl, by omega, by go_num, by rw [OZ.out], OX.out.trans xq.h (by simp)⟩
          · obtain rfl : j = m := by omega
            have hji : ¬ (j : Int) < j := by omega
            have OWX := Lib.hid (W5.out.trans OX.out (by simp))
            have HNL : Hid ((l.map (Value.int .i64)).length = j * 1) := by show _ = _; rw [List.length_map, HM.out]; omega
            have HNC : Hid (0 < j → ∃ ad, ao = some ad ∧ ∀ i u, (l.map (Value.int .i64))[i]? = some u → wx.cell? (ad.add i) = some u) := fun h0 => by
              obtain ⟨eb, eo, rfl, hce⟩ := CC.out h0
              refine ⟨_, rfl, fun i u hu => ?_⟩
              have hi : i < l.length := by
                rcases Nat.lt_or_ge i l.length with h | h
                · exact h
                · rw [List.getElem?_eq_none (by rw [List.length_map]; exact h)] at hu; cases hu
              rw [List.getElem?_map, List.getElem?_eq_getElem hi] at hu
              rw [add_plain, OWX.out.cell (hce i (by rw [← HM.out]; exact hi)) (by simp), ← hu, List.getD_eq_getElem?_getD, List.getElem?_eq_getElem hi]
              rfl
            obtain ⟨ok, hok⟩ : ∃ ok, okAt l c j = ok := ⟨_, rfl⟩
            have GDI : Hid (ok = true ↔ Good l c) := by
              show _ ↔ _
              rw [← hok]; exact okAt_good HM.out
            rw [hok]
            clear hok
            go_wp2_with (refine wpList_grow rfl (.const (.slice none 0 0)) (.tmp 163) 39 rfl 3 Try.underlying39 (info_parts info_int) rfl (by omega) (.slice none 0 0) 0 [] rfl ⟨rfl, .inl ⟨rfl, rfl⟩⟩ ao j cap rfl (l.map (Value.int .i64)) HNL.out HNC.out (by intro u hu; obtain ⟨z, _, rfl⟩ := List.mem_map.1 hu; rfl) (by omega) (by decide) ?_; intro v6 w6 hg6; have O6 : Hid (Only [] wx w6) := hg6.only; have IA6 : Hid (IntsAt w6 v6 l) := owns_ints (by have := hg6.own; simpa [HM.out] using this); clear hg6)
            have P6 := Lib.hid ((P5.out.past OX.out).past O6.out)
            refine (P6.out.adopt IA6.out (by rw [HM.out]; omega)).mono ?_
            have hul : (PS.new s b c f).used.length = c := by simp [PS.new]
            rw [hul]
            rintro e w7 (⟨hgood, rfl, M7, hP7, hS7⟩ | ⟨hbad, rfl, hO7⟩)
            · obtain rfl : ok = true := GDI.out.2 hgood
              have HG := Lib.hid hgood
              have P7 := Lib.hid hP7
              have S7 := Lib.hid hS7
              have CU7 : Hid (count ((PS.new s b c f).adopted l).used = j) := by
                show count (marks l (List.replicate c false).length) = j
                have := marks_count hgood j (by rw [HM.out]; exact Nat.le_refl _)
                rw [List.take_of_length_le (by rw [HM.out]; exact Nat.le_refl _)] at this
                rw [List.length_replicate]; exact this
              clear hgood hP7 hS7 hul
              go_wp2_with (go_at_call 15; refine P7.out.usedList.mono ?_; rintro e w8 ⟨v8, rfl, hr8, hO8⟩; obtain ⟨a8, c8, e8, _⟩ := hr8; rw [CU7.out] at e8; subst e8; have O8 := Lib.hid hO8; clear hO8)
              have LK : Hid (Looked w w8 p d (k + 2 * 0) c b l M7 ((PS.new s b c f).adopted l)) := by
                refine ⟨P7.out.past O8.out, by show marks l (List.replicate c false).length = _; rw [List.length_replicate], (fun f hf => by cases hf), fun id hid => ?_, ?_, fun x hx => ?_⟩
                · rw [PS.page_out (fun f hf => by cases hf)]
                  show s.now.getD (b + id) [] = _
                  exact LD.out.now (b + id) (by omega)
                · exact (((OWX.out.trans O6.out (by simp)).trans S7.out.1 (fun x hx => by
                    rcases S3.out.2 x hx with h | h
                    · exact .inr (LD.out.new x h)
                    · right; have := LD.out.own.size; omega)).trans O8.out (by simp))
                · rcases S7.out.2 x hx with h1 | h1
                  · rcases S3.out.2 x h1 with h | h
                    · exact LD.out.new x h
                    · have := LD.out.own.size; omega
                  · have := OWX.out.size; have := O6.out.size; omega
              clear P7 S7 P6 P5 P3 S3 CU7 CU CH YO
              go_loopg [17] j (fun gq x wz => ∃ (q : Nat) (M : List Nat) (S : PS), gq = j - q ∧ q ≤ j ∧ x = .int .i64 q ∧ Looked w wz p d (k + 2 * q) c b l M S)
              case atStart => exact ⟨0, M7, _, rfl, Nat.zero_le _, rfl, LK.out⟩
              case round =>
                obtain ⟨q, M8, S8, hgq, hq, rfl, hLK⟩ := hrel
                rename World => wz
                have HGQ := Lib.hid hgq
                have LL := Lib.hid hLK
                clear hgq hLK LK
                by_cases hqj : q < j
                · obtain ⟨eb, eo, rfl, hce⟩ := CC.out (by omega)
                  have cq := LL.out.own.cell (hce q hqj) (by simp)
                  have CE := Lib.hid (hce q hqj)
                  clear hce
                  obtain ⟨g1, g2, _⟩ := HG.out q (by rw [HM.out]; exact hqj)
                  have hmem : l.getD q 0 ∈ l := by
                    rw [List.getD_eq_getElem?_getD, List.getElem?_eq_getElem (by rw [HM.out]; exact hqj)]
                    exact List.getElem_mem _
                  obtain ⟨id, hid⟩ := Int.eq_ofNat_of_zero_le g1
                  rw [hid] at cq CE g2 hmem
                  have hidc : id < c := by omega
                  have HUL : Hid (S8.is (id : Int) = true) := PS.is_nat.2 (by
                    rw [LL.out.used, marks_len, marks_get hidc]
                    exact ⟨hidc, decide_eq_true hmem⟩)
                  have GE := Lib.hid (LL.out.pool.get_yes (by omega) id HUL.out)
                  have PG := Lib.hid (LL.out.page id hidc)
                  clear g1 g2 hmem hid
                  have hqi : (q : Int) < j := by omega
                  have hq0 : (0 : Int) ≤ q := by omega
                  have hbi : b + id ≤ 255 := by omega
                  go_wp2_with fail
                  refine GE.out.mono ?_
                  rintro e w9 ⟨v9, r9, S9, M9, rfl, hh9, hg9, hP9, hS9⟩
                  obtain ⟨rfl, he9⟩ := hh9.easy LL.out.pool.fine LL.out.easy
                  obtain ⟨_, hr9, hn9⟩ | ⟨h, _⟩ := hg9
                  case inr => exact absurd rfl h
                  rw [PG.out] at hr9
                  obtain ⟨a9, c9, e9⟩ := owns_shape2 hr9
                  rw [sec5_len] at e9
                  subst e9
                  have R9 := Lib.hid hr9
                  have LL9 : Hid (Looked w w9 p d (k + 2 * (q + 1)) c b l M9 S9) := by
                    refine ⟨hP9.more (by omega), by rw [hh9.same.1]; exact LL.out.used, he9, fun i hi => by rw [hh9.page LL.out.pool.fine]; exact LL.out.page i hi, LL.out.own.trans hS9.1 (fun x hx => .inr (LL.out.new x hx)), fun x hx => ?_⟩
                    rcases hS9.2 x hx with h1 | h1
                    · exact LL.out.new x h1
                    · have := LL.out.own.size; omega
                  have cq9 := LL9.out.own.cell CE.out (by simp)
                  have eu : ((UInt8.ofNat (b + id)).toNat : Int) = (b : Int) + id := by rw [UInt8.toNat_ofNat']; omega
                  have hsc := sector_any (UInt8.ofNat (b + id)) w9
                  rw [eu] at hsc
                  have SC := Lib.hid hsc
                  clear hh9 hr9 hn9 hP9 hS9 he9 eu hsc
                  go_wp2_with (first
                    | (go_at_call 14; refine SC.out.mono ?_; rintro e w10 ⟨rfl, hb10, hO10⟩; have B10 := Lib.hid hb10; have O10 := Lib.hid hO10; clear hb10 hO10)
                    | (go_at_call 12; refine (bytesf_yes (R9.out.off O10.out (Off.nil _ _)).at (Blk.bytes B10.out (sec5_len _).symm)).mono ?_; rintro e w11 ⟨rfl, rfl⟩))
                  go_roundg (j - (q + 1))
                  case measure => have := HGQ.out; omega
                  case rel =>
                    have h10 := LL9.out
                    exact ⟨q + 1, M9, S9, rfl, by omega, by go_num, h10.pool.past O10.out, h10.used, h10.easy, h10.page, h10.own.trans O10.out (by simp), h10.new⟩
                · obtain rfl : q = j := by omega
                  have hqi : ¬ (q : Int) < q := by omega
                  go_wp2_with fail
                  go_ret
                  exact ⟨rfl, LL.out.own.below (Nat.le_refl _) (by simp)⟩
            · have hok : ok = false := by
                cases ok with
                | false => rfl
                | true => exact absurd (GDI.out.1 rfl) hbad
              subst hok
              have O7 := Lib.hid hO7
              clear hbad hO7 hul
              go_wp2_with (go_at_call 15; refine (P6.out.past O7.out).usedList.mono ?_; rintro e w8 ⟨v8, rfl, hr8, hO8⟩; obtain ⟨a8, c8, e8, _⟩ := hr8; rw [CU.out] at e8; subst e8; have O8 := Lib.hid hO8; clear hO8)
              go_ret
              exact ⟨rfl, (((OWX.out.trans O6.out (by simp)).trans O7.out (by simp)).trans O8.out (by simp)).below (Nat.le_refl _) (by simp)⟩
      · have NO := Lib.hid (new_no LD.out.disk b c f (by rw [LD.out.len]; exact hfit) (by omega) (by omega))
        unfold Fits at hfit
        by_cases h1 : b < 0
        · clear hfit
          go_wp2_with (go_at_call 8; refine NO.out.mono ?_; rintro e w3 ⟨rfl, rfl⟩)
          go_ret
          exact ⟨rfl, LD.out.own.below (Nat.le_refl _) (by simp)⟩
        by_cases h2 : c < 1
        · clear hfit
          go_wp2_with (go_at_call 8; refine NO.out.mono ?_; rintro e w3 ⟨rfl, rfl⟩)
          go_ret
          exact ⟨rfl, LD.out.own.below (Nat.le_refl _) (by simp)⟩
        by_cases h3 : (k : Int) < b + c
        · clear hfit
          go_wp2_with (go_at_call 8; refine NO.out.mono ?_; rintro e w3 ⟨rfl, rfl⟩)
          go_ret
          exact ⟨rfl, LD.out.own.below (Nat.le_refl _) (by simp)⟩
        by_cases h4 : f < 1
        · clear hfit
          go_wp2_with (go_at_call 8; refine NO.out.mono ?_; rintro e w3 ⟨rfl, rfl⟩)
          go_ret
          exact ⟨rfl, LD.out.own.below (Nat.le_refl _) (by simp)⟩
        have h5 : 64 < f := by omega
        clear hfit
        go_wp2_with (go_at_call 8; refine NO.out.mono ?_; rintro e w3 ⟨rfl, rfl⟩)
        go_ret
        exact ⟨rfl, LD.out.own.below (Nat.le_refl _) (by simp)⟩
/-- PoolMakes at every input. -/
theorem makes_law {w : World} (a : Int) (_ : -9223372036854775808 ≤ a ∧ a ≤ 9223372036854775807) (b : Int) (_ : -9223372036854775808 ≤ b ∧ b ≤ 9223372036854775807) (c : Int) (_ : -9223372036854775808 ≤ c ∧ c ≤ 9223372036854775807) (f : Int) (_ : -9223372036854775808 ≤ f ∧ f ≤ 9223372036854775807) (v : Value) (l : List Int) (hv : IntsC w v l) :
    Calls Try.prog 4 #[.int .i64 a, .int .i64 b, .int .i64 c, .int .i64 f, v] w fun e w' => e = .returned (.bool true) ∧ Below w.heap.size w w' := by
  by_cases h : Looks a b c f l.length
  · obtain ⟨n, rfl⟩ := Int.eq_ofNat_of_zero_le (show 0 ≤ a by have := h.1; omega)
    exact makes_main n b c f hv h
  · exact makes_out a b c f hv.at h
end Go.Proofs.Ytmgifohjoakdjaa.P
