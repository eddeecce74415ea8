/-
  The walk of PoolLasts.
-/
import Derived.Test.YtmgifohjoakdjaaPoolJ
import Derived.Test.YtmgifohjoakdjaaPoolM
import Derived.Test.YtmgifohjoakdjaaOpen
import Derived.Deep.LoopGhost
namespace Go.Proofs.Ytmgifohjoakdjaa.P
set_option linter.unusedSimpArgs false
open Go Go.RowKit Go.Proofs.Ytmgifohjoakdjaa Go.Proofs.Ytmgifohjoakdjaa.D Go.Proofs.Ytmgifohjoakdjaa.B Go.Proofs.Ytmgifohjoakdjaa.I
set_option linter.unusedVariables false
variable {w w' : World} {p d ub hm pm asked k : Nat} {MD M : List Nat} {L : List Pl} {S : PS}

/-! ### plain -/
def frL (fi ls : List UInt8) (j : Nat) : Fr := ⟨j, sec5 (fi.getD j 0), (ls.getD j 0).toNat, true⟩
/-- So many pages were put. -/
def LS (fi ls : List UInt8) (n f i : Nat) : PS := ⟨DS.fresh n, 0, f, (List.range n).map fun j => decide (j < i), (List.range i).map (frL fi ls), 0⟩
theorem LS_zero (fi ls : List UInt8) (n f : Nat) : LS fi ls n f 0 = PS.new (DS.fresh n) 0 n f := by
  have : ((List.range n).map fun j => decide (j < 0)) = List.replicate n false := by
    refine List.ext_getElem (by simp) fun i h1 h2 => ?_
    simp
  unfold LS PS.new
  rw [this]; rfl
theorem LS_used {fi ls : List UInt8} {n f i j : Nat} (h : j < n) : (LS fi ls n f i).used.getD j false = decide (j < i) := by
  show ((List.range n).map _).getD j false = _
  rw [List.getD_eq_getElem?_getD, List.getElem?_map, List.getElem?_range h]; rfl
theorem LS_len {fi ls : List UInt8} {n f i : Nat} : (LS fi ls n f i).used.length = n := by simp [LS]
theorem LS_held {fi ls : List UInt8} {n f i : Nat} : ∀ x ∈ (LS fi ls n f i).held, x.id < i := fun x hx => by
  obtain ⟨j, hj, rfl⟩ := List.mem_map.1 hx
  exact List.mem_range.1 hj
/-- The i-th page is given out. -/
def LA (fi ls : List UInt8) (n f i : Nat) : PS := { LS fi ls n f i with held := (LS fi ls n f i).held ++ [⟨i, zeros, 0, true⟩], used := (LS fi ls n f i).used.set i true }
theorem LS_alloc {fi ls : List UInt8} {n f i : Nat} (hi : i < n) (hf : n ≤ f) {id : Nat} {r : Int} {S' : PS} (h : Allocs (LS fi ls n f i) id r S') : id = i ∧ r = 0 ∧ S' = LA fi ls n f i := by
  have hu : (LS fi ls n f i).used.getD i false = false := by rw [LS_used hi]; simp
  have hl : ∀ j, j < i → (LS fi ls n f i).used.getD j false = true := fun j hj => by rw [LS_used (by omega)]; simpa using hj
  have room : ∀ {r : Int} {S1 : PS}, Frees (LS fi ls n f i) r S1 → r = 0 ∧ S1 = LS fi ls n f i := fun h => by
    have hlen : (LS fi ls n f i).held.length = i := by simp [LS]
    cases h with
    | room => exact ⟨rfl, rfl⟩
    | none h1 => rw [hlen] at h1; have : (LS fi ls n f i).frames = f := rfl; omega
    | one h1 => rw [hlen] at h1; have : (LS fi ls n f i).frames = f := rfl; omega
  cases h with
  | all h => rw [h i (by rw [LS_len]; exact hi)] at hu; cases hu
  | full j hj hu' hl' h =>
    cases h with
    | full hi2 hfr => exact absurd (room hfr).1 (by decide)
  | one j hj hu' hl' h =>
    obtain rfl : id = i := first_free hu' hl' hu hl
    cases h with
    | held f0 hf0 hi0 => exact absurd hi0 (Nat.ne_of_lt (LS_held f0 hf0))
    | more hi2 hfr =>
      obtain ⟨_, e⟩ := room hfr
      subst e
      exact ⟨rfl, rfl, rfl⟩
theorem LS_put {fi ls : List UInt8} {n f i : Nat} (hi : i < n) {r : Int} {S' : PS} (h : Lays (LA fi ls n f i) i (sec5 (fi.getD i 0)) (ls.getD i 0).toNat r S') : r = 0 ∧ S' = LS fi ls n f (i + 1) := by
  have hmem : (⟨i, zeros, 0, true⟩ : Fr) ∈ (LA fi ls n f i).held := by simp [LA]
  cases h with
  | held f0 hf0 hi0 =>
    refine ⟨rfl, ?_⟩
    have e0 : f0 = ⟨i, zeros, 0, true⟩ := by
      rcases List.mem_append.1 hf0 with h1 | h1
      · exact absurd hi0 (Nat.ne_of_lt (LS_held f0 h1))
      · simpa using h1
    subst e0
    have e1 : ((LS fi ls n f i).held ++ [(⟨i, zeros, 0, true⟩ : Fr)]).map (fun x => if x.id = i then (⟨i, sec5 (fi.getD i 0), (ls.getD i 0).toNat, true⟩ : Fr) else x) = (List.range (i + 1)).map (frL fi ls) := by
      rw [List.range_succ, List.map_append, List.map_append]
      congr 1
      · conv => rhs; rw [← List.map_id ((List.range i).map (frL fi ls))]
        apply List.map_congr_left
        intro x hx
        rw [if_neg (Nat.ne_of_lt (LS_held x hx))]; rfl
      · simp [frL]
    have e2 : (LS fi ls n f i).used.set i true = (List.range n).map fun j => decide (j < i + 1) := by
      refine List.ext_getElem (by simp [LS]) fun j h1 h2 => ?_
      rw [List.getElem_set]
      simp only [LS, List.getElem_map, List.getElem_range]
      split
      · next e => subst e; simp
      · next e => rw [decide_eq_decide]; omega
    simp only [LA, PS.setF, LS, if_true, Nat.max_zero] at e1 e2 ⊢
    rw [e1, e2]
  | full hi2 hfr => exact absurd rfl (hi2 _ hmem)
  | more hi2 hfr => exact absurd rfl (hi2 _ hmem)
/-! ### what is sure -/
def Settles (s : DS) : Prop := s.row.foldl (fun l x => l.set x.1 x.2) s.sure = s.now
theorem Settles.lay {s : DS} (h : Settles s) (i : Nat) (l : List UInt8) : Settles (s.lay i l) := by
  show (s.row ++ [(i, l)]).foldl _ s.sure = s.now.set i l
  rw [List.foldl_append, show s.row.foldl (fun l x => l.set x.1 x.2) s.sure = s.now from h]; rfl
theorem Settles.fold (S : PS) : ∀ (ids : List Int) {s : DS}, Settles s → Settles (ids.foldl S.putOut s)
  | [], _, h => h
  | x :: ids, s, h => by
    refine Settles.fold S ids ?_
    unfold PS.putOut
    split
    · exact h.lay _ _
    · exact h
theorem flushed_sure (h : Settles S.d) : S.flushed.d.sure = S.flushed.d.now ∧ S.flushed.d.row = [] := by
  refine ⟨?_, rfl⟩
  have h2 := Settles.fold S S.heldIds h
  show ((S.outs S.heldIds).row.take (S.outs S.heldIds).row.length).foldl _ (S.outs S.heldIds).sure = (S.outs S.heldIds).now
  rw [List.take_length]
  exact h2
theorem restart_sure {s : DS} (h : s.row = []) : (s.restart []).now = s.sure ∧ (s.restart []).down = false := by
  unfold DS.restart
  rw [h]
  exact ⟨rfl, rfl⟩
/-- What the disk tells behind all. -/
theorem lasts_now {fi ls : List UInt8} {n f du : Nat} {k : Nat} (hf : ((LS fi ls n f n).raise du).Fine k) {i : Nat} (hi : i < n) :
    ((((LS fi ls n f n).raise du).flushed.d.restart []).now.getD i []) = if (ls.getD i 0).toNat ≤ du then sec5 (fi.getD i 0) else zeros := by
  have hs := flushed_sure (S := (LS fi ls n f n).raise du) (show Settles (DS.fresh n) by simp [Settles, DS.fresh])
  rw [(restart_sure hs.2).1, hs.1]
  have hl : ((LS fi ls n f n).raise du).used.length = n := LS_len (fi := fi) (ls := ls) (n := n) (f := f) (i := n)
  have e := flushed_now hf (id := i) (by rw [hl]; exact hi)
  have e0 : ((LS fi ls n f n).raise du).first + i = i := by show 0 + i = i; omega
  rw [e0] at e
  rw [e]
  have hm : frL fi ls i ∈ ((LS fi ls n f n).raise du).held := List.mem_map_of_mem (List.mem_range.2 hi)
  have hg := goes_of hf.once hm
  have hp := PS.page_in hf.once hm
  have hgi : ((LS fi ls n f n).raise du).goes (i : Int) = decide ((ls.getD i 0).toNat ≤ du) := by
    refine hg.trans ?_
    show (true && decide ((ls.getD i 0).toNat ≤ max 0 du)) = _
    rw [Nat.zero_max]; rfl
  rw [hgi]
  by_cases h : (ls.getD i 0).toNat ≤ du
  · rw [if_pos (by simpa using h), if_pos h]
    simp only [frL] at hp
    exact hp
  · rw [if_neg (by simpa using h), if_neg h]
    show (List.replicate n zeros).getD i [] = zeros
    rw [List.getD_eq_getElem?_getD, List.getElem?_replicate, if_pos hi]; rfl
theorem bytesf_same {x y : Value} {a : List UInt8} (hx : BytesAt w x a) (hy : BytesAt w y a) :
    Calls Try.prog 12 #[x, y] w fun e w' => e = .returned (.bool true) ∧ w = w' := by
  have := bytesf_any hx hy
  rw [beq_self_eq_true] at this
  exact this
/-! ### the walk -/
def Lasts (n m : Nat) (f : Int) : Prop := 1 ≤ n ∧ n ≤ 10 ∧ n ≤ m ∧ (n : Int) ≤ f ∧ f ≤ 20
set_option maxRecDepth 100000 in
set_option maxHeartbeats 4000000 in
theorem lasts_out {w : World} {v1 v2 : Value} {fi ls : List UInt8} (hv1 : BytesAt w v1 fi) (hv2 : BytesAt w v2 ls) (du : UInt8) (f : Int) (ho : ¬ Lasts fi.length ls.length f) :
    Calls Try.prog 5 #[v1, v2, .int .u8 du.toNat, .int .i64 f] w fun e w' => e = .returned (.bool true) ∧ Below w.heap.size w w' := by
  have K := Lib.hid (known_any w)
  obtain ⟨ao, cap, rfl, hc⟩ := hv1
  obtain ⟨ao2, cap2, rfl, hc2⟩ := hv2
  clear hc hc2
  unfold Lasts at ho
  generalize fi.length = n at *
  generalize ls.length = m at *
  by_cases h1 : n < 1
  · have h1i : (n : Int) < 1 := by omega
    clear ho
    go_enter Try.func5, Try.ntmps5
    go_wp2_with (go_at_call 6; refine K.out.mono ?_; rintro e w1 ⟨rfl, hO1⟩; have O1 := Lib.hid hO1; clear hO1)
    go_ret
    exact ⟨rfl, O1.out.below (Nat.le_refl _) (by simp)⟩
  by_cases h2 : 10 < n
  · have h2i : (10 : Int) < n := by omega
    clear ho
    go_enter Try.func5, Try.ntmps5
    go_wp2_with (go_at_call 6; refine K.out.mono ?_; rintro e w1 ⟨rfl, hO1⟩; have O1 := Lib.hid hO1; clear hO1)
    go_ret
    exact ⟨rfl, O1.out.below (Nat.le_refl _) (by simp)⟩
  have g1 : ¬ (n : Int) < 1 := by omega
  have g2 : ¬ (10 : Int) < n := by omega
  by_cases h3 : m < n
  · have h3i : (m : Int) < n := by omega
    clear ho
    go_enter Try.func5, Try.ntmps5
    go_wp2_with (go_at_call 6; refine K.out.mono ?_; rintro e w1 ⟨rfl, hO1⟩; have O1 := Lib.hid hO1; clear hO1)
    go_ret
    exact ⟨rfl, O1.out.below (Nat.le_refl _) (by simp)⟩
  have g3 : ¬ (m : Int) < n := by omega
  by_cases h4 : f < (n : Int)
  · clear ho
    go_enter Try.func5, Try.ntmps5
    go_wp2_with (go_at_call 6; refine K.out.mono ?_; rintro e w1 ⟨rfl, hO1⟩; have O1 := Lib.hid hO1; clear hO1)
    go_ret
    exact ⟨rfl, O1.out.below (Nat.le_refl _) (by simp)⟩
  have h5 : 20 < f := by omega
  clear ho
  go_enter Try.func5, Try.ntmps5
  go_wp2_with (go_at_call 6; refine K.out.mono ?_; rintro e w1 ⟨rfl, hO1⟩; have O1 := Lib.hid hO1; clear hO1)
  go_ret
  exact ⟨rfl, O1.out.below (Nat.le_refl _) (by simp)⟩
set_option maxRecDepth 100000 in
set_option maxHeartbeats 4000000 in
theorem lasts_main {w : World} {v1 v2 : Value} {fi ls : List UInt8} (hv1 : BytesAt w v1 fi) (hv2 : BytesAt w v2 ls) (du : UInt8) (f : Nat) (ho : Lasts fi.length ls.length f) :
    Calls Try.prog 5 #[v1, v2, .int .u8 du.toNat, .int .i64 f] w fun e w' => e = .returned (.bool true) ∧ Below w.heap.size w w' := by
  have K := Lib.hid (known_any w)
  obtain ⟨ao, cap, rfl, hc⟩ := hv1
  obtain ⟨ao2, cap2, rfl, hc2⟩ := hv2
  have CF := Lib.hid hc
  have CL := Lib.hid hc2
  clear hc hc2
  generalize fi.length = n at *
  generalize ls.length = m at *
  obtain ⟨a1, a2, a3, a4, a5⟩ := ho
  have hnf : n ≤ f := by omega
  have DN : Hid (∀ w, Calls Try.prog 7 #[.int .i64 n] w fun e w' => ∃ d M, e = .returned (.tuple #[.pointer (some ⟨d, 0, none⟩), .int .i64 0]) ∧ Disk w' d M (DS.fresh n) ∧ Step [] M w w') := fun w => Disk.new (n := n) (by omega) (by omega)
  have PN : Hid (∀ w d M, Disk w d M (DS.fresh n) → Calls Try.prog 8 #[.pointer (some ⟨d, 0, none⟩), .int .i64 0, .int .i64 n, .int .i64 f] w fun e w' => ∃ p M', e = .returned (.tuple #[.pointer (some ⟨p, 0, none⟩), .int .i64 0]) ∧ Pool w' p d M' (PS.new (DS.fresh n) 0 n f) 0 ∧ Step M M' w w') := fun w d M hD => new_ok (first := 0) (pages := n) (frames := f) hD ⟨rfl, rfl, rfl⟩ (Int.le_refl 0) 0 (Int.le_refl 0) (Nat.le_refl 0) (by unfold Fits; simp [DS.fresh]; omega)
  have hzk := zeros_make
  generalize hz : (u8s zeros).toArray = Z at *
  have HZ := Lib.hid hz
  clear hz
  have g1 : ¬ (n : Int) < 1 := by omega
  have g2 : ¬ (10 : Int) < n := by omega
  have g3 : ¬ (m : Int) < n := by omega
  have g4 : ¬ (f : Int) < n := by omega
  have g5 : ¬ (20 : Int) < f := by omega
  go_enter Try.func5, Try.ntmps5
  go_wp2_with (first
    | (go_at_call 6; refine K.out.mono ?_; rintro e w1 ⟨rfl, hO1⟩; have O1 := Lib.hid hO1; clear hO1)
    | (go_at_call 7; refine (DN.out _).mono ?_; rintro e w2 ⟨d, M2, rfl, hD2, hS2⟩; have D2 := Lib.hid hD2; have S2 := Lib.hid hS2; clear hD2 hS2)
    | (go_at_call 8; refine (PN.out _ _ _ D2.out).mono ?_; rintro e w3 ⟨p, M3, rfl, hP3, hS3⟩; have P3 := Lib.hid hP3; have S3 := Lib.hid (S2.out.next hS3); clear hP3 hS3))
  have W3 : Hid (Only [] w w3) := O1.out.trans S3.out.1 (by simp)
  have N3 : Hid (∀ x ∈ M3, w.heap.size ≤ x) := fun x hx => by
    rcases S3.out.2 x hx with h | h
    · cases h
    · have := O1.out.size; omega
  rw [← LS_zero fi ls] at P3
  clear g1 g2 g3 g4 g5
  go_loopg [13] n (fun gk i wx => ∃ (k : Nat) (M : List Nat), gk = n - k ∧ k ≤ n ∧ i = .int .i64 k ∧ Pool wx p d M (LS fi ls n f k) (4 * k) ∧ Only [] w wx ∧ ∀ x ∈ M, w.heap.size ≤ x)
  case atStart => exact ⟨0, M3, rfl, Nat.zero_le _, rfl, P3.out, W3.out, N3.out⟩
  case round =>
    obtain ⟨k, M, hgk, hk, rfl, hP, hW, hN⟩ := hrel
    have HGK := Lib.hid hgk
    have PP := Lib.hid hP
    have WW := Lib.hid hW
    have NN := Lib.hid hN
    clear hgk hP hW hN P3 W3 N3
    by_cases hlt : k < n
    · obtain ⟨eb, eo, rfl, hce⟩ := CF.out (by omega)
      obtain ⟨fb, fo, rfl, hcl⟩ := CL.out (by omega)
      have ce := hce k hlt
      have cl := hcl k (by omega)
      have NE : Hid (eb ∉ M) := fun hx => by have := NN.out _ hx; have := cell_lt ce; omega
      have NL : Hid (fb ∉ M) := fun hx => by have := NN.out _ hx; have := cell_lt cl; omega
      have ce := WW.out.cell ce (by simp)
      have cl := WW.out.cell cl (by simp)
      clear hce hcl
      obtain ⟨fb8, hfb⟩ : ∃ fb8, fi.getD k 0 = fb8 := ⟨_, rfl⟩
      obtain ⟨lb8, hlb⟩ : ∃ lb8, ls.getD k 0 = lb8 := ⟨_, rfl⟩
      have HFB := Lib.hid hfb
      have HLB := Lib.hid hlb
      rw [hfb] at ce
      rw [hlb] at cl
      clear hfb hlb
      have hki : (k : Int) < n := by omega
      have hkm : (k : Int) < m := by omega
      have hk0 : (0 : Int) ≤ k := by omega
      have AL := Lib.hid (PP.out.alloc (by omega))
      go_wp2_with fail
      refine AL.out.mono ?_
      rintro e w4 ⟨id, r, S4, M4, rfl, ha4, hP4, hS4⟩
      obtain ⟨rfl, rfl, rfl⟩ := LS_alloc hlt hnf ha4
      have P4 := Lib.hid hP4
      have S4' := Lib.hid hS4
      have ce := hS4.1.cell ce NE.out
      have cl := hS4.1.cell cl NL.out
      have NE4 : Hid (eb ∉ M4) := Step.keep hS4 (cell_lt (by assumption)) NE.out
      have NL4 : Hid (fb ∉ M4) := Step.keep hS4 (cell_lt (by assumption)) NL.out
      have IS4 : Hid ((LA fi ls n f id).is (id : Int) = true) := PS.is_nat.2 (by
        show id < ((LS fi ls n f id).used.set id true).length ∧ ((LS fi ls n f id).used.set id true).getD id false = true
        rw [List.length_set, LS_len]
        exact ⟨hlt, getD_set_self _ _ _ _ (by rw [LS_len]; exact hlt)⟩)
      clear ha4 hP4 hS4
      have SC : Hid (∀ w1, Calls Try.prog 14 #[.int .u8 fb8.toNat] w1 fun e w' => e = .returned (.slice (some ⟨w1.heap.size, 0, none⟩) 512 512) ∧ Blk w' w1.heap.size (u8s (sec5 fb8)) 5 ∧ Only [] w1 w') := fun w1 => sector_any fb8 w1
      have PU : Hid (∀ w5 v5, Only [] w4 w5 → BytesAt w5 v5 (sec5 fb8) → (∀ a n c, v5 = .slice (some a) n c → a.block ∉ M4) → Calls Try.prog 19 #[.pointer (some ⟨p, 0, none⟩), .int .i64 id, v5, .int .u64 lb8.toNat] w5 fun e w' => e = .returned (.int .i64 0) ∧ ∃ M', Pool w' p d M' (LS fi ls n f (id + 1)) (4 * (id + 1)) ∧ Step M4 M' w5 w') := fun w5 v5 hO hv hvM => by
        refine ((P4.out.past hO).put_yes (by omega) id IS4.out hv hvM (sec5_len _) lb8.toNat).mono ?_
        rintro e w6 ⟨r, S6, M6, rfl, hl, hP6, hS6⟩
        rw [← HFB.out, ← HLB.out] at hl
        obtain ⟨rfl, rfl⟩ := LS_put hlt hl
        exact ⟨rfl, M6, hP6.more (by omega), hS6⟩
      have ew : IntKind.u64.wrap (lb8.toNat : Int) = (lb8.toNat : Int) := by
        have := lb8.toNat_lt
        rw [IntKind.wrap_u64]; omega
      go_wp2_with fail
      go_region_held3 (fun w' => w'.cell? ⟨eb, eo + id, none⟩ = some (.int .u8 fb8.toNat) ∧ w'.cell? ⟨fb, fo + id, none⟩ = some (.int .u8 lb8.toNat)) (first | go_keep | exact hKEEP)
        (first
          | (go_at_call 14; refine (SC.out _).mono ?_; rintro e w5 ⟨rfl, hb5, hO5⟩; have hKEEP := And.intro (hO5.cell (p := ⟨eb, eo + id, none⟩) ce (by simp)) (hO5.cell (p := ⟨fb, fo + id, none⟩) cl (by simp)))
          | (go_at_call 19; refine (PU.out _ _ (((Only.refl [] w4).drew).trans hO5 (by simp)) (Blk.bytes hb5 (sec5_len _).symm) (notIn rfl (fun hx => Nat.lt_irrefl _ (P4.out.lt _ hx)))).mono ?_; rintro e w6 ⟨rfl, M6, hP6, hS6⟩; have hKEEP := And.intro (hS6.1.cell (p := ⟨eb, eo + id, none⟩) hKEEP.1 NE4.out) (hS6.1.cell (p := ⟨fb, fo + id, none⟩) hKEEP.2 NL4.out)))
      have P6 := Lib.hid hP6
      have W6 : Hid (Only [] w w6) := (((WW.out.trans S4'.out.1 (fun x hx => .inr (NN.out x hx))).trans ((Only.refl [] _).drew) (by simp)).trans hO5 (by simp)).trans hS6.1 (fun x hx => by
        rcases S4'.out.2 x hx with h1 | h1
        · exact .inr (NN.out x h1)
        · right; have := WW.out.size; omega)
      have N6 : Hid (∀ x ∈ M6, w.heap.size ≤ x) := fun x hx => by
        have h0 := WW.out.size
        rcases hS6.2 x hx with h1 | h1
        · rcases S4'.out.2 x h1 with h2 | h2
          · exact NN.out x h2
          · omega
        · have h2 := S4'.out.1.size
          have h3 := hO5.size
          have h4 : w4.drew.heap.size = w4.heap.size := rfl
          omega
      clear hb5 hO5 hKEEP hP6 hS6 ce cl ew
      go_wp2_with fail
      go_roundg (n - (id + 1))
      case measure => have := HGK.out; omega
      case rel => exact ⟨id + 1, M6, rfl, by omega, by go_num, P6.out, W6.out, N6.out⟩
    · obtain rfl : k = n := by omega
      have hki : ¬ (k : Int) < k := by omega
      have DU := Lib.hid (PP.out.durable du.toNat)
      have hdu8 := du.toNat_lt
      go_wp2_with (go_at_call 20; refine DU.out.mono ?_; rintro e w4 ⟨rfl, M4, hP4, hS4⟩; have P4 := Lib.hid hP4; have S4 := Lib.hid hS4; clear hP4 hS4)
      have FL := Lib.hid (P4.out.flush (by omega))
      go_wp2_with fail
      refine FL.out.mono ?_
      rintro e w5 ⟨rfl, M5, hP5, hS5⟩
      obtain ⟨MD, ub, hm, pm, asked, L, hA, hmd, _⟩ := hP5.at_
      have D5 := Lib.hid hA.disk
      have S5 := Lib.hid (S4.out.next hS5)
      have HMD : Hid (∀ x ∈ MD, w.heap.size ≤ x) := fun x hx => by
        rcases S5.out.2 x (hmd x hx) with h1 | h1
        · exact NN.out x h1
        · have := WW.out.size; omega
      have HFN := Lib.hid P4.out.fine
      have RS : Hid (Calls Try.prog 22 #[.pointer (some ⟨d, 0, none⟩), .agg #[.slice none 0 0]] w5 fun e w' => e = .returned (.tuple #[]) ∧ ∃ M', Disk w' d M' (((LS fi ls k f k).raise du.toNat).flushed.d.restart []) ∧ Step MD M' w5 w') :=
        D5.out.restart (Nat.zero_le _) (kv := .slice none 0 0) (keep := []) ⟨none, 0, rfl, fun h => absurd h (by simp)⟩ (fun a n c h => by cases h)
      clear hP5 hS5 hA hmd FL DU
      go_wp2_with (go_at_call 22; refine RS.out.mono ?_; rintro e w6 ⟨rfl, M6, hD6, hS6⟩; have D6 := Lib.hid hD6; have S6 := Lib.hid hS6; clear hD6 hS6)
      have W6 : Hid (Only [] w w6) := (WW.out.trans S5.out.1 (fun x hx => .inr (NN.out x hx))).trans S6.out.1 (fun x hx => .inr (HMD.out x hx))
      go_loopg [16] k (fun gq x wy => ∃ q : Nat, gq = k - q ∧ q ≤ k ∧ x = .int .i64 q ∧ Only [] w6 wy)
      case atStart => exact ⟨0, rfl, Nat.zero_le _, rfl, Only.refl _ _⟩
      case round =>
        obtain ⟨q, hgq, hq, rfl, hO⟩ := hrel
        rename World => wy
        have HGQ := Lib.hid hgq
        have OY := Lib.hid hO
        clear hgq hO
        by_cases hqk : q < k
        · obtain ⟨eb, eo, rfl, hce⟩ := CF.out (by omega)
          obtain ⟨fb, fo, rfl, hcl⟩ := CL.out (by omega)
          have WY := Lib.hid (W6.out.trans OY.out (by simp))
          have ce := WY.out.cell (hce q hqk) (by simp)
          have cl := WY.out.cell (hcl q (by omega)) (by simp)
          have CE := Lib.hid (hce q hqk)
          have CLq := Lib.hid (hcl q (by omega))
          clear hce hcl
          obtain ⟨fb8, hfb⟩ : ∃ fb8, fi.getD q 0 = fb8 := ⟨_, rfl⟩
          obtain ⟨lb8, hlb⟩ : ∃ lb8, ls.getD q 0 = lb8 := ⟨_, rfl⟩
          have HFB := Lib.hid hfb
          have HLB := Lib.hid hlb
          rw [hfb] at ce CE
          rw [hlb] at cl CLq
          clear hfb hlb
          have hqi : (q : Int) < k := by omega
          have hqm : (q : Int) < m := by omega
          have hq0 : (0 : Int) ≤ q := by omega
          obtain ⟨bb, hbb⟩ : ∃ bb, (((LS fi ls k f k).raise du.toNat).flushed.d.restart []).now.getD q [] = bb := ⟨_, rfl⟩
          have hnow := lasts_now (n := k) HFN.out hqk
          rw [hbb, HFB.out, HLB.out] at hnow
          have RD : Hid (Calls Try.prog 23 #[.pointer (some ⟨d, 0, none⟩), .int .i64 q] wy fun e w' => ∃ v, e = .returned (.tuple #[v, .int .i64 0]) ∧ Fresh wy w' v bb ∧ Only [] wy w') := by
            refine (D6.out.past OY.out).read' ?_
            have hlen : (((LS fi ls k f k).raise du.toNat).flushed.d.restart []).now.length = k := by
              have hs := flushed_sure (S := (LS fi ls k f k).raise du.toNat) (show Settles (DS.fresh k) by simp [Settles, DS.fresh])
              rw [(restart_sure hs.2).1, hs.1]
              have hfl : ∀ (ids : List Int) (s : DS), (ids.foldl ((LS fi ls k f k).raise du.toNat).putOut s).now.length = s.now.length := by
                intro ids
                induction ids with
                | nil => intro s; rfl
                | cons x ids ih => intro s; rw [List.foldl_cons, ih, putOut_len]
              show (((LS fi ls k f k).raise du.toNat).outs _).now.length = k
              unfold PS.outs
              rw [hfl]
              show (List.replicate k zeros).length = k
              rw [List.length_replicate]
            unfold DS.read
            rw [(restart_sure rfl).2, if_neg (by simp), if_neg (by omega), Int.toNat_natCast, hbb]
          have HNOW := Lib.hid hnow
          clear hbb hnow
          go_wp2_with fail
          refine RD.out.mono ?_
          rintro e w7 ⟨v7, rfl, hv7, hO7⟩
          have hbl : bb.length = 512 := by
            rw [HNOW.out]; split
            · exact sec5_len _
            · exact zeros_len
          obtain ⟨rfl, hb7⟩ : v7 = .slice (some ⟨wy.heap.size, 0, none⟩) 512 512 ∧ Blk w7 wy.heap.size (u8s bb) 5 := by
            rcases hv7 with ⟨_, h⟩ | ⟨h, hb⟩
            · rw [h] at hbl; cases hbl
            · rw [hbl] at h; exact ⟨h, hb⟩
          have B7 := Lib.hid hb7
          have O7 := Lib.hid hO7
          have BL := Lib.hid hbl
          have WA : Hid (Only [] w (w7.alloc (.cells Z 5))) := (WY.out.trans hO7 (by simp)).alloc _
          have ce7 := WA.out.cell CE.out (by simp)
          have cl7 := WA.out.cell CLq.out (by simp)
          have BZ : Hid (Blk (w7.alloc (.cells Z 5)) w7.heap.size (u8s zeros) 5) := by
            show Blk _ _ _ _
            rw [← HZ.out]; exact Blk.new _ _ _
          have BA := Lib.hid (hb7.alloc (.cells Z 5))
          clear hv7 hO7 hb7 hbl ce cl
          by_cases hle : lb8.toNat ≤ du.toNat
          · have hli : decide (lb8.toNat ≤ du.toNat) = true := by simpa using hle
            have hli2 : (lb8.toNat : Int) ≤ du.toNat := by omega
            have EB : Hid (bb = sec5 fb8) := HNOW.out.trans (if_pos hle)
            have hsc := sector_any fb8 (w7.alloc (.cells Z 5))
            rw [World.size_alloc] at hsc
            have SC := Lib.hid hsc
            clear hle hsc
            go_wp2_with (first
              | (go_at_call 14; refine SC.out.mono ?_; rintro e w8 ⟨rfl, hb8, hO8⟩; have B8 := Lib.hid hb8; have O8 := Lib.hid hO8; clear hb8 hO8)
              | (go_at_call 12; refine (bytesf_same (a := bb) (Blk.bytes (O8.out.blk BA.out (by simp)) BL.out.symm) (by rw [EB.out]; exact Blk.bytes B8.out (sec5_len _).symm)).mono ?_; rintro e w9 ⟨rfl, rfl⟩))
            go_roundg (k - (q + 1))
            case measure => have := HGQ.out; omega
            case rel => exact ⟨q + 1, rfl, by omega, by go_num, ((OY.out.trans O7.out (by simp)).alloc _).trans O8.out (by simp)⟩
          · have hli : decide (lb8.toNat ≤ du.toNat) = false := by simpa using hle
            have hli2 : ¬ (lb8.toNat : Int) ≤ du.toNat := by omega
            have EB : Hid (bb = zeros) := HNOW.out.trans (if_neg hle)
            clear hle
            go_wp2_with (go_at_call 12; refine (bytesf_same (a := bb) (Blk.bytes BA.out BL.out.symm) (by rw [EB.out]; exact Blk.bytes BZ.out zeros_len.symm)).mono ?_; rintro e w9 ⟨rfl, rfl⟩)
            go_roundg (k - (q + 1))
            case measure => have := HGQ.out; omega
            case rel => exact ⟨q + 1, rfl, by omega, by go_num, (OY.out.trans O7.out (by simp)).alloc _⟩
        · obtain rfl : q = k := by omega
          have hqi : ¬ (q : Int) < q := by omega
          go_wp2_with fail
          go_ret
          exact ⟨rfl, (W6.out.trans OY.out (by simp)).below (Nat.le_refl _) (by simp)⟩
/-- PoolLasts at every input. -/
theorem lasts_law {w : World} (v1 : Value) (fi : List UInt8) (hv1 : BytesAt w v1 fi) (v2 : Value) (ls : List UInt8) (hv2 : BytesAt w v2 ls) (du : UInt8) (f : Int) (_ : -9223372036854775808 ≤ f ∧ f ≤ 9223372036854775807) :
    Calls Try.prog 5 #[v1, v2, .int .u8 du.toNat, .int .i64 f] w fun e w' => e = .returned (.bool true) ∧ Below w.heap.size w w' := by
  by_cases h : Lasts fi.length ls.length f
  · obtain ⟨n, rfl⟩ := Int.eq_ofNat_of_zero_le (show 0 ≤ f by have := h.2.2.2.1; omega)
    exact lasts_main hv1 hv2 du n h
  · exact lasts_out hv1 hv2 du f h
end Go.Proofs.Ytmgifohjoakdjaa.P
