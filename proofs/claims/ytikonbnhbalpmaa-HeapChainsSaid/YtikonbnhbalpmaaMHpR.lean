import Derived.Test.YtikonbnhbalpmaaMHpO
import Derived.Deep.LoopGhost
/-
  Rows of places of versions; Chain: by contracts.
-/
namespace Go.Proofs.Ytikonbnhbalpmaa.H
set_option linter.unusedSimpArgs false
open Go Go.RowKit Go.Proofs.Ytikonbnhbalpmaa.D Go.Proofs.Ytikonbnhbalpmaa.B Go.Proofs.Ytikonbnhbalpmaa.C Go.Proofs.Ytikonbnhbalpmaa.G Go.Proofs.Ytikonbnhbalpmaa.P
set_option linter.unusedVariables false
theorem info_rid : (Try.prog.info? 29).map (fun i => (i.zero, i.size, i.bytes)) = some (some (.int .u64 0), 1, 8) := by kernel_rfl
def u64s (l : List Nat) : List Value := l.map fun (r : Nat) => .int .u64 ((r : Nat) : Int)
@[simp] theorem u64s_len (l : List Nat) : (u64s l).length = l.length := by simp [u64s]
theorem u64s_append (l k : List Nat) : u64s (l ++ k) = u64s l ++ u64s k := by simp [u64s]
/-- A slice of rids, wherever it lies. -/
def RidsAt (w : World) (v : Value) (l : List Nat) : Prop := ∃ ao cap, v = .slice ao l.length cap ∧ l.length ≤ cap ∧ (0 < l.length → ∃ b o, ao = some ⟨b, o, none⟩ ∧ ∀ j, j < l.length → w.cell? ⟨b, o + j, none⟩ = some (.int .u64 (l.getD j 0 : Nat)))
/-- A slice of rids of one's own. -/
def RidRow (w : World) (v : Value) (l : List Nat) : Prop := w.ownsRow 0 29 1 v l.length (u64s l)
theorem RidRow.at {w : World} {v : Value} {l : List Nat} (h : RidRow w v l) : RidsAt w v l := by
  rcases h.2 with ⟨rfl, hz⟩ | ⟨g, cap, cur, rfl, _, hh, h3, h4, h5, h6⟩
  · have : l = [] := List.eq_nil_of_length_eq_zero hz
    subst this
    exact ⟨none, 0, rfl, Nat.le_refl _, fun h => by simp at h⟩
  · refine ⟨_, cap, rfl, by omega, fun h0 => ⟨g, 0, rfl, fun j hj => ?_⟩⟩
    rw [Nat.zero_add, cell_of_row w g j cur 29 (0, 0) hh]
    have h7 : (u64s l)[j]? = some (.int .u64 (l.getD j 0 : Nat)) := by
      rw [u64s, List.getElem?_map, List.getElem?_eq_getElem hj, List.getD_eq_getElem?_getD, List.getElem?_eq_getElem hj]; rfl
    rw [← h6] at h7
    rw [← Array.getElem?_toList]
    exact take_get h7
theorem RidsAt.past {w w' : World} {v : Value} {l : List Nat} (h : RidsAt w v l) (hO : Only [] w w') : RidsAt w' v l := by
  obtain ⟨ao, cap, hv, hc, h⟩ := h
  refine ⟨ao, cap, hv, hc, fun h0 => ?_⟩
  obtain ⟨b, o, ho, hj⟩ := h h0
  exact ⟨b, o, ho, fun j hj' => hO.cell (hj j hj') (by simp)⟩
def u64sOk (l : List Nat) : Prop := ∀ r ∈ l, r < W64
set_option maxRecDepth 100000 in
set_option maxHeartbeats 1000000 in
theorem index_rid {w : World} {v : Value} {l : List Nat} (h : RidsAt w v l) (hm : l.length ≤ 1000000) (x : Nat) :
    Calls Try.prog 44 #[v, .int .u64 x] w fun e w' => ∃ z : Int, e = .returned (.int .i64 z) ∧ (0 ≤ z ↔ x ∈ l) ∧ w = w' := by
  obtain ⟨ao, cap, rfl, hcap, hc⟩ := h
  have HC := Lib.hid hc
  clear hc
  generalize hn : l.length = n at *
  have HN := Lib.hid hn
  clear hn
  go_enter Try.func44, Try.ntmps44
  go_wp2_with fail
  go_loopg [8] n (fun gk s8 wr => ∃ j : Nat, gk = n - j ∧ j ≤ n ∧ s8 = .int .i64 j ∧ wr = w ∧ ∀ i, i < j → l.getD i 0 ≠ x)
  case atStart => exact ⟨0, rfl, Nat.zero_le _, rfl, rfl, fun i hi => by omega⟩
  case round =>
    obtain ⟨j, hgk, hj, rfl, rfl, hs⟩ := hrel
    have HGK := Lib.hid hgk
    have HS := Lib.hid hs
    clear hgk hs
    by_cases hlt : j < n
    · have hj0 : (0 : Int) ≤ j := by omega
      have hj1 : (j : Int) < n := by omega
      obtain ⟨b, o, rfl, hcell⟩ := HC.out (by omega)
      have cj := hcell j hlt
      have HJ : Hid (l.getD j 0 ∈ l) := by
        show _ ∈ _
        rw [List.getD_eq_getElem?_getD, List.getElem?_eq_getElem (by rw [HN.out]; exact hlt)]
        exact List.getElem_mem _
      clear hcell
      by_cases he : l.getD j 0 = x
      · rw [he] at cj HJ
        clear he
        go_wp2_with fail
        go_ret
        exact ⟨_, rfl, ⟨fun _ => HJ.out, fun _ => by omega⟩, rfl⟩
      · have HE := Lib.hid he
        generalize hy : l.getD j 0 = y at *
        have HY := Lib.hid hy
        clear hy
        have e1 : ((x : Int) == (y : Int)) = false := beq_eq_false_iff_ne.2 (by omega)
        have e2 : ¬ (x : Int) = (y : Int) := by omega
        have e3 : ¬ (y : Int) = (x : Int) := by omega
        have e4 : ¬ x = y := by omega
        clear he
        go_wp2_with fail
        go_roundg (n - (j + 1))
        case measure => have := HGK.out; omega
        case rel => exact ⟨j + 1, rfl, by omega, by go_num, rfl, fun i hi => by
          by_cases h : i < j
          · exact HS.out i h
          · have : i = j := by omega
            rw [this, HY.out]; exact HE.out⟩
    · obtain rfl : j = n := by omega
      go_wp2_with fail
      go_ret
      refine ⟨_, rfl, ⟨fun h => absurd h (by decide), fun hm => ?_⟩, rfl⟩
      obtain ⟨i, hi, he⟩ := List.getElem_of_mem hm
      refine absurd ?_ (HS.out i (by rw [← HN.out]; exact hi))
      rw [List.getD_eq_getElem?_getD, List.getElem?_eq_getElem hi]; exact he
theorem contains_rid {w : World} {v : Value} {l : List Nat} (h : RidsAt w v l) (hm : l.length ≤ 1000000) (x : Nat) :
    Calls Try.prog 27 #[v, .int .u64 x] w fun e w' => e = .returned (.bool (decide (x ∈ l))) ∧ w = w' := by
  have IX := Lib.hid (index_rid h hm x)
  obtain ⟨ao, cap, rfl, _⟩ := h
  go_enter Try.func27, Try.ntmps27
  go_wp2_with (go_at_call 44; refine IX.out.mono ?_; rintro e w1 ⟨z, rfl, hz, rfl⟩)
  go_ret
  exact ⟨by simp only [ge_iff_le, hz]; rfl, rfl⟩
theorem contains_to {w : World} {v : Value} {l : List Nat} (h : RidsAt w v l) (hm : l.length ≤ 1000000) {x : Nat} {z : Bool} (hz : decide (x ∈ l) = z) :
    Calls Try.prog 27 #[v, .int .u64 x] w fun e w' => e = .returned (.bool z) ∧ w = w' := by
  have := contains_rid h hm x
  rw [hz] at this
  exact this
/-! ### versions by their places -/
/-- The version at a place. -/
def verR (pg : Nat → List UInt8) (ids : List Nat) (r : Nat) : Option Ver := if r / 128 ∈ ids then verAt (pg (r / 128)) (r % 128) else none
theorem verR_some {pg : Nat → List UInt8} {ids : List Nat} {r : Nat} {v : Ver} (h : verR pg ids r = some v) : IsVer pg ids r v := by
  unfold verR at h
  split at h
  · rename_i hid; exact ⟨hid, h⟩
  · cases h
theorem IsVer.verR {pg : Nat → List UInt8} {ids : List Nat} {r : Nat} {v : Ver} (h : IsVer pg ids r v) : verR pg ids r = some v := by
  unfold H.verR; rw [if_pos h.1]; exact h.2
/-- All pages that are used are the heap's. -/
def Owns (u : List Bool) (ids : List Nat) : Prop := ∀ id, u.getD id false = true → id ∈ ids
theorem verR_none {u : List Bool} {pg : Nat → List UInt8} {ids : List Nat} (hO : Owns u ids) {r : Nat} (h : verR pg ids r = none) : NoVer u pg ids r := by
  unfold verR at h
  split at h
  · rename_i hid; exact .inr (.inr ⟨hid, h⟩)
  · rename_i hid
    refine .inr (.inl ?_)
    cases hu : u.getD (r / 128) false with
    | false => rfl
    | true => exact absurd (hO _ hu) hid
/-- A chain from r on, behind what was told. -/
def chainP (V : Nat → Option Ver) : Nat → List Nat → Nat → List Nat
  | 0, out, r => out
  | n + 1, out, r => match V r with
    | none => out
    | some v => if v.next = 0 ∨ v.next ∈ out ++ [r] then out ++ [r] else chainP V n (out ++ [r]) v.next
section
variable {w : World} {hb p root k : Nat} {M : List Nat} {u : List Bool} {pg : Nat → List UInt8} {ids : List Nat}
set_option maxRecDepth 100000 in
theorem hchain_none (hP : PoolV w p M u pg k) (hk : k ≤ 1000000) (hH : HpAt w hb p root) (hM : hb ∉ M) (hI : HeapIs u pg root ids) (hO : Owns u ids) (r : Nat) (hr : r < W64) (hv : verR pg ids r = none) :
    Calls Try.prog 8 #[.pointer (some ⟨hb, 0, none⟩), .int .u64 r] w fun e w' => e = .returned (.tuple #[.slice none 0 0, .int .i64 91]) ∧ ∃ M', PoolV w' p M' u pg (k + 2) ∧ Step M M' w w' := by
  have GN := Lib.hid (hget_no hP hk hH hM hI r hr (verR_none hO hv))
  have HH := Lib.hid hH
  have IC : Hid ((Try.prog.info? 40).map (·.size) = some 4) := info_ver
  clear hP hH hM hI hO hv
  go_enter Try.func8, Try.ntmps8
  go_wp2_with fail
  go_loopg [1, 6] 1 (fun gk s1 s6 wr => s1 = .int .u64 r ∧ s6 = .slice none 0 0 ∧ wr = w)
  case atStart => exact ⟨rfl, rfl, rfl⟩
  case round =>
    obtain ⟨rfl, rfl, rfl⟩ := hrel
    go_wp2_with (first
      | (go_at_call 10; refine GN.out.mono ?_; rintro e w1 ⟨rfl, M1, hP1, hS1⟩; have P1 := Lib.hid hP1; have S1 := Lib.hid hS1; clear hP1 hS1)
      | (refine wpList_store_blk rfl 40 (.tmp 7) (.tmp 13) rfl w1.heap.size (verCells (.slice none 0 0) 0 0 0) rfl rfl (Blk.new' (verCells (.slice none 0 0) 0 0 0).toArray 40 w1 rfl) rfl IC.out verCells_one ?_; intro w2 hb2 hO2; have O2 : Hid (Only [] w1 w2) := (((Only.refl [] w1).alloc _).trans hO2 (fun x hx => by simp at hx; subst hx; exact .inr (Nat.le_refl _))); clear hb2 hO2))
    go_ret2
    exact ⟨rfl, M1, P1.out.past O2.out, S1.out.then O2.out⟩
theorem chain_step {V : Nat → Option Ver} {n : Nat} {out : List Nat} {r : Nat} {v : Ver} (h : V r = some v) : chainP V (n + 1) out r = if v.next = 0 ∨ v.next ∈ out ++ [r] then out ++ [r] else chainP V n (out ++ [r]) v.next := by
  rw [chainP, h]
theorem chain_stop {V : Nat → Option Ver} {n : Nat} {out : List Nat} {r : Nat} (h : V r = none) : chainP V (n + 1) out r = out := by
  rw [chainP, h]
theorem ver_next {root next : Nat} {p : List UInt8} (h : HPage root next p) {j : Nat} {v : Ver} (hv : verAt p j = some v) : v.next < W64 := by
  obtain ⟨_, s, _, _, h3, _, _, h6⟩ := verAt_some h hv
  rw [h6]
  exact unle_w (by rw [List.length_drop]; omega)
theorem rid_push {w : World} {v : Value} {out : List Nat} {rr : Nat} (h : w.ownsRow 0 29 1 v (out.length + 1) (u64s out ++ [.int .u64 (rr : Nat)])) : RidRow w v (out ++ [rr]) := by
  unfold RidRow
  rw [u64s_append, List.length_append, List.length_singleton]
  exact h
set_option maxRecDepth 100000 in
set_option maxHeartbeats 2000000 in
theorem hchain_some (hP : PoolV w p M u pg k) (hH : HpAt w hb p root) (hM : hb ∉ M) (hI : HeapIs u pg root ids) (hO : Owns u ids) (r : Nat) (hr : r < W64) {v0 : Ver} (hv : verR pg ids r = some v0)
    (K : Nat) (hfin : ∀ l : List Nat, l.Nodup → (∀ x ∈ l, verR pg ids x ≠ none) → l.length ≤ K) (hk : k + 2 * K + 10 ≤ 1000000) (hK : K ≤ 100000) :
    Calls Try.prog 8 #[.pointer (some ⟨hb, 0, none⟩), .int .u64 r] w fun e w' => ∃ v M', e = .returned (.tuple #[v, .int .i64 0]) ∧ RidRow w' v (chainP (verR pg ids) (K + 1) [] r) ∧ (∀ x, v.ownBlock = some x → w.heap.size ≤ x ∧ x ∉ M') ∧ PoolV w' p M' u pg (k + 2 * K + 4) ∧ Step M M' w w' := by
  have GN : Hid (∀ w1 M1 k1 rr, PoolV w1 p M1 u pg k1 → k1 ≤ 1000000 → Step M M1 w w1 → rr < W64 → verR pg ids rr = none → Calls Try.prog 10 #[.pointer (some ⟨hb, 0, none⟩), .int .u64 rr] w1 fun e w' => e = .returned (.tuple #[.agg (verCells (.slice none 0 0) 0 0 0).toArray, .int .i64 91]) ∧ ∃ M', PoolV w' p M' u pg (k1 + 2) ∧ Step M1 M' w1 w') := fun w1 M1 k1 rr h1 h2 h3 h4 h5 => hget_no h1 h2 (h3.1.blk hH hM) (P.Step.keep h3 hH.lt hM) hI rr h4 (verR_none hO h5)
  have GY : Hid (∀ w1 M1 k1 rr (v : Ver), PoolV w1 p M1 u pg k1 → k1 ≤ 1000000 → Step M M1 w w1 → verR pg ids rr = some v → Calls Try.prog 10 #[.pointer (some ⟨hb, 0, none⟩), .int .u64 rr] w1 fun e w' => ∃ g c M', e = .returned (.tuple #[.agg (verCells (.slice (some ⟨g, 0, none⟩) v.row.length c) v.xmin v.xmax v.next).toArray, .int .i64 0]) ∧ ByteRow 5 w' (.slice (some ⟨g, 0, none⟩) v.row.length c) v.row ∧ w1.heap.size ≤ g ∧ g ∉ M' ∧ PoolV w' p M' u pg (k1 + 2) ∧ Step M1 M' w1 w') := fun w1 M1 k1 rr v h1 h2 h3 h5 => hget_yes h1 h2 (h3.1.blk hH hM) (P.Step.keep h3 hH.lt hM) hI rr (verR_some h5)
  have NX : Hid (∀ rr v, verR pg ids rr = some v → v.next < W64) := fun rr v h => by
    obtain ⟨hid, hv⟩ := verR_some h
    obtain ⟨_, _, _, hp⟩ := hI.at hid
    exact ver_next hp hv
  have HP := Lib.hid hP
  have IC : Hid ((Try.prog.info? 40).map (·.size) = some 4) := info_ver
  have HFIN := Lib.hid hfin
  generalize hV : verR pg ids = V at *
  have HV := Lib.hid hv
  generalize hRES : chainP V (K + 1) [] r = RES
  have HRES := Lib.hid hRES
  clear hP hH hM hI hO hv hV hfin hRES
  go_enter Try.func8, Try.ntmps8
  go_wp2_with fail
  go_loopg [1, 6] (K + 1) (fun gk s1 s6 wr => ∃ (out : List Nat) (rr : Nat) (Mi : List Nat), gk = K + 1 - out.length ∧ out.length ≤ K ∧ s1 = .int .u64 rr ∧ rr < W64 ∧ RidRow wr s6 out ∧ (∀ x, s6.ownBlock = some x → w.heap.size ≤ x ∧ x ∉ Mi) ∧ PoolV wr p Mi u pg (k + 2 * out.length) ∧ Step M Mi w wr ∧ chainP V (K + 1 - out.length) out rr = RES ∧ out.Nodup ∧ rr ∉ out ∧ (∀ x ∈ out, V x ≠ none) ∧ (out = [] → rr = r))
  case atStart => exact ⟨[], r, M, rfl, Nat.zero_le _, rfl, hr, ⟨rfl, .inl ⟨rfl, rfl⟩⟩, fun x hx => by simp [Value.ownBlock] at hx, HP.out, Step.refl _ _, HRES.out, List.nodup_nil, by simp, by simp, fun _ => rfl⟩
  case round =>
    obtain ⟨out, rr, Mi, hgk, hol, rfl, hrw, hrow, hnew, hPi, hSi, hres, hnd, hni, hall, h0⟩ := hrel
    have HGK := Lib.hid hgk
    have HROW := Lib.hid hrow
    have HNEW := Lib.hid hnew
    have HPI := Lib.hid hPi
    have HSI := Lib.hid hSi
    have HND := Lib.hid hnd
    have HNI := Lib.hid hni
    have HALL := Lib.hid hall
    have H0 := Lib.hid h0
    have HRW := Lib.hid hrw
    obtain ⟨d, hd⟩ : ∃ d, K + 1 - out.length = d + 1 := ⟨K - out.length, by omega⟩
    rw [hd] at hres
    have HRS := Lib.hid hres
    have HD := Lib.hid hd
    obtain ⟨ao, cap, rfl, hcap, _⟩ := hrow.at
    clear hgk hrow hnew hPi hSi hnd hni hall h0 hres hd hrw
    cases hvr : V rr with
    | none =>
      have GNi := Lib.hid (GN.out wr Mi _ rr HPI.out (by omega) HSI.out HRW.out hvr)
      have EO : Hid (out = RES) := by
        have := HRS.out
        rw [chain_stop hvr] at this
        exact this
      have hpos : 0 < out.length := by
        rcases Nat.eq_zero_or_pos out.length with h | h
        · have e := List.eq_nil_of_length_eq_zero h
          have := H0.out e
          rw [this, HV.out] at hvr; cases hvr
        · exact h
      have hposI : (0 : Int) < out.length := by omega
      have hposG : (out.length : Int) > 0 := by omega
      clear hvr
      go_wp2_with (first
        | (go_at_call 10; refine GNi.out.mono ?_; rintro e w1 ⟨rfl, M1, hP1, hS1⟩; have P1 := Lib.hid hP1; have S1 := Lib.hid hS1; have RW1 := Lib.hid (show RidRow w1 _ out from owns_later HROW.out hS1.1 (fun x hx => (HNEW.out x hx).2)); clear hP1 hS1)
        | (refine wpList_store_blk rfl 40 (.tmp 7) (.tmp 13) rfl w1.heap.size (verCells (.slice none 0 0) 0 0 0) rfl rfl (Blk.new' (verCells (.slice none 0 0) 0 0 0).toArray 40 w1 rfl) rfl IC.out verCells_one ?_; intro w2 hb2 hO2; have O2 : Hid (Only [] w1 w2) := (((Only.refl [] w1).alloc _).trans hO2 (fun x hx => by simp at hx; subst hx; exact .inr (Nat.le_refl _))); clear hb2 hO2))
      go_ret2
      rw [← EO.out]
      refine ⟨_, M1, rfl, owns_later RW1.out O2.out (by simp), fun x hx => ⟨(HNEW.out x hx).1, P.Step.keep S1.out (owns_lt HROW.out hx) (HNEW.out x hx).2⟩, (P1.out.past O2.out).more (by omega), (HSI.out.trans S1.out).then O2.out⟩
    | some v =>
      have GYi := Lib.hid (GY.out wr Mi _ rr v HPI.out (by omega) HSI.out hvr)
      have HRS2 : Hid ((if v.next = 0 ∨ v.next ∈ out ++ [rr] then out ++ [rr] else chainP V d (out ++ [rr]) v.next) = RES) := by
        have := HRS.out
        rw [chain_step hvr] at this
        exact this
      have hnd2 : (out ++ [rr]).Nodup := by
        rw [List.nodup_append]
        exact ⟨HND.out, by simp, fun x hx y hy e => by simp at hy; subst hy; subst e; exact HNI.out hx⟩
      have hall2 : ∀ x ∈ out ++ [rr], V x ≠ none := fun x hx => by
        rcases List.mem_append.1 hx with h | h
        · exact HALL.out x h
        · simp at h; subst h; rw [hvr]; simp
      have hl2 := HFIN.out _ hnd2 hall2
      rw [List.length_append, List.length_singleton] at hl2
      have HND2 := Lib.hid hnd2
      have HALL2 := Lib.hid hall2
      have NXr := Lib.hid (NX.out rr v hvr)
      clear hvr hnd2 hall2
      obtain ⟨row, xmin, xmax, next⟩ := v
      simp only at *
      by_cases hz : next = 0
      · have ER : Hid (out ++ [rr] = RES) := by
          have := HRS2.out
          rw [if_pos (.inl hz)] at this
          exact this
        have hzB : ((next : Int) == 0) = true := by rw [hz]; rfl
        clear hz
        go_wp2_with (first
          | (go_at_call 10; refine GYi.out.mono ?_; rintro e w1 ⟨g, c, M1, rfl, hr1, hg1, hn1, hP1, hS1⟩; have P1 := Lib.hid hP1; have S1 := Lib.hid hS1; have RW1 := Lib.hid (show RidRow w1 _ out from owns_later HROW.out hS1.1 (fun x hx => (HNEW.out x hx).2)); clear hP1 hS1 hr1 hg1 hn1)
          | (refine wpList_store_blk rfl 40 (.tmp 7) (.tmp 13) rfl w1.heap.size (verCells (.slice (some ⟨g, 0, none⟩) row.length c) xmin xmax next) rfl rfl (Blk.new' (verCells (.slice none 0 0) 0 0 0).toArray 40 w1 rfl) rfl IC.out verCells_one ?_; intro w2 hb2 hO2; have O2 : Hid (Only [] w1 w2) := (((Only.refl [] w1).alloc _).trans hO2 (fun x hx => by simp at hx; subst hx; exact .inr (Nat.le_refl _))); have B2 := Lib.hid hb2; clear hb2 hO2)
          | (refine wpList_push rfl (.tmp 26) (.tmp 28) 27 rfl 29 Try.underlying27 (info_parts info_rid) rfl (.slice ao out.length cap) out.length (u64s out) rfl (by exact owns_later RW1.out (O2.out.alloc _) (by simp)) _ _ _ rfl (by exact (Blk.new _ _ _).cell 0) rfl (by omega) (by decide) ?_; intro g6 cp w6 hown hO6 hat hg6; have hne := owns_ne (owns_later RW1.out (O2.out.alloc (.cells #[.int .u64 rr] 29)) (by simp)) (B2.out.alloc (.cells #[.int .u64 rr] 29)) (by decide); have e6 := (hO6.blk (B2.out.alloc _) (fun h => hne (Option.mem_toList.1 h))).cell 3; simp only [verCells, List.getElem?_cons_succ, List.getElem?_cons_zero] at e6; clear hg6)
          | (go_at_call 27; refine (contains_to (RidRow.at (rid_push hown)) (by rw [List.length_append, List.length_singleton]; omega) HMB.out).mono ?_; rintro e w7 ⟨rfl, rfl⟩))
        have hXn : ∀ x ∈ (Value.slice ao out.length cap).ownBlock.toList, w.heap.size ≤ x ∧ x ∉ M1 := fun x hx => by
          have hx := Option.mem_toList.1 hx
          exact ⟨(HNEW.out x hx).1, P.Step.keep S1.out (owns_lt HROW.out hx) (HNEW.out x hx).2⟩
        have S12 := (HSI.out.trans S1.out).then (O2.out.alloc (.cells #[.int .u64 rr] 29))
        have S6 : Step M M1 w w6 := ⟨S12.1.trans hO6 (fun x hx => .inr (hXn x hx).1), S12.2⟩
        have RW2 : RidRow (w2.alloc (.cells #[.int .u64 rr] 29)) _ out := owns_later RW1.out (O2.out.alloc _) (by simp)
        have P6 := ((P1.out.past O2.out).past ((Only.refl [] w2).alloc (.cells #[.int .u64 rr] 29))).later hO6 (fun x hx cs hcs => owns_ne RW2 hcs (by decide) (Option.mem_toList.1 hx)) (fun x hx hm => (hXn x hm).2 hx)
        have NW6 : w.heap.size ≤ g6 ∧ g6 ∉ M1 := by
          rcases hat with h | h
          · exact hXn g6 (Option.mem_toList.2 h)
          · have h1 := P1.out.lt
            have h2 := HSI.out.1.size
            have h3 := S1.out.1.size
            have h4 := O2.out.size
            rw [World.size_alloc] at h
            exact ⟨by omega, fun hm => by have := h1 _ hm; omega⟩
        go_ret2
        refine ⟨_, M1, rfl, by rw [← ER.out]; exact rid_push hown, fun x hx => ?_, P6.more (by omega), S6⟩
        simp [Value.ownBlock] at hx
        subst hx
        exact NW6
      · have hzB : ((next : Int) == 0) = false := beq_eq_false_iff_ne.2 (by omega)
        have hzI : ¬ (next : Int) = 0 := by omega
        by_cases hmem : next ∈ out ++ [rr]
        · have ER : Hid (out ++ [rr] = RES) := by
            have := HRS2.out
            rw [if_pos (.inr hmem)] at this
            exact this
          have HMB : Hid (decide (next ∈ out ++ [rr]) = true) := decide_eq_true hmem
          clear hmem hz
          go_wp2_with (first
            | (go_at_call 10; refine GYi.out.mono ?_; rintro e w1 ⟨g, c, M1, rfl, hr1, hg1, hn1, hP1, hS1⟩; have P1 := Lib.hid hP1; have S1 := Lib.hid hS1; have RW1 := Lib.hid (show RidRow w1 _ out from owns_later HROW.out hS1.1 (fun x hx => (HNEW.out x hx).2)); clear hP1 hS1 hr1 hg1 hn1)
            | (refine wpList_store_blk rfl 40 (.tmp 7) (.tmp 13) rfl w1.heap.size (verCells (.slice (some ⟨g, 0, none⟩) row.length c) xmin xmax next) rfl rfl (Blk.new' (verCells (.slice none 0 0) 0 0 0).toArray 40 w1 rfl) rfl IC.out verCells_one ?_; intro w2 hb2 hO2; have O2 : Hid (Only [] w1 w2) := (((Only.refl [] w1).alloc _).trans hO2 (fun x hx => by simp at hx; subst hx; exact .inr (Nat.le_refl _))); have B2 := Lib.hid hb2; clear hb2 hO2)
            | (refine wpList_push rfl (.tmp 26) (.tmp 28) 27 rfl 29 Try.underlying27 (info_parts info_rid) rfl (.slice ao out.length cap) out.length (u64s out) rfl (by exact owns_later RW1.out (O2.out.alloc _) (by simp)) _ _ _ rfl (by exact (Blk.new _ _ _).cell 0) rfl (by omega) (by decide) ?_; intro g6 cp w6 hown hO6 hat hg6; have hne := owns_ne (owns_later RW1.out (O2.out.alloc (.cells #[.int .u64 rr] 29)) (by simp)) (B2.out.alloc (.cells #[.int .u64 rr] 29)) (by decide); have e6 := (hO6.blk (B2.out.alloc _) (fun h => hne (Option.mem_toList.1 h))).cell 3; simp only [verCells, List.getElem?_cons_succ, List.getElem?_cons_zero] at e6; clear hg6)
            | (go_at_call 27; refine (contains_to (RidRow.at (rid_push hown)) (by rw [List.length_append, List.length_singleton]; omega) HMB.out).mono ?_; rintro e w7 ⟨rfl, rfl⟩))
          have hXn : ∀ x ∈ (Value.slice ao out.length cap).ownBlock.toList, w.heap.size ≤ x ∧ x ∉ M1 := fun x hx => by
            have hx := Option.mem_toList.1 hx
            exact ⟨(HNEW.out x hx).1, P.Step.keep S1.out (owns_lt HROW.out hx) (HNEW.out x hx).2⟩
          have S12 := (HSI.out.trans S1.out).then (O2.out.alloc (.cells #[.int .u64 rr] 29))
          have S6 : Step M M1 w w6 := ⟨S12.1.trans hO6 (fun x hx => .inr (hXn x hx).1), S12.2⟩
          have RW2 : RidRow (w2.alloc (.cells #[.int .u64 rr] 29)) _ out := owns_later RW1.out (O2.out.alloc _) (by simp)
          have P6 := ((P1.out.past O2.out).past ((Only.refl [] w2).alloc (.cells #[.int .u64 rr] 29))).later hO6 (fun x hx cs hcs => owns_ne RW2 hcs (by decide) (Option.mem_toList.1 hx)) (fun x hx hm => (hXn x hm).2 hx)
          have NW6 : w.heap.size ≤ g6 ∧ g6 ∉ M1 := by
            rcases hat with h | h
            · exact hXn g6 (Option.mem_toList.2 h)
            · have h1 := P1.out.lt
              have h2 := HSI.out.1.size
              have h3 := S1.out.1.size
              have h4 := O2.out.size
              rw [World.size_alloc] at h
              exact ⟨by omega, fun hm => by have := h1 _ hm; omega⟩
          go_ret2
          refine ⟨_, M1, rfl, by rw [← ER.out]; exact rid_push hown, fun x hx => ?_, P6.more (by omega), S6⟩
          simp [Value.ownBlock] at hx
          subst hx
          exact NW6
        · have ER : Hid (chainP V d (out ++ [rr]) next = RES) := by
            have := HRS2.out
            rw [if_neg (fun h => h.elim hz hmem)] at this
            exact this
          have HMB : Hid (decide (next ∈ out ++ [rr]) = false) := decide_eq_false hmem
          have HME := Lib.hid hmem
          clear hmem hz
          go_wp2_with (first
            | (go_at_call 10; refine GYi.out.mono ?_; rintro e w1 ⟨g, c, M1, rfl, hr1, hg1, hn1, hP1, hS1⟩; have P1 := Lib.hid hP1; have S1 := Lib.hid hS1; have RW1 := Lib.hid (show RidRow w1 _ out from owns_later HROW.out hS1.1 (fun x hx => (HNEW.out x hx).2)); clear hP1 hS1 hr1 hg1 hn1)
            | (refine wpList_store_blk rfl 40 (.tmp 7) (.tmp 13) rfl w1.heap.size (verCells (.slice (some ⟨g, 0, none⟩) row.length c) xmin xmax next) rfl rfl (Blk.new' (verCells (.slice none 0 0) 0 0 0).toArray 40 w1 rfl) rfl IC.out verCells_one ?_; intro w2 hb2 hO2; have O2 : Hid (Only [] w1 w2) := (((Only.refl [] w1).alloc _).trans hO2 (fun x hx => by simp at hx; subst hx; exact .inr (Nat.le_refl _))); have B2 := Lib.hid hb2; clear hb2 hO2)
            | (refine wpList_push rfl (.tmp 26) (.tmp 28) 27 rfl 29 Try.underlying27 (info_parts info_rid) rfl (.slice ao out.length cap) out.length (u64s out) rfl (by exact owns_later RW1.out (O2.out.alloc _) (by simp)) _ _ _ rfl (by exact (Blk.new _ _ _).cell 0) rfl (by omega) (by decide) ?_; intro g6 cp w6 hown hO6 hat hg6; have hne := owns_ne (owns_later RW1.out (O2.out.alloc (.cells #[.int .u64 rr] 29)) (by simp)) (B2.out.alloc (.cells #[.int .u64 rr] 29)) (by decide); have e6 := (hO6.blk (B2.out.alloc _) (fun h => hne (Option.mem_toList.1 h))).cell 3; simp only [verCells, List.getElem?_cons_succ, List.getElem?_cons_zero] at e6; clear hg6)
            | (go_at_call 27; refine (contains_to (RidRow.at (rid_push hown)) (by rw [List.length_append, List.length_singleton]; omega) HMB.out).mono ?_; rintro e w7 ⟨rfl, rfl⟩))
          have hXn : ∀ x ∈ (Value.slice ao out.length cap).ownBlock.toList, w.heap.size ≤ x ∧ x ∉ M1 := fun x hx => by
            have hx := Option.mem_toList.1 hx
            exact ⟨(HNEW.out x hx).1, P.Step.keep S1.out (owns_lt HROW.out hx) (HNEW.out x hx).2⟩
          have S12 := (HSI.out.trans S1.out).then (O2.out.alloc (.cells #[.int .u64 rr] 29))
          have S6 : Step M M1 w w6 := ⟨S12.1.trans hO6 (fun x hx => .inr (hXn x hx).1), S12.2⟩
          have RW2 : RidRow (w2.alloc (.cells #[.int .u64 rr] 29)) _ out := owns_later RW1.out (O2.out.alloc _) (by simp)
          have P6 := ((P1.out.past O2.out).past ((Only.refl [] w2).alloc (.cells #[.int .u64 rr] 29))).later hO6 (fun x hx cs hcs => owns_ne RW2 hcs (by decide) (Option.mem_toList.1 hx)) (fun x hx hm => (hXn x hm).2 hx)
          have NW6 : w.heap.size ≤ g6 ∧ g6 ∉ M1 := by
            rcases hat with h | h
            · exact hXn g6 (Option.mem_toList.2 h)
            · have h1 := P1.out.lt
              have h2 := HSI.out.1.size
              have h3 := S1.out.1.size
              have h4 := O2.out.size
              rw [World.size_alloc] at h
              exact ⟨by omega, fun hm => by have := h1 _ hm; omega⟩
          go_roundg (K + 1 - (out ++ [rr]).length)
          case measure => have := HGK.out; rw [List.length_append, List.length_singleton]; omega
          case rel =>
            refine ⟨out ++ [rr], next, M1, rfl, by rw [List.length_append, List.length_singleton]; exact hl2, rfl, NXr.out, rid_push hown, fun x hx => ?_, P6.more (by rw [List.length_append, List.length_singleton]; omega), S6, ?_, HND2.out, HME.out, HALL2.out, fun h => ?_⟩
            · simp [Value.ownBlock] at hx
              subst hx
              exact NW6
            · rw [← ER.out]
              congr 1
              have := HD.out
              rw [List.length_append, List.length_singleton]
              omega
            · exact absurd h (by simp)
end
end Go.Proofs.Ytikonbnhbalpmaa.H
