/-
  The program's table of transactions: Open, a snapshot copied, Begin, Snapshot: by contracts.
-/
import Derived.Test.YtilkbcoofbkemaaTxnA
import Derived.Deep.RegionHeld3
import Derived.Deep.CutRange
namespace Go.Proofs.Ytilkbcoofbkemaa.T
set_option linter.unusedSimpArgs false
open Go Go.RowKit Go.Proofs.Ytilkbcoofbkemaa.I
set_option linter.unusedVariables false

/-- The open ones stand in the order of their numbers. -/
def TS.Rise (S : TS) : Prop := (S.opens.map (·.own)).Pairwise (· < ·)
theorem TS.Rise.once {S : TS} (h : S.Rise) : S.Once := h.imp fun h => Nat.ne_of_lt h
def TS.nums (S : TS) : List Nat := S.opens.map (·.own)
theorem rising_self {l : List Int} (h : l.Pairwise (· ≤ ·)) : rising l = l :=
  List.Perm.eq_of_pairwise (le := (· ≤ ·)) (fun a b _ _ h1 h2 => Int.le_antisymm h1 h2) (rising_sorted l) h (rising_perm l)
theorem nums_rising {S : TS} (h : S.Rise) : rising (S.nums.map fun n : Nat => (n : Int)) = S.nums.map fun n : Nat => (n : Int) :=
  rising_self (List.pairwise_map.2 (h.imp fun h => by omega))
theorem keys_nums {L : Opens} {S : TS} (h : L.map (·.1) = S.opens) : (openM L).map (·.1) = S.nums.map fun n : Nat => (n : Int) := by
  unfold TS.nums openM
  rw [← h]
  simp [List.map_map, Function.comp_def]
/-- A row of numbers of the caller's own, new. -/
def NatRow (w w' : World) (v : Value) (l : List Nat) : Prop := w'.ownsRow 0 26 1 v l.length (nats l) ∧ (∀ k, v.ownBlock = some k → w.heap.size ≤ k) ∧ Only [] w w'
theorem open_any {w : World} {t bo bg : Nat} {L : Opens} {S : TS} (h : TabAt w t bo bg L S) (ho : S.Rise) (hs : S.opens.length ≤ 524287) :
    Calls Try.prog 18 #[.pointer (some ⟨t, 0, none⟩)] w fun e w' => ∃ v, e = .returned v ∧ NatRow w w' v S.nums := by
  have HH := Lib.hid h
  have c1 := h.tab.cell 1
  simp only [List.getElem?_cons_succ, List.getElem?_cons_zero] at c1
  have hl : (openM L).length ≤ 524287 := by
    have := congrArg List.length h.fst
    simp [openM] at this ⊢
    omega
  have K := Lib.hid (fun w => keys_any bo w)
  have OA : Hid (Only [] w (w.alloc (.cells #[.map (some bo)] 63))) := (Only.refl _ _).alloc _
  have SO := Lib.hid (sortedKeys_any w.heap.size bo (openM L) hl (w.alloc (.cells #[.map (some bo)] 63)) (by rw [Blk.cell (Blk.new' _ _ w rfl)]; rfl) (h.opn.past OA.out))
  have E : Hid (rising ((openM L).map (·.1)) = S.nums.map fun n : Nat => (n : Int)) := by show _ = _; rw [keys_nums h.fst, nums_rising ho]
  rw [E.out] at SO
  clear h hs hl
  go_enter Try.func18, Try.ntmps18
  go_wp2_with (go_at_call 38; refine (K.out _).mono ?_; rintro e w' ⟨rfl, rfl⟩)
  refine SO.out.mono ?_
  rintro e w2 ⟨v, rfl, hr, hn, hO⟩
  go_wp2_with fail
  go_ret
  refine ⟨v, rfl, ?_, fun k hk => by have := hn k hk; simp at this; omega, OA.out.trans hO (by simp)⟩
  rw [List.length_map, List.map_map] at hr
  exact hr
theorem make_nats (n : Nat) (h : n ≤ 1048576) : ∀ w : World, (Instr.makeSlice 27 (.int .i64 (n : Int)) (.int .i64 (n : Int))).run Try.prog w =
    .ok (.slice (some ⟨w.heap.size, 0, none⟩) n n) (w.alloc (.cells (List.replicate n (.int .u64 0)).toArray 26)) := by
  intro w
  obtain ⟨i, hi, hz0, hz1, hz2⟩ := info_parts info_key
  have hr := run_make (P := Try.prog) w 27 26 i (.int .u64 0) Try.underlying27 hi hz0 .i64 .i64 n n (by omega) (by omega) (by rw [hz2]; omega) (by omega)
  rw [hr]
  simp only [Value.cells, hz1, Nat.mul_one, madeCells_one, Int.toNat_natCast]
/-- A slice of numbers, wherever it lies. -/
def NatsAt (w : World) (v : Value) (l : List Nat) : Prop :=
  ∃ ao cap, v = .slice ao l.length cap ∧ (0 < l.length → ∃ b o, ao = some ⟨b, o, none⟩ ∧ ∀ j, j < l.length → w.cell? ⟨b, o + j, none⟩ = some (.int .u64 (l.getD j 0 : Nat)))
theorem nats_owned {w : World} {v : Value} {l : List Nat} (h : w.ownsRow 0 26 1 v l.length (nats l)) : NatsAt w v l := by
  rcases h.2 with ⟨rfl, h0⟩ | ⟨g, cap, cur, rfl, _, hh, h3, h4, h5, h6⟩
  · exact ⟨none, 0, by rw [h0], fun h => by omega⟩
  · refine ⟨_, cap, rfl, fun h0 => ⟨g, 0, rfl, fun j hj => ?_⟩⟩
    have := h.cells (g := g) rfl j (.int .u64 (l.getD j 0 : Nat)) (by unfold nats; rw [List.getElem?_map, List.getElem?_eq_getElem hj, List.getD_eq_getElem?_getD, List.getElem?_eq_getElem hj]; rfl)
    rw [add_plain] at this
    exact this
theorem NatsAt.past {w w' : World} {v : Value} {l : List Nat} (h : NatsAt w v l) (hO : Only [] w w') : NatsAt w' v l := by
  obtain ⟨ao, cap, rfl, hc⟩ := h
  refine ⟨ao, cap, rfl, fun h0 => ?_⟩
  obtain ⟨b, o, rfl, hc2⟩ := hc h0
  exact ⟨b, o, rfl, fun j hj => hO.cell (hc2 j hj) (by simp)⟩
theorem nats_src {w : World} {b o : Nat} {l : List Nat} (h : ∀ j, j < l.length → w.cell? ⟨b, o + j, none⟩ = some (.int .u64 (l.getD j 0 : Nat))) (j : Nat) (v : Value) (hv : (nats l)[j]? = some v) : w.cell? ((⟨b, o, none⟩ : Addr).add j) = some v := by
  have hj : j < l.length := by
    rcases Nat.lt_or_ge j l.length with h1 | h1
    · exact h1
    · rw [List.getElem?_eq_none (by rw [nats_len]; exact h1)] at hv; cases hv
  rw [add_plain, h j hj, ← hv, nats, List.getElem?_map, List.getElem?_eq_getElem hj, List.getD_eq_getElem?_getD, List.getElem?_eq_getElem hj]
  rfl
theorem nats_oneCell (l : List Nat) : ∀ v ∈ nats l, v.oneCell' = true := fun v hv => by
  simp only [nats, List.mem_map] at hv
  obtain ⟨_, _, rfl⟩ := hv
  rfl
theorem size_key : (Try.prog.info? 26).map (·.size) = some 1 := by kernel_rfl
set_option maxRecDepth 100000 in
set_option maxHeartbeats 1000000 in
theorem copied_any (a b : Nat) (v : Value) (l : List Nat) (w : World) (h : NatsAt w v l) (hl : l.length ≤ 524287) :
    Calls Try.prog 35 #[.agg #[.int .u64 a, .int .u64 b, v]] w fun e w' => ∃ v', e = .returned (.agg #[.int .u64 a, .int .u64 b, v']) ∧ NatRow w w' v' l := by
  have HH := Lib.hid h
  obtain ⟨ao, cap, rfl, hc⟩ := h
  have mk := make_nats l.length (by omega)
  obtain ⟨n, hn⟩ : ∃ n, l.length = n := ⟨_, rfl⟩
  have HN := Lib.hid hn
  rw [hn] at mk hl ⊢
  have HC : Hid (0 < (nats l).length → ∃ ad, ao = some ad ∧ ∀ j v, (nats l)[j]? = some v → w.cell? (ad.add j) = some v) := fun h0 => by
    rw [nats_len] at h0
    obtain ⟨b, o, rfl, hc2⟩ := hc h0
    exact ⟨_, rfl, nats_src hc2⟩
  clear hc hn
  go_enter Try.func35, Try.ntmps35
  go_wp2_with (refine wpList_copy_blk rfl (.tmp 8) (.tmp 10) 27 27 rfl 26 Try.underlying27 size_key _ _ _ _ _ _ rfl rfl (w.heap.size + 1 + 1) 0 (List.replicate n (.int .u64 0)) 26 (Blk.new' _ _ _ (by simp)) (nats l) ?hlen ?hpos ?hfit (nats_oneCell l) ?_)
  case hlen => rw [nats_len, HN.out]; simp
  case hpos =>
    intro h0
    obtain ⟨ad, h1, h2⟩ := HC.out h0
    have f := fun j v hj => ((((Only.refl [] w).alloc (.cells #[.int .u64 a, .int .u64 b, .slice ao n cap] 29)).alloc (.cells #[.int .u64 0, .int .u64 0, .slice none 0 0] 29)).alloc (.cells (List.replicate n (.int .u64 0)).toArray 26)).cell (h2 j v hj) (by simp)
    first | exact ⟨rfl, ad, h1, f⟩ | exact ⟨ad, h1, f⟩
  case hfit => rw [nats_len, HN.out]; simp
  intro w5 hb5 hO5
  have BX : Hid (Blk w5 w.heap.size [.int .u64 a, .int .u64 b, .slice ao n cap] 29) := hO5.blk ((((Blk.new _ _ w).alloc _).alloc _)) (by simp; omega)
  have BR : Hid (Blk w5 (w.heap.size + 1) [.int .u64 0, .int .u64 0, .slice none 0 0] 29) := hO5.blk (((Blk.new' _ _ _ (by simp)).alloc _)) (by simp)
  have B5 := Lib.hid hb5
  have O5 : Hid (Only [] w w5) := ((((Only.refl [] w).alloc _).alloc _).alloc _).trans hO5 (fun x hx => by simp at hx; subst hx; right; omega)
  have x0 := BX.out.cell 0
  have x1 := BX.out.cell 1
  have x2 := BX.out.cell 2
  have r0 := BR.out.cell 0
  have r1 := BR.out.cell 1
  have r2 := BR.out.cell 2
  have fx := BX.out.frozen 2
  have f0 := BR.out.frozen 0
  have f1 := BR.out.frozen 1
  have f2 := BR.out.frozen 2
  simp only [List.getElem?_cons_succ, List.getElem?_cons_zero] at x0 x1 x2 r0 r1 r2
  clear hb5 hO5
  go_wp2_with fail
  obtain ⟨w6, hw6⟩ : ∃ w6, ((((w5.setCell ⟨w.heap.size, 2, none⟩ (.slice (some ⟨w.heap.size + 1 + 1, 0, none⟩) n n)).setCell ⟨w.heap.size + 1, 0, none⟩ (.int .u64 a)).setCell ⟨w.heap.size + 1, 1, none⟩ (.int .u64 b)).setCell ⟨w.heap.size + 1, 2, none⟩ (.slice (some ⟨w.heap.size + 1 + 1, 0, none⟩) n n)) = w6 := ⟨_, rfl⟩
  have R6 : Blk w6 (w.heap.size + 1) [.int .u64 a, .int .u64 b, .slice (some ⟨w.heap.size + 1 + 1, 0, none⟩) n n] 29 := by
    rw [← hw6]
    exact (((((BR.out.far _ (by simp)).set 0 _).set 1 _).set 2 _)).to (by simp)
  have O6 : Only [w.heap.size, w.heap.size + 1] w5 w6 := by
    rw [← hw6]
    exact ((((Only.refl _ _).setCell (.inl (by simp)) _).setCell (.inl (by simp)) _).setCell (.inl (by simp)) _).setCell (.inl (by simp)) _
  rw [hw6]
  clear hw6
  have q0 := R6.cell 0
  have q1 := R6.cell 1
  have q2 := R6.cell 2
  simp only [List.getElem?_cons_succ, List.getElem?_cons_zero] at q0 q1 q2
  refine bodyPost_ret (v := .agg #[.int .u64 a, .int .u64 b, .slice (some ⟨w.heap.size + 1 + 1, 0, none⟩) n n]) (by simp [results, Try.results35, go_sem, q0, q1, q2]) rfl ⟨_, rfl, ?_, fun k hk => by simp only [Value.ownBlock, Option.some.injEq] at hk; omega, O5.out.trans O6 (fun x hx => by simp at hx; omega)⟩
  have hs : splice (List.replicate n (Value.int .u64 0)) 0 (nats l) = nats l := by
    simp [splice, nats_len, HN.out]
  have hb6 : Blk w6 (w.heap.size + 1 + 1) (nats l) 26 := (O6.blk B5.out (by simp; omega)).to hs
  have ho := Blk.owns hb6 (by rw [nats_len, HN.out]; unfold maxLen; omega)
  rw [nats_len, HN.out] at ho
  rw [HN.out]
  exact ho
theorem cell_past3 {w : World} {b : Nat} {x y z v : Value} {p : Addr} (h : w.cell? p = some v) (hne : p.block ≠ b) : (((w.setCell ⟨b, 0, none⟩ x).setCell ⟨b, 1, none⟩ y).setCell ⟨b, 2, none⟩ z).cell? p = some v :=
  ((((Only.refl [b] w).setCell (.inl (by simp)) x).setCell (.inl (by simp)) y).setCell (.inl (by simp)) z).cell h (by simpa using hne)
def TS.snap (S : TS) : Snap := ⟨S.next, S.next, S.nums⟩
def TS.begin (S : TS) : TS := { S with next := S.next + 1, opens := S.opens ++ [S.snap] }
theorem TabAt.begun {w w5 : World} {t bo bg : Nat} {L : Opens} {S : TS} {v : Value} (h : TabAt w t bo bg L S) (hv : w.ownsRow 0 26 1 v S.nums.length (nats S.nums)) (hsm : S.next + 1 < 9223372036854775808) (hm : MapAt w5 bo .u64 (mput (openM L) S.next (snapV S.snap v))) (hO : Only [bo] w w5) :
    TabAt (w5.setCell ⟨t, 0, none⟩ (.int .u64 ((S.next + 1 : Nat) : Int))) t bo bg (L ++ [(S.snap, v)]) S.begin where
  tab := (((hO.blk h.tab (by simpa using fun e => (h.opn.ne h.tab) e.symm)).set 0 _)).to (by simp [TS.begin])
  opn := by
    have hl : Go.Proofs.Ytilkbcoofbkemaa.look (openM L) S.next = none := look_none fun p hp e => by
      simp only [openM, List.mem_map] at hp
      obtain ⟨q, hq, rfl⟩ := hp
      have := h.less q.1 (by rw [← h.fst]; exact List.mem_map_of_mem hq)
      have e2 : (q.1.own : Int) = S.next := e
      omega
    rw [put_new hl] at hm
    have e : openM (L ++ [(S.snap, v)]) = openM L ++ [((S.next : Int), snapV S.snap v)] := by simp [openM, TS.snap]
    rw [e]
    exact hm.later ((Only.refl [t] _).setCell (.inl (by simp)) _) (by simpa using h.opn.ne h.tab)
  gon := (h.gon.later hO (by simpa using h.ne.symm)).later ((Only.refl [t] _).setCell (.inl (by simp)) _) (by simpa using h.gon.ne h.tab)
  fst := by rw [List.map_append, h.fst]; rfl
  rows := fun p hp => by
    have hO2 : Only [bo, t] w (w5.setCell ⟨t, 0, none⟩ (.int .u64 ((S.next + 1 : Nat) : Int))) := (hO.mono (by simp)).setCell (.inl (by simp)) _
    have hX : Off 26 w [bo, t] := fun k hk cs hb => by
      simp at hk
      rcases hk with rfl | rfl
      · exact h.opn.ne hb rfl
      · exact Off.one h.tab (by decide) _ (by simp) _ hb
    rcases List.mem_append.1 hp with h1 | h1
    · exact owns_off (h.rows p h1) hO2 hX
    · simp at h1
      subst h1
      exact owns_off hv hO2 hX
  ne := h.ne
  small := hsm
  less := fun s hs => by
    show s.own < S.next + 1
    rcases List.mem_append.1 hs with h1 | h1
    · have := h.less s h1; omega
    · simp at h1
      subst h1
      exact Nat.lt_succ_self _
set_option maxRecDepth 100000 in
set_option maxHeartbeats 2000000 in
theorem begin_any {w : World} {t bo bg : Nat} {L : Opens} {S : TS} (h : TabAt w t bo bg L S) (ho : S.Rise) (hs : S.opens.length ≤ 524287) (hsm : S.next + 1 < 9223372036854775808) :
    Calls Try.prog 10 #[.pointer (some ⟨t, 0, none⟩)] w fun e w' => ∃ v, e = .returned (.tuple #[.int .u64 S.next, snapV S.snap v]) ∧ w'.ownsRow 0 26 1 v S.nums.length (nats S.nums) ∧ (∀ k, v.ownBlock = some k → w.heap.size ≤ k) ∧ ∃ L', TabAt w' t bo bg L' S.begin ∧ Only [t, bo] w w' ∧ (∀ p ∈ L', v.ownBlock ≠ p.2.ownBlock ∨ v.ownBlock = none) ∧ (∀ p ∈ L', p ∈ L ∨ ∀ x, p.2.ownBlock = some x → w.heap.size ≤ x) := by
  have HH := Lib.hid h
  have OP : Hid (∀ w1, Only [] w w1 → Calls Try.prog 18 #[.pointer (some ⟨t, 0, none⟩)] w1 fun e w' => ∃ v, e = .returned v ∧ NatRow w1 w' v S.nums) := fun w1 hO => open_any (HH.out.past hO) ho hs
  have c0 := h.tab.cell 0
  have c1 := h.tab.cell 1
  simp only [List.getElem?_cons_succ, List.getElem?_cons_zero] at c0 c1
  obtain ⟨nx, hnx⟩ : ∃ nx, S.next = nx := ⟨_, rfl⟩
  have HNX := Lib.hid hnx
  rw [hnx] at c0 ⊢
  have ewx : IntKind.u64.wrap ((nx : Int) + 1) = ((nx + 1 : Nat) : Int) := by simp [IntKind.wrap, IntKind.signed, IntKind.bits]; omega
  have HSM := Lib.hid hsm
  have HS := Lib.hid hs
  clear hsm hs
  have T0 := Lib.hid c0
  have htl : t < w.heap.size := h.tab.lt
  have htne : ¬ t = w.heap.size + 1 := by omega
  clear h hnx
  go_enter Try.func10, Try.ntmps10
  go_wp2_with fail
  go_upto_region 1 with fail
  go_cut [4] from 5 (fun s4 wx => ∃ sb a3 c3, s4 = .pointer (some ⟨sb, 0, none⟩) ∧ Blk wx sb [.int .u64 nx, .int .u64 nx, .slice a3 S.nums.length c3] 29 ∧ wx.ownsRow 0 26 1 (.slice a3 S.nums.length c3) S.nums.length (nats S.nums) ∧ (∀ k, (Value.slice a3 S.nums.length c3).ownBlock = some k → w.heap.size ≤ k) ∧ Only [] w wx ∧ Blk wx w.heap.size [.int .u64 0, .int .u64 0, .slice none 0 0] 29 ∧ w.heap.size < sb)
  case first =>
    go_region_held3 (fun w' => w'.cell? ⟨t, 0, none⟩ = some (.int .u64 nx)) (first | go_keep | exact hKEEP | exact cell_past3 hKEEP htne) (first | (go_at_call 18; refine (OP.out _ (((Only.refl _ _).alloc _).drew)).mono ?_; rintro e w3 ⟨v3, rfl, hr3, hn3, hO3⟩; obtain ⟨a3, c3, rfl⟩ := owns_form hr3; have hKEEP := hO3.cell (p := ⟨t, 0, none⟩) (Blk.cellAlloc _ T0.out) (by simp)) | (go_at_call 18; refine (OP.out _ ((((Only.refl _ _).alloc _).alloc _).drew)).mono ?_; rintro e w3 ⟨v3, rfl, hr3, hn3, hO3⟩; obtain ⟨a3, c3, rfl⟩ := owns_form hr3; have hKEEP := hO3.cell (p := ⟨t, 0, none⟩) (Blk.cellAlloc _ (Blk.cellAlloc _ T0.out)) (by simp); have BX : Blk w3 (w.heap.size + 1) [.int .u64 0, .int .u64 0, .slice none 0 0] 29 := hO3.blk (Blk.new' _ _ _ (by simp)) (by simp); have x0 := BX.cell 0; have x1 := BX.cell 1; have x2 := BX.cell 2; have fx0 := BX.frozen 0; have fx1 := BX.frozen 1; have fx2 := BX.frozen 2; simp only [List.getElem?_cons_succ, List.getElem?_cons_zero] at x0 x1 x2))
    · go_wp2_with fail
      go_meet
      case rel =>
        have O3 : Only [] w w3 := (((Only.refl _ _).alloc _).drew).trans hO3 (by simp)
        exact ⟨w3.heap.size, a3, c3, rfl, Blk.new' _ _ _ rfl, owns_past hr3 ((Only.refl _ _).alloc _), fun k hk => by have := hn3 k hk; have h2 : (w.alloc (.cells #[.int .u64 0, .int .u64 0, .slice none 0 0] 29)).heap.size ≤ k := this; simp at h2; omega, O3.alloc _, (hO3.blk (Blk.new _ _ w) (by simp)).alloc _, by have := hO3.size; have h2 : (w.alloc (.cells #[.int .u64 0, .int .u64 0, .slice none 0 0] 29)).heap.size ≤ w3.heap.size := this; simp at h2; omega⟩
    · go_wp2_with fail
      go_meet
      case rel =>
        have O3 : Only [] w w3 := ((((Only.refl _ _).alloc _).alloc _).drew).trans hO3 (by simp)
        have O4 : Only [w.heap.size + 1] w3 (((w3.setCell ⟨w.heap.size + 1, 0, none⟩ (.int .u64 nx)).setCell ⟨w.heap.size + 1, 1, none⟩ (.int .u64 nx)).setCell ⟨w.heap.size + 1, 2, none⟩ (.slice a3 S.nums.length c3)) := (((Only.refl _ _).setCell (.inl (by simp)) _).setCell (.inl (by simp)) _).setCell (.inl (by simp)) _
        refine ⟨w.heap.size + 1, a3, c3, rfl, (((BX.set 0 _).set 1 _).set 2 _).to (by simp), owns_off hr3 O4 (Off.one BX (by decide)), fun k hk => ?_, O3.trans O4 (fun x hx => by simp at hx; subst hx; right; omega), O4.blk (hO3.blk ((Blk.new _ _ w).alloc _) (by simp)) (by simp), by omega⟩
        have := hn3 k hk
        have h2 : ((w.alloc (.cells #[.int .u64 0, .int .u64 0, .slice none 0 0] 29)).alloc (.cells #[.int .u64 0, .int .u64 0, .slice none 0 0] 29)).heap.size ≤ k := this
        simp at h2; omega
  case rest =>
    obtain ⟨sb, a3, c3, rfl, hb4, hr4, hn4, hO4, hres, hsb⟩ := hcut
    rename World => w4
    have B4 := Lib.hid hb4
    have R4 := Lib.hid hr4
    have N4 := Lib.hid hn4
    have O4 := Lib.hid hO4
    have Q4 := Lib.hid hres
    have H4 := Lib.hid (HH.out.past hO4)
    clear hb4 hr4 hn4 hO4 hres OP T0 c0 c1
    have c0 := H4.out.tab.cell 0
    have c1 := H4.out.tab.cell 1
    have x0 := B4.out.cell 0
    have x1 := B4.out.cell 1
    have x2 := B4.out.cell 2
    simp only [List.getElem?_cons_succ, List.getElem?_cons_zero] at c0 c1 x0 x1 x2
    rw [HNX.out] at c0
    have hnt : t ∉ [bo] := by simpa using fun e => (H4.out.opn.ne H4.out.tab) e.symm
    have hnsb : sb ∉ [bo] := by simpa using fun e => (H4.out.opn.ne B4.out) e.symm
    go_wp2_with fail
    go_region_held3 (fun w' => w'.cell? ⟨t, 0, none⟩ = some (.int .u64 nx) ∧ w'.cell? ⟨t, 1, none⟩ = some (.map (some bo)) ∧ w'.cell? ⟨sb, 0, none⟩ = some (.int .u64 nx) ∧ w'.cell? ⟨sb, 1, none⟩ = some (.int .u64 nx) ∧ w'.cell? ⟨sb, 2, none⟩ = some (.slice a3 S.nums.length c3)) (first | go_keep | exact ⟨hO5.cell c0 hnt, hO5.cell c1 hnt, hO5.cell x0 hnsb, hO5.cell x1 hnsb, hO5.cell x2 hnsb⟩) ((refine upon_put Try.underlying63 Try.underlying26 (H4.out.past ((Only.refl _ _).drew)).opn _ _ ?_; intro w5 hm5 hO5 hs5))
    have c0 := hO5.cell c0 hnt
    have x0 := hO5.cell x0 hnsb
    have x1 := hO5.cell x1 hnsb
    have x2 := hO5.cell x2 hnsb
    have fc0 : w5.frozen? ⟨t, 0, none⟩ = false := (hO5.blk (((Only.refl [] _).drew).blk H4.out.tab (by simp)) hnt).frozen 0
    have R5' : Hid (w4.ownsRow 0 26 1 (.slice a3 S.nums.length c3) S.nums.length (nats S.nums)) := R4.out
    have O5 : Hid (Only [bo] w4 w5) := ((((Only.refl [] w4).drew).mono (by simp)).trans hO5 (fun x hx => .inl hx))
    have T6 : Hid (TabAt (w5.setCell ⟨t, 0, none⟩ (.int .u64 ((nx : Int) + 1))) t bo bg (L ++ [(S.snap, .slice a3 S.nums.length c3)]) S.begin) := by
      show TabAt _ _ _ _ _ _
      have := H4.out.begun R4.out HSM.out (by simp only [snapV, TS.snap, HNX.out]; exact hm5) O5.out
      rw [HNX.out] at this
      exact this
    clear hm5
    go_wp2_with fail
    obtain ⟨w6, hw6⟩ : ∃ w6, w5.setCell ⟨t, 0, none⟩ (.int .u64 ((nx : Int) + 1)) = w6 := ⟨_, rfl⟩
    have O6 : Hid (Only [t, bo] w4 w6) := by
      rw [← hw6]
      exact (O5.out.mono (by simp)).setCell (.inl (by simp)) _
    have hst : sb ∉ [t, bo] := by
      intro hx
      simp at hx
      rcases hx with e | e
      · subst e; exact absurd (B4.out.symm.trans H4.out.tab) (by simp)
      · exact hnsb (by simp [e])
    have hqt : w.heap.size ∉ [t, bo] := by
      intro hx
      simp at hx
      rcases hx with e | e
      · omega
      · exact H4.out.opn.ne Q4.out e.symm
    have X6 := Lib.hid (O6.out.blk B4.out hst)
    have Q6 := Lib.hid (O6.out.blk Q4.out hqt)
    have R6 : Hid (w6.ownsRow 0 26 1 (.slice a3 S.nums.length c3) S.nums.length (nats S.nums)) := T6.out |> fun h => by
      rw [hw6] at h
      exact h.rows (S.snap, _) (by simp)
    rw [hw6] at T6 ⊢
    have CP : Hid (∀ w1, Only [] w6 w1 → Calls Try.prog 35 #[.agg #[.int .u64 nx, .int .u64 nx, .slice a3 S.nums.length c3]] w1 fun e w' => ∃ v', e = .returned (.agg #[.int .u64 nx, .int .u64 nx, v']) ∧ NatRow w1 w' v' S.nums) := fun w1 hO => copied_any nx nx _ S.nums w1 ((nats_owned R6.out).past hO) (by unfold TS.nums; rw [List.length_map]; exact HS.out)
    clear hw6 c0 x0 x1 x2 fc0 hO5 hs5
    have x0 := X6.out.cell 0
    have x1 := X6.out.cell 1
    have x2 := X6.out.cell 2
    have r0 := Q6.out.cell 0
    have r1 := Q6.out.cell 1
    have r2 := Q6.out.cell 2
    have f0 := Q6.out.frozen 0
    have f1 := Q6.out.frozen 1
    have f2 := Q6.out.frozen 2
    simp only [List.getElem?_cons_succ, List.getElem?_cons_zero] at x0 x1 x2 r0 r1 r2
    have hsbne : ¬ sb = w.heap.size := by omega
    go_region_held3 (fun w' => w'.cell? ⟨sb, 0, none⟩ = some (.int .u64 nx) ∧ w'.cell? ⟨sb, 1, none⟩ = some (.int .u64 nx) ∧ w'.cell? ⟨sb, 2, none⟩ = some (.slice a3 S.nums.length c3)) (first | go_keep | exact ⟨hO7.cell x0 (by simp), hO7.cell x1 (by simp), hO7.cell x2 (by simp)⟩ | exact ⟨cell_past3 (hO7.cell x0 (by simp)) hsbne, cell_past3 (hO7.cell x1 (by simp)) hsbne, cell_past3 (hO7.cell x2 (by simp)) hsbne⟩) ((go_at_call 35; refine (CP.out _ ((Only.refl _ _).drew)).mono ?_; rintro e w7 ⟨v7, rfl, hr7, hn7, hO7⟩; obtain ⟨a7, c7, rfl⟩ := owns_form hr7; have BX : Blk w7 w.heap.size [.int .u64 0, .int .u64 0, .slice none 0 0] 29 := hO7.blk (((Only.refl [] w6).drew).blk Q6.out (by simp)) (by simp); have y0 := BX.cell 0; have y1 := BX.cell 1; have y2 := BX.cell 2; have fy0 := BX.frozen 0; have fy1 := BX.frozen 1; have fy2 := BX.frozen 2; simp only [List.getElem?_cons_succ, List.getElem?_cons_zero] at y0 y1 y2))
    go_wp2_with fail
    obtain ⟨w8, hw8⟩ : ∃ w8, (((w7.setCell ⟨w.heap.size, 0, none⟩ (.int .u64 nx)).setCell ⟨w.heap.size, 1, none⟩ (.int .u64 nx)).setCell ⟨w.heap.size, 2, none⟩ (.slice a7 S.nums.length c7)) = w8 := ⟨_, rfl⟩
    have R8 : Blk w8 w.heap.size [.int .u64 nx, .int .u64 nx, .slice a7 S.nums.length c7] 29 := by
      rw [← hw8]
      exact (((BX.set 0 _).set 1 _).set 2 _).to (by simp)
    have O8 : Only [w.heap.size] w7 w8 := by
      rw [← hw8]
      exact (((Only.refl _ _).setCell (.inl (by simp)) _).setCell (.inl (by simp)) _).setCell (.inl (by simp)) _
    rw [hw8]
    have O68 : Only [w.heap.size] w6 w8 := ((((Only.refl [] w6).drew).trans hO7 (by simp)).mono (by simp)).trans O8 (fun x hx => .inl hx)
    clear hw8
    have q0 := R8.cell 0
    have q1 := R8.cell 1
    have q2 := R8.cell 2
    simp only [List.getElem?_cons_succ, List.getElem?_cons_zero] at q0 q1 q2
    have hs6 : w.heap.size ≤ w6.heap.size := Nat.le_trans O4.out.size O6.out.size
    have hn7' : ∀ k, (Value.slice a7 S.nums.length c7).ownBlock = some k → w6.heap.size ≤ k := fun k hk => hn7 k hk
    have hsp : snapV S.snap (.slice a7 S.nums.length c7) = .agg #[.int .u64 nx, .int .u64 nx, .slice a7 S.nums.length c7] := by simp [snapV, TS.snap, HNX.out]
    refine bodyPost_ret (v := .tuple #[.int .u64 nx, .agg #[.int .u64 nx, .int .u64 nx, .slice a7 S.nums.length c7]]) (by simp [results, Try.results10, go_sem, q0, q1, q2]) rfl ⟨.slice a7 S.nums.length c7, by rw [hsp], owns_off hr7 O8 (Off.one BX (by decide)), fun k hk => Nat.le_trans hs6 (hn7' k hk), _, T6.out.later O68 ?_, ?_, fun p hp => ?_, fun p hp => ?_⟩
    · have hq : ∀ {x}, x ∈ [w.heap.size] → x = w.heap.size := by simp
      refine ⟨by simpa using (fun e => hqt (by simp [e])), by simpa using (fun e => hqt (by simp [e])), fun e => ?_, Off.one Q6.out (by decide)⟩
      simp at e
      exact T6.out.gon.ne Q6.out e
    · exact ((O4.out.mono (by simp)).trans O6.out (fun x hx => .inl hx)).trans O68 (fun x hx => by simp at hx; subst hx; right; exact Nat.le_refl _)
    · cases hv : (Value.slice a7 S.nums.length c7).ownBlock with
      | none => exact .inr rfl
      | some k =>
        left
        intro e
        have h1 := hn7' k hv
        have h2 := owns_lt (T6.out.rows p hp) e.symm
        omega
    · rcases List.mem_append.1 hp with h1 | h1
      · exact .inl h1
      · simp at h1
        subst h1
        exact .inr N4.out
end Go.Proofs.Ytilkbcoofbkemaa.T
