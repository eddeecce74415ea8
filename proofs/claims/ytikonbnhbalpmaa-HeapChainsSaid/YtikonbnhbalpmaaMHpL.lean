import Derived.Test.YtikonbnhbalpmaaMHpI
/-
  The program's heap: find: by contracts.
-/
namespace Go.Proofs.Ytikonbnhbalpmaa.H
set_option linter.unusedSimpArgs false
open Go Go.RowKit Go.Proofs.Ytikonbnhbalpmaa.D Go.Proofs.Ytikonbnhbalpmaa.B Go.Proofs.Ytikonbnhbalpmaa.C Go.Proofs.Ytikonbnhbalpmaa.G Go.Proofs.Ytikonbnhbalpmaa.P
set_option linter.unusedVariables false
theorem results_tmp4 {fn : Func} {t u v x : Tmp} (h : fn.results = #[.tmp t, .tmp u, .tmp v, .tmp x]) (tmps : Array Value) (P : Program) (w : World) :
    (results fn tmps).run P w = .ok (.tuple #[tmps.getD t undef, tmps.getD u undef, tmps.getD v undef, tmps.getD x undef]) w := by
  simp [results, h]
theorem HeapIs.at {u : List Bool} {pg : Nat → List UInt8} {root : Nat} {ids : List Nat} (h : HeapIs u pg root ids) {id : Nat} (hid : id ∈ ids) : ∃ i, i < ids.length ∧ ids.getD i 0 = id ∧ HPage root (ids.getD (i + 1) 0) (pg id) := by
  obtain ⟨i, hi, rfl⟩ := List.getElem_of_mem hid
  have e : ids.getD i 0 = ids[i] := by rw [List.getD_eq_getElem?_getD, List.getElem?_eq_getElem hi]; rfl
  refine ⟨i, hi, e, ?_⟩
  have := h.page i hi
  rw [e] at this; exact this
/-- No version is there. -/
def NoVer (u : List Bool) (pg : Nat → List UInt8) (ids : List Nat) (r : Nat) : Prop := 8388608 ≤ r ∨ u.getD (r / 128) false = false ∨ (r / 128 ∈ ids ∧ verAt (pg (r / 128)) (r % 128) = none)
def IsVer (pg : Nat → List UInt8) (ids : List Nat) (r : Nat) (v : Ver) : Prop := r / 128 ∈ ids ∧ verAt (pg (r / 128)) (r % 128) = some v
section
variable {w : World} {hb p root k : Nat} {M : List Nat} {u : List Bool} {pg : Nat → List UInt8} {ids : List Nat}
theorem page_in (hP : PoolV w p M u pg k) (hk : k ≤ 1000000) (hH : HpAt w hb p root) (hM : hb ∉ M) (hI : HeapIs u pg root ids) {id : Nat} (hid : id ∈ ids) :
    Calls Try.prog 29 #[.pointer (some ⟨hb, 0, none⟩), .int .i64 id] w fun e w' => ∃ gb c M' n, e = .returned (.tuple #[.slice (some ⟨gb, 0, none⟩) 512 c, .int .i64 (n : Nat), .int .i64 0]) ∧ GotP w p M u pg k id gb c M' w' := by
  obtain ⟨i, hi, he, _⟩ := hI.at hid
  have hr : root < 65536 := by have := hI.id_lt hP.size (i := 0); rw [hI.head] at this; exact this
  have hn := hI.next hP.size hi
  rw [he] at hn
  refine (page_yes hP hk hH hM hr (hI.used _ hid) hn).mono ?_
  rintro e w' ⟨gb, c, M', rfl, h⟩
  exact ⟨gb, c, M', _, rfl, h⟩
set_option maxRecDepth 100000 in
set_option maxHeartbeats 1000000 in
theorem find_no (hP : PoolV w p M u pg k) (hk : k ≤ 1000000) (hH : HpAt w hb p root) (hM : hb ∉ M) (hI : HeapIs u pg root ids) (r : Nat) (hr : r < W64) (hn : NoVer u pg ids r) :
    Calls Try.prog 23 #[.pointer (some ⟨hb, 0, none⟩), .int .u64 r] w fun e w' => e = .returned (.tuple #[.slice none 0 0, .int .i64 0, .int .i64 0, .int .i64 91]) ∧ ∃ M', PoolV w' p M' u pg (k + 2) ∧ Step M M' w w' := by
  have PL := Lib.hid (fun w1 => place_any w1 r hr)
  have HP := Lib.hid hP
  by_cases hbig : 8388608 ≤ r
  · have i1 : (r : Int) ≥ 8388608 := by omega
    have i2 : (8388608 : Int) ≤ r := by omega
    clear hP hH hM hI hn
    go_enter Try.func23, Try.ntmps23
    go_wp2_with (go_at_call 43; refine (PL.out _).mono ?_; rintro e w1 ⟨rfl, rfl⟩)
    refine bodyPost_ret (results_tmp4 rfl _ _ _) rfl ?_
    exact ⟨rfl, M, HP.out.more (by omega), Step.refl _ _⟩
  have hn : u.getD (r / 128) false = false ∨ (r / 128 ∈ ids ∧ verAt (pg (r / 128)) (r % 128) = none) := by
    rcases hn with hn | hn
    · exact absurd hn hbig
    · exact hn
  have i1 : ¬ (r : Int) ≥ 8388608 := by omega
  have i2 : ¬ (8388608 : Int) ≤ r := by omega
  have i3 : (r : Int) < 8388608 := by omega
  have i4 : decide ((8388608 : Int) ≤ (r : Int)) = false := decide_eq_false i2
  clear hbig
  rcases hn with hn | ⟨hid, hv⟩
  · have PN := Lib.hid (page_none hP hH (r / 128 : Nat) (.inr hn))
    clear hP hH hM hI hn
    generalize r / 128 = id at *
    generalize r % 128 = slot at *
    go_enter Try.func23, Try.ntmps23
    go_wp2_with (first
      | (go_at_call 43; refine (PL.out _).mono ?_; rintro e w1 ⟨rfl, rfl⟩)
      | (go_at_call 29; refine PN.out.mono ?_; rintro e w2 ⟨rfl, rfl⟩))
    refine bodyPost_ret (results_tmp4 rfl _ _ _) rfl ?_
    exact ⟨rfl, M, HP.out.more (by omega), Step.refl _ _⟩
  · have PY := Lib.hid (page_in hP hk hH hM hI hid)
    obtain ⟨_, _, _, hpage⟩ := hI.at hid
    have hpg := hpage.pg
    have hsl : r % 128 < 128 := Nat.mod_lt _ (by omega)
    by_cases hodd : r % 128 % 2 = 1
    · have hc : ct (pg (r / 128)) (r % 128) = none := (verAt_none hpage hodd).1 hv
      have GE : Hid (∀ w1 v, BytesC w1 v (pg (r / 128)) → Calls Try.prog 24 #[v, .int .i64 (r % 128 : Nat)] w1 fun e w' => e = .returned (.tuple #[.slice none 0 0, .int .i64 41]) ∧ Only [] w1 w') := fun w1 v hb => by
        refine get_no hb (r % 128 : Nat) (by omega) (getE_bad hpg ?_) (by decide)
        by_cases hlt : r % 128 < nS (pg (r / 128))
        · right; right
          by_cases h0 : sP (pg (r / 128)) (r % 128) = 0
          · exact h0
          · exact absurd hc (ct_used.2 ⟨hlt, h0⟩)
        · right; left; omega
      have e1 : ((r % 128 : Nat) : Int) % 2 = 1 := by omega
      clear hP hH hM hI hid hv hpage hpg hc
      generalize r / 128 = id at *
      generalize r % 128 = slot at *
      have hs0 : (0 : Int) ≤ slot := by omega
      go_enter Try.func23, Try.ntmps23
      go_wp2_with (first
        | (go_at_call 43; refine (PL.out _).mono ?_; rintro e w1 ⟨rfl, rfl⟩)
        | (go_at_call 29; refine PY.out.mono ?_; rintro e w2 ⟨gb, c, M2, n, rfl, hg⟩; have G2 := Lib.hid hg; clear hg)
        | (go_at_call 24; refine (GE.out _ _ G2.out.1.c).mono ?_; rintro e w3 ⟨rfl, hO3⟩; have O3 := Lib.hid hO3; clear hO3))
      refine bodyPost_ret (results_tmp4 rfl _ _ _) rfl ?_
      obtain ⟨_, _, _, h1, h2⟩ := G2.out
      exact ⟨rfl, M2, h1.past O3.out, h2.then O3.out⟩
    · have GE : Hid (∀ w1 v, BytesC w1 v (pg (r / 128)) → Calls Try.prog 24 #[v, .int .i64 (r % 128 : Nat)] w1 fun e w' => ∃ ao n c z, e = .returned (.tuple #[.slice ao n c, .int .i64 (z : Nat)]) ∧ Only [] w1 w') := fun w1 v hb => by
        cases hc : ct (pg (r / 128)) (r % 128) with
        | some hd =>
          refine (page_cell hb hpg hc).mono ?_
          rintro e w' ⟨g, c, rfl, _, _, _, hO⟩
          exact ⟨_, _, c, 0, rfl, hO⟩
        | none =>
          refine (get_no hb (r % 128 : Nat) (by omega) (z := 41) (getE_bad hpg ?_) (by decide)).mono ?_
          · by_cases hlt : r % 128 < nS (pg (r / 128))
            · right; right
              by_cases h0 : sP (pg (r / 128)) (r % 128) = 0
              · exact h0
              · exact absurd hc (ct_used.2 ⟨hlt, h0⟩)
            · right; left; omega
          · rintro e w' ⟨rfl, hO⟩
            exact ⟨none, 0, 0, 41, rfl, hO⟩
      have e1 : ((r % 128 : Nat) : Int) % 2 = 0 := by omega
      clear hP hH hM hI hid hv hpage hpg
      generalize r / 128 = id at *
      generalize r % 128 = slot at *
      have hs0 : (0 : Int) ≤ slot := by omega
      go_enter Try.func23, Try.ntmps23
      go_wp2_with (first
        | (go_at_call 43; refine (PL.out _).mono ?_; rintro e w1 ⟨rfl, rfl⟩)
        | (go_at_call 29; refine PY.out.mono ?_; rintro e w2 ⟨gb, c, M2, n, rfl, hg⟩; have G2 := Lib.hid hg; clear hg)
        | (go_at_call 24; refine (GE.out _ _ G2.out.1.c).mono ?_; rintro e w3 ⟨ao, n3, c3, z3, rfl, hO3⟩; have O3 := Lib.hid hO3; clear hO3))
      refine bodyPost_ret (results_tmp4 rfl _ _ _) rfl ?_
      obtain ⟨_, _, _, h1, h2⟩ := G2.out
      exact ⟨rfl, M2, h1.past O3.out, h2.then O3.out⟩
set_option maxRecDepth 100000 in
set_option maxHeartbeats 1000000 in
theorem find_yes (hP : PoolV w p M u pg k) (hk : k ≤ 1000000) (hH : HpAt w hb p root) (hM : hb ∉ M) (hI : HeapIs u pg root ids) (r : Nat) {v : Ver} (hv : IsVer pg ids r v) :
    Calls Try.prog 23 #[.pointer (some ⟨hb, 0, none⟩), .int .u64 r] w fun e w' => ∃ gb c M', e = .returned (.tuple #[.slice (some ⟨gb, 0, none⟩) 512 c, .int .i64 (r / 128 : Nat), .int .i64 (r % 128 : Nat), .int .i64 0]) ∧ GotP w p M u pg k (r / 128) gb c M' w' := by
  obtain ⟨hid, hv⟩ := hv
  have hidl : r / 128 < 65536 := by have := used_lt (hI.used _ hid); have := hP.size; omega
  have hr : r < W64 := by unfold W64; omega
  have PL := Lib.hid (fun w1 => place_any w1 r hr)
  have PY := Lib.hid (page_in hP hk hH hM hI hid)
  obtain ⟨_, _, _, hpage⟩ := hI.at hid
  obtain ⟨hodd, s, h1, h2, h3, h4, h5, h6⟩ := verAt_some hpage hv
  have i1 : ¬ (r : Int) ≥ 8388608 := by omega
  have i2 : ¬ (8388608 : Int) ≤ r := by omega
  have i3 : (r : Int) < 8388608 := by omega
  have i4 : decide ((8388608 : Int) ≤ (r : Int)) = false := decide_eq_false i2
  have GE : Hid (∀ w1 v, BytesC w1 v (pg (r / 128)) → Calls Try.prog 24 #[v, .int .i64 (r % 128 : Nat)] w1 fun e w' => ∃ g c, e = .returned (.tuple #[.slice (some ⟨g, 0, none⟩) 24 c, .int .i64 0]) ∧ Only [] w1 w') := fun w1 v hb => by
    refine (page_cell hb hpage.pg h1).mono ?_
    rintro e w' ⟨g, c, rfl, _, _, _, hO⟩
    rw [h3]
    exact ⟨g, c, rfl, hO⟩
  have e1 : ((r % 128 : Nat) : Int) % 2 = 1 := by omega
  clear hP hH hM hI hid hv hpage h1 h2 h3 h4 h5 h6 hidl hr
  have hsl : r % 128 < 128 := Nat.mod_lt _ (by omega)
  obtain ⟨id, hide⟩ : ∃ id, r / 128 = id := ⟨_, rfl⟩
  obtain ⟨slot, hsle⟩ : ∃ slot, r % 128 = slot := ⟨_, rfl⟩
  rw [hide] at PL PY GE ⊢
  rw [hsle] at PL GE e1 hsl ⊢
  clear hide hsle hodd
  have hs0 : (0 : Int) ≤ slot := by omega
  go_enter Try.func23, Try.ntmps23
  go_wp2_with (first
    | (go_at_call 43; refine (PL.out _).mono ?_; rintro e w1 ⟨rfl, rfl⟩)
    | (go_at_call 29; refine PY.out.mono ?_; rintro e w2 ⟨gb, c, M2, n, rfl, hg⟩; have G2 := Lib.hid hg; clear hg)
    | (go_at_call 24; refine (GE.out _ _ G2.out.1.c).mono ?_; rintro e w3 ⟨g3, c3, rfl, hO3⟩; have O3 := Lib.hid hO3; clear hO3))
  refine bodyPost_ret (results_tmp4 rfl _ _ _) rfl ?_
  obtain ⟨h0, h3, h4, h1, h2⟩ := G2.out
  exact ⟨gb, c, M2, rfl, h0.past O3.out, h3, h4, h1.past O3.out, h2.then O3.out⟩
end
end Go.Proofs.Ytikonbnhbalpmaa.H
