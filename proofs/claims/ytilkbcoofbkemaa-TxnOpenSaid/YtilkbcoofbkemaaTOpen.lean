/-
  The walk of TxnOpen.
-/
import Derived.Test.YtilkbcoofbkemaaOpenM
import Derived.Test.YtilkbcoofbkemaaTxnG
import Derived.Test.YtilkbcoofbkemaaOpen
import Derived.IntWalk
import Derived.ArgAppend
import Derived.Deep.RegionLaw
namespace Go.Proofs.Ytilkbcoofbkemaa.T
set_option linter.unusedSimpArgs false
open Go Go.RowKit Go.Proofs.Ytilkbcoofbkemaa.I
set_option linter.unusedVariables false
def Roomy : Value → Prop
  | .slice _ n c => n ≤ c ∧ c ≤ 9223372036854775807
  | _ => False
/-- The block that a slice lies in is one of numbers. -/
def InNums (w : World) : Value → Prop
  | .slice (some ad) _ _ => ∃ cs, Blk w ad.block cs 26
  | _ => True
theorem owns_in {w : World} {base : Nat} {v : Value} {n : Nat} {xs : List Value} (h : w.ownsRow base 26 1 v n xs) : InNums w v := by
  rcases h.2 with ⟨rfl, h0⟩ | ⟨g, cap, cur, rfl, _, hh, h3⟩
  · trivial
  · exact ⟨_, hh⟩
theorem owns_room {w : World} {base : Nat} {e : TypeId} {v : Value} {n : Nat} {xs : List Value} (h : w.ownsRow base e 1 v n xs) : Roomy v := by
  rcases h.2 with ⟨rfl, h0⟩ | ⟨g, cap, cur, rfl, _, hh, h3, h4, h5, h6⟩
  · exact ⟨Nat.le_refl _, by omega⟩
  · exact ⟨h3, by unfold maxLen at h4; omega⟩
set_option maxRecDepth 100000 in
/-- Some are appended onto a full slice: a new row. -/
theorem run_cut {w : World} {b off n m c ty : Nat} {ad : Addr} {olds news : List Nat} (hn : olds.length = n) (hm : news.length = m) (ho : ∀ j u, (nats olds)[j]? = some u → w.cell? ⟨b, off + j, none⟩ = some u) (hw : ∀ j u, (nats news)[j]? = some u → w.cell? (ad.add j) = some u) (h0 : 0 < m) (hl : n + m ≤ 16777216) :
    ∃ v' w', (Builtin.append_ #[27, 27] ty #[.slice (some ⟨b, off, none⟩) n n, .slice (some ad) m c]).run Try.prog w = .ok v' w' ∧ w'.ownsRow 0 26 1 v' (n + m) (nats (olds ++ news)) ∧ Only [] w w' := by
  obtain ⟨i, hi, hz, hs, hb⟩ := info_parts info_key
  obtain ⟨v', w', hrun, r1, r2⟩ := run_append_arg_grows (P := Try.prog) w 27 ty 26 i _ 1 _ Try.underlying27 hi hz hs hb rfl (by omega) ⟨b, off, none⟩ n n (nats olds) (by rw [nats_len]; omega) (fun j u hj => by rw [add_plain]; exact ho j u hj) ad m c (nats news) (by rw [nats_len]; omega) hw (by omega) (by unfold maxLen; omega) (by omega)
  have e : nats (olds ++ news) = nats olds ++ nats news := by simp [nats]
  refine ⟨v', w', hrun, ?_, Only.ofGrown r2⟩
  rw [e]
  exact ⟨r1.1, r1.2.imp id (fun ⟨g, cap, cur, h1, h2, h3⟩ => ⟨g, cap, cur, h1, Nat.zero_le _, h3⟩)⟩
set_option maxRecDepth 100000 in
/-- Nothing is appended. -/
theorem run_same (w : World) (b off n m c ty : Nat) (ad : Addr) (hm : m = 0) :
    (Builtin.append_ #[27, 27] ty #[.slice (some ⟨b, off, none⟩) n n, .slice (some ad) m c]).run Try.prog w = .ok (.slice (some ⟨b, off, none⟩) n n) w := by
  subst hm
  obtain ⟨i, hi, hz, hs, hb⟩ := info_parts info_key
  rw [run_append_room_cells (P := Try.prog) w 27 ty 26 i Try.underlying27 hi b off n n ad 0 c [] (by simp) (fun j u h => by simp at h) (fun u h => by simp at h) (by omega) (fun j h => by simp at h) (fun j h => by simp at h)]
  rfl
theorem numbers_yes {w : World} {va vb : Value} {la lb : List Nat} (e : la = lb) (ha : NatsAt w va la) (hb : NatsAt w vb lb) (hl : lb.length ≤ 1048576) :
    Calls Try.prog 17 #[va, vb] w fun e w' => e = .returned (.bool true) ∧ Only [] w w' := by
  subst e
  have := numbers_any ha hb hl hl
  rw [decide_eq_true rfl] at this
  exact this
theorem in_past {w w' : World} {v : Value} (h : InNums w v) (hO : Only [] w w') : InNums w' v := by
  cases v with
  | slice a n c =>
    cases a with
    | none => trivial
    | some ad => obtain ⟨cs, hb⟩ := h; exact ⟨cs, hO.blk hb (by simp)⟩
  | _ => trivial
theorem last_row {w w' : World} {gb go d : Nat} {L : List Nat} (hL : L.length = d + 1) (hO : Only [] w w') (hc : ∀ i, i < d + 1 → w.cell? ⟨gb, go + i, none⟩ = some (.int .u64 (L.getD i 0 : Nat))) : NatsAt w' (.slice (some ⟨gb, go, none⟩) d d) (L.take d ++ L.drop (d + 1)) := by
  have e : L.take d ++ L.drop (d + 1) = L.take d := by rw [List.drop_of_length_le (by omega)]; simp
  have hl : (L.take d).length = d := by rw [List.length_take]; omega
  rw [e]
  refine ⟨some ⟨gb, go, none⟩, d, by rw [hl], fun _ => ⟨gb, go, rfl, fun j hj => ?_⟩⟩
  rw [hl] at hj
  rw [hO.cell (hc j (by omega)) (by simp), List.getD_eq_getElem?_getD, List.getD_eq_getElem?_getD, List.getElem?_take, if_pos hj]
/-- An append whose run is known, as one step of a region that draws its order. -/
theorem step_run {P : Program} {w w' : World} {ops : Array Oper} {o : Oper} {a : Act} {K : Act → World → Prop} {Q : Exit → Act → World → Prop} {E : Prop} (hgd : o.guard = none) (s x : Operand) (t : TypeId)
    (ho : o.op = .call { callee := .builtin .append, args := #[s, x], argTypes := #[t, t] }) {v1 v2 v' : Value} (hs : a.eval s = v1) (hx : a.eval x = v2)
    (hr : (Builtin.append_ #[t, t] o.type #[v1, v2]).run P w = .ok v' w') (h : K (a.put o.dst v') w') :
    if Region.wanted o (yielded ops a.tmps) = true then Oper.wp P o a w K Q else E := by
  have hw : Region.wanted o (yielded ops a.tmps) = true := by simp [Region.wanted, hgd]
  rw [if_pos hw]
  unfold Oper.wp execOp
  simp only [ho, resolve, invoke, builtin, Sem.run_bind, Sem.run_pure, Result.andThen_ok, List.map_toArray, List.map_cons, List.map_nil, hs, hx, hr]
  exact h
theorem row_take {w : World} {gb go q d : Nat} {L : List Nat} (hc : ∀ i, i < q → w.cell? ⟨gb, go + i, none⟩ = some (.int .u64 (L.getD i 0 : Nat))) (hL : L.length = q) (hd : d ≤ q) :
    ∀ j u, (nats (L.take d))[j]? = some u → w.drew.cell? ⟨gb, go + j, none⟩ = some u := by
  intro j u h
  have hj : j < d := by
    have := List.getElem?_eq_some_iff.mp h
    obtain ⟨h1, _⟩ := this
    rw [nats_len, List.length_take] at h1; omega
  have h2 := hc j (by omega)
  have e : (nats (L.take d))[j]? = some (.int .u64 (L.getD j 0 : Nat)) := by
    simp only [nats, List.getElem?_map, List.getElem?_take, if_pos hj]
    rw [List.getD_eq_getElem?_getD, List.getElem?_eq_getElem (by omega)]; rfl
  rw [e] at h
  rw [← h]; exact (World.cell?_drew ..).trans h2
theorem row_drop {w : World} {gb go q d : Nat} {L : List Nat} (hc : ∀ i, i < q → w.cell? ⟨gb, go + i, none⟩ = some (.int .u64 (L.getD i 0 : Nat))) (hL : L.length = q) :
    ∀ j u, (nats (L.drop (d + 1)))[j]? = some u → w.drew.cell? ((⟨gb, go + (d + 1), none⟩ : Addr).add j) = some u := by
  intro j u h
  have hj : d + 1 + j < q := by
    have := List.getElem?_eq_some_iff.mp h
    obtain ⟨h1, _⟩ := this
    rw [nats_len, List.length_drop] at h1; omega
  have h2 := hc (d + 1 + j) (by omega)
  have e : (nats (L.drop (d + 1)))[j]? = some (.int .u64 (L.getD (d + 1 + j) 0 : Nat)) := by
    simp only [nats, List.getElem?_map, List.getElem?_drop]
    rw [List.getD_eq_getElem?_getD, List.getElem?_eq_getElem (by omega)]; rfl
  rw [e] at h
  rw [add_plain, ← h]
  have e2 : go + (d + 1) + j = go + (d + 1 + j) := by omega
  rw [e2]; simpa using h2
theorem open_out (n : Int) (v : Value) (l : List UInt8) (w : World) (hv : BytesAt w v l) (ho : n < 1 ∨ 30 < n ∨ 40 < l.length) :
    Calls Try.prog 4 #[.int .i64 n, v] w fun e w' => e = .returned (.bool true) ∧ Below w.heap.size w w' := by
  have K := Lib.hid (known_any w)
  obtain ⟨ao, cap, rfl, hc⟩ := hv
  clear hc
  by_cases h1 : n < 1
  · clear ho
    go_enter Try.func4, Try.ntmps4
    go_wp2_with (go_at_call 8; refine K.out.mono ?_; rintro e w1 ⟨rfl, hO1⟩; have O1 := Lib.hid hO1; clear hO1)
    go_ret
    exact ⟨rfl, O1.out.below (Nat.le_refl _) (by simp)⟩
  · by_cases h2 : 30 < n
    · clear ho
      go_enter Try.func4, Try.ntmps4
      go_wp2_with (go_at_call 8; refine K.out.mono ?_; rintro e w1 ⟨rfl, hO1⟩; have O1 := Lib.hid hO1; clear hO1)
      go_ret
      exact ⟨rfl, O1.out.below (Nat.le_refl _) (by simp)⟩
    · have h3 : (40 : Int) < l.length := by omega
      clear ho
      go_enter Try.func4, Try.ntmps4
      go_wp2_with (go_at_call 8; refine K.out.mono ?_; rintro e w1 ⟨rfl, hO1⟩; have O1 := Lib.hid hO1; clear hO1)
      go_ret
      exact ⟨rfl, O1.out.below (Nat.le_refl _) (by simp)⟩
set_option maxRecDepth 100000 in
set_option maxHeartbeats 4000000 in
theorem open_main (n : Nat) (v : Value) (l : List UInt8) (w : World) (hv : BytesAt w v l) (h1 : 1 ≤ n) (h30 : n ≤ 30) (h40 : l.length ≤ 40) :
    Calls Try.prog 4 #[.int .i64 n, v] w fun e w' => e = .returned (.bool true) ∧ Below w.heap.size w w' := by
  have K := Lib.hid (known_any w)
  have N := Lib.hid (fun w1 (hO : Only [] w w1) => new_tab hO 1 (by decide))
  obtain ⟨ao, cap, rfl, hc⟩ := hv
  have CC := Lib.hid hc
  clear hc
  generalize hm : l.length = m at *
  have HM := Lib.hid hm
  clear hm
  have h1i : ¬ (n : Int) < 1 := by omega
  have h30i : ¬ (30 : Int) < n := by omega
  have h40i : ¬ (40 : Int) < m := by omega
  go_enter Try.func4, Try.ntmps4
  go_wp2_with (first | (go_at_call 8; refine K.out.mono ?_; rintro e w1 ⟨rfl, hO1⟩; have O1 := Lib.hid hO1; clear hO1) | (go_at_call 9; refine (N.out _ O1.out).mono ?_; rintro e w2 ⟨t, bo, bg, rfl, hT2, hO2⟩; have T2 := Lib.hid hT2; clear hT2 hO2))
  go_loopg [6, 7] n (fun gk s6 i wr => ∃ k : Nat, gk = n - k ∧ k ≤ n ∧ i = .int .i64 k ∧ TabX w wr t bo bg k (SA k) s6.ownBlock.toList ∧ wr.ownsRow 0 26 1 s6 k (nats (upto k)) ∧ ∀ x, s6.ownBlock = some x → w.heap.size ≤ x)
  case atStart => exact ⟨0, rfl, Nat.zero_le _, rfl, T2.out.tabX, ⟨rfl, .inl ⟨rfl, rfl⟩⟩, fun x hx => by cases hx⟩
  case round =>
    obtain ⟨k, hgk, hk, rfl, hT, hR, hx⟩ := hrel
    have HGK := Lib.hid hgk
    have TT := Lib.hid hT
    have RR := Lib.hid hR
    have HX := Lib.hid hx
    clear hgk hT hR hx
    obtain ⟨k1, e1⟩ : ∃ k1, k + 1 = k1 := ⟨_, rfl⟩
    have E1 := Lib.hid e1
    have ei : (k : Int) + 1 = (k1 : Int) := by omega
    obtain ⟨ra, rc, rfl⟩ := owns_form RR.out
    by_cases hlt : k < n
    · have hki : (k : Int) < n := by omega
      clear e1
      go_wp2_with (first
        | (go_at_call 10; refine (TT.out.begin' (fun x hx => by simp at hx; exact owns_lt RR.out hx) (by omega) (m := k1) (n := k) E1.out (SA_opens k) (SA_begin k)).mono ?_; rintro e w4 ⟨a4, c4, rfl, hr4, hT4, hO4, _⟩; have R4 : Hid (World.ownsRow _ 0 26 1 (.slice a4 k c4) k (nats (upto k))) := (by have := hr4.1; rw [SA_nums, upto_len] at this; exact owns_past this ((Only.refl _ _).alloc (.cells #[.int .u64 k1, .int .u64 k1, .slice a4 k c4] 29))); have R5 := Lib.hid (owns_past (owns_off RR.out hO4 (TT.out.tab.off (by decide))) ((Only.refl _ _).alloc (.cells #[.int .u64 k1, .int .u64 k1, .slice a4 k c4] 29))); have T4 := Lib.hid (hT4.past ((Only.refl _ _).alloc (.cells #[.int .u64 k1, .int .u64 k1, .slice a4 k c4] 29))); have S4 := Lib.hid hT4.own.size; clear hr4 hT4 hO4)
        | (go_at_call 16; refine (hsnap_eq (op := upto k) (nats_owned (l := upto k) (by rw [upto_len]; exact R4.out)) (nats_owned (l := upto k) (by rw [upto_len]; exact R5.out)) (by rw [upto_len]; omega) k1 k1).mono ?_; rintro e w5 ⟨rfl, hO5⟩; have T5 := Lib.hid (T4.out.past hO5); have R6 := Lib.hid (owns_past R5.out hO5); clear hO5)
        | (refine wpList_push rfl (.tmp 45) (.tmp 47) 27 rfl 26 Try.underlying27 (info_parts info_key) rfl (.slice ra k rc) k (nats (upto k)) rfl (owns_past R6.out ((Only.refl _ _).alloc _)) _ _ _ rfl (by exact (Blk.new _ _ _).cell 0) rfl (by omega) (by omega) ?_; intro g cp w6 hown hO6 hat hg))
      have T6 : TabX w w6 t bo bg k1 (SA k1) [g] := by
        have al : Only [] w5 (w5.alloc (.cells #[.int .u64 k1] 26)) := (Only.refl _ _).alloc _
        have R6' := owns_past R6.out al
        have hoff : ∀ x ∈ (Value.slice ra k rc).ownBlock.toList, ∃ cs, Blk (w5.alloc (.cells #[.int .u64 k1] 26)) x cs 26 := fun x hx => owns_own R6' (by simpa using hx)
        have T5' := T5.out.past al
        have hne : ∀ x ∈ (Value.slice ra k rc).ownBlock.toList, x ∉ [t, bo, bg] := fun x hx => by obtain ⟨cs, hb⟩ := hoff x hx; exact T5'.ne hb (by decide)
        have := T5'.later (F2 := [g]) hO6 (fun hx => hne t hx (by simp)) (fun hx => hne bo hx (by simp)) (fun hx => hne bg hx (by simp)) (fun x hx => .inl hx) (fun x hx => HX.out x (by simpa using hx)) (fun x hx => by simp at hx; subst hx; rcases hat with h | h; exact .inl (by simp [h]); exact .inr (by omega))
        rw [← E1.out]; exact this
      go_wp2_with fail
      go_roundg (n - (k + 1))
      case measure => have := HGK.out; omega
      case rel =>
        refine ⟨k + 1, rfl, by omega, by rw [← E1.out], by rw [E1.out]; exact T6, ?_, fun x hx => ?_⟩
        · rw [show upto (k + 1) = upto k ++ [k1] by rw [upto_succ, E1.out]]
          have e : nats (upto k ++ [k1]) = nats (upto k) ++ [.int .u64 k1] := by simp [nats]
          rw [e]
          exact hown
        · simp only [Value.ownBlock, Option.some.injEq] at hx
          subst hx
          rcases hat with h | h
          · exact HX.out _ h
          · have h2 := T5.out.own.size
            rw [h, World.size_alloc]; omega
    · obtain rfl : k = n := by omega
      have HT0 := Lib.hid TT.out.tab
      have NA0 := Lib.hid (nats_owned (l := upto k) (by rw [upto_len]; exact RR.out))
      have RM0 := Lib.hid (owns_room RR.out)
      have IN0 := Lib.hid (owns_in RR.out)
      clear TT RR HX HGK E1 ei e1
      go_wp2_with fail
      go_loopg [6, 10] m (fun gj s6 x wx => ∃ (j : Nat) (L : List Nat) (S : TS), gj = m - j ∧ j ≤ m ∧ x = .int .i64 j ∧ Tab w wx t bo bg k S ∧ Half k S L ∧ NatsAt wx s6 L ∧ L.length ≤ k ∧ Roomy s6 ∧ InNums wx s6)
      case atStart => exact ⟨0, upto k, SA k, rfl, Nat.zero_le _, rfl, HT0.out, SA_half k, NA0.out, by rw [upto_len]; exact Nat.le_refl _, RM0.out, IN0.out⟩
      case round =>
        clear HT0 NA0 RM0 IN0
        obtain ⟨j, L, S, hgj, hj, rfl, hT, hH, hNA, hL, hRM, hIN⟩ := hrel
        rename World => wx
        have HGJ := Lib.hid hgj
        have TT := Lib.hid hT
        have HH := Lib.hid hH
        have NA := Lib.hid hNA
        have HL := Lib.hid hL
        obtain ⟨sa, sc, rfl, hcell⟩ := hNA
        have CL := Lib.hid hcell
        have RM := Lib.hid hRM
        have IN := Lib.hid hIN
        clear hRM hIN
        clear hgj hT hH hL hcell
        by_cases hL0 : L = []
        · subst hL0
          have HZ := Lib.hid HH.out.hor_nil
          clear HH NA CL
          by_cases hjm : j < m
          · have hji : (j : Int) < m := by omega
            go_wp2_with (go_at_call 11; refine (TT.out.horizon' (by omega) HZ.out).mono ?_; rintro e w5 ⟨rfl, hO5⟩; have O5 := Lib.hid (TT.out.own.trans hO5 (by simp)); clear hO5)
            go_ret
            exact ⟨rfl, O5.out.below (Nat.le_refl _) (by simp)⟩
          · have hji : ¬ (j : Int) < m := by omega
            go_wp2_with (go_at_call 11; refine (TT.out.horizon' (by omega) HZ.out).mono ?_; rintro e w5 ⟨rfl, hO5⟩; have O5 := Lib.hid (TT.out.own.trans hO5 (by simp)); clear hO5)
            go_ret
            exact ⟨rfl, O5.out.below (Nat.le_refl _) (by simp)⟩
        · have hp : 0 < L.length := by
            cases L with
            | nil => exact absurd rfl hL0
            | cons a l => simp
          have HZ := Lib.hid (HH.out.hor hL0)
          have HL0 := Lib.hid hL0
          clear hL0
          obtain ⟨gb, go, rfl, hcell⟩ := CL.out hp
          generalize hlen : L.length = q at *
          have HLEN := Lib.hid hlen
          clear hlen
          by_cases hjm : j < m
          · have hji : (j : Int) < m := by omega
            have hqi : (0 : Int) < q := by omega
            obtain ⟨eb, eo, rfl, hce⟩ := CC.out (by omega)
            have cb := TT.out.own.cell (hce j hjm) (by simp)
            generalize l.getD j 0 = b at *
            obtain ⟨d, hd⟩ : ∃ d, b.toNat % q = d := ⟨_, rfl⟩
            have hdq : d < q := by rw [← hd]; exact Nat.mod_lt _ hp
            have hdi : (d : Int) < q := by omega
            have hd0 : (0 : Int) ≤ d := by omega
            have et : (wrap64 (b.toNat : Int)).tmod (q : Int) = (d : Int) := by
              have hb := b.toNat_lt
              have ew : wrap64 (b.toNat : Int) = (b.toNat : Int) := by unfold wrap64; omega
              rw [ew, Int.tmod_eq_emod_of_nonneg (by omega), ← hd]; rfl
            have cd := hcell d hdq
            clear hce hd CC
            obtain ⟨S2, hab, hH2⟩ := HH.out.abort TT.out.fine.rise (k := d) (by rw [HLEN.out]; exact hdq)
            have eg : L.getD d 0 = L[d]'(by rw [HLEN.out]; exact hdq) := by rw [List.getD_eq_getElem?_getD, List.getElem?_eq_getElem (by rw [HLEN.out]; exact hdq)]; rfl
            rw [← eg] at hab
            generalize L.getD d 0 = id at *
            have HAB := Lib.hid hab
            have H2 := Lib.hid hH2
            have HC := Lib.hid hcell
            clear hab hH2 eg hcell
            go_wp2_with (go_at_call 15; refine (TT.out.abort' id HAB.out).mono ?_; rintro e w5 ⟨rfl, hT5, hO5⟩; have T5 := Lib.hid hT5; have O5 := Lib.hid hO5; clear hT5 hO5)
            obtain ⟨hsc, hsc2⟩ : q ≤ sc ∧ sc ≤ 9223372036854775807 := by
              have := RM.out
              exact this
            have hsi : (q : Int) ≤ sc := by omega
            have hsi2 : (sc : Int) ≤ 9223372036854775807 := by omega
            have hd1 : (d : Int) + 1 ≤ q := by omega
            obtain ⟨cs5, hB5⟩ : ∃ cs, Blk wx gb cs 26 := IN.out
            have hgb : gb ∉ [t, bo, bg] := TT.out.ne hB5 (by decide)
            have B5 := Lib.hid (O5.out.blk hB5 hgb)
            have C5 : Hid (∀ i, i < q → w5.cell? ⟨gb, go + i, none⟩ = some (.int .u64 (L.getD i 0 : Nat))) := fun i hi => O5.out.cell (HC.out i hi) hgb
            clear HC hB5 hgb
            have W5 := Lib.hid (nats_src (l := L) (fun i hi => C5.out i (by rw [← HLEN.out]; exact hi)))
            by_cases hs : sc = d + 1
            · obtain rfl : q = d + 1 := by omega
              subst hs
              by_cases hz : d = 0
              · subst hz
                have hap := run_same w5.drew gb go 0 0 0 27 ⟨gb, go, none⟩ rfl
                go_region
                have hO6 : Only [] w5 w5.drew := (Only.refl _ _).drew
                have hNA6 : NatsAt w5.drew (.slice (some ⟨gb, go, none⟩) 0 0) (L.take 0 ++ L.drop (0 + 1)) := last_row HLEN.out hO6 C5.out
                have hRM6 : Roomy (.slice (some ⟨gb, go, none⟩) 0 0) := ⟨Nat.le_refl _, by omega⟩
                have hIN6 : InNums w5.drew (.slice (some ⟨gb, go, none⟩) 0 0) := ⟨_, hO6.blk B5.out (by simp)⟩
                have NA6 := Lib.hid hNA6
                have RM6 := Lib.hid hRM6
                have IN6 := Lib.hid hIN6
                have T6 := Lib.hid (T5.out.past hO6)
                clear hNA6 hRM6 hIN6 hO6
                go_wp2_with (first
                  | (go_at_call 18; refine (T6.out.openl (by omega)).mono ?_; rintro e w7 ⟨v7, rfl, hR7⟩; obtain ⟨a7, c7, rfl⟩ := owns_form hR7.1; have R7 := Lib.hid (nats_owned hR7.1); have O7 := Lib.hid hR7.2.2; clear hR7)
                  | (go_at_call 17; refine (numbers_yes H2.out.nums R7.out (NA6.out.past O7.out) (by have := HLEN.out; have := HL.out; simp only [List.length_append, List.length_take, List.length_drop]; omega)).mono ?_; rintro e w8 ⟨rfl, hO8⟩; have T8 := Lib.hid ((T6.out.past O7.out).past hO8); have O8 := Lib.hid (O7.out.trans hO8 (by simp)); clear hO8))
                go_roundg (m - (j + 1))
                case measure => have := HGJ.out; omega
                case rel => exact ⟨j + 1, _, S2, rfl, by omega, by go_num, T8.out, H2.out, NA6.out.past O8.out, by have := HLEN.out; have := HL.out; simp only [List.length_append, List.length_take, List.length_drop]; omega, RM6.out, in_past IN6.out O8.out⟩
              · have hap := run_same w5.drew gb go d 0 0 27 ⟨gb, go, none⟩ rfl
                go_region
                have hO6 : Only [] w5 w5.drew := (Only.refl _ _).drew
                have hNA6 : NatsAt w5.drew (.slice (some ⟨gb, go, none⟩) d d) (L.take d ++ L.drop (d + 1)) := last_row HLEN.out hO6 C5.out
                have hRM6 : Roomy (.slice (some ⟨gb, go, none⟩) d d) := ⟨Nat.le_refl _, by omega⟩
                have hIN6 : InNums w5.drew (.slice (some ⟨gb, go, none⟩) d d) := ⟨_, hO6.blk B5.out (by simp)⟩
                have NA6 := Lib.hid hNA6
                have RM6 := Lib.hid hRM6
                have IN6 := Lib.hid hIN6
                have T6 := Lib.hid (T5.out.past hO6)
                clear hNA6 hRM6 hIN6 hO6
                go_wp2_with (first
                  | (go_at_call 18; refine (T6.out.openl (by omega)).mono ?_; rintro e w7 ⟨v7, rfl, hR7⟩; obtain ⟨a7, c7, rfl⟩ := owns_form hR7.1; have R7 := Lib.hid (nats_owned hR7.1); have O7 := Lib.hid hR7.2.2; clear hR7)
                  | (go_at_call 17; refine (numbers_yes H2.out.nums R7.out (NA6.out.past O7.out) (by have := HLEN.out; have := HL.out; simp only [List.length_append, List.length_take, List.length_drop]; omega)).mono ?_; rintro e w8 ⟨rfl, hO8⟩; have T8 := Lib.hid ((T6.out.past O7.out).past hO8); have O8 := Lib.hid (O7.out.trans hO8 (by simp)); clear hO8))
                go_roundg (m - (j + 1))
                case measure => have := HGJ.out; omega
                case rel => exact ⟨j + 1, _, S2, rfl, by omega, by go_num, T8.out, H2.out, NA6.out.past O8.out, by have := HLEN.out; have := HL.out; simp only [List.length_append, List.length_take, List.length_drop]; omega, RM6.out, in_past IN6.out O8.out⟩
            · have hsl : d + 1 < sc := by omega
              by_cases hlast : d + 1 = q
              · subst hlast
                have hq0 : d + 1 - (d + 1) = 0 := by omega
                by_cases hz : d = 0
                · subst hz
                  have hap := run_same w5.drew gb go 0 0 (sc - 1) 27 ⟨gb, go + 1, none⟩ rfl
                  have hsne : ¬ sc = 1 := by omega
                  have hw0 : IntKind.i64.wrap 1 = 1 := by decide
                  have hw1 : (1 : Int).toNat = 1 := rfl
                  have hw2 : (1 : Int) ≤ sc := by omega
                  go_region_law (refine step_run (v1 := .slice (some ⟨gb, go, none⟩) 0 0) (v2 := .slice (some ⟨gb, go + 1, none⟩) 0 (sc - 1)) (by kernel_rfl) (.tmp 79) (.tmp 83) 27 (by kernel_rfl) (by kernel_rfl) (by kernel_rfl) hap ?_)
                  have hO6 : Only [] w5 w5.drew := (Only.refl _ _).drew
                  have hNA6 : NatsAt w5.drew (.slice (some ⟨gb, go, none⟩) 0 0) (L.take 0 ++ L.drop (0 + 1)) := last_row HLEN.out hO6 C5.out
                  have hRM6 : Roomy (.slice (some ⟨gb, go, none⟩) 0 0) := ⟨Nat.le_refl _, by omega⟩
                  have hIN6 : InNums w5.drew (.slice (some ⟨gb, go, none⟩) 0 0) := ⟨_, hO6.blk B5.out (by simp)⟩
                  have NA6 := Lib.hid hNA6
                  have RM6 := Lib.hid hRM6
                  have IN6 := Lib.hid hIN6
                  have T6 := Lib.hid (T5.out.past hO6)
                  clear hNA6 hRM6 hIN6 hO6
                  go_wp2_with (first
                    | (go_at_call 18; refine (T6.out.openl (by omega)).mono ?_; rintro e w7 ⟨v7, rfl, hR7⟩; obtain ⟨a7, c7, rfl⟩ := owns_form hR7.1; have R7 := Lib.hid (nats_owned hR7.1); have O7 := Lib.hid hR7.2.2; clear hR7)
                    | (go_at_call 17; refine (numbers_yes H2.out.nums R7.out (NA6.out.past O7.out) (by have := HLEN.out; have := HL.out; simp only [List.length_append, List.length_take, List.length_drop]; omega)).mono ?_; rintro e w8 ⟨rfl, hO8⟩; have T8 := Lib.hid ((T6.out.past O7.out).past hO8); have O8 := Lib.hid (O7.out.trans hO8 (by simp)); clear hO8))
                  go_roundg (m - (j + 1))
                  case measure => have := HGJ.out; omega
                  case rel => exact ⟨j + 1, _, S2, rfl, by omega, by go_num, T8.out, H2.out, NA6.out.past O8.out, by have := HLEN.out; have := HL.out; simp only [List.length_append, List.length_take, List.length_drop]; omega, RM6.out, in_past IN6.out O8.out⟩
                · have hap := run_same w5.drew gb go d 0 (sc - (d + 1)) 27 ⟨gb, go + (d + 1), none⟩ rfl
                  have hdsc : (d : Int) ≤ sc := by omega
                  have hsne : ¬ sc = d + 1 := by omega
                  have hw2 : (0 : Int) ≤ (d : Int) + 1 := by omega
                  have hw1 : ((d : Int) + 1).toNat = d + 1 := by omega
                  have hw0 : IntKind.i64.wrap ((d : Int) + 1) = (d : Int) + 1 := IntWalk.i64_in _ (by omega)
                  go_region_law (refine step_run (v1 := .slice (some ⟨gb, go, none⟩) d d) (v2 := .slice (some ⟨gb, go + (d + 1), none⟩) 0 (sc - (d + 1))) (by kernel_rfl) (.tmp 79) (.tmp 83) 27 (by kernel_rfl) (by kernel_rfl) (by kernel_rfl) hap ?_)
                  have hO6 : Only [] w5 w5.drew := (Only.refl _ _).drew
                  have hNA6 : NatsAt w5.drew (.slice (some ⟨gb, go, none⟩) d d) (L.take d ++ L.drop (d + 1)) := last_row HLEN.out hO6 C5.out
                  have hRM6 : Roomy (.slice (some ⟨gb, go, none⟩) d d) := ⟨Nat.le_refl _, by omega⟩
                  have hIN6 : InNums w5.drew (.slice (some ⟨gb, go, none⟩) d d) := ⟨_, hO6.blk B5.out (by simp)⟩
                  have NA6 := Lib.hid hNA6
                  have RM6 := Lib.hid hRM6
                  have IN6 := Lib.hid hIN6
                  have T6 := Lib.hid (T5.out.past hO6)
                  clear hNA6 hRM6 hIN6 hO6
                  go_wp2_with (first
                    | (go_at_call 18; refine (T6.out.openl (by omega)).mono ?_; rintro e w7 ⟨v7, rfl, hR7⟩; obtain ⟨a7, c7, rfl⟩ := owns_form hR7.1; have R7 := Lib.hid (nats_owned hR7.1); have O7 := Lib.hid hR7.2.2; clear hR7)
                    | (go_at_call 17; refine (numbers_yes H2.out.nums R7.out (NA6.out.past O7.out) (by have := HLEN.out; have := HL.out; simp only [List.length_append, List.length_take, List.length_drop]; omega)).mono ?_; rintro e w8 ⟨rfl, hO8⟩; have T8 := Lib.hid ((T6.out.past O7.out).past hO8); have O8 := Lib.hid (O7.out.trans hO8 (by simp)); clear hO8))
                  go_roundg (m - (j + 1))
                  case measure => have := HGJ.out; omega
                  case rel => exact ⟨j + 1, _, S2, rfl, by omega, by go_num, T8.out, H2.out, NA6.out.past O8.out, by have := HLEN.out; have := HL.out; simp only [List.length_append, List.length_take, List.length_drop]; omega, RM6.out, in_past IN6.out O8.out⟩
              · have hdlt : d + 1 < q := by omega
                by_cases hz : d = 0
                · subst hz
                  obtain ⟨v6, w6, hap, hR6, hO6⟩ := run_cut (w := w5.drew) (b := gb) (off := go) (n := 0) (m := q - 1) (c := sc - 1) (ty := 27) (ad := ⟨gb, go + 1, none⟩) (olds := L.take 0) (news := L.drop (0 + 1)) (by simp) (by have := HLEN.out; rw [List.length_drop]; omega) (row_take C5.out HLEN.out (by omega)) (row_drop (d := 0) C5.out HLEN.out) (by omega) (by have := HLEN.out; have := HL.out; omega)
                  obtain ⟨a6, c6, rfl⟩ := owns_form hR6
                  obtain ⟨n6, hn6⟩ : ∃ n6, 0 + (q - 1) = n6 := ⟨_, rfl⟩
                  rw [hn6] at hap hR6
                  have HN6 := Lib.hid hn6
                  have HR6 := Lib.hid hR6
                  have HO6 := Lib.hid hO6
                  clear hn6
                  clear hR6 hO6
                  have hsne : ¬ sc = 1 := by omega
                  have hw0 : IntKind.i64.wrap 1 = 1 := by decide
                  have hw1 : (1 : Int).toNat = 1 := rfl
                  have hw2 : (1 : Int) ≤ q := by omega
                  go_region_law (refine step_run (v1 := .slice (some ⟨gb, go, none⟩) 0 0) (v2 := .slice (some ⟨gb, go + 1, none⟩) (q - 1) (sc - 1)) (by kernel_rfl) (.tmp 79) (.tmp 83) 27 (by kernel_rfl) (by kernel_rfl) (by kernel_rfl) hap ?_)
                  have hO6 : Only [] w5 w6 := ((Only.refl _ _).drew).trans HO6.out (by simp)
                  have hlq : (L.take 0 ++ L.drop (0 + 1)).length = n6 := by have := HLEN.out; have := HN6.out; simp only [List.length_append, List.length_take, List.length_drop]; omega
                  have hR6 : w6.ownsRow 0 26 1 (.slice a6 n6 c6) (L.take 0 ++ L.drop (0 + 1)).length (nats (L.take 0 ++ L.drop (0 + 1))) := by rw [hlq]; exact HR6.out
                  have NA6 := Lib.hid (nats_owned hR6)
                  have RM6 := Lib.hid (owns_room hR6)
                  have IN6 := Lib.hid (owns_in hR6)
                  have T6 := Lib.hid (T5.out.past hO6)
                  have HLQ : Hid ((L.take 0 ++ L.drop (0 + 1)).length ≤ k) := by show _ ≤ _; have := HN6.out; have := HL.out; omega
                  clear hR6 hO6 hlq hap
                  go_wp2_with (first
                    | (go_at_call 18; refine (T6.out.openl (by omega)).mono ?_; rintro e w7 ⟨v7, rfl, hR7⟩; obtain ⟨a7, c7, rfl⟩ := owns_form hR7.1; have R7 := Lib.hid (nats_owned hR7.1); have O7 := Lib.hid hR7.2.2; clear hR7)
                    | (go_at_call 17; refine (numbers_yes H2.out.nums R7.out (NA6.out.past O7.out) (by have := HLQ.out; omega)).mono ?_; rintro e w8 ⟨rfl, hO8⟩; have T8 := Lib.hid ((T6.out.past O7.out).past hO8); have O8 := Lib.hid (O7.out.trans hO8 (by simp)); clear hO8))
                  go_roundg (m - (j + 1))
                  case measure => have := HGJ.out; omega
                  case rel => exact ⟨j + 1, _, S2, rfl, by omega, by go_num, T8.out, H2.out, NA6.out.past O8.out, HLQ.out, RM6.out, in_past IN6.out O8.out⟩
                · obtain ⟨v6, w6, hap, hR6, hO6⟩ := run_cut (w := w5.drew) (b := gb) (off := go) (n := d) (m := q - (d + 1)) (c := sc - (d + 1)) (ty := 27) (ad := ⟨gb, go + (d + 1), none⟩) (olds := L.take d) (news := L.drop (d + 1)) (by have := HLEN.out; rw [List.length_take]; omega) (by have := HLEN.out; rw [List.length_drop]; omega) (row_take C5.out HLEN.out (by omega)) (row_drop C5.out HLEN.out) (by omega) (by have := HLEN.out; have := HL.out; omega)
                  obtain ⟨a6, c6, rfl⟩ := owns_form hR6
                  obtain ⟨n6, hn6⟩ : ∃ n6, d + (q - (d + 1)) = n6 := ⟨_, rfl⟩
                  rw [hn6] at hap hR6
                  have HN6 := Lib.hid hn6
                  have HR6 := Lib.hid hR6
                  have HO6 := Lib.hid hO6
                  clear hn6
                  clear hR6 hO6
                  have hdsc : (d : Int) ≤ sc := by omega
                  have hsne : ¬ sc = d + 1 := by omega
                  have hw2 : (0 : Int) ≤ (d : Int) + 1 := by omega
                  have hw1 : ((d : Int) + 1).toNat = d + 1 := by omega
                  have hw0 : IntKind.i64.wrap ((d : Int) + 1) = (d : Int) + 1 := IntWalk.i64_in _ (by omega)
                  go_region_law (refine step_run (v1 := .slice (some ⟨gb, go, none⟩) d d) (v2 := .slice (some ⟨gb, go + (d + 1), none⟩) (q - (d + 1)) (sc - (d + 1))) (by kernel_rfl) (.tmp 79) (.tmp 83) 27 (by kernel_rfl) (by kernel_rfl) (by kernel_rfl) hap ?_)
                  have hO6 : Only [] w5 w6 := ((Only.refl _ _).drew).trans HO6.out (by simp)
                  have hlq : (L.take d ++ L.drop (d + 1)).length = n6 := by have := HLEN.out; have := HN6.out; simp only [List.length_append, List.length_take, List.length_drop]; omega
                  have hR6 : w6.ownsRow 0 26 1 (.slice a6 n6 c6) (L.take d ++ L.drop (d + 1)).length (nats (L.take d ++ L.drop (d + 1))) := by rw [hlq]; exact HR6.out
                  have NA6 := Lib.hid (nats_owned hR6)
                  have RM6 := Lib.hid (owns_room hR6)
                  have IN6 := Lib.hid (owns_in hR6)
                  have T6 := Lib.hid (T5.out.past hO6)
                  have HLQ : Hid ((L.take d ++ L.drop (d + 1)).length ≤ k) := by show _ ≤ _; have := HN6.out; have := HL.out; omega
                  clear hR6 hO6 hlq hap
                  go_wp2_with (first
                    | (go_at_call 18; refine (T6.out.openl (by omega)).mono ?_; rintro e w7 ⟨v7, rfl, hR7⟩; obtain ⟨a7, c7, rfl⟩ := owns_form hR7.1; have R7 := Lib.hid (nats_owned hR7.1); have O7 := Lib.hid hR7.2.2; clear hR7)
                    | (go_at_call 17; refine (numbers_yes H2.out.nums R7.out (NA6.out.past O7.out) (by have := HLQ.out; omega)).mono ?_; rintro e w8 ⟨rfl, hO8⟩; have T8 := Lib.hid ((T6.out.past O7.out).past hO8); have O8 := Lib.hid (O7.out.trans hO8 (by simp)); clear hO8))
                  go_roundg (m - (j + 1))
                  case measure => have := HGJ.out; omega
                  case rel => exact ⟨j + 1, _, S2, rfl, by omega, by go_num, T8.out, H2.out, NA6.out.past O8.out, HLQ.out, RM6.out, in_past IN6.out O8.out⟩
          · have hji : ¬ (j : Int) < m := by omega
            have hqi : ((q : Int) == 0) = false := by simp; omega
            go_wp2_with (go_at_call 11; refine (TT.out.horizon' (by omega) HZ.out).mono ?_; rintro e w5 ⟨rfl, hO5⟩; have O5 := Lib.hid (TT.out.own.trans hO5 (by simp)); clear hO5)
            go_ret
            exact ⟨rfl, O5.out.below (Nat.le_refl _) (by simp)⟩
/-- TxnOpen at every input. -/
theorem open_law {w : World} (n : Int) (hb : -9223372036854775808 ≤ n ∧ n ≤ 9223372036854775807) (v : Value) (l : List UInt8) (hv : BytesAt w v l) :
    Calls Try.prog 4 #[.int .i64 n, v] w fun e w' => e = .returned (.bool true) ∧ Below w.heap.size w w' := by
  by_cases h : n < 1 ∨ 30 < n ∨ 40 < l.length
  · exact open_out n v l w hv h
  · obtain ⟨k, rfl⟩ : ∃ k : Nat, n = k := ⟨n.toNat, by omega⟩
    exact open_main k v l w hv (by omega) (by omega) (by omega)
end Go.Proofs.Ytilkbcoofbkemaa.T
