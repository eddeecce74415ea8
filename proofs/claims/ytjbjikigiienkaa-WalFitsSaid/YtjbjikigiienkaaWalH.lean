/-
  The program's log: Open by its contract.
-/
import Derived.Test.YtjbjikigiienkaaWalG
import Derived.Deep.Cut
import Derived.Deep.CutRange
namespace Go.Proofs.Ytjbjikigiienkaa.W
set_option linter.unusedSimpArgs false
open Go.RowKit Go.Proofs.Ytjbjikigiienkaa.D Go.Proofs.Ytjbjikigiienkaa.B
set_option linter.unusedVariables false
variable {W w w' w2 : World} {p d : Nat} {v v' : Value} {l l' : LS} {M M' : List Nat} {s s' : DS}

/-- The log's cells and its tail have turned. -/
theorem Logd.turned (h : Logd W w p d v l M s) (hO : Only [p] w w') (hb : Blk w' p (logCells d v' l') 58) (ht : ByteRow 5 w' v' l'.tail) (hv : ∀ k, v'.ownBlock = some k → W.heap.size ≤ k) : Logd W w' p d v' l' M s where
  dk := h.dk.later hO (fun k hk cs hq => by simp at hk; subst hk; exact h.lg.log.ne hq (by decide) rfl) (fun k hk hm => by simp at hm; subst hm; exact h.dk.off (by decide) (by decide) (by decide) _ hk _ h.lg.log)
  lg := ⟨hb, ht⟩
  own := h.own.trans hO (fun x hx => .inr (by simp at hx; subst hx; exact h.np))
  nd := h.nd
  np := h.np
  nv := hv
theorem rowFront {b : List UInt8} (h : ByteRow 5 w v b) : Front w v b := by
  rcases h.2 with ⟨rfl, h0⟩ | ⟨g, cap, cur, rfl, _, _, h3, _⟩
  · exact ⟨none, 0, by rw [h0], by omega, fun h => by omega⟩
  · exact ⟨_, cap, rfl, h3, fun h0 => ⟨g, 0, rfl, fun j hj => by
      have := h.src j (.int .u8 (b.getD j 0).toNat) (by rw [u8s_get, List.getElem?_eq_getElem hj, List.getD_eq_getElem?_getD, List.getElem?_eq_getElem hj]; rfl)
      exact this⟩⟩
theorem see_room (l : LS) (i : Nat) (b : List UInt8) : (l.see i b).room = l.room := by
  unfold LS.see
  split <;> rfl
theorem seeTo_sure (l : LS) (s : DS) (h : l.sure ≤ l.room) : ∀ k, (l.seeTo s k).sure ≤ (l.seeTo s k).room
  | 0 => h
  | k + 1 => by
    have ih := seeTo_sure l s h k
    rw [LS.seeTo, see_room]
    unfold LS.see
    split
    · next h2 =>
      have := h2.1
      unfold okOf at this
      simp only [Bool.and_eq_true, decide_eq_true_eq] at this
      exact this.2
    · exact ih
/-- Rows of one's own, in blocks ahead of B. -/
def RowsTo (w0 w : World) (B : Nat) (v : Value) (ls : List (List UInt8)) : Prop :=
  ∃ xs, w.ownsRow 0 34 1 v ls.length xs ∧ ByteRows 5 w xs ls ∧ (∀ k, v.ownBlock = some k → w0.heap.size ≤ k ∧ k < B) ∧ (∀ x ∈ xs, ∀ k, x.ownBlock = some k → w0.heap.size ≤ k ∧ k < B)
theorem OwnRows.to {w0 : World} {ls : List (List UInt8)} (h : OwnRows w0 w v ls) : RowsTo w0 w w.heap.size v ls := by
  obtain ⟨xs, h1, h2, h3, h4⟩ := h
  refine ⟨xs, h1, h2, fun k hk => ⟨h3 k hk, owns_lt h1 hk⟩, fun x hx k hk => ⟨h4 x hx k hk, ?_⟩⟩
  obtain ⟨i, hi, rfl⟩ := List.getElem_of_mem hx
  have := h2.2 i (by rw [← h2.1]; exact hi)
  rw [List.getD_eq_getElem?_getD, List.getElem?_eq_getElem hi] at this
  exact owns_lt this hk
theorem RowsTo.far {w0 : World} {B : Nat} {ls : List (List UInt8)} (h : RowsTo w0 w B v ls) {t : Value} (hF : Far t w w') (ht : ∀ k, t.ownBlock = some k → B ≤ k) : RowsTo w0 w' B v ls := by
  obtain ⟨xs, h1, h2, h3, h4⟩ := h
  have keep : ∀ {e : TypeId} {n : Nat} {x : Value} {cs : List Value}, w.ownsRow 0 e 1 x n cs → (∀ k, x.ownBlock = some k → k < B) → e ≠ 58 → e ≠ 54 → e ≠ 71 → e ≠ 73 → w'.ownsRow 0 e 1 x n cs := by
    intro e n x cs hx hk e1 e2 e3 e4
    refine ⟨hx.1, ?_⟩
    rcases hx.2 with h | ⟨g, cap, cur, rfl, hg, hh, r⟩
    · exact .inl h
    · have hb : Blk w g cur.toList e := by unfold Blk; rw [Array.toArray_toList]; exact hh
      have hb' := hF.keep g _ _ hb e1 e2 e3 e4 (fun h => by have := ht g h; have := hk g rfl; omega)
      exact .inr ⟨g, cap, cur, rfl, hg, by unfold Blk at hb'; rw [Array.toArray_toList] at hb'; exact hb', r⟩
  refine ⟨xs, keep h1 (fun k hk => (h3 k hk).2) (by decide) (by decide) (by decide) (by decide), ⟨h2.1, fun i hi => ?_⟩, h3, h4⟩
  have hm : xs.getD i undef ∈ xs := by
    rw [List.getD_eq_getElem?_getD, List.getElem?_eq_getElem (by rw [h2.1]; exact hi)]
    exact List.getElem_mem _
  exact keep (h2.2 i hi) (fun k hk => (h4 _ hm k hk).2) (by decide) (by decide) (by decide) (by decide)
/-- Ahead of Open's good ending. -/
def OpenMid (W w wx : World) (p d : Nat) (l1 : LS) (vb vr : Value) (rs : List (List UInt8)) (data : List UInt8) (s : DS) (a z : Nat) : Prop :=
  ∃ M' s' B, openS s a z = (some ({ l1 with fin := l1.sure, tail := data.drop (l1.sure / 512 * 512) }, rs), s', 0) ∧ Logd W wx p d (.slice none 0 0) l1 M' s' ∧ RowsTo w wx B vr rs ∧ B ≤ wx.heap.size ∧ Far (.slice none 0 0) w wx ∧ ByteRow 5 wx vb data
theorem data_len (h : Logd W w p d v l M s) (s0 : DS) (hs : s0.now = s.now) (hfit : l.first + l.size ≤ s.now.length) (h2 : 2 ≤ l.size) (n : Nat) (hn : n ≤ l.room) : (dataS l s n).length = n := by
  unfold dataS
  rw [List.length_take, cat_len l s h.dk.secLen.1 _ (by omega)]
  unfold LS.room at hn
  omega
def OpenPost (W : World) (d : Nat) (s : DS) (first size : Int) (w : World) (e : Ending) (w' : World) : Prop :=
  if placedB first size s.now.length = true then
    match openS s first.toNat size.toNat with
    | (none, s', er) => e = .returned (.tuple #[.pointer none, .slice none 0 0, .int .i64 er]) ∧ ∃ M', Dk W w' d M' s' ∧ Far (.slice none 0 0) w w'
    | (some (l', rs), s', er) => ∃ p v vr M' B, e = .returned (.tuple #[.pointer (some ⟨p, 0, none⟩), vr, .int .i64 0]) ∧ Logd W w' p d v l' M' s' ∧ RowsTo w w' B vr rs ∧ Far (.slice none 0 0) w w' ∧ (∀ k, v.ownBlock = some k → B ≤ k)
  else e = .returned (.tuple #[.pointer none, .slice none 0 0, .int .i64 30]) ∧ w = w'
set_option maxRecDepth 100000 in
set_option maxHeartbeats 2000000 in
theorem open_any (h : Dk W w d M s) (first size : Int) (h1 : -9223372036854775808 ≤ first ∧ first ≤ 9223372036854775807) (h2 : -9223372036854775808 ≤ size ∧ size ≤ 9223372036854775807) (hb : s.now.length ≤ 16384) (hr : Room s 2) :
    Calls Try.prog 10 #[.pointer (some ⟨d, 0, none⟩), .int .i64 first, .int .i64 size] w (OpenPost W d s first size w) := by
  have HP := Lib.hid (placed_any h.dk first size h1 h2)
  have HH := Lib.hid h
  have HR := Lib.hid hr
  clear h hr
  by_cases hp : placedB first size s.now.length = true
  · rw [hp] at HP
    have HPB := Lib.hid hp
    obtain ⟨a, ha⟩ : ∃ a : Nat, first = a := ⟨first.toNat, by unfold placedB at hp; simp at hp; omega⟩
    obtain ⟨z, hz⟩ : ∃ z : Nat, size = z := ⟨size.toNat, by unfold placedB at hp; simp at hp; omega⟩
    subst ha; subst hz
    have hfit : a + z ≤ s.now.length ∧ 4 ≤ z := by unfold placedB at hp; simp at hp; omega
    clear hp
    go_enter Try.func10, Try.ntmps10
    go_wp2_with fail
    refine HP.out.mono ?_
    rintro e w' ⟨rfl, rfl⟩
    go_wp2_with fail
    have L1 := Lib.hid (HH.out.log a z)
    have F1 : Hid (Far (.slice none 0 0) w (w.alloc (.cells (logCells d (.slice none 0 0) (fresh0 a z)).toArray 58))) := Far.past _ ((Only.refl _ _).alloc _)
    have HG := Lib.hid (heading_any L1.out ⟨by show 2 ≤ z; omega, by show a + z ≤ _; exact hfit.1, hb⟩ (by show 0 < _; omega))
    refine HG.out.mono ?_
    intro e w3 hpost
    unfold HeadingPost at hpost
    by_cases hdn : s.down = true
    · rw [if_pos hdn] at hpost
      obtain ⟨rfl, hL3, hF3⟩ := hpost
      have L3 := Lib.hid hL3
      have F3 := Lib.hid (F1.out.trans hF3 (fun x hx => .inl hx))
      have HO : Hid (openS s a z = (none, s, 13)) := by
        show _ = _
        unfold openS
        rw [if_pos hdn]
      clear hL3 hF3 hdn
      go_wp2_with fail
      go_ret3
      unfold OpenPost
      rw [if_pos HPB.out, Int.toNat_natCast, Int.toNat_natCast, HO.out]
      exact ⟨rfl, M, L3.out.dks, F3.out⟩
    · rw [if_neg hdn] at hpost
      obtain ⟨rfl, hL3, hF3⟩ := hpost
      have L3 := Lib.hid hL3
      have F3 := Lib.hid (F1.out.trans hF3 (fun x hx => .inl hx))
      have SF := Lib.hid (LS.seeTo_first (fresh0 a z) s 2)
      have HO : Hid (openS s a z = if ((fresh0 a z).seeTo s 2).turn = 0 then (none, s, 30) else
          match recs (dataS ((fresh0 a z).seeTo s 2) s ((fresh0 a z).seeTo s 2).sure) with
          | none => (none, s, 30)
          | some rs => if (if 0 < s.row.length then s.sync else (s, 0)).2 ≠ 0 then (none, (if 0 < s.row.length then s.sync else (s, 0)).1, (if 0 < s.row.length then s.sync else (s, 0)).2) else (some ({ (fresh0 a z).seeTo s 2 with fin := ((fresh0 a z).seeTo s 2).sure, tail := (dataS ((fresh0 a z).seeTo s 2) s ((fresh0 a z).seeTo s 2).sure).drop (((fresh0 a z).seeTo s 2).sure / 512 * 512) }, rs), (if 0 < s.row.length then s.sync else (s, 0)).1, 0)) := by
        show _ = _
        unfold openS
        rw [if_neg hdn]
        rfl
      have HDN : Hid (s.down = false) := by show _ = _; simpa using hdn
      have HSU : Hid (((fresh0 a z).seeTo s 2).sure ≤ ((fresh0 a z).seeTo s 2).room) := seeTo_sure (fresh0 a z) s (Nat.zero_le _) 2
      clear hL3 hF3 hdn
      generalize (fresh0 a z).seeTo s 2 = l1 at *
      by_cases ht0 : l1.turn = 0
      · have hd0 : decide (0 < l1.turn) = false := by simp [ht0]
        rw [hd0]
        have HO2 : Hid (openS s a z = (none, s, 30)) := by show _ = _; rw [HO.out, if_pos ht0]
        clear hd0 ht0
        go_wp2_with fail
        go_ret3
        unfold OpenPost
        rw [if_pos HPB.out, Int.toNat_natCast, Int.toNat_natCast, HO2.out]
        exact ⟨rfl, M, L3.out.dks, F3.out⟩
      · have hd0 : decide (0 < l1.turn) = true := by simp; omega
        rw [hd0]
        have HT0 := Lib.hid ht0
        clear hd0 ht0
        have c6 := L3.out.lg.log.cell 6
        simp only [logCells, List.getElem?_cons_zero, List.getElem?_cons_succ] at c6
        have hsr : l1.sure ≤ l1.room := HSU.out
        have hroom : l1.room ≤ 8388608 := by
          have := SF.out.2.1
          have e : (fresh0 a z).size = z := rfl
          unfold LS.room
          omega
        have BY := Lib.hid (bytes_ok L3.out ⟨by rw [SF.out.2.1]; show 2 ≤ z; omega, by rw [SF.out.1, SF.out.2.1]; exact hfit.1, hb⟩ l1.sure hsr HDN.out)
        go_wp2_with fail
        refine BY.out.mono ?_
        rintro e w4 ⟨v4, rfl, ho4, hk4, hO4⟩
        have R4 := Lib.hid ho4
        have K4 := Lib.hid hk4
        have L4 := Lib.hid (L3.out.past hO4)
        have F4 := Lib.hid (F3.out.trans (Far.past _ hO4) (fun x hx => .inl hx))
        obtain ⟨a4, c4, rfl⟩ : ∃ a4 c4, v4 = .slice a4 (dataS l1 s l1.sure).length c4 := by
          obtain ⟨x, c, h, _⟩ := rowFront ho4
          exact ⟨x, c, h⟩
        clear ho4 hk4 hO4 c6
        have hdl : (dataS l1 s l1.sure).length ≤ 8388608 := Nat.le_trans (List.length_take_le _ _) (by omega)
        have RC := Lib.hid (records_any _ (dataS l1 s l1.sure) (rowFront R4.out) hdl)
        generalize hdata : dataS l1 s l1.sure = data at *
        have HDATA := Lib.hid hdata
        clear hdata
        go_wp2_with fail
        refine RC.out.mono ?_
        rintro e w5 (⟨vr, rs, hrs, rfl, hrows, hO5⟩ | ⟨hrs, rfl, hO5⟩)
        · have L5 := Lib.hid (L4.out.past hO5)
          have F5 := Lib.hid (F4.out.trans (Far.past _ hO5) (fun x hx => .inl hx))
          have sz4 : Hid (w.heap.size ≤ w4.heap.size) := by
            exact Nat.le_of_lt L4.out.lg.log.lt
          have RT5 : Hid (RowsTo w w5 w5.heap.size vr rs) := by
            obtain ⟨xs, h1, h2, h3, h4⟩ := hrows.to
            exact ⟨xs, h1, h2, fun k hk => ⟨Nat.le_trans sz4.out (h3 k hk).1, (h3 k hk).2⟩, fun x hx k hk => ⟨Nat.le_trans sz4.out (h4 x hx k hk).1, (h4 x hx k hk).2⟩⟩
          have R5 := Lib.hid (R4.out.off hO5 (Off.nil _ _))
          obtain ⟨av, cv, rfl⟩ : ∃ av cv, vr = .slice av rs.length cv := by
            obtain ⟨xs, h1, _⟩ := hrows
            obtain ⟨x, c, h, _⟩ := owns_shape h1
            exact ⟨x, c, h⟩
          have HRS := Lib.hid hrs
          clear hrs hrows hO5
          have PD := Lib.hid L5.out.dk.pending
          go_upto_if 56 with (go_at_call 26; refine PD.out.mono ?_; rintro e w' ⟨rfl, rfl⟩)
          go_cut [] from 14 to 60 (fun wx => OpenMid W w wx w.heap.size d l1 (.slice a4 data.length c4) (.slice av rs.length cv) rs data s a z)
          case first =>
            by_cases hp0 : 0 < s.row.length
            · have hp0' : (0 : Int) < s.row.length := by omega
              obtain ⟨a2, r2, hs2⟩ : ∃ a2 r2, s.sync = (a2, r2) := ⟨_, _, rfl⟩
              have HS2 := Lib.hid hs2
              have HO2 : Hid (openS s a z = if r2 ≠ 0 then (none, a2, r2) else (some ({ l1 with fin := l1.sure, tail := data.drop (l1.sure / 512 * 512) }, rs), a2, 0)) := by
                show _ = _
                rw [HO.out, if_neg HT0.out, HRS.out]
                simp only [if_pos hp0, hs2]
              clear hs2
              go_wp2_with fail
              refine (L5.out.dk.sync' HS2.out HR.out.c0 (by have := HR.out.c1; omega) (by have := HR.out.r; omega)).mono ?_
              rintro e w6 ⟨rfl, M6, hD6, hS6⟩
              have L6 := Lib.hid (L5.out.step hD6 hS6)
              have F6 := Lib.hid (F5.out.trans (Far.step L5.out.dk hS6 _) (fun x hx => .inl hx))
              have RT6 := Lib.hid (RT5.out.far (Far.step L5.out.dk hS6 (.slice none 0 0)) (fun k hk => by cases hk))
              have R6 := Lib.hid (R5.out.off hS6.1 (L5.out.dk.off (by decide) (by decide) (by decide)))
              have S6 := Lib.hid hS6.1.size
              clear hD6 hS6
              by_cases hr2 : r2 = 0
              · subst hr2
                go_wp2_with fail
                go_meet
                case rel => exact ⟨M6, a2, w5.heap.size, by rw [HO2.out]; rfl, L6.out, RT6.out, S6.out, F6.out, R6.out⟩
              · have hb : (r2 != 0) = true := by simp [hr2]
                have hb2 : (r2 == 0) = false := by simp [hr2]
                go_wp2_with fail
                go_ret3
                unfold OpenPost
                rw [if_pos HPB.out, Int.toNat_natCast, Int.toNat_natCast, HO2.out, if_pos hr2]
                exact ⟨rfl, M6, L6.out.dks, F6.out⟩
            · have hp0' : ¬ (0 : Int) < s.row.length := by omega
              have HO2 : Hid (openS s a z = (some ({ l1 with fin := l1.sure, tail := data.drop (l1.sure / 512 * 512) }, rs), s, 0)) := by
                show _ = _
                rw [HO.out, if_neg HT0.out, HRS.out]
                simp [if_neg hp0]
              clear hp0
              go_wp2_with fail
              go_meet
              case rel => exact ⟨M, s, w5.heap.size, HO2.out, L5.out, RT5.out, Nat.le_refl _, F5.out, R5.out⟩
          case rest =>
            obtain ⟨M6, s6, B6, hO6, hL6, hR6, hB6, hF6, hv6⟩ := hcut
            have O6 := Lib.hid hO6
            have L6 := Lib.hid hL6
            have RT6 := Lib.hid hR6
            have B6' := Lib.hid hB6
            have F6 := Lib.hid hF6
            have R6 := Lib.hid hv6
            have hlen : data.length = l1.sure := by
              rw [← HDATA.out]
              exact data_len L4.out s rfl (by rw [SF.out.1, SF.out.2.1]; exact hfit.1) (by rw [SF.out.2.1]; show 2 ≤ z; omega) _ hsr
            have HDL := Lib.hid hlen
            have hf := rowFront hv6
            have c6 := L6.out.lg.log.cell 6
            have f5 := L6.out.lg.log.frozen 5
            have f7 := L6.out.lg.log.frozen 7
            obtain ⟨y5, c5⟩ := L6.out.lg.log.at 5 (by simp [logCells])
            obtain ⟨y7, c7⟩ := L6.out.lg.log.at 7 (by simp [logCells])
            simp only [logCells, List.getElem?_cons_zero, List.getElem?_cons_succ] at c6
            have CK := Lib.hid c6
            rw [← hlen] at c6
            have hcc : data.length ≤ c4 := by
              obtain ⟨x, c, h, hlc, _⟩ := hf
              injection h with h1 h2 h3
              omega
            have CL : Hid (∀ w', Only [] wc w' → ∀ (x : Option Addr) (c : Nat) (q : Nat), q ≤ data.length → (q < data.length → ∀ ad, a4 = some ad → x = some (ad.add q)) → BytesAt w' (.slice x (data.length - q) c) (data.drop q)) := by
              intro w' hO x c q hq hx
              obtain ⟨x', c', h, hlc, hcs⟩ := hf
              injection h with h1 h2 h3
              subst h1; subst h3
              refine ⟨x, c, by rw [List.length_drop], fun h0 => ?_⟩
              rw [List.length_drop] at h0
              obtain ⟨g, o, rfl, hc2⟩ := hcs (by omega)
              refine ⟨g, o + q, by rw [hx (by omega) _ rfl, add_plain], fun j hj => ?_⟩
              rw [List.length_drop] at hj
              rw [Nat.add_assoc, getD_drop]
              exact hO.cell (hc2 (q + j) (by omega)) (by simp)
            clear hO6 hL6 hR6 hB6 hF6 hv6 hf hlen
            have HQD : Hid (data.drop (l1.sure / 512 * 512) = data.drop (data.length / 512 * 512)) := by show _ = _; rw [HDL.out]
            have hql : data.length / 512 * 512 ≤ data.length := by omega
            have hqn : data.length - data.length / 512 * 512 ≤ 512 := by omega
            have e1 : IntKind.i64.wrap ((data.length : Int).tdiv 512) = ((data.length / 512 : Nat) : Int) := by
              rw [IntKind.wrap_i64, Int.tdiv_eq_ediv_of_nonneg (by omega)]; omega
            have e1b : IntKind.i64.wrap ((data.length : Int) / 512) = ((data.length / 512 : Nat) : Int) := by
              rw [IntKind.wrap_i64]; omega
            have e1c : IntKind.i64.wrap ((data.length / 512 : Nat) : Int) = ((data.length / 512 : Nat) : Int) := by rw [IntKind.wrap_i64]; omega
            have e2 : IntKind.i64.wrap (((data.length / 512 : Nat) : Int) * 512) = ((data.length / 512 * 512 : Nat) : Int) := by rw [IntKind.wrap_i64]; omega
            have e3 : ((data.length / 512 * 512 : Nat) : Int) ≤ (data.length : Int) := by omega
            have e4 : (0 : Int) ≤ ((data.length / 512 * 512 : Nat) : Int) := by omega
            have e5 : (data.length : Int) ≤ (c4 : Int) := by omega
            generalize data.length / 512 * 512 = q at *
            generalize data.length / 512 = k5 at *
            rw [HDL.out] at e1 e1b c6
            have CLN : ∀ x c, (q < data.length → ∀ ad, a4 = some ad → x = some (ad.add q)) → Calls Try.prog 28 #[.slice x (data.length - q) c] wc.drew fun e w' => ∃ v', e = .returned v' ∧ Own wc.drew w' v' (data.drop q) := fun x c hx =>
              clone_any (CL.out _ (Only.refl _ _).drew x c q hql hx) (by rw [List.length_drop]; omega)
            have HCL := Lib.hid CLN
            clear CLN CL
            cases a4 with
            | none =>
              obtain ⟨rfl, h0⟩ : c4 = 0 ∧ data.length = 0 := by
                rcases R6.out.2 with ⟨h1, h2⟩ | ⟨g, cap, cur, h1, _⟩
                · injection h1 with h2 h3 h4
                  exact ⟨h4, h3⟩
                · injection h1 with h2; cases h2
              obtain rfl : q = 0 := by omega
              have HC2 := HCL.out none 0 (fun h2 => by omega)
              obtain rfl : data = [] := List.eq_nil_of_length_eq_zero h0
              rw [Nat.sub_zero, List.drop_zero, List.length_nil] at HC2
              have HC2 := Lib.hid HC2
              rw [List.drop_zero] at HQD
              go_wp2_with fail
              go_region_held3 (fun w' => w'.cell? ⟨w.heap.size, 6, none⟩ = some (.int .i64 l1.sure)) (first | go_keep | exact hKEEP | exact (((LG7.out.set 5 _).cell 6).trans (by simp [logCells])) | exact ((((LG7.out.set 5 _).set 7 _).cell 6).trans (by simp [logCells])))
                ((go_at_call 28; refine HC2.out.mono ?_; rintro e w7 ⟨v7, rfl, ho7, hk7, hO7⟩; obtain ⟨x7, k7, rfl, _⟩ : ∃ x k, v7 = .slice x 0 k ∧ True := (by obtain ⟨x, k, h, _⟩ := owns_shape ho7; exact ⟨x, k, h, trivial⟩); have hKEEP := hO7.cell (p := ⟨w.heap.size, 6, none⟩) CK.out (by simp); have lg7 := hO7.blk (L6.out.lg.log.drew) (by simp); have f5 := lg7.frozen 5; have f7 := lg7.frozen 7; obtain ⟨y5, c5⟩ := lg7.at 5 (by simp [logCells]); obtain ⟨y7, c7⟩ := lg7.at 7 (by simp [logCells]); have LG7 := Lib.hid lg7; clear lg7; have HV7 := Lib.hid ho7; have HK7 := Lib.hid hk7; have HO7 := Lib.hid hO7; clear ho7 hk7 hO7))
              have hO8 : Only [w.heap.size] w7 ((w7.setCell ⟨w.heap.size, 5, none⟩ (.int .i64 l1.sure)).setCell ⟨w.heap.size, 7, none⟩ (.slice x7 0 k7)) := ((Only.refl [w.heap.size] _).setCell (.inl (by simp)) _).setCell (.inl (by simp)) _
              have O8 := Lib.hid hO8
              have O7 : Hid (Only [] wc w7) := ((Only.refl _ _).drew).trans HO7.out (by simp)
              have LB8 := (((LG7.out.set 5 (.int .i64 l1.sure)).set 7 (.slice x7 0 k7)).to (cs' := logCells d (.slice x7 0 k7) { l1 with fin := l1.sure, tail := [] }) (by simp [logCells]))
              have HB8 := Lib.hid LB8
              clear hO8 LB8
              generalize (w7.setCell ⟨w.heap.size, 5, none⟩ (.int .i64 l1.sure)).setCell ⟨w.heap.size, 7, none⟩ (.slice x7 0 k7) = w8 at *
              go_wp2_with fail
              go_ret3
              unfold OpenPost
              rw [if_pos HPB.out, Int.toNat_natCast, Int.toNat_natCast, O6.out]
              have sz : wc.heap.size ≤ w7.heap.size := O7.out.size
              have pw : w.heap.size < wc.heap.size := L6.out.lg.log.lt
              have Fa : Far (.slice none 0 0) wc w8 := (Far.past (.slice none 0 0) O7.out).trans (Far.cells LG7.out O8.out (.slice none 0 0)) (fun x hx => by cases hx)
              refine ⟨w.heap.size, .slice x7 0 k7, _, M6, B6, rfl, ?_, RT6.out.far Fa (fun k hk => by cases hk), F6.out.trans Fa (fun x hx => .inl hx), fun k hk => ?_⟩
              · rw [HQD.out]
                have L7 := L6.out.past O7.out
                refine L7.turned O8.out HB8.out ?_ (fun k hk => ?_)
                · have := HV7.out.off O8.out (Off.one LG7.out (by decide))
                  exact this
                · have := HK7.out k (by simpa [Value.ownBlock] using hk)
                  have : wc.drew.heap.size = wc.heap.size := rfl
                  have := L6.out.own.size
                  omega
              · have := HK7.out k (by simpa [Value.ownBlock] using hk)
                have : wc.drew.heap.size = wc.heap.size := rfl
                have := B6'.out
                omega
            | some ad =>
              obtain ⟨adq, hadq, hadq'⟩ : ∃ adq : Addr, (if c4 = q then some ad else some (ad.add q)) = some adq ∧ (q < data.length → adq = ad.add q) := by
                by_cases h : c4 = q
                · exact ⟨_, by rw [if_pos h], fun h2 => by omega⟩
                · exact ⟨_, by rw [if_neg h], fun _ => rfl⟩
              have HC2 := Lib.hid (HCL.out (some adq) (c4 - q) (fun h2 ad' h3 => by injection h3 with h4; rw [← h4, hadq' h2]))
              clear hadq'
              go_wp2_with fail
              go_region_held3 (fun w' => w'.cell? ⟨w.heap.size, 6, none⟩ = some (.int .i64 l1.sure)) (first | go_keep | exact hKEEP | exact (((LG7.out.set 5 _).cell 6).trans (by simp [logCells])) | exact ((((LG7.out.set 5 _).set 7 _).cell 6).trans (by simp [logCells])))
                ((go_at_call 28; refine HC2.out.mono ?_; rintro e w7 ⟨v7, rfl, ho7, hk7, hO7⟩; obtain ⟨x7, k7, rfl, _⟩ := owns_shape ho7; have hKEEP := hO7.cell (p := ⟨w.heap.size, 6, none⟩) CK.out (by simp); have lg7 := hO7.blk (L6.out.lg.log.drew) (by simp); have f5 := lg7.frozen 5; have f7 := lg7.frozen 7; obtain ⟨y5, c5⟩ := lg7.at 5 (by simp [logCells]); obtain ⟨y7, c7⟩ := lg7.at 7 (by simp [logCells]); have LG7 := Lib.hid lg7; clear lg7; have HV7 := Lib.hid ho7; have HK7 := Lib.hid hk7; have HO7 := Lib.hid hO7; clear ho7 hk7 hO7))
              have hO8 : Only [w.heap.size] w7 ((w7.setCell ⟨w.heap.size, 5, none⟩ (.int .i64 l1.sure)).setCell ⟨w.heap.size, 7, none⟩ (.slice x7 (data.length - q) k7)) := ((Only.refl [w.heap.size] _).setCell (.inl (by simp)) _).setCell (.inl (by simp)) _
              have O8 := Lib.hid hO8
              have O7 : Hid (Only [] wc w7) := ((Only.refl _ _).drew).trans HO7.out (by simp)
              have LB8 := (((LG7.out.set 5 (.int .i64 l1.sure)).set 7 (.slice x7 (data.length - q) k7)).to (cs' := logCells d (.slice x7 (data.length - q) k7) { l1 with fin := l1.sure, tail := data.drop q }) (by simp [logCells]))
              have HB8 := Lib.hid LB8
              clear hO8 LB8
              generalize (w7.setCell ⟨w.heap.size, 5, none⟩ (.int .i64 l1.sure)).setCell ⟨w.heap.size, 7, none⟩ (.slice x7 (data.length - q) k7) = w8 at *
              go_wp2_with fail
              go_ret3
              unfold OpenPost
              rw [if_pos HPB.out, Int.toNat_natCast, Int.toNat_natCast, O6.out]
              have sz : wc.heap.size ≤ w7.heap.size := O7.out.size
              have pw : w.heap.size < wc.heap.size := L6.out.lg.log.lt
              have Fa : Far (.slice none 0 0) wc w8 := (Far.past (.slice none 0 0) O7.out).trans (Far.cells LG7.out O8.out (.slice none 0 0)) (fun x hx => by cases hx)
              refine ⟨w.heap.size, .slice x7 (data.length - q) k7, _, M6, B6, rfl, ?_, RT6.out.far Fa (fun k hk => by cases hk), F6.out.trans Fa (fun x hx => .inl hx), fun k hk => ?_⟩
              · rw [HQD.out]
                have L7 := L6.out.past O7.out
                refine L7.turned O8.out HB8.out ?_ (fun k hk => ?_)
                · have := HV7.out.off O8.out (Off.one LG7.out (by decide))
                  rw [List.length_drop] at this
                  exact this
                · have := HK7.out k (by simpa [Value.ownBlock] using hk)
                  have : wc.drew.heap.size = wc.heap.size := rfl
                  have := L6.out.own.size
                  omega
              · have := HK7.out k (by simpa [Value.ownBlock] using hk)
                have : wc.drew.heap.size = wc.heap.size := rfl
                have := B6'.out
                omega
        · have L5 := Lib.hid (L4.out.past hO5)
          have F5 := Lib.hid (F4.out.trans (Far.past _ hO5) (fun x hx => .inl hx))
          have HO2 : Hid (openS s a z = (none, s, 30)) := by show _ = _; rw [HO.out, if_neg HT0.out, hrs]
          clear hO5 hrs
          go_wp2_with fail
          go_ret3
          unfold OpenPost
          rw [if_pos HPB.out, Int.toNat_natCast, Int.toNat_natCast, HO2.out]
          exact ⟨rfl, M, L5.out.dks, F5.out⟩
  · have hp2 : placedB first size s.now.length = false := by simpa using hp
    rw [hp2] at HP
    have HPB := Lib.hid hp
    clear hp hp2
    go_enter Try.func10, Try.ntmps10
    go_wp2_with fail
    refine HP.out.mono ?_
    rintro e w' ⟨rfl, rfl⟩
    go_wp2_with fail
    go_ret3
    unfold OpenPost
    rw [if_neg HPB.out]
    exact ⟨rfl, rfl⟩
end Go.Proofs.Ytjbjikigiienkaa.W
