/-
  The program's log: Room, dies, Append by contracts.
-/
import Derived.Test.YtjbjikigiienkaaWalH
import Derived.Deep.RegionLaw
namespace Go.Proofs.Ytjbjikigiienkaa.W
set_option linter.unusedSimpArgs false
open Go.RowKit Go.Proofs.Ytjbjikigiienkaa.D Go.Proofs.Ytjbjikigiienkaa.B
set_option linter.unusedVariables false
variable {W w w' w2 : World} {p d : Nat} {v v' : Value} {l l' : LS} {M M' : List Nat} {s s' : DS}

theorem ret_int {k : IntKind} {a b : Int} (h : a = b) : Ending.returned (.int k a) = .returned (.int k b) := by rw [h]
/-- How many bytes a record may have. -/
def roomS (l : LS) : Int := max (min ((l.room : Int) - l.fin - 4) 65536) (-1)
set_option maxRecDepth 100000 in
theorem Room_any (h : LogAt w p d v l) (h2 : 2 ≤ l.size) (hs : l.size ≤ 65536) (hf : l.fin ≤ l.room) :
    Calls Try.prog 11 #[.pointer (some ⟨p, 0, none⟩)] w fun e w' => e = .returned (.int .i64 (roomS l)) ∧ Only [] w w' := by
  have R : Hid (∀ n, Calls Try.prog 29 #[.pointer (some ⟨p, 0, none⟩)] (w.drewN n) fun e w' => e = .returned (.int .i64 l.room) ∧ ∃ m, w' = w.drewN m) := fun n => (room_any (h.log.drewN n) h2 hs).mono fun e w' ⟨h1, h2⟩ => ⟨h1, n, h2.symm⟩
  have c5 := h.log.cell 5
  simp only [logCells, List.getElem?_cons_zero, List.getElem?_cons_succ] at c5
  have hr : l.room ≤ 33553408 := by unfold LS.room; omega
  have HS : Hid (roomS l = max (min ((l.room : Int) - l.fin - 4) 65536) (-1)) := rfl
  clear h
  go_enter Try.func11, Try.ntmps11
  go_wp2_with fail
  go_quiet ((go_at_call 29; exact R.out _))
  all_goals
    go_wp2_with fail
    all_goals
      go_ret
      exact ⟨ret_int (by rw [HS.out]; omega), (Only.refl _ _).drewN _⟩
/-- Behind an error of the disk the log is dead. -/
def LS.dies (l : LS) (e : Int) : LS := { l with dead := l.dead || (e != 0) }
theorem dies_any (h : Logd W w p d v l M s) (e : Int) :
    Calls Try.prog 33 #[.pointer (some ⟨p, 0, none⟩), .int .i64 e] w fun r w' => r = .returned (.int .i64 e) ∧ Logd W w' p d v (l.dies e) M s ∧ Far v w w' := by
  have HH := Lib.hid h
  have c8 := h.lg.log.cell 8
  have f8 := h.lg.log.frozen 8
  simp only [logCells, List.getElem?_cons_zero, List.getElem?_cons_succ] at c8
  have HL : Hid (l.dies e = { l with dead := l.dead || (e != 0) }) := rfl
  have fin : ∀ b : Bool, (l.dead || (e != 0)) = b → Logd W (w.setCell ⟨p, 8, none⟩ (.bool b)) p d v (l.dies e) M s ∧ Far v w (w.setCell ⟨p, 8, none⟩ (.bool b)) := fun b hb => by
    have hO : Only [p] w (w.setCell ⟨p, 8, none⟩ (.bool b)) := (Only.refl [p] _).setCell (.inl (by simp)) _
    rw [HL.out, hb]
    exact ⟨h.cells (l' := { l with dead := b }) hO ((h.lg.log.set 8 _).to (by simp [logCells])) rfl, Far.cells h.lg.log hO v⟩
  have FIN := Lib.hid fin
  generalize hd : l.dead = q at *
  have HD := Lib.hid hd
  clear h fin hd
  go_enter Try.func33, Try.ntmps33
  cases q
  · by_cases h0 : e = 0
    · subst h0
      go_wp2_with fail
      go_ret
      exact ⟨rfl, FIN.out _ rfl⟩
    · have hb : (e != 0) = true := by simp [h0]
      have hb2 : (e == 0) = false := by simp [h0]
      go_wp2_with fail
      go_ret
      exact ⟨rfl, FIN.out _ (by rw [hb]; rfl)⟩
  · go_wp2_with fail
    go_ret
    exact ⟨rfl, FIN.out _ rfl⟩

/-- The tail has grown, and the log's cells have turned with it. -/
theorem Logd.grown (h : Logd W w p d v l M s) {n : Nat} {b : List UInt8} (hG : Grew w w2 5 1 v v' n (u8s (l.tail ++ b))) (hO : Only [p] w2 w') (hb : Blk w' p (logCells d v' l') 58) (ht : l'.tail = l.tail ++ b) :
    Logd W w' p d v' l' M s ∧ Far v w w' ∧ (∀ k, v'.ownBlock = some k → v.ownBlock = some k ∨ w.heap.size ≤ k) ∧ Only (p :: v.ownBlock.toList) w w' := by
  have D2 : Disk w2 d M s := h.dk.later hG.only (owns_foot h.lg.tail (by decide)) (fun k hk hm => by
    obtain ⟨cs, hc⟩ := owns_own h.lg.tail (by simpa using hm)
    exact h.dk.off (by decide) (by decide) (by decide) _ hk _ hc)
  have lg2 : Blk w2 p (logCells d v l) 58 := hG.only.blk h.lg.log (by simp; exact owns_ne h.lg.tail h.lg.log (by decide))
  refine ⟨⟨?_, ⟨hb, ?_⟩, ?_, h.nd, h.np, fun k hk => ?_⟩, ⟨Nat.le_trans hG.only.size hO.size, fun k cs t hk h1 h2 h3 h4 h5 => ?_⟩, hG.lies, (hG.only.mono (fun x hx => .inl (by simp at hx; simp [hx]))).trans hO (fun x hx => .inl (by simp at hx; simp [hx]))⟩
  · exact D2.later hO (Off.one lg2 (by decide)) (fun k hk hm => by simp at hm; subst hm; exact D2.off (by decide) (by decide) (by decide) _ hk _ lg2)
  · rw [ht]; exact hG.row.off hO (Off.one lg2 (by decide))
  · exact (h.own.trans hG.only (fun x hx => .inr (h.nv x (by simpa using hx)))).trans hO (fun x hx => .inr (by simp at hx; subst hx; exact h.np))
  · rcases hG.lies k hk with h1 | h1
    · exact h.nv k h1
    · have := h.own.size; omega
  · exact hO.blk (hG.only.blk hk (by simp; exact h5)) (by simp; rintro rfl; exact h1 (hk.inj h.lg.log).2)
/-- The box in which Append's closure finds the log. -/
def Boxed (w : World) (x p : Nat) : Prop := Blk w x [.pointer (some ⟨p, 0, none⟩)] 30
set_option maxRecDepth 100000 in
theorem lay_any (h : Logd W w p d v l M s) (x : Nat) (hx : Boxed w x p) (u : Value) (b : List UInt8) (hu : BytesAt w u b) (ht : l.tail.length + b.length ≤ 16777216) (hf : l.fin + b.length ≤ 1099511627776) :
    Calls Try.prog 30 #[u, .pointer (some ⟨x, 0, none⟩)] w fun e w' => e = .returned (.tuple #[]) ∧ ∃ v', Logd W w' p d v' { l with tail := l.tail ++ b, fin := l.fin + b.length } M s ∧ Far v w w' ∧ (∀ k, v'.ownBlock = some k → v.ownBlock = some k ∨ w.heap.size ≤ k) ∧ Only (p :: v.ownBlock.toList) w w' := by
  have HH := Lib.hid h
  have HX := Lib.hid hx
  have c5 := h.lg.log.cell 5
  have c7 := h.lg.log.cell 7
  have cx := hx.cell 0
  obtain ⟨ao, cap, rfl, hcap⟩ := owns_shape h.lg.tail
  obtain ⟨so, sc, rfl, hc⟩ := hu
  simp only [logCells, List.getElem?_cons_zero, List.getElem?_cons_succ] at c5 c7 cx
  have HC : Hid (0 < b.length → ∃ ad, so = some ad ∧ ∀ j u, (u8s b)[j]? = some u → w.cell? (ad.add j) = some u) := by
    intro h0
    obtain ⟨g, o, rfl, hc2⟩ := hc h0
    exact ⟨_, rfl, Go.Proofs.Ytjbjikigiienkaa.B.src_cells hc2⟩
  have HL : Hid ((u8s b).length = b.length * 1) := by show _ = _; rw [length_u8s]; omega
  have pv : Hid ((Value.slice ao l.tail.length cap).ownBlock ≠ some p) := owns_ne h.lg.tail h.lg.log (by decide)
  have xv : Hid ((Value.slice ao l.tail.length cap).ownBlock ≠ some x) := owns_ne h.lg.tail hx (by decide)
  have xp : Hid (x ≠ p) := Blk.ne hx h.lg.log (by decide)
  clear h hx hc
  go_enter Try.func30, Try.ntmps30
  go_wp2_with fail
  go_region_law ((refine step_grow rfl (.tmp 7) (.tmp 8) 34 rfl 5 Try.underlying34 (info_parts Go.Proofs.Ytjbjikigiienkaa.B.info_byte) rfl (by omega) (.slice ao l.tail.length cap) l.tail.length (u8s l.tail) rfl (by exact HH.out.lg.tail) so b.length sc rfl (u8s b) HL.out HC.out (u8s_oneCell _) (by omega) (by omega) ?_; intro v2 w2 hg2; have G2 := Lib.hid hg2; obtain ⟨a2, k2, rfl⟩ := hg2.shape; have lg2 := hg2.only.blk HH.out.lg.log.drew (by simp; exact fun h => pv.out h); have bx2 := hg2.only.blk (Blk.drew HX.out) (by simp; exact fun h => xv.out h); have cx2 := bx2.cell 0; have f72 := lg2.frozen 7; have c72 := lg2.cell 7; simp only [logCells, List.getElem?_cons_zero, List.getElem?_cons_succ] at c72 cx2; have BX2 := Lib.hid bx2; clear bx2; have LG2 := Lib.hid lg2; clear hg2 lg2))
  all_goals
    have lg3 := (LG2.out.set 7 (.slice a2 (l.tail.length + b.length) k2))
    have bx3 := (BX2.out.far (a := ⟨p, 7, none⟩) (.slice a2 (l.tail.length + b.length) k2) xp.out)
    have O3 : Hid (Only [p] w2 (w2.setCell ⟨p, 7, none⟩ (.slice a2 (l.tail.length + b.length) k2))) := only_set _ _ _ _
    have f5 := lg3.frozen 5
    have c53 := lg3.cell 5
    have cx3 := bx3.cell 0
    simp only [logCells, List.getElem?_cons_zero, List.getElem?_cons_succ, List.set_cons_succ, List.set_cons_zero] at c53 cx3
    have LG3 := Lib.hid lg3
    clear lg3 bx3
    generalize w2.setCell ⟨p, 7, none⟩ (.slice a2 (l.tail.length + b.length) k2) = w3 at *
    go_wp2_with fail
    go_end0
    refine ⟨rfl, .slice a2 (l.tail.length + b.length) k2, HH.out.grown (w2 := w2) (n := l.tail.length + b.length) (b := b) ?_ (O3.out.trans (only_set _ _ _ _) (fun x hx => .inl hx)) ((LG3.out.set 5 _).to ?_) rfl⟩
    · exact (G2.out.pre ((Only.refl [] _).drew)).to rfl (by rw [u8s_append])
    · simp [logCells]
theorem bytes_over {M : List Nat} {u : Value} {b : List UInt8} (h : BytesAt w u b) (hO : Only M w w') (hM : ∀ a n c, u = .slice (some a) n c → a.block < w.heap.size → a.block ∉ M) : BytesAt w' u b := by
  obtain ⟨ao, cap, rfl, hc⟩ := h
  refine ⟨ao, cap, rfl, fun hl => ?_⟩
  obtain ⟨g, o, rfl, hc'⟩ := hc hl
  exact ⟨g, o, rfl, fun j hj => hO.cell (hc' j hj) (hM ⟨g, o, none⟩ _ _ rfl (cell_lt (hc' j hj)))⟩
/-- A record is laid behind the others: the log, the error. -/
def appendS (l : LS) (b : List UInt8) : LS × Int :=
  if 65536 < b.length then (l, 20) else if l.dead = true then (l, 12) else if (l.room : Int) - l.fin - 4 < b.length then (l, 31)
  else ({ l with tail := l.tail ++ (le b.length 4 ++ b), fin := l.fin + (4 + b.length) }, 0)
def AppendPost (W : World) (p d : Nat) (v : Value) (l : LS) (M : List Nat) (s : DS) (b : List UInt8) (w : World) (e : Ending) (w' : World) : Prop :=
  e = .returned (.int .i64 (appendS l b).2) ∧ ∃ v', Logd W w' p d v' (appendS l b).1 M s ∧ Far v w w' ∧ (∀ k, v'.ownBlock = some k → v.ownBlock = some k ∨ w.heap.size ≤ k)
set_option maxRecDepth 100000 in
set_option maxHeartbeats 1000000 in
theorem append_any (h : Logd W w p d v l M s) (hs : 2 ≤ l.size) (hsz : l.size ≤ 16384) (hf : l.fin ≤ l.room) (htl : l.tail.length ≤ l.room + 512) (u : Value) (b : List UInt8) (hu : BytesAt w u b) (huv : ∀ a n c, u = .slice (some a) n c → a.block ≠ p ∧ v.ownBlock ≠ some a.block) (hb : b.length ≤ 1048576) :
    Calls Try.prog 12 #[.pointer (some ⟨p, 0, none⟩), u] w (AppendPost W p d v l M s b w) := by
  have HH := Lib.hid h
  have HU := Lib.hid hu
  have hr : l.room ≤ 8388608 := by unfold LS.room; omega
  obtain ⟨so, sc, rfl, _⟩ := hu
  have HUV := Lib.hid huv
  clear huv
  have OX : Hid (Only [] w (w.alloc (.cells #[.pointer (some ⟨p, 0, none⟩)] 30))) := (Only.refl _ _).alloc _
  have BX : Hid (Boxed (w.alloc (.cells #[.pointer (some ⟨p, 0, none⟩)] 30)) w.heap.size p) := Blk.new' _ _ _ rfl
  have L1 := Lib.hid (h.past OX.out)
  have c5 := L1.out.lg.log.cell 5
  have c8 := L1.out.lg.log.cell 8
  simp only [logCells, List.getElem?_cons_zero, List.getElem?_cons_succ] at c5 c8
  clear h
  have HS : Hid (appendS l b = if 65536 < b.length then (l, 20) else if l.dead = true then (l, 12) else if (l.room : Int) - l.fin - 4 < b.length then (l, 31) else ({ l with tail := l.tail ++ (le b.length 4 ++ b), fin := l.fin + (4 + b.length) }, 0)) := rfl
  generalize hn : b.length = n at *
  have HN := Lib.hid hn
  clear hn
  by_cases h1 : 65536 < n
  · have h1' : (65536 : Int) < n := by omega
    go_enter Try.func12, Try.ntmps12
    go_wp2_with fail
    go_ret
    unfold AppendPost
    rw [HS.out, if_pos h1]
    exact ⟨rfl, v, L1.out, Far.past v OX.out, fun k hk => .inl hk⟩
  · have h1' : ¬ (65536 : Int) < n := by omega
    rw [if_neg h1] at HS
    clear h1
    generalize hd : l.dead = q at *
    have HD := Lib.hid hd
    clear hd
    cases q
    · have hsub : (l.room : Int) - l.fin - 4 ≤ 8388608 ∧ -4 ≤ (l.room : Int) - l.fin - 4 := by omega
      rw [if_neg (by simp)] at HS
      have R : Hid (∀ m, Calls Try.prog 29 #[.pointer (some ⟨p, 0, none⟩)] ((w.alloc (.cells #[.pointer (some ⟨p, 0, none⟩)] 30)).drewN m) fun e w' => e = .returned (.int .i64 l.room) ∧ ∃ q, w' = (w.alloc (.cells #[.pointer (some ⟨p, 0, none⟩)] 30)).drewN q) := fun m => (room_any (L1.out.lg.log.drewN m) hs (by omega)).mono fun e w' ⟨h1, h2⟩ => ⟨h1, m, h2.symm⟩
      by_cases hfull : (l.room : Int) - l.fin - 4 < n
      · rw [if_pos hfull] at HS
        go_enter Try.func12, Try.ntmps12
        go_wp2_with fail
        go_quiet ((go_at_call 29; exact R.out _))
        go_wp2_with fail
        go_ret
        unfold AppendPost
        rw [HS.out]
        exact ⟨rfl, v, L1.out.past ((Only.refl _ _).drewN _), Far.past v (OX.out.drewN _), fun k hk => .inl hk⟩
      · rw [if_neg hfull] at HS
        go_enter Try.func12, Try.ntmps12
        go_wp2_with fail
        go_quiet ((go_at_call 29; exact R.out _))
        have hn0 : n ≤ 65536 := by omega
        have HLT := Lib.hid (little_n (w := (w.alloc (.cells #[.pointer (some ⟨p, 0, none⟩)] 30)).drewN nq) (l := []) (m := 0) (m' := 4) (nilRow _) rfl n (by omega) 4 (by omega) (by omega) rfl)
        go_wp2_with fail
        refine HLT.out.mono ?_
        rintro e w2 ⟨a2, k2, rfl, hg2, hl2⟩
        have O2 : Hid (Only [] (w.alloc (.cells #[.pointer (some ⟨p, 0, none⟩)] 30)) w2) := ((Only.refl [] _).drewN _).trans hg2.only (fun x hx => by simp [Value.ownBlock] at hx)
        have L2 := Lib.hid (L1.out.past O2.out)
        have B2 : Hid (Boxed w2 w.heap.size p) := O2.out.blk BX.out (by simp)
        have G2 := Lib.hid hg2.row
        have U2 := Lib.hid (bytes_over (bytes_over HU.out OX.out (by simp)) O2.out (by simp))
        have LL2 : Hid ((le n 4).length = 4) := hl2
        clear hg2 hl2
        have LAY := Lib.hid (lay_any L2.out _ B2.out (.slice a2 4 k2) (le n 4) (by have := G2.out.at; exact this) (by rw [LL2.out]; omega) (by rw [LL2.out]; omega))
        go_wp2_with fail
        refine LAY.out.mono ?_
        rintro e w3 ⟨rfl, v3, hL3, hF3, hv3, hO3⟩
        have L3 := Lib.hid hL3
        have F3 := Lib.hid hF3
        have V3 := Lib.hid hv3
        have LAYSZ := Lib.hid hF3.size
        have U3 : Hid (BytesAt w3 (.slice so n sc) b) := bytes_over U2.out hO3 (fun a n c h hlt hm => by
          have := HUV.out a n c h
          simp at hm
          rcases hm with hm | hm
          · exact this.1 hm
          · exact this.2 hm)
        have B3 : Hid (Boxed w3 w.heap.size p) := hO3.blk B2.out (by simp; exact ⟨Blk.ne B2.out L2.out.lg.log (by decide), owns_ne L2.out.lg.tail B2.out (by decide)⟩)
        clear hL3 hF3 hv3 hO3
        have LAY2 := Lib.hid (lay_any L3.out _ B3.out (.slice so n sc) b U3.out (by rw [List.length_append, LL2.out, HN.out]; omega) (by show l.fin + (le n 4).length + b.length ≤ _; rw [LL2.out, HN.out]; omega))
        go_wp2_with fail
        refine LAY2.out.mono ?_
        rintro e w4 ⟨rfl, v4, hL4, hF4, hv4, hO4⟩
        have L4 := Lib.hid hL4
        have F4 := Lib.hid hF4
        have V4 := Lib.hid hv4
        clear hL4 hF4 hv4 hO4
        go_wp2_with fail
        go_ret
        unfold AppendPost
        rw [HS.out]
        have s1 : w.heap.size ≤ w2.heap.size := (OX.out.trans O2.out (by simp)).size
        have s2 : w2.heap.size ≤ w3.heap.size := LAYSZ.out
        refine ⟨rfl, v4, ?_, ?_, ?_⟩
        · have := L4.out
          simp only [LL2.out, HN.out, List.append_assoc, Nat.add_assoc, HD.out] at this
          exact this
        · exact (Far.past v (OX.out.trans O2.out (by simp))).trans (F3.out.trans F4.out (fun x hx => V3.out x hx)) (fun x hx => .inl hx)
        · intro k hk
          rcases V4.out k hk with h | h
          · rcases V3.out k h with h | h
            · exact .inl h
            · right; omega
          · right; omega
    · rw [if_pos rfl] at HS
      go_enter Try.func12, Try.ntmps12
      go_wp2_with fail
      go_ret
      unfold AppendPost
      rw [HS.out]
      exact ⟨rfl, v, L1.out, Far.past v OX.out, fun k hk => .inl hk⟩
end Go.Proofs.Ytjbjikigiienkaa.W
