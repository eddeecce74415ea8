/-
  The document's disk: Read and Write by contracts.
-/
import Derived.Test.YtgifigfdjcgkaaaRefA
import Derived.Deep.RegionHeld3
namespace Go.Proofs.Ytgifigfdjcgkaaa.D
set_option linter.unusedSimpArgs false
open Go.RowKit
set_option linter.unusedVariables false
variable {w w' : World} {F G X : List Nat} {v : Value} {l : Sector} {vs : List Value} {ls : List Sector} {n d : Nat} {s : DS} {sv nv rv : Value} {sx nx rx : List Value}

theorem rread_down (h : Blk w d (rcells sv nv rv s) 69) (i : Int) (hdn : s.down = true) :
    Calls Try.prog 29 #[.pointer (some ⟨d, 0, none⟩), .int .i64 i] w fun e w' => e = .returned (.tuple #[.slice none 0 0, .int .i64 13]) ∧ w = w' := by
  have c6 := h.cell 6
  simp [rcells, hdn] at c6
  go_enter Try.func29, Try.ntmps29
  go_wp2
  go_ret2
  exact ⟨rfl, rfl⟩
theorem rread_place (h : Blk w d (rcells sv nv rv s) 69) (hr : ∃ a c, nv = .slice a n c) (i : Int) (hdn : s.down = false) (hi : i < 0 ∨ (n : Int) ≤ i) :
    Calls Try.prog 29 #[.pointer (some ⟨d, 0, none⟩), .int .i64 i] w fun e w' => e = .returned (.tuple #[.slice none 0 0, .int .i64 11]) ∧ w = w' := by
  obtain ⟨a, c, rfl⟩ := hr
  have c6 := h.cell 6
  have c0 := h.cell 1
  simp [rcells, hdn] at c6 c0
  by_cases h0 : i < 0
  · go_enter Try.func29, Try.ntmps29
    go_wp2
    go_ret2
    exact ⟨rfl, rfl⟩
  · have h1 : (n : Int) ≤ i := by omega
    clear hi
    go_enter Try.func29, Try.ntmps29
    go_wp2
    go_ret2
    exact ⟨rfl, rfl⟩
/-- Where the i-th of the document's sectors lies. -/
theorem rsec_cell {sl : Value} (h : w.ownsRow 0 22 1 sl ls.length vs) (hr : RSecs w F vs ls) {i : Nat} (hi : i < ls.length) :
    ∃ g cap, sl = .slice (some ⟨g, 0, none⟩) ls.length cap ∧ ∃ gx cx, w.cell? ⟨g, i, none⟩ = some (.slice (some ⟨gx, 0, none⟩) 512 cx) ∧ w.frozen? ⟨g, i, none⟩ = false ∧ gx ∈ F ∧ ByteRow 5 w (.slice (some ⟨gx, 0, none⟩) 512 cx) (ls.getD i []) ∧ (ls.getD i []).length = 512 ∧ ∃ cur, Blk w g cur 22 := by
  obtain ⟨ao, cap, rfl, hao⟩ := owns_shape h
  obtain ⟨g, rfl⟩ := hao (by omega)
  obtain ⟨cur, hb, hl2, ht, hle⟩ := owns_blk h
  obtain ⟨h5, gx, cx, hv, hF, hb2⟩ := hr.2 i hi
  have hvl : i < vs.length := by rw [hr.1]; exact hi
  have hc : w.cell? ⟨g, i, none⟩ = some (vs.getD i undef) := by
    rw [hb.cell, List.getD_eq_getElem?_getD, List.getElem?_eq_getElem hvl, Option.getD_some, ← List.getElem?_eq_getElem, ← ht, List.getElem?_take, if_pos (by omega)]
  rw [hv] at hc hb2
  exact ⟨g, cap, rfl, gx, cx, hc, hb.frozen i, hF, hb2, h5, cur, hb⟩
set_option maxRecDepth 100000 in
theorem rread_ok (h : RefAt w d F s sv nv rv sx nx rx) (i : Nat) (hdn : s.down = false) (hi : i < s.now.length) :
    Calls Try.prog 29 #[.pointer (some ⟨d, 0, none⟩), .int .i64 i] w fun e w' => ∃ cap, e = .returned (.tuple #[.slice (some ⟨w.heap.size, 0, none⟩) 512 cap, .int .i64 0]) ∧
      ByteRow 5 w' (.slice (some ⟨w.heap.size, 0, none⟩) 512 cap) (s.now.getD i []) ∧ Only [] w w' := by
  obtain ⟨g, cap, rfl, gx, cx, cw, fw, hgF, hbr, h5, cur, hbl⟩ := rsec_cell h.ownN h.secN hi
  have c6 := h.disk.cell 6
  have c0 := h.disk.cell 1
  simp [rcells, hdn] at c6 c0
  generalize s.now.getD i [] = l at *
  generalize s.now.length = n at *
  have HB := Lib.hid hbr
  have HS := Lib.hid hbr.src
  have HL := Lib.hid h5
  clear hbr h5 hbl fw h
  have hi0 : (0 : Int) ≤ i := by omega
  have hi1 : (i : Int) < n := by omega
  go_enter Try.func29, Try.ntmps29
  go_wp2_with (refine wpList_clone rfl _ _ _ rfl 5 Try.underlying22 (info_parts info_byte) rfl rfl gx 0 512 cx (u8s l) rfl (by rw [length_u8s]; exact HL.out) HS.out (u8s_oneCell _) (by omega) (by omega) (by omega) ?_)
  intro cap2 w2 hown hO hg
  have OWN := Lib.hid hown
  have HO := Lib.hid hO
  clear hown hO hg
  go_wp2_with fail
  go_ret2
  refine ⟨cap2, rfl, ?_, HO.out⟩
  unfold ByteRow
  rw [HL.out]
  exact OWN.out

/-- The refusals. -/
theorem rwrite_no (h : Blk w d (rcells sv nv rv s) 69) (hr : ∃ a c, nv = .slice a s.now.length c) (hc0 : 0 ≤ s.count) (hc1 : s.count ≤ 1099511627776) (hf : s.fail ≤ 9223372036854775807) (hh : s.halt ≤ 9223372036854775807) (hn : s.now.length ≤ 65536)
    (i : Int) (ao : Option Addr) (len cap : Nat) (hno : s.err ≠ 0 ∨ i < 0 ∨ (s.now.length : Int) ≤ i ∨ len ≠ 512) :
    Calls Try.prog 23 #[.pointer (some ⟨d, 0, none⟩), .int .i64 i, .slice ao len cap] w fun e w' =>
      e = .returned (.int .i64 (if s.err ≠ 0 then s.err else if i < 0 ∨ (s.now.length : Int) ≤ i then 11 else 10)) ∧ Blk w' d (rcells sv nv rv s.rchanged) 69 ∧ Only [d] w w' := by
  have C := rchange_any d sv nv rv s w h hc0 hc1 hf hh
  have HC := Lib.hid C
  have HN := Lib.hid hno
  obtain ⟨na, nc, rfl⟩ := hr
  clear C hno
  generalize s.now.length = n at *
  generalize s.err = er at *
  by_cases he : er = 0
  · subst he
    by_cases hi : i < 0
    · go_enter Try.func23, Try.ntmps23
      go_wp2_with (go_at_call 35; refine HC.out.mono ?_; rintro e w1 ⟨rfl, hb, hO⟩)
      go_ret
      exact ⟨by simp [hi], hb, hO⟩
    · by_cases hi2 : (n : Int) ≤ i
      · go_enter Try.func23, Try.ntmps23
        go_wp2_with (go_at_call 35; refine HC.out.mono ?_; rintro e w1 ⟨rfl, hb, hO⟩; have c0 := hb.cell 1; simp [rcells] at c0)
        go_ret
        exact ⟨by simp [hi, hi2], hb, hO⟩
      · have hl : len ≠ 512 := by have := HN.out; omega
        have hl2 : ((len : Int) == 512) = false := by simp; omega
        have hl3 : ((len : Int) != 512) = true := by simp; omega
        go_enter Try.func23, Try.ntmps23
        go_wp2_with (go_at_call 35; refine HC.out.mono ?_; rintro e w1 ⟨rfl, hb, hO⟩; have c0 := hb.cell 1; simp [rcells] at c0)
        go_ret
        exact ⟨by simp [hi, hi2], hb, hO⟩
  · have he2 : (er == 0) = false := by simp [he]
    have he3 : (er != 0) = true := by simp [he]
    go_enter Try.func23, Try.ntmps23
    go_wp2_with (go_at_call 35; refine HC.out.mono ?_; rintro e w1 ⟨rfl, hb, hO⟩)
    go_ret
    exact ⟨by simp [he], hb, hO⟩

theorem info_write : (Try.prog.info? 71).map (fun i => (i.zero, i.size, i.bytes)) = some (some (.agg #[.int .i64 0, .slice none 0 0]), 2, 32) := by kernel_rfl

theorem mem_foot {v : Value} {x : Nat} (h : x ∈ v.ownBlock.toList) : v.ownBlock = some x := by simpa using h
/-- Behind a write: the sector lies in the row of those that are read, and in the row of those that aren't sure. -/
theorem rwrite_done {w2 w3 w5 : World} {g cap cb cap2 gg cp n rn i : Nat} (T : RefAt w2 d F s sv (.slice (some ⟨g, 0, none⟩) n cap) rv sx nx rx) (hn : s.now.length = n) (hrn : s.row.length = rn) (hi : i < n) (hl : l.length = 512)
    (hc : ByteRow 5 w2 (.slice (some ⟨cb, 0, none⟩) 512 cap2) l) (hcw : cb < w2.heap.size) (e3 : w3 = w2.setCell ⟨g, i, none⟩ (.slice (some ⟨cb, 0, none⟩) 512 cap2)) (hO : Only rv.ownBlock.toList w3 w5)
    (hr : w5.ownsRow 0 71 2 (.slice (some ⟨gg, 0, none⟩) (rn + 1) cp) (rn + 1) (rx ++ [.int .i64 i, .slice (some ⟨cb, 0, none⟩) 512 cap2])) (hg5 : gg < w5.heap.size) :
    RefAt (w5.setCell ⟨d, 2, none⟩ (.slice (some ⟨gg, 0, none⟩) (rn + 1) cp)) d (cb :: gg :: F) { s with now := s.now.set i l, row := s.row ++ [(i, l)] } sv (.slice (some ⟨g, 0, none⟩) n cap) (.slice (some ⟨gg, 0, none⟩) (rn + 1) cp) sx (nx.set i (.slice (some ⟨cb, 0, none⟩) 512 cap2)) (rx ++ [.int .i64 i, .slice (some ⟨cb, 0, none⟩) 512 cap2]) := by
  have on2 := T.ownN
  rw [hn] at on2
  obtain ⟨cur, hbg, _⟩ := owns_blk on2
  obtain ⟨cur5, hb5, _⟩ := owns_blk hr
  have O3 : Only [g] w2 w3 := by rw [e3]; exact (Only.refl _ _).setCell (.inl (by simp)) _
  have O5 : Only (g :: rv.ownBlock.toList) w2 w5 := (O3.mono (fun x hx => .inl (by simp at hx; simp [hx]))).trans hO (fun x hx => .inl (by simp at hx; simp [hx]))
  have hdg : d ∉ g :: rv.ownBlock.toList := by
    simp only [List.mem_cons, not_or]
    exact ⟨T.disk.ne hbg (by decide), fun hm => owns_ne T.ownR T.disk (by decide) (mem_foot hm)⟩
  have B5 := O5.blk T.disk hdg
  have O6 : Only [d] w5 (w5.setCell ⟨d, 2, none⟩ (.slice (some ⟨gg, 0, none⟩) (rn + 1) cp)) := (Only.refl _ _).setCell (.inl (by simp)) _
  have offd : ∀ e, 69 ≠ e → Off e w5 [d] := fun e he => Off.one B5 he
  have off5 : Off 5 w2 (g :: rv.ownBlock.toList) := by
    intro k hk cs hb
    simp only [List.mem_cons] at hk
    rcases hk with rfl | hk
    · exact hbg.ne hb (by decide) rfl
    · exact owns_ne T.ownR hb (by decide) (mem_foot hk)
  have hF : ∀ k ∈ F, k ∈ cb :: gg :: F := fun k hk => by simp [hk]
  have sz : w2.heap.size ≤ w5.heap.size := O5.size
  refine ⟨?_, ?_, ?_, ?_, ?_, ?_, ?_, ?_, by simpa using T.few, hF _ T.fd, fun k hk => hF _ (T.fS k hk), fun k hk => hF _ (T.fN k hk), fun k hk => by simp only [Value.ownBlock, Option.some.injEq] at hk; simp [hk], ?_⟩
  · exact (B5.set 2 _).to (by simp [rcells])
  · refine owns_off (owns_later T.ownS O5 (fun k hk hm => ?_)) O6 (offd _ (by decide))
    simp only [List.mem_cons] at hm
    rcases hm with rfl | hm
    · exact T.ne k hk rfl
    · obtain ⟨cs, hb⟩ := owns_own T.ownS hk
      exact owns_ne T.ownR hb (by decide) (mem_foot hm)
  · have := owns_set on2 i hi (.slice (some ⟨cb, 0, none⟩) 512 cap2)
    rw [← e3] at this
    rw [List.length_set, hn]
    refine owns_off (owns_later this hO (fun k hk hm => ?_)) O6 (offd _ (by decide))
    simp only [Value.ownBlock, Option.some.injEq] at hk
    subst hk
    exact owns_ne T.ownR hbg (by decide) (mem_foot hm)
  · have : (s.row ++ [(i, l)]).length = rn + 1 := by simp [hrn]
    rw [this]
    exact owns_off hr O6 (offd _ (by decide))
  · exact ((T.secS.off O5 off5 hF).off O6 (offd _ (by decide)) (fun _ h => h))
  · have h1 := ((T.secN.off O5 off5 hF).off O6 (offd _ (by decide)) (fun _ h => h))
    exact h1.set i ⟨hl, cb, cap2, rfl, by simp, (hc.off O5 off5).off O6 (offd _ (by decide))⟩
  · have h1 := T.row.map (fun h => (h.off O5 off5 hF).off O6 (offd _ (by decide)) (fun _ h => h))
    rw [List.length_set]
    exact h1.snoc (by rw [hn]; exact hi) ⟨hl, cb, cap2, rfl, by simp, (hc.off O5 off5).off O6 (offd _ (by decide))⟩
  · exact T.ne
  · intro k hk
    show k < (w5.setCell _ _).heap.size
    have hs6 := O6.size
    simp only [List.mem_cons] at hk
    rcases hk with rfl | rfl | hk
    · omega
    · omega
    · have := T.lt k hk; omega

set_option maxRecDepth 100000 in
set_option maxHeartbeats 1000000 in
theorem rwrite_yes (h : RefAt w d F s sv nv rv sx nx rx) (hc0 : 0 ≤ s.count) (hc1 : s.count ≤ 1099511627776) (hf : s.fail ≤ 9223372036854775807) (hh : s.halt ≤ 9223372036854775807) (hr : s.row.length ≤ 1048576) (he : s.err = 0)
    (i : Nat) (hi : i < s.now.length) (b o c : Nat) (l : List UInt8) (hl : l.length = 512) (hb : ∀ j, j < l.length → w.cell? ⟨b, o + j, none⟩ = some (.int .u8 (l.getD j 0).toNat)) (hbF : b ∉ F) :
    Calls Try.prog 23 #[.pointer (some ⟨d, 0, none⟩), .int .i64 i, .slice (some ⟨b, o, none⟩) 512 c] w fun e w' =>
      e = .returned (.int .i64 0) ∧ ∃ F' rv' nx' rx', RefAt w' d F' { s.rchanged with now := s.now.set i l, row := s.row ++ [(i, l)] } sv nv rv' sx nx' rx' ∧ Only F w w' ∧ (∀ k ∈ F', k ∈ F ∨ w.heap.size ≤ k) ∧ Keeps 62 w w' := by
  have C := rchange_any d sv nv rv s w h.disk hc0 hc1 hf hh
  rw [he] at C
  have HC := Lib.hid C
  obtain ⟨g, cap, rfl, gx, cx, cw, fw, hgF, hbr, h5, cur, hbl⟩ := rsec_cell h.ownN h.secN hi
  have HH := Lib.hid h
  have HL := Lib.hid hl
  have HCS := Lib.hid (src_cells hb)
  have hil : i < nx.length := by rw [h.secN.1]; exact hi
  have HIL := Lib.hid hil
  clear C hbr h5 hb cw fw hil hl
  generalize hn : s.now.length = n at *
  have HN := Lib.hid hn
  clear hn
  have hi0 : (0 : Int) ≤ i := by omega
  have hi1 : (i : Int) < n := by omega
  go_enter Try.func23, Try.ntmps23
  go_wp2_with fail
  refine HC.out.mono ?_
  rintro e w1 ⟨rfl, hb1, hO1⟩
  have c1 := hb1.cell 1
  simp [rcells] at c1
  have T1 := Lib.hid (HH.out.cells hO1 hb1 rfl rfl rfl)
  have hdF := HH.out.fd
  have HSRC : Hid (∀ j u, (u8s l)[j]? = some u → w1.cell? ⟨b, o + j, none⟩ = some u) := by
    intro j u hu
    have := HCS.out j u hu
    rw [add_plain] at this
    exact hO1.cell this (by simp; rintro rfl; exact hbF hdF)
  have HO1 := Lib.hid hO1
  clear hb1 hO1 hdF HCS
  go_wp2_with (refine wpList_clone rfl _ _ _ rfl 5 Try.underlying22 (info_parts info_byte) rfl rfl b o 512 c (u8s l) rfl (by rw [length_u8s]; exact HL.out) HSRC.out (u8s_oneCell _) (by omega) (by omega) (by omega) ?_)
  intro cap2 w2 hown hO2 hg2
  have T2 := Lib.hid (T1.out.past hO2)
  have OWN2 := Lib.hid hown
  have HO2 := Lib.hid hO2
  have HG2 := Lib.hid hg2
  have c1' := T2.out.disk.cell 1
  simp [rcells] at c1'
  have on2 := T2.out.ownN
  rw [show s.rchanged.now.length = n from HN.out] at on2
  obtain ⟨cur, hbl2, hcl, hct, hcn⟩ := owns_blk on2
  obtain ⟨oldv, cg⟩ := hbl2.at i (by rw [hcl]; omega)
  have fg := hbl2.frozen i
  have hne : g ≠ d := hbl2.ne T2.out.disk (by decide)
  have c2' := T2.out.disk.cell 2
  have f2' := T2.out.disk.frozen 2
  simp [rcells] at c2'
  clear c1 hown hO2 hg2 on2 hcl hct hcn
  have HBL := Lib.hid hbl2
  have hbl := hbl2
  clear hbl2
  have O4 : Hid (Only [g] w2 ((w2.setCell ⟨g, i, none⟩ (.slice (some ⟨w1.heap.size, 0, none⟩) 512 cap2)).alloc (.cells #[.int .i64 i, .slice (some ⟨w1.heap.size, 0, none⟩) 512 cap2] 71))) :=
    ((Only.refl [g] _).setCell (.inl (by simp)) _).alloc _
  have OR4 := Lib.hid (owns_off T2.out.ownR O4.out (Off.one hbl (by decide)))
  have NW : Hid (∀ (j : Nat) (u : Value), ([.int .i64 i, .slice (some ⟨w1.heap.size, 0, none⟩) 512 cap2] : List Value)[j]? = some u → ((w2.setCell ⟨g, i, none⟩ (.slice (some ⟨w1.heap.size, 0, none⟩) 512 cap2)).alloc (.cells #[.int .i64 i, .slice (some ⟨w1.heap.size, 0, none⟩) 512 cap2] 71)).cell? ((⟨w2.heap.size, 0, none⟩ : Addr).add j) = some u) :=
    World.news_of_block (cs := #[.int .i64 i, .slice (some ⟨w1.heap.size, 0, none⟩) 512 cap2]) (t := 71) (fr := (0, 0)) (Blk.new' _ _ _ (by simp))
  obtain ⟨i0, hi0', hz0, hz1, hz2⟩ := info_parts info_write
  generalize hrn : s.rchanged.row.length = rn at *
  have Hrn := Lib.hid hrn
  have hrn2 : rn ≤ 1048576 := by rw [← hrn]; exact hr
  clear hrn hbl hr
  go_wp2_with (refine wpList_append_lies _ rfl (.tmp 44) (.tmp 48) 67 rfl 0 71 i0 _ 2 32 Try.underlying67 hi0' hz0 hz1 hz2 rfl (by omega) rv rn rx rfl (by exact OR4.out) ⟨w2.heap.size, 0, none⟩ 1 1 [.int .i64 i, .slice (some ⟨w1.heap.size, 0, none⟩) 512 cap2] rfl rfl (by exact NW.out) (by simp [Value.oneCell']) (by omega) (by unfold maxLen; omega) (by omega) (by omega) _ rfl ?_)
  intro gg cp w5 hown5 hgrow hat hlt5
  have HOWN5 := Lib.hid hown5
  have HGR5 := Lib.hid hgrow
  have HAT5 := Lib.hid hat
  have O5 : Hid (Only (g :: rv.ownBlock.toList) w2 w5) := (O4.out.mono (M' := g :: rv.ownBlock.toList) (fun x hx => .inl (by simp at hx; simp [hx]))).trans (Only.ofGrown hgrow) (fun x hx => .inl (by simp at hx; simp [hx]))
  have B5 := Lib.hid (O5.out.blk T2.out.disk (by
    simp only [List.mem_cons, not_or]
    exact ⟨hne.symm, fun hm => owns_ne T2.out.ownR T2.out.disk (by decide) (by simpa using hm)⟩))
  have b2 := B5.out.cell 2
  simp [rcells] at b2
  have bf2 := B5.out.frozen 2
  have HLT5 := Lib.hid hlt5
  clear hown5 hgrow hat hlt5 c2' c1' f2' cg fg
  go_wp2_with fail
  go_ret
  refine ⟨rfl, _, _, _, _, rwrite_done T2.out (s := s.rchanged) HN.out Hrn.out hi HL.out (by unfold ByteRow; rw [HL.out]; exact OWN2.out) HG2.out rfl ?_ HOWN5.out HLT5.out, ?_, ?_, ?_⟩
  · exact ((Only.refl rv.ownBlock.toList _).alloc _).trans (Only.ofGrown HGR5.out) (fun x hx => .inl hx)
  · refine Only.setCell ?_ (.inl HH.out.fd) _
    refine ((HO1.out.mono (fun x hx => .inl (by simp at hx; subst hx; exact HH.out.fd))).trans HO2.out (by simp)).trans O5.out (fun x hx => .inl ?_)
    simp only [List.mem_cons] at hx
    rcases hx with rfl | hx
    · exact HH.out.fN _ rfl
    · exact HH.out.fR _ (mem_foot hx)
  · intro k hk
    have s1 := HO1.out.size
    have s2 := HO2.out.size
    simp only [List.mem_cons] at hk
    rcases hk with rfl | rfl | hk
    · right; omega
    · rcases HAT5.out with h | h
      · exact .inl (HH.out.fR _ h)
      · right; rw [h]; first | omega | (simp; omega)
    · exact .inl hk
  · refine (((Keeps.one HO1.out HH.out.disk (by decide)).trans (Keeps.past HO2.out)).trans (Keeps.of O5.out ?_)).trans (Keeps.one (only_set _ d 2 _) B5.out (by decide))
    intro x hx cs hb
    simp only [List.mem_cons] at hx
    rcases hx with rfl | hx
    · exact HBL.out.ne hb (by decide) rfl
    · exact owns_ne T2.out.ownR hb (by decide) (mem_foot hx)
end Go.Proofs.Ytgifigfdjcgkaaa.D
