import Derived.Test.YtikonbnhbalpmaaMPageD
import Derived.Test.YtikonbnhbalpmaaMHpM
/-
  The program's pages: laid: do cells lie one right behind the other: by a contract.
-/
namespace Go.Proofs.Ytikonbnhbalpmaa.G
set_option linter.unusedSimpArgs false
open Go Go.RowKit Go.Proofs.Ytikonbnhbalpmaa.B Go.Proofs.Ytikonbnhbalpmaa.C
set_option linter.unusedVariables false
/-- The row is sorted by its places: nil too. -/
theorem sort_any {w : World} {v : Value} {n : Nat} {l : List (Nat × Nat)} (h : w.ownsRow 0 87 2 v n (rowC l)) (hl : l.length = n) (hb : ∀ x ∈ l, x.1 < 65536 ∧ x.2 < 65536) (hn : n ≤ 65536) :
    Calls Try.prog 64 #[v, .func (.func 65) #[] #[]] w fun e w' => e = .returned (.tuple #[]) ∧ ∃ l', l'.Perm l ∧ l'.Pairwise (fun a b => a.1 ≤ b.1) ∧ w'.ownsRow 0 87 2 v n (rowC l') ∧ Only v.ownBlock.toList w w' := by
  by_cases h0 : 0 < n
  · obtain ⟨g, c, rfl, hc⟩ := owns_some h h0
    exact (sort_some h hl hb hn).mono fun e w' ⟨he, l', h1, h2, h3, h4⟩ => ⟨he, l', h1, h2, h3, h4⟩
  · obtain rfl : n = 0 := by omega
    obtain rfl : l = [] := List.eq_nil_of_length_eq_zero hl
    obtain ⟨ao, cap, rfl⟩ := owns_form h
    refine (Try.slices_SortFunc_none (α := C2) ao cap (.func (.func 65) #[] #[]) w).mono ?_
    rintro e w' ⟨he, rfl⟩
    exact ⟨he, [], List.Perm.refl _, List.Pairwise.nil, h, Only.refl _ _⟩
set_option maxRecDepth 100000 in
set_option maxHeartbeats 2000000 in
theorem laid_any {w : World} {v : Value} {n b : Nat} {cs : List (Nat × Nat)} (h : w.ownsRow 0 87 2 v n (rowC cs)) (hl : cs.length = n) (hb : ∀ x ∈ cs, x.1 < 65536 ∧ x.2 < 65536) (hn : n ≤ 125) (hbg : b ≤ 512) :
    Calls Try.prog 59 #[v, .int .i64 b] w fun e w' => e = .returned (.bool (laidB cs b)) ∧ Only [] w w' := by
  have HROW := Lib.hid h
  have HCB := Lib.hid hb
  have HCL := Lib.hid hl
  have HN := Lib.hid hn
  have HBG := Lib.hid hbg
  obtain ⟨ao, cap, rfl⟩ := owns_form h
  have SOME : Hid (0 < n → ∃ g, ao = some ⟨g, 0, none⟩ ∧ n ≤ cap) := fun h0 => by
    obtain ⟨g, c, he, hc⟩ := owns_some h h0
    simp only [Value.slice.injEq, true_and] at he
    obtain ⟨rfl, rfl⟩ := he
    exact ⟨g, rfl, hc⟩
  clear h hb hl
  go_enter Try.func59, Try.ntmps59
  go_wp2_with fail
  go_loopg [5, 13] n (fun gk s5 s13 wx => ∃ j : Nat, gk = n - j ∧ j ≤ n ∧ s13 = .int .i64 j ∧ (∀ c ∈ cs.take j, goodC c) ∧ wx.ownsRow 0 87 2 s5 ((cs.take j).filter used).length (rowC ((cs.take j).filter used)) ∧ (∀ k, s5.ownBlock = some k → w.heap.size ≤ k) ∧ Only [] w wx)
  case atStart => exact ⟨0, rfl, Nat.zero_le _, rfl, fun c hc => by simp at hc, ⟨rfl, .inl ⟨rfl, rfl⟩⟩, fun k hk => by simp [Value.ownBlock] at hk, Only.refl _ _⟩
  case round =>
    obtain ⟨j, hgk, hj, rfl, hgood, hrow, hnew, hO⟩ := hrel
    have HGK := Lib.hid hgk
    have ROW := Lib.hid hrow
    have NEW := Lib.hid hnew
    have OO := Lib.hid hO
    have GOOD := Lib.hid hgood
    obtain ⟨a5, c5, rfl⟩ := owns_form hrow
    clear hgk hgood hnew hO
    by_cases hlt : j < n
    · have hj0 : (0 : Int) ≤ j := by omega
      have hj1 : (j : Int) < n := by omega
      obtain ⟨g, rfl, hcap⟩ := SOME.out (by omega)
      have hjl : j < cs.length := by rw [HCL.out]; exact hlt
      obtain ⟨⟨a, b2⟩, hcj⟩ : ∃ c, cs[j]? = some c := ⟨cs[j], List.getElem?_eq_getElem hjl⟩
      have RNG : Hid (wr.rangeAt g (j * 2) [.int .i64 a, .int .i64 b2]) := range_off (row_range HROW.out hlt hcj) OO.out
      have TK : Hid (cs.take (j + 1) = cs.take j ++ [(a, b2)]) := by
        show _ = _
        rw [List.take_add_one, hcj]; rfl
      have MEM : Hid ((a, b2) ∈ cs) := List.mem_of_getElem? hcj
      have UC := Try.underlying87
      have IC : (Try.prog.info? 87).map (·.size) = some 2 := by kernel_rfl
      have hin : b2 < 65536 := (HCB.out _ MEM.out).2
      clear hcj hjl hrow
      have OA := Lib.hid (OO.out.alloc (.cells #[.int .i64 a, .int .i64 b2] 87))
      by_cases ha : a = 0
      · subst ha
        by_cases hb : b2 = 0
        · subst hb
          go_wp2_with (refine wpList_load_mid rfl 87 (.tmp 15) rfl g (j * 2) rfl [.int .i64 0, .int .i64 0] _ RNG.out UC rfl IC ?_)
          go_roundg (n - (j + 1))
          case measure => have := HGK.out; omega
          case rel =>
            refine ⟨j + 1, rfl, by omega, by go_num, fun c hc => ?_, ?_, NEW.out, OA.out⟩
            · rw [TK.out, List.mem_append] at hc
              rcases hc with hc | hc
              · exact GOOD.out c hc
              · simp only [List.mem_cons, List.not_mem_nil, or_false] at hc
                subst hc
                exact ⟨fun _ => rfl, fun h => absurd rfl h, by omega⟩
            · have e : (cs.take (j + 1)).filter used = (cs.take j).filter used := by rw [TK.out, List.filter_append]; simp [used]
              rw [e]
              exact owns_past ROW.out ((Only.refl _ _).alloc _)
        · have hb0 : ¬ (b2 : Int) = 0 := by omega
          have BAD : Hid (laidB cs b = false) := laid_bad MEM.out (fun h => hb (h.1 rfl))
          go_wp2_with (refine wpList_load_mid rfl 87 (.tmp 15) rfl g (j * 2) rfl [.int .i64 0, .int .i64 b2] _ RNG.out UC rfl IC ?_)
          go_ret
          exact ⟨by rw [BAD.out]; rfl, OA.out⟩
      · have ha0 : ¬ (a : Int) = 0 := by omega
        by_cases hb : b2 = 0
        · subst hb
          have BAD : Hid (laidB cs b = false) := laid_bad MEM.out (fun h => by have := h.2.1 ha; omega)
          go_wp2_with (refine wpList_load_mid rfl 87 (.tmp 15) rfl g (j * 2) rfl [.int .i64 a, .int .i64 0] _ RNG.out UC rfl IC ?_)
          go_ret
          exact ⟨by rw [BAD.out]; rfl, OA.out⟩
        · have hb0 : ¬ (b2 : Int) = 0 := by omega
          by_cases h4 : b2 ≤ 400
          · have h40 : ¬ (b2 : Int) > 400 := by omega
            have h41 : (b2 : Int) ≤ 400 := by omega
            have FE : Hid ((cs.take (j + 1)).filter used = (cs.take j).filter used ++ [(a, b2)]) := by
              show _ = _
              rw [TK.out, List.filter_append]
              simp [used, ha]
            have ROWE : Hid (rowC ((cs.take j).filter used) ++ [.int .i64 a, .int .i64 b2] = rowC ((cs.take (j + 1)).filter used)) := by
              show _ = _
              rw [FE.out, rowC_append]; rfl
            have hml : ((cs.take j).filter used).length ≤ n := by
              refine Nat.le_trans (List.length_filter_le _ _) ?_
              rw [List.length_take]; omega
            generalize hm : ((cs.take j).filter used).length = m at *
            have HM := Lib.hid hm
            have hbB : ((b2 : Int) == 0) = false := beq_eq_false_iff_ne.2 hb0
            clear hm
            go_wp2_with (first | (refine wpList_load_mid rfl 87 (.tmp 15) rfl g (j * 2) rfl [.int .i64 a, .int .i64 b2] _ RNG.out UC rfl IC ?_) | (refine wpList_grow rfl (.tmp 45) (.tmp 47) 103 rfl 87 Try.underlying103 (info_parts info_cell) rfl (by omega) (.slice a5 m c5) m (rowC ((cs.take j).filter used)) rfl (by exact owns_past ROW.out (((Only.refl _ _).alloc _).alloc _)) (some ⟨wr.heap.size + 1, 0, none⟩) 1 1 rfl [.int .i64 a, .int .i64 b2] rfl (fun _ => ⟨_, rfl, fun j u hj => (Blk.new' #[.int .i64 a, .int .i64 b2] 87 (wr.alloc (.cells #[.int .i64 a, .int .i64 b2] 87)) (by simp)).add_cell j u hj⟩) (by intro u hu; simp at hu; rcases hu with rfl | rfl <;> rfl) (by omega) (by decide) ?_; intro v8 w8 hg8; have G8 := Lib.hid ((hg8.pre (((Only.refl [] wr).alloc _).alloc _)).to rfl ROWE.out); clear hg8))
            go_roundg (n - (j + 1))
            case measure => have := HGK.out; omega
            case rel =>
              refine ⟨j + 1, rfl, by omega, by go_num, fun c hc => ?_, ?_, fun k hk => ?_, OO.out.trans G8.out.only (fun x hx => .inr (NEW.out x (by simpa using hx)))⟩
              · rw [TK.out, List.mem_append] at hc
                rcases hc with hc | hc
                · exact GOOD.out c hc
                · simp only [List.mem_cons, List.not_mem_nil, or_false] at hc
                  subst hc
                  exact ⟨fun h => absurd h ha, fun _ => by show 1 ≤ b2; omega, h4⟩
              · have := G8.out.own; rw [FE.out] at this ⊢; rw [List.length_append, HM.out]; exact this
              · rcases G8.out.lies k hk with h1 | h1
                · exact NEW.out k h1
                · exact Nat.le_trans OO.out.size h1
          · have h40 : (b2 : Int) > 400 := by omega
            have BAD : Hid (laidB cs b = false) := laid_bad MEM.out (fun h => by have := h.2.2; omega)
            go_wp2_with (refine wpList_load_mid rfl 87 (.tmp 15) rfl g (j * 2) rfl [.int .i64 a, .int .i64 b2] _ RNG.out UC rfl IC ?_)
            go_ret
            exact ⟨by rw [BAD.out]; rfl, OA.out⟩
    · obtain rfl : j = n := by omega
      have ET : cs.take j = cs := List.take_of_length_le (Nat.le_of_eq HCL.out)
      generalize hm : ((cs.take j).filter used).length = m at *
      rw [ET] at hrow ROW GOOD hm
      have hml : (cs.filter used).length ≤ 125 := Nat.le_trans (List.length_filter_le _ _) (by rw [HCL.out]; exact hn)
      have hmem : ∀ x ∈ cs.filter used, x.1 < 65536 ∧ x.2 < 65536 := fun x hx => HCB.out x (List.mem_filter.1 hx).1
      have SRT := Lib.hid (sort_any ROW.out hm hmem (by omega))
      have GF : Hid (∀ x ∈ cs.filter used, x.2 ≤ 400) := fun x hx => (GOOD.out x (List.mem_filter.1 hx).1).2.2
      have LSD := Lib.hid (fun (l' : List (Nat × Nat)) (h1 : l'.Perm (cs.filter used)) (h2 : l'.Pairwise fun a b => a.1 ≤ b.1) => laid_sorted (b := b) GOOD.out h1 h2)
      have HM := Lib.hid hm
      rw [hm] at hml
      clear hrow hmem ROW ET GOOD HGK hm
      go_wp2_with (go_at_call 64; refine SRT.out.mono ?_; rintro e w2 ⟨rfl, l', hp', hs', hrow', hO2⟩; have ROW2 := Lib.hid hrow'; have O2 := Lib.hid (OO.out.trans hO2 (fun x hx => .inr (NEW.out x (by simpa using hx)))); have LS := Lib.hid (LSD.out l' hp' hs'); have GF2 : Hid (∀ x ∈ l', x.2 ≤ 400) := (fun x hx => GF.out x (hp'.mem_iff.1 hx)); have ML : Hid (l'.length = m) := (hp'.length_eq.trans HM.out); clear hp' hs' hrow' hO2)
      go_loopg [8, 55] m (fun gk s8 s55 wx => ∃ (k at_ : Nat), gk = m - k ∧ k ≤ m ∧ s55 = .int .i64 k ∧ s8 = .int .i64 at_ ∧ at_ ≤ 512 + 400 * k ∧ (laidB cs b = true ↔ chain at_ (l'.drop k)) ∧ Only [] w2 wx)
      case atStart => exact ⟨0, b, rfl, Nat.zero_le _, rfl, rfl, by omega, LS.out, Only.refl _ _⟩
      case round =>
        obtain ⟨k, at_, hgk, hk, rfl, rfl, hat, hch, hO3⟩ := hrel
        have HGK := Lib.hid hgk
        have CH := Lib.hid hch
        have O3 := Lib.hid hO3
        clear hgk hch hO3
        by_cases hlt : k < m
        · have hk0 : (0 : Int) ≤ k := by omega
          have hk1 : (k : Int) < m := by omega
          have hjl : k < l'.length := by rw [ML.out]; exact hlt
          obtain ⟨⟨a, b2⟩, hcj⟩ : ∃ c, l'[k]? = some c := ⟨l'[k], List.getElem?_eq_getElem hjl⟩
          obtain ⟨g5, rfl⟩ : ∃ g5, a5 = some ⟨g5, 0, none⟩ := by
            obtain ⟨g5, _, he, _⟩ := owns_some ROW2.out (by omega)
            simp only [Value.slice.injEq, true_and] at he
            exact ⟨g5, he.1⟩
          have RNG : Hid (wr.rangeAt g5 (k * 2) [.int .i64 a, .int .i64 b2]) := range_off (row_range ROW2.out hlt hcj) O3.out
          have DR : Hid (l'.drop k = (a, b2) :: l'.drop (k + 1)) := by
            show _ = _
            rw [List.drop_eq_getElem_cons hjl]
            rw [List.getElem?_eq_getElem hjl] at hcj
            rw [Option.some.inj hcj]
          have UC := Try.underlying87
          have IC : (Try.prog.info? 87).map (·.size) = some 2 := by kernel_rfl
          have hb2 : b2 ≤ 400 := GF2.out _ (List.mem_of_getElem? hcj)
          clear hcj hjl
          by_cases hne : a = at_
          · subst hne
            obtain ⟨q, hq⟩ : ∃ q, a + b2 = q := ⟨_, rfl⟩
            have ew : (a : Int) + b2 = q := by omega
            have CH2 : Hid (laidB cs b = true ↔ chain q (l'.drop (k + 1))) := by
              show _ ↔ _
              rw [CH.out, DR.out, ← hq]
              exact ⟨fun h => h.2, fun h => ⟨rfl, h⟩⟩
            have hq2 : q ≤ 512 + 400 * (k + 1) := by omega
            clear hq
            go_wp2_with (refine wpList_load_mid rfl 87 (.tmp 57) rfl g5 (k * 2) rfl [.int .i64 a, .int .i64 b2] _ RNG.out UC rfl IC ?_)
            go_roundg (m - (k + 1))
            case measure => have := HGK.out; omega
            case rel => exact ⟨k + 1, q, rfl, by omega, by go_num, rfl, hq2, CH2.out, O3.out.alloc _⟩
          · have hneI : ¬ (a : Int) = at_ := by omega
            have BAD : Hid (laidB cs b = false) := by
              show _ = _
              rw [Bool.eq_false_iff]
              intro h
              have h2 := CH.out.1 h
              rw [DR.out] at h2
              exact hne h2.1
            go_wp2_with (refine wpList_load_mid rfl 87 (.tmp 57) rfl g5 (k * 2) rfl [.int .i64 a, .int .i64 b2] _ RNG.out UC rfl IC ?_)
            go_ret
            exact ⟨by rw [BAD.out]; rfl, (O2.out.trans O3.out (by simp)).alloc _⟩
        · obtain rfl : k = m := by omega
          have EN : Hid (laidB cs b = decide (at_ = 512)) := by
            show _ = _
            have := CH.out
            rw [List.drop_of_length_le (Nat.le_of_eq ML.out)] at this
            rw [Bool.eq_iff_iff, this, decide_eq_true_iff]; rfl
          by_cases h5 : at_ = 512
          · subst h5
            go_wp2_with fail
            go_ret
            exact ⟨by rw [EN.out]; rfl, O2.out.trans O3.out (by simp)⟩
          · have h5I : ¬ (at_ : Int) = 512 := by omega
            have h5B : ((at_ : Int) == 512) = false := beq_eq_false_iff_ne.2 h5I
            go_wp2_with fail
            go_ret
            exact ⟨by rw [EN.out, decide_eq_false h5]; first | rfl | simp [h5B], O2.out.trans O3.out (by simp)⟩
end Go.Proofs.Ytikonbnhbalpmaa.G
