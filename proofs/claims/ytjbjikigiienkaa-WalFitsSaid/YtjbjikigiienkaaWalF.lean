/-
  The program's log: records by its contract.
-/
import Derived.Test.YtjbjikigiienkaaWalE
import Derived.Test.YtjbjikigiienkaaJumps
namespace Go.Proofs.Ytjbjikigiienkaa.W
set_option linter.unusedSimpArgs false
open Go.RowKit Go.Proofs.Ytjbjikigiienkaa.D Go.Proofs.Ytjbjikigiienkaa.B
set_option linter.unusedVariables false
variable {w0 w w' w2 : World} {v v' : Value}

theorem info_bytes : (Try.prog.info? 34).map (fun i => (i.zero, i.size, i.bytes)) = some (some (.slice none 0 0), 1, 24) := by kernel_rfl
/-- A slice that is read from its front on. -/
def Front (w : World) (v : Value) (b : List UInt8) : Prop :=
  ∃ ao cap, v = .slice ao b.length cap ∧ b.length ≤ cap ∧ (0 < b.length → ∃ g o, ao = some ⟨g, o, none⟩ ∧ ∀ j, j < b.length → w.cell? ⟨g, o + j, none⟩ = some (.int .u8 (b.getD j 0).toNat))
theorem Front.past {b : List UInt8} (h : Front w v b) (hO : Only [] w w') : Front w' v b := by
  obtain ⟨ao, cap, rfl, hl, hc⟩ := h
  refine ⟨ao, cap, rfl, hl, fun h0 => ?_⟩
  obtain ⟨g, o, rfl, hc2⟩ := hc h0
  exact ⟨g, o, rfl, fun j hj => hO.cell (hc2 j hj) (by simp)⟩
theorem getD_drop (b : List UInt8) (n j : Nat) : (b.drop n).getD j 0 = b.getD (n + j) 0 := by
  rw [List.getD_eq_getElem?_getD, List.getD_eq_getElem?_getD, List.getElem?_drop]
theorem getD_take (b : List UInt8) (n j : Nat) (h : j < n) : (b.take n).getD j 0 = b.getD j 0 := by
  rw [List.getD_eq_getElem?_getD, List.getD_eq_getElem?_getD, List.getElem?_take, if_pos h]
theorem front_next {b : List UInt8} {g o m : Nat} (hc : ∀ j, j < m → w.cell? ⟨g, o + j, none⟩ = some (.int .u8 (b.getD j 0).toNat)) (hm : b.length = m) (k : Nat) (hk : 4 + k ≤ m) (x : Option Addr) (c : Nat) (h1 : m - (4 + k) ≤ c) (h2 : 4 + k < m → x = some ⟨g, o + (4 + k), none⟩) :
    Front w (.slice x (m - (4 + k)) c) (b.drop (4 + k)) := by
  have e : (b.drop (4 + k)).length = m - (4 + k) := by rw [List.length_drop, hm]
  refine ⟨x, c, by rw [e], by rw [e]; exact h1, fun h0 => ?_⟩
  rw [e] at h0
  refine ⟨g, o + (4 + k), h2 (by omega), fun j hj => ?_⟩
  rw [e] at hj
  rw [Nat.add_assoc, hc _ (by omega), getD_drop]
/-- Slices of bytes of one's own, in a slice of one's own. -/
def OwnRows (w0 w : World) (v : Value) (ls : List (List UInt8)) : Prop :=
  ∃ xs, w.ownsRow 0 34 1 v ls.length xs ∧ ByteRows 5 w xs ls ∧ (∀ k, v.ownBlock = some k → w0.heap.size ≤ k) ∧ (∀ x ∈ xs, ∀ k, x.ownBlock = some k → w0.heap.size ≤ k)
theorem OwnRows.past {ls : List (List UInt8)} (h : OwnRows w0 w v ls) (hO : Only [] w w') : OwnRows w0 w' v ls := by
  obtain ⟨xs, h1, h2, h3, h4⟩ := h
  exact ⟨xs, owns_past h1 hO, h2.past hO, h3, h4⟩
theorem open38 (a : Act) (hd : a.defers = []) (h : a.tmps.size = 38) : ∃ u0 u1 u2 u3 u4 u5 u6 u7 u8 u9 u10 u11 u12 u13 u14 u15 u16 u17 u18 u19 u20 u21 u22 u23 u24 u25 u26 u27 u28 u29 u30 u31 u32 u33 u34 u35 u36 u37 : Value, a = ⟨#[u0, u1, u2, u3, u4, u5, u6, u7, u8, u9, u10, u11, u12, u13, u14, u15, u16, u17, u18, u19, u20, u21, u22, u23, u24, u25, u26, u27, u28, u29, u30, u31, u32, u33, u34, u35, u36, u37], []⟩ := by
  obtain ⟨⟨l⟩, d⟩ := a
  simp only at hd
  subst hd
  match l, h with
  | u0 :: u1 :: u2 :: u3 :: u4 :: u5 :: u6 :: u7 :: u8 :: u9 :: u10 :: u11 :: u12 :: u13 :: u14 :: u15 :: u16 :: u17 :: u18 :: u19 :: u20 :: u21 :: u22 :: u23 :: u24 :: u25 :: u26 :: u27 :: u28 :: u29 :: u30 :: u31 :: u32 :: u33 :: u34 :: u35 :: u36 :: u37 :: [], _ => exact ⟨u0, u1, u2, u3, u4, u5, u6, u7, u8, u9, u10, u11, u12, u13, u14, u15, u16, u17, u18, u19, u20, u21, u22, u23, u24, u25, u26, u27, u28, u29, u30, u31, u32, u33, u34, u35, u36, u37, rfl⟩
/-- What holds at the two labels: ahead of a record; where bytes are no records. -/
def RecJ (w0 : World) (b0 : List UInt8) (n l : Nat) (a : Act) (w : World) : Prop :=
  a.defers = [] ∧ a.tmps.size = 38 ∧ Only [] w0 w ∧
  ((l = 0 ∧ ∃ (b : List UInt8) (acc : List (List UInt8)), n = b.length + 1 ∧ acc.length + b.length ≤ b0.length ∧ Front w0 (a.tmps.getD 0 undef) b ∧ OwnRows w0 w (a.tmps.getD 4 undef) acc ∧ recs b0 = (recs b).map (acc ++ ·)) ∨
  (l = 1 ∧ n = 0 ∧ recs b0 = none))
def RecPost (w0 : World) (b0 : List UInt8) (e : Ending) (w : World) : Prop :=
  (∃ v' rs, recs b0 = some rs ∧ e = .returned (.tuple #[v', .bool true]) ∧ OwnRows w0 w v' rs ∧ Only [] w0 w) ∨ (recs b0 = none ∧ e = .returned (.tuple #[.slice none 0 0, .bool false]) ∧ Only [] w0 w)
set_option maxRecDepth 100000 in
set_option maxHeartbeats 2000000 in
theorem records_any (vb : Value) (b0 : List UInt8) (h : Front w vb b0) (hl : b0.length ≤ 8388608) :
    Calls Try.prog 25 #[vb] w (RecPost w b0) := by
  have HH := Lib.hid h
  obtain ⟨ao, cap, rfl, _, _⟩ := h
  go_enter Try.func25, Try.ntmps25
  go_wp2_with fail
  refine (fun pass => wp_scope_labels (RecJ w b0) ?first pass) ?pass
  case first =>
    have PASS := Lib.hid pass
    clear pass
    go_wp2_with fail
    go_step3
    obtain ⟨rest, hf, hp⟩ := PASS.out (b0.length + 1) 0 (⟨#[.slice ao b0.length cap, undef, .slice none 0 0, .bool false, .slice none 0 0, .int .i64 0, undef, undef, undef, undef, undef, undef, undef, undef, undef, undef, undef, undef, undef, undef, undef, undef, undef, undef, undef, undef, undef, undef, undef, undef, undef, undef, undef, undef, undef, undef, undef, undef], []⟩ : Act) w ⟨rfl, rfl, Only.refl _ _, .inl ⟨rfl, b0, [], rfl, by simp, HH.out, ⟨[], ⟨rfl, .inl ⟨rfl, rfl⟩⟩, ByteRows.nil _ _, (fun k hk => by cases hk), (fun x hx => by cases hx)⟩, by simp⟩⟩
    have hf' : some (Code.seq .skip _) = some (Code.seq .skip rest) := hf
    cases hf'
    rename_i hK
    refine hK _ _ (wp_mono hp ?_)
    intro e a' w' hq
    cases e with
    | goto l' =>
      obtain ⟨n', _, h⟩ := hq
      exact (⟨n', h⟩ : ∃ n, RecJ w b0 n l' a' w')
    | _ => exact hq
  case pass =>
    rintro n l a wr ⟨hd, hsz, hO, hJ⟩
    obtain ⟨u0, u1, u2, u3, u4, u5, u6, u7, u8, u9, u10, u11, u12, u13, u14, u15, u16, u17, u18, u19, u20, u21, u22, u23, u24, u25, u26, u27, u28, u29, u30, u31, u32, u33, u34, u35, u36, u37, rfl⟩ := open38 a hd hsz
    have O := Lib.hid hO
    clear hd hsz hO
    rcases hJ with ⟨rfl, b, acc, hn, hacc, hf, ho, hr⟩ | ⟨rfl, rfl, hr⟩
    · have FR : Hid (Front w u0 b) := hf
      have OR : Hid (OwnRows w wr u4 acc) := ho
      have HR := Lib.hid hr
      have HN := Lib.hid hn
      have HACC := Lib.hid hacc
      obtain ⟨ao, cap, hu0, hcap, _⟩ := hf
      obtain rfl : u0 = .slice ao b.length cap := hu0
      clear ho hr hn hacc
      refine ⟨_, rfl, ?_⟩
      generalize hm : b.length = m at *
      have HM := Lib.hid hm
      clear hm
      have hm8 : m ≤ 8388608 := by have := HACC.out; omega
      by_cases h0 : m = 0
      · subst h0
        have hb : b = [] := List.eq_nil_of_length_eq_zero HM.out
        have HRS : Hid (recs b0 = some acc) := by show _ = _; rw [HR.out, hb, recs_nil]; simp
        obtain ⟨oo, oc, rfl⟩ : ∃ oo oc, u4 = .slice oo acc.length oc := by
          obtain ⟨xs, h1, _⟩ := OR.out
          obtain ⟨oo, oc, h, _⟩ := owns_shape h1
          exact ⟨oo, oc, h⟩
        clear hb
        go_wp2_with fail
        simp only [jumps]
        go_ret2
        exact .inl ⟨_, acc, HRS.out, rfl, OR.out, O.out⟩
      · by_cases h4 : m < 4
        · have hb1 : ((m : Int) == 0) = false := by simp [h0]
          have h4' : ((m : Int) < 4) := by omega
          have HRS : Hid (recs b0 = none) := by show _ = _; rw [HR.out, recs_short b (fun h => h0 (by rw [← HM.out, h]; rfl)) (by rw [HM.out]; exact h4)]; rfl
          go_wp2_with fail
          go_step3
          exact ⟨0, by have := HN.out; omega, rfl, rfl, O.out, .inr ⟨rfl, rfl, HRS.out⟩⟩
        · have hb1 : ((m : Int) == 0) = false := by simp [h0]
          have h4' : ¬ ((m : Int) < 4) := by omega
          have hcap' : (4 : Int) ≤ cap := by omega
          obtain ⟨g, o, rfl, hc⟩ : ∃ g o, ao = some ⟨g, o, none⟩ ∧ ∀ j, j < m → w.cell? ⟨g, o + j, none⟩ = some (.int .u8 (b.getD j 0).toNat) := by
            obtain ⟨ao', cap', he, _, hc⟩ := FR.out
            rw [HM.out] at he hc
            simp only [Value.slice.injEq, true_and] at he
            obtain ⟨rfl, rfl⟩ := he
            exact hc (by omega)
          have HC0 := Lib.hid hc
          have HC : Hid (∀ j, j < m → wr.cell? ⟨g, o + j, none⟩ = some (.int .u8 (b.getD j 0).toNat)) := fun j hj => O.out.cell (hc j hj) (by simp)
          clear hc
          have UL := unlittle_any (w := wr) g o cap (b.take 4) (by rw [List.length_take]; omega) (fun j hj => by
            rw [List.length_take] at hj
            rw [HC.out j (by omega), getD_take b 4 j (by omega)])
          rw [show (b.take 4).length = 4 by rw [List.length_take, HM.out]; omega] at UL
          have HUL := Lib.hid UL
          clear UL
          have hn32 : unle (b.take 4) < 4294967296 := by
            have h1 := unle_lt (b.take 4)
            rw [show (b.take 4).length = 4 by rw [List.length_take, HM.out]; omega] at h1
            exact h1
          generalize hk : unle (b.take 4) = k at *
          have HK := Lib.hid hk
          clear hk
          by_cases hbad : 65536 < k ∨ m - 4 < k
          · have HRS : Hid (recs b0 = none) := by
              show _ = _
              rw [HR.out, recs_bad b (by rw [HM.out]; omega) (by rw [HK.out, HM.out]; exact hbad)]; rfl
            go_wp2_with fail
            refine HUL.out.mono ?_
            rintro e w' ⟨rfl, rfl⟩
            by_cases hb2 : 65536 < k
            · have hb3 : (65536 : Int) < k := by omega
              go_wp2_with fail
              go_step3
              exact ⟨0, by have := HN.out; omega, rfl, rfl, O.out, .inr ⟨rfl, rfl, HRS.out⟩⟩
            · have hb3 : ¬ (65536 : Int) < k := by omega
              have hb4 : (m : Int) - 4 < k := by omega
              go_wp2_with fail
              go_step3
              exact ⟨0, by have := HN.out; omega, rfl, rfl, O.out, .inr ⟨rfl, rfl, HRS.out⟩⟩
          · have hk1 : k ≤ 65536 := by omega
            have hk2 : 4 + k ≤ m := by omega
            have hb3 : ¬ (65536 : Int) < k := by omega
            have hb4 : ¬ (m : Int) - 4 < k := by omega
            have hb5 : (4 : Int) + k ≤ cap := by omega
            clear hbad
            obtain ⟨ad1, had1, had1'⟩ : ∃ ad1 : Addr, (if cap = 4 then some (⟨g, o, none⟩ : Addr) else some ⟨g, o + 4, none⟩) = some ad1 ∧ (0 < k → ad1 = ⟨g, o + 4, none⟩) := by
              by_cases h : cap = 4
              · exact ⟨_, by rw [if_pos h], fun h2 => by omega⟩
              · exact ⟨_, by rw [if_neg h], fun _ => rfl⟩
            obtain ⟨ad2, had2, had2'⟩ : ∃ ad2 : Addr, (if cap = 4 + k then some (⟨g, o, none⟩ : Addr) else some ⟨g, o + (4 + k), none⟩) = some ad2 ∧ (4 + k < m → ad2 = ⟨g, o + (4 + k), none⟩) := by
              by_cases h : cap = 4 + k
              · exact ⟨_, by rw [if_pos h], fun h2 => by omega⟩
              · exact ⟨_, by rw [if_neg h], fun _ => rfl⟩
            have HAD1 := Lib.hid had1'
            have HAD2 := Lib.hid had2'
            clear had1' had2'
            go_wp2_with fail
            refine HUL.out.mono ?_
            rintro e w' ⟨rfl, rfl⟩
            have BA : Hid (BytesAt wr (.slice (some ad1) k (cap - 4)) ((b.drop 4).take k)) := by
              have e : ((b.drop 4).take k).length = k := by rw [List.length_take, List.length_drop, HM.out]; omega
              refine ⟨some ad1, cap - 4, by rw [e], fun h => ?_⟩
              rw [e] at h
              refine ⟨g, o + 4, by rw [HAD1.out h], fun j hj => ?_⟩
              rw [e] at hj
              rw [Nat.add_assoc, HC.out (4 + j) (by omega), getD_take _ _ _ hj, getD_drop]
            have EL : Hid (((b.drop 4).take k).length = k) := by show _ = _; rw [List.length_take, List.length_drop, HM.out]; omega
            go_wp2_with fail
            refine (clone_any BA.out (by rw [EL.out]; omega)).mono ?_
            rintro e w1 ⟨v1, rfl, ho1, hk1, hO1⟩
            have R1 := Lib.hid ho1
            have K1 := Lib.hid hk1
            have O1 := Lib.hid hO1
            have OR1 := Lib.hid (OR.out.past hO1)
            obtain ⟨va, vc, rfl⟩ : ∃ va vc, v1 = .slice va k vc := by
              rcases ho1.2 with ⟨h, h0⟩ | ⟨g', c', cur, h, _⟩
              · exact ⟨none, 0, by rw [h, ← EL.out, h0]⟩
              · exact ⟨_, c', by rw [h, EL.out]⟩
            clear ho1 hk1 hO1
            obtain ⟨xs, hx1, hx2, hx3, hx4⟩ := OR1.out
            obtain ⟨oo, oc, rfl, _⟩ := owns_shape hx1
            have OX : Hid (Only [] w1 (w1.alloc (.cells #[.slice va k vc] 34))) := (Only.refl _ _).alloc _
            have X1 := Lib.hid (owns_past hx1 OX.out)
            have X2 := Lib.hid hx2
            have X3 := Lib.hid hx3
            have X4 := Lib.hid hx4
            have NW : Hid (∀ (j : Nat) (u : Value), ([.slice va k vc] : List Value)[j]? = some u → (w1.alloc (.cells #[.slice va k vc] 34)).cell? ((⟨w1.heap.size, 0, none⟩ : Addr).add j) = some u) :=
              World.news_of_block (cs := #[.slice va k vc]) (t := 34) (fr := (0, 0)) (Blk.new' _ _ _ rfl)
            have ha8 : acc.length ≤ 8388608 := by have := HACC.out; omega
            clear hx1 hx2 hx3 hx4
            go_wp2_with (refine wpList_grow rfl (.tmp 26) (.tmp 32) 31 rfl 34 Try.underlying31 (info_parts info_bytes) rfl (by omega) (.slice oo acc.length oc) acc.length xs rfl X1.out (some ⟨w1.heap.size, 0, none⟩) 1 1 rfl [.slice va k vc] rfl (fun _ => ⟨_, rfl, NW.out⟩) (by simp [Value.oneCell']) (by omega) (by omega) ?_)
            intro v3 w3 hg3
            have G3 := Lib.hid hg3
            obtain ⟨a3, c3, rfl⟩ := hg3.shape
            clear hg3
            have O3 : Hid (Only [] w w3) := ((O.out.trans O1.out (by simp)).trans OX.out (by simp)).trans G3.out.only (fun x hx => .inr (X3.out x (by simpa using hx)))
            have ROWS : Hid (OwnRows w w3 (.slice a3 (acc.length + 1) c3) (acc ++ [(b.drop 4).take k])) := by
              have off : Off 5 (w1.alloc (.cells #[.slice va k vc] 34)) (Value.slice oo acc.length oc).ownBlock.toList := owns_foot X1.out (by decide)
              refine ⟨xs ++ [.slice va k vc], ?_, ?_, ?_, ?_⟩
              · have := G3.out.own
                rw [show (acc ++ [(b.drop 4).take k]).length = acc.length + 1 by simp]
                exact this
              · exact ((X2.out.past OX.out).off G3.out.only off).snoc ((R1.out.off OX.out (Off.nil _ _)).off G3.out.only off)
              · intro x hx
                rcases G3.out.lies x hx with h | h
                · exact X3.out x h
                · have := O.out.size
                  have := O1.out.size
                  have := OX.out.size
                  omega
              · intro x hx y hy
                rw [List.mem_append] at hx
                rcases hx with hx | hx
                · exact X4.out x hx y hy
                · simp only [List.mem_cons, List.not_mem_nil, or_false] at hx
                  subst hx
                  have := K1.out y hy
                  have := O.out.size
                  omega
            have HRN : Hid (recs b0 = (recs (b.drop (4 + k))).map ((acc ++ [(b.drop 4).take k]) ++ ·)) := by
              show _ = _
              rw [HR.out, recs_one b k HK.out (by rw [HM.out]; exact hk2) hk1, Option.map_map]
              congr 1
              funext x
              simp
            go_wp2_with fail
            all_goals
              go_step3
              refine ⟨(m - (4 + k)) + 1, by have := HN.out; omega, rfl, rfl, O3.out, .inl ⟨rfl, b.drop (4 + k), acc ++ [(b.drop 4).take k], by rw [List.length_drop, HM.out], ?_, ?_, ROWS.out, HRN.out⟩⟩
              · rw [List.length_append, List.length_drop, HM.out]
                have := HACC.out
                simp only [List.length_cons, List.length_nil]
                omega
              · exact front_next HC0.out HM.out k hk2 _ _ (by omega) (fun h => by first | rfl | omega)
    · refine ⟨_, rfl, ?_⟩
      have HR := Lib.hid hr
      clear hr
      go_wp2_with fail
      simp only [jumps]
      go_ret2
      exact .inr ⟨HR.out, rfl, O.out⟩
end Go.Proofs.Ytjbjikigiienkaa.W
