/-
  The program's log: writes by its contract.
-/
import Derived.Test.YtjbjikigiienkaaWalI
namespace Go.Proofs.Ytjbjikigiienkaa.W
set_option linter.unusedSimpArgs false
open Go.RowKit Go.Proofs.Ytjbjikigiienkaa.D Go.Proofs.Ytjbjikigiienkaa.B
set_option linter.unusedVariables false
variable {W w w' w2 : World} {p d : Nat} {v v' : Value} {l l' : LS} {M M' : List Nat} {s s' : DS}

/-- A sector of the tail, from a byte on; behind its end noughts. -/
def chunk (t : List UInt8) (f : Nat) : Sector := (t.drop f).take 512 ++ zeros.drop ((t.drop f).take 512).length
theorem chunk_len (t : List UInt8) (f : Nat) : (chunk t f).length = 512 := by
  unfold chunk
  rw [List.length_append, List.length_drop, zeros_len]
  have : ((t.drop f).take 512).length ≤ 512 := List.length_take_le _ _
  omega
/-- The first k sectors of the tail are written, as far as none of them is refused. -/
def wrs (l : LS) (s : DS) : Nat → DS × Int
  | 0 => (s, 0)
  | k + 1 => if (wrs l s k).2 ≠ 0 then wrs l s k else (wrs l s k).1.write ((l.first + 2 + (l.sure / 512 + k) : Nat) : Int) (chunk l.tail (512 * k))
theorem wrs_stays (l : LS) (s : DS) (k : Nat) (h : (wrs l s k).2 ≠ 0) : ∀ j, wrs l s (k + j) = wrs l s k
  | 0 => rfl
  | j + 1 => by
    have ih := wrs_stays l s k h j
    rw [← Nat.add_assoc, wrs, ih, if_pos h]
theorem wrs_same (l : LS) (s : DS) : ∀ k, s.count ≤ (wrs l s k).1.count ∧ (wrs l s k).1.count ≤ s.count + k ∧ (wrs l s k).1.row.length ≤ s.row.length + k ∧ (wrs l s k).1.now.length = s.now.length
  | 0 => ⟨Int.le_refl _, by simp [wrs], by simp [wrs], rfl⟩
  | k + 1 => by
    have ih := wrs_same l s k
    rw [wrs]
    split
    · exact ⟨ih.1, by omega, by omega, ih.2.2.2⟩
    · have := write_same (wrs l s k).1 ((l.first + 2 + (l.sure / 512 + k) : Nat) : Int) (chunk l.tail (512 * k))
      exact ⟨by omega, by omega, by omega, by omega⟩
def nchunks (l : LS) : Nat := (l.tail.length + 511) / 512
/-- What isn't sure is written: the disk, the error. -/
def writesS (l : LS) (s : DS) : DS × Int := if (wrs l s (nchunks l)).2 ≠ 0 then wrs l s (nchunks l) else (wrs l s (nchunks l)).1.sync
def WritesPost (W : World) (p d : Nat) (v : Value) (l : LS) (s : DS) (w : World) (e : Ending) (w' : World) : Prop :=
  e = .returned (.int .i64 (writesS l s).2) ∧ ∃ M', Logd W w' p d v l M' (writesS l s).1 ∧ Far v w w'
set_option maxRecDepth 100000 in
set_option maxHeartbeats 1000000 in
theorem writes_any (h : Logd W w p d v l M s) (hfi : l.first ≤ 65536) (hsu : l.sure ≤ 33553408) (htl : l.tail.length ≤ 33553408) (hr : Room s (nchunks l + 1)) :
    Calls Try.prog 32 #[.pointer (some ⟨p, 0, none⟩)] w (WritesPost W p d v l s w) := by
  have HH := Lib.hid h
  have c6 := h.lg.log.cell 6
  simp only [logCells, List.getElem?_cons_zero, List.getElem?_cons_succ] at c6
  obtain ⟨ao, cap, rfl, hcap, hfr⟩ := rowFront h.lg.tail
  obtain ⟨N, hN⟩ : ∃ N, nchunks l = N := ⟨_, rfl⟩
  have HN := Lib.hid hN
  rw [hN] at hr
  have HR := Lib.hid hr
  have hN1 : 512 * N ≤ l.tail.length + 511 ∧ l.tail.length ≤ 512 * N := by rw [← hN]; unfold nchunks; omega
  have hs5 : (l.sure : Int) / 512 = ((l.sure / 512 : Nat) : Int) := by omega
  obtain ⟨a0, ha0⟩ : ∃ a0, l.sure / 512 = a0 := ⟨_, rfl⟩
  have HA0 := Lib.hid ha0
  have ha0' : a0 ≤ 65534 := by omega
  rw [ha0] at hs5
  have HS5 := Lib.hid hs5
  clear h hr hN ha0 hs5
  go_enter Try.func32, Try.ntmps32
  go_wp2_with fail
  rw [HS5.out]
  go_loopg [3, 4] N (fun gk s3 s4 wr => ∃ (k : Nat) (M' : List Nat), gk = N - k ∧ k ≤ N ∧ s3 = .int .i64 ((a0 + k : Nat) : Int) ∧ s4 = .int .i64 ((512 * k : Nat) : Int) ∧ (wrs l s k).2 = 0 ∧ Logd W wr p d (.slice ao l.tail.length cap) l M' (wrs l s k).1 ∧ Far (.slice ao l.tail.length cap) w wr)
  case atStart => exact ⟨0, M, by omega, Nat.zero_le _, rfl, rfl, rfl, HH.out, Far.refl _ _⟩
  case round =>
    obtain ⟨k, Mk, hgk, hk, rfl, rfl, hw0, hL, hF⟩ := hrel
    have HGK := Lib.hid hgk
    have L := Lib.hid hL
    have FR := Lib.hid hF
    have SM := Lib.hid (wrs_same l s k)
    have HW0 := Lib.hid hw0
    clear hgk hL hF hw0
    obtain ⟨t, ht⟩ : ∃ t, l.tail.length = t := ⟨_, rfl⟩
    have HT := Lib.hid ht
    have c0 := L.out.lg.log.cell 0
    have c1 := L.out.lg.log.cell 1
    have c7 := L.out.lg.log.cell 7
    simp only [logCells, List.getElem?_cons_zero, List.getElem?_cons_succ] at c0 c1 c7
    rw [ht] at c7 hcap
    by_cases hlt : 512 * k < t
    · obtain ⟨f, hf⟩ : ∃ f, 512 * k = f := ⟨_, rfl⟩
      have HFK := Lib.hid hf
      rw [hf] at hlt ⊢
      have hf0 : (0 : Int) ≤ f := by omega
      have hf1 : (f : Int) < t := by omega
      have hf2 : (f : Int) ≤ cap := by omega
      have hf3 : ¬ cap = f := by omega
      have hf5 : f ≤ t := by omega
      have hf4 : f ≤ 33553408 := by omega
      have hkN : k < N := by omega
      obtain ⟨g, o, rfl, hc⟩ : ∃ g o, ao = some ⟨g, o, none⟩ ∧ ∀ j, j < l.tail.length → wr.cell? ⟨g, o + j, none⟩ = some (.int .u8 (l.tail.getD j 0).toNat) := by
        obtain ⟨ao', cap', he, _, hc⟩ := rowFront L.out.lg.tail
        simp only [Value.slice.injEq, true_and] at he
        obtain ⟨rfl, rfl⟩ := he
        exact hc (by omega)
      have hcl : ∀ j u, (u8s ((l.tail.drop f).take 512))[j]? = some u → wr.cell? ((⟨g, o + f, none⟩ : Addr).add j) = some u := by
        intro j u hu
        have hj : j < ((l.tail.drop f).take 512).length := by
          rcases Nat.lt_or_ge j ((l.tail.drop f).take 512).length with h1 | h1
          · exact h1
          · rw [List.getElem?_eq_none (by rw [length_u8s]; exact h1)] at hu; cases hu
        rw [List.length_take, List.length_drop] at hj
        rw [add_plain, Nat.add_assoc, hc (f + j) (by omega), ← hu, u8s_get, List.getElem?_take, if_pos (by omega), List.getElem?_drop, List.getElem?_eq_getElem (by omega), List.getD_eq_getElem?_getD, List.getElem?_eq_getElem (by omega)]
        rfl
      have HC := Lib.hid hcl
      have T1 : Hid ((u8s ((l.tail.drop f).take 512)).length = Nat.min (t - f) 512) := by
        show _ = _
        rw [length_u8s, List.length_take, List.length_drop, HT.out]; exact Nat.min_comm _ _
      have T2 : Hid (0 + (u8s ((l.tail.drop f).take 512)).length ≤ (u8s zeros).length) := by
        show _ ≤ _
        rw [length_u8s, length_u8s, zeros_len, List.length_take]; omega
      have NBW : Hid (Blk (wr.alloc (.cells (u8s zeros).toArray 75)) wr.heap.size (u8s zeros) 75) := Blk.new _ _ _
      have hz := zero_arr
      clear hc hcl hf ht
      have OA : Hid (Only [] wr (wr.alloc (.cells (u8s zeros).toArray 75))) := (Only.refl _ _).alloc _
      have NB : Hid (∀ x ∈ Mk, x ≠ wr.heap.size) := fun x hx => by have := L.out.dk.lt x hx; omega
      have NSZ : Hid (wr.heap.size < (wr.alloc (.cells (u8s zeros).toArray 75)).heap.size) := NBW.out.lt
      clear c0 c1
      go_wp2_with fail
      clear c7
      generalize hwa : wr.alloc (.cells (u8s zeros).toArray 75) = wa at *
      clear hwa
      obtain ⟨nb, hnb⟩ : ∃ nb, wr.heap.size = nb := ⟨_, rfl⟩
      rw [hnb] at NBW NB NSZ ⊢
      have LA := Lib.hid (L.out.past OA.out)
      have c7 := LA.out.lg.log.cell 7
      simp only [logCells, List.getElem?_cons_zero, List.getElem?_cons_succ] at c7
      rw [HT.out] at c7
      have C7 := Lib.hid c7
      have HNB := Lib.hid hnb
      have HC2 : Hid (∀ j u, (u8s ((l.tail.drop f).take 512))[j]? = some u → wa.cell? ((⟨g, o + f, none⟩ : Addr).add j) = some u) := fun j u hu => OA.out.cell (HC.out j u hu) (by simp)
      clear hnb
      go_region_held3 (fun w' => w'.cell? ⟨p, 7, none⟩ = some (.slice (some ⟨g, o, none⟩) t cap)) (first | go_keep | exact hO3.cell (p := ⟨p, 7, none⟩) C7.out (by simp; exact fun h => by have := LA.out.lg.log.ne NBW.out (by decide) h; exact this)) ((refine step_copy_blk (by rfl) (.tmp 21) (.tmp 27) 34 34 (by rfl) 5 Try.underlying34 size_byte _ _ _ _ _ _ (by rfl) (by rfl) nb 0 (u8s zeros) 75 NBW.out.drew (u8s ((l.tail.drop f).take 512)) (by exact T1.out) (by exact fun _ => ⟨rfl, _, rfl, HC2.out⟩) (by exact T2.out) (u8s_oneCell _) ?_; intro w3 hb3 hO3))
      have O3 : Hid (Only [] wr w3) := (OA.out.drew).trans hO3 (fun x hx => .inr (by simp at hx; subst hx; rw [HNB.out]; exact Nat.le_refl _))
      have HB3 : Hid (Blk w3 nb (u8s (chunk l.tail f)) 75) := hb3.to (by rw [u8s_splice zeros _ (by rw [zeros_len]; exact List.length_take_le _ _)]; rfl)
      have L3 := Lib.hid (L.out.past O3.out)
      have F3 := Lib.hid (FR.out.trans (Far.past _ O3.out) (fun x hx => .inl hx))
      clear hb3 hO3
      have c0 := L3.out.lg.log.cell 0
      have c1 := L3.out.lg.log.cell 1
      simp only [logCells, List.getElem?_cons_zero, List.getElem?_cons_succ] at c0 c1
      have C01 := Lib.hid (And.intro c0 c1)
      have pM : Hid (p ∉ Mk) := fun hm => L3.out.dk.off (by decide) (by decide) (by decide) _ hm _ L3.out.lg.log
      obtain ⟨ai, hai⟩ : ∃ ai : Nat, l.first + 2 + (a0 + k) = ai := ⟨_, rfl⟩
      obtain ⟨q, hq⟩ : ∃ q : Nat, l.first + 2 = q := ⟨_, rfl⟩
      have f2 : IntKind.i64.wrap ((l.first : Int) + 2) = (q : Int) := by rw [IntKind.wrap_i64]; omega
      have f3 : IntKind.i64.wrap ((q : Int) + ((a0 : Int) + (k : Int))) = (ai : Int) := by rw [IntKind.wrap_i64]; omega
      obtain ⟨s1, r1, hw⟩ : ∃ s1 r1, (wrs l s k).1.write (ai : Int) (chunk l.tail f) = (s1, r1) := ⟨_, _, rfl⟩
      have HW := Lib.hid hw
      have HWN : Hid (wrs l s (k + 1) = (s1, r1)) := by
        show _ = _
        rw [wrs, if_neg (by simp [HW0.out]), HA0.out, hai, HFK.out, hw]
      clear hai hq hw
      go_wp2_with fail
      go_region_held3 (fun w' => w'.cell? ⟨p, 0, none⟩ = some (.pointer (some ⟨d, 0, none⟩)) ∧ w'.cell? ⟨p, 1, none⟩ = some (.int .i64 l.first)) (first | go_keep | exact hKEEP)
        ((go_at_call 38; refine ((L3.out.dk.past (Only.refl _ _).drew).write' HW.out (by have := SM.out; have := HR.out.c0; omega) (by have := SM.out; have := HR.out.c1; omega) (by have := SM.out; have := HR.out.r; omega) (Blk.bytes HB3.out.drew (chunk_len _ _).symm) (notIn rfl (fun hm => NB.out _ hm rfl))).mono ?_; rintro e w5 ⟨rfl, M5, hD5, hS5⟩; have hKEEP := And.intro (hS5.1.cell (p := ⟨p, 0, none⟩) C01.out.1 pM.out) (hS5.1.cell (p := ⟨p, 1, none⟩) C01.out.2 pM.out)))
      have L5 := Lib.hid ((L3.out.past ((Only.refl _ _).drew)).step hD5 hS5)
      have F5 := Lib.hid ((F3.out.trans (Far.past _ ((Only.refl _ _).drew)) (fun x hx => .inl hx)).trans (Far.step (L3.out.dk.past ((Only.refl _ _).drew)) hS5 _) (fun x hx => .inl hx))
      clear hD5 hS5 hKEEP c0 c1
      by_cases hr1 : r1 = 0
      · subst hr1
        go_wp2_with fail
        go_roundg (N - (k + 1))
        case measure => have := HGK.out; omega
        case rel => exact ⟨k + 1, M5, rfl, by omega, by go_num, by rw [← HFK.out]; go_num, by rw [HWN.out], by rw [HWN.out]; exact L5.out, F5.out⟩
      · have hb : (r1 != 0) = true := by simp [hr1]
        have hb2 : (r1 == 0) = false := by simp [hr1]
        have HWS : Hid (writesS l s = (s1, r1)) := by
          show _ = _
          have h1 := wrs_stays l s (k + 1) (by rw [HWN.out]; exact hr1) (N - (k + 1))
          rw [show k + 1 + (N - (k + 1)) = N by omega] at h1
          unfold writesS
          rw [HN.out, h1, HWN.out, if_pos hr1]
        go_wp2_with fail
        go_ret
        unfold WritesPost
        rw [HWS.out]
        exact ⟨rfl, M5, L5.out, F5.out⟩
    · have hf1 : ¬ ((512 * k : Nat) : Int) < t := by omega
      obtain rfl : k = N := by omega
      obtain ⟨s1, r1, hw⟩ : ∃ s1 r1, (wrs l s k).1.sync = (s1, r1) := ⟨_, _, rfl⟩
      have HW := Lib.hid hw
      have HWS : Hid (writesS l s = (s1, r1)) := by
        show _ = _
        unfold writesS
        rw [HN.out, if_neg (by simp [HW0.out]), hw]
      clear hw ht
      go_wp2_with fail
      refine (L.out.dk.sync' HW.out (by have := SM.out; have := HR.out.c0; omega) (by have := SM.out; have := HR.out.c1; omega) (by have := SM.out; have := HR.out.r; omega)).mono ?_
      rintro e w6 ⟨rfl, M6, hD6, hS6⟩
      have L6 := Lib.hid (L.out.step hD6 hS6)
      have F6 := Lib.hid (FR.out.trans (Far.step L.out.dk hS6 _) (fun x hx => .inl hx))
      clear hD6 hS6
      go_wp2_with fail
      go_ret
      unfold WritesPost
      rw [HWS.out]
      exact ⟨rfl, M6, L6.out, F6.out⟩
end Go.Proofs.Ytjbjikigiienkaa.W
