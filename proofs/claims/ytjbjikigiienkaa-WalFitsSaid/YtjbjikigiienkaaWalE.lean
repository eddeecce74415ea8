/-
  The program's log over a disk: bytes by its contract.
-/
import Derived.Test.YtjbjikigiienkaaWalD
namespace Go.Proofs.Ytjbjikigiienkaa.W
set_option linter.unusedSimpArgs false
open Go.RowKit Go.Proofs.Ytjbjikigiienkaa.D Go.Proofs.Ytjbjikigiienkaa.B
set_option linter.unusedVariables false
variable {W w w' w2 : World} {p d : Nat} {v v' : Value} {l l' : LS} {M M' : List Nat} {s s' : DS}

/-- The first elements of an owned row. -/
theorem owns_take {w : World} {e : TypeId} {g n c m : Nat} {xs : List Value} (h : w.ownsRow 0 e 1 (.slice (some ⟨g, 0, none⟩) n c) n xs) (hm : m ≤ n) : w.ownsRow 0 e 1 (.slice (some ⟨g, 0, none⟩) m c) m (xs.take m) := by
  have hl := h.1
  rcases h.2 with ⟨h0, _⟩ | ⟨g', cap, cur, hv, hb, hh, h3, h4, h5, h6⟩
  · cases h0
  · simp only [Value.slice.injEq, Option.some.injEq, Addr.mk.injEq, and_true, true_and] at hv
    obtain ⟨rfl, rfl⟩ := hv
    refine ⟨by rw [List.length_take]; omega, .inr ⟨g, c, cur, rfl, hb, hh, by omega, h4, h5, ?_⟩⟩
    rw [Nat.mul_one] at h6 ⊢
    rw [← h6, List.take_take, Nat.min_eq_left hm]

def BytesPost (l : LS) (s : DS) (n : Nat) (w : World) (e : Ending) (w' : World) : Prop :=
  if s.down = true ∧ 0 < n then e = .returned (.tuple #[.slice none 0 0, .int .i64 13]) ∧ Only [] w w'
  else ∃ v', e = .returned (.tuple #[v', .int .i64 0]) ∧ Own w w' v' (dataS l s n)
set_option maxRecDepth 100000 in
set_option maxHeartbeats 1000000 in
theorem bytes_ok (h : Logd W w p d v l M s) (hs : Sane l s) (n : Nat) (hn : n ≤ l.room) (hdn : s.down = false) :
    Calls Try.prog 24 #[.pointer (some ⟨p, 0, none⟩), .int .i64 n] w fun e w' => ∃ v', e = .returned (.tuple #[v', .int .i64 0]) ∧ Own w w' v' (dataS l s n) := by
  have HH := Lib.hid h
  have h2 := hs.two
  have hfit := hs.fit
  have hbig := hs.big
  have hn2 : n ≤ (l.size - 2) * 512 := hn
  have HDN := Lib.hid hdn
  have HSL := Lib.hid h.dk.secLen.1
  clear h hs hdn hn
  have f2 : IntKind.i64.wrap ((l.first : Int) + 2) = ((l.first + 2 : Nat) : Int) := by rw [IntKind.wrap_i64]; omega
  obtain ⟨q, hq⟩ : ∃ q : Nat, l.first + 2 = q := ⟨_, rfl⟩
  rw [hq] at f2
  have HQ := Lib.hid hq
  have hq' : q ≤ 16384 := by omega
  have hq'' : q + (l.size - 2) ≤ s.now.length := by omega
  clear hq
  go_enter Try.func24, Try.ntmps24
  go_wp2_with fail
  go_loopg [6, 7] (l.size - 2) (fun gk s6 i wr => ∃ k : Nat, gk = l.size - 2 - k ∧ k ≤ l.size - 2 ∧ i = .int .i64 k ∧ Grew w wr 5 1 (.slice none 0 0) s6 (512 * k) (u8s (cat l s k)) ∧ (k = 0 → s6 = .slice none 0 0))
  case atStart => exact ⟨0, by omega, Nat.zero_le _, rfl, Grew.refl ⟨rfl, .inl ⟨rfl, rfl⟩⟩, fun _ => rfl⟩
  case round =>
    obtain ⟨k, hgk, hk, rfl, hg, hz⟩ := hrel
    have HZ := Lib.hid hz
    clear hz
    have HGK := Lib.hid hgk
    have G := Lib.hid hg
    obtain ⟨a6, c6, rfl⟩ := hg.shape
    have O : Hid (Only [] w wr) := hg.only
    clear hgk hg
    have L := Lib.hid (HH.out.past O.out)
    have c0 := L.out.lg.log.cell 0
    have c1 := L.out.lg.log.cell 1
    simp only [logCells, List.getElem?_cons_zero, List.getElem?_cons_succ] at c0 c1
    by_cases hlt : 512 * k < n
    · have hlt2 : ((512 * k : Nat) : Int) < n := by omega
      have hkk : k < l.size - 2 := by omega
      obtain ⟨ai, hai⟩ : ∃ ai : Nat, q + k = ai := ⟨_, rfl⟩
      have e1 : IntKind.i64.wrap ((q : Int) + (k : Int)) = (ai : Int) := by rw [IntKind.wrap_i64]; omega
      have R : Hid (s.read (ai : Int) = (s.now.getD (l.first + 2 + k) [], 0)) := by
        show _ = _
        unfold DS.read
        rw [if_neg (by simp [HDN.out]), if_neg (by omega), Int.toNat_natCast, HQ.out, hai]
      have HB : Hid ((s.now.getD (l.first + 2 + k) []).length = 512) := HSL.out _ (by rw [HQ.out]; omega)
      have HC : Hid (cat l s (k + 1) = cat l s k ++ s.now.getD (l.first + 2 + k) []) := rfl
      generalize s.now.getD (l.first + 2 + k) [] = B at *
      have HR := Lib.hid (fun w' (hO : Only [] wr w') => (L.out.dk.past hO).read' R.out)
      clear hai
      go_wp2_with fail
      go_region_held3 (fun w' => w'.cell? ⟨p, 0, none⟩ = some (.pointer (some ⟨d, 0, none⟩)) ∧ w'.cell? ⟨p, 1, none⟩ = some (.int .i64 l.first)) (first | go_keep | exact hKEEP)
        ((go_at_call 36; refine (HR.out _ (Only.refl _ _).drew).mono ?_; rintro e w3 ⟨v3, rfl, hv3, hO3⟩; have hKEEP := And.intro (hO3.cell (p := ⟨p, 0, none⟩) c0 (by simp)) (hO3.cell (p := ⟨p, 1, none⟩) c1 (by simp))))
      obtain ⟨rfl, hb3⟩ : v3 = .slice (some ⟨wr.heap.size, 0, none⟩) 512 512 ∧ Blk w3 wr.heap.size (u8s B) 5 := by
        rcases hv3 with ⟨_, h⟩ | ⟨h, hb⟩
        · have := HB.out; rw [h] at this; cases this
        · rw [HB.out] at h; exact ⟨h, hb⟩
      have O3 : Hid (Only [] wr w3) := ((Only.refl _ _).drew).trans hO3 (by simp)
      have B3 := Lib.hid hb3
      have CL : Hid ((u8s B).length = 512 * 1) := by show _ = _; rw [length_u8s, HB.out]
      have OW : Hid (w3.ownsRow 0 5 1 (.slice a6 (512 * k) c6) (512 * k) (u8s (cat l s k))) := owns_past G.out.own O3.out
      clear hv3 hO3 hb3 hKEEP c0 c1
      go_wp2_with (refine wpList_grow rfl (.tmp 34) (.tmp 35) 34 rfl 5 Try.underlying34 (info_parts Go.Proofs.Ytjbjikigiienkaa.B.info_byte) rfl (by omega) (.slice a6 (512 * k) c6) (512 * k) (u8s (cat l s k)) rfl OW.out (some ⟨wr.heap.size, 0, none⟩) 512 512 rfl (u8s B) CL.out (fun _ => ⟨_, rfl, fun j u hu => B3.out.add_cell j u hu⟩) (u8s_oneCell _) (by omega) (by omega) ?_)
      intro v4 w4 hg4
      have G4 : Hid (Grew w w4 5 1 (.slice none 0 0) v4 (512 * (k + 1)) (u8s (cat l s (k + 1)))) := by
        refine (Grew.trans (G.out) ((hg4.pre O3.out).to (by omega) ?_))
        rw [HC.out, u8s_append]
      obtain ⟨a4, c4, rfl⟩ := G4.out.shape
      clear hg4
      go_wp2_with fail
      go_roundg (l.size - 2 - (k + 1))
      case measure => have := HGK.out; omega
      case rel => exact ⟨k + 1, rfl, by omega, by go_num, G4.out, fun h => by omega⟩
    · have hlt2 : ¬ ((512 * k : Nat) : Int) < n := by omega
      have HDS : Hid (dataS l s n = (cat l s k).take n) := by
        have hl := G.out.row
        have hcl : (cat l s k).length = 512 * k := by have := G.out.own.1; rw [length_u8s] at this; omega
        show dataS l s n = _
        unfold dataS
        rw [show l.size - 2 = k + (l.size - 2 - k) by omega]
        exact cat_take l s n k (by omega) _
      by_cases h0 : k = 0
      · subst h0
        obtain rfl : n = 0 := by omega
        have hz := HZ.out rfl
        simp only [Value.slice.injEq] at hz
        obtain ⟨rfl, _, rfl⟩ := hz
        have OWN : Hid (Own w wr (.slice none 0 0) (dataS l s 0)) := by
          refine ⟨?_, fun x hx => by simp [Value.ownBlock] at hx, O.out⟩
          rw [HDS.out]
          exact ⟨rfl, .inl ⟨rfl, rfl⟩⟩
        go_wp2_with fail
        go_ret2
        exact ⟨_, rfl, OWN.out⟩
      · obtain ⟨g6, rfl, hc6⟩ : ∃ g6, a6 = some ⟨g6, 0, none⟩ ∧ 512 * k ≤ c6 := by
          obtain ⟨g, c, he, hc⟩ := sliced G.out.row (by have := G.out.own.1; rw [length_u8s] at this; omega) (show 0 < 512 * k by omega)
          simp only [Value.slice.injEq, true_and] at he
          exact ⟨g, he.1, by omega⟩
        have hnc : (n : Int) ≤ c6 := by omega
        have OWN : Hid (Own w wr (.slice (some ⟨g6, 0, none⟩) n c6) (dataS l s n)) := by
          have h1 := owns_take G.out.own (show n ≤ 512 * k by omega)
          refine ⟨?_, fun x hx => ?_, O.out⟩
          · have hcl : (cat l s k).length = 512 * k := by have := G.out.own.1; rw [length_u8s] at this; omega
            unfold ByteRow
            rw [HDS.out, List.length_take, hcl, Nat.min_eq_left (by omega), u8s_take]
            exact h1
          · rcases G.out.lies x (by simpa [Value.ownBlock] using hx) with h | h
            · simp [Value.ownBlock] at h
            · exact h
        go_wp2_with fail
        go_ret2
        exact ⟨_, rfl, OWN.out⟩
end Go.Proofs.Ytjbjikigiienkaa.W
