/-
  The laws on pages: Spoil; copies of bytes: by contracts.
-/
import Derived.Test.YtdgnndcnpmlifaaRefG
import Derived.Test.YtdgnndcnpmlifaaLFills
namespace Go.Proofs.Ytdgnndcnpmlifaa.G
set_option linter.unusedSimpArgs false
open Go Go.RowKit Go.Proofs.Ytdgnndcnpmlifaa.B Go.Proofs.Ytdgnndcnpmlifaa.C
set_option linter.unusedVariables false
set_option maxRecDepth 100000 in
theorem spoil_any {w : World} {g n c : Nat} {cs : List Value} (h : Blk w g cs 5) (hn : n ≤ cs.length) (hl : n ≤ 1048576) :
    Calls Try.prog 48 #[.slice (some ⟨g, 0, none⟩) n c] w fun e w' => e = .returned (.tuple #[]) ∧ Only [g] w w' := by
  have HH := Lib.hid h
  have HN := Lib.hid hn
  clear h hn
  go_enter Try.func48, Try.ntmps48
  go_wp2_with fail
  go_loopg [2] n (fun gk i wr => ∃ (k : Nat) (cs' : List Value), gk = n - k ∧ k ≤ n ∧ i = .int .i64 k ∧ n ≤ cs'.length ∧ Blk wr g cs' 5 ∧ Only [g] w wr)
  case atStart => exact ⟨0, cs, by omega, Nat.zero_le _, rfl, HN.out, HH.out, Only.refl _ _⟩
  case round =>
    obtain ⟨k, cs', hgk, hk, rfl, hcl, hb, hO⟩ := hrel
    have HGK := Lib.hid hgk
    have HCL := Lib.hid hcl
    have HB := Lib.hid hb
    have HO := Lib.hid hO
    clear hgk hcl hb hO
    by_cases hlt : k < n
    · obtain ⟨oldv, cw⟩ := HB.out.at k (by have := HCL.out; omega)
      have fw := HB.out.frozen k
      have hk0 : (0 : Int) ≤ k := by omega
      have hk1 : (k : Int) < n := by omega
      go_wp2_with fail
      go_roundg (n - (k + 1))
      case measure => have := HGK.out; omega
      case rel => exact ⟨k + 1, cs'.set k (.int .u8 238), rfl, by omega, by go_num, by rw [List.length_set]; exact HCL.out, HB.out.set k _, HO.out.setCell (p := ⟨g, k, none⟩) (.inl (by simp)) _⟩
    · obtain rfl : k = n := by omega
      go_wp2_with fail
      go_end0
      exact ⟨rfl, HO.out⟩
theorem spoil_nil {w : World} (ao : Option Addr) (c : Nat) : Calls Try.prog 48 #[.slice ao 0 c] w fun e w' => e = .returned (.tuple #[]) ∧ w = w' := by
  go_enter Try.func48, Try.ntmps48
  go_wp2_with fail
  go_loopg [2] 0 (fun gk i wr => i = .int .i64 0 ∧ wr = w)
  case atStart => exact ⟨rfl, rfl⟩
  case round =>
    obtain ⟨rfl, rfl⟩ := hrel
    go_wp2_with fail
    go_end0
    exact ⟨rfl, rfl⟩
/-- Spoil, at a row of one's own. -/
theorem spoil_row {w : World} {v : Value} {l : List UInt8} (h : ByteRow 5 w v l) (hl : l.length ≤ 1048576) :
    Calls Try.prog 48 #[v] w fun e w' => e = .returned (.tuple #[]) ∧ Only v.ownBlock.toList w w' := by
  rcases h.2 with ⟨rfl, h0⟩ | ⟨g, cap, cur, rfl, _, hh, h3, _, h5, _⟩
  · refine (spoil_nil none 0).mono ?_
    rintro e w' ⟨he, rfl⟩
    exact ⟨he, Only.refl _ _⟩
  · have hb : Blk w g cur.toList 5 := by unfold Blk; rw [Array.toArray_toList]; exact hh
    have h6 : l.length ≤ cur.toList.length := by
      have e : cur.toList.length = cur.size := Array.length_toList
      rw [e, h5]; omega
    refine (spoil_any hb (n := l.length) h6 hl).mono ?_
    rintro e w' ⟨he, hO⟩
    exact ⟨he, by simpa [Value.ownBlock] using hO⟩
theorem row_c {w : World} {v : Value} {l : List UInt8} (h : ByteRow 5 w v l) : BytesC w v l := by
  refine ⟨h.at, fun ao n cap he => ?_⟩
  rcases h.2 with ⟨rfl, h0⟩ | ⟨g, cap', cur, rfl, _, hh, h3, _⟩
  · simp only [Value.slice.injEq] at he
    omega
  · simp only [Value.slice.injEq] at he
    omega
/-- Where bytes come from. -/
theorem bytes_src {w : World} {so : Option Addr} {m c : Nat} {l : List UInt8} (h : BytesAt w (.slice so m c) l) : l.length = m ∧ (0 < m → ∃ ad, so = some ad ∧ ∀ j u, (u8s l)[j]? = some u → w.cell? (ad.add j) = some u) := by
  obtain ⟨ao, cap, he, hc⟩ := h
  simp only [Value.slice.injEq] at he
  obtain ⟨rfl, rfl, rfl⟩ := he
  refine ⟨rfl, fun h0 => ?_⟩
  obtain ⟨b, o, rfl, hb⟩ := hc h0
  exact ⟨_, rfl, cells_src hb⟩
/-- What an append to nothing gives. -/
theorem grew_own {w w' : World} {v' : Value} {l : List UInt8} {m : Nat} (h : Grew w w' 5 1 (.slice none 0 0) v' (0 + m) ([] ++ u8s l)) (hl : l.length = m) : Own w w' v' l := by
  subst hl
  have h1 := h.own
  rw [Nat.zero_add, List.nil_append] at h1
  refine ⟨h1, fun k hk => ?_, by simpa [Value.ownBlock] using h.only⟩
  rcases h.lies k hk with h2 | h2
  · simp [Value.ownBlock] at h2
  · exact h2
theorem own_past {w w' w2 : World} {v : Value} {l : List UInt8} (h : Own w w' v l) (hO : Only [] w' w2) : Own w w2 v l :=
  ⟨owns_past h.1 hO, h.2.1, h.2.2.trans hO (by simp)⟩
theorem own_pre {w0 w w' : World} {v : Value} {l : List UInt8} (hO : Only [] w0 w) (h : Own w w' v l) : Own w0 w' v l :=
  ⟨h.1, fun k hk => Nat.le_trans hO.size (h.2.1 k hk), hO.trans h.2.2 (by simp)⟩
theorem own_c {w w' : World} {v : Value} {l : List UInt8} (h : Own w w' v l) : BytesC w' v l := row_c h.1
/-- Two copies, one made behind the other. -/
theorem two_rows {w w0 w1 w2 : World} {v1 v2 : Value} {l1 l2 : List UInt8} {m1 m2 : Nat} (hO : Only [] w w0) (h1 : Grew w0 w1 5 1 (.slice none 0 0) v1 (0 + m1) ([] ++ u8s l1)) (e1 : l1.length = m1)
    (h2 : Grew w1 w2 5 1 (.slice none 0 0) v2 (0 + m2) ([] ++ u8s l2)) (e2 : l2.length = m2) :
    Own w w2 v1 l1 ∧ Own w w2 v2 l2 ∧ (∀ k, v2.ownBlock = some k → v1.ownBlock ≠ some k) ∧ Only [] w0 w2 := by
  have o1 := grew_own h1 e1
  have o2 := grew_own h2 e2
  refine ⟨own_past (own_pre hO o1) o2.2.2, own_pre (hO.trans o1.2.2 (by simp)) o2, fun k hk hk1 => ?_, o1.2.2.trans o2.2.2 (by simp)⟩
  have := o2.2.1 k hk
  have := owns_lt o1.1 hk1
  omega
end Go.Proofs.Ytdgnndcnpmlifaa.G
