/-
  The program's pages: bytes in memory, whoever's they are; a page of one's own of which bytes are set.
-/
import Derived.Test.YtdgnndcnpmlifaaPageC
import Derived.Test.YtdgnndcnpmlifaaPageP
namespace Go.Proofs.Ytdgnndcnpmlifaa.G
set_option linter.unusedSimpArgs false
open Go Go.RowKit Go.Proofs.Ytdgnndcnpmlifaa.B Go.Proofs.Ytdgnndcnpmlifaa.C
set_option linter.unusedVariables false
theorem bytes_past {w w' : World} {v : Value} {l : List UInt8} (h : BytesAt w v l) (hO : Only [] w w') : BytesAt w' v l := by
  obtain ⟨ao, cap, rfl, hc⟩ := h
  refine ⟨ao, cap, rfl, fun h0 => ?_⟩
  obtain ⟨b, o, rfl, hb⟩ := hc h0
  exact ⟨b, o, rfl, fun j hj => hO.cell (hb j hj) (by simp)⟩
/-- Bytes that may be cut: their capacity is no smaller than their length. -/
def BytesC (w : World) (v : Value) (l : List UInt8) : Prop := BytesAt w v l ∧ ∀ ao n cap, v = .slice ao n cap → n ≤ cap
theorem BytesC.past {w w' : World} {v : Value} {l : List UInt8} (h : BytesC w v l) (hO : Only [] w w') : BytesC w' v l := ⟨bytes_past h.1 hO, h.2⟩
theorem Buf.c {w : World} {gb c : Nat} {p : List UInt8} (h : Buf w gb c p) : BytesC w (.slice (some ⟨gb, 0, none⟩) 512 c) p := ⟨h.at, fun ao n cap he => by
  simp only [Value.slice.injEq] at he
  rw [← he.2.1, ← he.2.2]; exact h.cap⟩
/-- What Check tells. -/
noncomputable def errE (p : List UInt8) : Nat := if ok p = true then 0 else 40
theorem err_no {p : List UInt8} (h : ¬ Pg p) : errE p = 40 := by unfold errE; rw [if_neg (by rw [ok_iff]; exact h)]
theorem err_ok {p : List UInt8} (h : Pg p) : errE p = 0 := by unfold errE; rw [if_pos (ok_iff.2 h)]
theorem cells_lt {p : List UInt8} : ∀ x ∈ cells p, x.1 < 65536 ∧ x.2 < 65536 := fun x hx => by
  obtain ⟨i, _, rfl⟩ := of_mem_cells hx
  exact ⟨two_lt _ _, two_lt _ _⟩
/-- A page's bytes, wherever they lie. -/
structure PAt (w : World) (b o cap : Nat) (p : List UInt8) : Prop where
  len : p.length = 512
  cap : 512 ≤ cap
  cell : ∀ j, j < 512 → w.cell? ⟨b, o + j, none⟩ = some (.int .u8 (g p j))
theorem PAt.past {w w' : World} {b o cap : Nat} {p : List UInt8} (h : PAt w b o cap p) (hO : Only [] w w') : PAt w' b o cap p := ⟨h.len, h.cap, fun j hj => hO.cell (h.cell j hj) (by simp)⟩
theorem PAt.at {w : World} {b o cap : Nat} {p : List UInt8} (h : PAt w b o cap p) : BytesAt w (.slice (some ⟨b, o, none⟩) 512 cap) p :=
  ⟨some ⟨b, o, none⟩, cap, by rw [h.len], fun _ => ⟨b, o, rfl, fun j hj => h.cell j (by rw [← h.len]; exact hj)⟩⟩
theorem PAt.c {w : World} {b o cap : Nat} {p : List UInt8} (h : PAt w b o cap p) : BytesC w (.slice (some ⟨b, o, none⟩) 512 cap) p := ⟨h.at, fun ao n c he => by
  simp only [Value.slice.injEq] at he
  rw [← he.2.1, ← he.2.2]; exact h.cap⟩
theorem BytesC.page {w : World} {v : Value} {p : List UInt8} (h : BytesC w v p) (hl : p.length = 512) : ∃ b o cap, v = .slice (some ⟨b, o, none⟩) 512 cap ∧ PAt w b o cap p := by
  obtain ⟨⟨ao, cap, rfl, hc⟩, hcap⟩ := h
  obtain ⟨b, o, rfl, hb⟩ := hc (by omega)
  have := hcap _ _ _ rfl
  rw [hl] at hb this
  exact ⟨b, o, cap, by rw [hl], hl, this, hb⟩
theorem Buf.page {w : World} {gb c : Nat} {p : List UInt8} (h : Buf w gb c p) : PAt w gb 0 c p := ⟨h.1, h.cap, fun j hj => by rw [Nat.zero_add]; exact h.cell hj⟩
/-- A page of one's own whose block is written. -/
theorem Buf.remade {w w' : World} {gb c : Nat} {p q : List UInt8} (h : Buf w gb c p) {cur cur' : List Value} (hb : Blk w gb cur 5) (hb' : Blk w' gb cur' 5) (hl : cur'.length = cur.length) (ht : cur'.take 512 = u8s q) (hq : q.length = 512) : Buf w' gb c q := by
  obtain ⟨cur2, hb2, hl2, ht2, hle⟩ := owns_blk h.2
  obtain ⟨rfl, _⟩ := hb2.inj hb
  refine ⟨hq, ?_⟩
  refine ⟨by rw [length_u8s, hq], .inr ⟨gb, c, cur'.toArray, rfl, Nat.zero_le _, hb', hle, ?_, ?_, ?_⟩⟩
  · rcases h.2.2 with ⟨h0, _⟩ | ⟨_, _, _, hv, _, _, _, h4, _⟩
    · cases h0
    · simp only [Value.slice.injEq] at hv
      rw [hv.2.2]; exact h4
  · have := h.cap
    simp; omega
  · show cur'.take (512 * 1) = _
    rw [Nat.mul_one, ht]
theorem Buf.blk {w : World} {gb c : Nat} {p : List UInt8} (h : Buf w gb c p) : ∃ cur, Blk w gb cur 5 ∧ cur.length = c ∧ cur.take 512 = u8s p := by
  obtain ⟨cur, h1, h2, h3, _⟩ := owns_blk h.2
  rw [Nat.mul_one] at h2 h3
  exact ⟨cur, h1, h2, h3⟩
theorem Buf.set {w : World} {gb c : Nat} {p : List UInt8} (h : Buf w gb c p) {i : Nat} (hi : i < 512) (x : UInt8) : Buf (w.setCell ⟨gb, i, none⟩ (.int .u8 x.toNat)) gb c (p.set i x) := by
  obtain ⟨cur, hb, hl, ht⟩ := h.blk
  refine h.remade hb (hb.set i _) (by simp) ?_ (by simpa using h.1)
  rw [List.take_set, ht]
  simp [u8s, List.map_set]
theorem g_set {p : List UInt8} {i : Nat} (hi : i < p.length) (x : UInt8) (j : Nat) : g (p.set i x) j = if j = i then x.toNat else g p j := by
  unfold g
  rw [List.getD_eq_getElem?_getD, List.getElem?_set]
  by_cases h : j = i
  · subst h
    rw [if_pos rfl, if_pos rfl, if_pos hi]; rfl
  · rw [if_neg (fun e => h e.symm), if_neg h, List.getD_eq_getElem?_getD]
theorem put_sets {p : List UInt8} {a n : Nat} (h : a + 2 ≤ p.length) (hn : n < 65536) : put p a n = (p.set a (UInt8.ofNat (n % 256))).set (a + 1) (UInt8.ofNat (n / 256)) := by
  refine ext_g (by rw [put_len n h]; simp) fun i hi => ?_
  have e1 : (UInt8.ofNat (n % 256)).toNat = n % 256 := by simp
  have e2 : (UInt8.ofNat (n / 256)).toNat = n / 256 := by simp; omega
  rw [g_put h hn, g_set (by simp; omega), g_set (by omega), e1, e2]
  by_cases h1 : i = a
  · rw [if_pos h1, if_neg (by omega), if_pos h1]
  · rw [if_neg h1, if_neg h1]
end Go.Proofs.Ytdgnndcnpmlifaa.G
