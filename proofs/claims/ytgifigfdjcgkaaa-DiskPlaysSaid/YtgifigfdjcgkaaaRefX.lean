/-
  The document's disk's calls, one contract each; two disks, the program's and the document's, side by side.
-/
import Derived.Test.YtgifigfdjcgkaaaRefE
namespace Go.Proofs.Ytgifigfdjcgkaaa.D
set_option linter.unusedSimpArgs false
open Go.RowKit
set_option linter.unusedVariables false
variable {w w' : World} {F G X M M' : List Nat} {d : Nat} {s : DS}

def Ref (w : World) (d : Nat) (F : List Nat) (s : DS) : Prop := s.sure.length = s.now.length ∧ ∃ sv nv rv sx nx rx, RefAt w d F s sv nv rv sx nx rx
def RStep (F G : List Nat) (w w' : World) : Prop := Only F w w' ∧ (∀ k ∈ G, k ∈ F ∨ w.heap.size ≤ k) ∧ Keeps 62 w w'
theorem Ref.later (h : Ref w d F s) (hO : Only X w w') (hX : ∀ k ∈ F, k ∉ X) : Ref w' d F s := by
  obtain ⟨e, sv, nv, rv, sx, nx, rx, h⟩ := h; exact ⟨e, sv, nv, rv, sx, nx, rx, h.later hO hX⟩
theorem Ref.past (h : Ref w d F s) (hO : Only [] w w') : Ref w' d F s := h.later hO (by simp)
theorem Ref.lt (h : Ref w d F s) : ∀ k ∈ F, k < w.heap.size := by
  obtain ⟨e, sv, nv, rv, sx, nx, rx, h⟩ := h; exact h.lt

/-- What holds of the countdowns and the count of a disk that a contract is asked of. -/
structure Fits (s : DS) : Prop where
  c0 : 0 ≤ s.count
  c1 : s.count ≤ 1000000
  f : s.fail ≤ 9223372036854775807
  h : s.halt ≤ 9223372036854775807
  r : s.row.length ≤ 1000000

theorem Ref.count (h : Ref w d F s) : Calls Try.prog 31 #[.pointer (some ⟨d, 0, none⟩)] w fun e w' => e = .returned (.int .i64 s.count) ∧ w = w' := by
  obtain ⟨e, sv, nv, rv, sx, nx, rx, h⟩ := h; exact rcount_any _ _ _ _ _ _ h.disk
theorem Ref.sectors (h : Ref w d F s) : Calls Try.prog 30 #[.pointer (some ⟨d, 0, none⟩)] w fun e w' => e = .returned (.int .i64 s.now.length) ∧ w = w' := by
  obtain ⟨e, sv, nv, rv, sx, nx, rx, h⟩ := h
  obtain ⟨ao, cap, e, _⟩ := owns_shape h.ownN
  exact rsectors_any _ _ _ _ _ _ _ h.disk ⟨ao, cap, e⟩
theorem Ref.pending (h : Ref w d F s) : Calls Try.prog 32 #[.pointer (some ⟨d, 0, none⟩)] w fun e w' => e = .returned (.int .i64 s.row.length) ∧ w = w' := by
  obtain ⟨e, sv, nv, rv, sx, nx, rx, h⟩ := h
  obtain ⟨ao, cap, e, _⟩ := owns_shape h.ownR
  exact rpending_any _ _ _ _ _ _ _ h.disk ⟨ao, cap, e⟩
theorem Ref.fail (h : Ref w d F s) (k : Int) : Calls Try.prog 26 #[.pointer (some ⟨d, 0, none⟩), .int .i64 k] w fun e w' => e = .returned (.tuple #[]) ∧ Ref w' d F { s with fail := max k 0 } ∧ RStep F F w w' := by
  obtain ⟨e, sv, nv, rv, sx, nx, rx, h⟩ := h
  refine (rfail_any _ _ _ _ _ k _ h.disk).mono ?_
  rintro e' w' ⟨rfl, hb, hO⟩
  exact ⟨rfl, ⟨e, sv, nv, rv, sx, nx, rx, h.cells hO hb rfl rfl rfl⟩, hO.mono (fun x hx => .inl (by simp at hx; subst hx; exact h.fd)), fun k hk => .inl hk, Keeps.one hO h.disk (by decide)⟩
theorem Ref.halt (h : Ref w d F s) (k : Int) : Calls Try.prog 27 #[.pointer (some ⟨d, 0, none⟩), .int .i64 k] w fun e w' => e = .returned (.tuple #[]) ∧ Ref w' d F { s with halt := max k (-1) } ∧ RStep F F w w' := by
  obtain ⟨e, sv, nv, rv, sx, nx, rx, h⟩ := h
  refine (rhalt_any _ _ _ _ _ k _ h.disk).mono ?_
  rintro e' w' ⟨rfl, hb, hO⟩
  exact ⟨rfl, ⟨e, sv, nv, rv, sx, nx, rx, h.cells hO hb rfl rfl rfl⟩, hO.mono (fun x hx => .inl (by simp at hx; subst hx; exact h.fd)), fun k hk => .inl hk, Keeps.one hO h.disk (by decide)⟩
theorem Ref.new {n : Nat} (h0 : 1 ≤ n) (h : n ≤ 65536) : Calls Try.prog 22 #[.int .i64 n] w fun e w' => ∃ d F, e = .returned (.tuple #[.pointer (some ⟨d, 0, none⟩), .int .i64 0]) ∧ Ref w' d F (DS.fresh n) ∧ RStep [] F w w' := by
  refine (rnew_ok n w h0 h).mono ?_
  rintro e w' ⟨d, F, sv, nv, sx, nx, rfl, hT, hO, hF⟩
  exact ⟨d, F, rfl, ⟨rfl, sv, nv, _, sx, nx, _, hT⟩, hO, fun k hk => .inr (hF k hk), Keeps.past hO⟩
theorem Ref.write (h : Ref w d F s) (hf : Fits s) (i : Int) {v : Value} {l : List UInt8} (hb : BytesAt w v l) (hbF : ∀ a n c, v = .slice (some a) n c → a.block ∉ F) :
    Calls Try.prog 23 #[.pointer (some ⟨d, 0, none⟩), .int .i64 i, v] w fun e w' => e = .returned (.int .i64 (s.rwrite i l).2) ∧ ∃ G, Ref w' d G (s.rwrite i l).1 ∧ RStep F G w w' := by
  obtain ⟨e, sv, nv, rv, sx, nx, rx, h⟩ := h
  by_cases hno : s.err ≠ 0 ∨ i < 0 ∨ (s.now.length : Int) ≤ i ∨ l.length ≠ 512
  · obtain ⟨ao, cap, rfl, _⟩ := hb
    obtain ⟨no, ncap, en, _⟩ := owns_shape h.ownN
    refine (rwrite_no h.disk ⟨no, ncap, en⟩ hf.c0 (by have := hf.c1; omega) hf.f hf.h h.few i ao l.length cap hno).mono ?_
    rintro e' w' ⟨rfl, hb, hO⟩
    have e1 : s.rwrite i l = (s.rchanged, if s.err ≠ 0 then s.err else if i < 0 ∨ (s.now.length : Int) ≤ i then 11 else 10) := by
      unfold DS.rwrite
      by_cases he : s.err ≠ 0
      · simp [he]
      · by_cases hi : i < 0 ∨ (s.now.length : Int) ≤ i
        · simp [he, hi]
        · have hl : l.length ≠ 512 := hno.elim (fun a => absurd a he) fun a => a.elim (fun a => absurd (.inl a) hi) fun a => a.elim (fun a => absurd (.inr a) hi) id
          simp [he, hi, hl]
    rw [e1]
    exact ⟨rfl, F, ⟨e, sv, nv, rv, sx, nx, rx, h.cells hO hb rfl rfl rfl⟩, hO.mono (fun x hx => .inl (by simp at hx; subst hx; exact h.fd)), fun k hk => .inl hk, Keeps.one hO h.disk (by decide)⟩
  · have he : s.err = 0 := Classical.byContradiction fun h => hno (.inl h)
    have hi0 : ¬ i < 0 := fun h => hno (.inr (.inl h))
    have hi1 : ¬ (s.now.length : Int) ≤ i := fun h => hno (.inr (.inr (.inl h)))
    have hl : l.length = 512 := Classical.byContradiction fun h => hno (.inr (.inr (.inr h)))
    obtain ⟨j, rfl⟩ := Int.eq_ofNat_of_zero_le (show 0 ≤ i by omega)
    obtain ⟨ao, cap, rfl, hc⟩ := hb
    obtain ⟨b, o, rfl, hcc⟩ := hc (by omega)
    have hw := rwrite_yes h hf.c0 (by have := hf.c1; omega) hf.f hf.h (by have := hf.r; omega) he j (by omega) b o cap l hl hcc (hbF ⟨b, o, none⟩ _ _ rfl)
    rw [hl]
    refine hw.mono ?_
    rintro e' w' ⟨rfl, G, rv', nx', rx', hT, hO, hG, hK⟩
    have e1 : s.rwrite j l = ({ s.rchanged with now := s.now.set j l, row := s.row ++ [(j, l)] }, 0) := by
      unfold DS.rwrite
      rw [if_neg (by simp [he]), if_neg (by omega), if_neg (by omega)]
      simp
    rw [e1]
    exact ⟨rfl, G, ⟨by simp [DS.rchanged, e], sv, nv, rv', sx, nx', rx', hT⟩, hO, hG, hK⟩
theorem Ref.sync (h : Ref w d F s) (hf : Fits s) :
    Calls Try.prog 25 #[.pointer (some ⟨d, 0, none⟩)] w fun e w' => e = .returned (.int .i64 s.rsync.2) ∧ Ref w' d F s.rsync.1 ∧ RStep F F w w' := by
  obtain ⟨e, sv, nv, rv, sx, nx, rx, h⟩ := h
  refine (rsync_any h e hf.c0 (by have := hf.c1; omega) hf.f hf.h (by have := hf.r; omega)).mono ?_
  rintro e' w' ⟨rfl, rv', sx', rx', hT, hO, hK⟩
  refine ⟨rfl, ⟨?_, sv, nv, rv', sx', nx, rx', hT⟩, hO, fun k hk => .inl hk, hK⟩
  unfold DS.rsync
  split
  · exact e
  · exact (settled_len s.rchanged s.rchanged.row.length).trans e
theorem Ref.read (h : Ref w d F s) (i : Int) :
    Calls Try.prog 29 #[.pointer (some ⟨d, 0, none⟩), .int .i64 i] w fun e w' => ∃ v, e = .returned (.tuple #[v, .int .i64 (s.read i).2]) ∧ BytesAt w' v (s.read i).1 ∧ Only [] w w' := by
  obtain ⟨_, sv, nv, rv, sx, nx, rx, h⟩ := h
  unfold DS.read
  by_cases hd : s.down = true
  · simp only [hd, if_true]
    refine (rread_down h.disk i hd).mono ?_
    rintro e w' ⟨rfl, rfl⟩
    exact ⟨_, rfl, ⟨none, 0, rfl, fun h => by simp at h⟩, Only.refl _ _⟩
  · have hd2 : s.down = false := by simpa using hd
    by_cases hi : i < 0 ∨ (s.now.length : Int) ≤ i
    · simp only [hd2, hi, if_true, Bool.false_eq_true, if_false]
      obtain ⟨no, ncap, en, _⟩ := owns_shape h.ownN
      refine (rread_place h.disk ⟨no, ncap, en⟩ i hd2 hi).mono ?_
      rintro e w' ⟨rfl, rfl⟩
      exact ⟨_, rfl, ⟨none, 0, rfl, fun h => by simp at h⟩, Only.refl _ _⟩
    · simp only [hd2, hi, Bool.false_eq_true, if_false]
      obtain ⟨j, rfl⟩ := Int.eq_ofNat_of_zero_le (show 0 ≤ i by omega)
      refine (rread_ok h j hd2 (by omega)).mono ?_
      rintro e w' ⟨cap, rfl, hb, hO⟩
      exact ⟨_, rfl, hb.at, hO⟩
theorem Ref.restart (h : Ref w d F s) (hf : Fits s) {kv : Value} {keep : List Int} (hk : IntsAt w kv keep) (hkF : 0 < keep.length → ∀ a n c, kv = .slice (some a) n c → a.block ∉ F) :
    Calls Try.prog 28 #[.pointer (some ⟨d, 0, none⟩), .agg #[kv]] w fun e w' => e = .returned (.tuple #[]) ∧ ∃ G, Ref w' d G (s.rrestart keep) ∧ RStep F G w w' := by
  obtain ⟨e, sv, nv, rv, sx, nx, rx, h⟩ := h
  refine (rrestart_any h e (by have := hf.r; omega) kv keep hk hkF).mono ?_
  rintro e' w' ⟨rfl, G, sx', nx', hT, hO, hG, hK⟩
  exact ⟨rfl, G, ⟨rfl, sv, nv, _, sx', nx', _, hT⟩, hO, hG, hK⟩

theorem Ref.write' (h : Ref w d F s) (hf : Fits s) {i : Int} {l : List UInt8} {s' : DS} {r : Int} (e : s.rwrite i l = (s', r)) {v : Value} (hb : BytesAt w v l) (hbF : ∀ a n c, v = .slice (some a) n c → a.block ∉ F) :
    Calls Try.prog 23 #[.pointer (some ⟨d, 0, none⟩), .int .i64 i, v] w fun e w' => e = .returned (.int .i64 r) ∧ ∃ G, Ref w' d G s' ∧ RStep F G w w' := by
  have := h.write hf i hb hbF
  rw [e] at this; exact this
theorem Ref.sync' (h : Ref w d F s) (hf : Fits s) {s' : DS} {r : Int} (e : s.rsync = (s', r)) :
    Calls Try.prog 25 #[.pointer (some ⟨d, 0, none⟩)] w fun e w' => e = .returned (.int .i64 r) ∧ Ref w' d F s' ∧ RStep F F w w' := by
  have := h.sync hf
  rw [e] at this; exact this
theorem Ref.read' (h : Ref w d F s) {i : Int} {l : List UInt8} {r : Int} (e : s.read i = (l, r)) :
    Calls Try.prog 29 #[.pointer (some ⟨d, 0, none⟩), .int .i64 i] w fun e w' => ∃ v, e = .returned (.tuple #[v, .int .i64 r]) ∧ BytesAt w' v l ∧ Only [] w w' := by
  have := h.read i
  rw [e] at this; exact this

/-! ### the program's disk beside it -/
theorem Sec.keeps {v : Value} {l : Sector} (h : Sec w v l) (hK : Keeps 62 w w') : Sec w' v l := by
  obtain ⟨h1, h2⟩ := h
  refine ⟨h1, ?_⟩
  rcases h2 with h2 | ⟨g, rfl, hb⟩
  · exact .inl h2
  · exact .inr ⟨g, rfl, hK g _ hb⟩
theorem Secs.keeps {vs : List Value} {ls : List Sector} (h : Secs w vs ls) (hK : Keeps 62 w w') : Secs w' vs ls := ⟨h.1, fun i hi => (h.2 i hi).keeps hK⟩
theorem Row.keeps {n : Nat} (hK : Keeps 62 w w') : ∀ {vs : List Value} {xs : List (Nat × Sector)}, Row w n vs xs → Row w' n vs xs
  | [], [], h => h
  | a :: p :: vs, x :: xs, h => by
    obtain ⟨h1, h2, ⟨g, rfl, hb, hl⟩, h4⟩ := h
    exact ⟨h1, h2, ⟨g, rfl, hK g _ hb, hl⟩, Row.keeps hK h4⟩
  | [], _ :: _, h => h.elim
  | [_], [], h => h.elim
  | [_], _ :: _, h => h.elim
  | _ :: _ :: _, [], h => h.elim
/-- The program's disk stays what it is, where none of its blocks and no sector is changed. -/
theorem Disk.keeps (h : Disk w d M s) (hO : Only X w w') (hK : Keeps 62 w w') (hM : ∀ k ∈ M, k ∉ X) : Disk w' d M s := by
  obtain ⟨N, S, rv, np, sp, rp, h⟩ := h
  exact ⟨N, S, rv, np, sp, rp, hO.blk h.disk (hM _ (by rw [h.foot]; simp)), hO.blk h.nowB (hM _ (by rw [h.foot]; simp)), hO.blk h.sureB (hM _ (by rw [h.foot]; simp)), h.ne, h.nowS.keeps hK, h.sureS.keeps hK, h.same, h.few, owns_later h.own hO (fun k hk => hM k (by rw [h.foot]; simp [hk])), h.row.keeps hK, h.foot⟩

/-- Two disks, the program's a at block d and the document's b at block e, both made since W. -/
structure Pair (W w : World) (d e : Nat) (a b : DS) (M F : List Nat) : Prop where
  a : Disk w d M a
  b : Ref w e F b
  off : ∀ x ∈ M, x ∉ F
  own : Only [] W w
  na : ∀ x ∈ M, W.heap.size ≤ x
  nb : ∀ x ∈ F, W.heap.size ≤ x
variable {W : World} {e : Nat} {a b a' b' : DS}
theorem Pair.past (h : Pair W w d e a b M F) (hO : Only [] w w') : Pair W w' d e a b M F := ⟨h.a.past hO, h.b.past hO, h.off, h.own.trans hO (by simp), h.na, h.nb⟩
theorem Pair.stepA (h : Pair W w d e a b M F) (hD : Disk w' d M' a') (hS : Step M M' w w') : Pair W w' d e a' b M' F where
  a := hD
  b := h.b.later hS.1 (fun k hk hm => h.off k hm hk)
  off := fun x hx hm => by
    rcases hS.2 x hx with h1 | h1
    · exact h.off x h1 hm
    · have := h.b.lt x hm; omega
  own := h.own.trans hS.1 (fun x hx => .inr (h.na x hx))
  na := fun x hx => by
    rcases hS.2 x hx with h1 | h1
    · exact h.na x h1
    · have := h.own.size; omega
  nb := h.nb
theorem Pair.stepB (h : Pair W w d e a b M F) (hD : Ref w' e G b') (hS : RStep F G w w') : Pair W w' d e a b' M G where
  a := h.a.keeps hS.1 hS.2.2 (fun k hk hm => h.off k hk hm)
  b := hD
  off := fun x hx hm => by
    rcases hS.2.1 x hm with h1 | h1
    · exact h.off x hx h1
    · have := h.a.lt x hx; omega
  own := h.own.trans hS.1 (fun x hx => .inr (h.nb x hx))
  na := h.na
  nb := fun x hx => by
    rcases hS.2.1 x hx with h1 | h1
    · exact h.nb x h1
    · have := h.own.size; omega
/-- A block of bytes that is neither's has changed. -/
theorem Pair.bytes (h : Pair W w d e a b M F) {g : Nat} {cs : List Value} (hb : Blk w g cs 5) (hO : Only [g] w w') (hg : W.heap.size ≤ g) (hM : g ∉ M) (hF : g ∉ F) : Pair W w' d e a b M F where
  a := h.a.keeps hO (Keeps.one hO hb (by decide)) (fun k hk hm => by simp at hm; subst hm; exact hM hk)
  b := h.b.later hO (fun k hk hm => by simp at hm; subst hm; exact hF hk)
  off := h.off
  own := h.own.trans hO (fun x hx => .inr (by simp at hx; subst hx; exact hg))
  na := h.na
  nb := h.nb
end Go.Proofs.Ytgifigfdjcgkaaa.D
