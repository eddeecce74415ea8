/-
  Two disks side by side; no disk's blocks are of a type of bytes, of ints or of slices.
-/
import Derived.Test.YtgifigfdjcgkaaaSureM
import Derived.Test.YtgifigfdjcgkaaaPush
namespace Go.Proofs.Ytgifigfdjcgkaaa.D
set_option linter.unusedSimpArgs false
open Go.RowKit
set_option linter.unusedVariables false

theorem Disk.off {w d M s} (h : Disk w d M s) {e : TypeId} (h1 : 60 ≠ e) (h2 : 63 ≠ e) (h3 : 65 ≠ e) : Off e w M := by
  obtain ⟨N, S, rv, np, sp, rp, h⟩ := h
  intro k hk cs hb
  rw [h.foot] at hk
  simp only [List.cons_append, List.nil_append, List.mem_cons, Option.mem_toList] at hk
  rcases hk with rfl | rfl | rfl | hk
  · exact h.disk.ne hb h1 rfl
  · exact h.nowB.ne hb h2 rfl
  · exact h.sureB.ne hb h2 rfl
  · exact owns_ne h.own hb (Ne.symm h3) (by simpa using hk)

/-- Two disks, made by the caller, in blocks of their own. -/
structure Two (w1 w : World) (da db : Nat) (s t : DS) (Ma Mb : List Nat) : Prop where
  a : Disk w da Ma s
  b : Disk w db Mb t
  off : ∀ x ∈ Ma, x ∉ Mb
  own : Only [] w1 w
  na : ∀ x ∈ Ma, w1.heap.size ≤ x
  nb : ∀ x ∈ Mb, w1.heap.size ≤ x
variable {w1 w w' : World} {da db : Nat} {s t : DS} {Ma Mb : List Nat}
theorem Two.past (h : Two w1 w da db s t Ma Mb) (hO : Only [] w w') : Two w1 w' da db s t Ma Mb := ⟨h.a.past hO, h.b.past hO, h.off, h.own.trans hO (by simp), h.na, h.nb⟩
/-- Blocks of the caller's that are none of the disks' have changed. -/
theorem Two.far (h : Two w1 w da db s t Ma Mb) {X : List Nat} (hO : Only X w w') (hS : NoSec w X) (hX : ∀ x ∈ X, w1.heap.size ≤ x ∧ x ∉ Ma ∧ x ∉ Mb) : Two w1 w' da db s t Ma Mb :=
  ⟨h.a.later hO hS (fun k hk hm => (hX k hm).2.1 hk), h.b.later hO hS (fun k hk hm => (hX k hm).2.2 hk), h.off, h.own.trans hO (fun x hx => .inr (hX x hx).1), h.na, h.nb⟩
theorem Two.stepA (h : Two w1 w da db s t Ma Mb) {s' : DS} {M' : List Nat} (hD : Disk w' da M' s') (hS : Step Ma M' w w') : Two w1 w' da db s' t M' Mb where
  a := hD
  b := h.b.later hS.1 h.a.noSec (fun k hk hm => h.off k hm hk)
  off := fun x hx hm => by
    rcases hS.2 x hx with h1 | h1
    · exact h.off x h1 hm
    · have := h.b.lt x hm; omega
  own := h.own.trans hS.1 (fun x hx => .inr (h.na x hx))
  na := fun x hx => by
    rcases hS.2 x hx with h1 | h1
    · exact h.na x h1
    · have := h.own.size; omega
  nb := h.nb
theorem Two.stepB (h : Two w1 w da db s t Ma Mb) {t' : DS} {M' : List Nat} (hD : Disk w' db M' t') (hS : Step Mb M' w w') : Two w1 w' da db s t' Ma M' where
  a := h.a.later hS.1 h.b.noSec (fun k hk hm => h.off k hk hm)
  b := hD
  off := fun x hx hm => by
    rcases hS.2 x hm with h1 | h1
    · exact h.off x hx h1
    · have := h.a.lt x hx; omega
  own := h.own.trans hS.1 (fun x hx => .inr (h.nb x hx))
  na := h.na
  nb := fun x hx => by
    rcases hS.2 x hx with h1 | h1
    · exact h.nb x h1
    · have := h.own.size; omega
theorem info_bytes : (Try.prog.info? 22).map (fun i => (i.zero, i.size, i.bytes)) = some (some (.slice none 0 0), 1, 24) := by kernel_rfl
theorem info_int : (Try.prog.info? 3).map (fun i => (i.zero, i.size, i.bytes)) = some (some (.int .i64 0), 1, 8) := by kernel_rfl
/-- A row of the caller's own has grown or changed. -/
theorem Two.row (h : Two w1 w da db s t Ma Mb) {e : TypeId} {v : Value} {n : Nat} {vs : List Value} (hr : w.ownsRow 0 e 1 v n vs) (hx : ∀ x, v.ownBlock = some x → w1.heap.size ≤ x) (h1 : 60 ≠ e) (h2 : 63 ≠ e) (h3 : 65 ≠ e) (h4 : 62 ≠ e)
    (hO : Only v.ownBlock.toList w w') : Two w1 w' da db s t Ma Mb :=
  h.far hO (fun k hk cs hb => owns_ne hr hb h4 (by simpa using hk)) (fun x hm => by
    have hm' : v.ownBlock = some x := by simpa using hm
    obtain ⟨cs, hb⟩ := owns_own hr hm'
    exact ⟨hx x hm', fun h => (Disk.off ‹Two w1 w da db s t Ma Mb›.a h1 h2 h3) x h cs hb, fun h => (Disk.off ‹Two w1 w da db s t Ma Mb›.b h1 h2 h3) x h cs hb⟩)
/-- What a step on one of the disks changes isn't of the caller's types. -/
def Far (w w' : World) : Prop := ∃ X, Only X w w' ∧ Off 5 w X ∧ Off 22 w X ∧ Off 3 w X
theorem Far.rows {vs : List Value} {ls : List (List UInt8)} (hF : Far w w') (h : ByteRows 5 w vs ls) : ByteRows 5 w' vs ls := by
  obtain ⟨X, hO, h1, _⟩ := hF; exact h.off hO h1
theorem Far.slices {v : Value} {n : Nat} {vs : List Value} (hF : Far w w') (h : w.ownsRow 0 22 1 v n vs) : w'.ownsRow 0 22 1 v n vs := by
  obtain ⟨X, hO, _, h2, _⟩ := hF; exact owns_off h hO h2
theorem Far.ints {v : Value} {n : Nat} {vs : List Value} (hF : Far w w') (h : w.ownsRow 0 3 1 v n vs) : w'.ownsRow 0 3 1 v n vs := by
  obtain ⟨X, hO, _, _, h3⟩ := hF; exact owns_off h hO h3
theorem Far.blk {g : Nat} {l : List UInt8} (hF : Far w w') (h : Blk w g (u8s l) 5) : Blk w' g (u8s l) 5 := by
  obtain ⟨X, hO, h1, _⟩ := hF; exact hO.blk h (fun hm => h1 g hm _ h)
theorem Far.past (hO : Only [] w w') : Far w w' := ⟨[], hO, Off.nil _ _, Off.nil _ _, Off.nil _ _⟩
theorem Disk.far {d : Nat} {M M' : List Nat} (h : Disk w d M s) (hS : Step M M' w w') : Far w w' :=
  ⟨M, hS.1, h.off (by decide) (by decide) (by decide), h.off (by decide) (by decide) (by decide), h.off (by decide) (by decide) (by decide)⟩
/-- Two disks anew. -/
theorem Two.make {w2 : World} {M M' : List Nat} (hA : Disk w da M s) (hS : Step [] M w1 w) (hB : Disk w2 db M' t) (hS2 : Step [] M' w w2) : Two w1 w2 da db s t M M' where
  a := hA.past hS2.1
  b := hB
  off := fun x hx hm => by
    rcases hS2.2 x hm with h1 | h1
    · simp at h1
    · have := hA.lt x hx; omega
  own := hS.1.trans hS2.1 (by simp)
  na := fun x hx => by
    rcases hS.2 x hx with h1 | h1
    · simp at h1
    · exact h1
  nb := fun x hx => by
    rcases hS2.2 x hx with h1 | h1
    · simp at h1
    · have := hS.1.size; omega

/-- The three rows of DiskSure: what is wanted of the one disk, what of the other, how much of each write is kept. -/
structure Rows3 (w1 w : World) (n j gw cw gf cf : Nat) (va : Value) (ws fs : List Value) (W Fu : List Sector) : Prop where
  ow : w.ownsRow 0 22 1 (.slice (some ⟨gw, 0, none⟩) n cw) n ws
  ofl : w.ownsRow 0 22 1 (.slice (some ⟨gf, 0, none⟩) n cf) n fs
  wr : ByteRows 5 w ws W
  fr : ByteRows 5 w fs Fu
  oa : w.ownsRow 0 3 1 va j (List.replicate j (.int .i64 512))
  ne : gw ≠ gf
  ngw : w1.heap.size ≤ gw
  ngf : w1.heap.size ≤ gf
  na : ∀ x, va.ownBlock = some x → w1.heap.size ≤ x
variable {n j gw cw gf cf : Nat} {va : Value} {ws fs : List Value} {W Fu : List Sector}
theorem Rows3.far (h : Rows3 w1 w n j gw cw gf cf va ws fs W Fu) (hF : Far w w') : Rows3 w1 w' n j gw cw gf cf va ws fs W Fu :=
  ⟨hF.slices h.ow, hF.slices h.ofl, hF.rows h.wr, hF.rows h.fr, hF.ints h.oa, h.ne, h.ngw, h.ngf, h.na⟩
theorem Rows3.past (h : Rows3 w1 w n j gw cw gf cf va ws fs W Fu) (hO : Only [] w w') : Rows3 w1 w' n j gw cw gf cf va ws fs W Fu := h.far (Far.past hO)
theorem Off.one {e t : TypeId} {w : World} {g : Nat} {cs : List Value} (hb : Blk w g cs t) (hne : t ≠ e) : Off e w [g] := fun k hk cs' hb' => by
  simp only [List.mem_cons, List.not_mem_nil, or_false] at hk
  subst hk
  exact hb.ne hb' hne rfl
theorem only_set (w : World) (g i : Nat) (v : Value) : Only [g] w (w.setCell ⟨g, i, none⟩ v) := (Only.refl _ _).setCell (.inl (by simp)) _
theorem Rows3.setW (h : Rows3 w1 w n j gw cw gf cf va ws fs W Fu) (i : Nat) (hi : i < n) {v : Value} {l : Sector} (hv : ByteRow 5 w v l) : Rows3 w1 (w.setCell ⟨gw, i, none⟩ v) n j gw cw gf cf va (ws.set i v) fs (W.set i l) Fu := by
  obtain ⟨cur, hb, _⟩ := owns_blk h.ow
  have hO := only_set w gw i v
  have o1 : Off 5 w [gw] := Off.one hb (by decide)
  exact ⟨owns_set h.ow i hi v, owns_later h.ofl hO (fun k hk hm => by simp [Value.ownBlock] at hk hm; have := h.ne; omega), (h.wr.off hO o1).set i (hv.off hO o1), h.fr.off hO o1, owns_off h.oa hO (Off.one hb (by decide)), h.ne, h.ngw, h.ngf, h.na⟩
theorem Rows3.setF (h : Rows3 w1 w n j gw cw gf cf va ws fs W Fu) (i : Nat) (hi : i < n) {v : Value} {l : Sector} (hv : ByteRow 5 w v l) : Rows3 w1 (w.setCell ⟨gf, i, none⟩ v) n j gw cw gf cf va ws (fs.set i v) W (Fu.set i l) := by
  obtain ⟨cur, hb, _⟩ := owns_blk h.ofl
  have hO := only_set w gf i v
  have o1 : Off 5 w [gf] := Off.one hb (by decide)
  exact ⟨owns_later h.ow hO (fun k hk hm => by simp [Value.ownBlock] at hk hm; have := h.ne; omega), owns_set h.ofl i hi v, h.wr.off hO o1, (h.fr.off hO o1).set i (hv.off hO o1), owns_off h.oa hO (Off.one hb (by decide)), h.ne, h.ngw, h.ngf, h.na⟩
theorem Rows3.push (h : Rows3 w1 w n j gw cw gf cf va ws fs W Fu) {g cp : Nat} (hO : Only va.ownBlock.toList w w') (ha : w'.ownsRow 0 3 1 (.slice (some ⟨g, 0, none⟩) (j + 1) cp) (j + 1) (List.replicate j (.int .i64 512) ++ [.int .i64 512]))
    (hat : va.ownBlock = some g ∨ g = w.heap.size) (h0 : w1.heap.size ≤ w.heap.size) : Rows3 w1 w' n (j + 1) gw cw gf cf (.slice (some ⟨g, 0, none⟩) (j + 1) cp) ws fs W Fu :=
  ⟨owns_off h.ow hO (owns_foot h.oa (by decide)), owns_off h.ofl hO (owns_foot h.oa (by decide)), h.wr.off hO (owns_foot h.oa (by decide)), h.fr.off hO (owns_foot h.oa (by decide)), by rw [List.replicate_succ']; exact ha, h.ne, h.ngw, h.ngf, fun x hx => by
    simp only [Value.ownBlock, Option.some.injEq] at hx
    subst hx
    rcases hat with hat | rfl
    · exact h.na _ hat
    · exact h0⟩
/-- Where the i-th of a row of rows lies. -/
theorem rows_cell {g cap : Nat} {vs : List Value} {ls : List Sector} {i : Nat} (h : w.ownsRow 0 22 1 (.slice (some ⟨g, 0, none⟩) n cap) n vs) (hr : ByteRows 5 w vs ls) (hi : i < n) (hl : ls.length = n) (h5 : (ls.getD i []).length = 512) :
    ∃ gx cx, w.cell? ⟨g, i, none⟩ = some (.slice (some ⟨gx, 0, none⟩) 512 cx) ∧ w.frozen? ⟨g, i, none⟩ = false ∧ ByteRow 5 w (.slice (some ⟨gx, 0, none⟩) 512 cx) (ls.getD i []) ∧ BytesAt w (.slice (some ⟨gx, 0, none⟩) 512 cx) (ls.getD i []) := by
  obtain ⟨cur, hb, hl2, ht, hle⟩ := owns_blk h
  have hb2 := hr.2 i (by omega)
  have hvl : vs.length = n := by rw [hr.1]; exact hl
  have hc : w.cell? ⟨g, i, none⟩ = some (vs.getD i undef) := by
    rw [hb.cell, List.getD_eq_getElem?_getD, List.getElem?_eq_getElem (by omega : i < vs.length), Option.getD_some, ← List.getElem?_eq_getElem, ← ht, List.getElem?_take, if_pos (by omega)]
  have hsh := hb2.2
  rw [h5] at hsh
  rcases hsh with ⟨_, h0⟩ | ⟨gx, cx, cc, hv, _⟩
  · omega
  · rw [hv] at hb2 hc
    exact ⟨gx, cx, hc, hb.frozen i, hb2, hb2.at⟩
theorem Two.set (h : Two w1 w da db s t Ma Mb) {g n cap : Nat} {vs : List Value} (hr : w.ownsRow 0 22 1 (.slice (some ⟨g, 0, none⟩) n cap) n vs) (hx : w1.heap.size ≤ g) (i : Nat) (v : Value) : Two w1 (w.setCell ⟨g, i, none⟩ v) da db s t Ma Mb :=
  h.row hr (fun x hx' => by simp only [Value.ownBlock, Option.some.injEq] at hx'; omega) (by decide) (by decide) (by decide) (by decide) (only_set w g i v)
theorem at_mod (x : UInt8) (j : Nat) : (wrap64 (x.toNat : Int)).tmod (j : Int) = ((x.toNat % j : Nat) : Int) := by
  have h := x.toNat_lt
  rw [show wrap64 (x.toNat : Int) = (x.toNat : Int) by unfold wrap64; omega]
  rfl
theorem u8_next (x : UInt8) : ((x.toNat : Int) + 1) % 256 = ((x + 1).toNat : Int) := by
  rw [UInt8.toNat_add]
  have : (1 : UInt8).toNat = 1 := rfl
  omega
theorem _root_.Go.Proofs.Ytgifigfdjcgkaaa.IntsAt.past {w w' : World} {v : Value} {l : List Int} (h : IntsAt w v l) (hO : Only [] w w') : IntsAt w' v l := by
  obtain ⟨ao, cap, rfl, hc⟩ := h
  refine ⟨ao, cap, rfl, fun h0 => ?_⟩
  obtain ⟨b, o, rfl, hc2⟩ := hc h0
  exact ⟨b, o, rfl, fun j hj => hO.cell (hc2 j hj) (by simp)⟩
/-- Ints that were there lie in no block that was made since. -/
theorem ints_old {w : World} {v : Value} {l : List Int} (h : IntsAt w v l) (h0 : 0 < l.length) {M : List Nat} (hM : ∀ x ∈ M, w.heap.size ≤ x) : ∀ a n c, v = .slice (some a) n c → a.block ∉ M := by
  obtain ⟨ao, cap, rfl, hc⟩ := h
  obtain ⟨b, o, rfl, hc2⟩ := hc h0
  intro a n c hv hm
  simp only [Value.slice.injEq, Option.some.injEq] at hv
  rw [← hv.1] at hm
  have := cell_lt (hc2 0 h0)
  have := hM _ hm
  simp only at *
  omega
/-- A row of ints of the caller's own. -/
theorem ints_own {w : World} {v : Value} {l : List Int} (h : w.ownsRow 0 3 1 v l.length (l.map (Value.int .i64))) : IntsAt w v l := by
  rcases h.2 with ⟨rfl, h0⟩ | ⟨g, cap, cur, rfl, _, hh, h3, _, h5, h6⟩
  · exact ⟨none, 0, by rw [h0], fun h => by omega⟩
  · refine ⟨_, cap, rfl, fun _ => ⟨g, 0, rfl, fun j hj => ?_⟩⟩
    have hc := cell_of_row w g j cur 3 (0, 0) hh
    have hj2 : (l.map (Value.int .i64))[j]? = some (.int .i64 (l.getD j 0)) := by
      rw [List.getElem?_map, List.getElem?_eq_getElem hj, List.getD_eq_getElem?_getD, List.getElem?_eq_getElem hj]; rfl
    rw [← h6, List.getElem?_take, if_pos (by omega)] at hj2
    rw [Nat.zero_add, hc]
    simpa using hj2
theorem all_ints {w : World} {v : Value} {q : Nat} (h : w.ownsRow 0 3 1 v q (List.replicate q (.int .i64 512))) : IntsAt w v (List.replicate q 512) := ints_own (by simpa using h)
theorem ints_off {w : World} {v : Value} {q : Nat} {xs : List Value} (h : w.ownsRow 0 3 1 v q xs) {M : List Nat} (hM : Off 3 w M) : ∀ a n c, v = .slice (some a) n c → a.block ∉ M := by
  rintro a n c rfl hm
  rcases h.2 with ⟨h0, _⟩ | ⟨g, cap, cur, hv, _, hh, _⟩
  · cases h0
  · simp only [Value.slice.injEq, Option.some.injEq] at hv
    obtain ⟨rfl, _⟩ := hv
    exact hM g hm cur.toList (by unfold Blk; rw [Array.toArray_toList]; exact hh)
theorem Two.offB (h : Two w1 w da db s t Ma Mb) : Off 3 w Mb := h.b.off (by decide) (by decide) (by decide)
end Go.Proofs.Ytgifigfdjcgkaaa.D
