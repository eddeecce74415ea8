/-
  PageKeeps, walked: it answers true.
-/
import Derived.Test.YtdgnndcnpmlifaaLTurned
import Derived.Test.YtdgnndcnpmlifaaKeepsM
import Derived.Deep.CutBlock
import Derived.Test.YtdgnndcnpmlifaaGrow
namespace Go.Proofs.Ytdgnndcnpmlifaa.G
set_option linter.unusedSimpArgs false
open Go Go.RowKit Go.Proofs.Ytdgnndcnpmlifaa.B Go.Proofs.Ytdgnndcnpmlifaa.C
set_option linter.unusedVariables false
def strs (cs : List (List UInt8)) : List Value := cs.map fun c => .string ⟨c.toArray⟩
def bools (th : List Bool) : List Value := th.map Value.bool
theorem strs_get {cs : List (List UInt8)} {k : Nat} (h : k < cs.length) : (strs cs)[k]? = some (.string ⟨(cs.getD k []).toArray⟩) := by
  unfold strs
  rw [List.getElem?_map, List.getD_eq_getElem?_getD, List.getElem?_eq_getElem h]; rfl
theorem bools_get {th : List Bool} {k : Nat} (h : k < th.length) : (bools th)[k]? = some (.bool (th.getD k false)) := by
  unfold bools
  rw [List.getElem?_map, List.getD_eq_getElem?_getD, List.getElem?_eq_getElem h]; rfl
theorem strs_set (cs : List (List UInt8)) (k : Nat) (b : List UInt8) : (strs cs).set k (.string ⟨b.toArray⟩) = strs (cs.set k b) := by simp [strs, List.map_set]
theorem bools_set (th : List Bool) (k : Nat) (b : Bool) : (bools th).set k (.bool b) = bools (th.set k b) := by simp [bools, List.map_set]
/-- What the law holds: a page, and the cells that it should have. -/
structure Held (w wx : World) (vp vc vt : Value) (p : List UInt8) (cs : List (List UInt8)) (th : List Bool) : Prop where
  mine : Mine w wx vp p
  keep : Keep p cs th
  rc : wx.ownsRow 0 9 1 vc cs.length (strs cs)
  rt : wx.ownsRow 0 4 1 vt cs.length (bools th)
  nc : ∀ k, vc.ownBlock = some k → w.heap.size ≤ k
  nt : ∀ k, vt.ownBlock = some k → w.heap.size ≤ k
section
variable {w wx wy : World} {vp vc vt vq : Value} {p q : List UInt8} {cs cs' : List (List UInt8)} {th th' : List Bool}
theorem Held.past (h : Held w wx vp vc vt p cs th) (hO : Only [] wx wy) : Held w wy vp vc vt p cs th :=
  ⟨h.mine.past hO, h.keep, owns_past h.rc hO, owns_past h.rt hO, h.nc, h.nt⟩
/-- Another page. -/
theorem Held.page (h : Held w wx vp vc vt p cs th) (hm : Mine w wx vq q) (hk : Keep q cs th) : Held w wx vq vc vt q cs th := ⟨hm, hk, h.rc, h.rt, h.nc, h.nt⟩
theorem Held.only (h : Held w wx vp vc vt p cs th) : Only [] w wx := h.mine.only
/-- One string is another one now. -/
theorem Held.setC {g c : Nat} (h : Held w wx vp (.slice (some ⟨g, 0, none⟩) cs.length c) vt p cs th) (hm : Mine w wx vq q) {k : Nat} (hk : k < cs.length) {b : List UInt8} (hK : Keep q (cs.set k b) th) :
    Held w (wx.setCell ⟨g, k, none⟩ (.string ⟨b.toArray⟩)) vq (.slice (some ⟨g, 0, none⟩) cs.length c) vt q (cs.set k b) th := by
  have hg := h.nc g rfl
  obtain ⟨⟨gb, cb, rfl, hb, hgb⟩, hO⟩ := hm
  obtain ⟨cur, hcur, _⟩ := hb.blk
  have hne := owns_ne h.rc hcur (by decide)
  have hO1 : Only [g] wx (wx.setCell ⟨g, k, none⟩ (.string ⟨b.toArray⟩)) := only_set _ _ _ _
  refine ⟨⟨⟨gb, cb, rfl, hb.later hO1 (by simp; exact fun e => hne (by simp [Value.ownBlock, e])), hgb⟩, hO.setCell (.inr hg) _⟩, hK, ?_, ?_, h.nc, h.nt⟩
  · rw [← strs_set, List.length_set]; exact owns_set h.rc k hk _
  · rw [List.length_set]
    exact owns_off h.rt hO1 (by obtain ⟨c2, h2⟩ := owns_own h.rc (k := g) rfl; exact Off.one h2 (by decide))
theorem Held.setT {g c : Nat} (h : Held w wx vp vc (.slice (some ⟨g, 0, none⟩) cs.length c) p cs th) (hm : Mine w wx vq q) {k : Nat} (hk : k < cs.length) {b : Bool} (hK : Keep q cs (th.set k b)) :
    Held w (wx.setCell ⟨g, k, none⟩ (.bool b)) vq vc (.slice (some ⟨g, 0, none⟩) cs.length c) q cs (th.set k b) := by
  have hg := h.nt g rfl
  obtain ⟨⟨gb, cb, rfl, hb, hgb⟩, hO⟩ := hm
  obtain ⟨cur, hcur, _⟩ := hb.blk
  have hne := owns_ne h.rt hcur (by decide)
  have hO1 : Only [g] wx (wx.setCell ⟨g, k, none⟩ (.bool b)) := only_set _ _ _ _
  refine ⟨⟨⟨gb, cb, rfl, hb.later hO1 (by simp; exact fun e => hne (by simp [Value.ownBlock, e])), hgb⟩, hO.setCell (.inr hg) _⟩, hK, ?_, ?_, h.nc, h.nt⟩
  · exact owns_off h.rc hO1 (by obtain ⟨c2, h2⟩ := owns_own h.rt (k := g) rfl; exact Off.one h2 (by decide))
  · rw [← bools_set]; exact owns_set h.rt k hk _
end
section
variable {w wx wy : World} {vp vc vt vq : Value} {p q : List UInt8} {cs cs' : List (List UInt8)} {th th' : List Bool}
theorem Held.setBoth {g c g2 c2 : Nat} (h : Held w wx vp (.slice (some ⟨g, 0, none⟩) cs.length c) (.slice (some ⟨g2, 0, none⟩) cs.length c2) p cs th) (hm : Mine w wx vq q) {k : Nat} (hk : k < cs.length) {b : List UInt8} {z : Bool} (hK : Keep q (cs.set k b) (th.set k z)) :
    Held w ((wx.setCell ⟨g, k, none⟩ (.string ⟨b.toArray⟩)).setCell ⟨g2, k, none⟩ (.bool z)) vq (.slice (some ⟨g, 0, none⟩) cs.length c) (.slice (some ⟨g2, 0, none⟩) cs.length c2) q (cs.set k b) (th.set k z) := by
  have hg := h.nc g rfl
  have hg2 := h.nt g2 rfl
  obtain ⟨⟨gb, cb, rfl, hb, hgb⟩, hO⟩ := hm
  obtain ⟨cur, hcur, _⟩ := hb.blk
  obtain ⟨u1, hu1⟩ := owns_own h.rc (k := g) rfl
  obtain ⟨u2, hu2⟩ := owns_own h.rt (k := g2) rfl
  have n1 : gb ≠ g := hcur.ne hu1 (by decide)
  have n2 : gb ≠ g2 := hcur.ne hu2 (by decide)
  have hO1 : Only [g, g2] wx ((wx.setCell ⟨g, k, none⟩ (.string ⟨b.toArray⟩)).setCell ⟨g2, k, none⟩ (.bool z)) := ((Only.refl _ _).setCell (.inl (by simp)) _).setCell (.inl (by simp)) _
  have hA : Only [g] wx (wx.setCell ⟨g, k, none⟩ (.string ⟨b.toArray⟩)) := only_set _ _ _ _
  have hB : Only [g2] (wx.setCell ⟨g, k, none⟩ (.string ⟨b.toArray⟩)) ((wx.setCell ⟨g, k, none⟩ (.string ⟨b.toArray⟩)).setCell ⟨g2, k, none⟩ (.bool z)) := only_set _ _ _ _
  have rt1 := owns_off h.rt hA (Off.one hu1 (by decide))
  have rc1 := owns_set h.rc k hk (.string ⟨b.toArray⟩)
  obtain ⟨u3, hu3⟩ := owns_own rt1 (k := g2) rfl
  refine ⟨⟨⟨gb, cb, rfl, hb.later hO1 (by simp; exact ⟨n1, n2⟩), hgb⟩, (hO.setCell (.inr hg) _).setCell (.inr hg2) _⟩, hK, ?_, ?_, h.nc, h.nt⟩
  · rw [← strs_set, List.length_set]; exact owns_off rc1 hB (Off.one hu3 (by decide))
  · rw [← bools_set, List.length_set]; exact owns_set rt1 k hk _
theorem info_string : (Try.prog.info? 9).map (fun i => (i.zero, i.size, i.bytes)) = some (some (.string ⟨#[]⟩), 1, 16) := by kernel_rfl
theorem info_bool : (Try.prog.info? 4).map (fun i => (i.zero, i.size, i.bytes)) = some (some (.bool false), 1, 1) := by kernel_rfl
theorem Keep.grow (h : Keep p cs th) (hl : cs.length < 125) : Keep p (cs ++ [[]]) (th ++ [false]) := by
  have hlen := h.len
  refine ⟨h.pg, by simp [hlen], fun k => ?_, by simp; omega⟩
  rw [h.ct]
  by_cases hlt : k < cs.length
  · rw [List.getD_eq_getElem?_getD (l := cs ++ [[]]), List.getElem?_append_left hlt, ← List.getD_eq_getElem?_getD, List.getD_eq_getElem?_getD (l := th ++ [false]), List.getElem?_append_left (by omega), ← List.getD_eq_getElem?_getD]
    by_cases hx : th.getD k false = true
    · rw [if_pos ⟨hlt, hx⟩, if_pos ⟨by simp; omega, hx⟩]
    · rw [if_neg (fun y => hx y.2), if_neg (fun y => hx y.2)]
  · rw [if_neg (fun y => hlt y.1), if_neg]
    rintro ⟨h1, h2⟩
    have : k = cs.length := by simp at h1; omega
    subst this
    rw [List.getD_eq_getElem?_getD, List.getElem?_append_right (by omega), hlen, Nat.sub_self] at h2
    simp at h2
/-- What both rows' growing leaves as it was. -/
theorem grow_far {w1 w2 : World} {vc' vt' : Value} {n : Nat} {xs ys : List Value} {m m2 : Nat} (rc : wx.ownsRow 0 9 1 vc n xs) (rt : wx.ownsRow 0 4 1 vt n ys) {xs' ys' : List Value}
    (h1 : Grew wx w1 9 1 vc vc' m xs') (h2 : Grew w1 w2 4 1 vt vt' m2 ys') {b : Nat} {l : List Value} {t : TypeId} (hb : Blk wx b l t) (n1 : t ≠ 9) (n2 : t ≠ 4) : Blk w2 b l t := by
  have hb1 : Blk w1 b l t := h1.only.blk hb (fun hx => owns_foot rc n1 b hx l hb)
  have rt1 : w1.ownsRow 0 4 1 vt n ys := owns_off rt h1.only (owns_foot rc (by decide))
  exact h2.only.blk hb1 (fun hx => owns_foot rt1 n2 b hx l hb1)
theorem Mine.grow {w1 w2 : World} {vc' vt' : Value} {n : Nat} {xs ys : List Value} {m m2 : Nat} (h : Mine w wx vq q) (rc : wx.ownsRow 0 9 1 vc n xs) (rt : wx.ownsRow 0 4 1 vt n ys) (nc : ∀ k, vc.ownBlock = some k → w.heap.size ≤ k) (nt : ∀ k, vt.ownBlock = some k → w.heap.size ≤ k) {xs' ys' : List Value}
    (h1 : Grew wx w1 9 1 vc vc' m xs') (h2 : Grew w1 w2 4 1 vt vt' m2 ys') : Mine w w2 vq q := by
  obtain ⟨⟨gb, cb, rfl, hb, hgb⟩, hO⟩ := h
  obtain ⟨cur, hcur, _⟩ := hb.blk
  have hb1 : Buf w1 gb cb q := hb.later h1.only (fun hx => owns_foot rc (by decide) gb hx cur hcur)
  obtain ⟨cur1, hcur1, _⟩ := hb1.blk
  have rt1 : w1.ownsRow 0 4 1 vt n ys := owns_off rt h1.only (owns_foot rc (by decide))
  have hb2 : Buf w2 gb cb q := hb1.later h2.only (fun hx => owns_foot rt1 (by decide) gb hx cur1 hcur1)
  exact .mk' hb2 hgb ((hO.trans h1.only (fun x hx => .inr (nc x (by simpa using hx)))).trans h2.only (fun x hx => .inr (nt x (by simpa using hx))))
/-- Both rows have grown by one. -/
theorem Held.grow {w1 w2 : World} {vc' vt' : Value} (h : Held w wx vp vc vt p cs th) (hl : cs.length < 125)
    (h1 : Grew wx w1 9 1 vc vc' (cs.length + 1) (strs cs ++ [.string ⟨#[]⟩])) (h2 : Grew w1 w2 4 1 vt vt' (cs.length + 1) (bools th ++ [.bool false])) :
    Held w w2 vp vc' vt' p (cs ++ [[]]) (th ++ [false]) := by
  have hm := h.mine.grow h.rc h.rt h.nc h.nt h1 h2
  have rt1 : w1.ownsRow 0 4 1 vt cs.length (bools th) := owns_off h.rt h1.only (owns_foot h.rc (by decide))
  have hO := h.only
  have hO1 : Only [] w w1 := hO.trans h1.only (fun x hx => .inr (h.nc x (by simpa using hx)))
  refine ⟨hm, h.keep.grow hl, ?_, ?_, fun k hk => ?_, fun k hk => ?_⟩
  · have := owns_off h1.own h2.only (owns_foot rt1 (by decide))
    have e : strs cs ++ [.string ⟨#[]⟩] = strs (cs ++ [[]]) := by simp [strs]
    rw [e] at this
    rw [List.length_append]; exact this
  · have := h2.own
    have e : bools th ++ [.bool false] = bools (th ++ [false]) := by simp [bools]
    rw [e] at this
    rw [List.length_append]; exact this
  · rcases h1.lies k hk with h3 | h3
    · exact h.nc k h3
    · exact Nat.le_trans hO.size h3
  · rcases h2.lies k hk with h3 | h3
    · exact h.nt k h3
    · exact Nat.le_trans hO1.size h3
end
set_option maxRecDepth 100000 in
theorem keeps_few {w : World} {v : Value} {l : List StepD} (hl : StepsAt w v l) (hf : fewB l = false) :
    Calls Try.prog 5 #[v] w fun e w' => e = .returned (.bool true) ∧ Below w.heap.size w w' := by
  have FW0 : ∀ w1, Only [] w w1 → Calls Try.prog 15 #[v] w1 fun e w' => e = .returned (.bool (fewB l)) ∧ w1 = w' := fun w1 hO => few_any (hl.past hO)
  rw [hf] at FW0
  have FW := Lib.hid FW0
  clear FW0 hf
  go_enter Try.func5, Try.ntmps5
  go_wp2_with (first
    | (go_at_call 8; refine (known_any w).mono ?_; rintro e w1 ⟨rfl, hO1⟩; have O1 := Lib.hid hO1; clear hO1)
    | (go_at_call 15; refine (FW.out _ O1.out).mono ?_; rintro e w3 ⟨rfl, rfl⟩))
  go_ret
  exact ⟨rfl, O1.out.below (Nat.le_refl _) (by simp)⟩
end Go.Proofs.Ytdgnndcnpmlifaa.G
