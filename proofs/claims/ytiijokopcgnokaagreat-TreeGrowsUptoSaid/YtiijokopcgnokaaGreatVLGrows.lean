import Derived.Test.YtiijokopcgnokaaGreatVTwN
import Derived.Test.YtiijokopcgnokaaGreatVGrA
import Derived.Test.YtiijokopcgnokaaGreatVGrD
set_option linter.unusedSimpArgs false
set_option linter.unusedVariables false
namespace Go.Proofs.YtiijokopcgnokaaGreat
namespace T
open Go Go.RowKit D B C G P H Tryz
structure EntR (w : World) (M : List Nat) (v : Value) (L : List KV) : Prop where
 row : RowOn w 43 2 v L.length (kvsC L)
 keys : ∀ q ∈ L, KeyOk w M q
 off : ∀ g, v.ownBlock = some g → g ∉ M
section
variable {w w' : World} {M M' : List Nat} {v v' : Value} {L : List KV}
theorem EntR.nil (w : World) (M : List Nat) : EntR w M (.slice none 0 0) [] := ⟨RowOn.nil _ _ _, fun q hq => (by cases hq), fun g hg => (by cases hg)⟩
theorem EntR.step (h : EntR w M v L) (hS : Step M M' w w') : EntR w' M' v L :=
 ⟨h.row.later hS.1 h.off, fun q hq => (h.keys q hq).step hS, fun g hg => P.Step.keep hS (h.row.lt hg) (h.off g hg)⟩
theorem EntR.past (h : EntR w M v L) (hO : Only [] w w') : EntR w' M v L := h.step ((Step.refl M w).then hO)
theorem EntR.over (h : EntR w M v L) {X : List Nat} (hO : Only (M ++ X) w w') (hX : ∀ g cs, Blk w g cs 5 → g ∉ X) (hv : ∀ g, v.ownBlock = some g → g ∉ X) (hm : ∀ x ∈ M', x ∈ M ∨ w.heap.size ≤ x) : EntR w' M' v L := by
 refine ⟨h.row.later hO (fun g hg hx => ?_), fun q hq => (h.keys q hq).over hO (fun g hg => ?_) hm, fun g hg hx => ?_⟩
 ·rcases Za.1 hx with h1 | h1
  ·exact h.off g hg h1
  ·exact hv g hg h1
 ·obtain ⟨_, cs, hb⟩ := (h.keys q hq).blk g hg
  exact hX g cs hb
 ·rcases hm g hx with h1 | h1
  ·exact h.off g hg h1
  ·have := h.row.lt hg; omega
theorem EntR.prs (h : EntR w M v L) : PrsAt w v L := by
 obtain ⟨ao, cap, h1, h2, h3⟩ := h.row.shape; refine ⟨⟨ao, cap, h1, h2, fun h0 => ?_⟩, fun p hp => (h.keys p hp).bytes⟩; obtain ⟨g, hg, hc⟩ := h3 h0; refine ⟨g, 0, hg, fun i p hp => ?_⟩; obtain ⟨c0, c1⟩ := Xfe hp; have hi := (Zi.1 hp).1; rw [Yb]; exact ⟨(hc _ (by omega)).trans c0, (hc _ (by omega)).trans c1⟩
theorem EntR.at_ (h : EntR w M v L) {i : Nat} {q : KV} (hq : L[i]? = some q) : ∃ g cap a k, v = .slice (some ⟨g, 0, none⟩) L.length cap ∧ w.cell? ⟨g, i * 2, none⟩ = some (.slice a q.2.1.length k) ∧ w.cell? ⟨g, i * 2 + 1, none⟩ = some (.int .u64 q.2.2) ∧ Xaf w (.slice a q.2.1.length k) q.2.1 := by
 obtain ⟨ao, cap, h1, h2, h3⟩ := h.row.shape; have hi := (Zi.1 hq).1; obtain ⟨g, rfl, hc⟩ := h3 (by omega); obtain ⟨c0, c1⟩ := Xfe hq; have hb := (h.keys q (Zl hq)).bytes; obtain ⟨a, k, he, _⟩ := id hb; rw [he] at c0 hb; exact ⟨g, cap, a, k, h1, (hc _ (by omega)).trans c0, (hc _ (by omega)).trans c1, hb⟩
end
theorem set_two (A : List Value) (y0 y1 a b : Value) (R : List Value) : ((A ++ y0 :: y1 :: R).set A.length a).set (A.length + 1) b = A ++ a :: b :: R := by
 rw [Vd _ _ (Zs _), We, qSz, Vd _ _ (by omega), show A.length + 1 - A.length = 0 + 1 by omega, qSs, qSz]
theorem ins_row {cur : List Value} {L : List KV} {n cap j off : Nat} {z0 z1 a : Value} {e : Pr} (hl : L.length = n) (hj : j ≤ n) (ht : cur.take ((n + 1) * 2) = kvsC L ++ [z0, z1]) (hcl : (n + 1) * 2 ≤ cur.length) (ho : off = if cap = j + 1 then 0 else (j + 1) * 2) (hcap : n + 1 ≤ cap) :
  (((splice cur off ((kvsC L).drop (j * 2))).set (j * 2) a).set (j * 2 + 1) (.int .u64 e.2)).take ((n + 1) * 2) = kvsC (L.take j ++ (a, e) :: L.drop j) := by
 have hX := Xcv L
 have hcur : cur = kvsC L ++ [z0, z1] ++ cur.drop ((n + 1) * 2) := by rw [← ht, Yd]
 generalize cur.drop ((n + 1) * 2) = R at hcur
 have hgoal : kvsC (L.take j ++ (a, e) :: L.drop j) = (kvsC L).take (j * 2) ++ a :: .int .u64 e.2 :: (kvsC L).drop (j * 2) := by
  rw [Xbj, Xeg]; show _ ++ (kvC (a, e) ++ kvsC (L.drop j)) = _; rw [Xfp]; rfl
 rw [hgoal]
 have hA : ((kvsC L).take (j * 2)).length = j * 2 := by rw [Zj]; omega
 have key : ∀ y0 y1, splice cur off ((kvsC L).drop (j * 2)) = (kvsC L).take (j * 2) ++ y0 :: y1 :: ((kvsC L).drop (j * 2) ++ R) → (((splice cur off ((kvsC L).drop (j * 2))).set (j * 2) a).set (j * 2 + 1) (.int .u64 e.2)).take ((n + 1) * 2) = (kvsC L).take (j * 2) ++ a :: .int .u64 e.2 :: (kvsC L).drop (j * 2) := fun y0 y1 h => by
  rw [h]; have h2 := set_two ((kvsC L).take (j * 2)) y0 y1 a (.int .u64 e.2) ((kvsC L).drop (j * 2) ++ R); rw [hA] at h2; rw [h2]
  have h3 : (kvsC L).take (j * 2) ++ a :: .int .u64 e.2 :: ((kvsC L).drop (j * 2) ++ R) = ((kvsC L).take (j * 2) ++ a :: .int .u64 e.2 :: (kvsC L).drop (j * 2)) ++ R := by simp
  rw [h3, Wy]
  simp only [Ze, Zw, Zj, Zx]; omega
 by_cases hc : cap = j + 1
 ·rw [if_pos hc] at ho
  have hjn : j = n := by omega
  subst ho; have hd : (kvsC L).drop (j * 2) = [] := List.drop_eq_nil_of_le (by omega); have htk : (kvsC L).take (j * 2) = kvsC L := Zz (by omega)
  refine key z0 z1 ?_
  rw [hd, htk]; simp only [splice, Wd, Yl, Xu, Vh, Xn]
  conv => lhs; rw [hcur]
  simp
 ·rw [if_neg hc] at ho
  subst ho
  have hlen2 : ((kvsC L).drop (j * 2)).length = (n - j) * 2 := by rw [Zx]; omega
  obtain ⟨y0, y1, hy⟩ : ∃ y0 y1, ((kvsC L).drop (j * 2) ++ [z0, z1]).take 2 = [y0, y1] := by
   cases hq : (kvsC L).drop (j * 2) with
   | nil => exact ⟨z0, z1, rfl⟩
   | cons p q =>
    cases q with
    | nil => rw [hq] at hlen2; simp at hlen2; omega
    | cons p2 q => exact ⟨p, p2, rfl⟩
  refine key y0 y1 ?_
  unfold splice
  have h1 : cur.take ((j + 1) * 2) = (kvsC L).take (j * 2) ++ [y0, y1] := by
   conv => lhs; rw [hcur]
   have h2 : kvsC L ++ [z0, z1] ++ R = (kvsC L).take (j * 2) ++ (((kvsC L).drop (j * 2) ++ [z0, z1]) ++ R) := by
    rw [← Zt, ← Zt, Yd]
   rw [h2, List.take_append, hA, show (j + 1) * 2 - j * 2 = 2 by omega, Zz (by rw [hA]; omega), Xk (by rw [Ze]; simp), hy]
  have h3 : cur.drop ((j + 1) * 2 + ((kvsC L).drop (j * 2)).length) = R := by
   rw [hlen2, show (j + 1) * 2 + (n - j) * 2 = (n + 1) * 2 by omega]
   conv => lhs; rw [hcur]
   rw [Wz]
   simp; omega
  rw [h1, h3]; simp
theorem del_kvs (L : List KV) (i : Nat) : (kvsC L).take (i * 2) ++ (kvsC L).drop ((i + 1) * 2) = kvsC (L.take i ++ L.drop (i + 1)) := by
 rw [Xbj, Xeg, Xfp]
end T
namespace T
open Go Go.RowKit D B C G P H Tryz
theorem make_bytesG (n : Nat) (h : n ≤ 1048576) : ∀ w : World, (Instr.makeSlice 22 (.int .i64 (n : Int)) (.int .i64 (n : Int))).run prog w =
  .ok (.slice (some ⟨w.heap.size, 0, none⟩) n n) (w.alloc (.cells (u8s (List.replicate n 0)).toArray 5)) := by
 intro w; obtain ⟨i, hi, hz0, hz1, hz2⟩ := info_parts B.info_byte; have hr := run_make (P := prog) w 22 5 i (.int .u8 0) underlying22 hi hz0 .i64 .i64 n n (by omega) (by omega) (by rw [hz2]; omega) (by omega)
 rw [hr]; simp only [Value.cells, hz1, Wj, Xcg, Int.toNat_natCast, Xdx]
def keyG (s k : Nat) : List UInt8 := List.replicate s 0 ++ [UInt8.ofNat (k / 256), UInt8.ofNat (k % 256)]
theorem Xit (s k : Nat) : (keyG s k).length = s + 2 := by simp [keyG]
theorem keyG_cells {s k : Nat} (hk : k < 65536) : (((u8s (List.replicate (s + 2) 0)).set s (.int .u8 ((k / 256 : Nat) : Int))).set (s + 1) (.int .u8 ((k % 256 : Nat) : Int))) = u8s (keyG s k) := by
 have h1 : u8s (List.replicate (s + 2) 0) = u8s (List.replicate s 0) ++ .int .u8 0 :: .int .u8 0 :: [] := by
  rw [← List.replicate_append_replicate, Xdi]; rfl
 have h2 := set_two (u8s (List.replicate s 0)) (.int .u8 0) (.int .u8 0) (.int .u8 ((k / 256 : Nat) : Int)) (.int .u8 ((k % 256 : Nat) : Int)) []; rw [Xae, Wb] at h2; rw [h1, h2]; unfold keyG; rw [Xdi]
 have e1 : (UInt8.ofNat (k / 256)).toNat = k / 256 := by rw [UInt8.toNat_ofNat']; omega
 have e2 : (UInt8.ofNat (k % 256)).toNat = k % 256 := by rw [UInt8.toNat_ofNat']; omega
 simp [u8s, e1, e2]
theorem coprime_509 : ∀ d, d < 120 → 0 < d → Nat.gcd 509 d = 1 := by decide
def numG (step i : Nat) : Nat := (i + 1) * step % 509
theorem numG_ne {step i j : Nat} (h1 : 1 ≤ step) (h2 : step ≤ 500) (hij : i < j) (hj : j < 120) : numG step i ≠ numG step j := fun e => by
 unfold numG at e
 have hd : 509 ∣ (j - i) * step := by
  have h3 : (i + 1) * step + (j - i) * step = (j + 1) * step := by rw [← Nat.add_mul]; congr 1; omega
  have h4 : ((j + 1) * step - (i + 1) * step) % 509 = 0 := Nat.sub_mod_eq_zero_of_mod_eq e.symm; rw [← h3, Nat.add_sub_cancel_left] at h4; exact Nat.dvd_of_mod_eq_zero h4
 have h5 : 509 ∣ step := Nat.Coprime.dvd_of_dvd_mul_left (k := 509) (m := j - i) (coprime_509 (j - i) (by omega) (by omega)) hd; have := Nat.le_of_dvd (by omega) h5; omega
theorem mul_small {a b : Nat} (ha : a ≤ 120) (hb : b ≤ 500) : a * b ≤ 60000 := Zp (Wu ha hb) (by decide)
theorem Xhj {n i : Nat} {E : List Pr} (hq : ∀ e ∈ E, e.1.length = n) (hn : n ≤ 252) (hi : E.length ≤ i) : mostP E ≤ 4 + i * 252 / 100 + i / 4 := by
 have h1 := most_same hq; have h2 : E.length * n / 100 ≤ i * 252 / 100 := Nat.div_le_div_right (Wu hi hn); have h3 : E.length / 4 ≤ i / 4 := Nat.div_le_div_right hi; omega
structure GrJ (w wr : World) (n p tb : Nat) (M : List Nat) (u : List Bool) (pg : Nat → List UInt8) (k : Nat) (v : Value) (L : List KV) : Prop where
 one : OneQ (fun e => e.1.length = n) wr p tb 500 M u pg k (L.map (·.2))
 ent : EntR wr M v L
 step : Step [] M w wr
 new : ∀ g, v.ownBlock = some g → w.heap.size ≤ g
 keys : ∀ e ∈ L.map (·.2), e.1.length = n
section
variable {w wr w' : World} {n p tb k : Nat} {M M' : List Nat} {u u' : List Bool} {pg pg' : Nat → List UInt8} {v v' : Value} {L L' : List KV}
theorem GrJ.past (h : GrJ w wr n p tb M u pg k v L) (hO : Only [] wr w') : GrJ w w' n p tb M u pg k v L := ⟨h.one.past hO, h.ent.past hO, h.step.then hO, h.new, h.keys⟩
theorem GrJ.more (h : GrJ w wr n p tb M u pg k v L) {k' : Nat} (hk : k ≤ k') : GrJ w wr n p tb M u pg k' v L := ⟨h.one.more hk, h.ent, h.step, h.new, h.keys⟩
theorem GrJ.at_ (h : GrJ w wr n p tb M u pg k v L) {q : KV} {j : Nat} {b : Bool} (hq : Xaf wr q.1 q.2.1) (hl : L.length ≤ 1000000) (hj : low (L.map (·.2)) q.2 = j) (hb : has (L.map (·.2)) q.2 = b) :
  Calls prog 19 #[v, .agg #[q.1, .int .u64 q.2.2]] wr fun e w' => e = .returned (.tuple #[.int .i64 (j : Nat), .bool b]) ∧ Only [] wr w' := at_any h.ent.prs hq h.one.up hl hj hb
theorem Xoy {X : List Nat} (hX : ∀ x ∈ X, ∃ cs, Blk wr x cs 43) : NoSec wr X ∧ Off 5 wr X := by
 refine ⟨fun x hx cs hb => ?_, fun x hx cs hb => ?_⟩ <;> (obtain ⟨cs2, hb2⟩ := hX x hx; exact absurd (hb.inj hb2).2 (by decide))
theorem GrJ.pages (h : GrJ w wr n p tb M u pg k v L) {m : Nat} (hn : n ≤ 252) (hl : L.length ≤ 120) (hm : mostP (L.map (·.2)) ≤ m) (hm1 : m ≤ 1000) (hk : k + 8 * m ≤ 900000) :
  Calls prog 20 #[.pointer (some ⟨p, 0, none⟩), .pointer (some ⟨tb, 0, none⟩), v] wr fun e w' => ∃ M', e = .returned (.bool true) ∧ GrJ w w' n p tb M' u pg (k + 2 * m) v L := by
 obtain ⟨H, T, hT⟩ := h.one.tree; obtain ⟨h1, h2, h3, h4, h5⟩ := id hT
 have hle : lenE (L.map (·.2)) ≤ 100000000 := by
  rw [Xju h.keys, Zm]; have : L.length * n ≤ 120 * 252 := Wu hl hn; omega
 refine (Xlj h.one.pool h.one.at_ h.one.off h1 (by omega) (by rw [h2, Zm]; omega) h.ent.prs h.ent.off (by omega) hle h3 (by omega)).mono ?_
 rintro e w' ⟨M', rfl, hP, hS⟩; exact ⟨M', rfl, (h.one.step hP hS).more (by omega), h.ent.step hS, h.step.trans hS, h.new, h.keys⟩
end
theorem OneQ.pagesNil {Q : Pr → Prop} {w : World} {p tb N k : Nat} {M : List Nat} {u : List Bool} {pg : Nat → List UInt8} (h : OneQ Q w p tb N M u pg k []) (hk : k ≤ 900000) :
  Calls prog 20 #[.pointer (some ⟨p, 0, none⟩), .pointer (some ⟨tb, 0, none⟩), .slice none 0 0] w fun e w' => ∃ M', e = .returned (.bool true) ∧ OneQ Q w' p tb N M' u pg (k + 2) [] ∧ Step M M' w w' := by
 obtain ⟨H, T, hT⟩ := h.tree; obtain ⟨h1, h2, h3, h4, h5⟩ := id hT; have hm : mostP [] = 1 := rfl
 refine (Xlj (L := []) h.pool h.at_ h.off h1 (by omega) (by rw [h2]; simp) (EntR.nil w M).prs (fun g hg => by cases hg) (by simp) (by simp [lenE]) h3 (by omega)).mono ?_
 rintro e w' ⟨M', rfl, hP, hS⟩; exact ⟨M', rfl, (h.step hP hS).more (by omega), hS⟩
theorem OneQ.usedOne {Q : Pr → Prop} {w : World} {p tb N k : Nat} {M : List Nat} {u : List Bool} {pg : Nat → List UInt8} (h : OneQ Q w p tb N M u pg k []) :
  Calls prog 21 #[.pointer (some ⟨p, 0, none⟩)] w fun e w' => ∃ ao c, e = .returned (.slice ao 1 c) ∧ Only [] w w' := by
 obtain ⟨H, T, hT⟩ := h.tree; obtain ⟨h1, h2, h3, h4, h5⟩ := id hT; have hm : mostP [] = 1 := rfl
 have htop : T.top ∈ nodes H T := by simp [nodes]
 have hlen : (nodes H T).length = 1 := by have := List.length_pos_of_mem htop; omega
 obtain ⟨t, ht⟩ := List.length_eq_one_iff.1 hlen
 have hroot : u.getD 0 false = true := by
  obtain ⟨id, e, hu, _⟩ := h1.page _ htop
  have : T.top.id = ((0 : Nat) : Int) := by rw [Tr.top_id]; exact h1.top
  obtain rfl : id = 0 := by omega
  exact hu
 have hu1 : (usedN u).length = 1 := by
  have hall : ∀ j ∈ usedN u, j = 0 := fun j hj => by
   obtain ⟨n, hn, e⟩ := h5 j (Xkl.1 hj); rw [ht, Zn] at hn htop; rw [hn, ← htop] at e
   have : T.top.id = ((0 : Nat) : Int) := by rw [Tr.top_id]; exact h1.top
   omega
  have hnd : (usedN u).Nodup := List.Nodup.sublist List.filter_sublist List.nodup_range; have hin : 0 ∈ usedN u := Xkl.2 hroot
  cases hq : usedN u with
  | nil => rw [hq] at hin; cases hin
  | cons a l =>
   cases l with
   | nil => rfl
   | cons b l =>
    exfalso; rw [hq] at hall hnd; have e1 := hall a (by simp); have e2 := hall b (by simp); rw [e1, e2] at hnd; simp at hnd
 refine (PoolV.usedRow h.pool).mono ?_
 rintro e w' ⟨ao, c, rfl, _, hO⟩; exact ⟨ao, c, by rw [hu1], hO⟩
end T
namespace T
open Go Go.RowKit D B C G P H Tryz
theorem key_okG {w : World} {kb sz k : Nat} {M : List Nat} (hb : Blk w kb (u8s (keyG sz k)) 5) (hM : kb ∉ M) (hk : k < 65536) : KeyOk w M (.slice (some ⟨kb, 0, none⟩) (sz + 2) (sz + 2), (keyG sz k, k)) := by
 refine ⟨⟨_, _, by rw [Xit], fun _ => ⟨kb, 0, rfl, fun j hj => ?_⟩⟩, fun ao n c h => ?_, fun g hg => ?_, by show k < _; omega⟩
 ·have h0 : (u8s (keyG sz k))[j]? = some (.int .u8 ((keyG sz k).getD j 0).toNat) := by
   rw [Xcy, Zc hj, Zf, Zc hj]; rfl
  rw [Yb, hb.cell, h0]
 ·simp only [Value.slice.injEq] at h
  omega
 ·simp only [Value.ownBlock, Zv] at hg
  subst hg; exact ⟨hM, _, hb⟩
section
variable {w w1 w2 w3 : World} {M M' : List Nat} {v v' a : Value} {L : List KV} {e : Pr} {j n : Nat}
theorem ent_plan (hl : L.length = n) (hj : j ≤ n) (hG : GrewOn w1 w2 43 2 v v' (n + 1) (kvsC L ++ [.slice none 0 0, .int .u64 0])) :
  ∃ g cap cur off, v' = .slice (some ⟨g, 0, none⟩) (n + 1) cap ∧ n + 1 ≤ cap ∧ Blk w2 g cur 43 ∧ (if cap = j + 1 then some (⟨g, 0, none⟩ : Addr) else some ⟨g, (j + 1) * 2, none⟩) = some ⟨g, off, none⟩ ∧
   (∀ i u, ((kvsC L).drop (j * 2))[i]? = some u → w2.cell? ((⟨g, j * 2, none⟩ : Addr).add i) = some u) ∧ ((kvsC L).drop (j * 2)).length = (n - j) * 2 ∧ off + ((kvsC L).drop (j * 2)).length ≤ cur.length ∧ j * 2 + 1 < cur.length ∧
   (splice cur off ((kvsC L).drop (j * 2))).length = cur.length ∧
   ∀ (a : Value) (e : Pr) (w3 : World), Blk w3 g (((splice cur off ((kvsC L).drop (j * 2))).set (j * 2) a).set (j * 2 + 1) (.int .u64 e.2)) 43 → RowOn w3 43 2 v' (n + 1) (kvsC (L.take j ++ (a, e) :: L.drop j)) := by
 obtain ⟨hlen, ⟨rfl, h0⟩ | ⟨g, cap, cur, rfl, hb, hc, hs, ht⟩⟩ := hG.own
 ·omega
 have hX := Xcv L; obtain ⟨off, ho⟩ : ∃ off, (if cap = j + 1 then 0 else (j + 1) * 2) = off := ⟨_, rfl⟩
 have hd : ((kvsC L).drop (j * 2)).length = (n - j) * 2 := by rw [Zx]; omega
 have hof : off + ((kvsC L).drop (j * 2)).length ≤ cur.length := by
  rw [hd, ← ho]
  split <;> omega
 refine ⟨g, cap, cur, off, rfl, hc, hb, ?_, fun i u hu => ?_, hd, hof, by omega, I.splice_len hof, fun a e w3 hb3 => ?_⟩
 ·rw [← ho]; split <;> rfl
 ·rw [Xai, hb.cell]
  rw [Xe] at hu; have hi := (Zi.1 hu).1
  have h1 : (cur.take ((n + 1) * 2))[j * 2 + i]? = some u := by
   rw [ht, Xm hi, hu]
  rw [Yr] at h1; split at h1
  ·exact h1
  ·cases h1
 ·refine ⟨?_, .inr ⟨g, cap, _, rfl, hb3, hc, ?_, ins_row hl hj ht (by omega) ho.symm hc⟩⟩
  ·rw [Xcv, Ze, Zw, Zj, Zx]; omega
  ·rw [Xi, Xi, I.splice_len hof]; exact hs
theorem ins_snd (hj : low (L.map (·.2)) e = j) : (L.take j ++ (a, e) :: L.drop j).map (·.2) = insP (L.map (·.2)) e := by
 subst hj
 simp [insP, Xx, Wm]
theorem GrJ.rows {w wr w1 w3 : World} {n p tb k k' : Nat} {M M' : List Nat} {u u' : List Bool} {pg pg' : Nat → List UInt8} {v v' : Value} {L L' : List KV} (h : GrJ w wr n p tb M u pg k v L)
  (h1 : OneQ (fun e => e.1.length = n) w1 p tb 500 M' u' pg' k' (L'.map (·.2))) (hS : Step M M' wr w1) {G : List Nat} (hO13 : Only (v.ownBlock.toList ++ G) w1 w3) (hG : ∀ g ∈ G, v.ownBlock = some g ∨ w1.heap.size ≤ g)
  (hl : ∀ g, v'.ownBlock = some g → v.ownBlock = some g ∨ w1.heap.size ≤ g) (hk : ∀ y ∈ L', y ∈ L ∨ KeyOk w1 M' y ∧ y.2.1.length = n) (hrow : RowOn w3 43 2 v' L'.length (kvsC L')) : GrJ w w3 n p tb M' u' pg' k' v' L' := by
 have he := h.ent.step hS
 have hcv : ∀ x, v.ownBlock = some x → ∃ cs, Blk w1 x cs 43 := fun x hx => by
  rcases he.row.2 with ⟨rfl, _⟩ | ⟨g', cap, cur, rfl, hb, _⟩
  ·cases hx
  ·simp only [Value.ownBlock, Zv] at hx
   subst hx; exact ⟨_, hb⟩
 obtain ⟨hXO, hns, hoff, hgM, htM⟩ : ∃ X, Only X w1 w3 ∧ NoSec w1 X ∧ Off 5 w1 X ∧ (∀ x ∈ X, x ∉ M') ∧ tb ∉ X := by
  have hX : ∀ x ∈ v.ownBlock.toList, ∃ cs, Blk w1 x cs 43 := fun x hx => hcv x (by simpa using hx)
  refine ⟨v.ownBlock.toList, hO13.mono (fun x hx => ?_), (Xoy hX).1, (Xoy hX).2, fun x hx => he.off x (by simpa using hx), fun hm => ?_⟩
  ·rcases Za.1 hx with hx | hx
   ·exact .inl hx
   ·exact (hG x hx).imp (by simp) id
  ·obtain ⟨_, hb5⟩ := hX _ hm
   exact absurd (h1.at_.inj hb5).2 (by decide)
 refine ⟨h1.later hns hoff (fun x hx hx2 => htM.1 x hx2 hx) htM.2, ⟨hrow, fun y hy => ?_, fun g hg hm => ?_⟩, ⟨(h.step.trans hS).1.trans hO13 (fun x hx => .inr ?_), (h.step.trans hS).2⟩, fun g hg => ?_, fun y hy => ?_⟩
 ·refine KeyOk.later (w := w1) ?_ hns hgM
  exact (hk y hy).elim (he.keys y) (·.1)
 ·rcases hl g hg with h5 | h5
  ·exact he.off g h5 hm
  ·have := h1.pool.lt _ hm; omega
 ·rcases Za.1 hx with hx | hx
  ·exact h.new x (by simpa using hx)
  ·rcases hG x hx with h5 | h5
   ·exact h.new x h5
   ·have := h.step.1.size; have := hS.1.size; omega
 ·rcases hl g hg with h5 | h5
  ·exact h.new g h5
  ·have := h.step.1.size; have := hS.1.size; omega
 ·obtain ⟨q, hq, rfl⟩ := Zh.1 hy
  exact (hk q hq).elim (fun h5 => h.keys _ (Zh.2 ⟨q, h5, rfl⟩)) (·.2)
theorem GrJ.inserted {w wr w1 w2 w3 : World} {n p tb k k' : Nat} {M M' : List Nat} {u u' : List Bool} {pg pg' : Nat → List UInt8} {v v' : Value} {L : List KV} {q : KV} {j g : Nat} (h : GrJ w wr n p tb M u pg k v L)
  (h1 : OneQ (fun e => e.1.length = n) w1 p tb 500 M' u' pg' k' (insP (L.map (·.2)) q.2)) (hS : Step M M' wr w1) (hk : KeyOk w1 M' q) (hn : q.2.1.length = n)
  (hO : Only v.ownBlock.toList w1 w2) (hl : v.ownBlock = some g ∨ w1.heap.size ≤ g) (hO3 : Only [g] w2 w3) (hv : v'.ownBlock = some g)
  (hj : low (L.map (·.2)) q.2 = j) (hrow : RowOn w3 43 2 v' (L.length + 1) (kvsC (L.take j ++ q :: L.drop j))) : GrJ w w3 n p tb M' u' pg' k' v' (L.take j ++ q :: L.drop j) := by
 have hlen : (L.take j ++ q :: L.drop j).length = L.length + 1 := by
  have := Xeu (L.map (·.2)) q.2; rw [Zm, hj] at this
  rw [Ze, Zw, Zj, Zx]; omega
 refine h.rows (G := [g]) (by rw [ins_snd hj]; exact h1) hS ((hO.mono (fun x hx => .inl (by simp at hx; simp [hx]))).trans hO3 (fun x hx => .inl (by simp at hx; simp [hx]))) (fun x hx => by simp at hx; subst hx; exact hl) (fun x hx => by rw [hv] at hx; injection hx with hx; subst hx; exact hl) (fun y hy => ?_) (by rw [hlen]; exact hrow)
 rcases Za.1 hy with hy | hy
 ·exact .inl (Ym hy)
 ·rcases Zg.1 hy with rfl | hy
  ·exact .inr ⟨hk, hn⟩
  ·exact .inl (Yn hy)
theorem low_at {E : List Pr} {x : Pr} {i : Nat} (hE : Up E) (h : E[i]? = some x) : low E x = i ∧ has E x = true := by
 obtain ⟨hi, rfl⟩ := Zi.1 h; refine ⟨Xoi (by omega) (fun j hj => (Yu.1 hE) j i _ _ hj) (fun _ => lt_irrefl _), (Xjp hE).2 (Yy _)⟩
theorem del_snd {x : Pr} {i : Nat} (hE : Up (L.map (·.2))) (h : (L.map (·.2))[i]? = some x) : (L.take i ++ L.drop (i + 1)).map (·.2) = delP (L.map (·.2)) x := by
 unfold delP; rw [(low_at hE h).1, List.eraseIdx_eq_take_drop_succ, Zq, Xx, Wm]
theorem ent_cut {w : World} {v : Value} {L : List KV} {n i : Nat} (h : RowOn w 43 2 v n (kvsC L)) (hl : L.length = n) (hi : i < n) :
  ∃ g cap z, v = .slice (some ⟨g, 0, none⟩) n cap ∧ n ≤ cap ∧ (if cap = i + 1 then some (⟨g, 0, none⟩ : Addr) else some ⟨g, (i + 1) * 2, none⟩) = some ⟨g, z, none⟩ ∧ RowOn w 43 2 (.slice (some ⟨g, 0, none⟩) i i) i ((kvsC L).take (i * 2)) ∧
   ((kvsC L).drop ((i + 1) * 2)).length = (n - (i + 1)) * 2 ∧ (0 < n - (i + 1) → ∃ ad, some (⟨g, z, none⟩ : Addr) = some ad ∧ ∀ j u, ((kvsC L).drop ((i + 1) * 2))[j]? = some u → w.cell? (ad.add j) = some u) := by
 obtain ⟨ao, cap, hv, hc, hr⟩ := h.cut (k := i) (by omega); obtain ⟨ao2, cap2, hv2, hc2, hcell⟩ := h.shape; obtain ⟨g, rfl, hcl⟩ := hcell (by omega); rw [hv] at hv2
 injection hv2 with e1 e2 e3
 subst e1; obtain rfl : cap = cap2 := e3; have hX := Xcv L; obtain ⟨z, hz⟩ : ∃ z, (if cap = i + 1 then 0 else (i + 1) * 2) = z := ⟨_, rfl⟩; refine ⟨g, cap, z, hv, hc2, ?_, hr, by rw [Zx]; omega, fun h0 => ⟨_, rfl, fun j u hu => ?_⟩⟩
 ·rw [← hz]; split <;> rfl
 ·rw [if_neg (by omega)] at hz
  subst hz; rw [Xe] at hu; have := (Zi.1 hu).1; rw [Xai, hcl _ (by omega), hu]
def GrCur (E : List Pr) (m : Nat) (last : Pr) (begun : Bool) : Prop := (m = 0 ∧ begun = false ∧ last = ([], 0)) ∨ ∃ m', m = m' + 1 ∧ begun = true ∧ E[m']? = some last
theorem GrCur.next {E : List Pr} {m : Nat} {last : Pr} {begun : Bool} (hE : Up E) (h : GrCur E m last begun) : nextP E last begun = E[m]? := by
 rw [Xoo hE]; unfold curI
 rcases h with ⟨rfl, rfl, rfl⟩ | ⟨m', rfl, rfl, h⟩
 ·rw [Bool.and_false, if_neg (by simp), Xoi (i := 0) (Yc _) (fun j h => by omega) (fun h => ?_)]
  rw [lt_iff]; rintro (h1 | ⟨_, h1⟩)
  ·revert h1
   cases E[0].1 <;> simp [cmpB]
  ·exact Nat.not_lt_zero _ h1
 ·obtain ⟨h1, h2⟩ := low_at hE h
  rw [h2, h1]; rfl
theorem GrJ.over {w wr w' : World} {n p tb k k' cb : Nat} {M M' : List Nat} {u : List Bool} {pg : Nat → List UInt8} {v kv : Value} {L : List KV} {last : Pr} {begun : Bool} (h : GrJ w wr n p tb M u pg k v L) (hC : CurAt wr M cb tb kv last begun) (hc : w.heap.size ≤ cb)
  (h1 : OneQ (fun e => e.1.length = n) w' p tb 500 M' u pg k' (L.map (·.2))) (hO : Only (M ++ [cb]) wr w') (hm : ∀ x ∈ M', x ∈ M ∨ wr.heap.size ≤ x) : GrJ w w' n p tb M' u pg k' v L := by
 have hX : ∀ g cs, Blk wr g cs 5 → g ∉ [cb] := fun g cs hb hg => by
  simp at hg; subst hg
  exact absurd (hb.inj hC.blk).2 (by decide)
 refine ⟨h1, h.ent.over hO hX (fun g hg hg2 => ?_) hm, ⟨h.step.1.trans hO (fun y hy => ?_), fun y hy => ?_⟩, h.new, h.keys⟩
 ·simp at hg2; subst hg2
  exact absurd hg (h.ent.row.ne hC.blk (by decide))
 ·rcases Za.1 hy with h2 | h2
  ·exact h.step.2 y h2
  ·simp at h2; subst h2; exact .inr hc
 ·rcases hm y hy with h2 | h2
  ·exact h.step.2 y h2
  ·exact .inr (Zp h.step.1.size h2)
end
end T
namespace T
open Go Go.RowKit D B C G P H Tryz
set_option maxRecDepth 100000 in
set_option maxHeartbeats 4000000 in
theorem grows_law (n : Int) (hn : -9223372036854775808 ≤ n ∧ n ≤ 9223372036854775807) (st : Int) (hst : -9223372036854775808 ≤ st ∧ st ≤ 9223372036854775807) (ot : Int) (hot : -9223372036854775808 ≤ ot ∧ ot ≤ 9223372036854775807) (sz : Int) (hsz : -9223372036854775808 ≤ sz ∧ sz ≤ 9223372036854775807) (w : World) :
  Calls prog 5 #[.int .i64 n, .int .i64 st, .int .i64 ot, .int .i64 sz] w fun e w' => e = .returned (.bool true) ∧ Below w.heap.size w w' := by
 have KN := fun w => Th (knownT_any w)
 by_cases b1 : n < 1
 ·go_enter func5, ntmps5
  go_wp2_with (go_at_call 7; refine (KN _).out.mono ?_; rintro e w1 ⟨rfl, hO⟩; have O1 := Th hO; clear hO)
  go_ret; exact ⟨rfl, O1.out.below (Zs _) (by simp)⟩
 by_cases b2 : 120 < n
 ·go_enter func5, ntmps5
  go_wp2_with (go_at_call 7; refine (KN _).out.mono ?_; rintro e w1 ⟨rfl, hO⟩; have O1 := Th hO; clear hO)
  go_ret; exact ⟨rfl, O1.out.below (Zs _) (by simp)⟩
 by_cases b3 : st < 1
 ·go_enter func5, ntmps5
  go_wp2_with (go_at_call 7; refine (KN _).out.mono ?_; rintro e w1 ⟨rfl, hO⟩; have O1 := Th hO; clear hO)
  go_ret; exact ⟨rfl, O1.out.below (Zs _) (by simp)⟩
 by_cases b4 : 500 < st
 ·go_enter func5, ntmps5
  go_wp2_with (go_at_call 7; refine (KN _).out.mono ?_; rintro e w1 ⟨rfl, hO⟩; have O1 := Th hO; clear hO)
  go_ret; exact ⟨rfl, O1.out.below (Zs _) (by simp)⟩
 by_cases b5 : ot < 1
 ·go_enter func5, ntmps5
  go_wp2_with (go_at_call 7; refine (KN _).out.mono ?_; rintro e w1 ⟨rfl, hO⟩; have O1 := Th hO; clear hO)
  go_ret; exact ⟨rfl, O1.out.below (Zs _) (by simp)⟩
 by_cases b6 : 500 < ot
 ·go_enter func5, ntmps5
  go_wp2_with (go_at_call 7; refine (KN _).out.mono ?_; rintro e w1 ⟨rfl, hO⟩; have O1 := Th hO; clear hO)
  go_ret; exact ⟨rfl, O1.out.below (Zs _) (by simp)⟩
 by_cases b7 : sz < 0
 ·go_enter func5, ntmps5
  go_wp2_with (go_at_call 7; refine (KN _).out.mono ?_; rintro e w1 ⟨rfl, hO⟩; have O1 := Th hO; clear hO)
  go_ret; exact ⟨rfl, O1.out.below (Zs _) (by simp)⟩
 by_cases b8 : 250 < sz
 ·go_enter func5, ntmps5
  go_wp2_with (go_at_call 7; refine (KN _).out.mono ?_; rintro e w1 ⟨rfl, hO⟩; have O1 := Th hO; clear hO)
  go_ret; exact ⟨rfl, O1.out.below (Zs _) (by simp)⟩
 obtain ⟨n, rfl⟩ : ∃ m : Nat, n = m := ⟨n.toNat, by omega⟩; obtain ⟨st, rfl⟩ : ∃ m : Nat, st = m := ⟨st.toNat, by omega⟩; obtain ⟨ot, rfl⟩ : ∃ m : Nat, ot = m := ⟨ot.toNat, by omega⟩; obtain ⟨sz, rfl⟩ : ∃ m : Nat, sz = m := ⟨sz.toNat, by omega⟩
 have MD := fun w => Th (madeQ_any (fun e => e.1.length = sz + 2) w 500 (by omega) (by omega))
 have hmk := make_bytesG (sz + 2) (by omega); rw [show ((sz + 2 : Nat) : Int) = (sz : Int) + 2 from rfl] at hmk; generalize hz : (u8s (List.replicate (sz + 2) 0)).toArray = Z at hmk; have HZ := Th hz; clear hz
 go_enter func5, ntmps5
 go_upto_region 5 with (go_at_call 7; refine (KN _).out.mono ?_; rintro e w1 ⟨rfl, hO⟩; have O1 := Th hO; clear hO)
 go_upto_region 8 with (go_at_call 8; refine (MD _).out.mono ?_; rintro e w2 ⟨p, tb, M2, u2, pg2, rfl, hB, hl, hS⟩; have B2 := Th hB; have S2 := Th (Step.ahead O1.out hS); clear hB hl hS)
 have HN : Hid (1 ≤ n ∧ n ≤ 120 ∧ 1 ≤ st ∧ st ≤ 500 ∧ 1 ≤ ot ∧ ot ≤ 500 ∧ sz ≤ 250) := by
  show _ ∧ _; omega
 have J2 : Hid (GrJ w w2 (sz + 2) p tb M2 u2 pg2 4 (.slice none 0 0) []) := ⟨B2.out, EntR.nil _ _, S2.out, fun g hg => (by cases hg), fun e he => (by cases he)⟩; have IC := Xbr; clear b1 b2 b3 b4 b5 b6 b7 b8 hn hst hot hsz B2 S2 O1
 have hn1 : (n : Int) ≤ 120 := by have := HN.out; omega
 have hsz1 : (sz : Int) ≤ 250 := by have := HN.out; omega
 go_wp2_with fail
 go_loopg [12, 13, 14, 15, 16, 17, 18] n (fun gk s12 s13 s14 s15 s16 s17 s18 wr => ∃ (i : Nat) (M : List Nat) (u : List Bool) (pg : Nat → List UInt8) (L : List KV) (v : Value), gk = n - i ∧ i ≤ n ∧ s13 = .int .i64 i ∧ v = s12 ∧ GrJ w wr (sz + 2) p tb M u pg (4 + 3669 * i) v L ∧ L.length = i ∧ ∀ e ∈ L.map (·.2), ∃ i', i' < i ∧ e.2 = numG st i')
 case atStart => exact ⟨0, M2, u2, pg2, [], _, rfl, Yc _, rfl, rfl, J2.out, rfl, fun e he => (by cases he)⟩
 case round =>
  obtain ⟨i, M, u, pg, L, v, hgk, hi, rfl, rfl, hJ, hL, hE⟩ := hrel; have HGK := Th hgk; have J := Th hJ; have LL := Th hL; have HE := Th hE; clear hgk hJ hL hE J2
  by_cases hlt : i < n
  ·have hlt' : (i : Int) < n := by omega
   obtain ⟨k, hk⟩ : ∃ k, numG st i = k := ⟨_, rfl⟩; have HK := Th hk
   have hk5 : k < 509 := by rw [← hk]; exact Nat.mod_lt _ (by decide)
   have hst1 : (st : Int) ≤ 500 := by have := HN.out; omega
   have hms := mul_small (a := i + 1) (b := st) (by omega) (by have := HN.out; omega)
   have hr : (wrap64 (((i : Int) + 1) * (st : Int))).tmod 509 = (k : Int) := by
    have h1 : ((i : Int) + 1) * (st : Int) = (((i + 1) * st : Nat) : Int) := by push_cast; rfl
    rw [h1]
    have h2 : wrap64 (((i + 1) * st : Nat) : Int) = (((i + 1) * st : Nat) : Int) := by unfold wrap64; omega
    rw [h2, ← hk]; rfl
   clear hk
   go_upto_region 15 with fail
   obtain ⟨w3, hw3⟩ : ∃ w3, wr.alloc (.cells Z 5) = w3 := ⟨_, rfl⟩
   have O3 : Hid (Only [] wr w3) := by show Only _ _ _; rw [← hw3]; exact (Only.refl _ _).alloc _
   have BK : Hid (Blk w3 wr.heap.size (u8s (List.replicate (sz + 2) 0)) 5) := by show Blk _ _ _ _; rw [← hw3, ← HZ.out]; exact Blk.new _ _ _
   rw [hw3]; clear hw3 hr hms; obtain ⟨kb, hkb⟩ : ∃ kb, wr.heap.size = kb := ⟨_, rfl⟩; have KBN : Hid (wr.heap.size ≤ kb ∧ kb ∉ M ∧ w.heap.size ≤ kb) := ⟨by omega, fun hm => by have := J.out.one.pool.lt _ hm; omega, by have := J.out.step.1.size; omega⟩
   rw [hkb] at BK; rw [hkb]; clear hkb
   have z0 : w3.cell? ⟨kb, sz, none⟩ = some (.int .u8 0) := by
    rw [BK.out.cell, Xcy, Xv, if_pos (by omega)]; rfl
   have f0 := BK.out.frozen sz; have BK2 := BK.out.set sz (.int .u8 ((k : Int) / 256))
   have z1 : (w3.setCell ⟨kb, sz, none⟩ (.int .u8 ((k : Int) / 256))).cell? ⟨kb, sz + 1, none⟩ = some (.int .u8 0) := by
    rw [BK2.cell, Wx (by omega), Xcy, Xv, if_pos (by omega)]; rfl
   have f1 := BK2.frozen (sz + 1); have hq1 : (k : Int).tdiv 256 = (k : Int) / 256 := rfl; have hq2 : (k : Int).tmod 256 = (k : Int) % 256 := rfl
   have hu1 : IntKind.u8.wrap ((k : Int) / 256) = (k : Int) / 256 := by simp [IntKind.wrap, IntKind.signed, IntKind.bits]; try omega
   have hu2 : IntKind.u8.wrap ((k : Int) % 256) = (k : Int) % 256 := by simp [IntKind.wrap, IntKind.signed, IntKind.bits]; try omega
   go_upto_region 16 with fail
   obtain ⟨w4, hw4⟩ : ∃ w4, (w3.setCell ⟨kb, sz, none⟩ (.int .u8 ((k : Int) / 256))).setCell ⟨kb, sz + 1, none⟩ (.int .u8 ((k : Int) % 256)) = w4 := ⟨_, rfl⟩
   have BK4 : Hid (Blk w4 kb (u8s (keyG sz k)) 5) := by
    show Blk _ _ _ _; rw [← hw4, ← keyG_cells (by omega)]; exact (BK.out.set sz _).set (sz + 1) _
   have O4 : Hid (Only [] wr w4) := by
    show Only _ _ _; rw [← hw4]; exact (O3.out.setCell (.inr KBN.out.1) _).setCell (.inr KBN.out.1) _
   rw [hw4]; clear hw4 z0 f0 z1 f1 BK2 BK O3 hq1 hq2 hu1 hu2
   have hwu : IntKind.u64.wrap (k : Int) = k := by simp [IntKind.wrap, IntKind.signed, IntKind.bits]; try omega
   go_upto_region 17 with fail
   have BX := Th (Blk.new [.slice (some ⟨kb, 0, none⟩) (sz + 2) (sz + 2), .int .u64 k] 43 w4); obtain ⟨w5, hw5⟩ : ∃ w5, w4.alloc (.cells #[.slice (some ⟨kb, 0, none⟩) (sz + 2) (sz + 2), .int .u64 k] 43) = w5 := ⟨_, rfl⟩
   have O45 : Hid (Only [] w4 w5) := by show Only _ _ _; rw [← hw5]; exact (Only.refl _ _).alloc _
   rw [show w4.alloc (.cells [.slice (some ⟨kb, 0, none⟩) (sz + 2) (sz + 2), .int .u64 k].toArray 43) = w5 from hw5] at BX; rw [hw5]; clear hw5; obtain ⟨xb, hxb⟩ : ∃ xb, w4.heap.size = xb := ⟨_, rfl⟩
   have XN : Hid (wr.heap.size ≤ xb) := by show _ ≤ _; rw [← hxb]; exact O4.out.size
   rw [hxb] at BX; rw [hxb]; clear hxb; have J5 := Th (J.out.past (O4.out.trans O45.out (by simp))); have QK := Th ((key_okG BK4.out KBN.out.2.1 (by omega)).past O45.out); obtain ⟨j, hj⟩ : ∃ j, low (L.map (·.2)) (keyG sz k, k) = j := ⟨_, rfl⟩
   have hb : has (L.map (·.2)) (keyG sz k, k) = false := by
    cases h : has (L.map (·.2)) (keyG sz k, k) with
    | false => rfl
    | true =>
     exfalso; obtain ⟨i', h1, h2⟩ := HE.out _ ((Xjp J.out.one.up).1 h); exact numG_ne (by have := HN.out; omega) (by have := HN.out; omega) h1 (by omega) (h2.symm.trans HK.out.symm)
   have hji : j ≤ i := by have := Xeu (L.map (·.2)) (keyG sz k, k); rw [Zm, LL.out, hj] at this; exact this
   have ca := GrJ.at_ (q := (.slice (some ⟨kb, 0, none⟩) (sz + 2) (sz + 2), (keyG sz k, k))) J5.out QK.out.bytes (by rw [LL.out]; omega) hj hb; dsimp only at ca; have CA := Th ca; clear ca; have HB := Th hb; have HJ := Th hj; have JI := Th hji; clear hb hj; have x0 := BX.out.cell 0; have x1 := BX.out.cell 1; simp only [Zb, Zd] at x0 x1
   go_upto_region 18 with (go_at_call 19; refine CA.out.mono ?_; rintro e w6 ⟨rfl, hO⟩; have O6 := Th hO; clear hO)
   have hE2 : ∀ {m : Nat} {E : List Pr}, (∀ e ∈ E, e.1.length = sz + 2) → E.length ≤ m → m ≤ 120 → mostP E ≤ 4 + m * 252 / 100 + m / 4 := fun h1 h2 h3 => Xhj h1 (by omega) h2
   have CI := Th ((J5.out.one.past O6.out).insert_same (x := k) (l := keyG sz k) (kv := .slice (some ⟨kb, 0, none⟩) (sz + 2) (sz + 2)) (m := 332) (m2 := 336) (c := 0) (E' := insP (L.map (·.2)) (keyG sz k, k)) (QK.out.past O6.out).bytes (Xit sz k) (by omega) (by omega) J5.out.keys (Zp (hE2 (m := 119) J5.out.keys (by rw [Zm, LL.out]; omega) (by omega)) (by omega)) (Zp (hE2 (m := 120) (fun y hy => by
    rcases Xch.1 hy with rfl | hy
    ·exact Xit _ _
    ·exact J5.out.keys y hy) (by rw [← ins_snd (a := .slice none 0 0) HJ.out, Zm, Ze, Zw, Zj, Zx, LL.out]; omega) (by omega)) (by omega)) (by omega) (by omega) (by have := HN.out; omega) (by rw [Zm, LL.out]; omega) (by rw [HB.out]; rfl) (by rw [HB.out]; rfl))
   clear hE2 CA
   go_upto_region 20 with (go_at_call 11; refine CI.out.mono ?_; rintro e w7 ⟨M7, u7, pg7, rfl, hI, hS⟩; have I7 := Th hI; have S7 := Th hS; clear hI hS)
   have E7 := Th ((J5.out.ent.past O6.out).step S7.out); have hrow := E7.out.row; rw [LL.out] at hrow; have ROW := Th hrow; clear hrow
   have NC : Hid (∀ j u, [Value.slice none 0 0, .int .u64 0][j]? = some u → (w7.alloc (.cells #[.slice none 0 0, .int .u64 0] 43)).cell? ((⟨w7.heap.size, 0, none⟩ : Addr).add j) = some u) := fun j u hu => by
    rw [Xai, Yb]; exact ((Blk.new [Value.slice none 0 0, .int .u64 0] 43 w7).cell j).trans hu
   go_upto_region 21 with (at_builtin; refine Xks rfl (.tmp 109) (.tmp 111) 48 rfl 43 underlying48 (info_parts Xbn) rfl v i (kvsC L) rfl (ROW.out.past ((Only.refl _ _).alloc _)) (some ⟨w7.heap.size, 0, none⟩) 1 1 rfl [.slice none 0 0, .int .u64 0] rfl (fun _ => ⟨_, rfl, NC.out⟩) (by intro u hu; simp at hu; rcases hu with rfl | rfl <;> rfl) (by omega) (by decide) ?_; intro v8 w8 hg8 hsh8; obtain ⟨aa, ac, rfl⟩ := hsh8; have G8 := Th hg8; clear hg8)
   obtain ⟨g, cap, cur, off, hv8, hcap, hbk, hadr, hsrc, hdl, hfit, hj2, hcl, hrow⟩ := ent_plan (j := j) LL.out hji G8.out
   injection hv8 with e1 e2 e3
   subst e1; obtain rfl : cap = ac := e3.symm; have BC := Th hbk; have HSRC := Th hsrc; have HDL := Th hdl; have HFIT := Th hfit; have HCL := Th hcl; have HROW := Th hrow; have HADR := Th hadr; have HJ2 := Th hj2
   have g0 : (0 : Int) ≤ j := by omega
   have g1 : (0 : Int) ≤ (j : Int) + 1 := by omega
   have g2 : ((j : Nat) : Int) ≤ ((i + 1 : Nat) : Int) := by omega
   have g3 : ((j : Nat) : Int) + 1 ≤ ((i + 1 : Nat) : Int) := by omega
   have g4 : ((i + 1 : Nat) : Int) ≤ cap := by omega
   have g5 : ¬ cap = j := by omega
   clear hbk hsrc hdl hfit hj2 hcl hrow
   refine Xbd 7 (C := fun w' => w' = w8.drew) (by kernel_rfl) (by kernel_rfl) rfl ?_
   simp only [Xt, Wd, Wi, Xn]
   repeat (go_big_quiet_step (fail))
   refine wpQuiet_nil ?_
   rintro _ rfl
   have C1 : Hid (∀ u ∈ (kvsC L).drop (j * 2), u.oneCell' = true) := fun u hu => Xdk E7.out.keys u (Yn hu)
   refine Xda rfl (.tmp 116) (.tmp 119) 48 48 rfl 43 underlying48 2 Xbr g off (i + 1 - (j + 1)) (cap - (j + 1)) ⟨g, j * 2, none⟩ (i + 1 - j) (cap - j) (i - j) (by go_simp) (by go_simp) cur 43 BC.out.drew (by show i - j = min _ _; omega) ((kvsC L).drop (j * 2)) HDL.out HSRC.out HFIT.out C1.out ?_
   intro w9 hb9 hO9; have B9 := Th hb9; have O89 : Hid (Only [g] w8 w9) := ((Only.refl [g] w8).drew).trans hO9 (fun x hx => .inl hx); clear hb9 hO9 hadr; have hlies := G8.out.lies g rfl; have hJM : ∀ x ∈ M, x < wr.heap.size := J.out.one.pool.lt
   have hvl : ∀ x, v.ownBlock = some x → x < wr.heap.size := fun x hx => J.out.ent.row.lt hx
   have h57 := Zp O6.out.size S7.out.1.size; have hxl := BX.out.lt; have h78 : w7.heap.size < (w7.alloc (.cells #[.slice none 0 0, .int .u64 0] 43)).heap.size := (Blk.new [Value.slice none 0 0, .int .u64 0] 43 w7).lt
   have hxg : xb ≠ g := fun e => by
    subst e
    rcases hlies with h1 | h1
    ·have := hvl _ h1; have := XN.out; omega
    ·omega
   have hx9 : Blk w9 xb [.slice (some ⟨kb, 0, none⟩) (sz + 2) (sz + 2), .int .u64 k] 43 :=
    O89.out.blk (G8.out.only.blk (((Only.refl [] w7).alloc _).blk (S7.out.1.blk (O6.out.blk BX.out (by simp)) (fun hm => by have := hJM _ hm; have := XN.out; omega)) (by simp)) (fun hm => by simp at hm; have := hvl _ hm; have := XN.out; omega)) (by simpa using hxg)
   have HLIES := Th hlies; have X0 := hx9.cell 0; have X1 := hx9.cell 1; simp only [Zb, Zd] at X0 X1; have H57 := Th h57; have H78 := Th h78; clear hx9 hlies hJM hvl h57 hxl h78 hxg x0 x1 NC; obtain ⟨y0, hy0⟩ := B9.out.at (j * 2) (by rw [HCL.out]; have := HJ2.out; omega)
   have f0 := B9.out.frozen (j * 2); have hb10 := B9.out.set (j * 2) (.slice (some ⟨kb, 0, none⟩) (sz + 2) (sz + 2)); obtain ⟨y1, hy1⟩ := hb10.at (j * 2 + 1) (by rw [Xi, HCL.out]; have := HJ2.out; omega)
   have f1 := hb10.frozen (j * 2 + 1); have B11 := Th (hb10.set (j * 2 + 1) (.int .u64 k))
   have hji' : j < i + 1 := by omega
   have hji2 : (j : Int) < ((i + 1 : Nat) : Int) := by omega
   clear hb10
   go_upto_region 22 with fail
   go_wp2_with fail
   go_roundg (n - (i + 1))
   case measure => have := HGK.out; omega
   case rel =>
    refine ⟨i + 1, M7, u7, pg7, L.take j ++ (.slice (some ⟨kb, 0, none⟩) (sz + 2) (sz + 2), (keyG sz k, k)) :: L.drop j, _, rfl, by omega, by go_num, rfl, ?_, ?_, ?_⟩
    ·have hrow := HROW.out (.slice (some ⟨kb, 0, none⟩) (sz + 2) (sz + 2)) (keyG sz k, k) _ B11.out
     rw [← LL.out] at hrow; have h := GrJ.inserted (q := (.slice (some ⟨kb, 0, none⟩) (sz + 2) (sz + 2), (keyG sz k, k))) (g := g) (J5.out.past O6.out) I7.out S7.out ((QK.out.past O6.out).step S7.out) (Xit _ _) (((Only.refl v.ownBlock.toList w7).alloc _).trans G8.out.only (fun x hx => .inl hx))
      (by rcases HLIES.out with h1 | h1; exact .inl h1; exact .inr (by have := H78.out; omega)) ((O89.out.setCell (.inl (by simp)) _).setCell (.inl (by simp)) _) (by rw [LL.out]; rfl) HJ.out hrow
     rw [LL.out] at h; exact h.more (by omega)
    ·have := LL.out
     have := JI.out
     rw [Ze, Zw, Zj, Zx]; omega
    ·intro e he
     rw [ins_snd HJ.out] at he
     rcases Xch.1 he with rfl | he
     ·exact ⟨i, by omega, HK.out.symm⟩
     ·obtain ⟨i', h1, h2⟩ := HE.out e he
      exact ⟨i', by omega, h2⟩
  ·obtain rfl : i = n := by omega
   have hnlt : ¬ (i : Int) < i := by omega
   obtain ⟨k2, hk2⟩ : ∃ k2, 4 + 3669 * i = k2 := ⟨_, rfl⟩
   have K2 : Hid (k2 ≤ 440284) := by show _ ≤ _; omega
   rw [hk2] at J; have SK := Th (seek_any (w := wr) (tb := tb) (M := M) (kv := .slice none 0 0) (l := []) ⟨none, 0, rfl, fun h => by simp at h⟩ (by simp) J.out.one.pool.lt); have MST : Hid (mostP (L.map (·.2)) ≤ 336) := Zp (Xhj (n := sz + 2) (i := 120) J.out.keys (by have := HN.out; omega) (by rw [Zm, LL.out]; omega)) (by omega)
   clear hk2 hlt
   go_upto_region 24 with (go_at_call 15; refine SK.out.mono ?_; rintro e6 w6 ⟨cb, v6, rfl, hC6, hl6, hO6⟩; have C6 := Th hC6; have CBN := Th (Zp J.out.step.1.size hl6); have J6 := Th (J.out.past hO6); clear hC6 hl6 hO6)
   clear SK hnlt J
   go_wp2_with fail
   obtain ⟨w4, rfl⟩ : ∃ w4, w4 = wr := ⟨wr, rfl⟩
   go_loopg [20, 21, 22, 23] i (fun gk s20 s21 s22 s23 wr => ∃ (l : Nat) (M : List Nat) (kv : Value) (last : Pr) (begun : Bool), gk = i - l ∧ l ≤ i ∧ s20 = .int .i64 l ∧ GrJ w wr (sz + 2) p tb M u pg (k2 + 672 * l) v L ∧ CurAt wr M cb tb kv last begun ∧ GrCur (L.map (·.2)) l last begun)
   case atStart => exact ⟨0, M, v6, ([], 0), false, rfl, Yc _, rfl, J6.out, C6.out, .inl ⟨rfl, rfl, rfl⟩⟩
   case round =>
    obtain ⟨l, M, kv, last, begun, hgk, hl, rfl, hJ, hC, hT⟩ := hrel; have HGL := Th hgk; have J := Th hJ; have C := Th hC; have TC := Th hT; clear hgk hJ hC hT J6 C6
    by_cases hlt : l < i
    ·have hlt' : (l : Int) < i := by omega
     obtain ⟨q, hq⟩ : ∃ q, L[l]? = some q := ⟨_, Zc (by rw [LL.out]; exact hlt)⟩
     have hq2 : (L.map (·.2))[l]? = some q.2 := by rw [Zr, hq]; rfl
     have TN := Th ((TC.out.next J.out.one.up).trans hq2); have NE := Th (J.out.one.next C.out MST.out (by omega) (by have h1 := K2.out; omega) TN.out)
     have HQ := Th hq; have HQ2 := Th hq2; clear hq hq2
     go_upto_region 27 with fail
     go_upto_region 28 with (go_at_call 16; refine NE.out.mono ?_; rintro e7 w7 ⟨M7, ⟨g1, _⟩ | ⟨x, kv7, rv, g1, rfl, g2, g3, g4, g5, g6, g7, g8⟩⟩; (cases g1); obtain rfl := Option.some.inj g1; have K7 := Th g2; have C7 := Th g5; have J7 := Th (J.out.over C.out CBN.out g4 g7 g8); clear g1 g2 g3 g4 g5 g6 g7 g8; obtain ⟨ra, rc, hrv, _⟩ := id K7.out.bytes; dsimp only at hrv; subst hrv)
     obtain ⟨w8, hw8⟩ : ∃ w8, w7.alloc (.cells #[.slice ra q.2.1.length rc, .int .u64 q.2.2] 43) = w8 := ⟨_, rfl⟩
     have O8 : Hid (Only [] w7 w8) := by show Only _ _ _; rw [← hw8]; exact (Only.refl _ _).alloc _
     have PB8 : Hid (Blk w8 w7.heap.size [.slice ra q.2.1.length rc, .int .u64 q.2.2] 43) := by show Blk _ _ _ _; rw [← hw8]; exact Blk.new [.slice ra q.2.1.length rc, .int .u64 q.2.2] 43 w7
     rw [hw8]; clear hw8; obtain ⟨pb, hpb⟩ : ∃ pb, w7.heap.size = pb := ⟨_, rfl⟩; rw [hpb] at PB8; rw [hpb]; clear hpb; have p0 := PB8.out.cell 0; have p1 := PB8.out.cell 1; simp only [Zb, Zd] at p0 p1; have J8 := Th (J7.out.past O8.out); have C8 : Hid (CurAt w8 M7 cb tb kv7 q.2 true) := C7.out.step ((Step.refl M7 w7).then O8.out); have K8 := Th (K7.out.past O8.out); obtain ⟨g, cap, ga, gk8, hv, c0, c1, hb⟩ := J8.out.ent.at_ HQ.out; rw [LL.out] at hv; subst hv
     have CB : Hid (∀ y : Later w8, Calls prog 17 #[.slice ra q.2.1.length rc, .slice ga q.2.1.length gk8] y.v fun e w' => e = .returned (.bool true) ∧ ∃ z : Later w8, w' = z.v) := fun y =>
      (bytes_same (Xao K8.out.bytes y.h) (Xao hb y.h)).mono (fun e w' h => ⟨h.1, y, h.2.symm⟩)
     have l0 : ∀ y : Later w8, y.v.cell? ⟨pb, 0, none⟩ = some (.slice ra q.2.1.length rc) := fun y => y.cell p0
     have l1 : ∀ y : Later w8, y.v.cell? ⟨pb, 1, none⟩ = some (.int .u64 q.2.2) := fun y => y.cell p1
     have l2 : ∀ y : Later w8, y.v.cell? ⟨g, l * 2, none⟩ = some (.slice ga q.2.1.length gk8) := fun y => y.cell c0
     have l3 : ∀ y : Later w8, y.v.cell? ⟨g, l * 2 + 1, none⟩ = some (.int .u64 q.2.2) := fun y => y.cell c1
     clear p0 p1 c0 c1 hb
     refine Xaa (Only.refl _ _) (by kernel_rfl) (by kernel_rfl) ?_
     repeat (go_big_quiet_step ((go_at_call 17; exact CB.out _)))
     refine wpQuiet_nil ?_
     rintro _ ⟨xq, rfl⟩
     go_wp2_with fail
     go_roundg (i - (l + 1))
     case measure => have := HGL.out; omega
     case rel => exact ⟨l + 1, M7, kv7, q.2, true, rfl, by omega, by go_num, (J8.out.past xq.h).more (by omega), C8.out.step ((Step.refl M7 w8).then xq.h), .inr ⟨l, rfl, rfl, HQ2.out⟩⟩
    ·obtain rfl : l = i := by omega
     have hnl : ¬ (l : Int) < l := by omega
     obtain ⟨k3, hk3⟩ : ∃ k3, k2 + 672 * l = k3 := ⟨_, rfl⟩
     have K3 : Hid (k3 ≤ 520924) := by show _ ≤ _; have h1 := K2.out; have h2 := HN.out; omega
     rw [hk3] at J; have CK := Th (J.out.one.check MST.out (by omega) (by have h1 := K3.out; omega))
     have HN1 : Hid (sz + 2 ≤ 252 ∧ L.length ≤ 120 ∧ l ≤ 120) := by
      show _ ∧ _; have h2 := HN.out; have h3 := LL.out; omega
     obtain ⟨ao, cap, hv, _⟩ := J.out.ent.row.shape; rw [LL.out] at hv; subst hv; clear hk3 hlt
     go_wp2_with (first
      | (go_at_call 20; refine PG.out.mono ?_; rintro e w7 ⟨M7, rfl, h7⟩; have J7 := Th h7; clear h7)
      | (go_at_call 18; refine CK.out.mono ?_; rintro e w5 ⟨M5, rfl, h5, hs5⟩; have J5 := Th (GrJ.mk h5 (J.out.ent.step hs5) (J.out.step.trans hs5) J.out.new J.out.keys); clear h5 hs5; have PG := Th (J5.out.pages HN1.out.1 HN1.out.2.1 MST.out (by omega) (by have h1 := K3.out; omega))))
     obtain ⟨k4, hk4⟩ : ∃ k4, k3 + 2 * 336 + 2 * 336 = k4 := ⟨_, rfl⟩
     have K4 : Hid (k4 ≤ 522268) := by show _ ≤ _; have h1 := K3.out; omega
     rw [hk4] at J7; clear hk4; obtain ⟨w4, rfl⟩ : ∃ w4, w4 = wr := ⟨wr, rfl⟩
     have hot1 : (ot : Int) ≤ 500 := by have := HN.out; omega
     go_loopg [12, 24] l (fun gk s12 s24 wr => ∃ (c : Nat) (M : List Nat) (u : List Bool) (pg : Nat → List UInt8) (v : Value) (L : List KV), gk = L.length ∧ L.length + c = l ∧ v = s12 ∧ GrJ w wr (sz + 2) p tb M u pg (k4 + 2690 * c) v L)
     case atStart => exact ⟨0, M7, u, pg, _, L, LL.out.symm, LL.out, rfl, J7.out⟩
     case round =>
      obtain ⟨c, M, u, pg, v, L, hgk, hc, rfl, hJ⟩ := hrel; have HGK := Th hgk; have J := Th hJ; have HC := Th hc; clear hgk hJ hc; obtain ⟨m, hm⟩ : ∃ m, L.length = m := ⟨_, rfl⟩; have hrow := J.out.ent.row; rw [hm] at hrow; have ROW := Th hrow; have LM := Th hm; clear hm hrow
      by_cases hlt : 0 < m
      ·have hlt' : (0 : Int) < m := by omega
       obtain ⟨x, hx⟩ : ∃ x, ot % m = x := ⟨_, rfl⟩
       have hxm : x < m := by rw [← hx]; exact Nat.mod_lt _ hlt
       have hxm' : (x : Int) < m := by omega
       have hr1 : (ot : Int).tmod (m : Int) = (x : Int) := by rw [← hx]; rfl
       have hr2 : (ot : Int) % (m : Int) = (x : Int) := by rw [← hx]; rfl
       have hm0 : ¬ (m : Int) = 0 := by omega
       have hm1 : ¬ m = 0 := by omega
       obtain ⟨q, hq⟩ : ∃ q, L[x]? = some q := ⟨_, Zc (by rw [LM.out]; exact hxm)⟩
       have hq2 : (L.map (·.2))[x]? = some q.2 := by rw [Zr, hq]; rfl
       obtain ⟨g, cap, ga, gk8, hv, c0, c1, hb⟩ := J.out.ent.at_ hq; rw [LM.out] at hv; subst hv; have HQ := Th hq; have HQ2 := Th hq2; have HBY := Th hb
       have l2 : ∀ y : Later wr, y.v.cell? ⟨g, x * 2, none⟩ = some (.slice ga q.2.1.length gk8) := fun y => y.cell c0
       have l3 : ∀ y : Later wr, y.v.cell? ⟨g, x * 2 + 1, none⟩ = some (.int .u64 q.2.2) := fun y => y.cell c1
       have LB : Hid (m ≤ 120 ∧ k4 + 2690 * c + 5000 ≤ 900000) := by
        show _ ∧ _; have h1 := HC.out; have h2 := LM.out; have h3 := K4.out; have h4 := HN1.out; omega
       have MSL : Hid (mostP (L.map (·.2)) ≤ 336) := Zp (Xhj (n := sz + 2) (i := 120) J.out.keys (by have := HN1.out; omega) (by rw [Zm, LM.out]; have := LB.out; omega)) (by omega); clear hq hq2 c0 c1 hb
       go_upto_region 34 with fail
       refine Xdr 11 (Only.refl _ _) (by kernel_rfl) (by kernel_rfl) ?_
       simp only [Xt, Wd, Wi, Xn]
       repeat (go_big_quiet_step (fail))
       refine wpQuiet_nil ?_
       rintro _ ⟨xq, rfl⟩; have JQ := Th (J.out.past xq.h); obtain ⟨L', hL'⟩ : ∃ L', L.take x ++ L.drop (x + 1) = L' := ⟨_, rfl⟩; have HL' := Th hL'
       have hsub : ∀ y ∈ L', y ∈ L := fun y hy => by
        rw [← hL'] at hy
        rcases Za.1 hy with h | h
        ·exact Ym h
        ·exact Yn h
       have HSUB := Th hsub
       have hll : L'.length + 1 = m := by rw [← hL', Ze, Zj, Zx, LM.out]; omega
       have HLL := Th hll; have hdl := del_snd J.out.one.up HQ2.out; rw [hL'] at hdl; have HDS := Th hdl; clear hL' hsub hll hdl
       have MS2 : Hid (mostP (L'.map (·.2)) ≤ 336) := Zp (Xhj (n := sz + 2) (i := 120) (fun e he => by
        obtain ⟨y, hy, rfl⟩ := Zh.1 he
        exact J.out.keys _ (Zh.2 ⟨y, HSUB.out y hy, rfl⟩)) (by have := HN1.out; omega) (by rw [Zm]; have := LB.out; have := HLL.out; omega)) (by omega)
       have hqL := Zl HQ.out; have CD := Th (JQ.out.one.delete (m := 336) (c := 0) (E' := L'.map (·.2)) (Xao HBY.out xq.h) (by have := J.out.keys _ (Zh.2 ⟨q, hqL, rfl⟩); have := HN1.out; omega) (J.out.ent.keys q hqL).num J.out.keys MSL.out (by omega) (by have := LB.out; omega) (by rw [Zm, LM.out]; have := LB.out; omega) (if_pos (low_at J.out.one.up HQ2.out).2) ((if_pos (low_at J.out.one.up HQ2.out).2).trans HDS.out.symm))
       clear hqL
       go_upto_region 36 with (first
        | (go_at_call 18; refine CK2.out.mono ?_; rintro e w9 ⟨M9, rfl, h9, hs9⟩; have I9 := Th h9; have S9 := Th (S8.out.trans hs9); clear h9 hs9)
        | (go_at_call 14; refine CD.out.mono ?_; rintro e w8 ⟨M8, u8, pg8, rfl, h8, hs8⟩; have I8 := Th h8; have S8 := Th hs8; clear h8 hs8; have CK2 := Th (I8.out.check MS2.out (by omega) (by have := LB.out; omega))))
       have hrow := (JQ.out.ent.step S9.out).row.past ((Only.refl [] w9).drew); rw [LM.out] at hrow; obtain ⟨g2, cap2, z, hv2, hcap, hadr, hrc, hnl5, htl⟩ := ent_cut hrow LM.out hxm
       injection hv2 with e1 e2 e3
       injection e1 with e1
       injection e1 with e1
       subst e1; obtain rfl : cap = cap2 := e3; have RC := Th hrc; have NL := Th hnl5; have TL := Th htl
       have O1 : Hid (∀ u ∈ (kvsC L).drop ((x + 1) * 2), u.oneCell' = true) := fun u hu => Xdk J.out.ent.keys u (Yn hu)
       have g0 : (0 : Int) ≤ x := by omega
       have g1 : (x : Int) ≤ cap := by omega
       have g2 : (0 : Int) ≤ (x : Int) + 1 := by omega
       have g3 : (x : Int) + 1 ≤ m := by omega
       have g4 : (m : Int) ≤ cap := by omega
       have g5 : x + 1 ≤ m := hxm
       have g6 : (x : Int) + 1 ≤ cap := by omega
       have g7 : ¬ cap = x := by omega
       have g8 : ¬ ((x : Int) + 1) = 0 := by omega
       have ew : IntKind.i64.wrap ((x : Int) + 1) = (x : Int) + 1 := by have := LB.out; rw [Yj]; omega
       clear hrc hnl5 htl hrow l2 l3
       refine Xbd 8 (C := fun w' => w' = w9.drew) (by kernel_rfl) (by kernel_rfl) rfl ?_
       simp only [Xt, Wd, Wi, Xn]
       repeat (go_big_quiet_step (fail))
       refine wpQuiet_nil ?_
       rintro _ rfl; clear hadr
       go_wp2_with (at_builtin; refine Xks rfl (.tmp 203) (.tmp 207) 48 rfl 43 underlying48 (info_parts Xbn) rfl (.slice (some ⟨g, 0, none⟩) x x) x ((kvsC L).take (x * 2)) (by go_simp) RC.out (some ⟨g, z, none⟩) (m - (x + 1)) (cap - (x + 1)) (by go_simp) ((kvsC L).drop ((x + 1) * 2)) NL.out TL.out O1.out (by have := LB.out; omega) (by decide) ?_; intro v8 w10 hg8 hsh8; obtain ⟨a8, c8, rfl⟩ := hsh8; have G8 := Th hg8; clear hg8)
       go_roundg L'.length
       case measure => have h1 := HGK.out; have h2 := HLL.out; have h3 := LM.out; omega
       case rel =>
        refine ⟨c + 1, M9, u8, pg8, _, L', rfl, by have h1 := HLL.out; have h2 := HC.out; have h3 := LM.out; omega, rfl, ?_⟩; have hown := G8.out.own; rw [del_kvs, HL'.out, show x + (m - (x + 1)) = L'.length by have := HLL.out; omega] at hown
        refine GrJ.more (k := k4 + 2690 * c + (6 * 336 + 2) + 2 * 336) (GrJ.rows (v' := .slice a8 (x + (m - (x + 1))) c8) (G := []) JQ.out I9.out S9.out (((Only.refl _ w9).drew.trans G8.out.only (fun y hy => .inl (by simpa [Value.ownBlock] using hy)))) (fun y hy => by cases hy) (fun y hy => ?_) (fun y hy => .inl (HSUB.out y hy)) ?_) (by omega)
        ·rcases G8.out.lies y hy with h1 | h1
         ·exact .inl h1
         ·exact .inr h1
        ·rw [show x + (m - (x + 1)) = L'.length by have := HLL.out; omega]
         exact hown
      ·obtain rfl : m = 0 := by omega
       have hm0 : ¬ ((0 : Nat) : Int) > 0 := by omega
       obtain rfl : L = [] := Yv LM.out
       have KC : Hid (k4 + 2690 * c ≤ 890000) := by
        show _ ≤ _; have h1 := HC.out; have h3 := K4.out; have h4 := HN1.out; simp only [Xu] at h1; omega
       have J0 : Hid (OneQ (fun e => e.1.length = sz + 2) wr p tb 500 M u pg (k4 + 2690 * c) []) := J.out.one; have PN := Th (J0.out.pagesNil (by have := KC.out; omega))
       obtain ⟨ao3, cap3, hv3, _⟩ := ROW.out.shape; subst hv3; clear hlt
       go_wp2_with (first
        | (go_at_call 21; refine UO.out.mono ?_; rintro e w9 ⟨ao9, c9, rfl, h9⟩; have O9 := Th (S7.out.1.trans h9 (by simp)); clear h9)
        | (go_at_call 20; refine PN.out.mono ?_; rintro e w7 ⟨M7, rfl, h7, hs7⟩; have S7 := Th (J.out.step.trans hs7); have UO := Th h7.usedOne; clear h7 hs7))
       go_ret; exact ⟨rfl, O9.out.below (Zs _) (by simp)⟩
end T
end Go.Proofs.YtiijokopcgnokaaGreat
