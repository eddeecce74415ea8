import Derived.Test.YtiijokopcgnokaaGreatKToK
import Derived.Test.YtiijokopcgnokaaGreatKToM
import Derived.Test.YtiijokopcgnokaaGreatKToO
/-
 Entries of one key, told by the row of their numbers: plain data. No program in sight.
-/
set_option linter.unusedSimpArgs false
set_option linter.unusedVariables false
namespace Go.Proofs.YtiijokopcgnokaaGreat.T
open Go Go.RowKit
def twinE (K : List UInt8) (B : List Bool) : List Pr := ((List.range B.length).filter fun j => B.getD j false).map fun j => (K, j)
theorem getD_lt {B : List Bool} {j : Nat} (h : B.getD j false = true) : j < B.length := by
 rcases Yp j B.length with h1 | h1
 ·exact h1
 ·rw [Ze, Yz h1] at h; cases h
theorem getD_setB (B : List Bool) (i j : Nat) (b : Bool) (hi : i < B.length) : (B.set i b).getD j false = if j = i then b else B.getD j false := by
 rw [Ze, Ze, List.getElem?_set]
 by_cases h : i = j
 ·subst h
  simp [hi]
 ·rw [if_neg h, if_neg (fun e => h e.symm)]
theorem tw_mem {K : List UInt8} {B : List Bool} {x : Pr} : x ∈ twinE K B ↔ ∃ j, B.getD j false = true ∧ x = (K, j) := by
 unfold twinE
 constructor
 ·intro h
  obtain ⟨j, hj, rfl⟩ := Zh.1 h
  exact ⟨j, (Yl.1 hj).2, rfl⟩
 ·rintro ⟨j, hj, rfl⟩
  exact Zh.2 ⟨j, Yl.2 ⟨Wu.2 (getD_lt hj), hj⟩, rfl⟩
theorem tw_up (K : List UInt8) (B : List Bool) : Up (twinE K B) := by
 unfold Up twinE
 rw [Xc]
 exact (List.pairwise_lt_range.sublist List.filter_sublist).imp (fun {a b} (hab : a < b) => (lt_iff (a := (K, a)) (b := (K, b))).2 (.inr ⟨rfl, hab⟩))
theorem tw_has (K : List UInt8) (B : List Bool) (j : Nat) : T.has (twinE K B) (K, j) = B.getD j false := by
 cases hh : B.getD j false with
 | true => exact (has_mem (tw_up K B)).2 (tw_mem.2 ⟨j, hh, rfl⟩)
 | false =>
  cases h2 : T.has (twinE K B) (K, j) with
  | false => rfl
  | true =>
   obtain ⟨i, hi, e⟩ := tw_mem.1 ((has_mem (tw_up K B)).1 h2)
   obtain rfl : j = i := congrArg Prod.snd e
   rw [hh] at hi; cases hi
theorem tw_ins {K : List UInt8} {B : List Bool} {j : Nat} (hj : j < B.length) (hb : B.getD j false = false) : insP (twinE K B) (K, j) = twinE K (B.set j true) := by
 refine up_ext (up_insP (tw_up K B) (by rw [tw_has]; exact hb)) (tw_up _ _) (fun y => ?_)
 rw [mem_insP, tw_mem, tw_mem]
 constructor
 ·rintro (rfl | ⟨i, hi, rfl⟩)
  ·exact ⟨j, by rw [getD_setB _ _ _ _ hj, if_pos rfl], rfl⟩
  ·refine ⟨i, ?_, rfl⟩
   rw [getD_setB _ _ _ _ hj]
   split
   ·rfl
   ·exact hi
 ·rintro ⟨i, hi, rfl⟩
  rw [getD_setB _ _ _ _ hj] at hi
  split at hi
  ·rename_i h; exact .inl (by rw [h])
  ·exact .inr ⟨i, hi, rfl⟩
theorem tw_del {K : List UInt8} {B : List Bool} {j : Nat} (hb : B.getD j false = true) : delP (twinE K B) (K, j) = twinE K (B.set j false) := by
 have hj := getD_lt hb
 refine up_ext (up_del (tw_up K B)) (tw_up _ _) (fun y => ?_)
 rw [mem_delP (tw_up K B) (by rw [tw_has]; exact hb), tw_mem, tw_mem]
 constructor
 ·rintro ⟨⟨i, hi, rfl⟩, hne⟩
  refine ⟨i, ?_, rfl⟩
  rw [getD_setB _ _ _ _ hj, if_neg (fun e => hne (by rw [e]))]
  exact hi
 ·rintro ⟨i, hi, rfl⟩
  rw [getD_setB _ _ _ _ hj] at hi
  split at hi
  ·cases hi
  ·rename_i h
   exact ⟨⟨i, hi, rfl⟩, fun e => h (congrArg Prod.snd e)⟩
theorem tw_len (K : List UInt8) (B : List Bool) : (twinE K B).length ≤ B.length := by
 unfold twinE
 rw [Zp]
 exact Zo (We _ _) (by simp)
theorem tw_none (K : List UInt8) (n : Nat) : twinE K (List.replicate n false) = [] := by
 refine List.eq_nil_iff_forall_not_mem.2 fun x hx => ?_
 obtain ⟨j, hj, _⟩ := tw_mem.1 hx
 rw [Ze, Xy] at hj
 split at hj <;> cases hj
theorem ins_len (l : List Pr) (x : Pr) : (insP l x).length = l.length + 1 := by
 have := low_le l x
 unfold insP
 simp only [Zf, Zx, Zj, Zy]
 omega
theorem lenE_same {n : Nat} : ∀ {l : List Pr}, (∀ x ∈ l, x.1.length = n) → lenE l = l.length * n
 | [], _ => by simp [lenE]
 | a :: l, h => by
  have ih := lenE_same (l := l) fun x hx => h x (by simp [hx])
  have h0 := h a (by simp)
  show a.1.length + lenE l = _
  rw [ih, h0, Zx, Nat.add_mul]; omega
theorem most_same {n : Nat} {l : List Pr} (h : ∀ x ∈ l, x.1.length = n) : mostP l ≤ 4 + l.length * n / 100 + l.length / 4 := by
 unfold mostP
 rw [lenE_same h]
 split <;> omega
theorem find_up {p : Pr → Bool} {x : Pr} : ∀ {E : List Pr}, Up E → x ∈ E → p x = true → (∀ y ∈ E, lt y x → p y = false) → E.find? p = some x
 | [], _, h, _, _ => by cases h
 | a :: E, hU, hx, hp, hb => by
  rcases Zg.1 hx with rfl | hx
  ·exact List.find?_cons_of_pos hp
  ·have h1 : lt a x := (Yc.1 hU).1 x hx
   rw [List.find?_cons_of_neg (by rw [hb a (by simp) h1]; decide)]
   exact find_up (Yc.1 hU).2 hx hp (fun y hy => hb y (by simp [hy]))
theorem lt_same {K : List UInt8} {a b : Nat} : lt (K, a) (K, b) ↔ a < b := by
 rw [lt_iff]
 constructor
 ·rintro (h | h)
  ·rw [cmpB_refl] at h; omega
  ·exact h.2
 ·exact fun h => .inr ⟨rfl, h⟩
def TwCur (K : List UInt8) (B : List Bool) (i : Nat) (last : Pr) (begun : Bool) : Prop :=
 (begun = false ∧ last = (K, 0) ∧ ∀ j, j < i → B.getD j false = false) ∨ (begun = true ∧ ∃ j0, last = (K, j0) ∧ j0 < i ∧ ∀ j, j0 < j → j < i → B.getD j false = false)
theorem TwCur.start (K : List UInt8) (B : List Bool) : TwCur K B 0 (K, 0) false := .inl ⟨rfl, rfl, fun j hj => by omega⟩
theorem TwCur.skip {K : List UInt8} {B : List Bool} {i : Nat} {last : Pr} {begun : Bool} (h : TwCur K B i last begun) (hb : B.getD i false = false) : TwCur K B (i + 1) last begun := by
 rcases h with ⟨h1, h2, h3⟩ | ⟨h1, j0, h2, h3, h4⟩
 ·refine .inl ⟨h1, h2, fun j hj => ?_⟩
  rcases Yp j i with h | h
  ·exact h3 j h
  ·rw [show j = i by omega]; exact hb
 ·refine .inr ⟨h1, j0, h2, by omega, fun j hj hj2 => ?_⟩
  rcases Yp j i with h | h
  ·exact h4 j hj h
  ·rw [show j = i by omega]; exact hb
theorem TwCur.next {K : List UInt8} {B : List Bool} {i : Nat} {last : Pr} {begun : Bool} (h : TwCur K B i last begun) (hb : B.getD i false = true) : nextP (twinE K B) last begun = some (K, i) ∧ TwCur K B (i + 1) (K, i) true := by
 refine ⟨find_up (tw_up K B) (tw_mem.2 ⟨i, hb, rfl⟩) ?_ (fun y hy hlt => ?_), .inr ⟨rfl, i, rfl, by omega, fun j h1 h2 => by omega⟩⟩
 ·rcases h with ⟨rfl, rfl, h3⟩ | ⟨rfl, j0, rfl, h3, h4⟩
  ·simp [aft, lt_same]
  ·simp [aft, lt_same, h3]
 ·obtain ⟨j, hj, rfl⟩ := tw_mem.1 hy
  rw [lt_same] at hlt
  rcases h with ⟨rfl, rfl, h3⟩ | ⟨rfl, j0, rfl, h3, h4⟩
  ·rw [h3 j hlt] at hj; cases hj
  ·simp only [aft, if_true, decide_eq_false_iff_not, lt_same]
   intro h5
   rw [h4 j h5 hlt] at hj; cases hj
theorem TwCur.none {K : List UInt8} {B : List Bool} {last : Pr} {begun : Bool} (h : TwCur K B B.length last begun) : nextP (twinE K B) last begun = none := by
 refine Wy.2 fun y hy => ?_
 obtain ⟨j, hj, rfl⟩ := tw_mem.1 hy
 have hjl := getD_lt hj
 rcases h with ⟨rfl, rfl, h3⟩ | ⟨rfl, j0, rfl, h3, h4⟩
 ·rw [h3 j hjl] at hj; cases hj
 ·simp only [aft, if_true, decide_eq_true_eq, lt_same]
  intro h5
  rw [h4 j h5 hjl] at hj; cases hj
theorem least_one {P : Nat → Prop} [DecidablePred P] : ∀ (n : Nat), P n → ∃ d, d ≤ n ∧ P d ∧ ∀ e, e < d → ¬ P e
 | n, h => by
  induction n using Nat.strongRecOn with
  | ind n ih =>
   by_cases hx : ∃ e, e < n ∧ P e
   ·obtain ⟨e, h1, h2⟩ := hx
    obtain ⟨d, h3, h4, h5⟩ := ih e h1 h2
    exact ⟨d, by omega, h4, h5⟩
   ·exact ⟨n, Zt _, h, fun e he hp => hx ⟨e, he, hp⟩⟩
theorem free_place {B : List Bool} (h : ∃ j, j < B.length ∧ B.getD j false = false) (k : Nat) (hk : k < B.length) : ∃ d, d < B.length ∧ B.getD ((k + d) % B.length) false = false ∧ ∀ e, e < d → B.getD ((k + e) % B.length) false = true := by
 obtain ⟨j, hj, hb⟩ := h
 have h0 : B.getD ((k + (j + B.length - k) % B.length) % B.length) false = false := by
  rw [Nat.add_mod_mod, show k + (j + B.length - k) = j + B.length by omega, Nat.add_mod_right, Ww hj]
  exact hb
 obtain ⟨d, h1, h2, h3⟩ := least_one (P := fun d => B.getD ((k + d) % B.length) false = false) _ h0
 refine ⟨d, ?_, h2, fun e he => ?_⟩
 ·have := Nat.mod_lt (j + B.length - k) (show 0 < B.length by omega)
  omega
 ·simpa using h3 e he
end Go.Proofs.YtiijokopcgnokaaGreat.T
namespace Go.Proofs.YtiijokopcgnokaaGreat.T
open Go Go.RowKit D B C G P H
theorem lenE_sub {l k : List Pr} (h : l.Sublist k) : lenE l ≤ lenE k := by
 induction h with
 | slnil => exact Zt _
 | cons a _ ih =>
  unfold lenE at *
  simp only [Zv, List.sum_cons]; omega
 | cons_cons a _ ih =>
  unfold lenE at *
  simp only [Zv, List.sum_cons]; omega
theorem mostP_del {l : List Pr} {x : Pr} : mostP (delP l x) ≤ mostP l := by
 have hs : (delP l x).Sublist l := Wg _ _
 have h1 := hs.length_le
 have h2 := lenE_sub hs
 unfold mostP
 split <;> split <;> omega
def TreeQ (Q : Pr → Prop) (u : List Bool) (pg : Nat → List UInt8) (E : List Pr) {H : Nat} (T : Tr H) : Prop :=
 InPages u pg 0 T ∧ entsT T = E ∧ (nodes H T).length ≤ mostP E ∧ AllQ Q (nodes H T) ∧ ∀ j : Nat, u.getD j false = true → ∃ n ∈ nodes H T, n.id = (j : Nat)
structure OneQ (Q : Pr → Prop) (w : World) (p tb N : Nat) (M : List Nat) (u : List Bool) (pg : Nat → List UInt8) (k : Nat) (E : List Pr) : Prop where
 pool : PoolV w p M u pg k
 at_ : TreeAt w tb p 0
 off : tb ∉ M
 tree : ∃ H, ∃ T : Tr H, TreeQ Q u pg E T
 len : u.length = N
section
variable {Q : Pr → Prop} {w w' : World} {p tb N k : Nat} {M M' : List Nat} {u : List Bool} {pg : Nat → List UInt8} {E : List Pr}
theorem OneQ.step (h : OneQ Q w p tb N M u pg k E) {k' : Nat} (hP : PoolV w' p M' u pg k') (hS : Step M M' w w') : OneQ Q w' p tb N M' u pg k' E :=
 ⟨hP, hS.1.blk h.at_ h.off, P.Step.keep hS h.at_.lt h.off, h.tree, h.len⟩
theorem OneQ.past (h : OneQ Q w p tb N M u pg k E) (hO : Only [] w w') : OneQ Q w' p tb N M u pg k E := h.step (h.pool.past hO) ((Step.refl M w).then hO)
theorem OneQ.more (h : OneQ Q w p tb N M u pg k E) {k' : Nat} (hk : k ≤ k') : OneQ Q w p tb N M u pg k' E := ⟨h.pool.more hk, h.at_, h.off, h.tree, h.len⟩
theorem OneQ.later (h : OneQ Q w p tb N M u pg k E) {X : List Nat} (hO : Only X w w') (hX : NoSec w X) (hM : ∀ x ∈ M, x ∉ X) (ht : tb ∉ X) : OneQ Q w' p tb N M u pg k E := ⟨h.pool.later hO hX hM, hO.blk h.at_ ht, h.off, h.tree, h.len⟩
theorem TreeQ.free {H : Nat} {T : Tr H} (h : TreeQ Q u pg E T) : u.length ≤ u.count false + (nodes H T).length := by
 have := free_many (u := u) (L := (nodes H T).map fun n => n.id.toNat) (fun j hj => by
  obtain ⟨n, hn, e⟩ := h.2.2.2.2 j hj
  exact Zh.2 ⟨n, hn, by rw [e]; simp⟩)
 rwa [Zp] at this
theorem TreeQ.up {H : Nat} {T : Tr H} (h : TreeQ Q u pg E T) : Up E := by
 have := entsT_up h.1.ris
 rwa [h.2.1] at this
theorem OneQ.up (h : OneQ Q w p tb N M u pg k E) : Up E := by obtain ⟨H, T, hT⟩ := h.tree; exact hT.up
theorem OneQ.after (h : OneQ Q w p tb N M u pg k E) {k' : Nat} {u' : List Bool} {pg' : Nat → List UInt8} {E' : List Pr} {H H' : Nat} {T : Tr H} {T' : Tr H'} (hT : TreeQ Q u pg E T) (hR : OpRes w w' p M u pg k' 0 T E' M' u' pg' T') (hq : ∀ e ∈ E', Q e) : OneQ Q w' p tb N M' u' pg' k' E' := by
 refine ⟨hR.pool, hR.step.1.blk h.at_ h.off, P.Step.keep hR.step h.at_.lt h.off, ⟨H', T', hR.tree, hR.ents, hR.few, hR.kept Q hT.2.2.2.1 hq, fun j hj => ?_⟩, hR.len.trans h.len⟩
 rcases (hR.used j).1 hj with ⟨h1, h2⟩ | h1
 ·obtain ⟨n, hn, e⟩ := hT.2.2.2.2 j h1
  exact absurd e (h2 n hn)
 ·exact h1
theorem OneQ.insertF (h : OneQ Q w p tb N M u pg k E) {x m m2 F0 : Nat} {kv : Value} {l : List UInt8} {c : Int} {E' : List Pr} (hb : BytesAt w kv l) (hl : l.length ≤ 300) (hx : x < 18446744073709551616) (hq : Q (l, x)) (hQE : ∀ e ∈ E, Q e)
  (hm : mostP E ≤ m) (hm2 : mostP (insP E (l, x)) ≤ m2) (hm1 : m ≤ 1000) (hF : F0 ≤ 60000) (hk : k + 8 * m + 8 * F0 ≤ 900000) (hE : E.length ≤ 99000)
  (hroom : ∀ {H : Nat} {T : Tr H}, TreeQ Q u pg E T → ∀ (c : Ctx H 0) (i : Int) (E : List Pr) (W' F' : List Nd), plug c (.leaf i E) = T → Good c → Splits ⟨i, true, insP E (l, x), []⟩ (path c i).reverse [] W' F' → F'.length ≤ u.count false ∧ F'.length ≤ F0)
  (hc : (if has E (l, x) then (81 : Int) else 0) = c) (he : (if has E (l, x) then E else insP E (l, x)) = E') :
  Calls Tryz.prog 11 #[.pointer (some ⟨tb, 0, none⟩), kv, .int .u64 x] w fun e w' => ∃ M' u' pg', e = .returned (.int .i64 c) ∧ OneQ Q w' p tb N M' u' pg' (k + (6 * m + 6 * F0 + 2 * m2)) E' ∧ Step M M' w w' := by
 subst hc
 subst he
 obtain ⟨H, T, hT⟩ := h.tree
 obtain ⟨h1, h2, h3, h4, h5⟩ := id hT
 have hH := height_le h1.wf
 have hms : mostP E ≤ mostP (insP E (l, x)) := mostP_ins
 refine (insert_has (F0 := F0) (hb0 := has E (l, x)) h.pool h.at_ h.off h1 (by omega) hb hl hx (by omega) hF (by rw [h2]; exact hE) (by rw [h2]; exact h3) (by rw [h2]) (hroom hT)).mono ?_
 rintro e w' (⟨hh, M', rfl, hP', hS'⟩ | ⟨hh, M', u', pg', H', T', rfl, hR⟩)
 ·rw [hh]
  exact ⟨M', u, pg, rfl, (h.step hP' hS').more (by omega), hS'⟩
 ·rw [hh]
  have hfew := hR.few
  rw [h2] at hR hfew
  refine ⟨M', u', pg', rfl, (h.after hT hR (fun e he => ?_)).more (by omega), hR.step⟩
  rcases mem_insP.1 he with h6 | h6
  ·rw [h6]; exact hq
  ·exact hQE e h6
theorem OneQ.delete (h : OneQ Q w p tb N M u pg k E) {x m : Nat} {kv : Value} {l : List UInt8} {c : Int} {E' : List Pr} (hb : BytesAt w kv l) (hl : l.length ≤ 300) (hx : x < 18446744073709551616) (hQE : ∀ e ∈ E, Q e)
  (hm : mostP E ≤ m) (hm1 : m ≤ 1000) (hk : k + 8 * m ≤ 900000) (hE : E.length ≤ 99000) (hc : (if has E (l, x) then (0 : Int) else 82) = c) (he : (if has E (l, x) then delP E (l, x) else E) = E') :
  Calls Tryz.prog 14 #[.pointer (some ⟨tb, 0, none⟩), kv, .int .u64 x] w fun e w' => ∃ M' u' pg', e = .returned (.int .i64 c) ∧ OneQ Q w' p tb N M' u' pg' (k + (6 * m + 2)) E' ∧ Step M M' w w' := by
 subst hc
 subst he
 obtain ⟨H, T, hT⟩ := h.tree
 obtain ⟨h1, h2, h3, h4, h5⟩ := id hT
 have hH := height_le h1.wf
 have hms : mostP (delP E (l, x)) ≤ mostP E := mostP_del
 refine (deleteT_any (hb0 := has E (l, x)) h.pool h.at_ h.off h1 (by omega) hb hl hx (by omega) (by rw [h2]; exact hE) (by rw [h2])).mono ?_
 rintro e w' (⟨hh, M', rfl, hP', hS'⟩ | ⟨hh, M', u', pg', H', T', rfl, hR⟩)
 ·rw [hh]
  exact ⟨M', u, pg, rfl, (h.step hP' hS').more (by omega), hS'⟩
 ·rw [hh]
  have hfew := hR.few
  rw [h2] at hR hfew
  exact ⟨M', u', pg', rfl, (h.after hT hR (fun e he => hQE e ((Wg _ _).subset he))).more (by omega), hR.step⟩
theorem OneQ.check (h : OneQ Q w p tb N M u pg k E) {m : Nat} (hm : mostP E ≤ m) (hm1 : m ≤ 1000) (hk : k + 8 * m ≤ 900000) :
  Calls Tryz.prog 18 #[.pointer (some ⟨tb, 0, none⟩)] w fun e w' => ∃ M', e = .returned (.int .i64 0) ∧ OneQ Q w' p tb N M' u pg (k + 2 * m) E ∧ Step M M' w w' := by
 obtain ⟨H, T, hT⟩ := h.tree
 obtain ⟨h1, h2, h3, h4, h5⟩ := id hT
 refine (check_any h.pool h.at_ h.off h1 (by omega)).mono ?_
 rintro e w' ⟨M', rfl, hP', hS'⟩
 exact ⟨M', rfl, (h.step hP' hS').more (by omega), hS'⟩
theorem OneQ.next (h : OneQ Q w p tb N M u pg k E) {cb m : Nat} {kv : Value} {last : Pr} {begun : Bool} {r : Option Pr} (hC : CurAt w M cb tb kv last begun) (hm : mostP E ≤ m) (hm1 : m ≤ 1000) (hk : k + 8 * m ≤ 900000) (hr : nextP E last begun = r) :
  Calls Tryz.prog 16 #[.pointer (some ⟨cb, 0, none⟩)] w fun e w' => ∃ M',
   (r = none ∧ e = .returned (.tuple #[.agg #[.slice none 0 0, .int .u64 0], .bool false, .int .i64 0]) ∧ OneQ Q w' p tb N M' u pg (k + 2 * m) E ∧ CurAt w' M' cb tb kv last begun ∧ Step M M' w w') ∨
   (∃ x kv' rv, r = some x ∧ e = .returned (.tuple #[.agg #[rv, .int .u64 x.2], .bool true, .int .i64 0]) ∧ KeyOk w' M' (rv, x) ∧ (∀ g, rv.ownBlock = some g → w.heap.size ≤ g) ∧ OneQ Q w' p tb N M' u pg (k + 2 * m) E ∧ CurAt w' M' cb tb kv' x true ∧ (∀ g, rv.ownBlock = some g → kv'.ownBlock ≠ some g) ∧ Only (M ++ [cb]) w w' ∧ ∀ x ∈ M', x ∈ M ∨ w.heap.size ≤ x) := by
 obtain ⟨H, T, hT⟩ := h.tree
 obtain ⟨h1, h2, h3, h4, h5⟩ := id hT
 refine (next_any h.pool h.at_ h.off h1 (by omega) hC).mono ?_
 rw [h2]
 rintro e w' ⟨M', ⟨g1, rfl, g2, g3, g4⟩ | ⟨x, kv', rv, g1, rfl, g2, g3, g4, g5, g6, g7, g8⟩⟩
 ·exact ⟨M', .inl ⟨hr ▸ g1, rfl, (h.step g2 g4).more (by omega), g3, g4⟩⟩
 ·refine ⟨M', .inr ⟨x, kv', rv, hr ▸ g1, rfl, g2, g3, ⟨g4.more (by omega), g7.blk h.at_ (fun hm => ?_), fun hm => ?_, h.tree, h.len⟩, g5, g6, g7, g8⟩⟩
  ·rcases Za.1 hm with hm | hm
   ·exact h.off hm
   ·simp at hm
    subst hm
    exact absurd (h.at_.inj hC.blk).2 (by decide)
  ·rcases g8 _ hm with h | h9
   ·exact OneQ.off ‹_› h
   ·have := h.at_.lt; omega
end
theorem OneQ.insert_same {w : World} {p tb N k n : Nat} {M : List Nat} {u : List Bool} {pg : Nat → List UInt8} {E : List Pr} (h : OneQ (fun e => e.1.length = n) w p tb N M u pg k E) {x m m2 : Nat} {kv : Value} {l : List UInt8} {c : Int} {E' : List Pr} (hb : BytesAt w kv l) (hn : l.length = n) (hl : n ≤ 300) (hx : x < 18446744073709551616) (hQE : ∀ e ∈ E, e.1.length = n)
  (hm : mostP E ≤ m) (hm2 : mostP (insP E (l, x)) ≤ m2) (hm1 : m ≤ 1000) (hN : 3 * m + 3 ≤ 2 * N) (hk : k + 12 * m + 12 ≤ 900000) (hE : E.length ≤ 99000)
  (hc : (if has E (l, x) then (81 : Int) else 0) = c) (he : (if has E (l, x) then E else insP E (l, x)) = E') :
  Calls Tryz.prog 11 #[.pointer (some ⟨tb, 0, none⟩), kv, .int .u64 x] w fun e w' => ∃ M' u' pg', e = .returned (.int .i64 c) ∧ OneQ (fun e => e.1.length = n) w' p tb N M' u' pg' (k + (9 * m + 2 * m2 + 9)) E' ∧ Step M M' w w' := by
 refine (h.insertF (F0 := (m + 3) / 2) hb (by omega) hx hn hQE hm hm2 hm1 (by omega) (by omega) hE (fun {H T} hT c0 i E0 W' F' hp hg hs => ?_) hc he).mono ?_
 ·have hfr := hT.free
  have hlen := h.len
  obtain ⟨h1, h2, h3, h4, h5⟩ := id hT
  subst hp
  have hpm := nodes_plug c0 (.leaf i E0)
  rw [Tr.leaf_id, nodes_leaf] at hpm
  have hleaf : fitsP true E0 = true ∧ Keys E0 := h1.fit ⟨i, true, E0, []⟩ (hpm.mem_iff.2 (by simp))
  have := room_same (E := E0) hg hn hl hx hleaf.1 hleaf.2 (fun y hy => by
   have h6 := h1.fit y (hpm.mem_iff.2 (by simp [hy]))
   exact ⟨h6.1, h6.2, path_leaf c0 i y hy⟩) h4 hs
  omega
 ·rintro e w' ⟨M', u', pg', rfl, h1, h2⟩
  exact ⟨M', u', pg', rfl, h1.more (by omega), h2⟩
theorem madeQ_any (Q : Pr → Prop) (w : World) (n : Nat) (h1 : 1 ≤ n) (h2 : n ≤ 65536) :
  Calls Tryz.prog 8 #[.int .i64 n] w fun e w' => ∃ p tb M u pg, e = .returned (.tuple #[.pointer (some ⟨p, 0, none⟩), .pointer (some ⟨tb, 0, none⟩)]) ∧ OneQ Q w' p tb n M u pg 4 [] ∧ w.heap.size ≤ tb ∧ Step [] M w w' := by
 refine (madeT_any w n h1 h2).mono ?_
 rintro e w' ⟨p, tb, M, pg, rfl, hP, hT, hl, hS⟩
 obtain ⟨H, T, g1, g2, g3, g4⟩ := hT.tree
 refine ⟨p, tb, M, _, pg, rfl, ⟨hP, hT.at_, hT.off, ⟨H, T, g1, g2, g3, ?_, fun j hj => (nums_mem g4 j).2 (usedT_get n j hj)⟩, usedT_len n⟩, hl, hS⟩
 have hlen : (nodes H T).length = 1 := by have := congrArg List.length g4; simpa [natsI] using this
 intro m hm e he
 have hm2 : m ∈ nodes H T := hm
 exfalso
 have hin : AllQ (fun e => e ∈ entsT T) (nodes H T) := by
  cases H with
  | zero =>
   obtain ⟨i, E, rfl⟩ := Tr.is_leaf T
   rw [nodes_leaf]
   intro a ha b hb
   rw [Zl] at ha
   subst ha
   rw [entsT_leaf]; exact hb
  | succ H =>
   obtain ⟨i, E, K, rfl⟩ := Tr.is_node T
   have hw := ((wf_node i E K).1 g1.wf).1
   rw [nodes_node] at hlen
   cases K with
   | nil => simp at hw
   | cons a K => simp [nodes] at hlen
 have := hin m hm e he
 rw [g2] at this
 cases this
end Go.Proofs.YtiijokopcgnokaaGreat.T
namespace Go.Proofs.YtiijokopcgnokaaGreat.T
open Go Go.RowKit D B C G P H
set_option maxRecDepth 100000 in
theorem bytes_same {w : World} {x y : Value} {a : List UInt8} (hx : BytesAt w x a) (hy : BytesAt w y a) :
  Calls Tryz.prog 17 #[x, y] w fun e w' => e = .returned (.bool true) ∧ w = w' := by
 have c1 := bytes_string hx
 have c2 := bytes_string hy
 go_enter Tryz.func17, Tryz.ntmps17
 go_wp2_with fail
 go_ret
 exact ⟨rfl, rfl⟩
def boolsC (B : List Bool) : List Value := B.map Value.bool
theorem boolsC_get {B : List Bool} {j : Nat} (h : j < B.length) : (boolsC B)[j]? = some (.bool (B.getD j false)) := by
 unfold boolsC
 rw [Zu, Zc h, Ze, Zc h]
 rfl
theorem boolsC_set (B : List Bool) (j : Nat) (b : Bool) : (boolsC B).set j (.bool b) = boolsC (B.set j b) := by
 unfold boolsC
 rw [List.map_set]
theorem set_same {B : List Bool} {j : Nat} {b : Bool} (hj : j < B.length) (h : B.getD j false = b) : B.set j b = B := by
 refine List.ext_getElem? fun i => ?_
 rw [List.getElem?_set]
 by_cases hij : j = i
 ·subst hij
  rw [if_pos rfl, if_pos hj, Zc hj]
  rw [Ze, Zc hj] at h
  rw [← h]; rfl
 ·rw [if_neg hij]
theorem tw_full {K : List UInt8} {B : List Bool} (h : ∀ j, j < B.length → B.getD j false = true) : (twinE K B).length = B.length := by
 unfold twinE
 rw [Zp, List.filter_eq_self.2 (fun j hj => h j (Wu.1 hj)), List.length_range]
theorem tw_free {K : List UInt8} {B : List Bool} (h : (twinE K B).length < B.length) : ∃ j, j < B.length ∧ B.getD j false = false := by
 refine Classical.byContradiction fun hn => ?_
 have := tw_full (K := K) (B := B) (fun j hj => by
  cases hb : B.getD j false with
  | true => rfl
  | false => exact absurd ⟨j, hj, hb⟩ hn)
 omega
theorem tw_most {K : List UInt8} {B : List Bool} (hK : K.length ≤ 300) {i : Nat} (hi : (twinE K B).length ≤ i) : mostP (twinE K B) ≤ 4 + 3 * i + i / 4 := by
 have h1 := most_same (n := K.length) (l := twinE K B) (fun x hx => by obtain ⟨j, _, rfl⟩ := tw_mem.1 hx; rfl)
 have h2 : (twinE K B).length * K.length ≤ i * 300 := Nat.mul_le_mul hi hK
 omega
structure TwJ (w wr : World) (K : List UInt8) (p tb n : Nat) (M : List Nat) (u : List Bool) (pg : Nat → List UInt8) (k : Nat) (B : List Bool) (X : Nat) : Prop where
 one : OneQ (fun e => e.1.length = K.length) wr p tb 300 M u pg k (twinE K B)
 x : Blk wr X (boolsC B) 4
 len : B.length = n
 step : Step [] M w wr
 off : X ∉ M
 new : w.heap.size ≤ X
section
variable {w wr w' : World} {K : List UInt8} {p tb n k X : Nat} {M M' : List Nat} {u u' : List Bool} {pg pg' : Nat → List UInt8} {B B' : List Bool}
theorem TwJ.past (h : TwJ w wr K p tb n M u pg k B X) (hO : Only [] wr w') : TwJ w w' K p tb n M u pg k B X :=
 ⟨h.one.past hO, hO.blk h.x (by simp), h.len, h.step.then hO, h.off, h.new⟩
theorem TwJ.keys (h : TwJ w wr K p tb n M u pg k B X) : ∀ e ∈ twinE K B, e.1.length = K.length := fun e he => by obtain ⟨j, _, rfl⟩ := tw_mem.1 he; rfl
theorem TwJ.mark (h : TwJ w wr K p tb n M u pg k B X) {k' j : Nat} {b : Bool} (hj : j < n) (hB : OneQ (fun e => e.1.length = K.length) w' p tb 300 M' u' pg' k' (twinE K (B.set j b))) (hS : Step M M' wr w') :
  w'.cell? ⟨X, j, none⟩ = some (.bool (B.getD j false)) ∧ w'.frozen? ⟨X, j, none⟩ = false ∧ TwJ w (w'.setCell ⟨X, j, none⟩ (.bool b)) K p tb n M' u' pg' k' (B.set j b) X := by
 have hx := hS.1.blk h.x h.off
 have hoff := P.Step.keep hS h.x.lt h.off
 have hO : Only [X] w' (w'.setCell ⟨X, j, none⟩ (.bool b)) := only_set _ _ _ _
 have hjl : j < B.length := by rw [h.len]; exact hj
 refine ⟨by rw [hx.cell, boolsC_get hjl], hx.frozen j, ⟨hB.later hO (fun x hx2 cs hb => ?_) (fun x hx2 hm => ?_) (fun hm => ?_), ?_, by rw [Xj]; exact h.len, ?_, hoff, h.new⟩⟩
 ·simp at hx2
  subst hx2
  exact absurd (hb.inj hx).2 (by decide)
 ·simp at hm
  subst hm
  exact hoff hx2
 ·simp at hm
  subst hm
  exact absurd (hx.inj hB.at_).2 (by decide)
 ·rw [← boolsC_set]
  exact hx.set j _
 ·have h1 := h.step.trans hS
  exact ⟨h1.1.trans hO (fun y hy => by simp at hy; subst hy; exact .inr h.new), h1.2⟩
theorem TwJ.insert (h : TwJ w wr K p tb n M u pg k B X) {kv : Value} {j i : Nat} (hv : BytesAt wr kv K) (hK : K.length ≤ 300) (hn : n ≤ 60) (hj : j < n) (hb : B.getD j false = false) (hi : (twinE K B).length = i) (hin : i < n) (hk : k ≤ 800000) :
  Calls Tryz.prog 11 #[.pointer (some ⟨tb, 0, none⟩), kv, .int .u64 j] wr fun e w' => ∃ M' u' pg', e = .returned (.int .i64 0) ∧ w'.cell? ⟨X, j, none⟩ = some (.bool false) ∧ w'.frozen? ⟨X, j, none⟩ = false ∧ TwJ w (w'.setCell ⟨X, j, none⟩ (.bool true)) K p tb n M' u' pg' (k + 2162) (B.set j true) X ∧ (twinE K (B.set j true)).length = i + 1 := by
 have hjl : j < B.length := by rw [h.len]; exact hj
 have hins := tw_ins (K := K) hjl hb
 have hlen : (twinE K (B.set j true)).length = i + 1 := by rw [← hins, ins_len, hi]
 have hm1 := tw_most (K := K) (B := B) hK (i := 59) (by omega)
 have hm2 := tw_most (K := K) (B := B.set j true) hK (i := 60) (by omega)
 have hhas := tw_has K B j
 rw [hb] at hhas
 refine (h.one.insert_same (m := 195) (m2 := 199) (x := j) (l := K) (c := 0) (E' := twinE K (B.set j true)) hv rfl hK (by omega) h.keys (by omega) (by rw [hins]; omega) (by omega) (by omega) (by omega) (by omega) (by rw [hhas]; rfl) (by rw [hhas, if_neg (by simp)]; exact hins)).mono ?_
 rintro e w' ⟨M', u', pg', rfl, hB, hS⟩
 obtain ⟨g1, g2, g3⟩ := h.mark (b := true) hj hB hS
 rw [hb] at g1
 exact ⟨M', u', pg', rfl, g1, g2, g3, hlen⟩
theorem TwJ.delete (h : TwJ w wr K p tb n M u pg k B X) {kv : Value} {j : Nat} {b : Bool} {c : Int} (hv : BytesAt wr kv K) (hK : K.length ≤ 300) (hn : n ≤ 60) (hj : j < n) (hb : B.getD j false = b) (hc : (if b then (0 : Int) else 82) = c) (hk : k ≤ 800000) :
  Calls Tryz.prog 14 #[.pointer (some ⟨tb, 0, none⟩), kv, .int .u64 j] wr fun e w' => ∃ M' u' pg', e = .returned (.int .i64 c) ∧ w'.cell? ⟨X, j, none⟩ = some (.bool b) ∧ w'.frozen? ⟨X, j, none⟩ = false ∧ TwJ w (w'.setCell ⟨X, j, none⟩ (.bool false)) K p tb n M' u' pg' (k + 1196) (B.set j false) X := by
 have hjl : j < B.length := by rw [h.len]; exact hj
 have hlen := tw_len K B
 have hl2 := h.len
 have hm1 := tw_most (K := K) (B := B) hK (i := 60) (by omega)
 have hhas := tw_has K B j
 rw [hb] at hhas
 refine (h.one.delete (m := 199) (x := j) (l := K) (c := c) (E' := twinE K (B.set j false)) hv hK (by omega) h.keys (by omega) (by omega) (by omega) (by omega) (by rw [hhas]; exact hc) (by
  rw [hhas]
  cases b with
  | true => rw [if_pos rfl]; exact tw_del hb
  | false => rw [if_neg (by simp), set_same hjl hb])).mono ?_
 rintro e w' ⟨M', u', pg', rfl, hB, hS⟩
 obtain ⟨g1, g2, g3⟩ := h.mark (b := false) hj hB hS
 rw [hb] at g1
 exact ⟨M', u', pg', rfl, g1, g2, g3⟩
theorem TwJ.after (h : TwJ w wr K p tb n M u pg k B X) {k' cb : Nat} (hB : OneQ (fun e => e.1.length = K.length) w' p tb 300 M' u' pg' k' (twinE K B)) (hO : Only (M ++ [cb]) wr w') (hm : ∀ x ∈ M', x ∈ M ∨ wr.heap.size ≤ x) (hc : X ≠ cb) (hcn : w.heap.size ≤ cb) : TwJ w w' K p tb n M' u' pg' k' B X := by
 have hX : X ∉ M ++ [cb] := fun h1 => by
  rcases Za.1 h1 with h2 | h2
  ·exact h.off h2
  ·simp at h2; exact hc h2
 refine ⟨hB, hO.blk h.x hX, h.len, ⟨h.step.1.trans hO (fun y hy => ?_), fun y hy => ?_⟩, fun h1 => ?_, h.new⟩
 ·rcases Za.1 hy with h2 | h2
  ·exact h.step.2 y h2
  ·simp at h2; subst h2; exact .inr hcn
 ·rcases hm y hy with h2 | h2
  ·exact h.step.2 y h2
  ·exact .inr (Zo h.step.1.size h2)
 ·rcases hm X h1 with h2 | h2
  ·exact h.off h2
  ·have := h.x.lt; omega
end
end Go.Proofs.YtiijokopcgnokaaGreat.T
namespace Go.Proofs.YtiijokopcgnokaaGreat.T
open Go Go.RowKit D B C G P H
theorem mod_int (a n : Nat) : (a : Int).tmod (n : Int) = ((a % n : Nat) : Int) := rfl
set_option maxRecDepth 100000 in
set_option maxHeartbeats 4000000 in
theorem twins_law (va : Value) (K : List UInt8) {w : World} (ha : BytesAt w va K) (n : Int) (hn : -9223372036854775808 ≤ n ∧ n ≤ 9223372036854775807) (vb : Value) (G : List UInt8) (hb : BytesAt w vb G) :
  Calls Tryz.prog 4 #[va, .int .i64 n, vb] w fun e w' => e = .returned (.bool true) ∧ Below w.heap.size w w' := by
 have KN := fun w => Lib.hid (knownT_any w)
 have MD := fun w => Lib.hid (madeQ_any (fun e => e.1.length = K.length) w 300 (by omega) (by omega))
 have HA := Lib.hid ha
 obtain ⟨xa, ca, rfl, _⟩ := ha
 obtain ⟨xb, cb, rfl, hcb⟩ := hb
 obtain ⟨lk, hlk⟩ : ∃ n, K.length = n := ⟨_, rfl⟩
 obtain ⟨lg, hlg⟩ : ∃ n, G.length = n := ⟨_, rfl⟩
 rw [hlg] at hcb
 have LK := Lib.hid hlk
 have LG := Lib.hid hlg
 have CG := Lib.hid hcb
 rw [hlk] at HA
 rw [hlk, hlg]
 clear hlk hlg hcb
 by_cases h1 : 300 < lk
 ·have h1' : (300 : Int) < lk := by omega
  go_enter Tryz.func4, Tryz.ntmps4
  go_wp2_with (go_at_call 7; refine (KN _).out.mono ?_; rintro e w1 ⟨rfl, hO⟩; have O1 := Lib.hid hO; clear hO)
  go_ret
  exact ⟨rfl, O1.out.below (Zt _) (by simp)⟩
 have h1' : ¬ (300 : Int) < lk := by omega
 by_cases h2 : n < 1
 ·go_enter Tryz.func4, Tryz.ntmps4
  go_wp2_with (go_at_call 7; refine (KN _).out.mono ?_; rintro e w1 ⟨rfl, hO⟩; have O1 := Lib.hid hO; clear hO)
  go_ret
  exact ⟨rfl, O1.out.below (Zt _) (by simp)⟩
 by_cases h3 : 60 < n
 ·go_enter Tryz.func4, Tryz.ntmps4
  go_wp2_with (go_at_call 7; refine (KN _).out.mono ?_; rintro e w1 ⟨rfl, hO⟩; have O1 := Lib.hid hO; clear hO)
  go_ret
  exact ⟨rfl, O1.out.below (Zt _) (by simp)⟩
 by_cases h4 : 60 < lg
 ·have h4' : (60 : Int) < lg := by omega
  go_enter Tryz.func4, Tryz.ntmps4
  go_wp2_with (go_at_call 7; refine (KN _).out.mono ?_; rintro e w1 ⟨rfl, hO⟩; have O1 := Lib.hid hO; clear hO)
  go_ret
  exact ⟨rfl, O1.out.below (Zt _) (by simp)⟩
 have h4' : ¬ (60 : Int) < lg := by omega
 obtain ⟨m, rfl⟩ : ∃ m : Nat, n = m := ⟨n.toNat, by omega⟩
 have hmk := bools_make m (by omega)
 generalize hz : (List.replicate m (Value.bool false)).toArray = Z at hmk
 have HZ := Lib.hid hz
 clear hz
 go_enter Tryz.func4, Tryz.ntmps4
 go_upto_region 5 with (go_at_call 7; refine (KN _).out.mono ?_; rintro e w1 ⟨rfl, hO⟩; have O1 := Lib.hid hO; clear hO)
 clear h1' h4'
 go_upto_region 10 with (go_at_call 8; refine (MD _).out.mono ?_; rintro e w2 ⟨p, tb, M2, u2, pg2, rfl, hB, hl, hS⟩; have B2 := Lib.hid hB; have S2 := Lib.hid (Step.ahead O1.out hS); clear hB hl hS)
 obtain ⟨w3, hw3⟩ : ∃ w3, w2.alloc (.cells Z 4) = w3 := ⟨_, rfl⟩
 have hj : TwJ w w3 K p tb m M2 u2 pg2 4 (List.replicate m false) w2.heap.size := by
  have hO : Only [] w2 w3 := by rw [← hw3]; exact (Only.refl _ _).alloc _
  refine ⟨?_, ?_, Xx .., S2.out.then hO, fun hm => ?_, S2.out.1.size⟩
  ·rw [tw_none]
   exact B2.out.past hO
  ·rw [← hw3, ← HZ.out, show boolsC (List.replicate m false) = List.replicate m (Value.bool false) from List.map_replicate ..]
   exact Blk.new _ _ _
  ·exact Nat.lt_irrefl _ (B2.out.pool.lt _ hm)
 rw [hw3]
 clear hw3 hmk
 obtain ⟨X, hX⟩ : ∃ X, w2.heap.size = X := ⟨_, rfl⟩
 rw [hX] at hj
 rw [hX]
 have J3 := Lib.hid hj
 have HM : Hid (1 ≤ m ∧ m ≤ 60) := ⟨by omega, by omega⟩
 have HK : Hid (K.length ≤ 300) := by show _ ≤ _; rw [LK.out]; omega
 have HG : Hid (G.length ≤ 60) := by show _ ≤ _; rw [LG.out]; omega
 clear hj hX B2 S2 O1 h1 h2 h3 h4 hn
 have hm1 : (m : Int) ≤ 60 := by have := HM.out; omega
 have hm0 : (0 : Int) < m := by have := HM.out; omega
 go_loopg [10, 11] m (fun gk s10 s11 wr => ∃ (i : Nat) (M : List Nat) (u : List Bool) (pg : Nat → List UInt8) (B : List Bool), gk = m - i ∧ i ≤ m ∧ s10 = .int .i64 i ∧ TwJ w wr K p tb m M u pg (4 + 2162 * i) B X ∧ (twinE K B).length = i)
 case atStart => exact ⟨0, M2, u2, pg2, _, rfl, Ye _, rfl, J3.out, by rw [tw_none]; rfl⟩
 case round =>
  obtain ⟨i, M, u, pg, B, hgk, hi, rfl, hJ, hEL⟩ := hrel
  have HGK := Lib.hid hgk
  have J := Lib.hid hJ
  have EL := Lib.hid hEL
  clear hgk hJ hEL J3
  by_cases hlt : i < m
  ·have hlt' : (i : Int) < m := by omega
   obtain ⟨d, hd1, hd2, hd3⟩ := free_place (tw_free (K := K) (B := B) (by rw [EL.out, J.out.len]; exact hlt)) ((i * 7 + 3) % m) (by rw [J.out.len]; exact Nat.mod_lt _ (by have := HM.out; omega))
   rw [J.out.len] at hd1 hd2 hd3
   have D2 := Lib.hid hd2
   have D3 := Lib.hid hd3
   clear hd2 hd3
   obtain ⟨k0, hk0⟩ : ∃ k0, (i * 7 + 3) % m = k0 := ⟨_, rfl⟩
   rw [hk0] at D2 D3
   have hk0m : k0 < m := by rw [← hk0]; exact Nat.mod_lt _ (by have := HM.out; omega)
   have hr0 : ((i : Int) * 7 + 3).tmod m = (k0 : Int) := by rw [← hk0]; exact mod_int (i * 7 + 3) m
   clear hk0
   go_upto_region 13 with fail
   obtain ⟨w4, rfl⟩ : ∃ w4, w4 = wr := ⟨wr, rfl⟩
   go_loopg [11] d (fun gk s11 wr => ∃ e : Nat, gk = d - e ∧ e ≤ d ∧ s11 = .int .i64 ((k0 + e) % m : Nat) ∧ wr = w4)
   case atStart => exact ⟨0, rfl, Ye _, by rw [Vg, Ww hk0m], rfl⟩
   case round =>
    obtain ⟨e, hgk, he, rfl, hwr⟩ := hrel
    obtain rfl : w4 = _ := hwr.symm
    have HGE := Lib.hid hgk
    clear hgk hr0
    obtain ⟨q, hq⟩ : ∃ q, (k0 + e) % m = q := ⟨_, rfl⟩
    have hqm : q < m := by rw [← hq]; exact Nat.mod_lt _ (by have := HM.out; omega)
    have hqm' : (q : Int) < m := by omega
    have hx := (J.out.x.cell q).trans (boolsC_get (by rw [J.out.len]; exact hqm))
    rw [hq]
    have HQ := Lib.hid hq
    clear hq
    by_cases hed : e < d
    ·have hb : B.getD q false = true := by rw [← HQ.out]; exact D3.out e hed
     rw [hb] at hx
     have hr9 : (q + 1) % m = (k0 + (e + 1)) % m := by rw [← HQ.out, Nat.mod_add_mod, Ws]
     have hr : ((q : Int) + 1).tmod m = (((k0 + (e + 1)) % m : Nat) : Int) := by rw [← hr9]; exact mod_int (q + 1) m
     clear hr9
     clear hb
     go_wp2_with fail
     go_roundg (d - (e + 1))
     case measure => have := HGE.out; omega
     case rel => exact ⟨e + 1, rfl, by omega, rfl, rfl⟩
    ·have hb : B.getD q false = false := by rw [← HQ.out, show e = d by omega]; exact D2.out
     rw [hb] at hx
     have hwu : IntKind.u64.wrap (q : Int) = q := by simp [IntKind.wrap, IntKind.signed, IntKind.bits]; omega
     have INS := Lib.hid (J.out.insert (kv := .slice xa lk ca) (j := q) (i := i) (bytes_past HA.out J.out.step.1) HK.out HM.out.2 hqm hb EL.out hlt (by omega))
     clear hb hed he
     go_wp2_with (go_at_call 11; refine INS.out.mono ?_; rintro e5 w5 ⟨M5, u5, pg5, rfl, hc5, hz5, hJ5, hE5⟩; have J5 := Lib.hid hJ5; have E5 := Lib.hid hE5; clear hJ5 hE5)
     go_roundg (m - (i + 1))
     case measure => have := HGK.out; omega
     case rel => exact ⟨i + 1, M5, u5, pg5, B.set q true, rfl, by omega, by go_num, by rw [show 4 + 2162 * (i + 1) = 4 + 2162 * i + 2162 by omega]; exact J5.out, E5.out⟩
  ·have him : i = m := by omega
   subst him
   have hnlt : ¬ (i : Int) < i := by omega
   obtain ⟨k1, hk1⟩ : ∃ k1, 4 + 2162 * i = k1 := ⟨_, rfl⟩
   rw [hk1] at J
   have K1 : Hid (k1 ≤ 129724) := by show _ ≤ _; have := HM.out; omega
   clear hk1 hlt hi
   go_wp2_with fail
   obtain ⟨w4, rfl⟩ : ∃ w4, w4 = wr := ⟨wr, rfl⟩
   go_loopg [12, 13, 14] lg (fun gk s12 s13 s14 wr => ∃ (j : Nat) (M : List Nat) (u : List Bool) (pg : Nat → List UInt8) (B : List Bool), gk = lg - j ∧ j ≤ lg ∧ s12 = .int .i64 j ∧ TwJ w wr K p tb i M u pg (k1 + 1196 * j) B X)
   case atStart => exact ⟨0, M, u, pg, B, rfl, Ye _, rfl, J.out⟩
   case round =>
    obtain ⟨j, M, u, pg, B, hgk, hjl, rfl, hJ⟩ := hrel
    have HGJ := Lib.hid hgk
    have J4 := Lib.hid hJ
    clear hgk hJ
    have LGB : Hid (lg ≤ 60) := by show _ ≤ _; have h1 := HG.out; rw [LG.out] at h1; exact h1
    by_cases hlt : j < lg
    ·have hlt' : (j : Int) < lg := by omega
     obtain ⟨ag, ao, rfl, hcell⟩ := CG.out (by omega)
     obtain ⟨b, hb⟩ : ∃ b, G.getD j 0 = b := ⟨_, rfl⟩
     have hcw := hcell j hlt
     rw [hb] at hcw
     have hc := J4.out.step.1.cell hcw (by simp)
     have hb0 : (0 : Int) ≤ b.toNat := by omega
     have hb1 : (b.toNat : Int) < 256 := by have := b.toNat_lt; omega
     obtain ⟨q, hq⟩ : ∃ q, b.toNat % i = q := ⟨_, rfl⟩
     have hqm : q < i := by rw [← hq]; exact Nat.mod_lt _ (by have := HM.out; omega)
     have hqm' : (q : Int) < i := by omega
     have hr : (b.toNat : Int).tmod i = (q : Int) := by rw [← hq]; exact mod_int _ i
     have hwu : IntKind.u64.wrap (q : Int) = q := by simp [IntKind.wrap, IntKind.signed, IntKind.bits]; omega
     obtain ⟨bb, c, hbb, hcc, hbc⟩ : ∃ (bb : Bool) (c : Int), B.getD q false = bb ∧ (if bb then (0 : Int) else 82) = c ∧ ((bb = true ∧ c = 0) ∨ (bb = false ∧ c = 82)) := by
      refine ⟨_, _, rfl, rfl, ?_⟩
      cases B.getD q false <;> simp
     have HBC := Lib.hid hbc
     have DEL := Lib.hid (J4.out.delete (kv := .slice xa lk ca) (j := q) (bytes_past HA.out J4.out.step.1) HK.out HM.out.2 hqm hbb hcc (by have h1 := K1.out; have h2 := LGB.out; omega))
     clear hq hbb hcc hbc hcell hcw hb
     go_upto_region 23 with (go_at_call 14; refine DEL.out.mono ?_; rintro e5 w5 ⟨M5, u5, pg5, rfl, hc5, hz5, hJ5⟩; have J5 := Lib.hid hJ5; clear hJ5)
     clear hc
     rcases HBC.out with ⟨rfl, rfl⟩ | ⟨rfl, rfl⟩
     ·go_wp2_with fail
      go_roundg (lg - (j + 1))
      case measure => have := HGJ.out; omega
      case rel => exact ⟨j + 1, M5, u5, pg5, B.set q false, rfl, by omega, by go_num, by rw [show k1 + 1196 * (j + 1) = k1 + 1196 * j + 1196 by omega]; exact J5.out⟩
     ·go_wp2_with fail
      go_roundg (lg - (j + 1))
      case measure => have := HGJ.out; omega
      case rel => exact ⟨j + 1, M5, u5, pg5, B.set q false, rfl, by omega, by go_num, by rw [show k1 + 1196 * (j + 1) = k1 + 1196 * j + 1196 by omega]; exact J5.out⟩
    ·have hjn : j = lg := by omega
     subst hjn
     have hnl2 : ¬ (j : Int) < j := by omega
     obtain ⟨k2, hk2⟩ : ∃ k2, k1 + 1196 * j = k2 := ⟨_, rfl⟩
     rw [hk2] at J4
     have K2 : Hid (k2 ≤ 201484) := by show _ ≤ _; have h1 := K1.out; have h2 := LGB.out; omega
     have SK := Lib.hid (seek_any (tb := tb) (bytes_past HA.out J4.out.step.1) (by have := HK.out; omega) J4.out.one.pool.lt)
     clear hk2 hlt hjl J EL
     go_upto_region 27 with (go_at_call 15; refine SK.out.mono ?_; rintro e6 w6 ⟨cb, v6, rfl, hC6, hl6, hO6⟩; have C6 := Lib.hid hC6; have L6 := Lib.hid hl6; have J6 := Lib.hid (J4.out.past hO6); clear hC6 hl6 hO6)
     have CBN : Hid (w.heap.size ≤ cb ∧ X ≠ cb) := ⟨Zo J4.out.step.1.size L6.out, fun e => by
      subst e
      exact absurd (J6.out.x.inj C6.out.blk).2 (by decide)⟩
     have BL : Hid (B.length = i) := J6.out.len
     have TWS : Hid (TwCur K B 0 (K, 0) false) := TwCur.start K B
     have MST : Hid (mostP (twinE K B) ≤ 199) := by
      have h1 := tw_len K B
      have h2 := HM.out
      have h3 := BL.out
      exact Zo (tw_most HK.out (i := 60) (by omega)) (by omega)
     clear SK J4 hnl2
     go_wp2_with fail
     obtain ⟨w4, rfl⟩ : ∃ w4, w4 = wr := ⟨wr, rfl⟩
     go_loopg [16, 17, 18, 19] i (fun gk s16 s17 s18 s19 wr => ∃ (l : Nat) (M : List Nat) (kv : Value) (last : Pr) (begun : Bool), gk = i - l ∧ l ≤ i ∧ s16 = .int .i64 l ∧ TwJ w wr K p tb i M u pg (k2 + 398 * l) B X ∧ CurAt wr M cb tb kv last begun ∧ TwCur K B l last begun)
     case atStart => exact ⟨0, M, v6, (K, 0), false, rfl, Ye _, rfl, J6.out, C6.out, TWS.out⟩
     case round =>
      obtain ⟨l, M, kv, last, begun, hgk, hl, rfl, hJ, hC, hT⟩ := hrel
      have HGL := Lib.hid hgk
      have J := Lib.hid hJ
      have C := Lib.hid hC
      have TC := Lib.hid hT
      clear hgk hJ hC hT
      by_cases hlt : l < i
      ·have hlt' : (l : Int) < i := by omega
       have hx := (J.out.x.cell l).trans (boolsC_get (by rw [BL.out]; exact hlt))
       cases hb : B.getD l false with
       | false =>
        rw [hb] at hx
        have HB := Lib.hid hb
        clear hb
        go_wp2_with fail
        go_roundg (i - (l + 1))
        case measure => have := HGL.out; omega
        case rel => exact ⟨l + 1, M, kv, last, begun, rfl, by omega, by go_num, ⟨J.out.one.more (by omega), J.out.x, J.out.len, J.out.step, J.out.off, J.out.new⟩, C.out, TC.out.skip HB.out⟩
       | true =>
        rw [hb] at hx
        have TN := Lib.hid (TC.out.next hb)
        have NE := Lib.hid (J.out.one.next C.out MST.out (by omega) (by have h1 := K2.out; have h2 := HM.out; omega) TN.out.1)
        have hwu : IntKind.u64.wrap (l : Int) = l := by have := HM.out; simp [IntKind.wrap, IntKind.signed, IntKind.bits]; omega
        clear hb
        go_upto_region 32 with (go_at_call 16; refine NE.out.mono ?_; rintro e7 w7 ⟨M7, ⟨g1, _⟩ | ⟨x, kv7, rv, g1, rfl, g2, g3, g4, g5, g6, g7, g8⟩⟩; (cases g1); obtain rfl := Option.some.inj g1; have K7 := Lib.hid g2; have C7 := Lib.hid g5; have J7 := Lib.hid (J.out.after g4 g7 g8 CBN.out.2 CBN.out.1); clear g1 g2 g3 g4 g5 g6 g7 g8; obtain ⟨ra, rc, hrv, _⟩ := id K7.out.bytes; dsimp only at hrv; subst hrv)
        clear hx
        obtain ⟨w8, hw8⟩ : ∃ w8, w7.alloc (.cells #[.slice ra K.length rc, .int .u64 l] 43) = w8 := ⟨_, rfl⟩
        have O8 : Hid (Only [] w7 w8) := by show Only _ _ _; rw [← hw8]; exact (Only.refl _ _).alloc _
        have PB8 : Hid (Blk w8 w7.heap.size [.slice ra K.length rc, .int .u64 l] 43) := by show Blk _ _ _ _; rw [← hw8]; exact Blk.new [.slice ra K.length rc, .int .u64 l] 43 w7
        rw [hw8]
        clear hw8
        have p0 := PB8.out.cell 0
        have p1 := PB8.out.cell 1
        simp only [Zb, Zd] at p0 p1
        have J8 := Lib.hid (J7.out.past O8.out)
        have C8 : Hid (CurAt w8 M7 cb tb kv7 (K, l) true) := C7.out.step ((Step.refl M7 w7).then O8.out)
        have BY := Lib.hid (bytes_same (bytes_past K7.out.bytes O8.out) (bytes_past HA.out J8.out.step.1))
        go_wp2_with (go_at_call 17; refine BY.out.mono ?_; rintro e9 w9 ⟨rfl, rfl⟩)
        go_roundg (i - (l + 1))
        case measure => have := HGL.out; omega
        case rel => exact ⟨l + 1, M7, kv7, (K, l), true, rfl, by omega, by go_num, by rw [show k2 + 398 * (l + 1) = k2 + 398 * l + 2 * 199 by omega]; exact J8.out, C8.out, TN.out.2⟩
      ·have hli : l = i := by omega
       subst hli
       have hnl : ¬ (l : Int) < l := by omega
       have TE : Hid (nextP (twinE K B) last begun = none) := by
        show _ = _
        have h1 := TC.out
        rw [← BL.out] at h1
        exact h1.none
       have hne : Calls Tryz.prog 16 #[.pointer (some ⟨cb, 0, none⟩)] wr fun e w' => ∃ M', e = .returned (.tuple #[.agg #[.slice none 0 0, .int .u64 0], .bool false, .int .i64 0]) ∧ OneQ (fun e => e.1.length = K.length) w' p tb 300 M' u pg (k2 + 398 * l + 2 * 199) (twinE K B) ∧ Step M M' wr w' :=
        (J.out.one.next C.out MST.out (by omega) (by have h1 := K2.out; have h2 := HM.out; omega) TE.out).mono (fun e w' h => by
         obtain ⟨M', ⟨_, h1, h2, _, h3⟩ | ⟨x, _, _, h1, _⟩⟩ := h
         ·exact ⟨M', h1, h2, h3⟩
         ·cases h1)
       have NE := Lib.hid hne
       clear hne
       go_upto_region 35 with (go_at_call 16; refine NE.out.mono ?_; rintro e7 w7 ⟨M7, rfl, g2, g4⟩; have B7 := Lib.hid g2; have S7 := Lib.hid (J.out.step.trans g4); clear g2 g4)
       have O8 : Hid (Only [] w7 (w7.alloc (.cells #[.slice none 0 0, .int .u64 0] 43))) := (Only.refl _ _).alloc _
       have CK := Lib.hid ((B7.out.past O8.out).check MST.out (by omega) (by have h1 := K2.out; have h2 := HM.out; omega))
       go_wp2_with (go_at_call 18; refine CK.out.mono ?_; rintro e9 w9 ⟨M9, rfl, _, hs9⟩; have S9 := Lib.hid hs9; clear hs9)
       go_ret
       exact ⟨rfl, ((S7.out.then O8.out).trans S9.out).1.below (Zt _) (by simp)⟩
end Go.Proofs.YtiijokopcgnokaaGreat.T
