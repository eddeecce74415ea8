/-
  The program's log on a disk that nothing befalls: Format, Open, Append, Flush, as plain data. No program in sight.
-/
import Derived.Test.YtjbjikigiienkaaWalT
namespace Go.Proofs.Ytjbjikigiienkaa.W
set_option linter.unusedSimpArgs false
open Go.RowKit Go.Proofs.Ytjbjikigiienkaa.D Go.Proofs.Ytjbjikigiienkaa.B
set_option linter.unusedVariables false
variable {l l' : LS} {s s' : DS} {B : List UInt8}

theorem cat_congr (l l' : LS) (s s' : DS) (hf : l'.first = l.first) : ∀ k, (∀ i, i < k → s'.now.getD (l.first + 2 + i) [] = s.now.getD (l.first + 2 + i) []) → cat l' s' k = cat l s k
  | 0, _ => rfl
  | k + 1, h => by
    rw [cat, cat, cat_congr l l' s s' hf k (fun i hi => h i (by omega)), hf, h k (by omega)]
theorem cat_get (l : LS) (s : DS) (h : ∀ i, i < s.now.length → (s.now.getD i []).length = 512) : ∀ k, l.first + 2 + k ≤ s.now.length → ∀ i, i < 512 * k → (cat l s k).getD i 0 = (s.now.getD (l.first + 2 + i / 512) []).getD (i % 512) 0
  | 0, _, i, hi => by omega
  | k + 1, hk, i, hi => by
    have hl := cat_len l s h k (by omega)
    rw [cat, List.getD_eq_getElem?_getD]
    by_cases h1 : i < 512 * k
    · rw [List.getElem?_append_left (by omega), ← List.getD_eq_getElem?_getD, cat_get l s h k (by omega) i h1]
    · rw [List.getElem?_append_right (by omega), hl, ← List.getD_eq_getElem?_getD, show i / 512 = k by omega, show i - 512 * k = i % 512 by omega]
theorem zeros_get (j : Nat) : zeros.getD j 0 = 0 := by
  rw [List.getD_eq_getElem?_getD, zeros, List.getElem?_replicate]
  split <;> rfl
theorem chunk_get (t : List UInt8) (f j : Nat) (hj : j < 512) : (chunk t f).getD j 0 = t.getD (f + j) 0 := by
  unfold chunk
  rw [List.getD_eq_getElem?_getD]
  by_cases h : j < ((t.drop f).take 512).length
  · rw [List.getElem?_append_left h, ← List.getD_eq_getElem?_getD, getD_take _ _ _ hj, getD_drop]
  · rw [List.getElem?_append_right (by omega), List.getElem?_drop, ← List.getD_eq_getElem?_getD, zeros_get]
    rw [List.length_take, List.length_drop] at h
    rw [List.getD_eq_getElem?_getD, List.getElem?_eq_none (by omega)]
    rfl
theorem ok_size (l l' : LS) (h : l'.size = l.size) (b : List UInt8) : okOf l' b = okOf l b := by
  unfold okOf LS.room; rw [h]
/-- What the newer one of two heads tells. -/
theorem seeTo_head (s : DS) (a z i t f : Nat) (hi : i < 2) (ht0 : 0 < t) (ht : t < 18446744073709551616) (hf : f < 18446744073709551616) (hr : f ≤ (fresh0 a z).room)
    (h : s.now.getD (a + i) [] = headB z t f) (ho : okOf (fresh0 a z) (s.now.getD (a + (1 - i)) []) = true → turnOf (s.now.getD (a + (1 - i)) []) < t) :
    (fresh0 a z).seeTo s 2 = LS.mk a z t i 0 f [] false := by
  have hok : okOf (fresh0 a z) (headB z t f) = true := ok_head (fresh0 a z) t f ht0 ht hf hr
  have ht1 := turn_head z t f ht
  have hf1 := fin_head z t f hf
  have z0 : (fresh0 a z).first = a := rfl
  have e1 : (fresh0 a z).seeTo s 2 = (((fresh0 a z).see 0 (s.now.getD (a + 0) [])).see 1 (s.now.getD (a + 1) [])) := rfl
  rw [e1]
  rcases (by omega : i = 0 ∨ i = 1) with rfl | rfl
  · rw [h]
    have e2 : (fresh0 a z).see 0 (headB z t f) = LS.mk a z t 0 0 f [] false := by
      unfold LS.see
      rw [hok, ht1, hf1, if_pos ⟨rfl, ht0⟩]
      rfl
    rw [e2]
    unfold LS.see
    rw [if_neg]
    rintro ⟨h1, h2⟩
    rw [ok_size (fresh0 a z) (LS.mk a z t 0 0 f [] false) rfl] at h1
    have h3 : turnOf (s.now.getD (a + 1) []) < t := ho h1
    have h4 : t < turnOf (s.now.getD (a + 1) []) := h2
    omega
  · rw [h]
    have hs0 : ((fresh0 a z).see 0 (s.now.getD (a + 0) [])).turn < t ∧ ∃ t' f' i', (fresh0 a z).see 0 (s.now.getD (a + 0) []) = LS.mk a z t' i' 0 f' [] false := by
      unfold LS.see
      split
      · next h2 => exact ⟨ho h2.1, _, _, _, rfl⟩
      · exact ⟨ht0, 0, 0, 0, rfl⟩
    obtain ⟨h1, t', f', i', h2⟩ := hs0
    rw [h2] at h1 ⊢
    unfold LS.see
    rw [ok_size (fresh0 a z) (LS.mk a z t' i' 0 f' [] false) rfl, hok, ht1, hf1, if_pos ⟨rfl, h1⟩]
/-- The next head is written. -/
theorem heads_calm (hs : Calm s) (hrow : s.row = []) (f : Nat) (hp : l.first + 2 ≤ s.now.length) :
    ∃ s', headsS l s f = ({ l with turn := l.turn + 1, slot := (l.slot + 1) % 2 }, s', 0) ∧ Calm s' ∧ s'.now = s.now.set (l.first + (l.slot + 1) % 2) (headB l.size (l.turn + 1) f) ∧ s'.row = [] ∧ s'.sure = s'.now ∧ s'.count = s.count + 2 := by
  obtain ⟨s1, h1, c1, n1, k1, _⟩ := hs.write (l.first + (l.slot + 1) % 2) (by omega) (headB l.size (l.turn + 1) f) (headB_len _ _ _)
  obtain ⟨s2, h2, c2, n2, k2, r2, u2⟩ := c1.sync
  refine ⟨s2, ?_, c2, by rw [n2, n1], r2, by rw [u2, n2], by omega⟩
  unfold headsS
  simp only [h1, h2, ne_eq, not_true_eq_false, if_false]
/-- The log and its disk, when all goes well: the records' bytes are B. -/
structure Live (l : LS) (s : DS) (B : List UInt8) : Prop where
  calm : Calm s
  none : s.row = []
  same : s.sure = s.now
  place : l.first + l.size ≤ s.now.length
  four : 4 ≤ l.size
  big : s.now.length ≤ 16384
  fin : l.fin = B.length
  room : B.length ≤ l.room
  sure : l.sure ≤ B.length
  tail : l.tail = B.drop (l.sure / 512 * 512)
  t0 : 0 < l.turn
  t1 : (l.turn : Int) ≤ s.count + 1
  slot : l.slot < 2
  head : s.now.getD (l.first + l.slot) [] = headB l.size l.turn l.sure
  other : okOf l (s.now.getD (l.first + (1 - l.slot)) []) = true → turnOf (s.now.getD (l.first + (1 - l.slot)) []) < l.turn
  data : (cat l s (l.size - 2)).take l.sure = B.take l.sure
  alive : l.dead = false
theorem Live.ok (h : Live l s B) (hc : s.count ≤ 1099511627776) : Ok l where
  two := by have := h.four; omega
  big := by have := h.place; have := h.big; omega
  place := by have := h.place; have := h.big; omega
  sure := by rw [h.fin]; exact h.sure
  fin := by rw [h.fin]; exact h.room
  tail := by rw [h.tail, List.length_drop, h.fin]
  slot := h.slot
  turn := by have := h.t1; omega
theorem Live.sane (h : Live l s B) : Sane l s := ⟨by have := h.four; omega, h.place, h.big⟩
/-- A log that is opened when all goes well. -/
theorem Live.opened (h : Live l s B) (hc : s.count ≤ 1099511627776) (rs : List (List UInt8)) (hrs : recs (B.take l.sure) = some rs) :
    ∃ l', openS s l.first l.size = (some (l', rs), s, 0) ∧ l'.first = l.first ∧ l'.size = l.size ∧ l'.sure = l.sure ∧ Live l' s (B.take l.sure) := by
  have hroom : l.room ≤ 8388608 := by have := h.place; have := h.big; unfold LS.room; omega
  have hsr : l.sure ≤ l.room := by have := h.sure; have := h.room; omega
  have hseen := seeTo_head s l.first l.size l.slot l.turn l.sure h.slot h.t0 (by have := h.t1; omega) (by omega) hsr h.head (by
    rw [ok_size l (fresh0 l.first l.size) rfl]; exact h.other)
  have hdata : dataS (LS.mk l.first l.size l.turn l.slot 0 l.sure [] false) s l.sure = B.take l.sure := by
    rw [← h.data]
    unfold dataS
    rw [cat_congr l (LS.mk l.first l.size l.turn l.slot 0 l.sure [] false) s s rfl _ (fun _ _ => rfl)]
  have hbl : (B.take l.sure).length = l.sure := by rw [List.length_take]; have := h.sure; omega
  refine ⟨LS.mk l.first l.size l.turn l.slot l.sure l.sure ((B.take l.sure).drop (l.sure / 512 * 512)) false, ?_, rfl, rfl, rfl, ?_⟩
  · unfold openS
    rw [if_neg (by rw [h.calm.down]; simp), hseen]
    simp only
    rw [if_neg (by have := h.t0; omega), hdata, hrs]
    simp only [h.none, List.length_nil, Nat.lt_irrefl, if_false, ne_eq, not_true_eq_false]
  · exact { calm := h.calm, none := h.none, same := h.same, place := h.place, four := h.four, big := h.big, fin := hbl.symm, room := by rw [hbl]; exact hsr, sure := by rw [hbl]; exact Nat.le_refl _, tail := rfl, t0 := h.t0, t1 := h.t1, slot := h.slot, head := h.head, other := h.other,
            data := by
              have := h.data
              show (cat (LS.mk l.first l.size l.turn l.slot l.sure l.sure ((B.take l.sure).drop (l.sure / 512 * 512)) false) s (l.size - 2)).take l.sure = (B.take l.sure).take l.sure
              rw [cat_congr l (LS.mk l.first l.size l.turn l.slot l.sure l.sure ((B.take l.sure).drop (l.sure / 512 * 512)) false) s s rfl _ (fun _ _ => rfl)]
              rw [List.take_take, Nat.min_self]
              exact this
            alive := rfl }
/-- A log that is made on a new disk, and opened. -/
theorem format_fresh (n a z : Nat) (h4 : 4 ≤ z) (hp : a + z ≤ n) (hn : n ≤ 16384) :
    ∃ s' l', formatS (DS.fresh n) a z = (s', 0) ∧ l'.first = a ∧ l'.size = z ∧ l'.sure = 0 ∧ Live l' s' [] ∧ s'.count = 2 ∧ s'.now.length = n := by
  have hz : ∀ i, i < n → (DS.fresh n).now.getD i [] = zeros := fun i hi => by
    simp only [DS.fresh, List.getD_eq_getElem?_getD]
    rw [List.getElem?_eq_getElem (by simpa using hi)]
    simp
  have hseen : (fresh0 a z).seeTo (DS.fresh n) 2 = fresh0 a z := by
    have see0 : ∀ i, (fresh0 a z).see i zeros = fresh0 a z := fun i => by
      unfold LS.see
      rw [ok_zeros, if_neg (by simp)]
    show ((fresh0 a z).see 0 ((DS.fresh n).now.getD (a + 0) [])).see 1 ((DS.fresh n).now.getD (a + 1) []) = _
    rw [hz (a + 0) (by omega), see0, hz (a + 1) (by omega), see0]
  obtain ⟨s1, h1, c1, n1, r1, u1, k1⟩ := heads_calm (l := fresh0 a z) (Calm.fresh n) rfl 0 (by show a + 2 ≤ _; simp only [DS.fresh, List.length_replicate]; omega)
  have hl : s1.now.length = n := by rw [n1, List.length_set]; simp [DS.fresh]
  have hN : (DS.fresh n).now.length = n := by simp [DS.fresh]
  refine ⟨s1, LS.mk a z 1 1 0 0 [] false, ?_, rfl, rfl, rfl, ?_, by rw [k1]; rfl, hl⟩
  · unfold formatS
    rw [if_neg (by simp [DS.fresh]), hseen, h1]
  · have e1 : s1.now = (DS.fresh n).now.set (a + 1) (headB z 1 0) := n1
    exact { calm := c1, none := r1, same := u1, place := by rw [hl]; exact hp, four := h4, big := by rw [hl]; exact hn, fin := rfl, room := Nat.zero_le _, sure := Nat.le_refl _, tail := by simp, t0 := Nat.one_pos, t1 := by rw [k1]; simp [DS.fresh], slot := Nat.lt_succ_self 1,
            head := by rw [e1]; exact getD_set_eq _ _ _ _ (by rw [hN]; omega)
            other := by
              intro h
              exfalso
              rw [e1] at h
              rw [show (LS.mk a z 1 1 0 0 [] false).first + (1 - (LS.mk a z 1 1 0 0 [] false).slot) = a from rfl, getD_set_ne _ _ _ _ _ (by omega), hz a (by omega), ok_zeros] at h
              cases h
            data := by simp
            alive := rfl }
/-- A record is laid behind the others. -/
theorem Live.append (h : Live l s B) (r : List UInt8) (hr : r.length ≤ 65536) (hroom : (r.length : Int) ≤ (l.room : Int) - l.fin - 4) :
    ∃ l', appendS l r = (l', 0) ∧ l'.first = l.first ∧ l'.size = l.size ∧ l'.sure = l.sure ∧ Live l' s (B ++ (le r.length 4 ++ r)) := by
  have hl : (B ++ (le r.length 4 ++ r)).length = B.length + (4 + r.length) := by simp [le_len]
  refine ⟨{ l with tail := l.tail ++ (le r.length 4 ++ r), fin := l.fin + (4 + r.length) }, ?_, rfl, rfl, rfl, ?_⟩
  · unfold appendS
    rw [if_neg (by omega), if_neg (by rw [h.alive]; simp), if_neg (by omega)]
  · have hs := h.sure
    exact { calm := h.calm, none := h.none, same := h.same, place := h.place, four := h.four, big := h.big, fin := by rw [hl]; show l.fin + _ = _; rw [h.fin], room := by rw [hl]; show _ ≤ l.room; have := h.fin; omega, sure := by rw [hl]; show l.sure ≤ _; omega,
            tail := by
              show l.tail ++ _ = _
              rw [h.tail, List.drop_append_of_le_length (by show l.sure / 512 * 512 ≤ _; omega)]
            t0 := h.t0, t1 := h.t1, slot := h.slot, head := h.head, other := h.other,
            data := by
              have e : cat { l with tail := l.tail ++ (le r.length 4 ++ r), fin := l.fin + (4 + r.length) } s (l.size - 2) = cat l s (l.size - 2) := cat_congr l { l with tail := l.tail ++ (le r.length 4 ++ r), fin := l.fin + (4 + r.length) } s s rfl _ (fun _ _ => rfl)
              show (cat { l with tail := l.tail ++ (le r.length 4 ++ r), fin := l.fin + (4 + r.length) } s (l.size - 2)).take l.sure = _
              rw [e, h.data]
              exact (List.take_append_of_le_length hs).symm
            alive := h.alive }
theorem wrs_calm (hs : Calm s) : ∀ k, l.first + 2 + (l.sure / 512 + k) ≤ s.now.length → ∃ s', wrs l s k = (s', 0) ∧ Calm s' ∧ s'.now.length = s.now.length ∧ s'.count = s.count + k ∧
    ∀ i, s'.now.getD i [] = if l.first + 2 + l.sure / 512 ≤ i ∧ i < l.first + 2 + l.sure / 512 + k then chunk l.tail (512 * (i - (l.first + 2 + l.sure / 512))) else s.now.getD i []
  | 0, _ => ⟨s, rfl, hs, rfl, by omega, fun i => by rw [if_neg (by omega)]⟩
  | k + 1, hk => by
    obtain ⟨s1, h1, c1, l1, k1, g1⟩ := wrs_calm hs k (by omega)
    obtain ⟨s2, h2, c2, n2, k2, _⟩ := c1.write (l.first + 2 + (l.sure / 512 + k)) (by omega) (chunk l.tail (512 * k)) (chunk_len _ _)
    refine ⟨s2, ?_, c2, by rw [n2, List.length_set, l1], by omega, fun i => ?_⟩
    · rw [wrs, h1]
      simp only [ne_eq, not_true_eq_false, if_false]
      exact h2
    · rw [n2]
      by_cases e : l.first + 2 + (l.sure / 512 + k) = i
      · subst e
        rw [getD_set_eq _ _ _ _ (by omega), if_pos (by omega)]
        congr 2
        omega
      · rw [getD_set_ne _ _ _ _ _ e, g1 i]
        by_cases h3 : l.first + 2 + l.sure / 512 ≤ i ∧ i < l.first + 2 + l.sure / 512 + k
        · rw [if_pos h3, if_pos (by omega)]
        · rw [if_neg h3, if_neg (by omega)]
theorem ext_getD (a b : List UInt8) (hl : a.length = b.length) (h : ∀ i, i < a.length → a.getD i 0 = b.getD i 0) : a = b := by
  apply List.ext_getElem hl
  intro i h1 h2
  have := h i h1
  rw [List.getD_eq_getElem?_getD, List.getD_eq_getElem?_getD, List.getElem?_eq_getElem h1, List.getElem?_eq_getElem h2] at this
  exact this
/-- All records are sure. -/
theorem Live.flush (h : Live l s B) (hc : s.count ≤ 1099511627776) :
    ∃ l' s', flushS l s = (l', s', 0) ∧ l'.first = l.first ∧ l'.size = l.size ∧ l'.sure = B.length ∧ Live l' s' B ∧ s'.now.length = s.now.length ∧ s.count ≤ s'.count ∧ s'.count ≤ s.count + nchunks l + 3 := by
  by_cases he : l.fin = l.sure
  · refine ⟨l, s, ?_, rfl, rfl, by rw [← he, h.fin], h, rfl, Int.le_refl _, by omega⟩
    unfold flushS
    rw [if_neg (by rw [h.alive]; simp), if_pos he]
  · have hpl := h.place
    have hfo := h.four
    have hro : B.length ≤ (l.size - 2) * 512 := h.room
    have hsu := h.sure
    have hfi := h.fin
    have htl : l.tail.length = B.length - l.sure / 512 * 512 := by rw [h.tail, List.length_drop]
    have hnc : l.sure / 512 + nchunks l ≤ l.size - 2 := by unfold nchunks; omega
    have hnn : B.length ≤ 512 * (l.sure / 512 + nchunks l) := by unfold nchunks; omega
    obtain ⟨s1, h1, c1, l1, k1, g1⟩ := wrs_calm (l := l) h.calm (nchunks l) (by omega)
    obtain ⟨s2, h2, c2, n2, k2, r2, u2⟩ := c1.sync
    have hw : writesS l s = (s2, 0) := by
      unfold writesS
      rw [h1]
      simp only [ne_eq, not_true_eq_false, if_false]
      exact h2
    obtain ⟨s3, h3, c3, n3, r3, u3, k3⟩ := heads_calm (l := l) c2 r2 l.fin (by rw [n2, l1]; omega)
    have hq : (l.slot + 1) % 2 = 1 - l.slot := by have := h.slot; omega
    rw [hq] at h3 n3
    have hlen : s3.now.length = s.now.length := by rw [n3, List.length_set, n2, l1]
    refine ⟨{ l with turn := l.turn + 1, slot := 1 - l.slot, sure := l.fin, tail := l.tail.drop (l.fin / 512 * 512 - l.sure / 512 * 512) }, s3, ?_, rfl, rfl, hfi, ?_, hlen, by omega, by omega⟩
    · unfold flushS
      rw [if_neg (by rw [h.alive]; simp), if_neg he, hw]
      simp only [ne_eq, not_true_eq_false, if_false, h3]
    · have hsl := h.slot
      have cong : ∀ i, l.first + 2 ≤ i → s3.now.getD i [] = s1.now.getD i [] := fun i hi => by
        rw [n3, getD_set_ne _ _ _ _ _ (by omega), n2]
      exact { calm := c3, none := r3, same := u3, place := by rw [hlen]; exact hpl, four := hfo, big := by rw [hlen]; exact h.big, fin := hfi, room := h.room, sure := by show l.fin ≤ _; omega,
              tail := by
                show l.tail.drop _ = B.drop (l.fin / 512 * 512)
                rw [h.tail, List.drop_drop, show l.sure / 512 * 512 + (l.fin / 512 * 512 - l.sure / 512 * 512) = l.fin / 512 * 512 by omega]
              t0 := Nat.succ_pos _
              t1 := by show ((l.turn + 1 : Nat) : Int) ≤ _; have := h.t1; omega
              slot := by show 1 - l.slot < 2; omega
              head := by
                show s3.now.getD (l.first + (1 - l.slot)) [] = headB l.size (l.turn + 1) l.fin
                rw [n3, getD_set_eq _ _ _ _ (by rw [n2, l1]; omega)]
              other := by
                intro _
                show turnOf (s3.now.getD (l.first + (1 - (1 - l.slot))) []) < l.turn + 1
                rw [show 1 - (1 - l.slot) = l.slot by omega, n3, getD_set_ne _ _ _ _ _ (by omega), n2, g1, if_neg (by omega), h.head, turn_head _ _ _ (by have := h.t1; omega)]
                omega
              data := by
                have ec : cat { l with turn := l.turn + 1, slot := 1 - l.slot, sure := l.fin, tail := l.tail.drop (l.fin / 512 * 512 - l.sure / 512 * 512) } s3 (l.size - 2) = cat l s3 (l.size - 2) := cat_congr l { l with turn := l.turn + 1, slot := 1 - l.slot, sure := l.fin, tail := l.tail.drop (l.fin / 512 * 512 - l.sure / 512 * 512) } s3 s3 rfl _ (fun _ _ => rfl)
                show (cat { l with turn := l.turn + 1, slot := 1 - l.slot, sure := l.fin, tail := l.tail.drop (l.fin / 512 * 512 - l.sure / 512 * 512) } s3 (l.size - 2)).take l.fin = B.take l.fin
                rw [ec, hfi, List.take_length]
                have hsec : ∀ i, i < s3.now.length → (s3.now.getD i []).length = 512 := c3.secs
                have hcl := cat_len l s3 hsec (l.size - 2) (by omega)
                have hcl0 := cat_len l s h.calm.secs (l.size - 2) (by omega)
                refine ext_getD _ _ (by rw [List.length_take, hcl]; omega) (fun i hi => ?_)
                rw [List.length_take, hcl] at hi
                have hi2 : i < B.length := by omega
                clear hi
                rw [getD_take _ _ _ (by omega), cat_get l s3 hsec _ (by omega) i (by omega), cong _ (by omega), g1]
                by_cases h5 : i / 512 < l.sure / 512
                · rw [if_neg (by omega), ← cat_get l s h.calm.secs (l.size - 2) (by omega) i (by omega)]
                  have e := congrArg (fun x : List UInt8 => x.getD i 0) h.data
                  simp only [getD_take _ _ _ (by omega : i < l.sure)] at e
                  exact e
                · rw [if_pos (by omega), chunk_get _ _ _ (by omega), h.tail, getD_drop, show l.sure / 512 * 512 + (512 * (l.first + 2 + i / 512 - (l.first + 2 + l.sure / 512)) + i % 512) = i by omega]
              alive := h.alive }
end Go.Proofs.Ytjbjikigiienkaa.W
