/-
  The document's disk: New by its contracts.
-/
import Derived.Test.YtgifigfdjcgkaaaRefD
namespace Go.Proofs.Ytgifigfdjcgkaaa.D
set_option linter.unusedSimpArgs false
open Go.RowKit
set_option linter.unusedVariables false
variable {w w' : World} {F G X : List Nat} {v : Value} {l : Sector} {vs : List Value} {ls : List Sector} {n d : Nat} {s : DS} {sv nv rv : Value} {sx nx rx : List Value}

theorem rnew_bad (n : Int) (w : World) (h : n < 1 ∨ 65536 < n) :
    Calls Try.prog 22 #[.int .i64 n] w fun e w' => e = .returned (.tuple #[.pointer none, .int .i64 10]) ∧ w = w' := by
  rcases h with h | h
  · go_enter Try.func22, Try.ntmps22
    go_wp2
    go_ret2
    exact ⟨rfl, rfl⟩
  · have h2 : ¬ n < 1 := by omega
    go_enter Try.func22, Try.ntmps22
    go_wp2
    go_ret2
    exact ⟨rfl, rfl⟩

/-- One sure sector more. -/
theorem RefAt.pushS {w5 : World} {gg m cp : Nat} (T : RefAt w d F s sv nv rv sx nx rx) (hm : s.sure.length = m) (hO : Only sv.ownBlock.toList w w5) (hr : w5.ownsRow 0 22 1 (.slice (some ⟨gg, 0, none⟩) (m + 1) cp) (m + 1) (sx ++ [v])) (hat : sv.ownBlock = some gg ∨ w.heap.size ≤ gg)
    (hF : ∀ k ∈ F, k ∈ G) (hgG : gg ∈ G) (hG : ∀ k ∈ G, k < w5.heap.size) (hv : RSec w5 G v l) :
    RefAt (w5.setCell ⟨d, 0, none⟩ (.slice (some ⟨gg, 0, none⟩) (m + 1) cp)) d G { s with sure := s.sure ++ [l] } (.slice (some ⟨gg, 0, none⟩) (m + 1) cp) nv rv (sx ++ [v]) nx rx := by
  have offs : ∀ e, 22 ≠ e → Off e w sv.ownBlock.toList := fun e he => owns_foot T.ownS (Ne.symm he) |> fun h => by
    intro k hk cs hb
    exact owns_ne T.ownS hb he.symm (mem_foot hk)
  have B5 := hO.blk T.disk (fun hm => owns_ne T.ownS T.disk (by decide) (mem_foot hm))
  have O6 := only_set w5 d 0 (.slice (some ⟨gg, 0, none⟩) (m + 1) cp)
  have offd : ∀ e, 69 ≠ e → Off e w5 [d] := fun e he => Off.one B5 he
  have same : ∀ k ∈ G, k ∈ G := fun _ h => h
  refine ⟨(B5.set 0 _).to (by simp [rcells]), ?_, ?_, owns_off (owns_off T.ownR hO (offs _ (by decide))) O6 (offd _ (by decide)), ((T.secS.off hO (offs _ (by decide)) hF).off O6 (offd _ (by decide)) same).snoc (hv.off O6 (offd _ (by decide)) same), (T.secN.off hO (offs _ (by decide)) hF).off O6 (offd _ (by decide)) same, T.row.map (fun h => (h.off hO (offs _ (by decide)) hF).off O6 (offd _ (by decide)) same), ?_, T.few, hF _ T.fd, ?_, fun k hk => hF _ (T.fN k hk), fun k hk => hF _ (T.fR k hk), fun k hk => Nat.lt_of_lt_of_le (hG k hk) O6.size⟩
  · have : (s.sure ++ [l]).length = m + 1 := by simp [hm]
    rw [this]; exact owns_off hr O6 (offd _ (by decide))
  · exact owns_off (owns_later T.ownN hO (fun k hk hm => T.ne k (mem_foot hm) hk)) O6 (offd _ (by decide))
  · intro k hk hn
    simp only [Value.ownBlock, Option.some.injEq] at hk
    subst hk
    rcases hat with h | h
    · exact T.ne _ h hn
    · have := owns_lt T.ownN hn; omega
  · intro k hk
    simp only [Value.ownBlock, Option.some.injEq] at hk
    subst hk; exact hgG
/-- One sector more that is read. -/
theorem RefAt.pushN {w5 : World} {gg m cp : Nat} (T : RefAt w d F s sv nv rv sx nx rx) (hm : s.now.length = m) (hm2 : m + 1 ≤ 65536) (hrow : s.row = []) (hO : Only nv.ownBlock.toList w w5) (hr : w5.ownsRow 0 22 1 (.slice (some ⟨gg, 0, none⟩) (m + 1) cp) (m + 1) (nx ++ [v])) (hat : nv.ownBlock = some gg ∨ w.heap.size ≤ gg)
    (hF : ∀ k ∈ F, k ∈ G) (hgG : gg ∈ G) (hG : ∀ k ∈ G, k < w5.heap.size) (hv : RSec w5 G v l) :
    RefAt (w5.setCell ⟨d, 1, none⟩ (.slice (some ⟨gg, 0, none⟩) (m + 1) cp)) d G { s with now := s.now ++ [l] } sv (.slice (some ⟨gg, 0, none⟩) (m + 1) cp) rv sx (nx ++ [v]) rx := by
  have offs : ∀ e, 22 ≠ e → Off e w nv.ownBlock.toList := fun e he => by
    intro k hk cs hb
    exact owns_ne T.ownN hb he.symm (mem_foot hk)
  have B5 := hO.blk T.disk (fun hm => owns_ne T.ownN T.disk (by decide) (mem_foot hm))
  have O6 := only_set w5 d 1 (.slice (some ⟨gg, 0, none⟩) (m + 1) cp)
  have offd : ∀ e, 69 ≠ e → Off e w5 [d] := fun e he => Off.one B5 he
  have same : ∀ k ∈ G, k ∈ G := fun _ h => h
  have hrx : rx = [] := by
    have := T.row
    rw [hrow] at this
    match rx, this with
    | [], _ => rfl
    | [_], h => exact h.elim
    | _ :: _ :: _, h => exact h.elim
  refine ⟨(B5.set 1 _).to (by simp [rcells]), ?_, ?_, owns_off (owns_off T.ownR hO (offs _ (by decide))) O6 (offd _ (by decide)), (T.secS.off hO (offs _ (by decide)) hF).off O6 (offd _ (by decide)) same, ((T.secN.off hO (offs _ (by decide)) hF).off O6 (offd _ (by decide)) same).snoc (hv.off O6 (offd _ (by decide)) same), ?_, ?_, by simp [hm]; omega, hF _ T.fd, fun k hk => hF _ (T.fS k hk), ?_, fun k hk => hF _ (T.fR k hk), fun k hk => Nat.lt_of_lt_of_le (hG k hk) O6.size⟩
  · exact owns_off (owns_later T.ownS hO (fun k hk hm => T.ne k hk (mem_foot hm))) O6 (offd _ (by decide))
  · have : (s.now ++ [l]).length = m + 1 := by simp [hm]
    rw [this]; exact owns_off hr O6 (offd _ (by decide))
  · rw [hrx]; show RRow _ _ _ [] s.row; rw [hrow]; trivial
  · intro k hk hn
    simp only [Value.ownBlock, Option.some.injEq] at hn
    subst hn
    rcases hat with h | h
    · exact T.ne _ hk h
    · have := owns_lt T.ownS hk; omega
  · intro k hk
    simp only [Value.ownBlock, Option.some.injEq] at hk
    subst hk; exact hgG

def rnewAt (a b : Nat) : DS := { now := List.replicate b zeros, sure := List.replicate a zeros, row := [], count := 0, fail := 0, halt := -1, down := false }

theorem rnew_s (a b : Nat) : ({ rnewAt a b with sure := (rnewAt a b).sure ++ [zeros] } : DS) = rnewAt (a + 1) b := by simp [rnewAt, List.replicate_succ']
theorem rnew_n (a b : Nat) : ({ rnewAt a b with now := (rnewAt a b).now ++ [zeros] } : DS) = rnewAt a (b + 1) := by simp [rnewAt, List.replicate_succ']
theorem zeros_sec {w0 w w4 : World} {sl x : Value} {ob : Option Nat} (hob : ∀ k, ob = some k → k < w0.heap.size) (hd : Only [] w0 w) (hgrow : ((w.alloc (.cells (u8s zeros).toArray 5)).alloc (.cells #[x] 22)).grownBy w4 ob) (hG : w.heap.size ∈ G) :
    RSec w4 G (.slice (some ⟨w.heap.size, 0, none⟩) 512 512) zeros := by
  have hb := ((Blk.new (u8s zeros) 5 w).alloc (.cells #[x] 22))
  have hb4 := (Only.ofGrown hgrow).blk hb (fun hm => by
    have h2 : ob = some w.heap.size := by simpa using hm
    have := hob _ h2
    have := hd.size
    omega)
  exact ⟨zeros_len, _, 512, rfl, hG, hb4.byteRow zeros_len (by unfold maxLen; omega)⟩
theorem pushed_s {W w0 w w4 : World} {k gg cp : Nat} {x : Value} (T : RefAt w0 d F (rnewAt k k) sv nv (.slice none 0 0) sx nx []) (HF : ∀ x ∈ F, W.heap.size ≤ x) (O : Only [] W w0) (OW : w0.ownsRow 0 22 1 sv k sx) (hd : Only [] w0 w)
    (hgrow : ((w.alloc (.cells (u8s zeros).toArray 5)).alloc (.cells #[x] 22)).grownBy w4 sv.ownBlock) (hown : w4.ownsRow 0 22 1 (.slice (some ⟨gg, 0, none⟩) (k + 1) cp) (k + 1) (sx ++ [.slice (some ⟨w.heap.size, 0, none⟩) 512 512])) (hat : sv.ownBlock = some gg ∨ gg = ((w.alloc (.cells (u8s zeros).toArray 5)).alloc (.cells #[x] 22)).heap.size) (hlt : gg < w4.heap.size) :
    ∃ sv' sx' F', RefAt (w4.setCell ⟨d, 0, none⟩ (.slice (some ⟨gg, 0, none⟩) (k + 1) cp)) d F' (rnewAt (k + 1) k) sv' nv (.slice none 0 0) sx' nx [] ∧ Only [] W (w4.setCell ⟨d, 0, none⟩ (.slice (some ⟨gg, 0, none⟩) (k + 1) cp)) ∧ ∀ x ∈ F', W.heap.size ≤ x := by
  have O4 : Only sv.ownBlock.toList w0 w4 := ((hd.mono (M' := sv.ownBlock.toList) (by simp)).alloc _ |>.alloc _).grown hgrow (fun k hk => .inl (by simp [hk]))
  have s0 := O.size
  have s1 := hd.size
  have s2 := hgrow.size
  simp at s2
  refine ⟨.slice (some ⟨gg, 0, none⟩) (k + 1) cp, sx ++ [.slice (some ⟨w.heap.size, 0, none⟩) 512 512], w.heap.size :: gg :: F, ?_, ?_, ?_⟩
  · rw [← rnew_s]
    refine T.pushS (m := k) (by simp [rnewAt]) O4 hown ?_ (fun k hk => by simp [hk]) (by simp) ?_ (zeros_sec (w0 := w0) (sl := sv) (fun k hk => owns_lt OW hk) hd hgrow (by simp))
    · rcases hat with h | h
      · exact .inl h
      · right; rw [h]; simp; omega
    · intro y hy
      simp only [List.mem_cons] at hy
      rcases hy with rfl | rfl | hy
      · omega
      · exact hlt
      · have := T.lt y hy; omega
  · exact Only.setCell (O.trans O4 (fun x hx => .inr (HF _ (T.fS _ (mem_foot hx))))) (.inr (HF _ T.fd)) _
  · intro y hy
    simp only [List.mem_cons] at hy
    rcases hy with rfl | rfl | hy
    · omega
    · rcases hat with h | h
      · exact HF _ (T.fS _ h)
      · rw [h]; simp; omega
    · exact HF y hy

theorem pushed_n {W w0 w w4 : World} {k gg cp : Nat} {x : Value} (T : RefAt w0 d F (rnewAt (k + 1) k) sv nv (.slice none 0 0) sx nx []) (HF : ∀ x ∈ F, W.heap.size ≤ x) (O : Only [] W w0) (OW : w0.ownsRow 0 22 1 nv k nx) (hk : k < 65536) (hd : Only [] w0 w)
    (hgrow : ((w.alloc (.cells (u8s zeros).toArray 5)).alloc (.cells #[x] 22)).grownBy w4 nv.ownBlock) (hown : w4.ownsRow 0 22 1 (.slice (some ⟨gg, 0, none⟩) (k + 1) cp) (k + 1) (nx ++ [.slice (some ⟨w.heap.size, 0, none⟩) 512 512])) (hat : nv.ownBlock = some gg ∨ gg = ((w.alloc (.cells (u8s zeros).toArray 5)).alloc (.cells #[x] 22)).heap.size) (hlt : gg < w4.heap.size) :
    ∃ nv' nx' F', RefAt (w4.setCell ⟨d, 1, none⟩ (.slice (some ⟨gg, 0, none⟩) (k + 1) cp)) d F' (rnewAt (k + 1) (k + 1)) sv nv' (.slice none 0 0) sx nx' [] ∧ Only [] W (w4.setCell ⟨d, 1, none⟩ (.slice (some ⟨gg, 0, none⟩) (k + 1) cp)) ∧ ∀ x ∈ F', W.heap.size ≤ x := by
  have O4 : Only nv.ownBlock.toList w0 w4 := ((hd.mono (M' := nv.ownBlock.toList) (by simp)).alloc _ |>.alloc _).grown hgrow (fun k hk => .inl (by simp [hk]))
  have s0 := O.size
  have s1 := hd.size
  have s2 := hgrow.size
  simp at s2
  refine ⟨.slice (some ⟨gg, 0, none⟩) (k + 1) cp, nx ++ [.slice (some ⟨w.heap.size, 0, none⟩) 512 512], w.heap.size :: gg :: F, ?_, ?_, ?_⟩
  · rw [← rnew_n]
    refine T.pushN (m := k) (by simp [rnewAt]) (by omega) rfl O4 hown ?_ (fun k hk => by simp [hk]) (by simp) ?_ (zeros_sec (w0 := w0) (sl := nv) (fun k hk => owns_lt OW hk) hd hgrow (by simp))
    · rcases hat with h | h
      · exact .inl h
      · right; rw [h]; simp; omega
    · intro y hy
      simp only [List.mem_cons] at hy
      rcases hy with rfl | rfl | hy
      · omega
      · exact hlt
      · have := T.lt y hy; omega
  · exact Only.setCell (O.trans O4 (fun x hx => .inr (HF _ (T.fN _ (mem_foot hx))))) (.inr (HF _ T.fd)) _
  · intro y hy
    simp only [List.mem_cons] at hy
    rcases hy with rfl | rfl | hy
    · omega
    · rcases hat with h | h
      · exact HF _ (T.fN _ h)
      · rw [h]; simp; omega
    · exact HF y hy

set_option maxRecDepth 100000 in
set_option maxHeartbeats 1000000 in
theorem rnew_ok (n : Nat) (w : World) (h0 : 1 ≤ n) (h : n ≤ 65536) :
    Calls Try.prog 22 #[.int .i64 n] w fun e w' => ∃ d F sv nv sx nx, e = .returned (.tuple #[.pointer (some ⟨d, 0, none⟩), .int .i64 0]) ∧ RefAt w' d F (DS.fresh n) sv nv (.slice none 0 0) sx nx [] ∧ Only [] w w' ∧ ∀ k ∈ F, w.heap.size ≤ k := by
  have hmk := make_512
  have h1 : ¬ (n : Int) < 1 := by omega
  have h2 : (n : Int) ≤ 65536 := by omega
  go_enter Try.func22, Try.ntmps22
  go_wp2_with fail
  have B0 := Blk.new' #[.slice none 0 0, .slice none 0 0, .slice none 0 0, .int .i64 0, .int .i64 0, .int .i64 (-1), .bool false] 69 w rfl
  have O0 : Hid (Only [] w (w.alloc (.cells #[.slice none 0 0, .slice none 0 0, .slice none 0 0, .int .i64 0, .int .i64 0, .int .i64 (-1), .bool false] 69))) := (Only.refl _ _).alloc _
  have T0 : Hid (RefAt (w.alloc (.cells #[.slice none 0 0, .slice none 0 0, .slice none 0 0, .int .i64 0, .int .i64 0, .int .i64 (-1), .bool false] 69)) w.heap.size [w.heap.size] (rnewAt 0 0) (.slice none 0 0) (.slice none 0 0) (.slice none 0 0) [] [] []) := by
    refine ⟨B0.to (by simp [rcells, rnewAt]), ⟨rfl, .inl ⟨rfl, rfl⟩⟩, ⟨rfl, .inl ⟨rfl, rfl⟩⟩, ⟨rfl, .inl ⟨rfl, rfl⟩⟩, ⟨rfl, fun i hi => by simp [rnewAt] at hi⟩, ⟨rfl, fun i hi => by simp [rnewAt] at hi⟩, trivial, fun k hk => by simp [Value.ownBlock] at hk, by simp [rnewAt], by simp, fun k hk => by simp [Value.ownBlock] at hk, fun k hk => by simp [Value.ownBlock] at hk, fun k hk => by simp [Value.ownBlock] at hk, fun k hk => by simp at hk; simp [hk]⟩
  clear B0
  generalize w.alloc (.cells #[.slice none 0 0, .slice none 0 0, .slice none 0 0, .int .i64 0, .int .i64 0, .int .i64 (-1), .bool false] 69) = w1 at *
  have hdw : Hid (w.heap.size ≤ w.heap.size) := Nat.le_refl _
  obtain ⟨d, hd⟩ : ∃ d, w.heap.size = d := ⟨_, rfl⟩
  have HD := Lib.hid hd
  rw [hd] at T0
  rw [hd]
  clear hdw hd
  go_loopg [5] n (fun gk i wr => ∃ (k : Nat) (sv nv : Value) (sx nx : List Value) (F : List Nat), gk = n - k ∧ k ≤ n ∧ i = .int .i64 k ∧ RefAt wr d F (rnewAt k k) sv nv (.slice none 0 0) sx nx [] ∧ Only [] w wr ∧ ∀ x ∈ F, w.heap.size ≤ x)
  case atStart => exact ⟨0, _, _, _, _, [d], by omega, Nat.zero_le _, rfl, T0.out, O0.out, fun x hx => by simp at hx; rw [hx, HD.out]; exact Nat.le_refl _⟩
  case round =>
    obtain ⟨k, sv, nv, sx, nx, F, hgk, hk, rfl, hT, hO, hF⟩ := hrel
    have HGK := Lib.hid hgk
    have T := Lib.hid hT
    have O := Lib.hid hO
    have HF := Lib.hid hF
    clear hgk hT hO hF
    by_cases hlt : k < n
    · have hlt2 : (k : Int) < n := by omega
      have c0 := T.out.disk.cell 0
      have f0 := T.out.disk.frozen 0
      simp only [rcells, List.getElem?_cons_zero, List.getElem?_cons_succ] at c0
      have dlt := T.out.disk.lt
      have dlt2 : d < wr.heap.size + 1 := by omega
      have dsv : sv.ownBlock ≠ some d := owns_ne T.out.ownS T.out.disk (by decide)
      have HDSV := Lib.hid dsv
      have OWS : Hid (wr.ownsRow 0 22 1 sv k sx) := by
        have := T.out.ownS
        rw [show (rnewAt k k).sure.length = k by simp [rnewAt]] at this
        exact this
      have HDLT := Lib.hid dlt
      obtain ⟨i0, hi0', hz0, hz1, hz2⟩ := info_parts info_bytes
      go_wp2_with fail
      go_cut [] from 14 to 38 (fun wy => ∃ sv' sx' F', RefAt wy d F' (rnewAt (k + 1) k) sv' nv (.slice none 0 0) sx' nx [] ∧ Only [] w wy ∧ ∀ x ∈ F', w.heap.size ≤ x)
      case first =>
        go_region_law ((refine step_append_lies _ (by rfl) _ _ _ (by rfl) 0 22 i0 _ 1 24 Try.underlying32 hi0' hz0 hz1 hz2 rfl (by omega) sv k sx (by rfl) (by exact owns_past OWS.out ((((Only.refl _ _).drew).alloc _).alloc _)) ⟨wr.heap.size + 1, 0, none⟩ 1 1 [.slice (some ⟨wr.heap.size, 0, none⟩) 512 512] (by rfl) (by rfl) (World.news_of_block (cs := #[.slice (some ⟨wr.heap.size, 0, none⟩) 512 512]) (t := 22) (fr := (0, 0)) (Blk.new' _ _ _ (by simp))) (by simp [Value.oneCell']) (by omega) (by unfold maxLen; omega) (by omega) (by omega) _ (by rfl) ?_; intro gg cp w4 hown1 hgrow hat hlt4; have c0' := (hgrow.cell_far ⟨d, 0, none⟩ (by simp; omega) (Ne.symm HDSV.out)).trans ((World.cell?_alloc_lt _ _ _ (by simp; omega)).trans ((World.cell?_alloc_lt _ _ _ (by simp; omega)).trans c0)); have f0' := (hgrow.frozen_far ⟨d, 0, none⟩ (by simp; omega) (Ne.symm HDSV.out)).trans (((T.out.disk.alloc _).alloc _).frozen 0)))
        all_goals
          have REL := Lib.hid (pushed_s T.out HF.out O.out OWS.out (Only.refl [] _).drew hgrow hown1 hat hlt4)
          clear hgrow hown1 hat hlt4 c0' f0'
          go_wp2_with fail
          go_meet
          case rel => exact REL.out
      case rest =>
        obtain ⟨sv', sx', F', hT2, hO2, hF2⟩ := hcut
        have T2 := Lib.hid hT2
        have O2 := Lib.hid hO2
        have HF2 := Lib.hid hF2
        clear hT2 hO2 hF2 c0 f0 dlt dlt2 dsv
        have c0 := T2.out.disk.cell 1
        have f0 := T2.out.disk.frozen 1
        simp only [rcells, List.getElem?_cons_zero, List.getElem?_cons_succ] at c0
        have dlt := T2.out.disk.lt
        have dlt2 : d < wc.heap.size + 1 := by omega
        have dnv : nv.ownBlock ≠ some d := owns_ne T2.out.ownN T2.out.disk (by decide)
        have HDNV := Lib.hid dnv
        have OWN : Hid (wc.ownsRow 0 22 1 nv k nx) := by
          have := T2.out.ownN
          rw [show (rnewAt (k + 1) k).now.length = k by simp [rnewAt]] at this
          exact this
        go_wp2_with fail
        obtain ⟨wb, hwb⟩ : ∃ wb, wc = wb := ⟨_, rfl⟩
        subst hwb
        go_region_law ((refine step_append_lies _ (by rfl) _ _ _ (by rfl) 0 22 i0 _ 1 24 Try.underlying32 hi0' hz0 hz1 hz2 rfl (by omega) nv k nx (by rfl) (by exact owns_past OWN.out ((((Only.refl _ _).drew).alloc _).alloc _)) ⟨wc.heap.size + 1, 0, none⟩ 1 1 [.slice (some ⟨wc.heap.size, 0, none⟩) 512 512] (by rfl) (by rfl) (World.news_of_block (cs := #[.slice (some ⟨wc.heap.size, 0, none⟩) 512 512]) (t := 22) (fr := (0, 0)) (Blk.new' _ _ _ (by simp))) (by simp [Value.oneCell']) (by omega) (by unfold maxLen; omega) (by omega) (by omega) _ (by rfl) ?_; intro gg cp w4 hown1 hgrow hat hlt4; have c0' := (hgrow.cell_far ⟨d, 1, none⟩ (by simp; omega) (Ne.symm HDNV.out)).trans ((World.cell?_alloc_lt _ _ _ (by simp; omega)).trans ((World.cell?_alloc_lt _ _ _ (by simp; omega)).trans c0)); have f0' := (hgrow.frozen_far ⟨d, 1, none⟩ (by simp; omega) (Ne.symm HDNV.out)).trans (((T2.out.disk.alloc _).alloc _).frozen 1)))
        all_goals
          have REL := Lib.hid (pushed_n T2.out HF2.out O2.out OWN.out (by omega) (Only.refl [] _).drew hgrow hown1 hat hlt4)
          clear hgrow hown1 hat hlt4 c0' f0'
          go_wp2_with fail
          go_roundg (n - (k + 1))
          case measure => have := HGK.out; omega
          case rel =>
            obtain ⟨nv', nx', F'', h1, h2, h3⟩ := REL.out
            exact ⟨k + 1, sv', nv', sx', nx', F'', rfl, by omega, by go_num, h1, h2, h3⟩
    · obtain rfl : k = n := by omega
      go_wp2_with fail
      go_ret2
      exact ⟨d, F, sv, nv, sx, nx, rfl, T.out, O.out, HF.out⟩
end Go.Proofs.Ytgifigfdjcgkaaa.D
