/-
  Sync of the program's disk, by its contract.
-/
import Derived.Test.YtmgifohjoakdjaaDiskR
namespace Go.Proofs.Ytmgifohjoakdjaa.D
set_option linter.unusedSimpArgs false
open Go.RowKit
set_option linter.unusedVariables false

/-- An entry of the row of pending writes. -/
theorem Row.get {w : World} {n : Nat} : ∀ {vs : List Value} {xs : List (Nat × Sector)} (k : Nat) (hk : k < xs.length), Row w n vs xs →
    ∃ g, vs[k * 2]? = some (.int .i64 xs[k].1) ∧ vs[k * 2 + 1]? = some (.pointer (some ⟨g, 0, none⟩)) ∧ xs[k].1 < n ∧ Blk w g (u8s xs[k].2) 72 ∧ xs[k].2.length = 512
  | a :: p :: vs, x :: xs, 0, _, h => by
    obtain ⟨rfl, h2, ⟨g, rfl, hb, hl⟩, _⟩ := h
    exact ⟨g, rfl, rfl, h2, hb, hl⟩
  | a :: p :: vs, x :: xs, k + 1, hk, h => by
    obtain ⟨_, _, _, h4⟩ := h
    obtain ⟨g, h1, h2, h3⟩ := Row.get k (by simpa using hk) h4
    refine ⟨g, ?_, ?_, h3⟩
    · rw [show (k + 1) * 2 = k * 2 + 1 + 1 by omega, List.getElem?_cons_succ, List.getElem?_cons_succ]; exact h1
    · rw [show (k + 1) * 2 + 1 = (k * 2 + 1) + 1 + 1 by omega, List.getElem?_cons_succ, List.getElem?_cons_succ]; exact h2
  | [], [], k, hk, _ => by simp at hk
  | [], _ :: _, _, _, h => h.elim
  | [_], [], _, hk, h => h.elim
  | [_], _ :: _, _, _, h => h.elim
  | _ :: _ :: _, [], _, _, h => h.elim
/-- What an owned slice looks like. -/
theorem owns_shape {w : World} {base : Nat} {e : TypeId} {size : Nat} {v : Value} {n : Nat} {xs : List Value} (h : w.ownsRow base e size v n xs) : ∃ ao cap, v = .slice ao n cap ∧ (0 < n → ∃ g, ao = some ⟨g, 0, none⟩) := by
  rcases h.2 with ⟨rfl, rfl⟩ | ⟨g, cap, cur, rfl, _⟩
  · exact ⟨none, 0, rfl, fun h => by omega⟩
  · exact ⟨_, cap, rfl, fun _ => ⟨g, rfl⟩⟩
/-- A cell of an owned row. -/
theorem owns_cell {w : World} {base : Nat} {e : TypeId} {size : Nat} {g n cap : Nat} {xs : List Value} (h : w.ownsRow base e size (.slice (some ⟨g, 0, none⟩) n cap) n xs) {j : Nat} {v : Value} (hj : xs[j]? = some v) : w.cell? ⟨g, j, none⟩ = some v := by
  rcases h.2 with ⟨h0, _⟩ | ⟨g', cap', cur, hv, _, hh, _, _, _, ht⟩
  · cases h0
  · simp only [Value.slice.injEq, Option.some.injEq, Addr.mk.injEq] at hv
    obtain ⟨⟨rfl, _⟩, _⟩ := hv
    rw [cell_of_row w g j cur e (0, 0) hh]
    rw [← ht, List.getElem?_take] at hj
    split at hj
    · simpa using hj
    · cases hj

def DS.settledTo (s : DS) (k : Nat) : DS := { s with sure := (s.row.take k).foldl (fun l x => l.set x.1 x.2) s.sure }
theorem DS.settledTo_succ (s : DS) (k : Nat) (hk : k < s.row.length) : (s.settledTo (k + 1)).sure = (s.settledTo k).sure.set s.row[k].1 s.row[k].2 := by
  simp only [DS.settledTo]
  rw [List.take_succ_eq_append_getElem hk, List.foldl_append]
  rfl
def DS.synced (s : DS) : DS := { s.settledTo s.row.length with row := [] }
def DS.sync (s : DS) : DS × Int := if s.err ≠ 0 then (s.changed, s.err) else (s.changed.synced, 0)

theorem sync_no (d N S n : Nat) (rv : Value) (s : DS) (w : World) (h : Blk w d (diskCells N S n rv s) 57) (hc0 : 0 ≤ s.count) (hc1 : s.count ≤ 1099511627776) (he : s.err ≠ 0) :
    Calls Try.prog 33 #[.pointer (some ⟨d, 0, none⟩)] w fun e w' => e = .returned (.int .i64 s.err) ∧ Blk w' d (diskCells N S n rv s.changed) 57 ∧ Only [d] w w' := by
  have C := changes_any d N S n rv s w h hc0 hc1
  have HC := Lib.hid C
  clear C
  generalize s.err = er at *
  have he2 : (er == 0) = false := by simp [he]
  have he3 : (er != 0) = true := by simp [he]
  go_enter Try.func33, Try.ntmps33
  go_wp2_with (go_at_call 30; refine HC.out.mono ?_; rintro e w1 ⟨rfl, hb, hO⟩)
  go_ret
  exact ⟨rfl, hb, hO⟩

/-- One write more is sure. -/
theorem settle_step {w w' : World} {d : Nat} {M : List Nat} {s : DS} {N S : Nat} {rv : Value} {np sp rp : List Value} {k : Nat} (h : DiskAt w d M (s.settledTo k) N S rv np sp rp) (hk : k < s.row.length) {v : Value} {g : Nat}
    (hv : v = .pointer (some ⟨g, 0, none⟩)) (hg : Blk w g (u8s s.row[k].2) 72) (hl : s.row[k].2.length = 512) (hO : Only [S] w w') (hS : Blk w' S (sp.set s.row[k].1 v) 73) :
    DiskAt w' d M (s.settledTo (k + 1)) N S rv np (sp.set s.row[k].1 v) rp := by
  have hX : NoSec w [S] := fun x hx cs hb => by simp at hx; subst hx; exact h.sureB.ne hb (by decide) rfl
  refine ⟨hO.blk h.disk (by simp; exact h.disk.ne h.sureB (by decide)), hO.blk h.nowB (by simp; exact h.ne), hS, h.ne, h.nowS.later hO hX, ?_, ?_, h.few, owns_later h.own hO (fun x hx hm => by simp at hm; subst hm; exact owns_ne h.own h.sureB (by decide) hx), h.row.later hO hX, h.foot⟩
  · rw [DS.settledTo_succ s k hk]
    exact (h.sureS.later hO hX).set _ ⟨hl, .inr ⟨g, hv, hO.blk hg (by simp; exact (hg.ne h.sureB (by decide)))⟩⟩
  · rw [DS.settledTo_succ s k hk, List.length_set]; exact h.same

/-- The row is let go. -/
theorem row_gone {w : World} {d : Nat} {M : List Nat} {s : DS} {N S : Nat} {rv : Value} {np sp rp : List Value} (h : DiskAt w d M s N S rv np sp rp) :
    DiskAt (w.setCell ⟨d, 2, none⟩ (.slice none 0 0)) d [d, N, S] { s with row := [] } N S (.slice none 0 0) np sp [] := by
  have hO : Only [d] w (w.setCell ⟨d, 2, none⟩ (.slice none 0 0)) := (Only.refl _ _).setCell (.inl (by simp)) _
  have hX : NoSec w [d] := fun x hx cs hb => by simp at hx; subst hx; exact h.disk.ne hb (by decide) rfl
  exact ⟨(h.disk.set 2 _).to (by simp [diskCells]), hO.blk h.nowB (by simp; exact h.nowB.ne h.disk (by decide)), hO.blk h.sureB (by simp; exact h.sureB.ne h.disk (by decide)), h.ne, h.nowS.later hO hX, h.sureS.later hO hX, h.same, h.few, ⟨rfl, .inl ⟨rfl, rfl⟩⟩, trivial, rfl⟩
theorem sync_done {w : World} {d : Nat} {M : List Nat} {s : DS} {N S : Nat} {rv : Value} {np sp rp : List Value} (h : DiskAt w d M (s.settledTo s.row.length) N S rv np sp rp) :
    DiskAt (w.setCell ⟨d, 2, none⟩ (.slice none 0 0)) d [d, N, S] s.synced N S (.slice none 0 0) np sp [] := row_gone h

set_option maxRecDepth 100000 in
theorem sync_yes {d M s N S rv np sp rp} {w : World} (h : DiskAt w d M s N S rv np sp rp) (hc0 : 0 ≤ s.count) (hc1 : s.count ≤ 1099511627776) (hr : s.row.length ≤ 1048576) (he : s.err = 0) :
    Calls Try.prog 33 #[.pointer (some ⟨d, 0, none⟩)] w fun e w' => e = .returned (.int .i64 0) ∧ ∃ M' sp', DiskAt w' d M' s.changed.synced N S (.slice none 0 0) np sp' [] ∧ Only M w w' ∧ ∀ k ∈ M', k ∈ M := by
  have C := changes_any d N S s.now.length rv s w h.disk hc0 hc1
  rw [he] at C
  obtain ⟨ao, cap, rfl, hao⟩ := owns_shape h.own
  have HC := Lib.hid C
  have HH := Lib.hid h
  have HAO := Lib.hid hao
  clear C hao h
  generalize hrn : s.row.length = rn at *
  have Hrn := Lib.hid hrn
  clear hrn
  generalize hn : s.now.length = n at *
  have Hn := Lib.hid hn
  clear hn
  go_enter Try.func33, Try.ntmps33
  go_wp2_with (go_at_call 30; refine HC.out.mono ?_; rintro e w1 ⟨rfl, hb, hO⟩; have c2 := hb.cell 2; simp [diskCells] at c2)
  have D1 : DiskAt w1 d M (s.changed.settledTo 0) N S (.slice ao rn cap) np sp rp := HH.out.cells hO (by rw [Hn.out]; exact hb) rfl rfl rfl
  have HO1 : Hid (Only M w w1) := hO.mono (fun x hx => .inl (by simp at hx; subst hx; rw [HH.out.foot]; simp))
  have HD1 := Lib.hid D1
  clear hb hO D1 c2
  go_loopw [16] (fun i wr => ∃ (k : Nat) (sp' : List Value), k ≤ rn ∧ i = .int .i64 k ∧ DiskAt wr d M (s.changed.settledTo k) N S (.slice ao rn cap) np sp' rp ∧ Only M w wr) (fun i _ => rn - (intOf i).toNat)
  case atStart => exact ⟨0, sp, Nat.zero_le _, rfl, HD1.out, HO1.out⟩
  case round =>
    obtain ⟨k, sp', hk, rfl, hD, hO⟩ := hrel
    have HD := Lib.hid hD
    have HO := Lib.hid hO
    clear hD hO
    by_cases hlt : k < rn
    · obtain ⟨g, rfl⟩ := HAO.out (by omega)
      have hk2 : k < s.row.length := by rw [Hrn.out]; exact hlt
      obtain ⟨q, r0, r1, hat, hqb, hql⟩ := Row.get k hk2 HD.out.row
      have own : wr.ownsRow 0 75 2 (.slice (some ⟨g, 0, none⟩) rn cap) rn rp := by have := HD.out.own; rw [show (s.changed.settledTo k).row.length = rn from Hrn.out] at this; exact this
      have g0 := owns_cell own r0
      have g1 := owns_cell own r1
      have c1 := HD.out.disk.cell 1
      simp [diskCells] at c1
      have dlt := HD.out.disk.lt
      have Slt := HD.out.sureB.lt
      have HQ := Lib.hid hqb
      have HL := Lib.hid hql
      clear own hqb hql r0 r1
      have hat2 : s.row[k].1 < n := by rw [← Hn.out]; exact hat
      have hsl : s.row[k].1 < sp'.length := by rw [HD.out.sureS.1, HD.out.same]; exact hat
      generalize hP : s.row[k].1 = at1 at *
      have HP := Lib.hid hP
      clear hP
      have ha0 : (0 : Int) ≤ at1 := by omega
      have ha1 : (at1 : Int) < n := by omega
      rw [show (s.changed.settledTo k).now.length = n from Hn.out] at c1
      go_wp2_with fail
      have HX : Hid (Only [] wr (wr.alloc (.cells #[.int .i64 at1, .pointer (some ⟨q, 0, none⟩)] 75))) := (Only.refl _ _).alloc _
      have HDX : Hid (DiskAt (wr.alloc (.cells #[.int .i64 at1, .pointer (some ⟨q, 0, none⟩)] 75)) d M (s.changed.settledTo k) N S _ np sp' rp) := HD.out.later HX.out (by simp [NoSec]) (by simp)
      have p0 := (Blk.new' #[.int .i64 at1, .pointer (some ⟨q, 0, none⟩)] 75 wr rfl).cell 0
      have p1 := (Blk.new' #[.int .i64 at1, .pointer (some ⟨q, 0, none⟩)] 75 wr rfl).cell 1
      simp only [List.getElem?_cons_zero, List.getElem?_cons_succ] at p0 p1
      clear c1 g0 g1
      generalize wr.alloc (.cells #[.int .i64 at1, .pointer (some ⟨q, 0, none⟩)] 75) = wx at *
      have e2 : S ≠ wr.heap.size := by omega
      generalize wr.heap.size = pb at *
      have e1 : S ≠ d := HD.out.sureB.ne HD.out.disk (by decide)
      obtain ⟨oldv, cS⟩ := HDX.out.sureB.at at1 hsl
      have fS := HDX.out.sureB.frozen at1
      have c1 := HDX.out.disk.cell 1
      simp only [diskCells, List.getElem?_cons_zero, List.getElem?_cons_succ] at c1
      rw [show (s.changed.settledTo k).now.length = n from Hn.out] at c1
      clear hat hsl
      go_region_held3 (fun w' => w'.cell? ⟨d, 1, none⟩ = some (.slice (some ⟨S, 0, none⟩) n n) ∧ w'.cell? ⟨pb, 0, none⟩ = some (.int .i64 at1) ∧ w'.cell? ⟨pb, 1, none⟩ = some (.pointer (some ⟨q, 0, none⟩))) (go_keep) (fail)
      go_wp2
      obtain rfl := HP.out
      refine ⟨⟨k + 1, sp'.set s.row[k].1 (.pointer (some ⟨q, 0, none⟩)), by omega, by go_num, ?_, ?_⟩, by simp [intOf]; omega⟩
      · exact settle_step (s := s.changed) HDX.out hk2 rfl (HX.out.blk HQ.out (by simp)) HL.out (((Only.refl _ _).setCell (.inl (by simp)) _).drew) ((HDX.out.sureB.set _ _).drew)
      · exact ((HO.out.trans HX.out (by simp)).setCell (.inl (by rw [HH.out.foot]; simp)) _).drew
    · obtain rfl : k = rn := by omega
      have c2 := HD.out.disk.cell 2
      have f2 := HD.out.disk.frozen 2
      simp [diskCells] at c2
      go_wp2
      go_ret
      refine ⟨rfl, [d, N, S], sp', ?_, HO.out.setCell (.inl (by rw [HH.out.foot]; simp)) _, fun x hx => by rw [HH.out.foot]; exact List.mem_append_left _ hx⟩
      obtain rfl := Hrn.out
      exact sync_done HD.out
end Go.Proofs.Ytmgifohjoakdjaa.D
