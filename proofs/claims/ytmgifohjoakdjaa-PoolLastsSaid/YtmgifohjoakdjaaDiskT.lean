/-
  fate and Restart of the program's disk, by contracts.
-/
import Derived.Test.YtmgifohjoakdjaaDiskS
import Derived.BigQuiet
import Derived.Deep.QuietTactic
namespace Go.Proofs.Ytmgifohjoakdjaa.D
set_option linter.unusedSimpArgs false
open Go.RowKit
set_option linter.unusedVariables false

theorem fate_lost (n : Int) (w : World) (h : n ≤ 0) : Calls Try.prog 34 #[.int .i64 n] w fun e w' => e = .returned (.int .i64 0) ∧ w = w' := by
  go_enter Try.func34, Try.ntmps34
  go_wp2
  go_ret
  exact ⟨rfl, rfl⟩
theorem fate_torn (n : Int) (w : World) (h : 0 < n) (h2 : n < 512) : Calls Try.prog 34 #[.int .i64 n] w fun e w' => e = .returned (.int .i64 1) ∧ w = w' := by
  go_enter Try.func34, Try.ntmps34
  go_wp2
  go_ret
  exact ⟨rfl, rfl⟩
theorem fate_kept (n : Int) (w : World) (h2 : 512 ≤ n) : Calls Try.prog 34 #[.int .i64 n] w fun e w' => e = .returned (.int .i64 2) ∧ w = w' := by
  have h : 0 < n := by omega
  go_enter Try.func34, Try.ntmps34
  go_wp2
  go_ret
  exact ⟨rfl, rfl⟩

/-- How many bytes of the j-th pending write are kept. -/
def kept (keep : List Int) (j : Nat) : Nat := (max 0 (min (keep.getD j 0) 512)).toNat
def tearOne (keep : List Int) (sure : List Sector) (j : Nat) (x : Nat × Sector) : List Sector :=
  if kept keep j = 0 then sure else sure.set x.1 (x.2.take (kept keep j) ++ (sure.getD x.1 []).drop (kept keep j))
/-- The sure sectors behind the first k writes. -/
def tornTo (s : DS) (keep : List Int) : Nat → List Sector
  | 0 => s.sure
  | k + 1 => tearOne keep (tornTo s keep k) k (s.row.getD k (0, []))
def DS.tornAt (s : DS) (keep : List Int) (k : Nat) : DS := { s with sure := tornTo s keep k }
def DS.restart (s : DS) (keep : List Int) : DS :=
  { s with now := tornTo s keep s.row.length, sure := tornTo s keep s.row.length, row := [], fail := 0, halt := -1, down := false }
theorem tornTo_length (s : DS) (keep : List Int) : ∀ k, (tornTo s keep k).length = s.sure.length
  | 0 => rfl
  | k + 1 => by
    simp only [tornTo, tearOne]
    split
    · exact tornTo_length s keep k
    · rw [List.length_set]; exact tornTo_length s keep k

theorem tornAt_same (s : DS) (keep : List Int) (k : Nat) (h : kept keep k = 0) : s.tornAt keep (k + 1) = s.tornAt keep k := by
  simp [DS.tornAt, tornTo, tearOne, h]

theorem tornAt_next (s : DS) (keep : List Int) (k nn : Nat) (hk : k < s.row.length) (h : kept keep k = nn) (hn : 0 < nn) :
    s.tornAt keep (k + 1) = { s.tornAt keep k with sure := (s.tornAt keep k).sure.set s.row[k].1 (s.row[k].2.take nn ++ ((s.tornAt keep k).sure.getD s.row[k].1 []).drop nn) } := by
  have e : s.row.getD k (0, []) = s.row[k] := by rw [List.getD_eq_getElem?_getD, List.getElem?_eq_getElem hk]; rfl
  simp only [DS.tornAt, tornTo, tearOne, h, e]
  rw [if_neg (by omega)]

theorem size_sector : (Try.prog.info? 73).map (·.size) = some 1 := by kernel_rfl

set_option maxRecDepth 100000 in
set_option maxHeartbeats 4000000 in
theorem restart_any {d M s N S rv np sp rp} {w : World} (h : DiskAt w d M s N S rv np sp rp) (hr : s.row.length ≤ 1048576) (kv : Value) (keep : List Int) (hk : IntsAt w kv keep) (hkM : 0 < keep.length → ∀ a n c, kv = .slice (some a) n c → a.block ∉ M) :
    Calls Try.prog 22 #[.pointer (some ⟨d, 0, none⟩), .agg #[kv]] w fun e w' => e = .returned (.tuple #[]) ∧ ∃ M' np' sp', DiskAt w' d M' (s.restart keep) N S (.slice none 0 0) np' sp' [] ∧ Only M w w' ∧ ∀ k ∈ M', k ∈ M := by
  obtain ⟨ao, cap, rfl, hao⟩ := owns_shape h.own
  obtain ⟨ko, kcap, rfl, hko⟩ := hk
  have HH := Lib.hid h
  have HAO := Lib.hid hao
  have HKO := Lib.hid hko
  have HKM := Lib.hid hkM
  have c2 := h.disk.cell 2
  simp [diskCells] at c2
  have dlt := h.disk.lt
  clear hao h hko hkM
  generalize hrn : s.row.length = rn at *
  have Hrn := Lib.hid hrn
  clear hrn
  generalize hn : s.now.length = n at *
  have Hn := Lib.hid hn
  clear hn
  generalize hm : keep.length = m at *
  have Hm := Lib.hid hm
  clear hm
  go_enter Try.func22, Try.ntmps22
  go_wp2
  have KB := Lib.hid (Blk.new' #[.slice ko m kcap] 52 w rfl)
  have D1 := Lib.hid (HH.out.later ((Only.refl [] _).alloc (.cells #[.slice ko m kcap] 52)) (by simp [NoSec]) (by simp))
  have O1 : Hid (Only M w (w.alloc (.cells #[.slice ko m kcap] 52))) := (Only.refl _ _).alloc _
  generalize w.alloc (.cells #[.slice ko m kcap] 52) = w1 at *
  have hcb : Hid (∀ k ∈ M, k ≠ w.heap.size) := fun k hk e => by have := HH.out.lt k hk; omega
  generalize w.heap.size = cb at *
  clear c2 dlt
  go_loopw [14] (fun i wr => ∃ (k : Nat) (sp' : List Value), k ≤ rn ∧ i = .int .i64 k ∧ DiskAt wr d M (s.tornAt keep k) N S (.slice ao rn cap) np sp' rp ∧ Only M w1 wr) (fun i _ => rn - (intOf i).toNat)
  case atStart => exact ⟨0, sp, Nat.zero_le _, rfl, D1.out, Only.refl _ _⟩
  case round =>
    obtain ⟨k, sp', hk, rfl, hD, hO⟩ := hrel
    have HD := Lib.hid hD
    have HO := Lib.hid hO
    have kb := (HO.out.blk KB.out (fun hm => hcb.out _ hm rfl)).cell 0
    simp at kb
    have cblt : cb < wr.heap.size := (HO.out.blk KB.out (fun hm => hcb.out _ hm rfl)).lt
    clear hD hO
    by_cases hlt : k < rn
    · obtain ⟨g, rfl⟩ := HAO.out (by omega)
      have hk2 : k < s.row.length := by rw [Hrn.out]; exact hlt
      obtain ⟨q, r0, r1, hat, hqb, hql⟩ := Row.get k hk2 HD.out.row
      have own : wr.ownsRow 0 75 2 (.slice (some ⟨g, 0, none⟩) rn cap) rn rp := by have := HD.out.own; rw [show (s.tornAt keep k).row.length = rn from Hrn.out] at this; exact this
      have g0 := owns_cell own r0
      have g1 := owns_cell own r1
      have hat2 : s.row[k].1 < n := by rw [← Hn.out]; exact hat
      have hsl : s.row[k].1 < sp'.length := by rw [HD.out.sureS.1, HD.out.same]; exact hat
      have HQ := Lib.hid hqb
      have HL := Lib.hid hql
      have c1 := HD.out.disk.cell 1
      simp only [diskCells, List.getElem?_cons_zero, List.getElem?_cons_succ] at c1
      rw [show (s.tornAt keep k).now.length = n from Hn.out] at c1
      have dlt := HD.out.disk.lt
      have Slt := HD.out.sureB.lt
      have glt : g < wr.heap.size := owns_lt own rfl
      clear own hqb hql r0 r1 hat
      generalize hP : s.row[k].1 = at1 at *
      have HP := Lib.hid hP
      clear hP
      have ha0 : (0 : Int) ≤ at1 := by omega
      have ha1 : (at1 : Int) < n := by omega
      by_cases hlost : m ≤ k ∨ keep.getD k 0 ≤ 0
      · have hz : kept keep k = 0 := by
          unfold kept
          rcases hlost with h | h
          · rw [List.getD_eq_getElem?_getD, List.getElem?_eq_none (by have := Hm.out; omega)]; simp; omega
          · omega
        by_cases hkm : k < m
        · have hn0 : keep.getD k 0 ≤ 0 := by omega
          obtain ⟨kb1, ko1, rfl, hkc⟩ := HKO.out (by omega)
          have ck := HO.out.cell (O1.out.cell (hkc k hkm) (HKM.out (by omega) ⟨kb1, ko1, none⟩ _ _ rfl)) (HKM.out (by omega) ⟨kb1, ko1, none⟩ _ _ rfl)
          have kblt : kb1 < wr.heap.size := World.block_lt_of_cell? _ _ ck
          clear hkc hlost
          generalize keep.getD k 0 = nv at *
          go_wp2_with (go_at_call 34; refine (fate_lost _ _ hn0).mono ?_; rintro e w' ⟨rfl, rfl⟩)
          exact ⟨⟨k + 1, sp', by omega, by go_num, by rw [tornAt_same s keep k hz]; exact HD.out.later ((Only.refl [] _).alloc _) (by simp [NoSec]) (by simp), HO.out.alloc _⟩, by simp [intOf]; omega⟩
        · clear hlost
          go_wp2_with (go_at_call 34; refine (fate_lost _ _ (by omega)).mono ?_; rintro e w' ⟨rfl, rfl⟩)
          exact ⟨⟨k + 1, sp', by omega, by go_num, by rw [tornAt_same s keep k hz]; exact HD.out.later ((Only.refl [] _).alloc _) (by simp [NoSec]) (by simp), HO.out.alloc _⟩, by simp [intOf]; omega⟩
      · have hkm : k < m := by omega
        obtain ⟨kb1, ko1, rfl, hkc⟩ := HKO.out (by omega)
        have ck := HO.out.cell (O1.out.cell (hkc k hkm) (HKM.out (by omega) ⟨kb1, ko1, none⟩ _ _ rfl)) (HKM.out (by omega) ⟨kb1, ko1, none⟩ _ _ rfl)
        have hpos : 0 < keep.getD k 0 := by omega
        have hkp : kept keep k = (min (keep.getD k 0) 512).toNat := by unfold kept; omega
        have kblt : kb1 < wr.heap.size := World.block_lt_of_cell? _ _ ck
        clear hkc hlost
        have hz := zero_arr
        by_cases htorn : keep.getD k 0 < 512
        · obtain ⟨nn, hnn⟩ : ∃ nn : Nat, keep.getD k 0 = nn := ⟨(keep.getD k 0).toNat, by omega⟩
          have hkn : kept keep k = nn := by rw [hkp]; omega
          rw [hnn] at ck hpos htorn
          have hn1 : 0 < nn := by omega
          have hn2 : nn < 512 := by omega
          have hn3 : (nn : Int) ≤ 512 := by omega
          have hn0 : (0 : Int) ≤ nn := by omega
          have HKN := Lib.hid hkn
          clear hnn hkp hkn
          go_wp2_with (go_at_call 34; refine (fate_torn _ _ hpos htorn).mono ?_; rintro e w' ⟨rfl, rfl⟩)
          have HX : Hid (Only [] wr ((wr.alloc (.cells #[.int .i64 at1, .pointer (some ⟨q, 0, none⟩)] 75)).alloc (.cells (u8s zeros).toArray 72))) := ((Only.refl _ _).alloc _).alloc _
          have HDX : Hid (DiskAt ((wr.alloc (.cells #[.int .i64 at1, .pointer (some ⟨q, 0, none⟩)] 75)).alloc (.cells (u8s zeros).toArray 72)) d M (s.tornAt keep k) N S _ np sp' rp) := HD.out.later HX.out (by simp [NoSec]) (by simp)
          have HPB := Lib.hid ((Blk.new' #[.int .i64 at1, .pointer (some ⟨q, 0, none⟩)] 75 wr rfl).alloc (.cells (u8s zeros).toArray 72))
          have HNB : Hid (Blk ((wr.alloc (.cells #[.int .i64 at1, .pointer (some ⟨q, 0, none⟩)] 75)).alloc (.cells (u8s zeros).toArray 72)) (wr.heap.size + 1) (u8s zeros) 72) := Blk.new' _ _ _ (by simp)
          clear c1 g0 g1 ck kb kblt cblt dlt Slt glt
          generalize (wr.alloc (.cells #[.int .i64 at1, .pointer (some ⟨q, 0, none⟩)] 75)).alloc (.cells (u8s zeros).toArray 72) = wx at *
          have p0 := HPB.out.cell 0
          have p1 := HPB.out.cell 1
          simp only [List.getElem?_cons_zero, List.getElem?_cons_succ] at p0 p1
          have c1 := HDX.out.disk.cell 1
          simp only [diskCells, List.getElem?_cons_zero, List.getElem?_cons_succ] at c1
          rw [show (s.tornAt keep k).now.length = n from Hn.out] at c1
          have hsec := HDX.out.sureS.2 at1 (by rw [← HDX.out.sureS.1]; exact hsl)
          have cS := HDX.out.sureB.cell at1
          rw [List.getElem?_eq_getElem hsl] at cS
          rw [List.getD_eq_getElem?_getD, List.getElem?_eq_getElem hsl] at hsec
          simp only [Option.getD_some] at hsec
          obtain ⟨hol, hov⟩ := hsec
          have HHOL := Lib.hid hol
          have HSL := Lib.hid hsl
          generalize sp'[at1] = oldv at *
          clear hsl hol
          generalize hold : (s.tornAt keep k).sure.getD at1 [] = old at *
          have HOLD := Lib.hid hold
          clear hold
          have HT0 : Hid ((s.row[k].2.take nn).length = nn) := by
            show _ = _
            rw [List.length_take, show s.row[k].2.length = 512 from HL.out]; exact Nat.min_eq_left (by omega)
          have HT1 : Hid ((u8s (s.row[k].2.take nn)).length = Nat.min nn nn) := by
            show _ = _
            rw [length_u8s, HT0.out]; exact (Nat.min_self nn).symm
          have HT2 : Hid (0 + (u8s (s.row[k].2.take nn)).length ≤ (u8s zeros).length) := by
            show _ ≤ _
            rw [length_u8s, length_u8s, HT0.out, zeros_len]; omega
          rcases hov with ⟨rfl, rfl⟩ | ⟨og, rfl, hob⟩
          · go_quiet (fail)
            go_wp2
            have OY : Hid (Only [] wx (wx.drewN nq)) := (Only.refl _ _).drewN nq
            have NBY : Hid (Blk (wx.drewN nq) (wr.heap.size + 1) (u8s zeros) 72) := HNB.out
            generalize wx.drewN nq = wy at *
            have HPY := Lib.hid (OY.out.blk HPB.out (by simp))
            have HQY := Lib.hid (OY.out.blk (HX.out.blk HQ.out (by simp)) (by simp))
            have p1 := HPY.out.cell 1
            simp only [List.getElem?_cons_zero, List.getElem?_cons_succ] at p1
            clear p0 c1 cS
            go_region_held3 (fun w' => w'.cell? ⟨wr.heap.size, 1, none⟩ = some (.pointer (some ⟨q, 0, none⟩))) (first | go_keep | exact hO3.cell p1 (by simp)) ((refine step_copy_blk (by rfl) (.tmp 54) (.tmp 59) 22 22 (by rfl) 5 Try.underlying22 size_byte _ _ _ _ _ _ (by rfl) (by rfl) (wr.heap.size + 1) 0 (u8s zeros) 72 NBY.out.drew (u8s (s.row[k].2.take nn)) (by exact HT1.out) (by exact fun _ => ⟨rfl, _, rfl, fun j v hv => HQY.out.drew.add_cell j v (take_get (by rw [← u8s_take]; exact hv))⟩) (by exact HT2.out) (u8s_oneCell _) ?_; intro w3 hb3 hO3))
            have O3 : Hid (Only [] wr w3) := ((HX.out.trans OY.out (by simp)).drew).trans hO3 (by simp)
            have HD3 := Lib.hid (HD.out.later O3.out (by simp [NoSec]) (by simp))
            have HP3 := Lib.hid (hO3.blk HPY.out.drew (by simp))
            have HB3 := Lib.hid (hb3.to (u8s_splice zeros _ (by rw [HT0.out, zeros_len]; omega)))
            obtain ⟨oldc, cS⟩ := HD3.out.sureB.at at1 HSL.out
            have fS := HD3.out.sureB.frozen at1
            have p0 := HP3.out.cell 0
            have c1 := HD3.out.disk.cell 1
            simp only [diskCells, List.getElem?_cons_zero, List.getElem?_cons_succ] at c1 p0
            rw [show (s.tornAt keep k).now.length = n from Hn.out] at c1
            have e1 : S ≠ d := HD3.out.sureB.ne HD3.out.disk (by decide)
            have e2 : S ≠ wr.heap.size := by have := HD.out.sureB.lt; omega
            clear p1 hb3 hO3
            go_wp2_with fail
            go_region_held3 (fun w' => w'.cell? ⟨d, 1, none⟩ = some (.slice (some ⟨S, 0, none⟩) n n) ∧ w'.cell? ⟨wr.heap.size, 0, none⟩ = some (.int .i64 at1)) (go_keep) (fail)
            go_wp2
            obtain rfl := HP.out
            refine ⟨⟨k + 1, sp'.set s.row[k].1 (.pointer (some ⟨wr.heap.size + 1, 0, none⟩)), by omega, by go_num, ?_, ?_⟩, by simp [intOf]; omega⟩
            · rw [tornAt_next s keep k nn hk2 HKN.out (by omega)]
              refine (HD3.out.sureSet s.row[k].1 ?_ (((Only.refl _ _).setCell (.inl (by simp)) _).drew) ((HD3.out.sureB.set _ _).drew))
              rw [HOLD.out]
              refine ⟨?_, .inr ⟨_, rfl, HB3.out.to ?_⟩⟩
              · rw [List.length_append, HT0.out, List.length_drop, HHOL.out] <;> omega
              · rw [HT0.out]
            · exact ((HO.out.trans O3.out (by simp)).setCell (.inl (by rw [HH.out.foot]; simp)) _).drew
          · have HOB := Lib.hid hob
            have HIO : Hid ((Try.prog.info? 72).map (·.size) = some (u8s old).length) := by
              show _ = _
              rw [length_u8s, HHOL.out]; kernel_rfl
            have HLZ : Hid ((u8s old).length = (u8s zeros).length) := by
              show _ = _
              rw [length_u8s, length_u8s, HHOL.out, zeros_len]
            have HT3 : Hid (0 + (u8s (s.row[k].2.take nn)).length ≤ (u8s old).length) := by
              show _ ≤ _
              rw [length_u8s, length_u8s, HT0.out, HHOL.out]; omega
            clear hob
            go_quiet (fail)
            go_wp2_with (first | (refine wpList_load_blk rfl 72 (.tmp 48) rfl og rfl (t := 72) (cs := u8s old) (by exact HOB.out) _ Try.underlying72 rfl (by exact HIO.out) ?_) | (refine wpList_store_blk rfl 72 (.tmp 50) (.tmp 49) rfl (wr.heap.size + 1) (u8s old) rfl rfl (cur := u8s zeros) (t := 72) (by exact HNB.out) (by exact HLZ.out) (by exact HIO.out) (u8s_oneCell old) ?_))
            intro wy NBY0 OY0
            have OY : Hid (Only [wr.heap.size + 1] wx wy) := ((Only.refl _ _).drewN nq).trans OY0 (by simp)
            have NBY : Hid (Blk wy (wr.heap.size + 1) (u8s old) 72) := NBY0
            clear NBY0 OY0
            go_wp2
            have HPY := Lib.hid (OY.out.blk HPB.out (by simp))
            have HQY := Lib.hid (OY.out.blk (HX.out.blk HQ.out (by simp)) (by have := HQ.out.lt; simp; omega))
            have p1 := HPY.out.cell 1
            simp only [List.getElem?_cons_zero, List.getElem?_cons_succ] at p1
            clear p0 c1 cS
            go_region_held3 (fun w' => w'.cell? ⟨wr.heap.size, 1, none⟩ = some (.pointer (some ⟨q, 0, none⟩))) (first | go_keep | exact hO3.cell p1 (by simp)) ((refine step_copy_blk (by rfl) (.tmp 54) (.tmp 59) 22 22 (by rfl) 5 Try.underlying22 size_byte _ _ _ _ _ _ (by rfl) (by rfl) (wr.heap.size + 1) 0 (u8s old) 72 NBY.out.drew (u8s (s.row[k].2.take nn)) (by exact HT1.out) (by exact fun _ => ⟨rfl, _, rfl, fun j v hv => HQY.out.drew.add_cell j v (take_get (by rw [← u8s_take]; exact hv))⟩) (by exact HT3.out) (u8s_oneCell _) ?_; intro w3 hb3 hO3))
            have O3 : Hid (Only [] wr w3) := ((HX.out.trans OY.out (by simp)).drew).trans hO3 (by simp)
            have HD3 := Lib.hid (HD.out.later O3.out (by simp [NoSec]) (by simp))
            have HP3 := Lib.hid (hO3.blk HPY.out.drew (by simp))
            have HB3 := Lib.hid (hb3.to (u8s_splice old _ (by rw [HT0.out, HHOL.out]; omega)))
            obtain ⟨oldc, cS⟩ := HD3.out.sureB.at at1 HSL.out
            have fS := HD3.out.sureB.frozen at1
            have p0 := HP3.out.cell 0
            have c1 := HD3.out.disk.cell 1
            simp only [diskCells, List.getElem?_cons_zero, List.getElem?_cons_succ] at c1 p0
            rw [show (s.tornAt keep k).now.length = n from Hn.out] at c1
            have e1 : S ≠ d := HD3.out.sureB.ne HD3.out.disk (by decide)
            have e2 : S ≠ wr.heap.size := by have := HD.out.sureB.lt; omega
            clear p1 hb3 hO3
            go_wp2_with fail
            go_region_held3 (fun w' => w'.cell? ⟨d, 1, none⟩ = some (.slice (some ⟨S, 0, none⟩) n n) ∧ w'.cell? ⟨wr.heap.size, 0, none⟩ = some (.int .i64 at1)) (go_keep) (fail)
            go_wp2
            obtain rfl := HP.out
            refine ⟨⟨k + 1, sp'.set s.row[k].1 (.pointer (some ⟨wr.heap.size + 1, 0, none⟩)), by omega, by go_num, ?_, ?_⟩, by simp [intOf]; omega⟩
            · rw [tornAt_next s keep k nn hk2 HKN.out (by omega)]
              refine (HD3.out.sureSet s.row[k].1 ?_ (((Only.refl _ _).setCell (.inl (by simp)) _).drew) ((HD3.out.sureB.set _ _).drew))
              rw [HOLD.out]
              refine ⟨?_, .inr ⟨_, rfl, HB3.out.to ?_⟩⟩
              · rw [List.length_append, HT0.out, List.length_drop, HHOL.out] <;> omega
              · rw [HT0.out]
            · exact ((HO.out.trans O3.out (by simp)).setCell (.inl (by rw [HH.out.foot]; simp)) _).drew
        · have hkn : kept keep k = 512 := by rw [hkp]; omega
          have hbig : 512 ≤ keep.getD k 0 := by omega
          have HKN := Lib.hid hkn
          clear hkp hkn htorn
          generalize keep.getD k 0 = nv at *
          go_wp2_with (go_at_call 34; refine (fate_kept _ _ hbig).mono ?_; rintro e w' ⟨rfl, rfl⟩)
          have HX : Hid (Only [] wr ((wr.alloc (.cells #[.int .i64 at1, .pointer (some ⟨q, 0, none⟩)] 75)).alloc (.cells (u8s zeros).toArray 72))) := ((Only.refl _ _).alloc _).alloc _
          have HDX : Hid (DiskAt ((wr.alloc (.cells #[.int .i64 at1, .pointer (some ⟨q, 0, none⟩)] 75)).alloc (.cells (u8s zeros).toArray 72)) d M (s.tornAt keep k) N S _ np sp' rp) := HD.out.later HX.out (by simp [NoSec]) (by simp)
          have HPB := Lib.hid ((Blk.new' #[.int .i64 at1, .pointer (some ⟨q, 0, none⟩)] 75 wr rfl).alloc (.cells (u8s zeros).toArray 72))
          have HNB : Hid (Blk ((wr.alloc (.cells #[.int .i64 at1, .pointer (some ⟨q, 0, none⟩)] 75)).alloc (.cells (u8s zeros).toArray 72)) (wr.heap.size + 1) (u8s zeros) 72) := Blk.new' _ _ _ (by simp)
          clear c1 g0 g1 ck kb kblt cblt dlt Slt glt
          generalize (wr.alloc (.cells #[.int .i64 at1, .pointer (some ⟨q, 0, none⟩)] 75)).alloc (.cells (u8s zeros).toArray 72) = wx at *
          have p0 := HPB.out.cell 0
          have p1 := HPB.out.cell 1
          simp only [List.getElem?_cons_zero, List.getElem?_cons_succ] at p0 p1
          have c1 := HDX.out.disk.cell 1
          simp only [diskCells, List.getElem?_cons_zero, List.getElem?_cons_succ] at c1
          rw [show (s.tornAt keep k).now.length = n from Hn.out] at c1
          have hsec := HDX.out.sureS.2 at1 (by rw [← HDX.out.sureS.1]; exact hsl)
          have cS := HDX.out.sureB.cell at1
          rw [List.getElem?_eq_getElem hsl] at cS
          rw [List.getD_eq_getElem?_getD, List.getElem?_eq_getElem hsl] at hsec
          simp only [Option.getD_some] at hsec
          obtain ⟨hol, hov⟩ := hsec
          have HHOL := Lib.hid hol
          have HSL := Lib.hid hsl
          generalize sp'[at1] = oldv at *
          clear hsl hol
          generalize hold : (s.tornAt keep k).sure.getD at1 [] = old at *
          have HOLD := Lib.hid hold
          clear hold
          have HT0 : Hid ((s.row[k].2.take 512).length = 512) := by
            show _ = _
            rw [List.length_take, show s.row[k].2.length = 512 from HL.out]; exact Nat.min_eq_left (by omega)
          have HT1 : Hid ((u8s (s.row[k].2.take 512)).length = Nat.min 512 512) := by
            show _ = _
            rw [length_u8s, HT0.out]; exact (Nat.min_self 512).symm
          have HT2 : Hid (0 + (u8s (s.row[k].2.take 512)).length ≤ (u8s zeros).length) := by
            show _ ≤ _
            rw [length_u8s, length_u8s, HT0.out, zeros_len]; omega
          rcases hov with ⟨rfl, rfl⟩ | ⟨og, rfl, hob⟩
          · go_quiet (fail)
            go_wp2
            have OY : Hid (Only [] wx (wx.drewN nq)) := (Only.refl _ _).drewN nq
            have NBY : Hid (Blk (wx.drewN nq) (wr.heap.size + 1) (u8s zeros) 72) := HNB.out
            generalize wx.drewN nq = wy at *
            have HPY := Lib.hid (OY.out.blk HPB.out (by simp))
            have HQY := Lib.hid (OY.out.blk (HX.out.blk HQ.out (by simp)) (by simp))
            have p1 := HPY.out.cell 1
            simp only [List.getElem?_cons_zero, List.getElem?_cons_succ] at p1
            clear p0 c1 cS
            go_region_held3 (fun w' => w'.cell? ⟨wr.heap.size, 1, none⟩ = some (.pointer (some ⟨q, 0, none⟩))) (first | go_keep | exact hO3.cell p1 (by simp)) ((refine step_copy_blk (by rfl) (.tmp 54) (.tmp 59) 22 22 (by rfl) 5 Try.underlying22 size_byte _ _ _ _ _ _ (by rfl) (by rfl) (wr.heap.size + 1) 0 (u8s zeros) 72 NBY.out.drew (u8s (s.row[k].2.take 512)) (by exact HT1.out) (by exact fun _ => ⟨rfl, _, rfl, fun j v hv => HQY.out.drew.add_cell j v (take_get (by rw [← u8s_take]; exact hv))⟩) (by exact HT2.out) (u8s_oneCell _) ?_; intro w3 hb3 hO3))
            have O3 : Hid (Only [] wr w3) := ((HX.out.trans OY.out (by simp)).drew).trans hO3 (by simp)
            have HD3 := Lib.hid (HD.out.later O3.out (by simp [NoSec]) (by simp))
            have HP3 := Lib.hid (hO3.blk HPY.out.drew (by simp))
            have HB3 := Lib.hid (hb3.to (u8s_splice zeros _ (by rw [HT0.out, zeros_len]; omega)))
            obtain ⟨oldc, cS⟩ := HD3.out.sureB.at at1 HSL.out
            have fS := HD3.out.sureB.frozen at1
            have p0 := HP3.out.cell 0
            have c1 := HD3.out.disk.cell 1
            simp only [diskCells, List.getElem?_cons_zero, List.getElem?_cons_succ] at c1 p0
            rw [show (s.tornAt keep k).now.length = n from Hn.out] at c1
            have e1 : S ≠ d := HD3.out.sureB.ne HD3.out.disk (by decide)
            have e2 : S ≠ wr.heap.size := by have := HD.out.sureB.lt; omega
            clear p1 hb3 hO3
            go_wp2_with fail
            go_region_held3 (fun w' => w'.cell? ⟨d, 1, none⟩ = some (.slice (some ⟨S, 0, none⟩) n n) ∧ w'.cell? ⟨wr.heap.size, 0, none⟩ = some (.int .i64 at1)) (go_keep) (fail)
            go_wp2
            obtain rfl := HP.out
            refine ⟨⟨k + 1, sp'.set s.row[k].1 (.pointer (some ⟨wr.heap.size + 1, 0, none⟩)), by omega, by go_num, ?_, ?_⟩, by simp [intOf]; omega⟩
            · rw [tornAt_next s keep k 512 hk2 HKN.out (by omega)]
              refine (HD3.out.sureSet s.row[k].1 ?_ (((Only.refl _ _).setCell (.inl (by simp)) _).drew) ((HD3.out.sureB.set _ _).drew))
              rw [HOLD.out]
              refine ⟨?_, .inr ⟨_, rfl, HB3.out.to ?_⟩⟩
              · rw [List.length_append, HT0.out, List.length_drop, HHOL.out] <;> omega
              · rw [HT0.out]
            · exact ((HO.out.trans O3.out (by simp)).setCell (.inl (by rw [HH.out.foot]; simp)) _).drew
          · have HOB := Lib.hid hob
            have HIO : Hid ((Try.prog.info? 72).map (·.size) = some (u8s old).length) := by
              show _ = _
              rw [length_u8s, HHOL.out]; kernel_rfl
            have HLZ : Hid ((u8s old).length = (u8s zeros).length) := by
              show _ = _
              rw [length_u8s, length_u8s, HHOL.out, zeros_len]
            have HT3 : Hid (0 + (u8s (s.row[k].2.take 512)).length ≤ (u8s old).length) := by
              show _ ≤ _
              rw [length_u8s, length_u8s, HT0.out, HHOL.out]; omega
            clear hob
            go_quiet (fail)
            go_wp2_with (first | (refine wpList_load_blk rfl 72 (.tmp 48) rfl og rfl (t := 72) (cs := u8s old) (by exact HOB.out) _ Try.underlying72 rfl (by exact HIO.out) ?_) | (refine wpList_store_blk rfl 72 (.tmp 50) (.tmp 49) rfl (wr.heap.size + 1) (u8s old) rfl rfl (cur := u8s zeros) (t := 72) (by exact HNB.out) (by exact HLZ.out) (by exact HIO.out) (u8s_oneCell old) ?_))
            intro wy NBY0 OY0
            have OY : Hid (Only [wr.heap.size + 1] wx wy) := ((Only.refl _ _).drewN nq).trans OY0 (by simp)
            have NBY : Hid (Blk wy (wr.heap.size + 1) (u8s old) 72) := NBY0
            clear NBY0 OY0
            go_wp2
            have HPY := Lib.hid (OY.out.blk HPB.out (by simp))
            have HQY := Lib.hid (OY.out.blk (HX.out.blk HQ.out (by simp)) (by have := HQ.out.lt; simp; omega))
            have p1 := HPY.out.cell 1
            simp only [List.getElem?_cons_zero, List.getElem?_cons_succ] at p1
            clear p0 c1 cS
            go_region_held3 (fun w' => w'.cell? ⟨wr.heap.size, 1, none⟩ = some (.pointer (some ⟨q, 0, none⟩))) (first | go_keep | exact hO3.cell p1 (by simp)) ((refine step_copy_blk (by rfl) (.tmp 54) (.tmp 59) 22 22 (by rfl) 5 Try.underlying22 size_byte _ _ _ _ _ _ (by rfl) (by rfl) (wr.heap.size + 1) 0 (u8s old) 72 NBY.out.drew (u8s (s.row[k].2.take 512)) (by exact HT1.out) (by exact fun _ => ⟨rfl, _, rfl, fun j v hv => HQY.out.drew.add_cell j v (take_get (by rw [← u8s_take]; exact hv))⟩) (by exact HT3.out) (u8s_oneCell _) ?_; intro w3 hb3 hO3))
            have O3 : Hid (Only [] wr w3) := ((HX.out.trans OY.out (by simp)).drew).trans hO3 (by simp)
            have HD3 := Lib.hid (HD.out.later O3.out (by simp [NoSec]) (by simp))
            have HP3 := Lib.hid (hO3.blk HPY.out.drew (by simp))
            have HB3 := Lib.hid (hb3.to (u8s_splice old _ (by rw [HT0.out, HHOL.out]; omega)))
            obtain ⟨oldc, cS⟩ := HD3.out.sureB.at at1 HSL.out
            have fS := HD3.out.sureB.frozen at1
            have p0 := HP3.out.cell 0
            have c1 := HD3.out.disk.cell 1
            simp only [diskCells, List.getElem?_cons_zero, List.getElem?_cons_succ] at c1 p0
            rw [show (s.tornAt keep k).now.length = n from Hn.out] at c1
            have e1 : S ≠ d := HD3.out.sureB.ne HD3.out.disk (by decide)
            have e2 : S ≠ wr.heap.size := by have := HD.out.sureB.lt; omega
            clear p1 hb3 hO3
            go_wp2_with fail
            go_region_held3 (fun w' => w'.cell? ⟨d, 1, none⟩ = some (.slice (some ⟨S, 0, none⟩) n n) ∧ w'.cell? ⟨wr.heap.size, 0, none⟩ = some (.int .i64 at1)) (go_keep) (fail)
            go_wp2
            obtain rfl := HP.out
            refine ⟨⟨k + 1, sp'.set s.row[k].1 (.pointer (some ⟨wr.heap.size + 1, 0, none⟩)), by omega, by go_num, ?_, ?_⟩, by simp [intOf]; omega⟩
            · rw [tornAt_next s keep k 512 hk2 HKN.out (by omega)]
              refine (HD3.out.sureSet s.row[k].1 ?_ (((Only.refl _ _).setCell (.inl (by simp)) _).drew) ((HD3.out.sureB.set _ _).drew))
              rw [HOLD.out]
              refine ⟨?_, .inr ⟨_, rfl, HB3.out.to ?_⟩⟩
              · rw [List.length_append, HT0.out, List.length_drop, HHOL.out] <;> omega
              · rw [HT0.out]
            · exact ((HO.out.trans O3.out (by simp)).setCell (.inl (by rw [HH.out.foot]; simp)) _).drew
    · obtain rfl : k = rn := by omega
      have nl : sp'.length = n := by rw [HD.out.sureS.1, HD.out.same]; exact Hn.out
      have nl2 : np.length = n := by rw [HD.out.nowS.1]; exact Hn.out
      have c0 := HD.out.disk.cell 0
      have c1 := HD.out.disk.cell 1
      simp only [diskCells, List.getElem?_cons_zero, List.getElem?_cons_succ] at c0 c1
      rw [show (s.tornAt keep k).now.length = n from Hn.out] at c0 c1
      have HNL : Hid (sp'.length = Nat.min n n) := by show _ = _; rw [nl]; exact (Nat.min_self n).symm
      have HNL2 : Hid (0 + sp'.length ≤ np.length) := by show _ ≤ _; rw [nl, nl2]; omega
      have HNL3 : Hid (sp'.length = np.length) := by show _ = _; rw [nl, nl2]
      have HNL4 := Lib.hid nl
      have h1c : Hid (∀ v ∈ sp', v.oneCell' = true) := by
        intro v hv
        obtain ⟨j, hj, rfl⟩ := List.getElem_of_mem hv
        have := (HD.out.sureS.2 j (by rw [← HD.out.sureS.1]; exact hj)).2
        rw [List.getD_eq_getElem?_getD, List.getElem?_eq_getElem hj] at this
        rcases this with ⟨h, _⟩ | ⟨_, h, _⟩ <;> (simp only [Option.getD_some] at h; rw [h]; rfl)
      have e1 : N ≠ d := HD.out.nowB.ne HD.out.disk (by decide)
      clear nl nl2 kb cblt
      go_wp2_with fail
      go_region_held3 (fun w' => w'.cell? ⟨d, 0, none⟩ = some (.slice (some ⟨N, 0, none⟩) n n) ∧ w'.cell? ⟨d, 1, none⟩ = some (.slice (some ⟨S, 0, none⟩) n n))
        (first | go_keep | exact ⟨hO3.cell (p := ⟨d, 0, none⟩) c0 (by simp; exact e1.symm), hO3.cell (p := ⟨d, 1, none⟩) c1 (by simp; exact e1.symm)⟩)
        ((refine step_copy_blk (by rfl) (.tmp 73) (.tmp 77) 54 54 (by rfl) 73 Try.underlying54 size_sector _ _ _ _ _ _ (by rfl) (by rfl) N 0 np 73 HD.out.nowB.drew sp' (by exact HNL.out) (by exact fun _ => ⟨rfl, _, rfl, fun j v hv => HD.out.sureB.drew.add_cell j v hv⟩) (by exact HNL2.out) (by exact h1c.out) ?_; intro w3 hb3 hO3))
      have O3 : Hid (Only M w w3) := (((O1.out.trans HO.out (fun x hx => .inl hx)).drew).trans hO3 (by simp; rw [HH.out.foot]; simp))
      have HD3 : Hid (Blk w3 d (diskCells N S n (.slice ao k cap) (s.tornAt keep k)) 57) := (hO3.blk HD.out.disk.drew (by simp; exact e1.symm)).to (by rw [show (s.tornAt keep k).now.length = n from Hn.out])
      have HN3 := Lib.hid (hb3.to (splice_all _ _ HNL3.out))
      have HS3 := Lib.hid (hO3.blk HD.out.sureB.drew (by simp; exact HD.out.ne.symm))
      have HSS : Hid (Secs w3 sp' (s.tornAt keep k).sure) := HD.out.sureS.later ((Only.refl [N] _).drew.trans hO3 (by simp)) (fun x hx cs hq => by simp at hx; subst hx; exact HD.out.nowB.ne hq (by decide) rfl)
      have c2 := HD3.out.cell 2
      have c4 := HD3.out.cell 4
      have c5 := HD3.out.cell 5
      have c6 := HD3.out.cell 6
      have f2 := HD3.out.frozen 2
      have f4 := HD3.out.frozen 4
      have f5 := HD3.out.frozen 5
      have f6 := HD3.out.frozen 6
      simp [diskCells] at c2 c4 c5 c6
      clear c0 c1 hb3 hO3
      go_wp2
      go_end0
      obtain rfl := Hrn.out
      have hdM : d ∈ M := by rw [HH.out.foot]; simp
      refine ⟨rfl, [d, N, S], sp', sp', ?_, (((O3.out.setCell (.inl hdM) _).setCell (.inl hdM) _).setCell (.inl hdM) _).setCell (.inl hdM) _, fun x hx => by rw [HH.out.foot]; exact List.mem_append_left _ hx⟩
      have hX : NoSec w3 [d] := fun x hx cs hq => by simp at hx; subst hx; exact HD3.out.ne hq (by decide) rfl
      have hOd : Only [d] w3 ((((w3.setCell ⟨d, 2, none⟩ (.slice none 0 0)).setCell ⟨d, 4, none⟩ (.int .i64 0)).setCell ⟨d, 5, none⟩ (.int .i64 (-1))).setCell ⟨d, 6, none⟩ (.bool false)) :=
        ((((Only.refl [d] _).setCell (.inl (by simp)) _).setCell (.inl (by simp)) _).setCell (.inl (by simp)) _).setCell (.inl (by simp)) _
      have hlen : (tornTo s keep s.row.length).length = n := by rw [tornTo_length]; exact HH.out.same.trans Hn.out
      refine ⟨((((HD3.out.set 2 _).set 4 _).set 5 _).set 6 _).to ?_, hOd.blk HN3.out (by simp; exact e1), hOd.blk HS3.out (by simp; exact HD.out.sureB.ne HD.out.disk (by decide)), HD.out.ne, HSS.out.later hOd hX, HSS.out.later hOd hX, rfl, ?_, ⟨rfl, .inl ⟨rfl, rfl⟩⟩, trivial, rfl⟩
      · simp [diskCells, DS.restart, DS.tornAt, hlen]
      · simp only [DS.restart]; rw [hlen]; exact Hn.out ▸ HH.out.few
end Go.Proofs.Ytmgifohjoakdjaa.D
