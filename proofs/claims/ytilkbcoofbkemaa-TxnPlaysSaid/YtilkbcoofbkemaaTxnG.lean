/-
  The helper's Snapshot at two equal ones: by its contract.
-/
import Derived.Test.YtilkbcoofbkemaaTxnF
namespace Go.Proofs.Ytilkbcoofbkemaa.T
set_option linter.unusedSimpArgs false
open Go Go.RowKit Go.Proofs.Ytilkbcoofbkemaa.I
set_option linter.unusedVariables false
set_option maxHeartbeats 1000000 in
theorem hsnap_eq {w : World} {va vb : Value} {op : List Nat} (ha : NatsAt w va op) (hb : NatsAt w vb op) (hl : op.length ≤ 1048576) (own next : Nat) :
    Calls Try.prog 16 #[.agg #[.int .u64 own, .int .u64 next, va], .agg #[.int .u64 own, .int .u64 next, vb]] w fun e w' => e = .returned (.bool true) ∧ Only [] w w' := by
  obtain ⟨ao, ac, rfl, hca⟩ := ha
  obtain ⟨bo, bc, rfl, hcb⟩ := hb
  have CA := Lib.hid hca
  have CB := Lib.hid hcb
  clear hca hcb
  generalize hm : op.length = m at *
  clear hm
  have OA : Hid (Only [] w ((w.alloc (.cells #[.int .u64 own, .int .u64 next, .slice ao m ac] 29)).alloc (.cells #[.int .u64 own, .int .u64 next, .slice bo m bc] 29))) := ((Only.refl _ _).alloc _).alloc _
  have BA : Hid (Blk ((w.alloc (.cells #[.int .u64 own, .int .u64 next, .slice ao m ac] 29)).alloc (.cells #[.int .u64 own, .int .u64 next, .slice bo m bc] 29)) w.heap.size [.int .u64 own, .int .u64 next, .slice ao m ac] 29) := (Blk.new _ _ w).alloc _
  have BB : Hid (Blk ((w.alloc (.cells #[.int .u64 own, .int .u64 next, .slice ao m ac] 29)).alloc (.cells #[.int .u64 own, .int .u64 next, .slice bo m bc] 29)) (w.heap.size + 1) [.int .u64 own, .int .u64 next, .slice bo m bc] 29) := Blk.new' _ _ _ (by simp)
  go_enter Try.func16, Try.ntmps16
  go_wp2_with fail
  go_loopw [5] (fun i wr => ∃ k : Nat, k ≤ m ∧ i = .int .i64 k ∧ Only [] ((w.alloc (.cells #[.int .u64 own, .int .u64 next, .slice ao m ac] 29)).alloc (.cells #[.int .u64 own, .int .u64 next, .slice bo m bc] 29)) wr) (fun i _ => m - (intOf i).toNat)
  case atStart => exact ⟨0, Nat.zero_le _, rfl, Only.refl _ _⟩
  case round =>
    obtain ⟨k, hk, rfl, hO⟩ := hrel
    have OO := Lib.hid hO
    have y2 := (hO.blk BA.out (by simp)).cell 2
    have z2 := (hO.blk BB.out (by simp)).cell 2
    simp only [List.getElem?_cons_succ, List.getElem?_cons_zero] at y2 z2
    clear hO
    by_cases hlt : k < m
    · obtain ⟨b1, o1, rfl, h1⟩ := CA.out (by omega)
      obtain ⟨b2, o2, rfl, h2⟩ := CB.out (by omega)
      have c1 := OO.out.cell (OA.out.cell (h1 k hlt) (by simp)) (by simp)
      have c2 := OO.out.cell (OA.out.cell (h2 k hlt) (by simp)) (by simp)
      clear h1 h2
      generalize op.getD k 0 = x at *
      have hki : (k : Int) < m := by omega
      have hk0 : (0 : Int) ≤ k := by omega
      have hxi : ((x : Int) != x) = false := by simp
      go_wp2_with fail
      go_quiet (fail)
      go_wp2_with fail
      exact ⟨⟨k + 1, by omega, by go_num, OO.out.drewN nq⟩, by simp [intOf]; omega⟩
    · obtain rfl : k = m := by omega
      go_wp2_with fail
      go_ret
      exact ⟨rfl, OA.out.trans OO.out (by simp)⟩
end Go.Proofs.Ytilkbcoofbkemaa.T
