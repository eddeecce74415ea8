/-
  known of the package of laws answers true at whatever world.
-/
import Derived.Test.YtmkhneapkcfmgaaCostC
namespace Go.Proofs.Ytmkhneapkcfmgaa.K
open Go.RowKit F
set_option linter.unusedVariables false

theorem bounds1 : Bounds 100 [10] := by
  intro j hj
  have : j = 0 := by simp at hj; omega
  subst this; simp

theorem known_scan (ao : Option Addr) (w : World) (ha : IntsIn w ao [10]) :
    Calls Try.prog 6 #[.agg #[.int .i64 100, .slice ao 1 1]] w fun e w' => e = .returned (.tuple #[.complex .f64 4636737291354636288 4623507967449235456, .int .i64 0]) ∧ Below w.heap.size w w' := by
  refine (scan_yes [10] 100 ao 1 w (by omega) (by omega) bounds1 (by simp) ha).mono ?_
  rintro e w' ⟨rfl, hb⟩
  refine ⟨?_, hb⟩
  have e1 : floatOfInt .f64 100 = 4636737291354636288 := by decide +kernel
  have e2 : floatOfInt .f64 ((100 + 8 - 1) / 8) = 4623507967449235456 := by decide +kernel
  rw [cx, e1, e2]

theorem known_probe (ao co : Option Addr) (w : World) (ha : IntsIn w ao [10]) (hco : IntsIn w co [0]) :
    Calls Try.prog 7 #[.agg #[.int .i64 100, .slice ao 1 1], .slice co 1 1] w fun e w' => e = .returned (.tuple #[.complex .f64 4622382067542392832 4622382067542392832, .int .i64 0]) ∧ Below w.heap.size w w' := by
  refine (probe_yes [10] [0] 100 ao co 1 1 w (by omega) (by omega) bounds1 (by simp) ha hco (by simp) (by simp) (by simp)).mono ?_
  rintro e w' ⟨rfl, hb⟩
  refine ⟨?_, hb⟩
  have e0 : byOf 100 [10] [0] = 10 := by decide
  have e1 : floatOfInt .f64 ((100 + 10 - 1) / 10 + 1) = 4622382067542392832 := by decide +kernel
  rw [e0, cx, e1]

theorem known_nest (w : World) :
    Calls Try.prog 9 #[.complex .f64 4636737291354636288 4623507967449235456, .complex .f64 4622382067542392832 4622382067542392832, .int .i64 100] w fun e w' => e = .returned (.tuple #[.complex .f64 4652992471259676672 4652609841213210624, .int .i64 0]) ∧ w = w' := by
  have h := nest_yes 100 13 11 11 100 (by omega) (by omega) (by omega) (by omega) (by omega) w
  have e1 : fl 100 = 4636737291354636288 := by decide +kernel
  have e2 : fl 13 = 4623507967449235456 := by decide +kernel
  have e3 : fl 11 = 4622382067542392832 := by decide +kernel
  have e4 : fl (100 + 100 * 11) = 4652992471259676672 := by decide +kernel
  have e5 : fl (13 + 100 * 11) = 4652609841213210624 := by decide +kernel
  rw [e1, e2, e3, e4, e5] at h
  exact h

theorem known_yes (w : World) :
    Calls Try.prog 5 #[] w fun e w' => e = .returned (.bool true) ∧ Below w.heap.size w w' := by
  have o1 : FloatKind.f64.format.order 4636737291354636288 4636737291354636288 = some .eq := by decide +kernel
  have o2 : FloatKind.f64.format.order 4623507967449235456 4623507967449235456 = some .eq := by decide +kernel
  have o3 : FloatKind.f64.format.order 4622382067542392832 4622382067542392832 = some .eq := by decide +kernel
  have o4 : FloatKind.f64.format.order 4652992471259676672 4652992471259676672 = some .eq := by decide +kernel
  have o5 : FloatKind.f64.format.order 4652609841213210624 4652609841213210624 = some .eq := by decide +kernel
  go_enter Try.func5, Try.ntmps5
  go_wp2_with fail
  refine (known_scan _ _ ?_).mono ?_
  · intro _
    exact ⟨w.heap.size, 0, rfl, fun j hj => by
      have : j = 0 := by simp at hj; omega
      subst this; simp⟩
  rintro e w1 ⟨rfl, hb1⟩
  have c0 := hb1.cell (p := ⟨w.heap.size + 1, 0, none⟩) (by simp)
  have c1 := hb1.cell (p := ⟨w.heap.size + 1, 1, none⟩) (by simp)
  have c2 := hb1.cell (p := ⟨w.heap.size, 0, none⟩) (by simp <;> omega)
  simp at c0 c1 c2
  have HC2 := Lib.hid c2
  have HZ : Hid (w.heap.size + 2 ≤ w1.heap.size) := by have := hb1.size; simp at this; exact this
  have HB : Hid (Below w.heap.size w w1) := (((Below.refl _ _).alloc (Nat.le_refl _) _).alloc (by simp) _).trans (hb1.mono (by simp; omega))
  clear hb1 c2
  go_wp2_with fail
  refine (known_probe _ _ _ ?_ ?_).mono ?_
  · intro _
    exact ⟨w.heap.size, 0, rfl, fun j hj => by
      have : j = 0 := by simp at hj; omega
      subst this; rw [World.cell?_alloc_lt _ _ _ (by have := HZ.out; simp; omega)]; exact HC2.out⟩
  · intro _
    exact ⟨w1.heap.size, 0, rfl, fun j hj => by
      have : j = 0 := by simp at hj; omega
      subst this; simp⟩
  rintro e w2 ⟨rfl, hb2⟩
  have HB2 : Hid (Below w.heap.size w w2) := HB.out.trans (((Below.refl _ _).alloc (Nat.le_refl _) _).trans (hb2.mono (by simp)) |>.mono (by have := HZ.out; omega))
  clear hb2
  go_wp2_with (go_at_call 9; refine (known_nest _).mono ?_; rintro e w' ⟨rfl, rfl⟩)
  go_ret
  exact ⟨rfl, HB2.out⟩
end Go.Proofs.Ytmkhneapkcfmgaa.K
