import Derived.Test.YtiijokopcgnokaaGreatKHeap
import Derived.ProofKit
import Derived.OpenShut
import Derived.SizedLaws
/-
 Arguments opened: small ints, slices of bytes and of ints, as the walks ask them.
-/
set_option linter.unusedSimpArgs false
namespace Go.Proofs.YtiijokopcgnokaaGreat
open Go.ChangeShapes Go.WideShapes Go.RowKit
section
variable {H : Type} {enc : TypeId × Value → H} {P : Program} {w : World} {base : Nat} {spare : Nat → Bool} {held : Bool}
theorem i64_bounds {a : Int} (h : (Lit.int .i64 a).wf = true) : -9223372036854775808 ≤ a ∧ a ≤ 9223372036854775807 := by
 simpa [Lit.wf, IntKind.min, IntKind.max, IntKind.signed, IntKind.bits] using h
def BytesAt (w : World) (v : Value) (l : List UInt8) : Prop :=
 ∃ ao cap, v = .slice ao l.length cap ∧ (0 < l.length → ∃ b o, ao = some ⟨b, o, none⟩ ∧ ∀ j, j < l.length → w.cell? ⟨b, o + j, none⟩ = some (.int .u8 (l.getD j 0).toNat))
theorem addr_plain {a : Addr} {v : Value} (h : w.cell? a = some v) : a = ⟨a.block, a.off, none⟩ := by
 obtain ⟨b, o, s⟩ := a
 cases s with
 | none => rfl
 | some s => simp only [World.cell?, Option.isSome_some, if_true] at h; split at h <;> cases h
theorem add_plain (b o j : Nat) : (⟨b, o, none⟩ : Addr).add j = ⟨b, o + j, none⟩ := by unfold Addr.add; split <;> simp_all
theorem open_bytes {t e : TypeId} {r : Reach} {b0 : Nat} {v : Value} {d : DataW H} {ps : List MemPlace} (ht : P.underlying t = some (.slice e)) (he : P.underlying e = some (.int .u8)) (hc : P.cellsOf e = 1)
  (hv : Value.okWide P w r b0 t v) (h : DataW.Trod enc P w base (fun _ => true) held t v d ps) : ∃ l : List UInt8, BytesAt w v l := by
 obtain ⟨a0, len, cap, rfl⟩ := okWide_slice ht hv
 obtain ⟨fuel, hf⟩ := h
 rcases open_ints ht he hc hf with ⟨hcs, _⟩ | ⟨a, len', cap', zs, hcs, _, hl, hm, hz, _, hcell, hwz⟩
 ·simp only [Value.cells, List.cons.injEq, Value.slice.injEq, and_true] at hcs
  obtain ⟨rfl, rfl, rfl⟩ := hcs
  exact ⟨[], none, 0, rfl, fun h => by simp at h⟩
 ·simp only [Value.cells, List.cons.injEq, Value.slice.injEq, and_true] at hcs
  obtain ⟨rfl, rfl, rfl⟩ := hcs
  simp only [if_true] at hz
  refine ⟨(zs.take len).map (fun z => UInt8.ofNat z.toNat), some a, cap, by simp; omega, fun hp => ?_⟩
  have hp' : 0 < len := by simp at hp; omega
  have h0 := hcell 0 (by omega)
  rw [show a.add 0 = a from by simp [Addr.add]] at h0
  refine ⟨a.block, a.off, by rw [← addr_plain h0], fun j hj => ?_⟩
  have hj' : j < len := by simp at hj; omega
  have hcj := hcell j (by omega)
  rw [addr_plain h0, add_plain] at hcj
  rw [hcj]
  have hzj : j < zs.length := by omega
  have hw := hwz zs[j] (Yu hzj)
  have hx : 0 ≤ zs[j] ∧ zs[j] ≤ 255 := by simpa [Lit.wf, IntKind.min, IntKind.max, IntKind.signed, IntKind.bits] using hw
  congr 2
  rw [Ze, Ze, Zc hzj, Zu, Yr, if_pos hj', Zc hzj]
  simp only [Yx, Option.getD_some, UInt8.toNat_ofNat']
  omega
end
end Go.Proofs.YtiijokopcgnokaaGreat
