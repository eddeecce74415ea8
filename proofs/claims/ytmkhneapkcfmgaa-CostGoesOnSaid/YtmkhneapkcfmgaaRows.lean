/-
  No cell of these rows narrows 'for every input' (looked for: loops, veiled, ifaces, maps, wideKeys, modest, calm, conditions, laid).
  DERIVED. THE GIVEN ROWS OF THIS SEAT. 2 by the template 'for every input the law returns true; each argument reads behind the call as it read before'; 0 by the template 'total and deterministic' (their statements: YtmkhneapkcfmgaaTotals.lean).
  GIVEN WITH THE SEED: the statements are not yours to turn. If you find one false, say at which input.
  Laid BY PROGRAM, IN A SANDBOX (cutbox-rows.mjs): the forced cells as the released guide's own fill.sh prints them over the translation fb3da34b1ee8c463… (all of the seat's roots in one cut). By AI agents, Wed Nov 11 2026. No macro, syntax, notation, axiom, sorry.
-/
import Derived.Test.YtmkhneapkcfmgaaChecked
import GoSem.Claim
import GoSem.ClaimJoined
import GoSem.ClaimMapViews
import Derived.JoinedTies
import Derived.KernelRfl
namespace Go.Proofs.Ytmkhneapkcfmgaa
/- THE CELL 'sum', in the pinned program and in every row, IS THE sha256 OF THE DUMP (.gsa) THAT YtmkhneapkcfmgaaProg.lean LOADS. Nothing in Lean hashes anything: it is a label: what it is worth is what the hold of that sum in a sandbox is worth. -/
noncomputable def Try.pinned : Pinned := { name := "ytmkhneapkcfmgaa", sum := "fb3da34b1ee8c463bc8ae80f1dbfdcd021f4131a15987a8ef77e2de481af1f1b", checked := Try.checked }
namespace Rows
def none {H : Type} : Left H := { results := [], args := [] }

/-- 'pantilelaw17.CostPlain': WHATEVER THE INPUT: true; the input reads as it did. -/
def costPlainSpec : ChangeSpec := { name := "costPlain", fn := fun _ => fun
  | [d1, d2] => { results := [.lit (.bool true)], args := [d1, d2] }
  | _ => none }
def costPlainRow : OpenClaim := { program := "ytmkhneapkcfmgaa", sum := "fb3da34b1ee8c463bc8ae80f1dbfdcd021f4131a15987a8ef77e2de481af1f1b", func := "pantile/pantilelaw17.CostPlain", spec := "costPlain", inPlace := ["math.archTrunc", "math.Float64bits", "math.Float64frombits"], unfollowed := true, recurses := true, apart := false }
def CostPlainSaid : Prop := costPlainRow.holds Try.pinned (OpenSpec.ofChange costPlainSpec)

/-- ITS FALSE NEIGHBOUR: 'it returns false'. Refute it at one input. -/
def costPlainWrong : ChangeSpec := { name := "costPlain", fn := fun _ => fun
  | [d1, d2] => { results := [.lit (.bool false)], args := [d1, d2] }
  | _ => none }
def CostPlainWrongFalsely : Prop := costPlainRow.holds Try.pinned (OpenSpec.ofChange costPlainWrong)

/-- 'pantilelaw17.CostGoesOn': WHATEVER THE INPUT: true; the input reads as it did. -/
def costGoesOnSpec : ChangeSpec := { name := "costGoesOn", fn := fun _ => fun
  | [d1, d2, d3, d4, d5, d6, d7] => { results := [.lit (.bool true)], args := [d1, d2, d3, d4, d5, d6, d7] }
  | _ => none }
def costGoesOnRow : OpenClaim := { program := "ytmkhneapkcfmgaa", sum := "fb3da34b1ee8c463bc8ae80f1dbfdcd021f4131a15987a8ef77e2de481af1f1b", func := "pantile/pantilelaw17.CostGoesOn", spec := "costGoesOn", inPlace := ["math.archTrunc", "math.Float64bits", "math.Float64frombits"], unfollowed := true, recurses := true, apart := false }
def CostGoesOnSaid : Prop := costGoesOnRow.holds Try.pinned (OpenSpec.ofChange costGoesOnSpec)

/-- ITS FALSE NEIGHBOUR: 'it returns false'. Refute it at one input. -/
def costGoesOnWrong : ChangeSpec := { name := "costGoesOn", fn := fun _ => fun
  | [d1, d2, d3, d4, d5, d6, d7] => { results := [.lit (.bool false)], args := [d1, d2, d3, d4, d5, d6, d7] }
  | _ => none }
def CostGoesOnWrongFalsely : Prop := costGoesOnRow.holds Try.pinned (OpenSpec.ofChange costGoesOnWrong)

/- THE SECOND FORM. 'bulk': how many values and letters a reading holds, each counted each time it is reached (what is shared counts as often as it is met; a slice's spare places count too). A statement '..UptoSaid' is the law's where the arguments, and the package variables that the reading takes, are together of bulk at most 1048576: NARROWER than '..Said'. Prove '..Said' where nothing that the law and all that it calls make is longer than what came in: it says more and counts as full. Else prove '..UptoSaid'. A law counts once. -/
mutual
def uptoBulk {H : Type} : DataW H → Nat
  | .lit (.string bytes) => bytes.length + 1
  | .lit _ => 1
  | .nil => 1
  | .ptr d => uptoBulk d + 1
  | .slice elems spare => uptoBulkAll elems + uptoBulkAll spare + 1
  | .agg parts => uptoBulkAll parts + 1
  | .iface _ d => uptoBulk d + 1
  | .map entries => uptoBulkEntries entries + 1
  | .held _ => 1
def uptoBulkAll {H : Type} : List (DataW H) → Nat
  | [] => 0
  | d :: r => uptoBulk d + uptoBulkAll r
def uptoBulkEntries {H : Type} : List (Lit × DataW H) → Nat
  | [] => 0
  | x :: r => uptoBulkEntry x + uptoBulkEntries r
def uptoBulkEntry {H : Type} : Lit × DataW H → Nat
  | (.string bytes, d) => bytes.length + uptoBulk d + 1
  | (_, d) => uptoBulk d + 1
 end
def uptoSmall : (H : Type) → List (DataW H) → Bool := fun _ ds => decide (uptoBulkAll ds ≤ 1048576)
def OpenSpec.upto (s : _root_.Go.ChangeSpec) : _root_.Go.OpenSpec := { _root_.Go.OpenSpec.ofChange s with cond := some uptoSmall }

/-- 'pantilelaw17.CostPlain', WHERE WHAT IT READS IS OF BULK AT MOST 1048576: true; the input reads as it did. -/
def costPlainUptoRow : OpenClaim := { program := "ytmkhneapkcfmgaa", sum := "fb3da34b1ee8c463bc8ae80f1dbfdcd021f4131a15987a8ef77e2de481af1f1b", func := "pantile/pantilelaw17.CostPlain", spec := "costPlain", inPlace := ["math.archTrunc", "math.Float64bits", "math.Float64frombits"], unfollowed := true, recurses := true, apart := false, narrowed := true }
def CostPlainUptoSaid : Prop := costPlainUptoRow.holds Try.pinned (OpenSpec.upto costPlainSpec)

/-- 'pantilelaw17.CostGoesOn', WHERE WHAT IT READS IS OF BULK AT MOST 1048576: true; the input reads as it did. -/
def costGoesOnUptoRow : OpenClaim := { program := "ytmkhneapkcfmgaa", sum := "fb3da34b1ee8c463bc8ae80f1dbfdcd021f4131a15987a8ef77e2de481af1f1b", func := "pantile/pantilelaw17.CostGoesOn", spec := "costGoesOn", inPlace := ["math.archTrunc", "math.Float64bits", "math.Float64frombits"], unfollowed := true, recurses := true, apart := false, narrowed := true }
def CostGoesOnUptoSaid : Prop := costGoesOnUptoRow.holds Try.pinned (OpenSpec.upto costGoesOnSpec)

end Rows
end Go.Proofs.Ytmkhneapkcfmgaa
