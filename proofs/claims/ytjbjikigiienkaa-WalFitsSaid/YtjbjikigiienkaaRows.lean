/-
  No cell of these rows narrows 'for every input' (looked for: loops, veiled, ifaces, maps, wideKeys, modest, calm, conditions, laid).
  DERIVED. THE GIVEN ROWS OF THIS SEAT. 3 by the template 'for every input the law returns true; each argument reads behind the call as it read before'; 0 by the template 'total and deterministic' (their statements: YtjbjikigiienkaaTotals.lean).
  GIVEN WITH THE SEED: the statements are not yours to turn. If you find one false, say at which input.
  Laid BY PROGRAM, IN A SANDBOX (cutbox-rows.mjs): the forced cells as the released guide's own fill.sh prints them over the translation fb6937477af6280a… (all of the seat's roots in one cut). By AI agents, Wed Nov 11 2026. No macro, syntax, notation, axiom, sorry.
-/
import Derived.Test.YtjbjikigiienkaaChecked
import GoSem.Claim
import GoSem.ClaimJoined
import GoSem.ClaimMapViews
import Derived.JoinedTies
import Derived.KernelRfl
namespace Go.Proofs.Ytjbjikigiienkaa
/- THE CELL 'sum', in the pinned program and in every row, IS THE sha256 OF THE DUMP (.gsa) THAT YtjbjikigiienkaaProg.lean LOADS. Nothing in Lean hashes anything: it is a label: what it is worth is what the hold of that sum in a sandbox is worth. -/
noncomputable def Try.pinned : Pinned := { name := "ytjbjikigiienkaa", sum := "fb6937477af6280a06ce7b214bba8d121c8ab4b3393b52d32583e1f6b3a8b4a3", checked := Try.checked }
namespace Rows
def none {H : Type} : Left H := { results := [], args := [] }

/-- 'pantilelaw3.WalPlays': WHATEVER THE INPUT: true; the input reads as it did. -/
def walPlaysSpec : ChangeSpec := { name := "walPlays", fn := fun _ => fun
  | [d1, d2, d3] => { results := [.lit (.bool true)], args := [d1, d2, d3] }
  | _ => none }
def walPlaysRow : OpenClaim := { program := "ytjbjikigiienkaa", sum := "fb6937477af6280a06ce7b214bba8d121c8ab4b3393b52d32583e1f6b3a8b4a3", func := "pantile/pantilelaw3.WalPlays", spec := "walPlays", unfollowed := true, recurses := true, apart := false }
def WalPlaysSaid : Prop := walPlaysRow.holds Try.pinned (OpenSpec.ofChange walPlaysSpec)

/-- ITS FALSE NEIGHBOUR: 'it returns false'. Refute it at one input. -/
def walPlaysWrong : ChangeSpec := { name := "walPlays", fn := fun _ => fun
  | [d1, d2, d3] => { results := [.lit (.bool false)], args := [d1, d2, d3] }
  | _ => none }
def WalPlaysWrongFalsely : Prop := walPlaysRow.holds Try.pinned (OpenSpec.ofChange walPlaysWrong)

/-- 'pantilelaw3.WalFits': WHATEVER THE INPUT: true; the input reads as it did. -/
def walFitsSpec : ChangeSpec := { name := "walFits", fn := fun _ => fun
  | [d] => { results := [.lit (.bool true)], args := [d] }
  | _ => none }
def walFitsRow : OpenClaim := { program := "ytjbjikigiienkaa", sum := "fb6937477af6280a06ce7b214bba8d121c8ab4b3393b52d32583e1f6b3a8b4a3", func := "pantile/pantilelaw3.WalFits", spec := "walFits", unfollowed := true, recurses := true, apart := false }
def WalFitsSaid : Prop := walFitsRow.holds Try.pinned (OpenSpec.ofChange walFitsSpec)

/-- ITS FALSE NEIGHBOUR: 'it returns false'. Refute it at one input. -/
def walFitsWrong : ChangeSpec := { name := "walFits", fn := fun _ => fun
  | [d] => { results := [.lit (.bool false)], args := [d] }
  | _ => none }
def WalFitsWrongFalsely : Prop := walFitsRow.holds Try.pinned (OpenSpec.ofChange walFitsWrong)

/-- 'pantilelaw3.WalPlace': WHATEVER THE INPUT: true; the input reads as it did. -/
def walPlaceSpec : ChangeSpec := { name := "walPlace", fn := fun _ => fun
  | [d1, d2, d3] => { results := [.lit (.bool true)], args := [d1, d2, d3] }
  | _ => none }
def walPlaceRow : OpenClaim := { program := "ytjbjikigiienkaa", sum := "fb6937477af6280a06ce7b214bba8d121c8ab4b3393b52d32583e1f6b3a8b4a3", func := "pantile/pantilelaw3.WalPlace", spec := "walPlace", unfollowed := true, recurses := true, apart := false }
def WalPlaceSaid : Prop := walPlaceRow.holds Try.pinned (OpenSpec.ofChange walPlaceSpec)

/-- ITS FALSE NEIGHBOUR: 'it returns false'. Refute it at one input. -/
def walPlaceWrong : ChangeSpec := { name := "walPlace", fn := fun _ => fun
  | [d1, d2, d3] => { results := [.lit (.bool false)], args := [d1, d2, d3] }
  | _ => none }
def WalPlaceWrongFalsely : Prop := walPlaceRow.holds Try.pinned (OpenSpec.ofChange walPlaceWrong)

/- THE SECOND FORM. 'bulk': how many values and letters a reading holds, each counted each time it is reached (what is shared counts as often as it is met; a slice's spare places count too). A statement '..UptoSaid' is the law's where the arguments, and the package variables that the reading takes, are together of bulk at most 1048576: NARROWER than '..Said'. Prove '..Said' where nothing that the law and all that it calls make is longer than what came in: it says more and counts as full. Else prove '..UptoSaid'. A law counts once. -/
mutual
def uptoBulk {H : Type} : DataW H → Nat
  | .lit (.string bytes) => bytes.length + 1
  | .lit _ => 1
  | .nil => 1
  | .ptr d => uptoBulk d + 1
  | .slice elems spare => uptoBulkAll elems + uptoBulkAll spare + 1
  | .agg parts => uptoBulkAll parts + 1
  | .iface _ d => uptoBulk d + 1
  | .map entries => uptoBulkEntries entries + 1
  | .held _ => 1
def uptoBulkAll {H : Type} : List (DataW H) → Nat
  | [] => 0
  | d :: r => uptoBulk d + uptoBulkAll r
def uptoBulkEntries {H : Type} : List (Lit × DataW H) → Nat
  | [] => 0
  | x :: r => uptoBulkEntry x + uptoBulkEntries r
def uptoBulkEntry {H : Type} : Lit × DataW H → Nat
  | (.string bytes, d) => bytes.length + uptoBulk d + 1
  | (_, d) => uptoBulk d + 1
 end
def uptoSmall : (H : Type) → List (DataW H) → Bool := fun _ ds => decide (uptoBulkAll ds ≤ 1048576)
def OpenSpec.upto (s : _root_.Go.ChangeSpec) : _root_.Go.OpenSpec := { _root_.Go.OpenSpec.ofChange s with cond := some uptoSmall }

/-- 'pantilelaw3.WalPlays', WHERE WHAT IT READS IS OF BULK AT MOST 1048576: true; the input reads as it did. -/
def walPlaysUptoRow : OpenClaim := { program := "ytjbjikigiienkaa", sum := "fb6937477af6280a06ce7b214bba8d121c8ab4b3393b52d32583e1f6b3a8b4a3", func := "pantile/pantilelaw3.WalPlays", spec := "walPlays", unfollowed := true, recurses := true, apart := false, narrowed := true }
def WalPlaysUptoSaid : Prop := walPlaysUptoRow.holds Try.pinned (OpenSpec.upto walPlaysSpec)

/-- 'pantilelaw3.WalFits', WHERE WHAT IT READS IS OF BULK AT MOST 1048576: true; the input reads as it did. -/
def walFitsUptoRow : OpenClaim := { program := "ytjbjikigiienkaa", sum := "fb6937477af6280a06ce7b214bba8d121c8ab4b3393b52d32583e1f6b3a8b4a3", func := "pantile/pantilelaw3.WalFits", spec := "walFits", unfollowed := true, recurses := true, apart := false, narrowed := true }
def WalFitsUptoSaid : Prop := walFitsUptoRow.holds Try.pinned (OpenSpec.upto walFitsSpec)

/-- 'pantilelaw3.WalPlace', WHERE WHAT IT READS IS OF BULK AT MOST 1048576: true; the input reads as it did. -/
def walPlaceUptoRow : OpenClaim := { program := "ytjbjikigiienkaa", sum := "fb6937477af6280a06ce7b214bba8d121c8ab4b3393b52d32583e1f6b3a8b4a3", func := "pantile/pantilelaw3.WalPlace", spec := "walPlace", unfollowed := true, recurses := true, apart := false, narrowed := true }
def WalPlaceUptoSaid : Prop := walPlaceUptoRow.holds Try.pinned (OpenSpec.upto walPlaceSpec)

end Rows
end Go.Proofs.Ytjbjikigiienkaa
