/-
  No cell of these rows narrows 'for every input' (looked for: loops, veiled, ifaces, maps, wideKeys, modest, calm, conditions, laid).
  DERIVED. THE GIVEN ROWS OF THIS SEAT. 3 by the template 'for every input the law returns true; each argument reads behind the call as it read before'; 0 by the template 'total and deterministic' (their statements: YtmgifohjoakdjaaTotals.lean).
  GIVEN WITH THE SEED: the statements are not yours to turn. If you find one false, say at which input.
  Laid BY PROGRAM, IN A SANDBOX (cutbox-rows.mjs): the forced cells as the released guide's own fill.sh prints them over the translation 3dc0435fb7294395… (all of the seat's roots in one cut). By AI agents, Wed Nov 11 2026. No macro, syntax, notation, axiom, sorry.
-/
import Derived.Test.YtmgifohjoakdjaaChecked
import GoSem.Claim
import GoSem.ClaimJoined
import GoSem.ClaimMapViews
import Derived.JoinedTies
import Derived.KernelRfl
namespace Go.Proofs.Ytmgifohjoakdjaa
/- THE CELL 'sum', in the pinned program and in every row, IS THE sha256 OF THE DUMP (.gsa) THAT YtmgifohjoakdjaaProg.lean LOADS. Nothing in Lean hashes anything: it is a label: what it is worth is what the hold of that sum in a sandbox is worth. -/
noncomputable def Try.pinned : Pinned := { name := "ytmgifohjoakdjaa", sum := "3dc0435fb729439531da148ef5a0dc118df0567979d4f7af16897a7b810a507d", checked := Try.checked }
namespace Rows
def none {H : Type} : Left H := { results := [], args := [] }

/-- 'pantilelaw5.PoolNumbers': WHATEVER THE INPUT: true; the input reads as it did. -/
def poolNumbersSpec : ChangeSpec := { name := "poolNumbers", fn := fun _ => fun
  | [d1, d2] => { results := [.lit (.bool true)], args := [d1, d2] }
  | _ => none }
def poolNumbersRow : OpenClaim := { program := "ytmgifohjoakdjaa", sum := "3dc0435fb729439531da148ef5a0dc118df0567979d4f7af16897a7b810a507d", func := "pantile/pantilelaw5.PoolNumbers", spec := "poolNumbers", apart := false }
def PoolNumbersSaid : Prop := poolNumbersRow.holds Try.pinned (OpenSpec.ofChange poolNumbersSpec)

/-- ITS FALSE NEIGHBOUR: 'it returns false'. Refute it at one input. -/
def poolNumbersWrong : ChangeSpec := { name := "poolNumbers", fn := fun _ => fun
  | [d1, d2] => { results := [.lit (.bool false)], args := [d1, d2] }
  | _ => none }
def PoolNumbersWrongFalsely : Prop := poolNumbersRow.holds Try.pinned (OpenSpec.ofChange poolNumbersWrong)

/-- 'pantilelaw5.PoolMakes': WHATEVER THE INPUT: true; the input reads as it did. -/
def poolMakesSpec : ChangeSpec := { name := "poolMakes", fn := fun _ => fun
  | [d1, d2, d3, d4, d5] => { results := [.lit (.bool true)], args := [d1, d2, d3, d4, d5] }
  | _ => none }
def poolMakesRow : OpenClaim := { program := "ytmgifohjoakdjaa", sum := "3dc0435fb729439531da148ef5a0dc118df0567979d4f7af16897a7b810a507d", func := "pantile/pantilelaw5.PoolMakes", spec := "poolMakes", unfollowed := true, recurses := true, apart := false }
def PoolMakesSaid : Prop := poolMakesRow.holds Try.pinned (OpenSpec.ofChange poolMakesSpec)

/-- ITS FALSE NEIGHBOUR: 'it returns false'. Refute it at one input. -/
def poolMakesWrong : ChangeSpec := { name := "poolMakes", fn := fun _ => fun
  | [d1, d2, d3, d4, d5] => { results := [.lit (.bool false)], args := [d1, d2, d3, d4, d5] }
  | _ => none }
def PoolMakesWrongFalsely : Prop := poolMakesRow.holds Try.pinned (OpenSpec.ofChange poolMakesWrong)

/-- 'pantilelaw5.PoolLasts': WHATEVER THE INPUT: true; the input reads as it did. -/
def poolLastsSpec : ChangeSpec := { name := "poolLasts", fn := fun _ => fun
  | [d1, d2, d3, d4] => { results := [.lit (.bool true)], args := [d1, d2, d3, d4] }
  | _ => none }
def poolLastsRow : OpenClaim := { program := "ytmgifohjoakdjaa", sum := "3dc0435fb729439531da148ef5a0dc118df0567979d4f7af16897a7b810a507d", func := "pantile/pantilelaw5.PoolLasts", spec := "poolLasts", unfollowed := true, recurses := true, apart := false }
def PoolLastsSaid : Prop := poolLastsRow.holds Try.pinned (OpenSpec.ofChange poolLastsSpec)

/-- ITS FALSE NEIGHBOUR: 'it returns false'. Refute it at one input. -/
def poolLastsWrong : ChangeSpec := { name := "poolLasts", fn := fun _ => fun
  | [d1, d2, d3, d4] => { results := [.lit (.bool false)], args := [d1, d2, d3, d4] }
  | _ => none }
def PoolLastsWrongFalsely : Prop := poolLastsRow.holds Try.pinned (OpenSpec.ofChange poolLastsWrong)

/- THE SECOND FORM. 'bulk': how many values and letters a reading holds, each counted each time it is reached (what is shared counts as often as it is met; a slice's spare places count too). A statement '..UptoSaid' is the law's where the arguments, and the package variables that the reading takes, are together of bulk at most 1048576: NARROWER than '..Said'. Prove '..Said' where nothing that the law and all that it calls make is longer than what came in: it says more and counts as full. Else prove '..UptoSaid'. A law counts once. -/
mutual
def uptoBulk {H : Type} : DataW H → Nat
  | .lit (.string bytes) => bytes.length + 1
  | .lit _ => 1
  | .nil => 1
  | .ptr d => uptoBulk d + 1
  | .slice elems spare => uptoBulkAll elems + uptoBulkAll spare + 1
  | .agg parts => uptoBulkAll parts + 1
  | .iface _ d => uptoBulk d + 1
  | .map entries => uptoBulkEntries entries + 1
  | .held _ => 1
def uptoBulkAll {H : Type} : List (DataW H) → Nat
  | [] => 0
  | d :: r => uptoBulk d + uptoBulkAll r
def uptoBulkEntries {H : Type} : List (Lit × DataW H) → Nat
  | [] => 0
  | x :: r => uptoBulkEntry x + uptoBulkEntries r
def uptoBulkEntry {H : Type} : Lit × DataW H → Nat
  | (.string bytes, d) => bytes.length + uptoBulk d + 1
  | (_, d) => uptoBulk d + 1
 end
def uptoSmall : (H : Type) → List (DataW H) → Bool := fun _ ds => decide (uptoBulkAll ds ≤ 1048576)
def OpenSpec.upto (s : _root_.Go.ChangeSpec) : _root_.Go.OpenSpec := { _root_.Go.OpenSpec.ofChange s with cond := some uptoSmall }

/-- 'pantilelaw5.PoolNumbers', WHERE WHAT IT READS IS OF BULK AT MOST 1048576: true; the input reads as it did. -/
def poolNumbersUptoRow : OpenClaim := { program := "ytmgifohjoakdjaa", sum := "3dc0435fb729439531da148ef5a0dc118df0567979d4f7af16897a7b810a507d", func := "pantile/pantilelaw5.PoolNumbers", spec := "poolNumbers", apart := false, narrowed := true }
def PoolNumbersUptoSaid : Prop := poolNumbersUptoRow.holds Try.pinned (OpenSpec.upto poolNumbersSpec)

/-- 'pantilelaw5.PoolMakes', WHERE WHAT IT READS IS OF BULK AT MOST 1048576: true; the input reads as it did. -/
def poolMakesUptoRow : OpenClaim := { program := "ytmgifohjoakdjaa", sum := "3dc0435fb729439531da148ef5a0dc118df0567979d4f7af16897a7b810a507d", func := "pantile/pantilelaw5.PoolMakes", spec := "poolMakes", unfollowed := true, recurses := true, apart := false, narrowed := true }
def PoolMakesUptoSaid : Prop := poolMakesUptoRow.holds Try.pinned (OpenSpec.upto poolMakesSpec)

/-- 'pantilelaw5.PoolLasts', WHERE WHAT IT READS IS OF BULK AT MOST 1048576: true; the input reads as it did. -/
def poolLastsUptoRow : OpenClaim := { program := "ytmgifohjoakdjaa", sum := "3dc0435fb729439531da148ef5a0dc118df0567979d4f7af16897a7b810a507d", func := "pantile/pantilelaw5.PoolLasts", spec := "poolLasts", unfollowed := true, recurses := true, apart := false, narrowed := true }
def PoolLastsUptoSaid : Prop := poolLastsUptoRow.holds Try.pinned (OpenSpec.upto poolLastsSpec)

end Rows
end Go.Proofs.Ytmgifohjoakdjaa
