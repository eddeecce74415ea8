/-
  No cell of these rows narrows 'for every input' (looked for: loops, veiled, ifaces, maps, wideKeys, modest, calm, conditions, laid).
  DERIVED. THE GIVEN ROWS OF THIS SEAT. 5 by the template 'for every input the law returns true; each argument reads behind the call as it read before'; 0 by the template 'total and deterministic' (their statements: YtilkbcoofbkemaaTotals.lean).
  GIVEN WITH THE SEED: the statements are not yours to turn. If you find one false, say at which input.
  Laid BY PROGRAM, IN A SANDBOX (cutbox-rows.mjs): the forced cells as the released guide's own fill.sh prints them over the translation 1d0e2afd0ff9abe3… (all of the seat's roots in one cut). By AI agents, Wed Nov 11 2026. No macro, syntax, notation, axiom, sorry.
-/
import Derived.Test.YtilkbcoofbkemaaChecked
import GoSem.Claim
import GoSem.ClaimJoined
import GoSem.ClaimMapViews
import Derived.JoinedTies
import Derived.KernelRfl
namespace Go.Proofs.Ytilkbcoofbkemaa
/- THE CELL 'sum', in the pinned program and in every row, IS THE sha256 OF THE DUMP (.gsa) THAT YtilkbcoofbkemaaProg.lean LOADS. Nothing in Lean hashes anything: it is a label: what it is worth is what the hold of that sum in a sandbox is worth. -/
noncomputable def Try.pinned : Pinned := { name := "ytilkbcoofbkemaa", sum := "1d0e2afd0ff9abe30a2f3c5bfaf9ad318d4e1ca45315f07d07715b4564ff21b1", checked := Try.checked }
namespace Rows
def none {H : Type} : Left H := { results := [], args := [] }

/-- 'pantilelaw10.TxnRow': WHATEVER THE INPUT: true; the input reads as it did. -/
def txnRowSpec : ChangeSpec := { name := "txnRow", fn := fun _ => fun
  | [d] => { results := [.lit (.bool true)], args := [d] }
  | _ => none }
def txnRowRow : OpenClaim := { program := "ytilkbcoofbkemaa", sum := "1d0e2afd0ff9abe30a2f3c5bfaf9ad318d4e1ca45315f07d07715b4564ff21b1", func := "pantile/pantilelaw10.TxnRow", spec := "txnRow", unfollowed := true, recurses := true, apart := false }
def TxnRowSaid : Prop := txnRowRow.holds Try.pinned (OpenSpec.ofChange txnRowSpec)

/-- ITS FALSE NEIGHBOUR: 'it returns false'. Refute it at one input. -/
def txnRowWrong : ChangeSpec := { name := "txnRow", fn := fun _ => fun
  | [d] => { results := [.lit (.bool false)], args := [d] }
  | _ => none }
def TxnRowWrongFalsely : Prop := txnRowRow.holds Try.pinned (OpenSpec.ofChange txnRowWrong)

/-- 'pantilelaw10.TxnOpen': WHATEVER THE INPUT: true; the input reads as it did. -/
def txnOpenSpec : ChangeSpec := { name := "txnOpen", fn := fun _ => fun
  | [d1, d2] => { results := [.lit (.bool true)], args := [d1, d2] }
  | _ => none }
def txnOpenRow : OpenClaim := { program := "ytilkbcoofbkemaa", sum := "1d0e2afd0ff9abe30a2f3c5bfaf9ad318d4e1ca45315f07d07715b4564ff21b1", func := "pantile/pantilelaw10.TxnOpen", spec := "txnOpen", unfollowed := true, recurses := true, apart := false }
def TxnOpenSaid : Prop := txnOpenRow.holds Try.pinned (OpenSpec.ofChange txnOpenSpec)

/-- ITS FALSE NEIGHBOUR: 'it returns false'. Refute it at one input. -/
def txnOpenWrong : ChangeSpec := { name := "txnOpen", fn := fun _ => fun
  | [d1, d2] => { results := [.lit (.bool false)], args := [d1, d2] }
  | _ => none }
def TxnOpenWrongFalsely : Prop := txnOpenRow.holds Try.pinned (OpenSpec.ofChange txnOpenWrong)

/-- 'pantilelaw10.TxnStays': WHATEVER THE INPUT: true; the input reads as it did. -/
def txnStaysSpec : ChangeSpec := { name := "txnStays", fn := fun _ => fun
  | [d1, d2, d3] => { results := [.lit (.bool true)], args := [d1, d2, d3] }
  | _ => none }
def txnStaysRow : OpenClaim := { program := "ytilkbcoofbkemaa", sum := "1d0e2afd0ff9abe30a2f3c5bfaf9ad318d4e1ca45315f07d07715b4564ff21b1", func := "pantile/pantilelaw10.TxnStays", spec := "txnStays", unfollowed := true, recurses := true, apart := false }
def TxnStaysSaid : Prop := txnStaysRow.holds Try.pinned (OpenSpec.ofChange txnStaysSpec)

/-- ITS FALSE NEIGHBOUR: 'it returns false'. Refute it at one input. -/
def txnStaysWrong : ChangeSpec := { name := "txnStays", fn := fun _ => fun
  | [d1, d2, d3] => { results := [.lit (.bool false)], args := [d1, d2, d3] }
  | _ => none }
def TxnStaysWrongFalsely : Prop := txnStaysRow.holds Try.pinned (OpenSpec.ofChange txnStaysWrong)

/-- 'pantilelaw10.TxnFirst': WHATEVER THE INPUT: true; the input reads as it did. -/
def txnFirstSpec : ChangeSpec := { name := "txnFirst", fn := fun _ => fun
  | [d1, d2] => { results := [.lit (.bool true)], args := [d1, d2] }
  | _ => none }
def txnFirstRow : OpenClaim := { program := "ytilkbcoofbkemaa", sum := "1d0e2afd0ff9abe30a2f3c5bfaf9ad318d4e1ca45315f07d07715b4564ff21b1", func := "pantile/pantilelaw10.TxnFirst", spec := "txnFirst", unfollowed := true, recurses := true, apart := false }
def TxnFirstSaid : Prop := txnFirstRow.holds Try.pinned (OpenSpec.ofChange txnFirstSpec)

/-- ITS FALSE NEIGHBOUR: 'it returns false'. Refute it at one input. -/
def txnFirstWrong : ChangeSpec := { name := "txnFirst", fn := fun _ => fun
  | [d1, d2] => { results := [.lit (.bool false)], args := [d1, d2] }
  | _ => none }
def TxnFirstWrongFalsely : Prop := txnFirstRow.holds Try.pinned (OpenSpec.ofChange txnFirstWrong)

/-- 'pantilelaw10.TxnPlays': WHATEVER THE INPUT: true; the input reads as it did. -/
def txnPlaysSpec : ChangeSpec := { name := "txnPlays", fn := fun _ => fun
  | [d1, d2] => { results := [.lit (.bool true)], args := [d1, d2] }
  | _ => none }
def txnPlaysRow : OpenClaim := { program := "ytilkbcoofbkemaa", sum := "1d0e2afd0ff9abe30a2f3c5bfaf9ad318d4e1ca45315f07d07715b4564ff21b1", func := "pantile/pantilelaw10.TxnPlays", spec := "txnPlays", unfollowed := true, recurses := true, apart := false }
def TxnPlaysSaid : Prop := txnPlaysRow.holds Try.pinned (OpenSpec.ofChange txnPlaysSpec)

/-- ITS FALSE NEIGHBOUR: 'it returns false'. Refute it at one input. -/
def txnPlaysWrong : ChangeSpec := { name := "txnPlays", fn := fun _ => fun
  | [d1, d2] => { results := [.lit (.bool false)], args := [d1, d2] }
  | _ => none }
def TxnPlaysWrongFalsely : Prop := txnPlaysRow.holds Try.pinned (OpenSpec.ofChange txnPlaysWrong)

/- THE SECOND FORM. 'bulk': how many values and letters a reading holds, each counted each time it is reached (what is shared counts as often as it is met; a slice's spare places count too). A statement '..UptoSaid' is the law's where the arguments, and the package variables that the reading takes, are together of bulk at most 1048576: NARROWER than '..Said'. Prove '..Said' where nothing that the law and all that it calls make is longer than what came in: it says more and counts as full. Else prove '..UptoSaid'. A law counts once. -/
mutual
def uptoBulk {H : Type} : DataW H → Nat
  | .lit (.string bytes) => bytes.length + 1
  | .lit _ => 1
  | .nil => 1
  | .ptr d => uptoBulk d + 1
  | .slice elems spare => uptoBulkAll elems + uptoBulkAll spare + 1
  | .agg parts => uptoBulkAll parts + 1
  | .iface _ d => uptoBulk d + 1
  | .map entries => uptoBulkEntries entries + 1
  | .held _ => 1
def uptoBulkAll {H : Type} : List (DataW H) → Nat
  | [] => 0
  | d :: r => uptoBulk d + uptoBulkAll r
def uptoBulkEntries {H : Type} : List (Lit × DataW H) → Nat
  | [] => 0
  | x :: r => uptoBulkEntry x + uptoBulkEntries r
def uptoBulkEntry {H : Type} : Lit × DataW H → Nat
  | (.string bytes, d) => bytes.length + uptoBulk d + 1
  | (_, d) => uptoBulk d + 1
 end
def uptoSmall : (H : Type) → List (DataW H) → Bool := fun _ ds => decide (uptoBulkAll ds ≤ 1048576)
def OpenSpec.upto (s : _root_.Go.ChangeSpec) : _root_.Go.OpenSpec := { _root_.Go.OpenSpec.ofChange s with cond := some uptoSmall }

/-- 'pantilelaw10.TxnRow', WHERE WHAT IT READS IS OF BULK AT MOST 1048576: true; the input reads as it did. -/
def txnRowUptoRow : OpenClaim := { program := "ytilkbcoofbkemaa", sum := "1d0e2afd0ff9abe30a2f3c5bfaf9ad318d4e1ca45315f07d07715b4564ff21b1", func := "pantile/pantilelaw10.TxnRow", spec := "txnRow", unfollowed := true, recurses := true, apart := false, narrowed := true }
def TxnRowUptoSaid : Prop := txnRowUptoRow.holds Try.pinned (OpenSpec.upto txnRowSpec)

/-- 'pantilelaw10.TxnOpen', WHERE WHAT IT READS IS OF BULK AT MOST 1048576: true; the input reads as it did. -/
def txnOpenUptoRow : OpenClaim := { program := "ytilkbcoofbkemaa", sum := "1d0e2afd0ff9abe30a2f3c5bfaf9ad318d4e1ca45315f07d07715b4564ff21b1", func := "pantile/pantilelaw10.TxnOpen", spec := "txnOpen", unfollowed := true, recurses := true, apart := false, narrowed := true }
def TxnOpenUptoSaid : Prop := txnOpenUptoRow.holds Try.pinned (OpenSpec.upto txnOpenSpec)

/-- 'pantilelaw10.TxnStays', WHERE WHAT IT READS IS OF BULK AT MOST 1048576: true; the input reads as it did. -/
def txnStaysUptoRow : OpenClaim := { program := "ytilkbcoofbkemaa", sum := "1d0e2afd0ff9abe30a2f3c5bfaf9ad318d4e1ca45315f07d07715b4564ff21b1", func := "pantile/pantilelaw10.TxnStays", spec := "txnStays", unfollowed := true, recurses := true, apart := false, narrowed := true }
def TxnStaysUptoSaid : Prop := txnStaysUptoRow.holds Try.pinned (OpenSpec.upto txnStaysSpec)

/-- 'pantilelaw10.TxnFirst', WHERE WHAT IT READS IS OF BULK AT MOST 1048576: true; the input reads as it did. -/
def txnFirstUptoRow : OpenClaim := { program := "ytilkbcoofbkemaa", sum := "1d0e2afd0ff9abe30a2f3c5bfaf9ad318d4e1ca45315f07d07715b4564ff21b1", func := "pantile/pantilelaw10.TxnFirst", spec := "txnFirst", unfollowed := true, recurses := true, apart := false, narrowed := true }
def TxnFirstUptoSaid : Prop := txnFirstUptoRow.holds Try.pinned (OpenSpec.upto txnFirstSpec)

/-- 'pantilelaw10.TxnPlays', WHERE WHAT IT READS IS OF BULK AT MOST 1048576: true; the input reads as it did. -/
def txnPlaysUptoRow : OpenClaim := { program := "ytilkbcoofbkemaa", sum := "1d0e2afd0ff9abe30a2f3c5bfaf9ad318d4e1ca45315f07d07715b4564ff21b1", func := "pantile/pantilelaw10.TxnPlays", spec := "txnPlays", unfollowed := true, recurses := true, apart := false, narrowed := true }
def TxnPlaysUptoSaid : Prop := txnPlaysUptoRow.holds Try.pinned (OpenSpec.upto txnPlaysSpec)

end Rows
end Go.Proofs.Ytilkbcoofbkemaa
