/-
  No cell of these rows narrows 'for every input' (looked for: loops, veiled, ifaces, maps, wideKeys, modest, calm, conditions, laid).
  DERIVED. THE GIVEN ROWS OF THIS SEAT. 4 by the template 'for every input the law returns true; each argument reads behind the call as it read before'; 0 by the template 'total and deterministic' (their statements: YtiijokopcgnokaaGreatTotals.lean).
  GIVEN WITH THE SEED: the statements are not yours to turn. If you find one false, say at which input.
  Laid BY PROGRAM, IN A SANDBOX (cutbox-rows.mjs): the forced cells as the released guide's own fill.sh prints them over the translation 0a1befa388b4cb84… (all of the seat's roots in one cut). By AI agents, Wed Nov 11 2026. No macro, syntax, notation, axiom, sorry.
-/
import Derived.Test.YtiijokopcgnokaaGreatChecked
import GoSem.Claim
import GoSem.ClaimJoined
import GoSem.ClaimMapViews
import Derived.JoinedTies
import Derived.KernelRfl
namespace Go.Proofs.YtiijokopcgnokaaGreat
/- THE CELL 'sum', in the pinned program and in every row, IS THE sha256 OF THE DUMP (.gsa) THAT YtiijokopcgnokaaGreatProg.lean LOADS. Nothing in Lean hashes anything: it is a label: what it is worth is what the hold of that sum in a sandbox is worth. -/
noncomputable def Tryz.pinned : Pinned := { name := "ytiijokopcgnokaagreat", sum := "0a1befa388b4cb84553ccda258e3b01f635e859b6cba55b28216bf12f2a2aecf", checked := Tryz.checked }
namespace Rows
def none {H : Type} : Left H := { results := [], args := [] }

/-- 'pantilelaw8.TreeApart': WHATEVER THE INPUT: true; the input reads as it did. -/
def treeApartSpec : ChangeSpec := { name := "treeApart", fn := fun _ => fun
  | [d1, d2] => { results := [.lit (.bool true)], args := [d1, d2] }
  | _ => none }
def treeApartRow : OpenClaim := { program := "ytiijokopcgnokaagreat", sum := "0a1befa388b4cb84553ccda258e3b01f635e859b6cba55b28216bf12f2a2aecf", func := "pantile/pantilelaw8.TreeApart", spec := "treeApart", inPlace := ["internal/bytealg.Compare", "slices.overlaps[pantile/api.Pair]", "slices.overlaps[int]"], unfollowed := true, recurses := true, apart := false }
def TreeApartSaid : Prop := treeApartRow.holds Tryz.pinned (OpenSpec.ofChange treeApartSpec)

/-- ITS FALSE NEIGHBOUR: 'it returns false'. Refute it at one input. -/
def treeApartWrong : ChangeSpec := { name := "treeApart", fn := fun _ => fun
  | [d1, d2] => { results := [.lit (.bool false)], args := [d1, d2] }
  | _ => none }
def TreeApartWrongFalsely : Prop := treeApartRow.holds Tryz.pinned (OpenSpec.ofChange treeApartWrong)

/-- 'pantilelaw8.TreeTwins': WHATEVER THE INPUT: true; the input reads as it did. -/
def treeTwinsSpec : ChangeSpec := { name := "treeTwins", fn := fun _ => fun
  | [d1, d2, d3] => { results := [.lit (.bool true)], args := [d1, d2, d3] }
  | _ => none }
def treeTwinsRow : OpenClaim := { program := "ytiijokopcgnokaagreat", sum := "0a1befa388b4cb84553ccda258e3b01f635e859b6cba55b28216bf12f2a2aecf", func := "pantile/pantilelaw8.TreeTwins", spec := "treeTwins", inPlace := ["internal/bytealg.Compare", "slices.overlaps[pantile/api.Pair]", "slices.overlaps[int]"], unfollowed := true, recurses := true, apart := false }
def TreeTwinsSaid : Prop := treeTwinsRow.holds Tryz.pinned (OpenSpec.ofChange treeTwinsSpec)

/-- ITS FALSE NEIGHBOUR: 'it returns false'. Refute it at one input. -/
def treeTwinsWrong : ChangeSpec := { name := "treeTwins", fn := fun _ => fun
  | [d1, d2, d3] => { results := [.lit (.bool false)], args := [d1, d2, d3] }
  | _ => none }
def TreeTwinsWrongFalsely : Prop := treeTwinsRow.holds Tryz.pinned (OpenSpec.ofChange treeTwinsWrong)

/-- 'pantilelaw8.TreeGrows': WHATEVER THE INPUT: true; the input reads as it did. -/
def treeGrowsSpec : ChangeSpec := { name := "treeGrows", fn := fun _ => fun
  | [d1, d2, d3, d4] => { results := [.lit (.bool true)], args := [d1, d2, d3, d4] }
  | _ => none }
def treeGrowsRow : OpenClaim := { program := "ytiijokopcgnokaagreat", sum := "0a1befa388b4cb84553ccda258e3b01f635e859b6cba55b28216bf12f2a2aecf", func := "pantile/pantilelaw8.TreeGrows", spec := "treeGrows", inPlace := ["internal/bytealg.Compare", "slices.overlaps[pantile/api.Pair]", "slices.overlaps[int]"], unfollowed := true, recurses := true, apart := false }
def TreeGrowsSaid : Prop := treeGrowsRow.holds Tryz.pinned (OpenSpec.ofChange treeGrowsSpec)

/-- ITS FALSE NEIGHBOUR: 'it returns false'. Refute it at one input. -/
def treeGrowsWrong : ChangeSpec := { name := "treeGrows", fn := fun _ => fun
  | [d1, d2, d3, d4] => { results := [.lit (.bool false)], args := [d1, d2, d3, d4] }
  | _ => none }
def TreeGrowsWrongFalsely : Prop := treeGrowsRow.holds Tryz.pinned (OpenSpec.ofChange treeGrowsWrong)

/-- 'pantilelaw8.TreePlays': WHATEVER THE INPUT: true; the input reads as it did. -/
def treePlaysSpec : ChangeSpec := { name := "treePlays", fn := fun _ => fun
  | [d] => { results := [.lit (.bool true)], args := [d] }
  | _ => none }
def treePlaysRow : OpenClaim := { program := "ytiijokopcgnokaagreat", sum := "0a1befa388b4cb84553ccda258e3b01f635e859b6cba55b28216bf12f2a2aecf", func := "pantile/pantilelaw8.TreePlays", spec := "treePlays", inPlace := ["internal/bytealg.Compare", "slices.overlaps[pantile/api.Pair]", "slices.overlaps[int]"], unfollowed := true, recurses := true, apart := false }
def TreePlaysSaid : Prop := treePlaysRow.holds Tryz.pinned (OpenSpec.ofChange treePlaysSpec)

/-- ITS FALSE NEIGHBOUR: 'it returns false'. Refute it at one input. -/
def treePlaysWrong : ChangeSpec := { name := "treePlays", fn := fun _ => fun
  | [d] => { results := [.lit (.bool false)], args := [d] }
  | _ => none }
def TreePlaysWrongFalsely : Prop := treePlaysRow.holds Tryz.pinned (OpenSpec.ofChange treePlaysWrong)

/- THE SECOND FORM. 'bulk': how many values and letters a reading holds, each counted each time it is reached (what is shared counts as often as it is met; a slice's spare places count too). A statement '..UptoSaid' is the law's where the arguments, and the package variables that the reading takes, are together of bulk at most 1048576: NARROWER than '..Said'. Prove '..Said' where nothing that the law and all that it calls make is longer than what came in: it says more and counts as full. Else prove '..UptoSaid'. A law counts once. -/
mutual
def uptoBulk {H : Type} : DataW H → Nat
  | .lit (.string bytes) => bytes.length + 1
  | .lit _ => 1
  | .nil => 1
  | .ptr d => uptoBulk d + 1
  | .slice elems spare => uptoBulkAll elems + uptoBulkAll spare + 1
  | .agg parts => uptoBulkAll parts + 1
  | .iface _ d => uptoBulk d + 1
  | .map entries => uptoBulkEntries entries + 1
  | .held _ => 1
def uptoBulkAll {H : Type} : List (DataW H) → Nat
  | [] => 0
  | d :: r => uptoBulk d + uptoBulkAll r
def uptoBulkEntries {H : Type} : List (Lit × DataW H) → Nat
  | [] => 0
  | x :: r => uptoBulkEntry x + uptoBulkEntries r
def uptoBulkEntry {H : Type} : Lit × DataW H → Nat
  | (.string bytes, d) => bytes.length + uptoBulk d + 1
  | (_, d) => uptoBulk d + 1
 end
def uptoSmall : (H : Type) → List (DataW H) → Bool := fun _ ds => decide (uptoBulkAll ds ≤ 1048576)
def OpenSpec.upto (s : _root_.Go.ChangeSpec) : _root_.Go.OpenSpec := { _root_.Go.OpenSpec.ofChange s with cond := some uptoSmall }

/-- 'pantilelaw8.TreeApart', WHERE WHAT IT READS IS OF BULK AT MOST 1048576: true; the input reads as it did. -/
def treeApartUptoRow : OpenClaim := { program := "ytiijokopcgnokaagreat", sum := "0a1befa388b4cb84553ccda258e3b01f635e859b6cba55b28216bf12f2a2aecf", func := "pantile/pantilelaw8.TreeApart", spec := "treeApart", inPlace := ["internal/bytealg.Compare", "slices.overlaps[pantile/api.Pair]", "slices.overlaps[int]"], unfollowed := true, recurses := true, apart := false, narrowed := true }
def TreeApartUptoSaid : Prop := treeApartUptoRow.holds Tryz.pinned (OpenSpec.upto treeApartSpec)

/-- 'pantilelaw8.TreeTwins', WHERE WHAT IT READS IS OF BULK AT MOST 1048576: true; the input reads as it did. -/
def treeTwinsUptoRow : OpenClaim := { program := "ytiijokopcgnokaagreat", sum := "0a1befa388b4cb84553ccda258e3b01f635e859b6cba55b28216bf12f2a2aecf", func := "pantile/pantilelaw8.TreeTwins", spec := "treeTwins", inPlace := ["internal/bytealg.Compare", "slices.overlaps[pantile/api.Pair]", "slices.overlaps[int]"], unfollowed := true, recurses := true, apart := false, narrowed := true }
def TreeTwinsUptoSaid : Prop := treeTwinsUptoRow.holds Tryz.pinned (OpenSpec.upto treeTwinsSpec)

/-- 'pantilelaw8.TreeGrows', WHERE WHAT IT READS IS OF BULK AT MOST 1048576: true; the input reads as it did. -/
def treeGrowsUptoRow : OpenClaim := { program := "ytiijokopcgnokaagreat", sum := "0a1befa388b4cb84553ccda258e3b01f635e859b6cba55b28216bf12f2a2aecf", func := "pantile/pantilelaw8.TreeGrows", spec := "treeGrows", inPlace := ["internal/bytealg.Compare", "slices.overlaps[pantile/api.Pair]", "slices.overlaps[int]"], unfollowed := true, recurses := true, apart := false, narrowed := true }
def TreeGrowsUptoSaid : Prop := treeGrowsUptoRow.holds Tryz.pinned (OpenSpec.upto treeGrowsSpec)

/-- 'pantilelaw8.TreePlays', WHERE WHAT IT READS IS OF BULK AT MOST 1048576: true; the input reads as it did. -/
def treePlaysUptoRow : OpenClaim := { program := "ytiijokopcgnokaagreat", sum := "0a1befa388b4cb84553ccda258e3b01f635e859b6cba55b28216bf12f2a2aecf", func := "pantile/pantilelaw8.TreePlays", spec := "treePlays", inPlace := ["internal/bytealg.Compare", "slices.overlaps[pantile/api.Pair]", "slices.overlaps[int]"], unfollowed := true, recurses := true, apart := false, narrowed := true }
def TreePlaysUptoSaid : Prop := treePlaysUptoRow.holds Tryz.pinned (OpenSpec.upto treePlaysSpec)

end Rows
end Go.Proofs.YtiijokopcgnokaaGreat
