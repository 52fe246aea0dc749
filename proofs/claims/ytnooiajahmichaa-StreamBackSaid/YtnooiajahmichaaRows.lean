/-
  No cell of these rows narrows 'for every input' (looked for: loops, veiled, ifaces, maps, wideKeys, modest, calm, conditions, laid).
  DERIVED. THE GIVEN ROWS OF THIS SEAT. 11 by the template 'for every input the law returns true; each argument reads behind the call as it read before'; 0 by the template 'total and deterministic' (their statements: YtnooiajahmichaaTotals.lean).
  GIVEN WITH THE SEED: the statements are not yours to turn. If you find one false, say at which input.
  Laid BY PROGRAM, IN A SANDBOX (cutbox-rows.mjs): the forced cells as the released guide's own fill.sh prints them over the translation ec7866f2f617ca86… (all of the seat's roots in one cut). By AI agents, Wed Nov 11 2026. No macro, syntax, notation, axiom, sorry.
-/
import Derived.Test.YtnooiajahmichaaChecked
import GoSem.Claim
import GoSem.ClaimJoined
import GoSem.ClaimMapViews
import Derived.JoinedTies
import Derived.KernelRfl
namespace Go.Proofs.Ytnooiajahmichaa
/- THE CELL 'sum', in the pinned program and in every row, IS THE sha256 OF THE DUMP (.gsa) THAT YtnooiajahmichaaProg.lean LOADS. Nothing in Lean hashes anything: it is a label: what it is worth is what the hold of that sum in a sandbox is worth. -/
noncomputable def Try.pinned : Pinned := { name := "ytnooiajahmichaa", sum := "ec7866f2f617ca861f4ce950bd50401e2301139f4a7df11107fd0497446e45b8", checked := Try.checked }
namespace Rows
def none {H : Type} : Left H := { results := [], args := [] }

/-- 'maskkeep4.LegalOrder': WHATEVER THE INPUT: true; the input reads as it did. -/
def legalOrderSpec : ChangeSpec := { name := "legalOrder", fn := fun _ => fun
  | [d] => { results := [.lit (.bool true)], args := [d] }
  | _ => none }
def legalOrderRow : OpenClaim := { program := "ytnooiajahmichaa", sum := "ec7866f2f617ca861f4ce950bd50401e2301139f4a7df11107fd0497446e45b8", func := "maskwright/maskkeep4.LegalOrder", spec := "legalOrder", plainKeys := false, apart := false }
def LegalOrderSaid : Prop := legalOrderRow.holds Try.pinned (OpenSpec.ofChange legalOrderSpec)

/-- ITS FALSE NEIGHBOUR: 'it returns false'. Refute it at one input. -/
def legalOrderWrong : ChangeSpec := { name := "legalOrder", fn := fun _ => fun
  | [d] => { results := [.lit (.bool false)], args := [d] }
  | _ => none }
def LegalOrderWrongFalsely : Prop := legalOrderRow.holds Try.pinned (OpenSpec.ofChange legalOrderWrong)

/-- 'maskkeep4.TreeWithin': WHATEVER THE INPUT: true; the input reads as it did. -/
def treeWithinSpec : ChangeSpec := { name := "treeWithin", fn := fun _ => fun
  | [d] => { results := [.lit (.bool true)], args := [d] }
  | _ => none }
def treeWithinRow : OpenClaim := { program := "ytnooiajahmichaa", sum := "ec7866f2f617ca861f4ce950bd50401e2301139f4a7df11107fd0497446e45b8", func := "maskwright/maskkeep4.TreeWithin", spec := "treeWithin", unfollowed := true, recurses := true, plainKeys := false, apart := false }
def TreeWithinSaid : Prop := treeWithinRow.holds Try.pinned (OpenSpec.ofChange treeWithinSpec)

/-- ITS FALSE NEIGHBOUR: 'it returns false'. Refute it at one input. -/
def treeWithinWrong : ChangeSpec := { name := "treeWithin", fn := fun _ => fun
  | [d] => { results := [.lit (.bool false)], args := [d] }
  | _ => none }
def TreeWithinWrongFalsely : Prop := treeWithinRow.holds Try.pinned (OpenSpec.ofChange treeWithinWrong)

/-- 'maskkeep4.ExtractGrows': WHATEVER THE INPUT: true; the input reads as it did. -/
def extractGrowsSpec : ChangeSpec := { name := "extractGrows", fn := fun _ => fun
  | [d] => { results := [.lit (.bool true)], args := [d] }
  | _ => none }
def extractGrowsRow : OpenClaim := { program := "ytnooiajahmichaa", sum := "ec7866f2f617ca861f4ce950bd50401e2301139f4a7df11107fd0497446e45b8", func := "maskwright/maskkeep4.ExtractGrows", spec := "extractGrows", plainKeys := false, apart := false }
def ExtractGrowsSaid : Prop := extractGrowsRow.holds Try.pinned (OpenSpec.ofChange extractGrowsSpec)

/-- ITS FALSE NEIGHBOUR: 'it returns false'. Refute it at one input. -/
def extractGrowsWrong : ChangeSpec := { name := "extractGrows", fn := fun _ => fun
  | [d] => { results := [.lit (.bool false)], args := [d] }
  | _ => none }
def ExtractGrowsWrongFalsely : Prop := extractGrowsRow.holds Try.pinned (OpenSpec.ofChange extractGrowsWrong)

/-- 'maskkeep4.ExtractOrder': WHATEVER THE INPUT: true; the input reads as it did. -/
def extractOrderSpec : ChangeSpec := { name := "extractOrder", fn := fun _ => fun
  | [d] => { results := [.lit (.bool true)], args := [d] }
  | _ => none }
def extractOrderRow : OpenClaim := { program := "ytnooiajahmichaa", sum := "ec7866f2f617ca861f4ce950bd50401e2301139f4a7df11107fd0497446e45b8", func := "maskwright/maskkeep4.ExtractOrder", spec := "extractOrder", plainKeys := false, apart := false }
def ExtractOrderSaid : Prop := extractOrderRow.holds Try.pinned (OpenSpec.ofChange extractOrderSpec)

/-- ITS FALSE NEIGHBOUR: 'it returns false'. Refute it at one input. -/
def extractOrderWrong : ChangeSpec := { name := "extractOrder", fn := fun _ => fun
  | [d] => { results := [.lit (.bool false)], args := [d] }
  | _ => none }
def ExtractOrderWrongFalsely : Prop := extractOrderRow.holds Try.pinned (OpenSpec.ofChange extractOrderWrong)

/-- 'maskkeep4.StreamNotices': WHATEVER THE INPUT: true; the input reads as it did. -/
def streamNoticesSpec : ChangeSpec := { name := "streamNotices", fn := fun _ => fun
  | [d1, d2, d3] => { results := [.lit (.bool true)], args := [d1, d2, d3] }
  | _ => none }
def streamNoticesRow : OpenClaim := { program := "ytnooiajahmichaa", sum := "ec7866f2f617ca861f4ce950bd50401e2301139f4a7df11107fd0497446e45b8", func := "maskwright/maskkeep4.StreamNotices", spec := "streamNotices", unfollowed := true, recurses := true, plainKeys := false, apart := false }
def StreamNoticesSaid : Prop := streamNoticesRow.holds Try.pinned (OpenSpec.ofChange streamNoticesSpec)

/-- ITS FALSE NEIGHBOUR: 'it returns false'. Refute it at one input. -/
def streamNoticesWrong : ChangeSpec := { name := "streamNotices", fn := fun _ => fun
  | [d1, d2, d3] => { results := [.lit (.bool false)], args := [d1, d2, d3] }
  | _ => none }
def StreamNoticesWrongFalsely : Prop := streamNoticesRow.holds Try.pinned (OpenSpec.ofChange streamNoticesWrong)

/-- 'maskkeep4.TreeBuilds': WHATEVER THE INPUT: true; the input reads as it did. -/
def treeBuildsSpec : ChangeSpec := { name := "treeBuilds", fn := fun _ => fun
  | [d1, d2] => { results := [.lit (.bool true)], args := [d1, d2] }
  | _ => none }
def treeBuildsRow : OpenClaim := { program := "ytnooiajahmichaa", sum := "ec7866f2f617ca861f4ce950bd50401e2301139f4a7df11107fd0497446e45b8", func := "maskwright/maskkeep4.TreeBuilds", spec := "treeBuilds", unfollowed := true, recurses := true, plainKeys := false, apart := false }
def TreeBuildsSaid : Prop := treeBuildsRow.holds Try.pinned (OpenSpec.ofChange treeBuildsSpec)

/-- ITS FALSE NEIGHBOUR: 'it returns false'. Refute it at one input. -/
def treeBuildsWrong : ChangeSpec := { name := "treeBuilds", fn := fun _ => fun
  | [d1, d2] => { results := [.lit (.bool false)], args := [d1, d2] }
  | _ => none }
def TreeBuildsWrongFalsely : Prop := treeBuildsRow.holds Try.pinned (OpenSpec.ofChange treeBuildsWrong)

/-- 'maskkeep4.ExactProducts': WHATEVER THE INPUT: true; the input reads as it did. -/
def exactProductsSpec : ChangeSpec := { name := "exactProducts", fn := fun _ => fun
  | [d] => { results := [.lit (.bool true)], args := [d] }
  | _ => none }
def exactProductsRow : OpenClaim := { program := "ytnooiajahmichaa", sum := "ec7866f2f617ca861f4ce950bd50401e2301139f4a7df11107fd0497446e45b8", func := "maskwright/maskkeep4.ExactProducts", spec := "exactProducts", inPlace := ["internal/abi.NoEscape"], recurses := true, plainKeys := false, apart := false }
def ExactProductsSaid : Prop := exactProductsRow.holds Try.pinned (OpenSpec.ofChange exactProductsSpec)

/-- ITS FALSE NEIGHBOUR: 'it returns false'. Refute it at one input. -/
def exactProductsWrong : ChangeSpec := { name := "exactProducts", fn := fun _ => fun
  | [d] => { results := [.lit (.bool false)], args := [d] }
  | _ => none }
def ExactProductsWrongFalsely : Prop := exactProductsRow.holds Try.pinned (OpenSpec.ofChange exactProductsWrong)

/-- 'maskkeep4.ExactHolds': WHATEVER THE INPUT: true; the input reads as it did. -/
def exactHoldsSpec : ChangeSpec := { name := "exactHolds", fn := fun _ => fun
  | [d] => { results := [.lit (.bool true)], args := [d] }
  | _ => none }
def exactHoldsRow : OpenClaim := { program := "ytnooiajahmichaa", sum := "ec7866f2f617ca861f4ce950bd50401e2301139f4a7df11107fd0497446e45b8", func := "maskwright/maskkeep4.ExactHolds", spec := "exactHolds", inPlace := ["internal/abi.NoEscape"], recurses := true, plainKeys := false, apart := false }
def ExactHoldsSaid : Prop := exactHoldsRow.holds Try.pinned (OpenSpec.ofChange exactHoldsSpec)

/-- ITS FALSE NEIGHBOUR: 'it returns false'. Refute it at one input. -/
def exactHoldsWrong : ChangeSpec := { name := "exactHolds", fn := fun _ => fun
  | [d] => { results := [.lit (.bool false)], args := [d] }
  | _ => none }
def ExactHoldsWrongFalsely : Prop := exactHoldsRow.holds Try.pinned (OpenSpec.ofChange exactHoldsWrong)

/-- 'maskkeep4.StreamBack': WHATEVER THE INPUT: true; the input reads as it did. -/
def streamBackSpec : ChangeSpec := { name := "streamBack", fn := fun _ => fun
  | [d] => { results := [.lit (.bool true)], args := [d] }
  | _ => none }
def streamBackRow : OpenClaim := { program := "ytnooiajahmichaa", sum := "ec7866f2f617ca861f4ce950bd50401e2301139f4a7df11107fd0497446e45b8", func := "maskwright/maskkeep4.StreamBack", spec := "streamBack", unfollowed := true, recurses := true, plainKeys := false, apart := false }
def StreamBackSaid : Prop := streamBackRow.holds Try.pinned (OpenSpec.ofChange streamBackSpec)

/-- ITS FALSE NEIGHBOUR: 'it returns false'. Refute it at one input. -/
def streamBackWrong : ChangeSpec := { name := "streamBack", fn := fun _ => fun
  | [d] => { results := [.lit (.bool false)], args := [d] }
  | _ => none }
def StreamBackWrongFalsely : Prop := streamBackRow.holds Try.pinned (OpenSpec.ofChange streamBackWrong)

/-- 'maskkeep4.ExactLong': WHATEVER THE INPUT: true; the input reads as it did. -/
def exactLongSpec : ChangeSpec := { name := "exactLong", fn := fun _ => fun
  | [d] => { results := [.lit (.bool true)], args := [d] }
  | _ => none }
def exactLongRow : OpenClaim := { program := "ytnooiajahmichaa", sum := "ec7866f2f617ca861f4ce950bd50401e2301139f4a7df11107fd0497446e45b8", func := "maskwright/maskkeep4.ExactLong", spec := "exactLong", inPlace := ["internal/abi.NoEscape"], unfollowed := true, recurses := true, plainKeys := false, apart := false }
def ExactLongSaid : Prop := exactLongRow.holds Try.pinned (OpenSpec.ofChange exactLongSpec)

/-- ITS FALSE NEIGHBOUR: 'it returns false'. Refute it at one input. -/
def exactLongWrong : ChangeSpec := { name := "exactLong", fn := fun _ => fun
  | [d] => { results := [.lit (.bool false)], args := [d] }
  | _ => none }
def ExactLongWrongFalsely : Prop := exactLongRow.holds Try.pinned (OpenSpec.ofChange exactLongWrong)

/-- 'maskkeep4.PlaceInside': WHATEVER THE INPUT: true; the input reads as it did. -/
def placeInsideSpec : ChangeSpec := { name := "placeInside", fn := fun _ => fun
  | [d] => { results := [.lit (.bool true)], args := [d] }
  | _ => none }
def placeInsideRow : OpenClaim := { program := "ytnooiajahmichaa", sum := "ec7866f2f617ca861f4ce950bd50401e2301139f4a7df11107fd0497446e45b8", func := "maskwright/maskkeep4.PlaceInside", spec := "placeInside", inPlace := ["internal/abi.NoEscape"], recurses := true, plainKeys := false, apart := false }
def PlaceInsideSaid : Prop := placeInsideRow.holds Try.pinned (OpenSpec.ofChange placeInsideSpec)

/-- ITS FALSE NEIGHBOUR: 'it returns false'. Refute it at one input. -/
def placeInsideWrong : ChangeSpec := { name := "placeInside", fn := fun _ => fun
  | [d] => { results := [.lit (.bool false)], args := [d] }
  | _ => none }
def PlaceInsideWrongFalsely : Prop := placeInsideRow.holds Try.pinned (OpenSpec.ofChange placeInsideWrong)

/- THE SECOND FORM. 'bulk': how many values and letters a reading holds, each counted each time it is reached (what is shared counts as often as it is met; a slice's spare places count too). A statement '..UptoSaid' is the law's where the arguments, and the package variables that the reading takes, are together of bulk at most 1048576: NARROWER than '..Said'. Prove '..Said' where nothing that the law and all that it calls make is longer than what came in: it says more and counts as full. Else prove '..UptoSaid'. A law counts once. -/
mutual
def uptoBulk {H : Type} : DataW H → Nat
  | .lit (.string bytes) => bytes.length + 1
  | .lit _ => 1
  | .nil => 1
  | .ptr d => uptoBulk d + 1
  | .slice elems spare => uptoBulkAll elems + uptoBulkAll spare + 1
  | .agg parts => uptoBulkAll parts + 1
  | .iface _ d => uptoBulk d + 1
  | .map entries => uptoBulkEntries entries + 1
  | .held _ => 1
def uptoBulkAll {H : Type} : List (DataW H) → Nat
  | [] => 0
  | d :: r => uptoBulk d + uptoBulkAll r
def uptoBulkEntries {H : Type} : List (Lit × DataW H) → Nat
  | [] => 0
  | x :: r => uptoBulkEntry x + uptoBulkEntries r
def uptoBulkEntry {H : Type} : Lit × DataW H → Nat
  | (.string bytes, d) => bytes.length + uptoBulk d + 1
  | (_, d) => uptoBulk d + 1
 end
def uptoSmall : (H : Type) → List (DataW H) → Bool := fun _ ds => decide (uptoBulkAll ds ≤ 1048576)
def OpenSpec.upto (s : _root_.Go.ChangeSpec) : _root_.Go.OpenSpec := { _root_.Go.OpenSpec.ofChange s with cond := some uptoSmall }

/-- 'maskkeep4.LegalOrder', WHERE WHAT IT READS IS OF BULK AT MOST 1048576: true; the input reads as it did. -/
def legalOrderUptoRow : OpenClaim := { program := "ytnooiajahmichaa", sum := "ec7866f2f617ca861f4ce950bd50401e2301139f4a7df11107fd0497446e45b8", func := "maskwright/maskkeep4.LegalOrder", spec := "legalOrder", plainKeys := false, apart := false, narrowed := true }
def LegalOrderUptoSaid : Prop := legalOrderUptoRow.holds Try.pinned (OpenSpec.upto legalOrderSpec)

/-- 'maskkeep4.TreeWithin', WHERE WHAT IT READS IS OF BULK AT MOST 1048576: true; the input reads as it did. -/
def treeWithinUptoRow : OpenClaim := { program := "ytnooiajahmichaa", sum := "ec7866f2f617ca861f4ce950bd50401e2301139f4a7df11107fd0497446e45b8", func := "maskwright/maskkeep4.TreeWithin", spec := "treeWithin", unfollowed := true, recurses := true, plainKeys := false, apart := false, narrowed := true }
def TreeWithinUptoSaid : Prop := treeWithinUptoRow.holds Try.pinned (OpenSpec.upto treeWithinSpec)

/-- 'maskkeep4.ExtractGrows', WHERE WHAT IT READS IS OF BULK AT MOST 1048576: true; the input reads as it did. -/
def extractGrowsUptoRow : OpenClaim := { program := "ytnooiajahmichaa", sum := "ec7866f2f617ca861f4ce950bd50401e2301139f4a7df11107fd0497446e45b8", func := "maskwright/maskkeep4.ExtractGrows", spec := "extractGrows", plainKeys := false, apart := false, narrowed := true }
def ExtractGrowsUptoSaid : Prop := extractGrowsUptoRow.holds Try.pinned (OpenSpec.upto extractGrowsSpec)

/-- 'maskkeep4.ExtractOrder', WHERE WHAT IT READS IS OF BULK AT MOST 1048576: true; the input reads as it did. -/
def extractOrderUptoRow : OpenClaim := { program := "ytnooiajahmichaa", sum := "ec7866f2f617ca861f4ce950bd50401e2301139f4a7df11107fd0497446e45b8", func := "maskwright/maskkeep4.ExtractOrder", spec := "extractOrder", plainKeys := false, apart := false, narrowed := true }
def ExtractOrderUptoSaid : Prop := extractOrderUptoRow.holds Try.pinned (OpenSpec.upto extractOrderSpec)

/-- 'maskkeep4.StreamNotices', WHERE WHAT IT READS IS OF BULK AT MOST 1048576: true; the input reads as it did. -/
def streamNoticesUptoRow : OpenClaim := { program := "ytnooiajahmichaa", sum := "ec7866f2f617ca861f4ce950bd50401e2301139f4a7df11107fd0497446e45b8", func := "maskwright/maskkeep4.StreamNotices", spec := "streamNotices", unfollowed := true, recurses := true, plainKeys := false, apart := false, narrowed := true }
def StreamNoticesUptoSaid : Prop := streamNoticesUptoRow.holds Try.pinned (OpenSpec.upto streamNoticesSpec)

/-- 'maskkeep4.TreeBuilds', WHERE WHAT IT READS IS OF BULK AT MOST 1048576: true; the input reads as it did. -/
def treeBuildsUptoRow : OpenClaim := { program := "ytnooiajahmichaa", sum := "ec7866f2f617ca861f4ce950bd50401e2301139f4a7df11107fd0497446e45b8", func := "maskwright/maskkeep4.TreeBuilds", spec := "treeBuilds", unfollowed := true, recurses := true, plainKeys := false, apart := false, narrowed := true }
def TreeBuildsUptoSaid : Prop := treeBuildsUptoRow.holds Try.pinned (OpenSpec.upto treeBuildsSpec)

/-- 'maskkeep4.ExactProducts', WHERE WHAT IT READS IS OF BULK AT MOST 1048576: true; the input reads as it did. -/
def exactProductsUptoRow : OpenClaim := { program := "ytnooiajahmichaa", sum := "ec7866f2f617ca861f4ce950bd50401e2301139f4a7df11107fd0497446e45b8", func := "maskwright/maskkeep4.ExactProducts", spec := "exactProducts", inPlace := ["internal/abi.NoEscape"], recurses := true, plainKeys := false, apart := false, narrowed := true }
def ExactProductsUptoSaid : Prop := exactProductsUptoRow.holds Try.pinned (OpenSpec.upto exactProductsSpec)

/-- 'maskkeep4.ExactHolds', WHERE WHAT IT READS IS OF BULK AT MOST 1048576: true; the input reads as it did. -/
def exactHoldsUptoRow : OpenClaim := { program := "ytnooiajahmichaa", sum := "ec7866f2f617ca861f4ce950bd50401e2301139f4a7df11107fd0497446e45b8", func := "maskwright/maskkeep4.ExactHolds", spec := "exactHolds", inPlace := ["internal/abi.NoEscape"], recurses := true, plainKeys := false, apart := false, narrowed := true }
def ExactHoldsUptoSaid : Prop := exactHoldsUptoRow.holds Try.pinned (OpenSpec.upto exactHoldsSpec)

/-- 'maskkeep4.StreamBack', WHERE WHAT IT READS IS OF BULK AT MOST 1048576: true; the input reads as it did. -/
def streamBackUptoRow : OpenClaim := { program := "ytnooiajahmichaa", sum := "ec7866f2f617ca861f4ce950bd50401e2301139f4a7df11107fd0497446e45b8", func := "maskwright/maskkeep4.StreamBack", spec := "streamBack", unfollowed := true, recurses := true, plainKeys := false, apart := false, narrowed := true }
def StreamBackUptoSaid : Prop := streamBackUptoRow.holds Try.pinned (OpenSpec.upto streamBackSpec)

/-- 'maskkeep4.ExactLong', WHERE WHAT IT READS IS OF BULK AT MOST 1048576: true; the input reads as it did. -/
def exactLongUptoRow : OpenClaim := { program := "ytnooiajahmichaa", sum := "ec7866f2f617ca861f4ce950bd50401e2301139f4a7df11107fd0497446e45b8", func := "maskwright/maskkeep4.ExactLong", spec := "exactLong", inPlace := ["internal/abi.NoEscape"], unfollowed := true, recurses := true, plainKeys := false, apart := false, narrowed := true }
def ExactLongUptoSaid : Prop := exactLongUptoRow.holds Try.pinned (OpenSpec.upto exactLongSpec)

/-- 'maskkeep4.PlaceInside', WHERE WHAT IT READS IS OF BULK AT MOST 1048576: true; the input reads as it did. -/
def placeInsideUptoRow : OpenClaim := { program := "ytnooiajahmichaa", sum := "ec7866f2f617ca861f4ce950bd50401e2301139f4a7df11107fd0497446e45b8", func := "maskwright/maskkeep4.PlaceInside", spec := "placeInside", inPlace := ["internal/abi.NoEscape"], recurses := true, plainKeys := false, apart := false, narrowed := true }
def PlaceInsideUptoSaid : Prop := placeInsideUptoRow.holds Try.pinned (OpenSpec.upto placeInsideSpec)

end Rows
end Go.Proofs.Ytnooiajahmichaa
