/-
  No cell of these rows narrows 'for every input' (looked for: loops, veiled, ifaces, maps, wideKeys, modest, calm, conditions, laid).
  DERIVED. THE GIVEN ROWS OF THIS SEAT. 3 by the template 'for every input the law returns true; each argument reads behind the call as it read before'; 0 by the template 'total and deterministic' (their statements: YtfkncjfpgflafaaTotals.lean).
  GIVEN WITH THE SEED: the statements are not yours to turn. If you find one false, say at which input.
  Laid BY PROGRAM, IN A SANDBOX (cutbox-rows.mjs): the forced cells as the released guide's own fill.sh prints them over the translation 22e1d6f96909d6e5… (all of the seat's roots in one cut). By AI agents, Wed Nov 11 2026. No macro, syntax, notation, axiom, sorry.
-/
import Derived.Test.YtfkncjfpgflafaaChecked
import GoSem.Claim
import GoSem.ClaimJoined
import GoSem.ClaimMapViews
import Derived.JoinedTies
import Derived.KernelRfl
namespace Go.Proofs.Ytfkncjfpgflafaa
/- THE CELL 'sum', in the pinned program and in every row, IS THE sha256 OF THE DUMP (.gsa) THAT YtfkncjfpgflafaaProg.lean LOADS. Nothing in Lean hashes anything: it is a label: what it is worth is what the hold of that sum in a sandbox is worth. -/
noncomputable def Try.pinned : Pinned := { name := "ytfkncjfpgflafaa", sum := "22e1d6f96909d6e5847db3e73fe5bda81ab54bf256063316e0dd08880c193047", checked := Try.checked }
namespace Rows
def none {H : Type} : Left H := { results := [], args := [] }

/-- 'maskkeep4.PlaceInside': WHATEVER THE INPUT: true; the input reads as it did. -/
def placeInsideSpec : ChangeSpec := { name := "placeInside", fn := fun _ => fun
  | [d] => { results := [.lit (.bool true)], args := [d] }
  | _ => none }
def placeInsideRow : OpenClaim := { program := "ytfkncjfpgflafaa", sum := "22e1d6f96909d6e5847db3e73fe5bda81ab54bf256063316e0dd08880c193047", func := "maskwright/maskkeep4.PlaceInside", spec := "placeInside", inPlace := ["internal/abi.NoEscape"], recurses := true, apart := false }
def PlaceInsideSaid : Prop := placeInsideRow.holds Try.pinned (OpenSpec.ofChange placeInsideSpec)

/-- ITS FALSE NEIGHBOUR: 'it returns false'. Refute it at one input. -/
def placeInsideWrong : ChangeSpec := { name := "placeInside", fn := fun _ => fun
  | [d] => { results := [.lit (.bool false)], args := [d] }
  | _ => none }
def PlaceInsideWrongFalsely : Prop := placeInsideRow.holds Try.pinned (OpenSpec.ofChange placeInsideWrong)

/-- 'maskkeep4.PlaceMirrors': WHATEVER THE INPUT: true; the input reads as it did. -/
def placeMirrorsSpec : ChangeSpec := { name := "placeMirrors", fn := fun _ => fun
  | [d] => { results := [.lit (.bool true)], args := [d] }
  | _ => none }
def placeMirrorsRow : OpenClaim := { program := "ytfkncjfpgflafaa", sum := "22e1d6f96909d6e5847db3e73fe5bda81ab54bf256063316e0dd08880c193047", func := "maskwright/maskkeep4.PlaceMirrors", spec := "placeMirrors", inPlace := ["internal/abi.NoEscape"], recurses := true, apart := false }
def PlaceMirrorsSaid : Prop := placeMirrorsRow.holds Try.pinned (OpenSpec.ofChange placeMirrorsSpec)

/-- ITS FALSE NEIGHBOUR: 'it returns false'. Refute it at one input. -/
def placeMirrorsWrong : ChangeSpec := { name := "placeMirrors", fn := fun _ => fun
  | [d] => { results := [.lit (.bool false)], args := [d] }
  | _ => none }
def PlaceMirrorsWrongFalsely : Prop := placeMirrorsRow.holds Try.pinned (OpenSpec.ofChange placeMirrorsWrong)

/-- 'maskkeep4.PlaceLeast': WHATEVER THE INPUT: true; the input reads as it did. -/
def placeLeastSpec : ChangeSpec := { name := "placeLeast", fn := fun _ => fun
  | [d] => { results := [.lit (.bool true)], args := [d] }
  | _ => none }
def placeLeastRow : OpenClaim := { program := "ytfkncjfpgflafaa", sum := "22e1d6f96909d6e5847db3e73fe5bda81ab54bf256063316e0dd08880c193047", func := "maskwright/maskkeep4.PlaceLeast", spec := "placeLeast", inPlace := ["internal/abi.NoEscape"], recurses := true, apart := false }
def PlaceLeastSaid : Prop := placeLeastRow.holds Try.pinned (OpenSpec.ofChange placeLeastSpec)

/-- ITS FALSE NEIGHBOUR: 'it returns false'. Refute it at one input. -/
def placeLeastWrong : ChangeSpec := { name := "placeLeast", fn := fun _ => fun
  | [d] => { results := [.lit (.bool false)], args := [d] }
  | _ => none }
def PlaceLeastWrongFalsely : Prop := placeLeastRow.holds Try.pinned (OpenSpec.ofChange placeLeastWrong)

/- THE SECOND FORM. 'bulk': how many values and letters a reading holds, each counted each time it is reached (what is shared counts as often as it is met; a slice's spare places count too). A statement '..UptoSaid' is the law's where the arguments, and the package variables that the reading takes, are together of bulk at most 1048576: NARROWER than '..Said'. Prove '..Said' where nothing that the law and all that it calls make is longer than what came in: it says more and counts as full. Else prove '..UptoSaid'. A law counts once. -/
mutual
def uptoBulk {H : Type} : DataW H → Nat
  | .lit (.string bytes) => bytes.length + 1
  | .lit _ => 1
  | .nil => 1
  | .ptr d => uptoBulk d + 1
  | .slice elems spare => uptoBulkAll elems + uptoBulkAll spare + 1
  | .agg parts => uptoBulkAll parts + 1
  | .iface _ d => uptoBulk d + 1
  | .map entries => uptoBulkEntries entries + 1
  | .held _ => 1
def uptoBulkAll {H : Type} : List (DataW H) → Nat
  | [] => 0
  | d :: r => uptoBulk d + uptoBulkAll r
def uptoBulkEntries {H : Type} : List (Lit × DataW H) → Nat
  | [] => 0
  | x :: r => uptoBulkEntry x + uptoBulkEntries r
def uptoBulkEntry {H : Type} : Lit × DataW H → Nat
  | (.string bytes, d) => bytes.length + uptoBulk d + 1
  | (_, d) => uptoBulk d + 1
 end
def uptoSmall : (H : Type) → List (DataW H) → Bool := fun _ ds => decide (uptoBulkAll ds ≤ 1048576)
def OpenSpec.upto (s : _root_.Go.ChangeSpec) : _root_.Go.OpenSpec := { _root_.Go.OpenSpec.ofChange s with cond := some uptoSmall }

/-- 'maskkeep4.PlaceInside', WHERE WHAT IT READS IS OF BULK AT MOST 1048576: true; the input reads as it did. -/
def placeInsideUptoRow : OpenClaim := { program := "ytfkncjfpgflafaa", sum := "22e1d6f96909d6e5847db3e73fe5bda81ab54bf256063316e0dd08880c193047", func := "maskwright/maskkeep4.PlaceInside", spec := "placeInside", inPlace := ["internal/abi.NoEscape"], recurses := true, apart := false, narrowed := true }
def PlaceInsideUptoSaid : Prop := placeInsideUptoRow.holds Try.pinned (OpenSpec.upto placeInsideSpec)

/-- 'maskkeep4.PlaceMirrors', WHERE WHAT IT READS IS OF BULK AT MOST 1048576: true; the input reads as it did. -/
def placeMirrorsUptoRow : OpenClaim := { program := "ytfkncjfpgflafaa", sum := "22e1d6f96909d6e5847db3e73fe5bda81ab54bf256063316e0dd08880c193047", func := "maskwright/maskkeep4.PlaceMirrors", spec := "placeMirrors", inPlace := ["internal/abi.NoEscape"], recurses := true, apart := false, narrowed := true }
def PlaceMirrorsUptoSaid : Prop := placeMirrorsUptoRow.holds Try.pinned (OpenSpec.upto placeMirrorsSpec)

/-- 'maskkeep4.PlaceLeast', WHERE WHAT IT READS IS OF BULK AT MOST 1048576: true; the input reads as it did. -/
def placeLeastUptoRow : OpenClaim := { program := "ytfkncjfpgflafaa", sum := "22e1d6f96909d6e5847db3e73fe5bda81ab54bf256063316e0dd08880c193047", func := "maskwright/maskkeep4.PlaceLeast", spec := "placeLeast", inPlace := ["internal/abi.NoEscape"], recurses := true, apart := false, narrowed := true }
def PlaceLeastUptoSaid : Prop := placeLeastUptoRow.holds Try.pinned (OpenSpec.upto placeLeastSpec)

end Rows
end Go.Proofs.Ytfkncjfpgflafaa
