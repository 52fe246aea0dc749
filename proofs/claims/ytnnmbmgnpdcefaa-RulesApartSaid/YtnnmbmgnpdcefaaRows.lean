/-
  No cell of these rows narrows 'for every input' (looked for: loops, veiled, ifaces, maps, wideKeys, modest, calm, conditions, laid).
  DERIVED. THE GIVEN ROWS OF THIS SEAT. 5 by the template 'for every input the law returns true; each argument reads behind the call as it read before'; 0 by the template 'total and deterministic' (their statements: YtnnmbmgnpdcefaaTotals.lean).
  GIVEN WITH THE SEED: the statements are not yours to turn. If you find one false, say at which input.
  Laid BY PROGRAM, IN A SANDBOX (cutbox-rows.mjs): the forced cells as the released guide's own fill.sh prints them over the translation 03d5bdcdc3b57369… (all of the seat's roots in one cut). By AI agents, Wed Nov 11 2026. No macro, syntax, notation, axiom, sorry.
-/
import Derived.Test.YtnnmbmgnpdcefaaChecked
import GoSem.Claim
import GoSem.ClaimJoined
import GoSem.ClaimMapViews
import Derived.JoinedTies
import Derived.KernelRfl
namespace Go.Proofs.Ytnnmbmgnpdcefaa
/- THE CELL 'sum', in the pinned program and in every row, IS THE sha256 OF THE DUMP (.gsa) THAT YtnnmbmgnpdcefaaProg.lean LOADS. Nothing in Lean hashes anything: it is a label: what it is worth is what the hold of that sum in a sandbox is worth. -/
noncomputable def Try.pinned : Pinned := { name := "ytnnmbmgnpdcefaa", sum := "03d5bdcdc3b573696297b53714487f066eb1744a574046ef32c8268433d1c731", checked := Try.checked }
namespace Rows
def none {H : Type} : Left H := { results := [], args := [] }

/-- 'maskkeep4.ExtractGrows': WHATEVER THE INPUT: true; the input reads as it did. -/
def extractGrowsSpec : ChangeSpec := { name := "extractGrows", fn := fun _ => fun
  | [d] => { results := [.lit (.bool true)], args := [d] }
  | _ => none }
def extractGrowsRow : OpenClaim := { program := "ytnnmbmgnpdcefaa", sum := "03d5bdcdc3b573696297b53714487f066eb1744a574046ef32c8268433d1c731", func := "maskwright/maskkeep4.ExtractGrows", spec := "extractGrows", plainKeys := false, apart := false }
def ExtractGrowsSaid : Prop := extractGrowsRow.holds Try.pinned (OpenSpec.ofChange extractGrowsSpec)

/-- ITS FALSE NEIGHBOUR: 'it returns false'. Refute it at one input. -/
def extractGrowsWrong : ChangeSpec := { name := "extractGrows", fn := fun _ => fun
  | [d] => { results := [.lit (.bool false)], args := [d] }
  | _ => none }
def ExtractGrowsWrongFalsely : Prop := extractGrowsRow.holds Try.pinned (OpenSpec.ofChange extractGrowsWrong)

/-- 'maskkeep4.ExtractOrder': WHATEVER THE INPUT: true; the input reads as it did. -/
def extractOrderSpec : ChangeSpec := { name := "extractOrder", fn := fun _ => fun
  | [d] => { results := [.lit (.bool true)], args := [d] }
  | _ => none }
def extractOrderRow : OpenClaim := { program := "ytnnmbmgnpdcefaa", sum := "03d5bdcdc3b573696297b53714487f066eb1744a574046ef32c8268433d1c731", func := "maskwright/maskkeep4.ExtractOrder", spec := "extractOrder", plainKeys := false, apart := false }
def ExtractOrderSaid : Prop := extractOrderRow.holds Try.pinned (OpenSpec.ofChange extractOrderSpec)

/-- ITS FALSE NEIGHBOUR: 'it returns false'. Refute it at one input. -/
def extractOrderWrong : ChangeSpec := { name := "extractOrder", fn := fun _ => fun
  | [d] => { results := [.lit (.bool false)], args := [d] }
  | _ => none }
def ExtractOrderWrongFalsely : Prop := extractOrderRow.holds Try.pinned (OpenSpec.ofChange extractOrderWrong)

/-- 'maskkeep4.RulesTwice': WHATEVER THE INPUT: true; the input reads as it did. -/
def rulesTwiceSpec : ChangeSpec := { name := "rulesTwice", fn := fun _ => fun
  | [d] => { results := [.lit (.bool true)], args := [d] }
  | _ => none }
def rulesTwiceRow : OpenClaim := { program := "ytnnmbmgnpdcefaa", sum := "03d5bdcdc3b573696297b53714487f066eb1744a574046ef32c8268433d1c731", func := "maskwright/maskkeep4.RulesTwice", spec := "rulesTwice", unfollowed := true, recurses := true, plainKeys := false, apart := false }
def RulesTwiceSaid : Prop := rulesTwiceRow.holds Try.pinned (OpenSpec.ofChange rulesTwiceSpec)

/-- ITS FALSE NEIGHBOUR: 'it returns false'. Refute it at one input. -/
def rulesTwiceWrong : ChangeSpec := { name := "rulesTwice", fn := fun _ => fun
  | [d] => { results := [.lit (.bool false)], args := [d] }
  | _ => none }
def RulesTwiceWrongFalsely : Prop := rulesTwiceRow.holds Try.pinned (OpenSpec.ofChange rulesTwiceWrong)

/-- 'maskkeep4.RulesOrder': WHATEVER THE INPUT: true; the input reads as it did. -/
def rulesOrderSpec : ChangeSpec := { name := "rulesOrder", fn := fun _ => fun
  | [d] => { results := [.lit (.bool true)], args := [d] }
  | _ => none }
def rulesOrderRow : OpenClaim := { program := "ytnnmbmgnpdcefaa", sum := "03d5bdcdc3b573696297b53714487f066eb1744a574046ef32c8268433d1c731", func := "maskwright/maskkeep4.RulesOrder", spec := "rulesOrder", unfollowed := true, recurses := true, plainKeys := false, apart := false }
def RulesOrderSaid : Prop := rulesOrderRow.holds Try.pinned (OpenSpec.ofChange rulesOrderSpec)

/-- ITS FALSE NEIGHBOUR: 'it returns false'. Refute it at one input. -/
def rulesOrderWrong : ChangeSpec := { name := "rulesOrder", fn := fun _ => fun
  | [d] => { results := [.lit (.bool false)], args := [d] }
  | _ => none }
def RulesOrderWrongFalsely : Prop := rulesOrderRow.holds Try.pinned (OpenSpec.ofChange rulesOrderWrong)

/-- 'maskkeep4.RulesApart': WHATEVER THE INPUT: true; the input reads as it did. -/
def rulesApartSpec : ChangeSpec := { name := "rulesApart", fn := fun _ => fun
  | [d1, d2] => { results := [.lit (.bool true)], args := [d1, d2] }
  | _ => none }
def rulesApartRow : OpenClaim := { program := "ytnnmbmgnpdcefaa", sum := "03d5bdcdc3b573696297b53714487f066eb1744a574046ef32c8268433d1c731", func := "maskwright/maskkeep4.RulesApart", spec := "rulesApart", unfollowed := true, recurses := true, plainKeys := false, apart := false }
def RulesApartSaid : Prop := rulesApartRow.holds Try.pinned (OpenSpec.ofChange rulesApartSpec)

/-- ITS FALSE NEIGHBOUR: 'it returns false'. Refute it at one input. -/
def rulesApartWrong : ChangeSpec := { name := "rulesApart", fn := fun _ => fun
  | [d1, d2] => { results := [.lit (.bool false)], args := [d1, d2] }
  | _ => none }
def RulesApartWrongFalsely : Prop := rulesApartRow.holds Try.pinned (OpenSpec.ofChange rulesApartWrong)

/- THE SECOND FORM. 'bulk': how many values and letters a reading holds, each counted each time it is reached (what is shared counts as often as it is met; a slice's spare places count too). A statement '..UptoSaid' is the law's where the arguments, and the package variables that the reading takes, are together of bulk at most 1048576: NARROWER than '..Said'. Prove '..Said' where nothing that the law and all that it calls make is longer than what came in: it says more and counts as full. Else prove '..UptoSaid'. A law counts once. -/
mutual
def uptoBulk {H : Type} : DataW H → Nat
  | .lit (.string bytes) => bytes.length + 1
  | .lit _ => 1
  | .nil => 1
  | .ptr d => uptoBulk d + 1
  | .slice elems spare => uptoBulkAll elems + uptoBulkAll spare + 1
  | .agg parts => uptoBulkAll parts + 1
  | .iface _ d => uptoBulk d + 1
  | .map entries => uptoBulkEntries entries + 1
  | .held _ => 1
def uptoBulkAll {H : Type} : List (DataW H) → Nat
  | [] => 0
  | d :: r => uptoBulk d + uptoBulkAll r
def uptoBulkEntries {H : Type} : List (Lit × DataW H) → Nat
  | [] => 0
  | x :: r => uptoBulkEntry x + uptoBulkEntries r
def uptoBulkEntry {H : Type} : Lit × DataW H → Nat
  | (.string bytes, d) => bytes.length + uptoBulk d + 1
  | (_, d) => uptoBulk d + 1
 end
def uptoSmall : (H : Type) → List (DataW H) → Bool := fun _ ds => decide (uptoBulkAll ds ≤ 1048576)
def OpenSpec.upto (s : _root_.Go.ChangeSpec) : _root_.Go.OpenSpec := { _root_.Go.OpenSpec.ofChange s with cond := some uptoSmall }

/-- 'maskkeep4.ExtractGrows', WHERE WHAT IT READS IS OF BULK AT MOST 1048576: true; the input reads as it did. -/
def extractGrowsUptoRow : OpenClaim := { program := "ytnnmbmgnpdcefaa", sum := "03d5bdcdc3b573696297b53714487f066eb1744a574046ef32c8268433d1c731", func := "maskwright/maskkeep4.ExtractGrows", spec := "extractGrows", plainKeys := false, apart := false, narrowed := true }
def ExtractGrowsUptoSaid : Prop := extractGrowsUptoRow.holds Try.pinned (OpenSpec.upto extractGrowsSpec)

/-- 'maskkeep4.ExtractOrder', WHERE WHAT IT READS IS OF BULK AT MOST 1048576: true; the input reads as it did. -/
def extractOrderUptoRow : OpenClaim := { program := "ytnnmbmgnpdcefaa", sum := "03d5bdcdc3b573696297b53714487f066eb1744a574046ef32c8268433d1c731", func := "maskwright/maskkeep4.ExtractOrder", spec := "extractOrder", plainKeys := false, apart := false, narrowed := true }
def ExtractOrderUptoSaid : Prop := extractOrderUptoRow.holds Try.pinned (OpenSpec.upto extractOrderSpec)

/-- 'maskkeep4.RulesTwice', WHERE WHAT IT READS IS OF BULK AT MOST 1048576: true; the input reads as it did. -/
def rulesTwiceUptoRow : OpenClaim := { program := "ytnnmbmgnpdcefaa", sum := "03d5bdcdc3b573696297b53714487f066eb1744a574046ef32c8268433d1c731", func := "maskwright/maskkeep4.RulesTwice", spec := "rulesTwice", unfollowed := true, recurses := true, plainKeys := false, apart := false, narrowed := true }
def RulesTwiceUptoSaid : Prop := rulesTwiceUptoRow.holds Try.pinned (OpenSpec.upto rulesTwiceSpec)

/-- 'maskkeep4.RulesOrder', WHERE WHAT IT READS IS OF BULK AT MOST 1048576: true; the input reads as it did. -/
def rulesOrderUptoRow : OpenClaim := { program := "ytnnmbmgnpdcefaa", sum := "03d5bdcdc3b573696297b53714487f066eb1744a574046ef32c8268433d1c731", func := "maskwright/maskkeep4.RulesOrder", spec := "rulesOrder", unfollowed := true, recurses := true, plainKeys := false, apart := false, narrowed := true }
def RulesOrderUptoSaid : Prop := rulesOrderUptoRow.holds Try.pinned (OpenSpec.upto rulesOrderSpec)

/-- 'maskkeep4.RulesApart', WHERE WHAT IT READS IS OF BULK AT MOST 1048576: true; the input reads as it did. -/
def rulesApartUptoRow : OpenClaim := { program := "ytnnmbmgnpdcefaa", sum := "03d5bdcdc3b573696297b53714487f066eb1744a574046ef32c8268433d1c731", func := "maskwright/maskkeep4.RulesApart", spec := "rulesApart", unfollowed := true, recurses := true, plainKeys := false, apart := false, narrowed := true }
def RulesApartUptoSaid : Prop := rulesApartUptoRow.holds Try.pinned (OpenSpec.upto rulesApartSpec)

end Rows
end Go.Proofs.Ytnnmbmgnpdcefaa
