/-
  DERIVED: THE SHELF's CONTRACTS AT THIS DUMP, IN PLAIN WORDS (tools/lay-plain.mjs out of 'TrydShelf.lean', which tools/lay-shelf.mjs wrote): THE SAME DECLARATIONS UNDER THE SAME NAMES: 'import', 'namespace', 'open', 'def', 'theorem' AND NOTHING ELSE: no command of the shelf's: FOR A HAND-IN. Each laying: the table of numbers ('.._ren') and one theorem, a field a fact of the dump's own or the kernel's comparison; each contract: ONE APPLICATION.
-/
import Derived.Shelf.Strings.Builder1
import Derived.Shelf.Strings.Builder2
import Derived.Shelf.Utf8.RuneCount
import Derived.Shelf.Strconv.Itoa0
import Derived.Shelf.Strconv.Itoa1
import Derived.Shelf.LaysM
import Derived.Shelf.Strconv.Itoa2
import Derived.Shelf.Strconv.Itoa3
import Derived.Shelf.Strings.Search1
import Derived.Shelf.Strings.Search2
import Derived.Shelf.Strings.Search3
import Derived.Shelf.Strings.Count
import Derived.Shelf.Strings.Shaped
import Derived.Shelf.Strings.Split
import Derived.Shelf.Strings.SplitShaped
import Derived.Shelf.Unicode.Decode
import Derived.Shelf.Strings.RuneCount
import Derived.Shelf.Strings.Explode
import Derived.Shelf.Unicode.DecodeSlow
import Derived.Shelf.Unicode.DecodeAny
import Derived.Ground.Names2Prog
import Derived.Shelf.Slices.Clone
import Derived.Shelf.Slices.SearchI
import Derived.Ground.SlgnProg
import Derived.Shelf.SlicesE.Clone
import Derived.Test.YtclhfemcinibmaaDoorProg
namespace Go.Proofs
open Go.Shelf
def Tryd.lays171_ren : Go.Shelf.Ren := ⟨fun | 171 => 66 | 243 => 129 | 246 => 179 | 283 => 208 | 284 => 209 | 285 => 210 | 286 => 211 | 129 => 233 | 317 => 232 | 318 => 234 | 319 => 235 | 320 => 236 | 337 => 244 | 338 => 245 | n => n, fun | 3 => 3 | 9 => 9 | 2 => 2 | 4 => 4 | 171 => 326 | 0 => 0 | 53 => 35 | 37 => 217 | 5 => 5 | 173 => 329 | 212 => 350 | 51 => 351 | 20 => 20 | 213 => 352 | 46 => 277 | 232 => 372 | 233 => 373 | n => n, fun | 17 => 1 | 18 => 6 | 19 => 7 | n => n⟩
theorem Tryd.lays171 : Go.Proofs.Lays.n171 Tryd.prog Tryd.lays171_ren := {
  mixed := by kernel_rfl
  f129 := Tryd.func233.trans (congrArg some (by kernel_rfl))
  f171 := Tryd.func66.trans (congrArg some (by kernel_rfl))
  f243 := Tryd.func129.trans (congrArg some (by kernel_rfl))
  f246 := Tryd.func179.trans (congrArg some (by kernel_rfl))
  f283 := Tryd.func208.trans (congrArg some (by kernel_rfl))
  f284 := Tryd.func209.trans (congrArg some (by kernel_rfl))
  f285 := Tryd.func210.trans (congrArg some (by kernel_rfl))
  f286 := Tryd.func211.trans (congrArg some (by kernel_rfl))
  f317 := Tryd.func232.trans (congrArg some (by kernel_rfl))
  f318 := Tryd.func234.trans (congrArg some (by kernel_rfl))
  f319 := Tryd.func235.trans (congrArg some (by kernel_rfl))
  f320 := Tryd.func236.trans (congrArg some (by kernel_rfl))
  f337 := Tryd.func244.trans (congrArg some (by kernel_rfl))
  f338 := Tryd.func245.trans (congrArg some (by kernel_rfl))
  t0 := Tryd.underlying0
  a0 := Tryd.isAgg0
  z0 := Tryd.sizeOf0
  v0 := Tryd.zeroValue0
  t2 := Tryd.underlying2
  a2 := Tryd.isAgg2
  z2 := Tryd.sizeOf2
  v2 := Tryd.zeroValue2
  t3 := Tryd.underlying3
  a3 := Tryd.isAgg3
  z3 := Tryd.sizeOf3
  v3 := Tryd.zeroValue3
  t4 := Tryd.underlying4
  a4 := Tryd.isAgg4
  z4 := Tryd.sizeOf4
  v4 := Tryd.zeroValue4
  t5 := Tryd.underlying5
  a5 := Tryd.isAgg5
  z5 := Tryd.sizeOf5
  v5 := Tryd.zeroValue5
  t9 := Tryd.underlying9
  a9 := Tryd.isAgg9
  z9 := Tryd.sizeOf9
  v9 := Tryd.zeroValue9
  t20 := Tryd.underlying20
  a20 := Tryd.isAgg20
  z20 := Tryd.sizeOf20
  v20 := Tryd.zeroValue20
  t37 := Tryd.underlying217
  a37 := Tryd.isAgg217
  z37 := Tryd.sizeOf217
  v37 := Tryd.zeroValue217
  t46 := Tryd.underlying277
  a46 := Tryd.isAgg277
  z46 := Tryd.sizeOf277
  v46 := Tryd.zeroValue277
  t51 := Tryd.underlying351
  a51 := Tryd.isAgg351
  z51 := Tryd.sizeOf351
  v51 := Tryd.zeroValue351
  t53 := Tryd.underlying35
  a53 := Tryd.isAgg35
  z53 := Tryd.sizeOf35
  v53 := Tryd.zeroValue35
  t171 := Tryd.underlying326
  a171 := Tryd.isAgg326
  z171 := Tryd.sizeOf326
  v171 := Tryd.zeroValue326
  t173 := Tryd.underlying329
  a173 := Tryd.isAgg329
  z173 := Tryd.sizeOf329
  v173 := Tryd.zeroValue329
  t212 := Tryd.underlying350
  a212 := Tryd.isAgg350
  z212 := Tryd.sizeOf350
  v212 := Tryd.zeroValue350
  t213 := Tryd.underlying352
  a213 := Tryd.isAgg352
  z213 := Tryd.sizeOf352
  t232 := Tryd.underlying372
  a232 := Tryd.isAgg372
  z232 := Tryd.sizeOf372
  v232 := Tryd.zeroValue372
  t233 := Tryd.underlying373
  a233 := Tryd.isAgg373
  z233 := Tryd.sizeOf373
  v233 := Tryd.zeroValue373
  g17 := by kernel_rfl
  g18 := by kernel_rfl
  g19 := by kernel_rfl }
open Go.RowKit Go.Sort Go.Lib in
/-- THE ROAD WITHOUT THE TABLE: 0 <= i < 100: NO PREMISE ON THE WORLD, AND THE WORLD IS AS IT WAS: a row that keeps its argument in that range need list no table ('laid = []'). (LAID: no walk: one application.) -/
theorem Tryd.strconv_Itoa_small (i : Nat) (hi : i < 100) (w : World) :
    Calls Tryd.prog 66 #[.int .i64 i] w fun e w' => e = .returned (.string ⟨(Lib.decDigits i).toArray⟩) ∧ w' = w := Any.strconv_Itoa_small Tryd.lays171 i hi w

end Go.Proofs
namespace Go.Proofs.YtclhfemcinibmaaDoor.X
/-- The decimal numeral of a number that is not negative. -/
def itoa (n : Int) : ByteArray := ⟨(Go.Lib.decDigits n.toNat).toArray⟩
end Go.Proofs.YtclhfemcinibmaaDoor.X
