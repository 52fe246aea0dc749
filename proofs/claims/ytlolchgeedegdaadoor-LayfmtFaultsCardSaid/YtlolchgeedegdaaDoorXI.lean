/-
  DERIVED: THE SHELF's CONTRACTS AT THIS DUMP, IN PLAIN WORDS (tools/lay-plain.mjs out of 'TrydShelf.lean', which tools/lay-shelf.mjs wrote): THE SAME DECLARATIONS UNDER THE SAME NAMES: 'import', 'namespace', 'open', 'def', 'theorem' AND NOTHING ELSE: no command of the shelf's: FOR A HAND-IN. Each laying: the table of numbers ('.._ren') and one theorem, a field a fact of the dump's own or the kernel's comparison; each contract: ONE APPLICATION.
-/
import Derived.Shelf.LaysM
import Derived.Shelf.Strings.SplitShaped
import Derived.Shelf.Strings.OnBuilder
import Derived.Shelf.Strconv.Atoi
import Derived.Shelf.Strings.Builder1
import Derived.Shelf.LaysM
import Derived.Shelf.Strconv.Itoa3
import Derived.Test.YtlolchgeedegdaaDoorProg
import Derived.Test.YtlolchgeedegdaaDoorYS
namespace Go.Proofs
open Go.Shelf
def Tryd.lays170_ren : Go.Shelf.Ren := ⟨fun | 170 => 87 | n => n, fun | 70 => 168 | 3 => 3 | 0 => 0 | 72 => 171 | 37 => 169 | 5 => 5 | n => n, fun | n => n⟩
theorem Tryd.lays170 : Go.Proofs.Lays.n170 Tryd.prog Tryd.lays170_ren := {
  mixed := by kernel_rfl
  f170 := Tryd.func87.trans (congrArg some (by kernel_rfl))
  t0 := Tryd.underlying0
  a0 := Tryd.isAgg0
  z0 := Tryd.sizeOf0
  v0 := Tryd.zeroValue0
  t3 := Tryd.underlying3
  a3 := Tryd.isAgg3
  z3 := Tryd.sizeOf3
  v3 := Tryd.zeroValue3
  t37 := Tryd.underlying169
  a37 := Tryd.isAgg169
  z37 := Tryd.sizeOf169
  v37 := Tryd.zeroValue169
  t70 := Tryd.underlying168
  a70 := Tryd.isAgg168
  z70 := Tryd.sizeOf168
  v70 := Tryd.zeroValue168
  t72 := Tryd.underlying171
  a72 := Tryd.isAgg171
  z72 := Tryd.sizeOf171
  v72 := Tryd.zeroValue171 }
def Tryd.lays169_ren : Go.Shelf.Ren := ⟨fun | 169 => 81 | n => n, fun | 70 => 168 | 9 => 9 | 0 => 0 | 72 => 171 | 37 => 169 | 127 => 239 | 3 => 3 | 5 => 5 | n => n, fun | n => n⟩
theorem Tryd.lays169 : Go.Proofs.Lays.n169 Tryd.prog Tryd.lays169_ren := {
  mixed := by kernel_rfl
  f169 := Tryd.func81.trans (congrArg some (by kernel_rfl))
  t0 := Tryd.underlying0
  a0 := Tryd.isAgg0
  z0 := Tryd.sizeOf0
  v0 := Tryd.zeroValue0
  t3 := Tryd.underlying3
  a3 := Tryd.isAgg3
  z3 := Tryd.sizeOf3
  v3 := Tryd.zeroValue3
  t9 := Tryd.underlying9
  a9 := Tryd.isAgg9
  z9 := Tryd.sizeOf9
  v9 := Tryd.zeroValue9
  t37 := Tryd.underlying169
  a37 := Tryd.isAgg169
  z37 := Tryd.sizeOf169
  v37 := Tryd.zeroValue169
  t70 := Tryd.underlying168
  a70 := Tryd.isAgg168
  z70 := Tryd.sizeOf168
  v70 := Tryd.zeroValue168
  t72 := Tryd.underlying171
  a72 := Tryd.isAgg171
  z72 := Tryd.sizeOf171
  v72 := Tryd.zeroValue171
  t127 := Tryd.underlying239
  a127 := Tryd.isAgg239
  z127 := Tryd.sizeOf239
  v127 := Tryd.zeroValue239 }
theorem Tryd.Builder_Extra_169 : Builder.Extra Tryd.prog Tryd.lays169_ren := {
  sizeBuilder := by kernel_rfl
  liesBuilder := by kernel_rfl
  t5 := Tryd.underlying5
  a5 := Tryd.isAgg5
  z5 := Tryd.sizeOf5
  v5 := Tryd.zeroValue5
  infoByte := by kernel_rfl
  cellsByte := by kernel_rfl
  sizeByte := by kernel_rfl
  neB5 := by decide }
def Tryd.lays156_ren : Go.Shelf.Ren := ⟨fun | 156 => 31 | 165 => 79 | 166 => 80 | 169 => 81 | 240 => 136 | 241 => 137 | 276 => 161 | 277 => 162 | n => n, fun | 31 => 26 | 9 => 9 | 3 => 3 | 4 => 4 | 0 => 0 | 20 => 20 | 72 => 171 | 76 => 175 | 70 => 168 | 37 => 169 | 75 => 174 | 127 => 239 | 164 => 255 | 5 => 5 | 80 => 177 | n => n, fun | n => n⟩
theorem Tryd.lays156 : Go.Proofs.Lays.n156 Tryd.prog Tryd.lays156_ren := {
  mixed := by kernel_rfl
  f156 := Tryd.func31.trans (congrArg some (by kernel_rfl))
  f165 := Tryd.func79.trans (congrArg some (by kernel_rfl))
  f166 := Tryd.func80.trans (congrArg some (by kernel_rfl))
  f169 := Tryd.func81.trans (congrArg some (by kernel_rfl))
  f240 := Tryd.func136.trans (congrArg some (by kernel_rfl))
  f241 := Tryd.func137.trans (congrArg some (by kernel_rfl))
  f276 := Tryd.func161.trans (congrArg some (by kernel_rfl))
  f277 := Tryd.func162.trans (congrArg some (by kernel_rfl))
  t0 := Tryd.underlying0
  a0 := Tryd.isAgg0
  z0 := Tryd.sizeOf0
  v0 := Tryd.zeroValue0
  t3 := Tryd.underlying3
  a3 := Tryd.isAgg3
  z3 := Tryd.sizeOf3
  v3 := Tryd.zeroValue3
  t4 := Tryd.underlying4
  a4 := Tryd.isAgg4
  z4 := Tryd.sizeOf4
  v4 := Tryd.zeroValue4
  t9 := Tryd.underlying9
  a9 := Tryd.isAgg9
  z9 := Tryd.sizeOf9
  v9 := Tryd.zeroValue9
  t20 := Tryd.underlying20
  a20 := Tryd.isAgg20
  z20 := Tryd.sizeOf20
  v20 := Tryd.zeroValue20
  t31 := Tryd.underlying26
  a31 := Tryd.isAgg26
  z31 := Tryd.sizeOf26
  v31 := Tryd.zeroValue26
  t37 := Tryd.underlying169
  a37 := Tryd.isAgg169
  z37 := Tryd.sizeOf169
  v37 := Tryd.zeroValue169
  t70 := Tryd.underlying168
  a70 := Tryd.isAgg168
  z70 := Tryd.sizeOf168
  v70 := Tryd.zeroValue168
  t72 := Tryd.underlying171
  a72 := Tryd.isAgg171
  z72 := Tryd.sizeOf171
  v72 := Tryd.zeroValue171
  t75 := Tryd.underlying174
  a75 := Tryd.isAgg174
  z75 := Tryd.sizeOf174
  v75 := Tryd.zeroValue174
  t76 := Tryd.underlying175
  a76 := Tryd.isAgg175
  z76 := Tryd.sizeOf175
  v76 := Tryd.zeroValue175
  t127 := Tryd.underlying239
  a127 := Tryd.isAgg239
  z127 := Tryd.sizeOf239
  v127 := Tryd.zeroValue239
  t164 := Tryd.underlying255
  a164 := Tryd.isAgg255
  z164 := Tryd.sizeOf255
  v164 := Tryd.zeroValue255 }
theorem Tryd.Builder_Extra_156 : Builder.Extra Tryd.prog Tryd.lays156_ren := {
  sizeBuilder := by kernel_rfl
  liesBuilder := by kernel_rfl
  t5 := Tryd.underlying5
  a5 := Tryd.isAgg5
  z5 := Tryd.sizeOf5
  v5 := Tryd.zeroValue5
  infoByte := by kernel_rfl
  cellsByte := by kernel_rfl
  sizeByte := by kernel_rfl
  neB5 := by decide }
open Go.RowKit in
/-- strings.Join: "Join concatenates the elements of its first argument to create a single string. The separator string sep is placed between elements in the resulting string.": HOWEVER MANY ELEMENTS. Below the heap's end the world is as it was. (LAID: no walk: one application.) -/
theorem Tryd.strings_Join (bk o c : Nat) (xs : List ByteArray) (sep : ByteArray) (w : World) (hcells : ∀ (j : Nat) x, xs[j]? = some x → w.cell? ⟨bk, o + j, none⟩ = some (.string x)) (hbk : bk < w.heap.size) (hN : xs.length ≤ 140737488355328) (hcap : xs.length ≤ c) (hlen : (Lib.join (xs.map (·.data.toList)) sep.data.toList).length ≤ 140737488355328) :
    Calls Tryd.prog 31 #[.slice (some ⟨bk, o, none⟩) xs.length c, .string sep] w fun e w' => e = .returned (.string ⟨(Lib.join (xs.map (·.data.toList)) sep.data.toList).toArray⟩) ∧ Below w.heap.size w w' := Any.strings_Join Tryd.lays156 Tryd.Builder_Extra_156 bk o c xs sep w hcells hbk hN hcap hlen
def Tryd.lays172_ren : Go.Shelf.Ren := ⟨fun | 172 => 141 | 244 => 164 | 245 => 165 | 247 => 180 | 279 => 181 | 280 => 182 | 281 => 183 | 282 => 184 | 287 => 196 | 316 => 197 | 171 => 93 | 205 => 198 | 321 => 204 | 322 => 205 | 243 => 143 | 246 => 166 | 283 => 185 | 284 => 186 | 285 => 187 | 286 => 188 | 129 => 200 | 317 => 199 | 318 => 201 | 319 => 202 | 320 => 203 | 337 => 206 | 338 => 207 | n => n, fun | 9 => 9 | 3 => 3 | 75 => 174 | 76 => 175 | 4 => 4 | 5 => 5 | 167 => 265 | 37 => 169 | 0 => 0 | 85 => 266 | 2 => 2 | 168 => 268 | 53 => 35 | 175 => 287 | 46 => 225 | 210 => 290 | 127 => 239 | 145 => 299 | 143 => 297 | 21 => 21 | 171 => 271 | 173 => 274 | 212 => 293 | 51 => 284 | 20 => 20 | 213 => 294 | 232 => 301 | 233 => 302 | 80 => 177 | n => n, fun | 15 => 3 | 16 => 4 | 17 => 5 | 18 => 6 | 19 => 7 | n => n⟩
theorem Tryd.lays172 : Go.Proofs.Lays.n172 Tryd.prog Tryd.lays172_ren := {
  mixed := by kernel_rfl
  f129 := Tryd.func200.trans (congrArg some (by kernel_rfl))
  f171 := Tryd.func93.trans (congrArg some (by kernel_rfl))
  f172 := Tryd.func141.trans (congrArg some (by kernel_rfl))
  f205 := Tryd.func198.trans (congrArg some (by kernel_rfl))
  f243 := Tryd.func143.trans (congrArg some (by kernel_rfl))
  f244 := Tryd.func164.trans (congrArg some (by kernel_rfl))
  f245 := Tryd.func165.trans (congrArg some (by kernel_rfl))
  f246 := Tryd.func166.trans (congrArg some (by kernel_rfl))
  f247 := Tryd.func180.trans (congrArg some (by kernel_rfl))
  f279 := Tryd.func181.trans (congrArg some (by kernel_rfl))
  f280 := Tryd.func182.trans (congrArg some (by kernel_rfl))
  f281 := Tryd.func183.trans (congrArg some (by kernel_rfl))
  f282 := Tryd.func184.trans (congrArg some (by kernel_rfl))
  f283 := Tryd.func185.trans (congrArg some (by kernel_rfl))
  f284 := Tryd.func186.trans (congrArg some (by kernel_rfl))
  f285 := Tryd.func187.trans (congrArg some (by kernel_rfl))
  f286 := Tryd.func188.trans (congrArg some (by kernel_rfl))
  f287 := Tryd.func196.trans (congrArg some (by kernel_rfl))
  f316 := Tryd.func197.trans (congrArg some (by kernel_rfl))
  f317 := Tryd.func199.trans (congrArg some (by kernel_rfl))
  f318 := Tryd.func201.trans (congrArg some (by kernel_rfl))
  f319 := Tryd.func202.trans (congrArg some (by kernel_rfl))
  f320 := Tryd.func203.trans (congrArg some (by kernel_rfl))
  f321 := Tryd.func204.trans (congrArg some (by kernel_rfl))
  f322 := Tryd.func205.trans (congrArg some (by kernel_rfl))
  f337 := Tryd.func206.trans (congrArg some (by kernel_rfl))
  f338 := Tryd.func207.trans (congrArg some (by kernel_rfl))
  t0 := Tryd.underlying0
  a0 := Tryd.isAgg0
  z0 := Tryd.sizeOf0
  v0 := Tryd.zeroValue0
  t2 := Tryd.underlying2
  a2 := Tryd.isAgg2
  z2 := Tryd.sizeOf2
  v2 := Tryd.zeroValue2
  t3 := Tryd.underlying3
  a3 := Tryd.isAgg3
  z3 := Tryd.sizeOf3
  v3 := Tryd.zeroValue3
  t4 := Tryd.underlying4
  a4 := Tryd.isAgg4
  z4 := Tryd.sizeOf4
  v4 := Tryd.zeroValue4
  t5 := Tryd.underlying5
  a5 := Tryd.isAgg5
  z5 := Tryd.sizeOf5
  v5 := Tryd.zeroValue5
  t9 := Tryd.underlying9
  a9 := Tryd.isAgg9
  z9 := Tryd.sizeOf9
  v9 := Tryd.zeroValue9
  t20 := Tryd.underlying20
  a20 := Tryd.isAgg20
  z20 := Tryd.sizeOf20
  v20 := Tryd.zeroValue20
  t21 := Tryd.underlying21
  a21 := Tryd.isAgg21
  z21 := Tryd.sizeOf21
  v21 := Tryd.zeroValue21
  t37 := Tryd.underlying169
  a37 := Tryd.isAgg169
  z37 := Tryd.sizeOf169
  v37 := Tryd.zeroValue169
  t46 := Tryd.underlying225
  a46 := Tryd.isAgg225
  z46 := Tryd.sizeOf225
  v46 := Tryd.zeroValue225
  t51 := Tryd.underlying284
  a51 := Tryd.isAgg284
  z51 := Tryd.sizeOf284
  v51 := Tryd.zeroValue284
  t53 := Tryd.underlying35
  a53 := Tryd.isAgg35
  z53 := Tryd.sizeOf35
  v53 := Tryd.zeroValue35
  t75 := Tryd.underlying174
  a75 := Tryd.isAgg174
  z75 := Tryd.sizeOf174
  v75 := Tryd.zeroValue174
  t76 := Tryd.underlying175
  a76 := Tryd.isAgg175
  z76 := Tryd.sizeOf175
  v76 := Tryd.zeroValue175
  t85 := Tryd.underlying266
  a85 := Tryd.isAgg266
  z85 := Tryd.sizeOf266
  v85 := Tryd.zeroValue266
  t127 := Tryd.underlying239
  a127 := Tryd.isAgg239
  z127 := Tryd.sizeOf239
  v127 := Tryd.zeroValue239
  t143 := Tryd.underlying297
  a143 := Tryd.isAgg297
  z143 := Tryd.sizeOf297
  v143 := Tryd.zeroValue297
  t145 := Tryd.underlying299
  a145 := Tryd.isAgg299
  z145 := Tryd.sizeOf299
  v145 := Tryd.zeroValue299
  t167 := Tryd.underlying265
  a167 := Tryd.isAgg265
  z167 := Tryd.sizeOf265
  v167 := Tryd.zeroValue265
  t168 := Tryd.underlying268
  a168 := Tryd.isAgg268
  z168 := Tryd.sizeOf268
  v168 := Tryd.zeroValue268
  t171 := Tryd.underlying271
  a171 := Tryd.isAgg271
  z171 := Tryd.sizeOf271
  v171 := Tryd.zeroValue271
  t173 := Tryd.underlying274
  a173 := Tryd.isAgg274
  z173 := Tryd.sizeOf274
  v173 := Tryd.zeroValue274
  t175 := Tryd.underlying287
  a175 := Tryd.isAgg287
  z175 := Tryd.sizeOf287
  v175 := Tryd.zeroValue287
  t210 := Tryd.underlying290
  a210 := Tryd.isAgg290
  z210 := Tryd.sizeOf290
  v210 := Tryd.zeroValue290
  t212 := Tryd.underlying293
  a212 := Tryd.isAgg293
  z212 := Tryd.sizeOf293
  v212 := Tryd.zeroValue293
  t213 := Tryd.underlying294
  a213 := Tryd.isAgg294
  z213 := Tryd.sizeOf294
  t232 := Tryd.underlying301
  a232 := Tryd.isAgg301
  z232 := Tryd.sizeOf301
  v232 := Tryd.zeroValue301
  t233 := Tryd.underlying302
  a233 := Tryd.isAgg302
  z233 := Tryd.sizeOf302
  v233 := Tryd.zeroValue302
  g15 := by kernel_rfl
  g16 := by kernel_rfl
  g17 := by kernel_rfl
  g18 := by kernel_rfl
  g19 := by kernel_rfl }
open Go.RowKit in
/-- strconv.Atoi: "Atoi is equivalent to ParseInt(s, 10, 0), converted to type int.": AT A DECIMAL NUMERAL OF AT MOST 18 BYTES: its value, and a nil error. The world behind the call: the one new row that the library's '[]byte(s)' lays. (LAID: no walk: one application.) -/
theorem Tryd.strconv_Atoi (s : ByteArray) (n : Int) (hl : s.size ≤ 18) (h : Lib.atoi s.data.toList = some n) (w : World) :
    Calls Tryd.prog 141 #[.string s] w fun e w' => e = .returned (.tuple #[.int .i64 n, .nilIface]) ∧ ∃ t, w' = Lib.bytesWorld w 5 t := Any.strconv_Atoi Tryd.lays172 s n hl h w
def Tryd.laysM171_ren : Go.Shelf.Ren := ⟨fun | 171 => 93 | 243 => 143 | 246 => 166 | 283 => 185 | 284 => 186 | 285 => 187 | 286 => 188 | 129 => 200 | 317 => 199 | 318 => 201 | 319 => 202 | 320 => 203 | 337 => 206 | 338 => 207 | n => n, fun | 3 => 3 | 9 => 9 | 2 => 2 | 4 => 4 | 171 => 271 | 0 => 0 | 53 => 35 | 37 => 169 | 5 => 5 | 173 => 274 | 212 => 293 | 51 => 284 | 20 => 20 | 213 => 294 | 46 => 225 | 232 => 301 | 233 => 302 | n => n, fun | 17 => 5 | 18 => 6 | 19 => 7 | n => n⟩
theorem Tryd.laysM171 : Go.Proofs.LaysM.n171 Tryd.prog Tryd.laysM171_ren := {
  mixed := by kernel_rfl
  f129 := Tryd.func200.trans (congrArg some (by kernel_rfl))
  f171 := Tryd.func93.trans (congrArg some (by kernel_rfl))
  f243 := Tryd.func143.trans (congrArg some (by kernel_rfl))
  f246 := Tryd.func166.trans (congrArg some (by kernel_rfl))
  f283 := Tryd.func185.trans (congrArg some (by kernel_rfl))
  f284 := Tryd.func186.trans (congrArg some (by kernel_rfl))
  f285 := Tryd.func187.trans (congrArg some (by kernel_rfl))
  f286 := Tryd.func188.trans (congrArg some (by kernel_rfl))
  f317 := Tryd.func199.trans (congrArg some (by kernel_rfl))
  f318 := Tryd.func201.trans (congrArg some (by kernel_rfl))
  f319 := Tryd.func202.trans (congrArg some (by kernel_rfl))
  f320 := Tryd.func203.trans (congrArg some (by kernel_rfl))
  f337 := Tryd.func206.trans (congrArg some (by kernel_rfl))
  f338 := Tryd.func207.trans (congrArg some (by kernel_rfl))
  t0 := Tryd.underlying0
  a0 := Tryd.isAgg0
  z0 := Tryd.sizeOf0
  v0 := Tryd.zeroValue0
  t2 := Tryd.underlying2
  a2 := Tryd.isAgg2
  z2 := Tryd.sizeOf2
  v2 := Tryd.zeroValue2
  t3 := Tryd.underlying3
  a3 := Tryd.isAgg3
  z3 := Tryd.sizeOf3
  v3 := Tryd.zeroValue3
  t4 := Tryd.underlying4
  a4 := Tryd.isAgg4
  z4 := Tryd.sizeOf4
  v4 := Tryd.zeroValue4
  t5 := Tryd.underlying5
  a5 := Tryd.isAgg5
  z5 := Tryd.sizeOf5
  v5 := Tryd.zeroValue5
  t9 := Tryd.underlying9
  a9 := Tryd.isAgg9
  z9 := Tryd.sizeOf9
  v9 := Tryd.zeroValue9
  t20 := Tryd.underlying20
  a20 := Tryd.isAgg20
  z20 := Tryd.sizeOf20
  v20 := Tryd.zeroValue20
  t37 := Tryd.underlying169
  a37 := Tryd.isAgg169
  z37 := Tryd.sizeOf169
  v37 := Tryd.zeroValue169
  t46 := Tryd.underlying225
  a46 := Tryd.isAgg225
  z46 := Tryd.sizeOf225
  v46 := Tryd.zeroValue225
  t51 := Tryd.underlying284
  a51 := Tryd.isAgg284
  z51 := Tryd.sizeOf284
  v51 := Tryd.zeroValue284
  t53 := Tryd.underlying35
  a53 := Tryd.isAgg35
  z53 := Tryd.sizeOf35
  v53 := Tryd.zeroValue35
  t171 := Tryd.underlying271
  a171 := Tryd.isAgg271
  z171 := Tryd.sizeOf271
  v171 := Tryd.zeroValue271
  t173 := Tryd.underlying274
  a173 := Tryd.isAgg274
  z173 := Tryd.sizeOf274
  v173 := Tryd.zeroValue274
  t212 := Tryd.underlying293
  a212 := Tryd.isAgg293
  z212 := Tryd.sizeOf293
  v212 := Tryd.zeroValue293
  t213 := Tryd.underlying294
  a213 := Tryd.isAgg294
  z213 := Tryd.sizeOf294
  t232 := Tryd.underlying301
  a232 := Tryd.isAgg301
  z232 := Tryd.sizeOf301
  v232 := Tryd.zeroValue301
  t233 := Tryd.underlying302
  a233 := Tryd.isAgg302
  z233 := Tryd.sizeOf302
  v233 := Tryd.zeroValue302
  g17 := by kernel_rfl
  g18 := by kernel_rfl
  g19 := by kernel_rfl
  i0 := by kernel_rfl
  i2 := by kernel_rfl
  i3 := by kernel_rfl
  i4 := by kernel_rfl
  i5 := by kernel_rfl
  i9 := by kernel_rfl
  i20 := by kernel_rfl
  i37 := by kernel_rfl
  i46 := by kernel_rfl
  i51 := by kernel_rfl
  i53 := by kernel_rfl
  i171 := by kernel_rfl
  i173 := by kernel_rfl
  i212 := by kernel_rfl
  i232 := by kernel_rfl
  i233 := by kernel_rfl
  m17 := by kernel_rfl
  m18 := by kernel_rfl
  m19 := by kernel_rfl }
open Go.RowKit Go.Sort Go.Lib in
/-- strconv.Itoa: "Itoa is equivalent to FormatInt(int64(i), 10).": i's DECIMAL NUMERAL ('Lib.itoa': a '-' where i is negative, then the digits), FOR EVERY int. The world behind the call: the world before it, new blocks behind the heap (the library's 'var a [24]byte'), draws. (LAID: no walk: one application.) -/
theorem Tryd.strconv_Itoa (n : Int) (h0 : -9223372036854775808 ≤ n) (h1 : n ≤ 9223372036854775807) (w : World) (htab : Lib.TabIs Tryd.prog w "internal/strconv.uint64pow10" .u64 Lib.pow10Tab) :
    Calls Tryd.prog 93 #[.int .i64 n] w fun e w' => e = .returned (.string ⟨(Lib.itoa n).toArray⟩) ∧ ∃ k os, w' = grow (w.drewN k) os := Any.strconv_Itoa Tryd.laysM171 n h0 h1 w htab
def Tryd.lays146_ren : Go.Shelf.Ren := ⟨fun | 146 => 30 | 221 => 78 | 268 => 133 | 138 => 134 | 143 => 135 | 195 => 157 | 197 => 158 | 218 => 159 | 219 => 160 | 260 => 175 | 217 => 176 | 225 => 177 | 224 => 178 | 267 => 179 | 266 => 194 | 314 => 195 | n => n, fun | 9 => 9 | 31 => 26 | 3 => 3 | 4 => 4 | 0 => 0 | 105 => 252 | 21 => 21 | 5 => 5 | 46 => 225 | 119 => 280 | 139 => 283 | 138 => 282 | 146 => 285 | 51 => 284 | n => n, fun | 1 => 0 | 3 => 1 | 4 => 2 | n => n⟩
theorem Tryd.lays146 : Go.Proofs.Lays.n146 Tryd.prog Tryd.lays146_ren := {
  mixed := by kernel_rfl
  f138 := Tryd.func134.trans (congrArg some (by kernel_rfl))
  f143 := Tryd.func135.trans (congrArg some (by kernel_rfl))
  f146 := Tryd.func30.trans (congrArg some (by kernel_rfl))
  f195 := Tryd.func157.trans (congrArg some (by kernel_rfl))
  f197 := Tryd.func158.trans (congrArg some (by kernel_rfl))
  f217 := Tryd.func176.trans (congrArg some (by kernel_rfl))
  f218 := Tryd.func159.trans (congrArg some (by kernel_rfl))
  f219 := Tryd.func160.trans (congrArg some (by kernel_rfl))
  f221 := Tryd.func78.trans (congrArg some (by kernel_rfl))
  f224 := Tryd.func178.trans (congrArg some (by kernel_rfl))
  f225 := Tryd.func177.trans (congrArg some (by kernel_rfl))
  f260 := Tryd.func175.trans (congrArg some (by kernel_rfl))
  f266 := Tryd.func194.trans (congrArg some (by kernel_rfl))
  f267 := Tryd.func179.trans (congrArg some (by kernel_rfl))
  f268 := Tryd.func133.trans (congrArg some (by kernel_rfl))
  f314 := Tryd.func195.trans (congrArg some (by kernel_rfl))
  t0 := Tryd.underlying0
  a0 := Tryd.isAgg0
  z0 := Tryd.sizeOf0
  v0 := Tryd.zeroValue0
  t3 := Tryd.underlying3
  a3 := Tryd.isAgg3
  z3 := Tryd.sizeOf3
  v3 := Tryd.zeroValue3
  t4 := Tryd.underlying4
  a4 := Tryd.isAgg4
  z4 := Tryd.sizeOf4
  v4 := Tryd.zeroValue4
  t5 := Tryd.underlying5
  a5 := Tryd.isAgg5
  z5 := Tryd.sizeOf5
  v5 := Tryd.zeroValue5
  t9 := Tryd.underlying9
  a9 := Tryd.isAgg9
  z9 := Tryd.sizeOf9
  v9 := Tryd.zeroValue9
  t21 := Tryd.underlying21
  a21 := Tryd.isAgg21
  z21 := Tryd.sizeOf21
  v21 := Tryd.zeroValue21
  t31 := Tryd.underlying26
  a31 := Tryd.isAgg26
  z31 := Tryd.sizeOf26
  v31 := Tryd.zeroValue26
  t46 := Tryd.underlying225
  a46 := Tryd.isAgg225
  z46 := Tryd.sizeOf225
  v46 := Tryd.zeroValue225
  t51 := Tryd.underlying284
  a51 := Tryd.isAgg284
  z51 := Tryd.sizeOf284
  v51 := Tryd.zeroValue284
  t105 := Tryd.underlying252
  a105 := Tryd.isAgg252
  z105 := Tryd.sizeOf252
  v105 := Tryd.zeroValue252
  t119 := Tryd.underlying280
  a119 := Tryd.isAgg280
  z119 := Tryd.sizeOf280
  t138 := Tryd.underlying282
  a138 := Tryd.isAgg282
  z138 := Tryd.sizeOf282
  v138 := Tryd.zeroValue282
  t139 := Tryd.underlying283
  a139 := Tryd.isAgg283
  z139 := Tryd.sizeOf283
  v139 := Tryd.zeroValue283
  t146 := Tryd.underlying285
  a146 := Tryd.isAgg285
  z146 := Tryd.sizeOf285
  v146 := Tryd.zeroValue285
  g1 := by kernel_rfl
  g3 := by kernel_rfl
  g4 := by kernel_rfl }
open Go.RowKit Go.Lib in
/-- strings.Split. (LAID: no walk: one application.) -/
theorem Tryd.strings_Split (s sep : ByteArray) (m : Int) (w : World) (hs : s.size < 4294967281) (hm : w.cell? ⟨0, 0, none⟩ = some (.int .i64 m)) (h1 : 1 ≤ sep.size) :
    Calls Tryd.prog 30 #[.string s, .string sep] w fun e w' =>
      e = .returned (.slice (some ⟨w.heap.size, 0, none⟩) (Lib.countB s sep + 1) (Lib.countB s sep + 1)) ∧ w' = w.alloc (.cells ((Lib.splitB sep 0 (Lib.countB s sep) s).map Value.string).toArray 9) := Any.strings_Split Tryd.lays146 (by kernel_rfl) s sep m w hs hm h1
def Tryd.laysM146_ren : Go.Shelf.Ren := ⟨fun | 146 => 30 | 221 => 78 | 268 => 133 | 138 => 134 | 143 => 135 | 195 => 157 | 197 => 158 | 218 => 159 | 219 => 160 | 260 => 175 | 217 => 176 | 225 => 177 | 224 => 178 | 267 => 179 | 266 => 194 | 314 => 195 | n => n, fun | 9 => 9 | 31 => 26 | 3 => 3 | 4 => 4 | 0 => 0 | 105 => 252 | 21 => 21 | 5 => 5 | 46 => 225 | 119 => 280 | 139 => 283 | 138 => 282 | 146 => 285 | 51 => 284 | n => n, fun | 1 => 0 | 3 => 1 | 4 => 2 | n => n⟩
theorem Tryd.laysM146 : Go.Proofs.LaysM.n146 Tryd.prog Tryd.laysM146_ren := {
  mixed := by kernel_rfl
  f138 := Tryd.func134.trans (congrArg some (by kernel_rfl))
  f143 := Tryd.func135.trans (congrArg some (by kernel_rfl))
  f146 := Tryd.func30.trans (congrArg some (by kernel_rfl))
  f195 := Tryd.func157.trans (congrArg some (by kernel_rfl))
  f197 := Tryd.func158.trans (congrArg some (by kernel_rfl))
  f217 := Tryd.func176.trans (congrArg some (by kernel_rfl))
  f218 := Tryd.func159.trans (congrArg some (by kernel_rfl))
  f219 := Tryd.func160.trans (congrArg some (by kernel_rfl))
  f221 := Tryd.func78.trans (congrArg some (by kernel_rfl))
  f224 := Tryd.func178.trans (congrArg some (by kernel_rfl))
  f225 := Tryd.func177.trans (congrArg some (by kernel_rfl))
  f260 := Tryd.func175.trans (congrArg some (by kernel_rfl))
  f266 := Tryd.func194.trans (congrArg some (by kernel_rfl))
  f267 := Tryd.func179.trans (congrArg some (by kernel_rfl))
  f268 := Tryd.func133.trans (congrArg some (by kernel_rfl))
  f314 := Tryd.func195.trans (congrArg some (by kernel_rfl))
  t0 := Tryd.underlying0
  a0 := Tryd.isAgg0
  z0 := Tryd.sizeOf0
  v0 := Tryd.zeroValue0
  t3 := Tryd.underlying3
  a3 := Tryd.isAgg3
  z3 := Tryd.sizeOf3
  v3 := Tryd.zeroValue3
  t4 := Tryd.underlying4
  a4 := Tryd.isAgg4
  z4 := Tryd.sizeOf4
  v4 := Tryd.zeroValue4
  t5 := Tryd.underlying5
  a5 := Tryd.isAgg5
  z5 := Tryd.sizeOf5
  v5 := Tryd.zeroValue5
  t9 := Tryd.underlying9
  a9 := Tryd.isAgg9
  z9 := Tryd.sizeOf9
  v9 := Tryd.zeroValue9
  t21 := Tryd.underlying21
  a21 := Tryd.isAgg21
  z21 := Tryd.sizeOf21
  v21 := Tryd.zeroValue21
  t31 := Tryd.underlying26
  a31 := Tryd.isAgg26
  z31 := Tryd.sizeOf26
  v31 := Tryd.zeroValue26
  t46 := Tryd.underlying225
  a46 := Tryd.isAgg225
  z46 := Tryd.sizeOf225
  v46 := Tryd.zeroValue225
  t51 := Tryd.underlying284
  a51 := Tryd.isAgg284
  z51 := Tryd.sizeOf284
  v51 := Tryd.zeroValue284
  t105 := Tryd.underlying252
  a105 := Tryd.isAgg252
  z105 := Tryd.sizeOf252
  v105 := Tryd.zeroValue252
  t119 := Tryd.underlying280
  a119 := Tryd.isAgg280
  z119 := Tryd.sizeOf280
  t138 := Tryd.underlying282
  a138 := Tryd.isAgg282
  z138 := Tryd.sizeOf282
  v138 := Tryd.zeroValue282
  t139 := Tryd.underlying283
  a139 := Tryd.isAgg283
  z139 := Tryd.sizeOf283
  v139 := Tryd.zeroValue283
  t146 := Tryd.underlying285
  a146 := Tryd.isAgg285
  z146 := Tryd.sizeOf285
  v146 := Tryd.zeroValue285
  g1 := by kernel_rfl
  g3 := by kernel_rfl
  g4 := by kernel_rfl
  i0 := by kernel_rfl
  i3 := by kernel_rfl
  i4 := by kernel_rfl
  i5 := by kernel_rfl
  i9 := by kernel_rfl
  i21 := by kernel_rfl
  i31 := by kernel_rfl
  i46 := by kernel_rfl
  i51 := by kernel_rfl
  i105 := by kernel_rfl
  i138 := by kernel_rfl
  i139 := by kernel_rfl
  i146 := by kernel_rfl
  m1 := by kernel_rfl
  s1_3 := fun w h => Go.Proofs.cell_of_shapedOpen_int (zero := #[.int .i64 0]) (t := 3) h (of_decide_eq_true (by kernel_rfl)) (by kernel_rfl) rfl (by kernel_rfl) (by kernel_rfl) Tryd.underlying3
  m3 := by kernel_rfl
  m4 := by kernel_rfl }
end Go.Proofs
namespace Go.Proofs.YtlolchgeedegdaaDoor.X
open Go Go.RowKit Go.Shelf
set_option linter.unusedVariables false
/-- The decimal numeral of a number that is not negative. -/
def itoa (n : Int) : ByteArray := ⟨(Go.Lib.decDigits n.toNat).toArray⟩
theorem tab_at {w0 w : World} {l : List Assn} {ρ : Heap} (hS : St w0 w (ro ρ :: l)) : Lib.TabIs Tryd.prog w "internal/strconv.uint64pow10" .u64 Lib.pow10Tab := by
  obtain ⟨t, fz, h⟩ := hS.table (List.mem_singleton.2 rfl)
  have hg : Tryd.prog.globalNamed "internal/strconv.uint64pow10" = some 5 := by kernel_rfl
  simp only [Lib.TabIs, World.var?, hg, Option.bind_some, h]
  rfl
theorem base_in {W : World} (h : Lib.TabIs Tryd.prog W "internal/strconv.uint64pow10" .u64 Lib.pow10Tab) : BaseT (hp W) := by
  intro x hx
  obtain rfl := List.mem_singleton.1 hx
  have hg : Tryd.prog.globalNamed "internal/strconv.uint64pow10" = some 5 := by kernel_rfl
  simp only [Lib.TabIs, World.var?, hg, Option.bind_some] at h
  split at h
  · rename_i cs t fz he
    refine ⟨t, fz, ?_⟩
    show W.heap[5]? = _
    rw [he]
    cases h
    rfl
  · cases h
theorem vars_tail {x : String × DataW Unit} {rest : List (String × DataW Unit)} {W : World} {ps : List MemPlace} (h : DataW.LaidVars Tryd.prog W (x :: rest) ps) : ∃ q, DataW.LaidVars Tryd.prog W rest q := by
  obtain ⟨g', t', cs, fuel, p, q, _, _, _, _, hr, _⟩ := h
  exact ⟨q, hr⟩
theorem vars_head {rest : List (String × DataW Unit)} {W : World} {ps : List MemPlace} (h : DataW.LaidVars Tryd.prog W (("internal/strconv.uint64pow10", Lib.tabData .u64 Lib.pow10Tab) :: rest) ps) : BaseT (hp W) := by
  obtain ⟨g', t', cs, fuel, p, q, hg', ht', hvar, hd, _, _⟩ := h
  refine base_in ?_
  obtain rfl := Option.some.inj ((show Tryd.prog.globalNamed "internal/strconv.uint64pow10" = some 5 by kernel_rfl).symm.trans hg')
  obtain rfl := Option.some.inj ((show (Tryd.prog.globals[5]?).map (·.type) = some 293 by kernel_rfl).symm.trans ht')
  unfold Lib.TabIs
  rw [hvar, ← Lib.cells_of_tab (n := 20) (e := 35) Tryd.underlying293 Tryd.underlying35 (by kernel_rfl) (by kernel_rfl) hd]
theorem itoa_at {n : Int} (h0 : 0 ≤ n) (h1 : n ≤ 9223372036854775807) {w0 w : World} {l : List Assn} {ρ : Heap} (hS : St w0 w (ro ρ :: l)) :
    Calls Tryd.prog 93 #[.int .i64 n] w fun e w' => e = .returned (.string (itoa n)) ∧ St w0 w' (ro ρ :: l) := by
  refine (Tryd.strconv_Itoa n (by omega) h1 w (tab_at hS)).mono ?_
  rintro e w' ⟨rfl, k, os, rfl⟩
  refine ⟨by simp only [Lib.itoa, itoa]; rw [if_neg (by omega)], ?_⟩
  have hsz : (w.drewN k).heap = w.heap := rfl
  exact hS.grows rfl rfl rfl (by simp [Go.Sort.grow]) (fun b hb => by simp only [Go.Sort.grow, hsz]; exact Array.getElem?_append_left hb)
theorem bln {w0 w : World} {l : List Assn} {b : Nat} {s : ByteArray} (hS : St w0 w (bld 171 5 b s :: l)) :
    Calls Tryd.prog 87 #[.pointer (some ⟨b, 0, none⟩)] w fun e w' => e = .returned (.int .i64 s.size) ∧ St w0 w' (bld 171 5 b s :: l) := blen Tryd.lays170 hS
set_option maxHeartbeats 1000000 in
set_option maxRecDepth 100000 in
theorem cc_used (b : Nat) (w : World) (h0 : w.cell? ⟨b, 0, none⟩ = some (.pointer (some ⟨b, 0, none⟩))) : Calls Tryd.prog 136 #[.pointer (some ⟨b, 0, none⟩)] w fun e w' => e = .returned (.tuple #[]) ∧ w' = w := by
  obtain ⟨j, hj, _⟩ := Option.map_eq_some_iff.1 (show (Tryd.prog.info? 171).map (·.size) = some 2 by kernel_rfl)
  go_enter Tryd.func136, Tryd.ntmps136
  go_wp2
  rw [Lib.run_neq_ptr_same w _ Tryd.underlying168 hj]
  go_wp2
  go_end0
  exact ⟨rfl, rfl⟩
set_option maxHeartbeats 1000000 in
set_option maxRecDepth 100000 in
theorem cc_fresh (b : Nat) (w : World) (h0 : w.cell? ⟨b, 0, none⟩ = some (.pointer none)) (hsh : w.shape? b = some (171, 2)) (hfz : w.frozen? ⟨b, 0, none⟩ = false) :
    Calls Tryd.prog 136 #[.pointer (some ⟨b, 0, none⟩)] w fun e w' => e = .returned (.tuple #[]) ∧ w' = w.setCell ⟨b, 0, none⟩ (.pointer (some ⟨b, 0, none⟩)) := by
  obtain ⟨j, hj, hjs⟩ := Option.map_eq_some_iff.1 (show (Tryd.prog.info? 171).map (·.size) = some 2 by kernel_rfl)
  go_enter Tryd.func136, Tryd.ntmps136
  go_wp2
  rw [Lib.run_to_unsafe w ⟨b, 0, none⟩ Tryd.underlying168 Tryd.underlying255 hj (by rw [hjs]; decide) hsh (Nat.zero_lt_succ 1)]
  simp only [Result.andThen]
  rw [Oper.upon_value]
  go_wp2
  rw [run_callFunc_extern Tryd.func161 (by kernel_rfl) (by kernel_rfl) (by kernel_rfl) (e := Extern.AbiNoEscape.same) (by kernel_rfl)]
  rw [Lib.run_noEscape]
  simp only [Result.andThen]
  rw [Oper.upon_value]
  go_wp2
  rw [Lib.run_from_unsafe w ⟨b, 0, none⟩ Tryd.underlying255 Tryd.underlying168 hj hsh (by kernel_rfl)]
  simp only [Result.andThen]
  rw [Oper.upon_value]
  go_wp2
  go_end0
  exact ⟨rfl, rfl⟩
theorem cc_any {w0 w : World} {l : List Assn} {b : Nat} {p v : Value} (hp : p = .pointer none ∨ p = .pointer (some ⟨b, 0, none⟩)) (hS : St w0 w (cells b 171 [p, v] :: l)) :
    Calls Tryd.prog 136 #[.pointer (some ⟨b, 0, none⟩)] w fun e w' => e = .returned (.tuple #[]) ∧ St w0 w' (cells b 171 [.pointer (some ⟨b, 0, none⟩), v] :: l) := by
  rcases hp with rfl | rfl
  · refine (cc_fresh b w (hS.cell rfl) ?_ (hS.unfrozen 0)).mono ?_
    · have := hS.block; simp [World.shape?, this]
    · rintro e w' ⟨rfl, rfl⟩; exact ⟨rfl, hS.set 0 _⟩
  · refine (cc_used b w (hS.cell rfl)).mono ?_
    rintro e w' ⟨rfl, rfl⟩; exact ⟨rfl, hS⟩
set_option maxHeartbeats 2000000 in
set_option maxRecDepth 100000 in
/-- WriteString: what it holds grows by the string. -/
theorem bws {w0 w : World} {l : List Assn} {b : Nat} {s t : ByteArray} (hS : St w0 w (bld 171 5 b s :: l)) (hk : s.size + t.size ≤ 140737488355328) :
    Calls Tryd.prog 80 #[.pointer (some ⟨b, 0, none⟩), .string t] w fun e w' => e = .returned (.tuple #[.int .i64 t.size, .nilIface]) ∧ St w0 w' (bld 171 5 b (s ++ t) :: l) := by
  obtain ⟨p, A, c, hp, hS⟩ := bld_out hS
  obtain ⟨i0, hi, hz0, hz1, hz2⟩ := info_parts (show (Tryd.prog.info? 5).map (fun i => (i.zero, i.size, i.bytes)) = some (some (.int .u8 0), 1, 1) by kernel_rfl)
  go_enter Tryd.func80, Tryd.ntmps80
  go_wp2_with (go_at_call 136; refine (cc_any hp hS).mono ?_)
  rintro e w1 ⟨rfl, h1⟩
  have c1 : w1.cell? ⟨b, 1, none⟩ = some (.slice A s.size c) := h1.cell rfl
  go_wp2_with (at_builtin; refine wpl_ap_str rfl _ _ 169 9 rfl i0 Tryd.underlying169 Tryd.underlying9 hi hz0 hz1 hz2 rfl rfl (h1.perm (.swap _ _ _)) (by omega) ?_)
  intro A' c' w2 h2
  have h3 := h2.perm (.swap _ _ _)
  have d1 : w2.cell? ⟨b, 1, none⟩ = some (.slice A s.size c) := h3.cell rfl
  have f1 : w2.frozen? ⟨b, 1, none⟩ = false := h3.unfrozen 1
  go_wp2
  go_ret2
  refine ⟨rfl, ?_⟩
  have h4 := h3.set 1 (.slice A' (s.size + t.size) c')
  refine bld_in (s := s ++ t) _ A' c' (.inr rfl) ?_
  rw [byteCells_append, ByteArray.size_append]
  exact h4
theorem bst {w0 w : World} {l : List Assn} {b : Nat} {s : ByteArray} (hS : St w0 w (bld 171 5 b s :: l)) (h0 : 0 < s.size) :
    Calls Tryd.prog 81 #[.pointer (some ⟨b, 0, none⟩)] w fun e w' => e = .returned (.string s) ∧ St w0 w' l := bstr Tryd.lays169 Tryd.Builder_Extra_169 hS h0
theorem repl_strs {ρ : Heap} : ∀ xs : List ByteArray, RepL RpS ρ xs (xs.map Value.string)
  | [] => rfl
  | x :: xs => ⟨[.string x], xs.map Value.string, rfl, rfl, repl_strs xs⟩
/-- strings.Split, by the kit's words. -/
def splitS (s sep : ByteArray) : List ByteArray := Lib.splitB sep 0 (Lib.countB s sep) s
theorem splitS_length {s sep : ByteArray} (h1 : 1 ≤ sep.size) : (splitS s sep).length = Lib.countB s sep + 1 := Lib.splitB_all sep h1 0 _ s rfl
theorem maxLen_of {W : World} (h : W.ShapedOpen Tryd.prog) : BaseI (hp W) := by
  intro g hg
  obtain rfl := List.mem_singleton.1 hg
  exact Tryd.laysM146.s1_3 W h
theorem split_at {s sep : ByteArray} (h0 : s.size < 4294967281) (h1 : 1 ≤ sep.size) {w0 w : World} {l : List Assn} {ρ : Heap} (hS : St w0 w (ro ρ :: l)) :
    Calls Tryd.prog 30 #[.string s, .string sep] w fun e w' => ∃ (A : Option Addr) (n c : Nat) (cs : List Value), e = .returned (.slice A n c) ∧ RepL RpS ρ (splitS s sep) cs ∧ St w0 w' (vec 9 RpS.sz (.slice A n c) n cs :: ro ρ :: l) := by
  obtain ⟨m, hm⟩ := hS.num (List.mem_singleton.2 rfl)
  have hle := Lib.countB_le sep h1 s.size s (Nat.le_refl _)
  refine (Tryd.strings_Split s sep m w h0 hm h1).mono ?_
  rintro e w' ⟨rfl, rfl⟩
  have hl : (Lib.splitB sep 0 (Lib.countB s sep) s).length = Lib.countB s sep + 1 := splitS_length (s := s) h1
  refine ⟨_, _, _, _, rfl, repl_strs _, ?_⟩
  exact (hS.alloc _).vec_of (by rw [List.length_map, hl, show RpS.sz = 1 from rfl, Nat.mul_one]) (by simp only [maxLen]; omega)
/-- strings.Join, by the kit's words. -/
def joinS (xs : List ByteArray) (sep : ByteArray) : ByteArray := ⟨(Go.Lib.join (xs.map (·.data.toList)) sep.data.toList).toArray⟩
theorem repl_strs_eq {ρ : Heap} : ∀ (xs : List ByteArray) (cs : List Value), RepL RpS ρ xs cs → cs = xs.map Value.string
  | [], _, h => h
  | x :: xs, cs, ⟨a, b, e, h1, h2⟩ => by
    rw [e, repl_strs_eq xs b h2, show a = [Value.string x] from h1]; rfl
theorem join_at {A : Option Addr} {n c : Nat} {xs : List ByteArray} {sep : ByteArray} {w0 w : World} {l : List Assn} {ρ : Heap} (hr : RdS RpS ρ A n c xs) (h1 : 1 ≤ xs.length) (hN : xs.length ≤ 140737488355328) (hz : (joinS xs sep).size ≤ 140737488355328) (hS : St w0 w (ro ρ :: l)) :
    Calls Tryd.prog 31 #[.slice A n c, .string sep] w fun e w' => e = .returned (.string (joinS xs sep)) ∧ St w0 w' (ro ρ :: l) := by
  obtain ⟨rfl, hc, cs, hrep, hrd⟩ := hr
  obtain rfl := repl_strs_eq xs cs hrep
  obtain ⟨x0, hx0⟩ : ∃ x, xs[0]? = some x := ⟨xs[0], by simp⟩
  obtain ⟨⟨bk, o, sp⟩, rfl, hc0⟩ := hrd 0 (.string x0) (by simp [hx0])
  have hsp : sp = none := by
    cases sp with
    | none => rfl
    | some s =>
      exfalso
      unfold cellOf at hc0
      split at hc0
      · simp [Addr.add] at hc0
      · cases hc0
  subst hsp
  have hcells : ∀ (j : Nat) x, xs[j]? = some x → w.cell? ⟨bk, o + j, none⟩ = some (.string x) := by
    intro j x hj
    obtain ⟨ad, e, hcj⟩ := hrd j (.string x) (by simp [hj])
    cases e
    rw [Go.Lib.add_plain] at hcj
    exact hS.ro_cell hcj
  have hbk : bk < w.heap.size := by
    have h0 := hcells 0 x0 hx0
    unfold World.cell? at h0
    cases hh : w.heap[bk]? with
    | none => simp [hh] at h0
    | some ob => exact (Array.getElem?_eq_some_iff.1 hh).1
  refine (Tryd.strings_Join bk o c xs sep w hcells hbk hN hc (by simpa [joinS, ByteArray.size] using hz)).mono ?_
  rintro e w' ⟨rfl, hb⟩
  exact ⟨rfl, hS.grows hb.os hb.tape hb.output hb.size hb.block⟩
/-- The value of a numeral, by the kit's words. -/
def atoi (s : ByteArray) : Option Int := if s.size ≤ 18 then Lib.atoi s.data.toList else none
theorem atoi_at {s : ByteArray} {n : Int} (h : atoi s = some n) {w0 w : World} {l : List Assn} {ρ : Heap} (hS : St w0 w (ro ρ :: l)) :
    Calls Tryd.prog 141 #[.string s] w fun e w' => e = .returned (.tuple #[.int .i64 n, .nilIface]) ∧ St w0 w' (ro ρ :: l) := by
  unfold atoi at h
  split at h
  · rename_i h18
    refine (Tryd.strconv_Atoi s n h18 h w).mono ?_
    rintro e w' ⟨rfl, t, rfl⟩
    refine ⟨rfl, ?_⟩
    exact hS.grows rfl rfl rfl (by rw [Lib.bytesWorld_size]; omega) (fun b hb => Lib.bytesWorld_at_old _ _ _ _ hb)
  · cases h
end Go.Proofs.YtlolchgeedegdaaDoor.X
