/-
  DERIVED: THE SHELF's CONTRACTS AT THIS DUMP, IN PLAIN WORDS (tools/lay-plain.mjs out of 'TrydShelf.lean', which tools/lay-shelf.mjs wrote): THE SAME DECLARATIONS UNDER THE SAME NAMES: 'import', 'namespace', 'open', 'def', 'theorem' AND NOTHING ELSE: no command of the shelf's: FOR A HAND-IN. Each laying: the table of numbers ('.._ren') and one theorem, a field a fact of the dump's own or the kernel's comparison; each contract: ONE APPLICATION.
-/
import Derived.Shelf.Strings.Builder1
import Derived.Shelf.LaysM
import Derived.Shelf.Strconv.Itoa3
import Derived.Test.YtlolchgeedegdaaDoorProg
import Derived.Test.YtlolchgeedegdaaDoorYS
namespace Go.Proofs
open Go.Shelf
def Tryd.lays169_ren : Go.Shelf.Ren := ⟨fun | 169 => 81 | n => n, fun | 70 => 168 | 9 => 9 | 0 => 0 | 72 => 171 | 37 => 169 | 127 => 239 | 3 => 3 | 5 => 5 | n => n, fun | n => n⟩
theorem Tryd.lays169 : Go.Proofs.Lays.n169 Tryd.prog Tryd.lays169_ren := {
  mixed := by kernel_rfl
  f169 := Tryd.func81.trans (congrArg some (by kernel_rfl))
  t0 := Tryd.underlying0
  a0 := Tryd.isAgg0
  z0 := Tryd.sizeOf0
  v0 := Tryd.zeroValue0
  t3 := Tryd.underlying3
  a3 := Tryd.isAgg3
  z3 := Tryd.sizeOf3
  v3 := Tryd.zeroValue3
  t9 := Tryd.underlying9
  a9 := Tryd.isAgg9
  z9 := Tryd.sizeOf9
  v9 := Tryd.zeroValue9
  t37 := Tryd.underlying169
  a37 := Tryd.isAgg169
  z37 := Tryd.sizeOf169
  v37 := Tryd.zeroValue169
  t70 := Tryd.underlying168
  a70 := Tryd.isAgg168
  z70 := Tryd.sizeOf168
  v70 := Tryd.zeroValue168
  t72 := Tryd.underlying171
  a72 := Tryd.isAgg171
  z72 := Tryd.sizeOf171
  v72 := Tryd.zeroValue171
  t127 := Tryd.underlying239
  a127 := Tryd.isAgg239
  z127 := Tryd.sizeOf239
  v127 := Tryd.zeroValue239 }
theorem Tryd.Builder_Extra_169 : Builder.Extra Tryd.prog Tryd.lays169_ren := {
  sizeBuilder := by kernel_rfl
  liesBuilder := by kernel_rfl
  t5 := Tryd.underlying5
  a5 := Tryd.isAgg5
  z5 := Tryd.sizeOf5
  v5 := Tryd.zeroValue5
  infoByte := by kernel_rfl
  cellsByte := by kernel_rfl
  sizeByte := by kernel_rfl
  neB5 := by decide }
def Tryd.laysM171_ren : Go.Shelf.Ren := ⟨fun | 171 => 93 | 243 => 143 | 246 => 166 | 283 => 185 | 284 => 186 | 285 => 187 | 286 => 188 | 129 => 200 | 317 => 199 | 318 => 201 | 319 => 202 | 320 => 203 | 337 => 206 | 338 => 207 | n => n, fun | 3 => 3 | 9 => 9 | 2 => 2 | 4 => 4 | 171 => 271 | 0 => 0 | 53 => 35 | 37 => 169 | 5 => 5 | 173 => 274 | 212 => 293 | 51 => 284 | 20 => 20 | 213 => 294 | 46 => 225 | 232 => 301 | 233 => 302 | n => n, fun | 17 => 5 | 18 => 6 | 19 => 7 | n => n⟩
theorem Tryd.laysM171 : Go.Proofs.LaysM.n171 Tryd.prog Tryd.laysM171_ren := {
  mixed := by kernel_rfl
  f129 := Tryd.func200.trans (congrArg some (by kernel_rfl))
  f171 := Tryd.func93.trans (congrArg some (by kernel_rfl))
  f243 := Tryd.func143.trans (congrArg some (by kernel_rfl))
  f246 := Tryd.func166.trans (congrArg some (by kernel_rfl))
  f283 := Tryd.func185.trans (congrArg some (by kernel_rfl))
  f284 := Tryd.func186.trans (congrArg some (by kernel_rfl))
  f285 := Tryd.func187.trans (congrArg some (by kernel_rfl))
  f286 := Tryd.func188.trans (congrArg some (by kernel_rfl))
  f317 := Tryd.func199.trans (congrArg some (by kernel_rfl))
  f318 := Tryd.func201.trans (congrArg some (by kernel_rfl))
  f319 := Tryd.func202.trans (congrArg some (by kernel_rfl))
  f320 := Tryd.func203.trans (congrArg some (by kernel_rfl))
  f337 := Tryd.func206.trans (congrArg some (by kernel_rfl))
  f338 := Tryd.func207.trans (congrArg some (by kernel_rfl))
  t0 := Tryd.underlying0
  a0 := Tryd.isAgg0
  z0 := Tryd.sizeOf0
  v0 := Tryd.zeroValue0
  t2 := Tryd.underlying2
  a2 := Tryd.isAgg2
  z2 := Tryd.sizeOf2
  v2 := Tryd.zeroValue2
  t3 := Tryd.underlying3
  a3 := Tryd.isAgg3
  z3 := Tryd.sizeOf3
  v3 := Tryd.zeroValue3
  t4 := Tryd.underlying4
  a4 := Tryd.isAgg4
  z4 := Tryd.sizeOf4
  v4 := Tryd.zeroValue4
  t5 := Tryd.underlying5
  a5 := Tryd.isAgg5
  z5 := Tryd.sizeOf5
  v5 := Tryd.zeroValue5
  t9 := Tryd.underlying9
  a9 := Tryd.isAgg9
  z9 := Tryd.sizeOf9
  v9 := Tryd.zeroValue9
  t20 := Tryd.underlying20
  a20 := Tryd.isAgg20
  z20 := Tryd.sizeOf20
  v20 := Tryd.zeroValue20
  t37 := Tryd.underlying169
  a37 := Tryd.isAgg169
  z37 := Tryd.sizeOf169
  v37 := Tryd.zeroValue169
  t46 := Tryd.underlying225
  a46 := Tryd.isAgg225
  z46 := Tryd.sizeOf225
  v46 := Tryd.zeroValue225
  t51 := Tryd.underlying284
  a51 := Tryd.isAgg284
  z51 := Tryd.sizeOf284
  v51 := Tryd.zeroValue284
  t53 := Tryd.underlying35
  a53 := Tryd.isAgg35
  z53 := Tryd.sizeOf35
  v53 := Tryd.zeroValue35
  t171 := Tryd.underlying271
  a171 := Tryd.isAgg271
  z171 := Tryd.sizeOf271
  v171 := Tryd.zeroValue271
  t173 := Tryd.underlying274
  a173 := Tryd.isAgg274
  z173 := Tryd.sizeOf274
  v173 := Tryd.zeroValue274
  t212 := Tryd.underlying293
  a212 := Tryd.isAgg293
  z212 := Tryd.sizeOf293
  v212 := Tryd.zeroValue293
  t213 := Tryd.underlying294
  a213 := Tryd.isAgg294
  z213 := Tryd.sizeOf294
  t232 := Tryd.underlying301
  a232 := Tryd.isAgg301
  z232 := Tryd.sizeOf301
  v232 := Tryd.zeroValue301
  t233 := Tryd.underlying302
  a233 := Tryd.isAgg302
  z233 := Tryd.sizeOf302
  v233 := Tryd.zeroValue302
  g17 := by kernel_rfl
  g18 := by kernel_rfl
  g19 := by kernel_rfl
  i0 := by kernel_rfl
  i2 := by kernel_rfl
  i3 := by kernel_rfl
  i4 := by kernel_rfl
  i5 := by kernel_rfl
  i9 := by kernel_rfl
  i20 := by kernel_rfl
  i37 := by kernel_rfl
  i46 := by kernel_rfl
  i51 := by kernel_rfl
  i53 := by kernel_rfl
  i171 := by kernel_rfl
  i173 := by kernel_rfl
  i212 := by kernel_rfl
  i232 := by kernel_rfl
  i233 := by kernel_rfl
  m17 := by kernel_rfl
  m18 := by kernel_rfl
  m19 := by kernel_rfl }
open Go.RowKit Go.Sort Go.Lib in
/-- strconv.Itoa: "Itoa is equivalent to FormatInt(int64(i), 10).": i's DECIMAL NUMERAL ('Lib.itoa': a '-' where i is negative, then the digits), FOR EVERY int. The world behind the call: the world before it, new blocks behind the heap (the library's 'var a [24]byte'), draws. (LAID: no walk: one application.) -/
theorem Tryd.strconv_Itoa (n : Int) (h0 : -9223372036854775808 ≤ n) (h1 : n ≤ 9223372036854775807) (w : World) (htab : Lib.TabIs Tryd.prog w "internal/strconv.uint64pow10" .u64 Lib.pow10Tab) :
    Calls Tryd.prog 93 #[.int .i64 n] w fun e w' => e = .returned (.string ⟨(Lib.itoa n).toArray⟩) ∧ ∃ k os, w' = grow (w.drewN k) os := Any.strconv_Itoa Tryd.laysM171 n h0 h1 w htab
end Go.Proofs
namespace Go.Proofs.YtlolchgeedegdaaDoor.X
open Go Go.RowKit Go.Shelf
set_option linter.unusedVariables false
/-- The decimal numeral of a number that is not negative. -/
def itoa (n : Int) : ByteArray := ⟨(Go.Lib.decDigits n.toNat).toArray⟩
theorem tab_at {w0 w : World} {l : List Assn} {ρ : Heap} (hS : St w0 w (ro ρ :: l)) : Lib.TabIs Tryd.prog w "internal/strconv.uint64pow10" .u64 Lib.pow10Tab := by
  obtain ⟨t, fz, h⟩ := hS.table (List.mem_singleton.2 rfl)
  have hg : Tryd.prog.globalNamed "internal/strconv.uint64pow10" = some 5 := by kernel_rfl
  simp only [Lib.TabIs, World.var?, hg, Option.bind_some, h]
  rfl
theorem base_in {W : World} (h : Lib.TabIs Tryd.prog W "internal/strconv.uint64pow10" .u64 Lib.pow10Tab) : Base (hp W) := by
  intro x hx
  obtain rfl := List.mem_singleton.1 hx
  have hg : Tryd.prog.globalNamed "internal/strconv.uint64pow10" = some 5 := by kernel_rfl
  simp only [Lib.TabIs, World.var?, hg, Option.bind_some] at h
  split at h
  · rename_i cs t fz he
    refine ⟨t, fz, ?_⟩
    show W.heap[5]? = _
    rw [he]
    cases h
    rfl
  · cases h
theorem vars_tail {x : String × DataW Unit} {rest : List (String × DataW Unit)} {W : World} {ps : List MemPlace} (h : DataW.LaidVars Tryd.prog W (x :: rest) ps) : ∃ q, DataW.LaidVars Tryd.prog W rest q := by
  obtain ⟨g', t', cs, fuel, p, q, _, _, _, _, hr, _⟩ := h
  exact ⟨q, hr⟩
theorem vars_head {rest : List (String × DataW Unit)} {W : World} {ps : List MemPlace} (h : DataW.LaidVars Tryd.prog W (("internal/strconv.uint64pow10", Lib.tabData .u64 Lib.pow10Tab) :: rest) ps) : Base (hp W) := by
  obtain ⟨g', t', cs, fuel, p, q, hg', ht', hvar, hd, _, _⟩ := h
  refine base_in ?_
  obtain rfl := Option.some.inj ((show Tryd.prog.globalNamed "internal/strconv.uint64pow10" = some 5 by kernel_rfl).symm.trans hg')
  obtain rfl := Option.some.inj ((show (Tryd.prog.globals[5]?).map (·.type) = some 293 by kernel_rfl).symm.trans ht')
  unfold Lib.TabIs
  rw [hvar, ← Lib.cells_of_tab (n := 20) (e := 35) Tryd.underlying293 Tryd.underlying35 (by kernel_rfl) (by kernel_rfl) hd]
theorem itoa_at {n : Int} (h0 : 0 ≤ n) (h1 : n ≤ 9223372036854775807) {w0 w : World} {l : List Assn} {ρ : Heap} (hS : St w0 w (ro ρ :: l)) :
    Calls Tryd.prog 93 #[.int .i64 n] w fun e w' => e = .returned (.string (itoa n)) ∧ St w0 w' (ro ρ :: l) := by
  refine (Tryd.strconv_Itoa n (by omega) h1 w (tab_at hS)).mono ?_
  rintro e w' ⟨rfl, k, os, rfl⟩
  refine ⟨by simp only [Lib.itoa, itoa]; rw [if_neg (by omega)], ?_⟩
  have hsz : (w.drewN k).heap = w.heap := rfl
  exact hS.grows rfl rfl rfl (by simp [Go.Sort.grow]) (fun b hb => by simp only [Go.Sort.grow, hsz]; exact Array.getElem?_append_left hb)
set_option maxHeartbeats 1000000 in
set_option maxRecDepth 100000 in
theorem cc_used (b : Nat) (w : World) (h0 : w.cell? ⟨b, 0, none⟩ = some (.pointer (some ⟨b, 0, none⟩))) : Calls Tryd.prog 136 #[.pointer (some ⟨b, 0, none⟩)] w fun e w' => e = .returned (.tuple #[]) ∧ w' = w := by
  obtain ⟨j, hj, _⟩ := Option.map_eq_some_iff.1 (show (Tryd.prog.info? 171).map (·.size) = some 2 by kernel_rfl)
  go_enter Tryd.func136, Tryd.ntmps136
  go_wp2
  rw [Lib.run_neq_ptr_same w _ Tryd.underlying168 hj]
  go_wp2
  go_end0
  exact ⟨rfl, rfl⟩
set_option maxHeartbeats 1000000 in
set_option maxRecDepth 100000 in
theorem cc_fresh (b : Nat) (w : World) (h0 : w.cell? ⟨b, 0, none⟩ = some (.pointer none)) (hsh : w.shape? b = some (171, 2)) (hfz : w.frozen? ⟨b, 0, none⟩ = false) :
    Calls Tryd.prog 136 #[.pointer (some ⟨b, 0, none⟩)] w fun e w' => e = .returned (.tuple #[]) ∧ w' = w.setCell ⟨b, 0, none⟩ (.pointer (some ⟨b, 0, none⟩)) := by
  obtain ⟨j, hj, hjs⟩ := Option.map_eq_some_iff.1 (show (Tryd.prog.info? 171).map (·.size) = some 2 by kernel_rfl)
  go_enter Tryd.func136, Tryd.ntmps136
  go_wp2
  rw [Lib.run_to_unsafe w ⟨b, 0, none⟩ Tryd.underlying168 Tryd.underlying255 hj (by rw [hjs]; decide) hsh (Nat.zero_lt_succ 1)]
  simp only [Result.andThen]
  rw [Oper.upon_value]
  go_wp2
  rw [run_callFunc_extern Tryd.func161 (by kernel_rfl) (by kernel_rfl) (by kernel_rfl) (e := Extern.AbiNoEscape.same) (by kernel_rfl)]
  rw [Lib.run_noEscape]
  simp only [Result.andThen]
  rw [Oper.upon_value]
  go_wp2
  rw [Lib.run_from_unsafe w ⟨b, 0, none⟩ Tryd.underlying255 Tryd.underlying168 hj hsh (by kernel_rfl)]
  simp only [Result.andThen]
  rw [Oper.upon_value]
  go_wp2
  go_end0
  exact ⟨rfl, rfl⟩
theorem cc_any {w0 w : World} {l : List Assn} {b : Nat} {p v : Value} (hp : p = .pointer none ∨ p = .pointer (some ⟨b, 0, none⟩)) (hS : St w0 w (cells b 171 [p, v] :: l)) :
    Calls Tryd.prog 136 #[.pointer (some ⟨b, 0, none⟩)] w fun e w' => e = .returned (.tuple #[]) ∧ St w0 w' (cells b 171 [.pointer (some ⟨b, 0, none⟩), v] :: l) := by
  rcases hp with rfl | rfl
  · refine (cc_fresh b w (hS.cell rfl) ?_ (hS.unfrozen 0)).mono ?_
    · have := hS.block; simp [World.shape?, this]
    · rintro e w' ⟨rfl, rfl⟩; exact ⟨rfl, hS.set 0 _⟩
  · refine (cc_used b w (hS.cell rfl)).mono ?_
    rintro e w' ⟨rfl, rfl⟩; exact ⟨rfl, hS⟩
set_option maxHeartbeats 2000000 in
set_option maxRecDepth 100000 in
/-- WriteString: what it holds grows by the string. -/
theorem bws {w0 w : World} {l : List Assn} {b : Nat} {s t : ByteArray} (hS : St w0 w (bld 171 5 b s :: l)) (hk : s.size + t.size ≤ 140737488355328) :
    Calls Tryd.prog 80 #[.pointer (some ⟨b, 0, none⟩), .string t] w fun e w' => e = .returned (.tuple #[.int .i64 t.size, .nilIface]) ∧ St w0 w' (bld 171 5 b (s ++ t) :: l) := by
  obtain ⟨p, A, c, hp, hS⟩ := bld_out hS
  obtain ⟨i0, hi, hz0, hz1, hz2⟩ := info_parts (show (Tryd.prog.info? 5).map (fun i => (i.zero, i.size, i.bytes)) = some (some (.int .u8 0), 1, 1) by kernel_rfl)
  go_enter Tryd.func80, Tryd.ntmps80
  go_wp2_with (go_at_call 136; refine (cc_any hp hS).mono ?_)
  rintro e w1 ⟨rfl, h1⟩
  have c1 : w1.cell? ⟨b, 1, none⟩ = some (.slice A s.size c) := h1.cell rfl
  go_wp2_with (at_builtin; refine wpl_ap_str rfl _ _ 169 9 rfl i0 Tryd.underlying169 Tryd.underlying9 hi hz0 hz1 hz2 rfl rfl (h1.perm (.swap _ _ _)) (by omega) ?_)
  intro A' c' w2 h2
  have h3 := h2.perm (.swap _ _ _)
  have d1 : w2.cell? ⟨b, 1, none⟩ = some (.slice A s.size c) := h3.cell rfl
  have f1 : w2.frozen? ⟨b, 1, none⟩ = false := h3.unfrozen 1
  go_wp2
  go_ret2
  refine ⟨rfl, ?_⟩
  have h4 := h3.set 1 (.slice A' (s.size + t.size) c')
  refine bld_in (s := s ++ t) _ A' c' (.inr rfl) ?_
  rw [byteCells_append, ByteArray.size_append]
  exact h4
theorem bst {w0 w : World} {l : List Assn} {b : Nat} {s : ByteArray} (hS : St w0 w (bld 171 5 b s :: l)) (h0 : 0 < s.size) :
    Calls Tryd.prog 81 #[.pointer (some ⟨b, 0, none⟩)] w fun e w' => e = .returned (.string s) ∧ St w0 w' l := bstr Tryd.lays169 Tryd.Builder_Extra_169 hS h0
end Go.Proofs.YtlolchgeedegdaaDoor.X
