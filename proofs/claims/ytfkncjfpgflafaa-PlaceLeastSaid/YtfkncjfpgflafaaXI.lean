/-
  DERIVED: THE SHELF's CONTRACTS AT THIS DUMP, IN PLAIN WORDS (tools/lay-plain.mjs out of 'TryShelf.lean', which tools/lay-shelf.mjs wrote): THE SAME DECLARATIONS UNDER THE SAME NAMES: 'import', 'namespace', 'open', 'def', 'theorem' AND NOTHING ELSE: no command of the shelf's: FOR A HAND-IN. Each laying: the table of numbers ('.._ren') and one theorem, a field a fact of the dump's own or the kernel's comparison; each contract: ONE APPLICATION.
-/
import Derived.Shelf.Strings.Builder1
import Derived.Test.YtfkncjfpgflafaaProg
import Derived.Test.YtfkncjfpgflafaaYS
namespace Go.Proofs
open Go.Shelf
def Try.lays169_ren : Go.Shelf.Ren := ⟨fun | 169 => 46 | n => n, fun | 70 => 91 | 9 => 9 | 0 => 0 | 72 => 94 | 37 => 92 | 127 => 106 | 3 => 3 | 5 => 5 | n => n, fun | n => n⟩
theorem Try.lays169 : Go.Proofs.Lays.n169 Try.prog Try.lays169_ren := {
  mixed := by kernel_rfl
  f169 := Try.func46.trans (congrArg some (by kernel_rfl))
  t0 := Try.underlying0
  a0 := Try.isAgg0
  z0 := Try.sizeOf0
  v0 := Try.zeroValue0
  t3 := Try.underlying3
  a3 := Try.isAgg3
  z3 := Try.sizeOf3
  v3 := Try.zeroValue3
  t9 := Try.underlying9
  a9 := Try.isAgg9
  z9 := Try.sizeOf9
  v9 := Try.zeroValue9
  t37 := Try.underlying92
  a37 := Try.isAgg92
  z37 := Try.sizeOf92
  v37 := Try.zeroValue92
  t70 := Try.underlying91
  a70 := Try.isAgg91
  z70 := Try.sizeOf91
  v70 := Try.zeroValue91
  t72 := Try.underlying94
  a72 := Try.isAgg94
  z72 := Try.sizeOf94
  v72 := Try.zeroValue94
  t127 := Try.underlying106
  a127 := Try.isAgg106
  z127 := Try.sizeOf106
  v127 := Try.zeroValue106 }
theorem Try.Builder_Extra_169 : Builder.Extra Try.prog Try.lays169_ren := {
  sizeBuilder := by kernel_rfl
  liesBuilder := by kernel_rfl
  t5 := Try.underlying5
  a5 := Try.isAgg5
  z5 := Try.sizeOf5
  v5 := Try.zeroValue5
  infoByte := by kernel_rfl
  cellsByte := by kernel_rfl
  sizeByte := by kernel_rfl
  neB5 := by decide }
end Go.Proofs
namespace Go.Proofs.Ytfkncjfpgflafaa.X
open Go Go.RowKit Go.Shelf
set_option linter.unusedVariables false
set_option maxHeartbeats 1000000 in
set_option maxRecDepth 100000 in
theorem cc_used (b : Nat) (w : World) (h0 : w.cell? ⟨b, 0, none⟩ = some (.pointer (some ⟨b, 0, none⟩))) : Calls Try.prog 55 #[.pointer (some ⟨b, 0, none⟩)] w fun e w' => e = .returned (.tuple #[]) ∧ w' = w := by
  obtain ⟨j, hj, _⟩ := Option.map_eq_some_iff.1 (show (Try.prog.info? 94).map (·.size) = some 2 by kernel_rfl)
  go_enter Try.func55, Try.ntmps55
  go_wp2
  rw [Lib.run_neq_ptr_same w _ Try.underlying91 hj]
  go_wp2
  go_end0
  exact ⟨rfl, rfl⟩
set_option maxHeartbeats 1000000 in
set_option maxRecDepth 100000 in
theorem cc_fresh (b : Nat) (w : World) (h0 : w.cell? ⟨b, 0, none⟩ = some (.pointer none)) (hsh : w.shape? b = some (94, 2)) (hfz : w.frozen? ⟨b, 0, none⟩ = false) :
    Calls Try.prog 55 #[.pointer (some ⟨b, 0, none⟩)] w fun e w' => e = .returned (.tuple #[]) ∧ w' = w.setCell ⟨b, 0, none⟩ (.pointer (some ⟨b, 0, none⟩)) := by
  obtain ⟨j, hj, hjs⟩ := Option.map_eq_some_iff.1 (show (Try.prog.info? 94).map (·.size) = some 2 by kernel_rfl)
  go_enter Try.func55, Try.ntmps55
  go_wp2
  rw [Lib.run_to_unsafe w ⟨b, 0, none⟩ Try.underlying91 Try.underlying110 hj (by rw [hjs]; decide) hsh (Nat.zero_lt_succ 1)]
  simp only [Result.andThen]
  rw [Oper.upon_value]
  go_wp2
  rw [run_callFunc_extern Try.func59 (by kernel_rfl) (by kernel_rfl) (by kernel_rfl) (e := Extern.AbiNoEscape.same) (by kernel_rfl)]
  rw [Lib.run_noEscape]
  simp only [Result.andThen]
  rw [Oper.upon_value]
  go_wp2
  rw [Lib.run_from_unsafe w ⟨b, 0, none⟩ Try.underlying110 Try.underlying91 hj hsh (by kernel_rfl)]
  simp only [Result.andThen]
  rw [Oper.upon_value]
  go_wp2
  go_end0
  exact ⟨rfl, rfl⟩
theorem cc_any {w0 w : World} {l : List Assn} {b : Nat} {p v : Value} (hp : p = .pointer none ∨ p = .pointer (some ⟨b, 0, none⟩)) (hS : St w0 w (cells b 94 [p, v] :: l)) :
    Calls Try.prog 55 #[.pointer (some ⟨b, 0, none⟩)] w fun e w' => e = .returned (.tuple #[]) ∧ St w0 w' (cells b 94 [.pointer (some ⟨b, 0, none⟩), v] :: l) := by
  rcases hp with rfl | rfl
  · refine (cc_fresh b w (hS.cell rfl) ?_ (hS.unfrozen 0)).mono ?_
    · have := hS.block; simp [World.shape?, this]
    · rintro e w' ⟨rfl, rfl⟩; exact ⟨rfl, hS.set 0 _⟩
  · refine (cc_used b w (hS.cell rfl)).mono ?_
    rintro e w' ⟨rfl, rfl⟩; exact ⟨rfl, hS⟩
set_option maxHeartbeats 2000000 in
set_option maxRecDepth 100000 in
/-- WriteString: what it holds grows by the string. -/
theorem bws {w0 w : World} {l : List Assn} {b : Nat} {s t : ByteArray} (hS : St w0 w (bld 94 5 b s :: l)) (hk : s.size + t.size ≤ 140737488355328) :
    Calls Try.prog 45 #[.pointer (some ⟨b, 0, none⟩), .string t] w fun e w' => e = .returned (.tuple #[.int .i64 t.size, .nilIface]) ∧ St w0 w' (bld 94 5 b (s ++ t) :: l) := by
  obtain ⟨p, A, c, hp, hS⟩ := bld_out hS
  obtain ⟨i0, hi, hz0, hz1, hz2⟩ := info_parts (show (Try.prog.info? 5).map (fun i => (i.zero, i.size, i.bytes)) = some (some (.int .u8 0), 1, 1) by kernel_rfl)
  go_enter Try.func45, Try.ntmps45
  go_wp2_with (go_at_call 55; refine (cc_any hp hS).mono ?_)
  rintro e w1 ⟨rfl, h1⟩
  have c1 : w1.cell? ⟨b, 1, none⟩ = some (.slice A s.size c) := h1.cell rfl
  go_wp2_with (at_builtin; refine wpl_ap_str rfl _ _ 92 9 rfl i0 Try.underlying92 Try.underlying9 hi hz0 hz1 hz2 rfl rfl (h1.perm (.swap _ _ _)) (by omega) ?_)
  intro A' c' w2 h2
  have h3 := h2.perm (.swap _ _ _)
  have d1 : w2.cell? ⟨b, 1, none⟩ = some (.slice A s.size c) := h3.cell rfl
  have f1 : w2.frozen? ⟨b, 1, none⟩ = false := h3.unfrozen 1
  go_wp2
  go_ret2
  refine ⟨rfl, ?_⟩
  have h4 := h3.set 1 (.slice A' (s.size + t.size) c')
  refine bld_in (s := s ++ t) _ A' c' (.inr rfl) ?_
  rw [byteCells_append, ByteArray.size_append]
  exact h4
theorem bytesL_snoc {s : ByteArray} {c : Int} (h : 0 ≤ c ∧ c < 256) : Go.byteCells (s ++ strOf [c]) = ints .u8 (bytesL s ++ [c]) := by
  have e := repI_eq (repl_bytes (ρ := default) (s ++ strOf [c]))
  rw [e]
  congr 1
  unfold bytesL strOf
  have h1 : (UInt8.ofNat c.toNat).toNat = c.toNat := by rw [UInt8.toNat_ofNat']; omega
  simp [ByteArray.data_append]
  omega
set_option maxHeartbeats 2000000 in
set_option maxRecDepth 100000 in
/-- WriteByte: what it holds grows by the byte. -/
theorem bwb {w0 w : World} {l : List Assn} {b : Nat} {s : ByteArray} {c : Int} (hc0 : 0 ≤ c ∧ c < 256) (hS : St w0 w (bld 94 5 b s :: l)) (hk : s.size + 1 ≤ 140737488355328) :
    Calls Try.prog 43 #[.pointer (some ⟨b, 0, none⟩), .int .u8 c] w fun e w' => e = .returned .nilIface ∧ St w0 w' (bld 94 5 b (s ++ strOf [c]) :: l) := by
  obtain ⟨pv, A, cp, hp, hS⟩ := bld_out hS
  have hbl : (bytesL s).length = s.size := bytesL_length s
  refine enterC Try.func43 rfl 17 rfl (by simp) ?_
  refine x_seq <| x_region <| p (yl_assign rfl) <| x_done <| x_seq <| x_region <| p (yl_move rfl) <| ?_
  refine o_cc (show callB Try.prog 55 = true by kernel_rfl) (args1 rfl) (cc_any hp hS) ?_
  rintro e w' ⟨rfl, hS⟩
  refine ⟨_, rfl, ?_⟩
  refine x_done <| x_seq <| x_region <| p (yl_move rfl) <| p (yl_move rfl) <| p (yl_nilCheck rfl) <| p (yl_field0 (show fieldAtB Try.prog 94 1 = some (1, 92) by kernel_rfl) rfl) <|
    pa (at_load (show oneB Try.prog 92 = true by kernel_rfl) rfl (hS.cell rfl)) <| p (yl_move rfl) <| ?_
  refine o_buildSlice (vs := [.int .u8 c]) (cs := [.int .u8 c]) (show sliceB Try.prog 92 = some (5, 1, 1) by kernel_rfl) (show zeroB Try.prog 5 = some [.int .u8 0] by kernel_rfl) (parts_eq (pt (va := .int .u8 c) rfl pt0)) rfl (by intro v hv; simp only [List.mem_singleton] at hv; subst hv; rfl) (by decide) rfl hS (fun b13 w' hS => ?_)
  refine o_ap (Q := RpI .u8) (ρ := default) (xs := bytesL s) (ys := [c]) (zz := bytesL s ++ [c]) (show sliceB Try.prog 92 = some (5, 1, 1) by kernel_rfl) (show zeroB Try.prog 5 = some [.int .u8 0] by kernel_rfl) rfl (by decide) rfl rfl (hS.pull 2) (repl_bytes s) (src_blk (e' := 5) (show Try.prog.underlying 92 = some (.slice 5) by kernel_rfl) hS rfl rfl) (RepL.cons (R := RpI .u8) (ρ := default) (x := c) (cs := [.int .u8 c]) rfl RepL.nil) rfl (by simp only [apOk, List.length_append, List.length_singleton, hbl]; omega) (fun A' c' cs' w' hr hS => ?_)
  have hl2 : (bytesL s ++ [c]).length = (s ++ strOf [c]).size := by simp [hbl, strOf, ByteArray.size_append] <;> rfl
  refine p (yl_nilCheck rfl) <| p (yl_field0 (show fieldAtB Try.prog 94 1 = some (1, 92) by kernel_rfl) rfl) <| ?_
  refine o_store1 (v := .slice A' (bytesL s ++ [c]).length c') (show oneB Try.prog 92 = true by kernel_rfl) rfl rfl rfl rfl (hS.pull 2) (fun w' hS => ?_)
  refine x_done <| x_seq <| x_region <| p (yl_assign rfl) <| x_done <| ?_
  refine x_return ⟨_, ⟨_, _, rfl, rfl, rfl⟩, rfl, ?_⟩
  refine bld_in (s := s ++ strOf [c]) _ A' c' (.inr rfl) ?_
  rw [bytesL_snoc hc0, ← repI_eq hr, ← hl2]
  exact ((hS.pull 2).drop)
theorem bst {w0 w : World} {l : List Assn} {b : Nat} {s : ByteArray} (hS : St w0 w (bld 94 5 b s :: l)) (h0 : 0 < s.size) :
    Calls Try.prog 46 #[.pointer (some ⟨b, 0, none⟩)] w fun e w' => e = .returned (.string s) ∧ St w0 w' l := bstr Try.lays169 Try.Builder_Extra_169 hS h0
end Go.Proofs.Ytfkncjfpgflafaa.X
