/- The law RulesApart: its row, out of the walk. No conditions. -/
import Derived.Test.YtnnmbmgnpdcefaaRI
import Derived.Test.YtnnmbmgnpdcefaaRows
import Derived.Test.YtnnmbmgnpdcefaaWSized
import Derived.WalkKit
import Derived.ProofKit
import Derived.OpenShut
import Derived.ShutString
import Derived.ChangeOld
import Derived.Below
import Derived.SizedLaws
namespace Go.Proofs.Ytnnmbmgnpdcefaa.rulesApart
open Go.ChangeShapes Go.WideShapes Go.ChangeAt Go.RowKit Go.Proofs.Ytnnmbmgnpdcefaa.X
open Go.ChangeMaps (open_string shut_string)
set_option linter.unusedVariables false
theorem own : ownKnob Try.prog.godebug = none := by kernel_rfl
theorem laidOut : laidOutB Try.prog = true := by kernel_rfl
def IsRow (k : IntKind) (w : World) (a : Option Addr) (len cap : Nat) (zs : List Int) : Prop :=
  (a = none ∧ len = 0 ∧ cap = 0 ∧ zs = []) ∨
  ∃ x, a = some x ∧ len ≤ cap ∧ cap ≤ maxLen ∧ zs.length = cap ∧ (∀ i, i < zs.length → w.cell? (x.add i) = some (.int k (zs.getD i 0))) ∧ ∀ n ∈ zs, (Lit.int k n).wf = true
/-- What came in, read by the walk's own words. -/
theorem read_in {k : IntKind} {W : World} {a : Option Addr} {len cap : Nat} {zs : List Int} (h : IsRow k W a len cap zs) : RI (hp W) k a (zs.take len) ∧ (zs.take len).length = len := by
  rcases h with ⟨rfl, rfl, rfl, rfl⟩ | ⟨x, rfl, hl, _, hz, hc, _⟩
  · exact ⟨RI.nil, rfl⟩
  · refine ⟨fun j v hj => ⟨x, rfl, ?_⟩, by simp; omega⟩
    simp only [ints, List.getElem?_map, List.getElem?_take] at hj
    split at hj
    · rename_i hlt
      have hjz : j < zs.length := by omega
      have h1 := hc j hjz
      simp only [List.getElem?_eq_getElem hjz, Option.map_some, Option.some.injEq] at hj
      rw [← hj]
      simpa [hjz, cell_hp] using h1
    · simp at hj
theorem repl_ints {k : IntKind} {ρ : Heap} : ∀ xs : List Int, RepL (RpI k) ρ xs (ints k xs)
  | [] => rfl
  | x :: xs => ⟨[.int k x], ints k xs, rfl, rfl, repl_ints xs⟩
theorem rds_in {k : IntKind} {W : World} {a : Option Addr} {len cap : Nat} {zs : List Int} (h : IsRow k W a len cap zs) : RdS (RpI k) (hp W) a len cap (zs.take len) := by
  have h2 := read_in h
  refine ⟨h2.2, ?_, _, repl_ints _, h2.1⟩
  rcases h with ⟨rfl, rfl, rfl, rfl⟩ | ⟨x, rfl, hl, _⟩
  · exact Nat.le_refl _
  · exact hl
theorem strm_in {W : World} {a : Option Addr} {len cap : Nat} {zs : List Int} (h : IsRow .i64 W a len cap zs) (hy : len ≤ 1000000000000000) : Strm (zs.take len) := by
  have h2 := (read_in h).2
  refine ⟨fun i hi => ?_, by omega⟩
  have hm : gt (zs.take len) i ∈ zs := List.mem_of_mem_take (gt_mem hi)
  rcases h with ⟨rfl, rfl, rfl, rfl⟩ | ⟨x, rfl, hl, hm1, hz, hc, hw⟩
  · simp at hm
  · have h3 := Bool.and_eq_true_iff.1 (hw _ hm)
    exact ⟨of_decide_eq_true h3.1, of_decide_eq_true h3.2⟩
theorem i64_in {n : Int} (h : (Lit.int .i64 n).wf = true) : I64 n := by
  have h3 := Bool.and_eq_true_iff.1 h
  exact ⟨of_decide_eq_true h3.1, of_decide_eq_true h3.2⟩
set_option maxRecDepth 100000 in
theorem lifted (os : Os) (started : os.Started) (H : Type) (enc : TypeId × Value → H) :
    ReturnsInHanded {} Try.checked os 7 .any (Rows.rulesApartSpec.pre6 enc Try.prog Try.f7 Rows.rulesApartRow.domain false) (Rows.rulesApartSpec.post enc Try.prog Try.f7 false true false false) := by
  refine returnsInHanded_of_change_sized (C := Try.checked) own started (by kernel_rfl) Try.func7
    (ChangeSpec.witness6 (enc := enc) (C := Try.checked) false ⟨#[], #[.slice none 0 0, .int .i64 0], []⟩ 8 (by kernel_rfl) (by kernel_rfl) (by kernel_rfl) (by kernel_rfl)) ?_
  intro W base args ds gs before hval0 hW hcnd hsz0 _
  have hsz : (DataW.weightsEach Try.prog (Try.f7.params.toList ++ Rows.rulesApartSpec.plain.varTypes Try.prog) (ds ++ gs)).all (· ≤ reachBytes) = true := hsz0
  have hval : ∀ (j : Nat) t v, Try.f7.params[j]? = some t → args[j]? = some v → Value.okWide Try.prog W .any base t v := hval0
  have hW' := hW
  obtain ⟨p, q, hA0, hV, rfl, hfz, hnd⟩ := hW
  have hA : DataW.TrodAll enc Try.prog W 0 (fun _ => true) true Try.f7.params.toList args.toList ds p := hA0
  rw [Try.params7] at hA hval hsz
  obtain ⟨v0, vs0, d0, ds0, p0, q0, hargs, rfl, rfl, h0, r0⟩ := trodAll_cons hA
  obtain ⟨v1, vs1, d1, ds1, p1, q1, rfl, rfl, rfl, h1, r1⟩ := trodAll_cons r0
  obtain ⟨rfl, rfl, rfl⟩ := trodAll_nil r1
  obtain rfl : args = #[v0, v1] := by cases args; simp_all
  obtain ⟨rfl, rfl⟩ := trodVars_none hV
  obtain ⟨a0, len0, cap0, rfl⟩ := okWide_slice Try.underlying22 (hval 0 22 v0 rfl rfl)
  have k0 := h0
  have lt0 : ∀ x ∈ p0, x.block < W.heap.size := by obtain ⟨m, hm⟩ := k0; exact DataW.trod_lt m _ _ _ hm
  obtain ⟨z0, w0⟩ : ∃ zs, IsRow .i64 W a0 len0 cap0 zs := by
    obtain ⟨fuel, hf⟩ := h0
    rcases open_ints Try.underlying22 Try.underlying3 (by kernel_rfl) hf with ⟨hcs, _⟩ | ⟨x, l, c, zs, hcs, _, hl, hm, hz, _, hcell, hwz⟩
    · simp [Value.cells] at hcs
      obtain ⟨rfl, rfl, rfl⟩ := hcs
      exact ⟨[], .inl ⟨rfl, rfl, rfl, rfl⟩⟩
    · simp [Value.cells] at hcs
      obtain ⟨rfl, rfl, rfl⟩ := hcs
      exact ⟨zs, .inr ⟨_, rfl, hl, hm, by simpa using hz, hcell, hwz⟩⟩
  have y0 : len0 * 8 ≤ 140737488351232 := Go.Proofs.YtnnmbmgnpdcefaaW.PrintWords.sized_ints hsz (j := 0) (t := 22) rfl rfl Try.underlying22 Try.underlying3 (by kernel_rfl) (by kernel_rfl) h0
  obtain ⟨ri0, ln0⟩ := read_in w0
  obtain ⟨a1, rfl, rfl, rfl, w1⟩ := open_int Try.underlying3 (hval 1 3 v1 rfl rfl) h1
  have hcall : Calls Try.prog 7 #[.slice a0 len0 cap0, .int .i64 a1] W fun e W' => e = .returned (.bool true) ∧ Below W.heap.size W W' := by
    have hr0 : RdS (RpI .i64) (hp W) a0 len0 cap0 (z0.take len0) := rds_in w0
    have hs0 : Strm (z0.take len0) := strm_in w0 (by omega)
    have hs1 : I64 a1 := i64_in w1
    have hbase : BaseT (hp W) := by intro x hx; cases hx
    have hbi : BaseI (hp W) := by intro x hx; cases hx
    refine (c_maskkeep4_RulesApart (Q := fun r => r = true) ((RulesApart_ok hs0 hs1) _ fun _ h => h) hr0 (St.start W ⟨hbase, hbi⟩)).mono ?_
    rintro e W' ⟨r, rfl, rfl, hS⟩
    exact ⟨rfl, hS.below (Le.refl _) (hS.size_le (Le.refl _))⟩
  clear hA0 hval0 hsz0 hsz
  refine hcall.mono fun e W' ⟨he, bel⟩ => ?_
  subst he
  exact ⟨_, rfl, _, _, _, [], _, [], hW', trodAll_mk1 (shut_bool Try.underlying4 _), (trodAll_cons_mk (Below.trod laidOut (by kernel_rfl) (of_decide_eq_true (by kernel_rfl)) k0 bel lt0) (trodAll_cons_mk (shut_int Try.underlying3 w1) trodAll_mk0)), rfl, bel.frame _, fun h => by cases h⟩
theorem over : Rows.rulesApartRow.holds Try.pinned (OpenSpec.ofChange Rows.rulesApartSpec) :=
  OpenClaim.holds_of_wide 7 Try.f7 rfl rfl rfl rfl rfl rfl rfl ⟨rfl, rfl, rfl, rfl, rfl⟩ rfl rfl rfl rfl rfl (by kernel_rfl) Try.func7 (by kernel_rfl)
    (of_decide_eq_true (by kernel_rfl)) (by unfold Func.isWrapper; first | (rw [if_pos (by decide +kernel)]; kernel_rfl) | (rw [if_neg (by decide +kernel)]; exact ⟨rfl, rfl⟩))
    (fun os started H enc _ => lifted os started H enc)
theorem proved : Rows.RulesApartSaid := over
#print axioms proved
end Go.Proofs.Ytnnmbmgnpdcefaa.rulesApart
namespace Go.Proofs.Ytnnmbmgnpdcefaa
/-- The row, under a short name, for the claim. -/
theorem rulesApart_holds : Rows.RulesApartSaid := rulesApart.proved
end Go.Proofs.Ytnnmbmgnpdcefaa
