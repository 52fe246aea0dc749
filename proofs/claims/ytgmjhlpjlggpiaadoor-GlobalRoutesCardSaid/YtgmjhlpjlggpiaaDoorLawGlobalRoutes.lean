/- The law GlobalRoutes: its row, out of the walk. No conditions. -/
import Derived.Test.YtgmjhlpjlggpiaaDoorVF
import Derived.Test.YtgmjhlpjlggpiaaDoorRows
import Derived.Test.YtgmjhlpjlggpiaaDoorWSized
import Derived.WalkKit
import Derived.ProofKit
import Derived.OpenShut
import Derived.ShutString
import Derived.ChangeOld
import Derived.Below
import Derived.SizedLaws
import Derived.LaidMore
import Derived.Stop.Joined
import Derived.SevenTiedAt
import Derived.Test.YtgmjhlpjlggpiaaDoorTie
import Derived.Test.YtgmjhlpjlggpiaaDoorCards
namespace Go.Proofs.YtgmjhlpjlggpiaaDoor.globalRoutes
open Go.ChangeShapes Go.WideShapes Go.ChangeAt Go.RowKit Go.Proofs.YtgmjhlpjlggpiaaDoor.X
open Go.ChangeMaps (open_string shut_string)
set_option linter.unusedVariables false
theorem own : ownKnob Tryd.prog.godebug = none := by kernel_rfl
theorem laidOut : laidOutB Tryd.prog = true := by kernel_rfl
def IsRow (k : IntKind) (w : World) (a : Option Addr) (len cap : Nat) (zs : List Int) : Prop :=
  (a = none ∧ len = 0 ∧ cap = 0 ∧ zs = []) ∨
  ∃ x, a = some x ∧ len ≤ cap ∧ cap ≤ maxLen ∧ zs.length = cap ∧ (∀ i, i < zs.length → w.cell? (x.add i) = some (.int k (zs.getD i 0))) ∧ ∀ n ∈ zs, (Lit.int k n).wf = true
/-- What came in, read by the walk's own words. -/
theorem read_in {k : IntKind} {W : World} {a : Option Addr} {len cap : Nat} {zs : List Int} (h : IsRow k W a len cap zs) : RI (hp W) k a (zs.take len) ∧ (zs.take len).length = len := by
  rcases h with ⟨rfl, rfl, rfl, rfl⟩ | ⟨x, rfl, hl, _, hz, hc, _⟩
  · exact ⟨RI.nil, rfl⟩
  · refine ⟨fun j v hj => ⟨x, rfl, ?_⟩, by simp; omega⟩
    simp only [ints, List.getElem?_map, List.getElem?_take] at hj
    split at hj
    · rename_i hlt
      have hjz : j < zs.length := by omega
      have h1 := hc j hjz
      simp only [List.getElem?_eq_getElem hjz, Option.map_some, Option.some.injEq] at hj
      rw [← hj]
      simpa [hjz, cell_hp] using h1
    · simp at hj
theorem repl_ints {k : IntKind} {ρ : Heap} : ∀ xs : List Int, RepL (RpI k) ρ xs (ints k xs)
  | [] => rfl
  | x :: xs => ⟨[.int k x], ints k xs, rfl, rfl, repl_ints xs⟩
theorem rds_in {k : IntKind} {W : World} {a : Option Addr} {len cap : Nat} {zs : List Int} (h : IsRow k W a len cap zs) : RdS (RpI k) (hp W) a len cap (zs.take len) := by
  have h2 := read_in h
  refine ⟨h2.2, ?_, _, repl_ints _, h2.1⟩
  rcases h with ⟨rfl, rfl, rfl, rfl⟩ | ⟨x, rfl, hl, _⟩
  · exact Nat.le_refl _
  · exact hl
theorem strm_in {W : World} {a : Option Addr} {len cap : Nat} {zs : List Int} (h : IsRow .i64 W a len cap zs) (hy : len ≤ 1000000000000000) : Strm (zs.take len) := by
  have h2 := (read_in h).2
  refine ⟨fun i hi => ?_, by omega⟩
  have hm : gt (zs.take len) i ∈ zs := List.mem_of_mem_take (gt_mem hi)
  rcases h with ⟨rfl, rfl, rfl, rfl⟩ | ⟨x, rfl, hl, hm1, hz, hc, hw⟩
  · simp at hm
  · have h3 := Bool.and_eq_true_iff.1 (hw _ hm)
    exact ⟨of_decide_eq_true h3.1, of_decide_eq_true h3.2⟩
theorem i64_in {n : Int} (h : (Lit.int .i64 n).wf = true) : I64 n := by
  have h3 := Bool.and_eq_true_iff.1 h
  exact ⟨of_decide_eq_true h3.1, of_decide_eq_true h3.2⟩
/-- The heap that the door's own run leaves meets the condition. -/
theorem door_met (os : Os) (args : Array Value) : laidMetH Tryd.prog Rows.globalRoutesRow.laid ((World.doorLaid Tryd.prog 24 os).forCall (fun _ _ => 0) ⟨#[], args, []⟩).memory :=
  laidMetH_of_parts3 (fuel := 8) (laidMet_of_run' 8 (by kernel_rfl) (by kernel_rfl)) (by kernel_rfl) (by kernel_rfl)
set_option maxRecDepth 100000 in
theorem lifted (os : Os) (started : os.Started) (H : Type) (enc : TypeId × Value → H) :
    ReturnsInHanded {} Tryd.checked os 3 .any (fun w args => (Rows.globalRoutesSpec.pre enc Tryd.prog Tryd.f3 Rows.globalRoutesRow.domain false w args ∧ laidMetH Tryd.prog Rows.globalRoutesRow.laid w) ∧ sizedMet enc Tryd.prog Tryd.f3 (OpenSpec.ofChange Rows.globalRoutesSpec) false w args) (Rows.globalRoutesSpec.post enc Tryd.prog Tryd.f3 false true false false) := by
  refine returnsInHanded_of_change_and (C := Tryd.checked) (X := fun w _ => laidMetH Tryd.prog Rows.globalRoutesRow.laid w) (fun _ _ _ hh h => h.of_heap hh) own started (by kernel_rfl) Tryd.func3
    (ChangeSpec.witness_shaped (enc := enc) (C := Tryd.checked) (os := os) (X := fun w _ => laidMetH Tryd.prog Rows.globalRoutesRow.laid w) false (World.doorLaid Tryd.prog 24 os) #[.slice none 0 0] 8 rfl (World.shaped_of_RefB (by kernel_rfl) (by kernel_rfl)) (by kernel_rfl) (by kernel_rfl) (by kernel_rfl) (door_met os _)) ?_
  intro W base args ds gs before hval0 hW hcnd hsz0 hL _
  have hsz : (DataW.weightsEach Tryd.prog (Tryd.f3.params.toList ++ Rows.globalRoutesSpec.plain.varTypes Tryd.prog) (ds ++ gs)).all (· ≤ reachBytes) = true := hsz0
  have hval : ∀ (j : Nat) t v, Tryd.f3.params[j]? = some t → args[j]? = some v → Value.okWide Tryd.prog W .any base t v := hval0
  have hW' := hW
  obtain ⟨p, q, hA0, hV, rfl, hfz, hnd⟩ := hW
  have hA : DataW.TrodAll enc Tryd.prog W 0 (fun _ => true) true Tryd.f3.params.toList args.toList ds p := hA0
  rw [Tryd.params3] at hA hval hsz
  obtain ⟨v0, vs0, d0, ds0, p0, q0, hargs, rfl, rfl, h0, r0⟩ := trodAll_cons hA
  obtain ⟨rfl, rfl, rfl⟩ := trodAll_nil r0
  obtain rfl : args = #[v0] := by cases args; simp_all
  obtain ⟨rfl, rfl⟩ := trodVars_none hV
  obtain ⟨a0, len0, cap0, rfl⟩ := okWide_slice Tryd.underlying22 (hval 0 22 v0 rfl rfl)
  have k0 := h0
  have lt0 : ∀ x ∈ p0, x.block < W.heap.size := by obtain ⟨m, hm⟩ := k0; exact DataW.trod_lt m _ _ _ hm
  obtain ⟨z0, w0⟩ : ∃ zs, IsRow .i64 W a0 len0 cap0 zs := by
    obtain ⟨fuel, hf⟩ := h0
    rcases open_ints Tryd.underlying22 Tryd.underlying3 (by kernel_rfl) hf with ⟨hcs, _⟩ | ⟨x, l, c, zs, hcs, _, hl, hm, hz, _, hcell, hwz⟩
    · simp [Value.cells] at hcs
      obtain ⟨rfl, rfl, rfl⟩ := hcs
      exact ⟨[], .inl ⟨rfl, rfl, rfl, rfl⟩⟩
    · simp [Value.cells] at hcs
      obtain ⟨rfl, rfl, rfl⟩ := hcs
      exact ⟨zs, .inr ⟨_, rfl, hl, hm, by simpa using hz, hcell, hwz⟩⟩
  have y0 : len0 * 8 ≤ 140737488351232 := Go.Proofs.YtgmjhlpjlggpiaaDoorW.PrintWords.sized_ints hsz (j := 0) (t := 22) rfl rfl Tryd.underlying22 Tryd.underlying3 (by kernel_rfl) (by kernel_rfl) h0
  obtain ⟨ri0, ln0⟩ := read_in w0
  have hcall : Calls Tryd.prog 3 #[.slice a0 len0 cap0] W fun e W' => e = .returned (.bool true) ∧ Below W.heap.size W W' := by
    have hr0 : RdS (RpI .i64) (hp W) a0 len0 cap0 (z0.take len0) := rds_in w0
    have hs0 : Strm (z0.take len0) := strm_in w0 (by omega)
    have hbase : BaseT (hp W) := by
      obtain ⟨ps, hv0, _⟩ := (show laidMet Tryd.prog Rows.globalRoutesRow.laid W from hL)
      obtain ⟨ps0, hv1⟩ := vars_tail hv0
      obtain ⟨ps1, hv2⟩ := vars_tail hv1
      exact vars_head hv2
    have hbi : BaseI (hp W) := by intro x hx; cases hx
    refine (c_maskkeep4_GlobalRoutes (Q := fun r => r = true) ((GlobalRoutes_ok hs0) _ fun _ h => h) hr0 (St.start W ⟨hbase, hbi⟩)).mono ?_
    rintro e W' ⟨r, rfl, rfl, hS⟩
    exact ⟨rfl, hS.below (Le.refl _) (hS.size_le (Le.refl _))⟩
  clear hA0 hval0 hsz0 hsz
  refine hcall.mono fun e W' ⟨he, bel⟩ => ?_
  subst he
  exact ⟨_, rfl, _, _, _, [], _, [], hW', trodAll_mk1 (shut_bool Tryd.underlying4 _), (trodAll_cons_mk (Below.trod laidOut (by kernel_rfl) (of_decide_eq_true (by kernel_rfl)) k0 bel lt0) trodAll_mk0), rfl, bel.frame _, fun h => by cases h⟩
theorem over : Rows.globalRoutesRow.holds Tryd.pinned (OpenSpec.ofChange Rows.globalRoutesSpec) :=
  OpenClaim.holds_of_wide 3 Tryd.f3 rfl rfl rfl rfl rfl rfl rfl ⟨rfl, rfl, rfl, rfl, rfl⟩ rfl rfl rfl rfl rfl (by kernel_rfl) Tryd.func3 (by kernel_rfl)
    (of_decide_eq_true (by kernel_rfl)) (by unfold Func.isWrapper; first | (rw [if_pos (by decide +kernel)]; kernel_rfl) | (rw [if_neg (by decide +kernel)]; exact ⟨rfl, rfl⟩))
    (fun os started H enc _ => lifted os started H enc)
theorem proved : Rows.GlobalRoutesSaid := over
theorem carded : Rows.GlobalRoutesCardSaid :=
  Claim7.holds_tied_plain_at .later [] [.data, .data, .data] true (true, "8a2209a431e427754e46b06525e97aad1efd2e68e9d9780f8d936b9a34868866") true
    proved (fun _ h => by cases h) (by kernel_rfl) (fun _ h => by cases h) globalRoutes_row_tie rfl ⟨rfl, rfl⟩ (by kernel_rfl) rfl
    (fun f fn hf hfn => by
      obtain rfl : f = 3 := Option.some.inj ((show Tryd.prog.funcNamed "maskwright/maskkeep4.GlobalRoutes" = some 3 by kernel_rfl).symm.trans hf) |>.symm
      obtain rfl : fn = Tryd.f3 := (Option.some.inj (Tryd.func3.symm.trans hfn)).symm
      exact ⟨by kernel_rfl, fun j t ht => by
        rw [Tryd.params3] at ht
        have hm : t ∈ [22] := by simpa using Array.mem_of_getElem? ht
        have hall : ([22].all fun u => !Tryd.prog.wantsStandIn u) = true := by kernel_rfl
        exact (show Tryd.prog.wantsStandIn t = false by simpa using List.all_eq_true.1 hall t hm)⟩)
    (by kernel_rfl)
#print axioms carded
end Go.Proofs.YtgmjhlpjlggpiaaDoor.globalRoutes
namespace Go.Proofs.YtgmjhlpjlggpiaaDoor
/-- The row, under a short name, for the claim. -/
theorem globalRoutes_holds : Rows.GlobalRoutesCardSaid := globalRoutes.carded
end Go.Proofs.YtgmjhlpjlggpiaaDoor
