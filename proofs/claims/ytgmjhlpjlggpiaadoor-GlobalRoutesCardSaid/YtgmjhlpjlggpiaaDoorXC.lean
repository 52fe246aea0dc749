/- The executor: a function's entry and end; slices made, grown, copied. Lemmas over any program. -/
import Derived.Test.YtgmjhlpjlggpiaaDoorXQ
namespace Go.Proofs.YtgmjhlpjlggpiaaDoor.X
open Go Go.RowKit
set_option linter.unusedVariables false
set_option linter.unusedSimpArgs false

/-! ### A function's entry and end -/
def tmpsOf : List ResultVar → Env → Option (List Value)
 | [], _ => some []
 | .tmp t :: rs, E => (tmpsOf rs E).map (E t :: ·)
 | .cell _ _ :: _, _ => none
def resOf (rs : Array ResultVar) (E : Env) : Option Value := match tmpsOf rs.toList E with
 | some [v] => some v
 | some vs => some (.tuple ⟨vs⟩)
 | none => none
theorem mapM_tmps {P : Program} {w : World} {a : Act} {E : Env} {n : Nat} (hA : Is a E n) : ∀ (rs : List ResultVar) (vs : List Value), tmpsOf rs E = some vs →
  (rs.mapM fun | .tmp t => (pure (a.tmps.getD t undef) : Sem Value) | .cell c t => do loadVar t (← asAddr (a.tmps.getD c undef)) : Sem (List Value)).run P w = .ok vs w
 | [], vs, h => by simp only [tmpsOf, Option.some.injEq] at h; subst h; simp [pure, Sem.run]
 | .tmp t :: rs, vs, h => by
  simp only [tmpsOf] at h
  cases hr : tmpsOf rs E with
  | none => rw [hr] at h; cases h
  | some us =>
   rw [hr] at h
   simp only [Option.map_some, Option.some.injEq] at h
   subst h
   have ih := mapM_tmps (P := P) (w := w) hA rs us hr
   rw [List.mapM_cons, Sem.run_bind]
   simp only [Sem.run_pure, Result.andThen_ok]
   rw [Sem.run_bind, ih]
   simp [hA.get]
 | .cell _ _ :: _, _, h => by simp [tmpsOf] at h
theorem run_results {P : Program} {w : World} {a : Act} {E : Env} {n : Nat} (hA : Is a E n) {fn : Func} {v : Value} (h : resOf fn.results E = some v) : (results fn a.tmps).run P w = .ok v w := by
 unfold resOf at h
 unfold results
 cases hr : tmpsOf fn.results.toList E with
 | none => rw [hr] at h; cases h
 | some vs =>
  have := mapM_tmps (P := P) (w := w) hA _ _ hr
  have h2 : (fn.results.mapM fun | .tmp t => (pure (a.tmps.getD t undef) : Sem Value) | .cell c t => do loadVar t (← asAddr (a.tmps.getD c undef)) : Sem (Array Value)).run P w = .ok ⟨vs⟩ w := by
   rw [Array.mapM_eq_mapM_toList]
   show ((fn.results.toList.mapM fun | .tmp t => (pure (a.tmps.getD t undef) : Sem Value) | .cell c t => do loadVar t (← asAddr (a.tmps.getD c undef)) : Sem (List Value)) >>= fun l => pure l.toArray).run P w = _
   rw [Sem.run_bind, this]
   rfl
  rw [Sem.run_bind]
  erw [h2]
  rw [hr] at h
  match vs, h with
  | [], h => cases h; rfl
  | [x], h => cases h; rfl
  | x :: y :: vs, h => cases h; rfl

theorem enter {P : Program} {f : FuncId} {fn : Func} {c : Code} {args : Array Value} {w : World} {Rr : Ending → World → Prop} (hf : P.funcs[f]? = some fn) (hb : fn.body = some c)
  (n : Nat) (hn : fn.ntmps = n) (ha : args.size ≤ n)
  (h : S P n (fun E w => ∃ v, resOf fn.results E = some v ∧ Rr (.returned v) w) [.code c] (fun t => args.getD t undef) w) : Calls P f args w Rr := by
 subst hn
 refine calls_of_wp hf hb ?_
 have hA : Is { tmps := args ++ Array.replicate (fn.ntmps - args.size) undef, defers := [] } (fun t => args.getD t undef) fn.ntmps := by
  refine ⟨by simp; omega, fun t => ?_, rfl⟩
  simp only [Array.getD_eq_getD_getElem?, Array.getElem?_append]
  split
  ·rfl
  ·rename_i hlt
   have h1 : args[t]? = none := Array.getElem?_eq_none (by omega)
   rw [h1, Array.getElem?_replicate]
   split <;> rfl
 refine wp_mono (h _ hA) ?_
 rintro e a' w' ⟨E', hA', hX⟩
 cases e with
 | normal => obtain ⟨v, hv, hr⟩ := hX; exact ⟨hA'.defers, v, run_results hA' hv, hr⟩
 | ret => obtain ⟨v, hv, hr⟩ := hX; exact ⟨hA'.defers, v, run_results hA' hv, hr⟩
 | exit id => exact hX.elim
 | goto l => exact hX.elim
 | panic ch => exact hX.elim
 | outgrown => exact hX.elim
end Go.Proofs.YtgmjhlpjlggpiaaDoor.X
