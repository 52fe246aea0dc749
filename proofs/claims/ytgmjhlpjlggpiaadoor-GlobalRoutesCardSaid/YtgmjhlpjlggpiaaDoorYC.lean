/- The executor: a function's end with results in memory, calls, frames of plain programs. Lemmas over any program. -/
import Derived.Test.YtgmjhlpjlggpiaaDoorYB
namespace Go.Proofs.YtgmjhlpjlggpiaaDoor.X
open Go Go.RowKit
set_option linter.unusedVariables false
set_option linter.unusedSimpArgs false

/-! ### Results -/
def Ldv (P : Program) (t : TypeId) (ad : Addr) (w : World) (v : Value) : Prop := (loadVar t ad).run P w = .ok v w
theorem ldvA {P : Program} {t : TypeId} {ad : Addr} {w : World} {n : Nat} {cs : List Value} (ht : aggB P t n = true) (hn : cs.length = n) (hc : ∀ j v, cs[j]? = some v → w.cell? (ad.add j) = some v) : Ldv P t ad w (.agg ⟨cs⟩) := by
 have h := at_loadAgg (P := P) (E := fun _ => .pointer (some ad)) (d := none) (ty := 0) (pos := "") (af := #[]) (g := none) (x := .tmp 0) ht rfl hn hc
 simp only [At, execOp, ev, Instr.loadAt, Instr.sureAddr] at h
 unfold Ldv
 cases hr : (loadVar t ad).run P w with
 | ok v' w' => simp [hr, pure, Sem.run] at h; obtain ⟨h1, h2⟩ := h; rw [h1, h2]
 | halt x w' => simp [hr, pure, Sem.run] at h
def ResW (P : Program) : List ResultVar → Env → World → List Value → Prop
 | [], _, _, vs => vs = []
 | .tmp t :: rs, E, w, vs => ∃ v us, vs = v :: us ∧ E t = v ∧ ResW P rs E w us
 | .cell c t :: rs, E, w, vs => ∃ ad v us, vs = v :: us ∧ E c = .pointer (some ad) ∧ Ldv P t ad w v ∧ ResW P rs E w us
def oneOf : List Value → Value
 | [v] => v
 | vs => .tuple ⟨vs⟩
theorem run_resW {P : Program} {w : World} {a : Act} {E : Env} {n : Nat} (hA : Is a E n) : ∀ (rs : List ResultVar) (vs : List Value), ResW P rs E w vs →
  (rs.mapM fun | .tmp t => (pure (a.tmps.getD t undef) : Sem Value) | .cell c t => do loadVar t (← asAddr (a.tmps.getD c undef)) : Sem (List Value)).run P w = .ok vs w
 | [], vs, h => by simp only [ResW] at h; subst h; simp [pure, Sem.run]
 | .tmp t :: rs, vs, h => by
  obtain ⟨v, us, rfl, hv, hr⟩ := h
  have ih := run_resW hA rs us hr
  rw [List.mapM_cons, Sem.run_bind]
  simp only [Sem.run_pure, Result.andThen_ok]
  rw [Sem.run_bind, ih]
  simp [hA.get, hv]
 | .cell c t :: rs, vs, h => by
  obtain ⟨ad, v, us, rfl, hv, hl, hr⟩ := h
  have ih := run_resW hA rs us hr
  have h1 : (do loadVar t (← asAddr (a.tmps.getD c undef)) : Sem Value).run P w = .ok v w := by
   rw [hA.get, hv]
   simp only [Sem.run_bind]
   have : (asAddr (.pointer (some ad))).run P w = .ok ad w := by simp [asAddr, pure, Sem.run]
   rw [this]
   exact hl
  rw [List.mapM_cons, Sem.run_bind, h1]
  simp only [Result.andThen_ok]
  rw [Sem.run_bind, ih]
  simp
theorem enterC {P : Program} {f : FuncId} {fn : Func} {c : Code} {args : Array Value} {w : World} {Rr : Ending → World → Prop} (hf : P.funcs[f]? = some fn) (hb : fn.body = some c)
  (n : Nat) (hn : fn.ntmps = n) (ha : args.size ≤ n)
  (h : S P n (fun E w => ∃ vs, ResW P fn.results.toList E w vs ∧ Rr (.returned (oneOf vs)) w) [.code c] (fun t => args.getD t undef) w) : Calls P f args w Rr := by
 subst hn
 refine calls_of_wp hf hb ?_
 have hA : Is { tmps := args ++ Array.replicate (fn.ntmps - args.size) undef, defers := [] } (fun t => args.getD t undef) fn.ntmps := by
  refine ⟨by simp; omega, fun t => ?_, rfl⟩
  simp only [Array.getD_eq_getD_getElem?, Array.getElem?_append]
  split
  ·rfl
  ·rename_i hlt
   have h1 : args[t]? = none := Array.getElem?_eq_none (by omega)
   rw [h1, Array.getElem?_replicate]
   split <;> rfl
 have hres : ∀ (a' : Act) (E' : Env) (w' : World) (vs : List Value), Is a' E' fn.ntmps → ResW P fn.results.toList E' w' vs → (results fn a'.tmps).run P w' = .ok (oneOf vs) w' := by
  intro a' E' w' vs hA' hr
  have := run_resW (P := P) hA' _ _ hr
  have h2 : (fn.results.mapM fun | .tmp t => (pure (a'.tmps.getD t undef) : Sem Value) | .cell c t => do loadVar t (← asAddr (a'.tmps.getD c undef)) : Sem (Array Value)).run P w' = .ok ⟨vs⟩ w' := by
   rw [Array.mapM_eq_mapM_toList]
   show ((fn.results.toList.mapM fun | .tmp t => (pure (a'.tmps.getD t undef) : Sem Value) | .cell c t => do loadVar t (← asAddr (a'.tmps.getD c undef)) : Sem (List Value)) >>= fun l => pure l.toArray).run P w' = _
   rw [Sem.run_bind, this]
   rfl
  unfold results
  rw [Sem.run_bind]
  erw [h2]
  match vs with
  | [] => rfl
  | [x] => rfl
  | x :: y :: vs => rfl
 refine wp_mono (h _ hA) ?_
 rintro e a' w' ⟨E', hA', hX⟩
 cases e with
 | normal => obtain ⟨vs, hv, hr⟩ := hX; exact ⟨hA'.defers, _, hres a' E' w' vs hA' hv, hr⟩
 | ret => obtain ⟨vs, hv, hr⟩ := hX; exact ⟨hA'.defers, _, hres a' E' w' vs hA' hv, hr⟩
 | exit id => exact hX.elim
 | goto l => exact hX.elim
 | panic ch => exact hX.elim
 | outgrown => exact hX.elim

section
variable {α β γ : Type}
/-- A piece with two ends: the first goes on. -/
def bs (m : Option (α ⊕ γ)) (k2 : γ → Option β) (k : α → Option β) : Option β := match m with
 | some (.inl x) => k x
 | some (.inr y) => k2 y
 | none => none
theorem bs_s {m : Option (α ⊕ γ)} {k : α → Option β} {k2 : γ → Option β} {r : β} (h : bs m k2 k = some r) : ∃ o, m = some o ∧ (match o with | .inl x => k x | .inr y => k2 y) = some r := by
 cases m with
 | none => cases h
 | some o => cases o <;> exact ⟨_, rfl, h⟩
end
section
variable {E : Env} {a b c d e f g h : Operand} {va vb vc vd ve vf vg vh : Value}
theorem args0 : (#[] : Array Operand).toList.map (ev E) = [] := rfl
theorem args1 (ha : ev E a = va) : #[a].toList.map (ev E) = [va] := by subst ha; rfl
theorem args2 (ha : ev E a = va) (hb : ev E b = vb) : #[a, b].toList.map (ev E) = [va, vb] := by subst ha; subst hb; rfl
theorem args3 (ha : ev E a = va) (hb : ev E b = vb) (hc : ev E c = vc) : #[a, b, c].toList.map (ev E) = [va, vb, vc] := by subst ha; subst hb; subst hc; rfl
theorem args4 (ha : ev E a = va) (hb : ev E b = vb) (hc : ev E c = vc) (hd : ev E d = vd) : #[a, b, c, d].toList.map (ev E) = [va, vb, vc, vd] := by subst ha; subst hb; subst hc; subst hd; rfl
/-- What a struct's parts are. -/
theorem parts_eq {ps : List (Nat × Operand)} {qs : List (Nat × Value)} (h : (ps.map fun p => (p.1, ev E p.2)) = qs) : ((⟨ps⟩ : Array (Nat × Operand)).toList.map fun p => (p.1, ev E p.2)) = qs := h
theorem pt0 : ([] : List (Nat × Operand)).map (fun p => (p.1, ev E p.2)) = [] := rfl
theorem pt {i : Nat} {ps : List (Nat × Operand)} {qs : List (Nat × Value)} (ha : ev E a = va) (h : (ps.map fun p => (p.1, ev E p.2)) = qs) : (((i, a) :: ps).map fun p => (p.1, ev E p.2)) = (i, va) :: qs := by
 simp only [List.map_cons]; rw [h, ha]
end
section
variable {P : Program} {n : Nat} {R : Env → World → Prop} {st : List It} {E : Env} {w w0 : World} {all : Array Oper} {rest : List Oper} {l : List Assn} {T : Env → World → Prop} {C : World → Prop}
variable {d : Nat} {dd : Option Nat} {op : Op} {ty t t' : TypeId} {pos : String} {af : Array Edge} {g : Option (Nat × Bool)} {v : Value} {x y : Operand}
/-- A call, out of the callee's contract. -/
theorem o_cc {f : FuncId} {args : Array Operand} {ats : Array TypeId} {vs : List Value} {Φ : Ending → World → Prop} (hf : callB P f = true) (ha : args.toList.map (ev E) = vs) (hc : Calls P f ⟨vs⟩ w Φ)
  (h : ∀ e w', Φ e w' → ∃ v, e = .returned v ∧ S P n R (.ops all rest :: st) (E.ins dd v) w') (hd : fits dd n = true := by rfl) :
  S P n R (.ops all (⟨dd, .call { callee := .value (.func f), args := args, argTypes := ats }, ty, pos, af, none⟩ :: rest) :: st) E w := o_call hf ha (hc.mono h) hd
theorem o_ccv {f : FuncId} {first captured : Array Value} {args : Array Operand} {ats : Array TypeId} {vs : List Value} {Φ : Ending → World → Prop} (hx : ev E x = .func (.func f) first captured) (hf : callB P f = true) (ha : first.toList ++ args.toList.map (ev E) ++ captured.toList = vs) (hc : Calls P f ⟨vs⟩ w Φ)
  (h : ∀ e w', Φ e w' → ∃ v, e = .returned v ∧ S P n R (.ops all rest :: st) (E.ins dd v) w') (hd : fits dd n = true := by rfl) :
  S P n R (.ops all (⟨dd, .call { callee := .value x, args := args, argTypes := ats }, ty, pos, af, none⟩ :: rest) :: st) E w := o_callv hx hf ha (hc.mono h) hd
theorem qcc {f : FuncId} {args : Array Operand} {ats : Array TypeId} {vs : List Value} (hf : callB P f = true) (ha : args.toList.map (ev E) = vs) (hc : ∀ w', C w' → Calls P f ⟨vs⟩ w' fun e w'' => e = .returned v ∧ C w'')
  (h : Qt P n C T all rest (E.set d v)) (hd : Nat.blt d n = true := by rfl) : Qt P n C T all (⟨some d, .call { callee := .value (.func f), args := args, argTypes := ats }, ty, pos, af, none⟩ :: rest) E :=
 q_call d (fun w' _ => run_call hf ha) hc h rfl rfl hd
/-- A call behind a guard that leaves all as it was. -/
theorem pccg {f : FuncId} {args : Array Operand} {ats : Array TypeId} {vs : List Value} (tt : Nat) {b c : Bool} (hq : says (E tt) b = c) (hf : callB P f = true) (ha : c = true → args.toList.map (ev E) = vs) (hS : St w0 w l) (hc : c = true → Calls P f ⟨vs⟩ w fun e w'' => e = .returned v ∧ St w0 w'' l)
  (h : ∀ w', St w0 w' l → S P n R (.ops all rest :: st) (E.set d (bif c then v else undef)) w') (hg : guardOf all g = some (tt, b) := by rfl) (ht : Nat.blt tt n = true := by rfl) (hd : Nat.blt d n = true := by rfl) :
  S P n R (.ops all (⟨some d, .call { callee := .value (.func f), args := args, argTypes := ats }, ty, pos, af, g⟩ :: rest) :: st) E w :=
 o_call_if (fun w' => St w0 w' l) d tt b c hq (fun hc' => run_call hf (ha hc')) hS hc h hg ht rfl hd
theorem yor' {c' : Operand} {b b' r : Bool} (hc : ev E c' = .bool b) (hx : ev E x = .bool true) (hy : b = false → ev E y = .bool b') (h : r = (b || b')) : Yl P E ⟨dd, .pick c' x y, ty, pos, af, g⟩ (.bool r) := by subst h; exact yl_or hc hx hy
theorem yand' {c' : Operand} {b b' r : Bool} (hc : ev E c' = .bool b) (hx : b = true → ev E x = .bool b') (hy : ev E y = .bool false) (h : r = (b && b')) : Yl P E ⟨dd, .pick c' x y, ty, pos, af, g⟩ (.bool r) := by subst h; exact yl_and hc hx hy
theorem o_store1 {b : Nat} {te : TypeId} {i : Nat} {vs : List Value} (ht : oneB P t = true) (hx : ev E x = .pointer (some ⟨b, i, none⟩)) (hy : ev E y = v) (hv : v.oneCell' = true) (hi : Nat.blt i vs.length = true) (hS : St w0 w (cells b te vs :: l))
  (h : ∀ w', St w0 w' (cells b te (vs.set i v) :: l) → S P n R (.ops all rest :: st) (E.ins dd undef) w') (hd : fits dd n = true := by rfl) :
  S P n R (.ops all (⟨dd, .store t x y, ty, pos, af, none⟩ :: rest) :: st) E w := o_store ht hx hy hv (by simpa [Nat.blt_eq] using hi) hS h hd
end
end Go.Proofs.YtgmjhlpjlggpiaaDoor.X
