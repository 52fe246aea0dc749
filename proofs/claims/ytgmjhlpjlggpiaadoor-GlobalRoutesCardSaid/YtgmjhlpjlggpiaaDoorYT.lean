/- Interface values: what is made of a value, what is asserted, methods that are called through them. Lemmas over any program. -/
import Derived.Test.YtgmjhlpjlggpiaaDoorYI
namespace Go.Proofs.YtgmjhlpjlggpiaaDoor.X
open Go Go.RowKit Go.Instr
set_option linter.unusedVariables false
set_option linter.unusedSimpArgs false
set_option linter.unusedSectionVars false
section
variable {P : Program} {n : Nat} {R : Env → World → Prop} {st : List It} {E : Env} {w w0 : World} {all : Array Oper} {rest : List Oper} {l : List Assn} {T : Env → World → Prop} {C : World → Prop}
variable {d : Nat} {dd : Option Nat} {op : Op} {ty t s : TypeId} {pos : String} {af : Array Edge} {g : Option (Nat × Bool)} {v rv : Value} {x y : Operand}
/-- A type that is no interface. -/
def concB (P : Program) (t : TypeId) : Bool := match P.underlying t with | some (.interface _) => false | some _ => true | none => false
theorem yl_iface (ht : concB P t = true) (hx : ev E x = v) : Yl P E ⟨dd, .makeInterface t x, ty, pos, af, g⟩ (.iface t v) := fun w => by
 unfold concB at ht
 split at ht
 ·cases ht
 ·rename_i u hu hn
  cases u <;> simp [At, execOp, hx, Instr.makeInterface, run_underlying hn, pure, Sem.run] at hu ⊢
 ·cases ht
theorem yl_assert (ht : concB P t = true) (hx : ev E x = .iface t v) : Yl P E ⟨dd, .typeAssert x s t false, ty, pos, af, g⟩ v := fun w => by
 unfold concB at ht
 split at ht
 ·cases ht
 ·rename_i u hu hn
  cases u <;> simp [At, execOp, hx, Instr.typeAssert, run_underlying hn, pure, Sem.run] at hu ⊢
 ·cases ht
/-- The method m of a pointer type: function f; pr: it takes the pointer itself, otherwise what lies there, one cell. -/
def methB (P : Program) (t : TypeId) (m : String) (f : FuncId) (pr : Bool) : Bool := match P.info? t with
 | some i => match P.underlying t with
  | some (.pointer e) => match i.methods.find? (·.name == m) with
   | some r => r.path.isEmpty && r.func == some (f, pr) && (pr || oneB P e)
   | none => false
  | _ => false
 | none => false
theorem run_loadVar {e : TypeId} {ad : Addr} (he : oneB P e = true) (hl : w.cell? ad = some v) : (loadVar e ad).run P w = .ok v w := by
 have hag : (isAgg e).run P w = .ok false w := by
  unfold oneB at he
  unfold isAgg
  cases hu : P.underlying e with
  | none => rw [hu] at he; simp at he
  | some dsc => rw [hu] at he; cases dsc <;> simp_all [run_underlying hu, pure, Sem.run]
 simp [loadVar, hag, hl, pure, Sem.run]
theorem run_method_p {m : String} {f : FuncId} {k : Nat} (hm : methB P t m f true = true) (v : Value) : (method (k + 1) t v m).run P w = .ok (f, v) w := by
 unfold methB at hm
 split at hm
 ·rename_i i hi
  split at hm
  ·rename_i e hu
   split at hm
   ·rename_i r hr
    simp only [Bool.and_eq_true, Bool.true_or, and_true, beq_iff_eq, Array.isEmpty_iff] at hm
    obtain ⟨hp, hf⟩ := hm
    simp [method, typeInfo, hi, hr, hp, hf, follow, receiverAt, run_underlying hu, Place.get, pure, Sem.run]
   ·cases hm
  ·cases hm
 ·cases hm
theorem run_wrap {ad : Addr} {s : String} {a : TypeId} {ats : Array TypeId} : (Builtin.ssaWrapNilChk_ ats a #[.pointer (some ad), strVal "", strVal s]).run P w = .ok (.pointer (some ad)) w := rfl
theorem run_method_v {m : String} {f : FuncId} {k : Nat} {ad : Addr} (hm : methB P t m f false = true) (hl : w.cell? ad = some rv) : (method (k + 1) t (.pointer (some ad)) m).run P w = .ok (f, rv) w := by
 unfold methB at hm
 split at hm
 ·rename_i i hi
  split at hm
  ·rename_i e hu
   split at hm
   ·rename_i r hr
    simp only [Bool.and_eq_true, Bool.false_or, beq_iff_eq, Array.isEmpty_iff] at hm
    obtain ⟨⟨hp, hf⟩, he⟩ := hm
    simp [method, typeInfo, hi, hr, hp, hf, follow, receiverAt, run_underlying hu, Place.get, run_wrap, asAddr, run_loadVar he hl, pure, Sem.run]
   ·cases hm
  ·cases hm
 ·cases hm
/-- A method that takes the pointer. -/
theorem run_calli {f : FuncId} {m : String} {args : Array Operand} {ats : Array TypeId} {vs : List Value} (hx : ev E x = .iface t v) (hm : methB P t m f true = true) (hf : callB P f = true) (ha : args.toList.map (ev E) = vs) :
  (execOp (ev E) ⟨dd, .call { callee := .invoke x m, args := args, argTypes := ats }, ty, pos, af, g⟩).run P w = .ok (.enter f ⟨v :: vs⟩) w := by
 have ha' : args.map (ev E) = ⟨vs⟩ := Array.ext' (by simpa using ha)
 have hd : P.types.size + Made.depth = (P.types.size + 99) + 1 := rfl
 simp [execOp, resolve, hx, invoke, callMethod, ha', hd, run_method_p hm, run_callFunc hf]
/-- A method that takes what lies there. -/
theorem run_calll {f : FuncId} {m : String} {ad : Addr} {args : Array Operand} {ats : Array TypeId} {vs : List Value} (hx : ev E x = .iface t (.pointer (some ad))) (hm : methB P t m f false = true) (hl : w.cell? ad = some rv) (hf : callB P f = true) (ha : args.toList.map (ev E) = vs) :
  (execOp (ev E) ⟨dd, .call { callee := .invoke x m, args := args, argTypes := ats }, ty, pos, af, g⟩).run P w = .ok (.enter f ⟨rv :: vs⟩) w := by
 have ha' : args.map (ev E) = ⟨vs⟩ := Array.ext' (by simpa using ha)
 have hd : P.types.size + Made.depth = (P.types.size + 99) + 1 := rfl
 simp [execOp, resolve, hx, invoke, callMethod, ha', hd, run_method_v hm hl, run_callFunc hf]
theorem o_ccr {f : FuncId} {vs : List Value} {Φ : Ending → World → Prop} (hr : (execOp (ev E) ⟨dd, op, ty, pos, af, none⟩).run P w = .ok (.enter f ⟨vs⟩) w) (hc : Calls P f ⟨vs⟩ w Φ)
  (h : ∀ e w', Φ e w' → ∃ v, e = .returned v ∧ S P n R (.ops all rest :: st) (E.ins dd v) w') (hd : fits dd n = true := by rfl) :
  S P n R (.ops all (⟨dd, op, ty, pos, af, none⟩ :: rest) :: st) E w := o_enter rfl hd hr (hc.mono h)
end
/-! a slice of one's own that is cut at its end -/
section
variable {P : Program} {E : Env} {w w0 : World} {l : List Assn} {dd : Option Nat} {ty t : TypeId} {pos : String} {af : Array Edge} {g : Option (Nat × Bool)} {x y : Operand} {α : Type} {R : Rp α} {ρ : Heap} {xs z : List α} {cs : List Value} {A : Option Addr} {n c e sz by_ : Nat} {i : Int} {k : IntKind}
theorem RepL.cut (h : RepL R ρ xs cs) (m : Nat) : RepL R ρ (xs.take m) (cs.take (m * R.sz)) := by
 induction xs generalizing cs m with
 | nil => cases h; simp; exact RepL.nil
 | cons x xs ih =>
  obtain ⟨c1, c2, rfl, h1, h2⟩ := h
  cases m with
  | zero => simp; exact RepL.nil
  | succ m =>
   refine ⟨c1, c2.take (m * R.sz), ?_, h1, ih h2 m⟩
   rw [List.take_append, List.take_of_length_le (by rw [R.len h1, Nat.add_mul]; omega), R.len h1, show (m + 1) * R.sz - R.sz = m * R.sz by rw [Nat.add_mul]; omega]
theorem ycut (ht : sliceB P t = some (e, sz, by_)) (hx : ev E x = .slice A n c) (hy : ev E y = .int k i) (hS : St w0 w (vec e sz (.slice A n c) n cs :: l)) (hk : 0 ≤ i ∧ i ≤ n) (hz : z = xs.take i.toNat) (hn : n = xs.length) : Yl P E ⟨dd, .slice t x none (some y) none, ty, pos, af, g⟩ (.slice A z.length c) := by
 have hl : z.length = i.toNat := by rw [hz, List.length_take]; omega
 have hc : n ≤ c := by
  rcases hS.vec_base with ⟨_, rfl, rfl, _⟩ | ⟨b, rfl⟩
  ·exact Nat.le_refl _
  ·obtain ⟨_, h, _⟩ := hS.vec_open; exact h
 rw [hl]; exact yl_slice_to ht hx hy hk.1 (by omega)
theorem St.vec_cut (hS : St w0 w (vec e R.sz (.slice A n c) n cs :: l)) (hR : RepL R ρ xs cs) (hk : 0 ≤ i ∧ i ≤ n) (hz : z = xs.take i.toNat) (hn : n = xs.length) : ∃ cs', RepL R ρ z cs' ∧ St w0 w (vec e R.sz (.slice A z.length c) z.length cs' :: l) := by
 have hl : z.length = i.toNat := by rw [hz, List.length_take]; omega
 refine ⟨cs.take (i.toNat * R.sz), by rw [hz]; exact hR.cut _, ?_⟩
 rw [hl]
 rcases hS.vec_base with ⟨rfl, rfl, rfl, rfl⟩ | ⟨b, rfl⟩
 ·have : i.toNat = 0 := by omega
  rw [this]; simpa using hS
 ·obtain ⟨cur, h1, h2, h3, h4, h5⟩ := hS.vec_open
  have := h5.vec_close (n := i.toNat) (by omega) h2 h3
  rw [← h4, List.take_take, Nat.min_eq_left (Nat.mul_le_mul_right _ (by omega))]
  exact this
end
end Go.Proofs.YtgmjhlpjlggpiaaDoor.X
