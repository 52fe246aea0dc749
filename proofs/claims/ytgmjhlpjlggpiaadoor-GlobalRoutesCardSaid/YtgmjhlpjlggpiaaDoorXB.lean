/- The executor's operations: what each kind of operation yields, and the rules that pass over one. Lemmas over any program. -/
import Derived.Test.YtgmjhlpjlggpiaaDoorXA
import Derived.Test.YtgmjhlpjlggpiaaDoorXS
import Derived.KernelRfl
namespace Go.Proofs.YtgmjhlpjlggpiaaDoor.X
open Go Go.RowKit
set_option linter.unusedVariables false
set_option linter.unusedSimpArgs false

/-- In this world the operation yields v and nothing turns. -/
def At (P : Program) (E : Env) (o : Oper) (w : World) (v : Value) : Prop := (execOp (ev E) o).run P w = .ok (.value v) w
/-- In every world. -/
def Yl (P : Program) (E : Env) (o : Oper) (v : Value) : Prop := ∀ w, At P E o w v

section
variable {P : Program} {E : Env} {d : Option Nat} {ty : TypeId} {pos : String} {af : Array Edge} {g : Option (Nat × Bool)} {w : World}

theorem Yl.at {o : Oper} {v : Value} (h : Yl P E o v) : At P E o w v := h w
theorem yl_move {x : Operand} {v : Value} (hx : ev E x = v) : Yl P E ⟨d, .move x, ty, pos, af, g⟩ v := fun w => by simp [At, execOp, hx, pure, Sem.run]
theorem yl_assign {x : Operand} {v : Value} (hx : ev E x = v) : Yl P E ⟨d, .assign x, ty, pos, af, g⟩ v := fun w => by simp [At, execOp, hx, pure, Sem.run]
theorem yl_pick {c x y : Operand} {b : Bool} {v : Value} (hc : ev E c = .bool b) (hx : b = true → ev E x = v) (hy : b = false → ev E y = v) : Yl P E ⟨d, .pick c x y, ty, pos, af, g⟩ v := fun w => by
 cases b
 ·simp [At, execOp, hc, asBool, hy rfl]
 ·simp [At, execOp, hc, asBool, hx rfl]
theorem yl_and {c x y : Operand} {b b' : Bool} (hc : ev E c = .bool b) (hx : b = true → ev E x = .bool b') (hy : ev E y = .bool false) : Yl P E ⟨d, .pick c x y, ty, pos, af, g⟩ (.bool (b && b')) :=
 yl_pick hc (fun h => by rw [hx h, h]; rfl) (fun h => by rw [hy, h]; rfl)
theorem yl_or {c x y : Operand} {b b' : Bool} (hc : ev E c = .bool b) (hx : ev E x = .bool true) (hy : b = false → ev E y = .bool b') : Yl P E ⟨d, .pick c x y, ty, pos, af, g⟩ (.bool (b || b')) :=
 yl_pick hc (fun h => by rw [hx, h]; rfl) (fun h => by rw [hy h, h]; rfl)

/-! ### Whole numbers -/
theorem run_binOp_int (op : BinOp) (t : TypeId) (x y : Operand) (k : IntKind) (a b : Int) (v : Value) (h : (binOp op t (.int k a) (.int k b)).run P w = .ok v w) :
  (do eqGuard op t x y (.int k a) (.int k b); binOp op t (.int k a) (.int k b) : Sem Value).run P w = .ok v w := by
 cases op <;> simpa [eqGuard] using h
variable {x y : Operand} {t t' : TypeId} {k : IntKind} {a b c : Int}
theorem yl_int {op : BinOp} {v : Value} (hx : ev E x = .int k a) (hy : ev E y = .int k b) (h : ∀ w, (binOp op t (.int k a) (.int k b)).run P w = .ok v w) : Yl P E ⟨d, .binOp op t x y t', ty, pos, af, g⟩ v := fun w => by
 have := run_binOp_int (P := P) (w := w) op t x y k a b v (h w)
 simp only [At, execOp, hx, hy]
 rw [Sem.run_bind, this]
 simp [pure, Sem.run]
theorem yl_add (hx : ev E x = .int k a) (hy : ev E y = .int k b) (hc : k.wrap (a + b) = c) : Yl P E ⟨d, .binOp .add t x y t', ty, pos, af, g⟩ (.int k c) :=
 yl_int hx hy fun w => by simp [binOp, Op.intArith, pure, Sem.run, hc]
theorem yl_sub (hx : ev E x = .int k a) (hy : ev E y = .int k b) (hc : k.wrap (a - b) = c) : Yl P E ⟨d, .binOp .sub t x y t', ty, pos, af, g⟩ (.int k c) :=
 yl_int hx hy fun w => by simp [binOp, Op.intArith, pure, Sem.run, hc]
theorem yl_mul (hx : ev E x = .int k a) (hy : ev E y = .int k b) (hc : k.wrap (a * b) = c) : Yl P E ⟨d, .binOp .mul t x y t', ty, pos, af, g⟩ (.int k c) :=
 yl_int hx hy fun w => by simp [binOp, Op.intArith, pure, Sem.run, hc]
theorem yl_quo (hx : ev E x = .int k a) (hy : ev E y = .int k b) (hb : b ≠ 0) (hc : k.wrap (a.tdiv b) = c) : Yl P E ⟨d, .binOp .quo t x y t', ty, pos, af, g⟩ (.int k c) :=
 yl_int hx hy fun w => by simp [binOp, Op.intDiv, pure, Sem.run, hc, hb]
theorem yl_rem (hx : ev E x = .int k a) (hy : ev E y = .int k b) (hb : b ≠ 0) (hc : a.tmod b = c) : Yl P E ⟨d, .binOp .rem t x y t', ty, pos, af, g⟩ (.int k c) :=
 yl_int hx hy fun w => by simp [binOp, Op.intDiv, pure, Sem.run, hc, hb]
theorem yl_lss (hx : ev E x = .int k a) (hy : ev E y = .int k b) : Yl P E ⟨d, .binOp .lss t x y t', ty, pos, af, g⟩ (.bool (decide (a < b))) :=
 yl_int hx hy fun w => by simp [binOp, Op.intCmp, pure, Sem.run]
theorem yl_leq (hx : ev E x = .int k a) (hy : ev E y = .int k b) : Yl P E ⟨d, .binOp .leq t x y t', ty, pos, af, g⟩ (.bool (decide (a ≤ b))) :=
 yl_int hx hy fun w => by simp [binOp, Op.intCmp, pure, Sem.run]
theorem yl_gtr (hx : ev E x = .int k a) (hy : ev E y = .int k b) : Yl P E ⟨d, .binOp .gtr t x y t', ty, pos, af, g⟩ (.bool (decide (b < a))) :=
 yl_int hx hy fun w => by simp [binOp, Op.intCmp, pure, Sem.run]
theorem yl_geq (hx : ev E x = .int k a) (hy : ev E y = .int k b) : Yl P E ⟨d, .binOp .geq t x y t', ty, pos, af, g⟩ (.bool (decide (b ≤ a))) :=
 yl_int hx hy fun w => by simp [binOp, Op.intCmp, pure, Sem.run]
theorem yl_eql (hx : ev E x = .int k a) (hy : ev E y = .int k b) : Yl P E ⟨d, .binOp .eql t x y t', ty, pos, af, g⟩ (.bool (decide (a = b))) :=
 yl_int hx hy fun w => by simp [binOp, Op.intCmp, pure, Sem.run]; rfl
theorem yl_neq (hx : ev E x = .int k a) (hy : ev E y = .int k b) : Yl P E ⟨d, .binOp .neq t x y t', ty, pos, af, g⟩ (.bool (decide (a ≠ b))) :=
 yl_int hx hy fun w => by simp [binOp, Op.intCmp, pure, Sem.run]; rfl
theorem yl_not {b : Bool} (hx : ev E x = .bool b) : Yl P E ⟨d, .unOp .not t x, ty, pos, af, g⟩ (.bool (!b)) := fun w => by simp [At, execOp, hx, Op.unary, pure, Sem.run]
theorem wrap_i64 {n : Int} (h : -9223372036854775808 ≤ n ∧ n ≤ 9223372036854775807) : IntKind.i64.wrap n = n := by
 rw [IntKind.wrap_i64]; omega

/-! ### Parts -/
theorem yl_extract {vs : Array Value} {i : Nat} {v : Value} (hx : ev E x = .tuple vs) (hi : vs[i]? = some v) : Yl P E ⟨d, .extract x i, ty, pos, af, g⟩ v := fun w => by
 simp [At, execOp, hx, Instr.extract, hi, pure, Sem.run]
theorem yl_len_slice {A : Option Addr} {n cp : Nat} {e : TypeId} (ht : P.underlying t = some (.slice e)) (hx : ev E x = .slice A n cp) :
  Yl P E ⟨d, .call { callee := .builtin .len, args := #[x], argTypes := #[t] }, ty, pos, af, g⟩ (.int .i64 n) := fun w => by
 simp [At, execOp, resolve, invoke, builtin, hx, Builtin.len_, run_underlying ht, goInt, pure, Sem.run]
theorem yl_len_string {s : ByteArray} (ht : P.underlying t = some .string) (hx : ev E x = .string s) :
  Yl P E ⟨d, .call { callee := .builtin .len, args := #[x], argTypes := #[t] }, ty, pos, af, g⟩ (.int .i64 s.size) := fun w => by
 simp [At, execOp, resolve, invoke, builtin, hx, Builtin.len_, run_underlying ht, goInt, pure, Sem.run]

/-- Where field i of a struct type begins, its type (closed: by kernel_rfl). -/
def fieldAtB (P : Program) (s : TypeId) (i : Nat) : Option (Nat × TypeId) := match P.underlying s with
 | some (.struct fs) => match fs[i]? with
  | some f => match P.info? f.type with
   | some i => if i.size = 0 then none else some (f.offset, f.type)
   | none => none
  | none => none
 | _ => none
theorem yl_fieldAddr {s : TypeId} {i off : Nat} {ft : TypeId} {ad : Addr} (hs : fieldAtB P s i = some (off, ft)) (hx : ev E x = .pointer (some ad)) :
  Yl P E ⟨d, .fieldAddr s x i, ty, pos, af, g⟩ (.pointer (some (ad.add off))) := fun w => by
 unfold fieldAtB at hs
 split at hs
 ·rename_i fs hfs
  split at hs
  ·rename_i f hf
   split at hs
   ·rename_i inf hi
    split at hs
    ·cases hs
    ·rename_i hz
     simp only [Option.some.injEq, Prod.mk.injEq] at hs
     obtain ⟨rfl, rfl⟩ := hs
     simp [At, execOp, hx, Instr.fieldAt, run_underlying hfs, hf, Instr.sureAddr, fieldPlace, sizeOf, typeInfo, hi, hz, pure, Sem.run]
   ·cases hs
  ·cases hs
 ·cases hs
theorem add0 (b j : Nat) : (⟨b, 0, none⟩ : Addr).add j = ⟨b, j, none⟩ := by unfold Addr.add; split <;> simp_all
theorem yl_field0 {s : TypeId} {i off : Nat} {ft : TypeId} {b : Nat} (hs : fieldAtB P s i = some (off, ft)) (hx : ev E x = .pointer (some ⟨b, 0, none⟩)) :
  Yl P E ⟨d, .fieldAddr s x i, ty, pos, af, g⟩ (.pointer (some ⟨b, off, none⟩)) := by rw [← add0]; exact yl_fieldAddr hs hx

/-- A slice type: its element's type, cells, bytes (closed: by kernel_rfl). -/
def sliceB (P : Program) (t : TypeId) : Option (TypeId × Nat × Nat) := match P.underlying t with
 | some (.slice e) => match P.info? e with
  | some i => some (e, i.size, i.bytes)
  | none => none
 | _ => none
theorem sliceB_spec {e sz by_ : Nat} (h : sliceB P t = some (e, sz, by_)) : P.underlying t = some (.slice e) ∧ ∃ i, P.info? e = some i ∧ i.size = sz ∧ i.bytes = by_ := by
 unfold sliceB at h
 split at h
 ·rename_i e' he
  split at h
  ·rename_i i hi
   simp only [Option.some.injEq, Prod.mk.injEq] at h
   obtain ⟨rfl, rfl, rfl⟩ := h
   exact ⟨he, i, hi, rfl, rfl⟩
  ·cases h
 ·cases h
theorem yl_indexAddr {e sz by_ : Nat} {ad : Addr} {n cp : Nat} {i : Int} (ht : sliceB P t = some (e, sz, by_)) (hx : ev E x = .slice (some ad) n cp) (hy : ev E y = .int k i) (h0 : 0 ≤ i) (h1 : i < n) :
  Yl P E ⟨d, .indexAddr t x y, ty, pos, af, g⟩ (.pointer (some (ad.add (i.toNat * sz)))) := fun w => by
 obtain ⟨hu, inf, hi, rfl, _⟩ := sliceB_spec ht
 simp [At, execOp, hx, hy, Instr.indexAt, asIntOf, run_underlying hu, sizeOf, typeInfo, hi, h0, h1, pure, Sem.run]
theorem yl_makeFunc {fn : Fn} {first captured : Array Operand} {vs us : Array Value} (h1 : first.map (ev E) = vs) (h2 : captured.map (ev E) = us) : Yl P E ⟨d, .makeFunc fn first captured, ty, pos, af, g⟩ (.func fn vs us) := fun w => by
 simp [At, execOp, Instr.makeFunc, h1, h2, pure, Sem.run]

/-! ### Loads -/
/-- A type of one cell (closed: by kernel_rfl). -/
def oneB (P : Program) (t : TypeId) : Bool := match P.underlying t with
 | some (.struct _) | some (.array _ _) | none => false
 | _ => match P.info? t with | some i => i.size == 1 | none => false
theorem at_load {ad : Addr} {v : Value} (ht : oneB P t = true) (hx : ev E x = .pointer (some ad)) (hc : w.cell? ad = some v) : At P E ⟨d, .load t x, ty, pos, af, g⟩ w v := by
 have hag : (isAgg t).run P w = .ok false w := by
  unfold oneB at ht
  unfold isAgg
  cases hu : P.underlying t with
  | none => rw [hu] at ht; simp at ht
  | some dsc => rw [hu] at ht; cases dsc <;> simp_all [run_underlying hu, pure, Sem.run]
 simp [At, execOp, hx, Instr.loadAt, Instr.sureAddr, loadVar, hag, hc, pure, Sem.run]
/-- A struct or an array: of so many cells (closed: by kernel_rfl). -/
def aggB (P : Program) (t : TypeId) (n : Nat) : Bool := match P.underlying t with
 | some (.struct _) | some (.array _ _) => match P.info? t with | some i => i.size == n | none => false
 | _ => false
theorem at_loadAgg {ad : Addr} {n : Nat} {cs : List Value} (ht : aggB P t n = true) (hx : ev E x = .pointer (some ad)) (hn : cs.length = n) (hc : ∀ j v, cs[j]? = some v → w.cell? (ad.add j) = some v) :
  At P E ⟨d, .load t x, ty, pos, af, g⟩ w (.agg ⟨cs⟩) := by
 have hag : (isAgg t).run P w = .ok true w ∧ ∃ i, P.info? t = some i ∧ i.size = n := by
  unfold aggB at ht
  unfold isAgg
  cases hu : P.underlying t with
  | none => rw [hu] at ht; simp at ht
  | some dsc =>
   rw [hu] at ht
   cases hi : P.info? t with
   | none => rw [hi] at ht; cases dsc <;> simp at ht
   | some i => rw [hi] at ht; cases dsc <;> simp_all [run_underlying hu, pure, Sem.run]
 obtain ⟨h1, i, hi, rfl⟩ := hag
 have h2 := run_loadCells_list (P := P) (w := w) ad cs hc
 rw [hn] at h2
 simp [At, execOp, hx, Instr.loadAt, Instr.sureAddr, loadVar, h1, sizeOf, typeInfo, hi, h2, pure, Sem.run]

end

/-! ### The rules -/
section
variable {P : Program} {n : Nat} {R : Env → World → Prop} {st : List It} {E : Env} {w : World} {all : Array Oper} {rest : List Oper} {o : Oper}

theorem o_at {v : Value} (d : Nat) (hr : At P E o w v) (h : S P n R (.ops all rest :: st) (E.set d v) w) (hg : o.guard = none := by rfl) (hdd : o.dst = some d := by rfl) (hd : Nat.blt d n = true := by rfl) :
  S P n R (.ops all (o :: rest) :: st) E w := o_val hg (by rw [hdd]; exact hd) hr (by rw [hdd]; exact h)
theorem o_pure {v : Value} (d : Nat) (hr : Yl P E o v) (h : S P n R (.ops all rest :: st) (E.set d v) w) (hg : o.guard = none := by rfl) (hdd : o.dst = some d := by rfl) (hd : Nat.blt d n = true := by rfl) :
  S P n R (.ops all (o :: rest) :: st) E w := o_val hg (by rw [hdd]; exact hd) (hr w) (by rw [hdd]; exact h)

/-- What a guard's slot says. -/
def says (v : Value) (b : Bool) : Bool := match v with | .bool c => c == b | _ => false
def guardOf (all : Array Oper) (g : Option (Nat × Bool)) : Option (Nat × Bool) := match g with
 | some (j, b) => match (all[j]?).bind (·.dst) with | some t => some (t, b) | none => none
 | none => none
theorem wanted_says {a : Act} (hA : Is a E n) {t : Nat} {b q : Bool} (hg : guardOf all o.guard = some (t, b)) (ht : t < n) (hq : says (E t) b = q) : Region.wanted o (yielded all a.tmps) = q := by
 unfold guardOf at hg
 unfold Region.wanted
 cases hgd : o.guard with
 | none => rw [hgd] at hg; cases hg
 | some jb =>
  obtain ⟨j, want⟩ := jb
  rw [hgd] at hg
  simp only at hg ⊢
  cases hj : (all[j]?).bind (·.dst) with
  | none => rw [hj] at hg; cases hg
  | some t' =>
   rw [hj] at hg
   simp only [Option.some.injEq, Prod.mk.injEq] at hg
   obtain ⟨rfl, rfl⟩ := hg
   unfold yielded
   simp only [hj, Option.bind_some, hA.got ht]
   subst hq
   unfold says
   cases E t' <;> simp
/-- An operation behind a guard, that yields a value and turns nothing. -/
theorem o_if {v : Value} (d t : Nat) (b q : Bool) (hq : says (E t) b = q) (hr : q = true → At P E o w v) (h' : S P n R (.ops all rest :: st) (E.set d (bif q then v else undef)) w)
  (hg : guardOf all o.guard = some (t, b) := by rfl) (ht : Nat.blt t n = true := by rfl) (hdd : o.dst = some d := by rfl) (hd' : Nat.blt d n = true := by rfl) : S P n R (.ops all (o :: rest) :: st) E w := by
 have hd : fits o.dst n = true := by rw [hdd]; exact hd'
 have h : S P n R (.ops all rest :: st) (E.ins o.dst (bif q then v else undef)) w := by rw [hdd]; exact h'
 intro a hA
 have hw := wanted_says hA hg (by simpa [Nat.blt_eq] using ht) hq
 refine wpList_step fun K hK => ?_
 rw [hw]
 cases hqb : q with
 | true =>
  simp only [if_true]
  unfold Oper.wp
  rw [hA.eval, hr hqb]
  exact hK _ _ (by have := h _ (hA.put (fits_spec hd) _); rw [hqb] at this; exact this)
 | false =>
  simp only [Bool.false_eq_true, if_false]
  exact hK _ _ (by have := h _ (hA.put (fits_spec hd) _); rw [hqb] at this; exact this)
/-- A call behind a guard: what holds of the world before and behind it. -/
theorem o_call_if {f : FuncId} {args : Array Value} {v : Value} (I : World → Prop) (d t : Nat) (b q : Bool) (hq : says (E t) b = q) (hr : q = true → (execOp (ev E) o).run P w = .ok (.enter f args) w)
  (hI : I w) (hc : q = true → Calls P f args w fun e w' => e = .returned v ∧ I w') (h' : ∀ w', I w' → S P n R (.ops all rest :: st) (E.set d (bif q then v else undef)) w')
  (hg : guardOf all o.guard = some (t, b) := by rfl) (ht : Nat.blt t n = true := by rfl) (hdd : o.dst = some d := by rfl) (hd' : Nat.blt d n = true := by rfl) : S P n R (.ops all (o :: rest) :: st) E w := by
 have hd : fits o.dst n = true := by rw [hdd]; exact hd'
 have h : ∀ w', I w' → S P n R (.ops all rest :: st) (E.ins o.dst (bif q then v else undef)) w' := by rw [hdd]; exact h'
 intro a hA
 have hw := wanted_says hA hg (by simpa [Nat.blt_eq] using ht) hq
 refine wpList_step fun K hK => ?_
 rw [hw]
 cases hqb : q with
 | true =>
  simp only [if_true]
  unfold Oper.wp
  rw [hA.eval, hr hqb]
  refine (hc hqb).mono ?_
  rintro e w' ⟨rfl, hI'⟩
  exact hK _ _ (by have := h w' hI' _ (hA.put (fits_spec hd) _); rw [hqb] at this; exact this)
 | false =>
  simp only [Bool.false_eq_true, if_false]
  exact hK _ _ (by have := h w hI _ (hA.put (fits_spec hd) _); rw [hqb] at this; exact this)

/-! Calls -/
/-- A Go function that a call enters (closed: by kernel_rfl). -/
def callB (P : Program) (f : FuncId) : Bool := match P.funcs[f]? with | some fn => !(fn.name == "runtime.NumGoroutine") && !fn.body.isNone | none => false
theorem run_callFunc {f : FuncId} (hf : callB P f = true) (args : Array Value) : (callFunc f args).run P w = .ok (.enter f args) w := by
 unfold callB at hf
 unfold callFunc
 cases h : P.funcs[f]? with
 | none => rw [h] at hf; cases hf
 | some fn =>
  rw [h] at hf
  simp only [Bool.and_eq_true, Bool.not_eq_true'] at hf
  have h1 : ¬ fn.name = "runtime.NumGoroutine" := by simpa using hf.1
  have h2 : ¬ fn.body = none := by intro e; rw [e] at hf; simp at hf
  simp [h, h1, h2, pure, Sem.run]
variable {d : Option Nat} {ty : TypeId} {pos : String} {af : Array Edge} {g : Option (Nat × Bool)}
theorem run_call {f : FuncId} {args : Array Operand} {ats : Array TypeId} {vs : List Value} (hf : callB P f = true) (ha : args.toList.map (ev E) = vs) :
  (execOp (ev E) ⟨d, .call { callee := .value (.func f), args := args, argTypes := ats }, ty, pos, af, g⟩).run P w = .ok (.enter f ⟨vs⟩) w := by
 have ha' : args.map (ev E) = ⟨vs⟩ := Array.ext' (by simpa using ha)
 simp [execOp, resolve, ev, Deferred.ofValue, invoke, ha', run_callFunc hf]
theorem o_call {f : FuncId} {args : Array Operand} {ats : Array TypeId} {vs : List Value} (hf : callB P f = true) (ha : args.toList.map (ev E) = vs)
  (h : Calls P f ⟨vs⟩ w fun e w' => ∃ v, e = .returned v ∧ S P n R (.ops all rest :: st) (E.ins d v) w') (hd : fits d n = true := by rfl) :
  S P n R (.ops all (⟨d, .call { callee := .value (.func f), args := args, argTypes := ats }, ty, pos, af, none⟩ :: rest) :: st) E w :=
 o_enter rfl hd (run_call hf ha) h
/-- A call of a function value. -/
theorem run_callv {x : Operand} {f : FuncId} {first captured : Array Value} {args : Array Operand} {ats : Array TypeId} {vs : List Value} (hx : ev E x = .func (.func f) first captured) (hf : callB P f = true) (ha : first.toList ++ args.toList.map (ev E) ++ captured.toList = vs) :
  (execOp (ev E) ⟨d, .call { callee := .value x, args := args, argTypes := ats }, ty, pos, af, g⟩).run P w = .ok (.enter f ⟨vs⟩) w := by
 have ha' : first ++ args.map (ev E) ++ captured = ⟨vs⟩ := Array.ext' (by simpa using ha)
 simp [execOp, resolve, hx, Deferred.ofValue, invoke, ha', run_callFunc hf]
theorem o_callv {x : Operand} {f : FuncId} {first captured : Array Value} {args : Array Operand} {ats : Array TypeId} {vs : List Value} (hx : ev E x = .func (.func f) first captured) (hf : callB P f = true) (ha : first.toList ++ args.toList.map (ev E) ++ captured.toList = vs)
  (h : Calls P f ⟨vs⟩ w fun e w' => ∃ v, e = .returned v ∧ S P n R (.ops all rest :: st) (E.ins d v) w') (hd : fits d n = true := by rfl) :
  S P n R (.ops all (⟨d, .call { callee := .value x, args := args, argTypes := ats }, ty, pos, af, none⟩ :: rest) :: st) E w :=
 o_enter rfl hd (run_callv hx hf ha) h

/-! Memory -/
variable {w0 : World} {l : List Assn}
theorem run_newRow (t : TypeId) (cs : Array Value) : (newRow t cs).run P w = .ok ⟨w.heap.size, 0, none⟩ (w.alloc (.cells cs t)) := by
 simp [newRow]
theorem o_box {t : TypeId} {x : Operand} {v : Value} {cs : List Value} (hx : ev E x = v) (hcs : v.cells = ⟨cs⟩) (hS : St w0 w l)
  (h : ∀ b w', St w0 w' (cells b t cs :: l) → S P n R (.ops all rest :: st) (E.ins d (.pointer (some ⟨b, 0, none⟩))) w') (hd : fits d n = true := by rfl) :
  S P n R (.ops all (⟨d, .box t x, ty, pos, af, none⟩ :: rest) :: st) E w := by
 refine o_val rfl hd (v := .pointer (some ⟨w.heap.size, 0, none⟩)) (w' := w.alloc (.cells ⟨cs⟩ t)) ?_ (h _ _ (hS.alloc _))
 simp [execOp, hx, Instr.box, newVar, hcs, run_newRow, pure, Sem.run]
def zeroB (P : Program) (t : TypeId) : Option (List Value) := (P.info? t).bind fun i => i.zero.bind fun z => some z.cells.toList
theorem zeroB_spec {t : TypeId} {cs : List Value} (h : zeroB P t = some cs) : ∃ z, (∀ w, (zeroValue t).run P w = .ok z w) ∧ z.cells = ⟨cs⟩ := by
 unfold zeroB at h
 cases hi : P.info? t with
 | none => rw [hi] at h; cases h
 | some i =>
  rw [hi] at h
  simp only [Option.bind_some] at h
  cases hz : i.zero with
  | none => rw [hz] at h; cases h
  | some z =>
   rw [hz] at h
   simp only [Option.bind_some, Option.some.injEq] at h
   subst h
   exact ⟨z, fun w => by simp [zeroValue, typeInfo, hi, hz, pure, Sem.run], rfl⟩
theorem o_alloc {t : TypeId} {cs : List Value} (hz : zeroB P t = some cs) (hS : St w0 w l)
  (h : ∀ b w', St w0 w' (cells b t cs :: l) → S P n R (.ops all rest :: st) (E.ins d (.pointer (some ⟨b, 0, none⟩))) w') (hd : fits d n = true := by rfl) :
  S P n R (.ops all (⟨d, .alloc t, ty, pos, af, none⟩ :: rest) :: st) E w := by
 obtain ⟨z, hz1, hz2⟩ := zeroB_spec hz
 refine o_val rfl hd (v := .pointer (some ⟨w.heap.size, 0, none⟩)) (w' := w.alloc (.cells ⟨cs⟩ t)) ?_ (h _ _ (hS.alloc _))
 simp [execOp, Instr.alloc, newVar, hz1, hz2, run_newRow, pure, Sem.run]
/-- A store of one cell into a block of one's own. -/
theorem o_store {t : TypeId} {x y : Operand} {b : Nat} {te : TypeId} {i : Nat} {v : Value} {vs : List Value} (ht : oneB P t = true) (hx : ev E x = .pointer (some ⟨b, i, none⟩)) (hy : ev E y = v) (hv : v.oneCell' = true)
  (hi : i < vs.length) (hS : St w0 w (cells b te vs :: l)) (h : ∀ w', St w0 w' (cells b te (vs.set i v) :: l) → S P n R (.ops all rest :: st) (E.ins d undef) w') (hd : fits d n = true := by rfl) :
  S P n R (.ops all (⟨d, .store t x y, ty, pos, af, none⟩ :: rest) :: st) E w := by
 refine o_nil rfl hd (w' := w.setCell ⟨b, i, none⟩ v) ?_ (h _ (hS.set i v))
 have hsz : ∃ inf, P.info? t = some inf ∧ inf.size = 1 := by
  unfold oneB at ht
  cases hi : P.info? t with
  | none => rw [hi] at ht; split at ht <;> simp_all
  | some inf => rw [hi] at ht; split at ht <;> simp_all
 obtain ⟨inf, hinf, h1⟩ := hsz
 have hcs : v.cells = #[v] := by cases v <;> simp_all [Value.cells, Value.oneCell']
 have hcell : w.cell? ⟨b, i, none⟩ = some (vs[i]) := hS.cell (by simp [hi])
 have hst := run_store P w ⟨b, i, none⟩ v .plain hv
 rw [hcell, hS.unfrozen] at hst
 have hst' : (store (⟨b, i, none⟩ : Addr) v).run P w = .ok () (w.setCell ⟨b, i, none⟩ v) := by simpa using hst
 simp [execOp, hx, hy, Instr.storeAt, Instr.sureAddr, storeVar, hcs, sizeOf, typeInfo, hinf, h1, storeCells, Addr.add, hst', pure, Sem.run]

end
end Go.Proofs.YtgmjhlpjlggpiaaDoor.X
