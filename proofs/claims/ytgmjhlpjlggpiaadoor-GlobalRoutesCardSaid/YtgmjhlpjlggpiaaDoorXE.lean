/- The executor: rows of whole numbers, read and written; joins; small words that the walks use. Lemmas over any program. -/
import Derived.Test.YtgmjhlpjlggpiaaDoorXD
namespace Go.Proofs.YtgmjhlpjlggpiaaDoor.X
open Go Go.RowKit
set_option linter.unusedVariables false
set_option linter.unusedSimpArgs false

def ints (k : IntKind) (xs : List Int) : List Value := xs.map (Value.int k)
def rd (xs : List Int) (i : Int) : Int := xs.getD i.toNat 0
theorem ints_get {k : IntKind} {xs : List Int} {i : Int} (h0 : 0 ≤ i) (h1 : i < xs.length) : (ints k xs)[i.toNat]? = some (.int k (rd xs i)) := by
 have : i.toNat < xs.length := by omega
 simp [ints, rd, this]
/-- A slice of numbers that is read. -/
def RI (ρ : Heap) (k : IntKind) (A : Option Addr) (xs : List Int) : Prop := RdC ρ A (ints k xs)
theorem RI.le {ρ ρ' : Heap} {k : IntKind} {A : Option Addr} {xs : List Int} (h : RI ρ k A xs) (hle : Le ρ ρ') : RI ρ' k A xs := RdC.le h hle
theorem RI.nil {ρ : Heap} {k : IntKind} {A : Option Addr} : RI ρ k A [] := RdC.nil
def adr (A : Option Addr) : Addr := A.getD default
theorem RdC.at {ρ : Heap} {A : Option Addr} {vs : List Value} (h : RdC ρ A vs) {j : Nat} {v : Value} (hj : vs[j]? = some v) : A = some (adr A) ∧ cellOf ρ ((adr A).add j) = some v := by
 obtain ⟨a, rfl, hc⟩ := h j v hj
 exact ⟨rfl, hc⟩

section
variable {P : Program} {n : Nat} {R : Env → World → Prop} {st : List It} {E : Env} {w : World} {all : Array Oper} {rest : List Oper} {o : Oper}
variable {d : Option Nat} {ty : TypeId} {pos : String} {af : Array Edge} {g : Option (Nat × Bool)} {w0 : World} {l : List Assn} {ρ : Heap}

/-! an element's address -/
theorem yl_index_r {t e sz by_ m cp : Nat} {x y : Operand} {k : IntKind} {i : Int} {A : Option Addr} (ht : sliceB P t = some (e, sz, by_)) (hx : ev E x = .slice A m cp) (hy : ev E y = .int k i) (hA : A = some (adr A)) (h0 : 0 ≤ i) (h1 : i < m) :
  Yl P E ⟨d, .indexAddr t x y, ty, pos, af, g⟩ (.pointer (some ((adr A).add (i.toNat * sz)))) := yl_indexAddr ht (by rw [hx, ← hA]) hy h0 h1
theorem RI.some {k : IntKind} {A : Option Addr} {xs : List Int} (h : RI ρ k A xs) {i : Int} (h0 : 0 ≤ i) (h1 : i < xs.length) : A = .some (adr A) := (RdC.at h (ints_get h0 h1)).1
theorem RI.cell {k : IntKind} {A : Option Addr} {xs : List Int} (h : RI ρ k A xs) (hS : St w0 w (ro ρ :: l)) {i : Int} (h0 : 0 ≤ i) (h1 : i < xs.length) : w.cell? ((adr A).add (i.toNat * 1)) = .some (.int k (rd xs i)) := by
 rw [Nat.mul_one]; exact hS.ro_cell (RdC.at h (ints_get h0 h1)).2
theorem St.ro_back {ρ' : Heap} (hle : Le ρ ρ') (hS : St w0 w (ro ρ' :: l)) : St w0 w (ro ρ :: l) := hS.tell fun F hF => ⟨fun b o hb => hF.1 b o (hle.ext b o hb), hle.base hF.2⟩

/-! guards -/
/-- Where a guard is known, it is struck. -/
theorem o_strip {op : Op} (t : Nat) (b : Bool) (hq : says (E t) b = true) (h : S P n R (.ops all (⟨d, op, ty, pos, af, none⟩ :: rest) :: st) E w) (hg : guardOf all g = some (t, b) := by rfl) (ht : Nat.blt t n = true := by rfl) :
  S P n R (.ops all (⟨d, op, ty, pos, af, g⟩ :: rest) :: st) E w := by
 intro a hA
 have hw := wanted_says (o := ⟨d, op, ty, pos, af, g⟩) hA hg (by simpa [Nat.blt_eq] using ht) hq
 have h1 := h a hA
 unfold wpList at h1 ⊢
 rw [if_pos hw]
 rw [if_pos (by simp [Region.wanted])] at h1
 exact h1
theorem o_pass {op : Op} (d' t : Nat) (b : Bool) (hq : says (E t) b = false) (h : S P n R (.ops all rest :: st) (E.set d' undef) w) (hg : guardOf all g = some (t, b) := by rfl) (ht : Nat.blt t n = true := by rfl) (hdd : d = some d' := by rfl) (hd : Nat.blt d' n = true := by rfl) :
  S P n R (.ops all (⟨d, op, ty, pos, af, g⟩ :: rest) :: st) E w := by
 subst hdd
 intro a hA
 have hw := wanted_says (o := ⟨some d', op, ty, pos, af, g⟩) hA hg (by simpa [Nat.blt_eq] using ht) hq
 unfold wpList
 rw [if_neg (by rw [hw]; simp)]
 exact h _ (hA.put (fits_spec (d := some d') hd) undef)
theorem says_t (c : Bool) : says (.bool c) true = c := by cases c <;> rfl
theorem says_f (c : Bool) : says (.bool c) false = !c := by cases c <;> rfl
theorem says_ift (q c : Bool) : says (bif q then .bool c else undef) true = (q && c) := by cases q <;> cases c <;> rfl
theorem cv {q : Bool} {v : Value} (h : q = true) : (bif q then v else undef) = v := by rw [h]; rfl
theorem t_not {a : Bool} (h : a = false) : (!a) = true := by cases a <;> simp_all

theorem and_i {a b : Bool} (h : a = true) (k : b = true) : (a && b) = true := by rw [h, k]; rfl
theorem yl_nilCheck {x : Operand} {ad : Addr} (hx : ev E x = .pointer (some ad)) : Yl P E ⟨d, .nilCheck x, ty, pos, af, g⟩ (.pointer (some ad)) := fun w => by
 simp [At, execOp, hx, pure, Sem.run]
/-- A struct type: where its fields begin, how many cells each has; its zero (closed: by kernel_rfl). -/
def structB (P : Program) (t : TypeId) : Option (List (Nat × Nat) × List Value) := match P.underlying t with
 | some (.struct fs) => (P.info? t).bind fun i => i.zero.bind fun z => some (fs.toList.map (fun f => (f.offset, match P.info? f.type with | some j => j.size | none => 0)), z.cells.toList)
 | _ => none
def fieldsB (P : Program) (t : TypeId) : Bool := match P.underlying t with
 | some (.struct fs) => fs.toList.all fun f => (P.info? f.type).isSome
 | _ => false
theorem mapM_places {fs : List Field} (h : ∀ f ∈ fs, (P.info? f.type).isSome = true) (w : World) :
  (fs.mapM fun f => (do pure (f.offset, ← sizeOf f.type) : Sem (Nat × Nat))).run P w = .ok (fs.map (fun f => (f.offset, match P.info? f.type with | some j => j.size | none => 0))) w := by
 induction fs with
 | nil => simp [pure, Sem.run]
 | cons f fs ih =>
  rw [List.mapM_cons, Sem.run_bind]
  have hf := h f (by simp)
  cases hi : P.info? f.type with
  | none => rw [hi] at hf; cases hf
  | some j =>
   have ih' := ih (fun f hf => h f (by simp [hf]))
   have h1 : (do pure (f.offset, ← sizeOf f.type) : Sem (Nat × Nat)).run P w = .ok (f.offset, j.size) w := by simp [sizeOf, typeInfo, hi]
   rw [h1, Result.andThen_ok, Sem.run_bind, ih', Result.andThen_ok]
   simp [hi]
theorem yl_build {t : TypeId} {parts : Array (Nat × Operand)} {places : List (Nat × Nat)} {zs cs : List Value} (hb : structB P t = some (places, zs)) (hfs : fieldsB P t = true) {ps : List (Nat × Value)} (hp : (parts.toList.map fun p => (p.1, ev E p.2)) = ps)
  (hf : Instr.fill (fun i => (⟨places⟩ : Array (Nat × Nat))[i]?) ⟨zs⟩ ps = some ⟨cs⟩) : Yl P E ⟨d, .build t parts, ty, pos, af, g⟩ (.agg ⟨cs⟩) := fun w => by
 unfold structB at hb
 unfold fieldsB at hfs
 split at hb
 ·rename_i fs hu
  rw [hu] at hfs
  simp only [List.all_eq_true] at hfs
  cases hi : P.info? t with
  | none => rw [hi] at hb; cases hb
  | some inf =>
   rw [hi] at hb
   simp only [Option.bind_some] at hb
   cases hz : inf.zero with
   | none => rw [hz] at hb; cases hb
   | some z =>
    rw [hz] at hb
    simp only [Option.bind_some, Option.some.injEq, Prod.mk.injEq] at hb
    obtain ⟨rfl, rfl⟩ := hb
    have hm := mapM_places (P := P) hfs w
    have hpl : (fs.mapM fun f => (do pure (f.offset, ← sizeOf f.type) : Sem (Nat × Nat))).run P w = .ok ⟨fs.toList.map (fun f => (f.offset, match P.info? f.type with | some j => j.size | none => 0))⟩ w := by
     rw [Array.mapM_eq_mapM_toList]
     show ((fs.toList.mapM fun f => (do pure (f.offset, ← sizeOf f.type) : Sem (Nat × Nat))) >>= fun l => pure l.toArray).run P w = _
     rw [Sem.run_bind, hm]
     rfl
    have hp' : (parts.map fun (x : Nat × Operand) => match x with | (i, x) => (i, ev E x)).toList = ps := by rw [← hp]; simp
    have hzv : (zeroValue t).run P w = .ok z w := by simp [zeroValue, typeInfo, hi, hz]
    simp only [At, execOp, Instr.build, Sem.run_bind, hzv, Result.andThen_ok, run_underlying hu, Sem.run_pure]
    erw [hpl]
    simp only [Result.andThen_ok]
    rw [hp']
    have hf' : Instr.fill (fun x => (⟨fs.toList.map (fun f => (f.offset, match P.info? f.type with | some j => j.size | none => 0))⟩ : Array (Nat × Nat))[x]?) z.cells ps = some ⟨cs⟩ := hf
    rw [hf']
    rfl
 ·cases hb

/-! joins -/
theorem X_mono : ∀ (st : List It) {R R' : Env → World → Prop} (e : Exit) (E : Env) (w : World), (∀ E w, R E w → R' E w) → X P n R st e E w → X P n R' st e E w
 | [], R, R', e, E, w, h, hX => by cases e <;> first | exact h _ _ hX | exact hX
 | .code c :: st, R, R', e, E, w, h, hX => by
  cases e with
  | normal => exact fun a hA => wp_mono (hX a hA) (fun e a' w' ⟨E', hA', h1⟩ => ⟨E', hA', X_mono st e E' w' h h1⟩)
  | _ => simp only [X] at hX ⊢; exact X_mono st _ E w h hX
 | .ops all rest :: st, R, R', e, E, w, h, hX => by
  cases e with
  | normal =>
   intro a hA
   have h1 := hX a hA
   have key : ∀ (rest : List Oper) (a : Act) (w : World) {Q Q' : Exit → Act → World → Prop}, (∀ e a w, Q e a w → Q' e a w) → wpList P all Q rest a w → wpList P all Q' rest a w := by
    intro rest
    induction rest with
    | nil => exact fun a w Q Q' hQ h => hQ _ _ _ h
    | cons o rest ih =>
     intro a w Q Q' hQ h
     unfold wpList at h ⊢
     split
     ·rename_i hw
      rw [if_pos hw] at h
      rcases h with h | ⟨h1, a0, w0, h2⟩
      ·refine .inl ?_
       unfold Oper.wp at h ⊢
       generalize (execOp a.eval o).run P w = r at *
       cases r with
       | ok nx w' =>
        cases nx <;> simp only [Oper.upon] at h ⊢
        case value v => exact ih _ _ hQ h
        case skip => exact ih _ _ hQ h
        case defer dd => exact ih _ _ hQ h
        case enter f args => exact h.mono fun e w'' he => by cases e <;> first | exact ih _ _ hQ he | exact hQ _ _ _ he | (obtain ⟨a1, w1, hq⟩ := he; exact ⟨a1, w1, hQ _ _ _ hq⟩)
        case row r args => exact h.mono fun v w'' he => ih _ _ hQ he
       | halt hh w' => cases hh <;> simp only [Oper.upon] at h ⊢; exact hQ _ _ _ h
      ·exact .inr ⟨h1, a0, w0, hQ _ _ _ h2⟩
     ·rename_i hw
      rw [if_neg hw] at h
      exact ih _ _ hQ h
   exact key rest a w (fun e a' w' ⟨E', hA', h1⟩ => ⟨E', hA', X_mono st e E' w' h h1⟩) h1
  | _ => simp only [X] at hX ⊢; exact X_mono st _ E w h hX
 | .blk id :: st, R, R', e, E, w, h, hX => by
  cases e with
  | exit id' => simp only [X] at hX ⊢; split <;> rename_i hid <;> simp only [hid, if_true, if_false] at hX <;> exact X_mono st _ E w h hX
  | _ => simp only [X] at hX ⊢; exact X_mono st _ E w h hX
 | .inv I :: st, R, R', e, E, w, h, hX => by
  cases e with
  | normal => exact hX
  | _ => simp only [X] at hX ⊢; exact X_mono st _ E w h hX

/-- Where the ways through a piece of code meet again: what holds there. -/
theorem x_join {c : Code} (J : Env → World → Prop) (h : S P n R (.code c :: .inv J :: st) E w) (go : ∀ E w, J E w → S P n R st E w) : S P n R (.code c :: st) E w := by
 intro a hA
 refine wp_mono (h a hA) ?_
 rintro e a' w' ⟨E', hA', hX⟩
 refine ⟨E', hA', ?_⟩
 cases e with
 | normal => exact go E' w' hX
 | _ => simpa [X] using hX
end
end Go.Proofs.YtgmjhlpjlggpiaaDoor.X
