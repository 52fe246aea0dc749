/- The executor: one judgement, a stack of code, an environment of slots and a world. No program in sight: lemmas over any program, for the walks of this claim. -/
import Derived.WalkKit
import Derived.BigQuiet
import Derived.Deep.Quiet
namespace Go.Proofs.YtgmjhlpjlggpiaaDoor.X
open Go Go.RowKit
set_option linter.unusedVariables false

/-! ### The slots, as a function -/
abbrev Env := Nat → Value
def Env.set (E : Env) (t : Nat) (v : Value) : Env := fun u => bif Nat.beq u t then v else E u
def Env.ins (E : Env) (t : Option Nat) (v : Value) : Env := match t with | some t => E.set t v | none => E
theorem Env.set_self (E : Env) (t : Nat) (v : Value) : E.set t v t = v := by simp [Env.set]
theorem Env.set_ne (E : Env) {t u : Nat} (v : Value) (h : u ≠ t) : E.set t v u = E u := by
 have : Nat.beq u t = false := by rw [← Bool.not_eq_true, Nat.beq_eq]; exact h
 simp [Env.set, this]

structure Is (a : Act) (E : Env) (n : Nat) : Prop where
 size : a.tmps.size = n
 get : ∀ t, a.tmps.getD t undef = E t
 defers : a.defers = []

def ev (E : Env) : Operand → Value
 | .tmp t => E t
 | .const v => v
 | .global g => .pointer (some ⟨g, 0, none⟩)
 | .func f => .func (.func f) #[] #[]

theorem Is.eval {a : Act} {E : Env} {n : Nat} (h : Is a E n) : a.eval = ev E := by
 funext x
 cases x <;> simp [Act.eval, ev, h.get]

theorem Is.put {a : Act} {E : Env} {n : Nat} (h : Is a E n) {d : Option Nat} (hd : ∀ t, d = some t → t < n) (v : Value) : Is (a.put d v) (E.ins d v) n := by
 cases d with
 | none => exact h
 | some t =>
  have ht := hd t rfl
  refine ⟨by simp [Act.put, h.size], fun u => ?_, h.defers⟩
  by_cases hu : u = t
  ·subst hu
   simp [Act.put, Env.ins, Env.set_self, h.size, ht, Array.getD]
  ·rw [Env.ins, Env.set_ne _ _ hu, ← h.get u]
   simp only [Act.put, Array.getD_eq_getD_getElem?]
   rw [Array.getElem?_setIfInBounds_ne (Ne.symm hu)]

/-- May the destination be written? (closed: by rfl) -/
def fits (d : Option Nat) (n : Nat) : Bool := match d with | some t => Nat.blt t n | none => true
theorem fits_spec {d : Option Nat} {n : Nat} (h : fits d n = true) : ∀ t, d = some t → t < n := by
 intro t ht
 subst ht
 simpa [fits, Nat.blt_eq] using h

theorem Is.got {a : Act} {E : Env} {n : Nat} (h : Is a E n) {t : Nat} (ht : t < n) : a.tmps[t]? = some (E t) := by
 rw [← h.get t, Array.getD_eq_getD_getElem?]
 have : t < a.tmps.size := by rw [h.size]; exact ht
 simp [this]

/-! ### The stack -/
inductive It where
 | code (c : Code)
 | ops (all : Array Oper) (rest : List Oper)
 | blk (id : Nat)
 | inv (I : Env → World → Prop)

def X (P : Program) (n : Nat) (R : Env → World → Prop) : List It → Exit → Env → World → Prop
 | [], .normal, E, w => R E w
 | [], .ret, E, w => R E w
 | [], _, _, _ => False
 | .code c :: st, .normal, E, w => ∀ a, Is a E n → c.wp P (fun e a' w' => ∃ E', Is a' E' n ∧ X P n R st e E' w') a w
 | .ops all rest :: st, .normal, E, w => ∀ a, Is a E n → wpList P all (fun e a' w' => ∃ E', Is a' E' n ∧ X P n R st e E' w') rest a w
 | .blk _ :: st, .normal, E, w => X P n R st .normal E w
 | .inv I :: _, .normal, E, w => I E w
 | .blk id :: st, .exit id', E, w => if id' = id then X P n R st .normal E w else X P n R st (.exit id') E w
 | _ :: st, e, E, w => X P n R st e E w

abbrev S (P : Program) (n : Nat) (R : Env → World → Prop) (st : List It) (E : Env) (w : World) : Prop := X P n R st .normal E w

section
variable {P : Program} {n : Nat} {R : Env → World → Prop} {st : List It} {E : Env} {w : World}

theorem x_seq {a b : Code} (h : S P n R (.code a :: .code b :: st) E w) : S P n R (.code (.seq a b) :: st) E w := by
 intro ac hA
 refine wp_seq (wp_mono (h ac hA) ?_)
 rintro e a' w' ⟨E', hA', hX⟩
 cases e with
 | normal => exact hX a' hA'
 | _ => exact ⟨E', hA', by simpa [X] using hX⟩

theorem x_skip (h : S P n R st E w) : S P n R (.code .skip :: st) E w := fun a hA => wp_skip ⟨E, hA, h⟩

theorem x_block {id : Nat} {c : Code} (h : S P n R (.code c :: .blk id :: st) E w) : S P n R (.code (.block id c) :: st) E w := by
 intro a hA
 refine wp_block (wp_mono (h a hA) ?_)
 rintro e a' w' ⟨E', hA', hX⟩
 cases e with
 | exit id' =>
  simp only [X] at hX
  simp only [Exit.inBlock]
  split
  ·rename_i hid; rw [if_pos hid] at hX; exact ⟨E', hA', hX⟩
  ·rename_i hid; rw [if_neg hid] at hX; exact ⟨E', hA', hX⟩
 | _ => exact ⟨E', hA', by simpa [X] using hX⟩

theorem x_blk {id : Nat} (h : S P n R st E w) : S P n R (.blk id :: st) E w := h

theorem x_ret (h : X P n R st .ret E w) : S P n R (.code .ret :: st) E w := fun a hA => wp_ret ⟨E, hA, h⟩
theorem x_exit {id : Nat} (h : X P n R st (.exit id) E w) : S P n R (.code (.exit id) :: st) E w := fun a hA => wp_exit ⟨E, hA, h⟩

/-- Where a return goes: to the function's end. -/
theorem X_ret : ∀ st : List It, R E w → X P n R st .ret E w
 | [], h => h
 | .code _ :: st, h => by simp only [X]; exact X_ret st h
 | .ops _ _ :: st, h => by simp only [X]; exact X_ret st h
 | .blk _ :: st, h => by simp only [X]; exact X_ret st h
 | .inv _ :: st, h => by simp only [X]; exact X_ret st h
theorem x_return (h : R E w) : S P n R (.code .ret :: st) E w := x_ret (X_ret st h)

/-- Where an exit goes. -/
def exitAt (id : Nat) : List It → Option (List It)
 | [] => none
 | .blk id' :: st => bif Nat.beq id id' then some st else exitAt id st
 | _ :: st => exitAt id st
theorem X_exit {id : Nat} : ∀ (st : List It) {st' : List It}, exitAt id st = some st' → S P n R st' E w → X P n R st (.exit id) E w
 | [], _, h, _ => by simp [exitAt] at h
 | .blk id' :: st, st', h, hX => by
  simp only [exitAt] at h
  simp only [X]
  cases hb : Nat.beq id id' with
  | true => rw [hb] at h; rw [if_pos (Nat.eq_of_beq_eq_true hb)]; simp only [cond_true, Option.some.injEq] at h; subst h; exact hX
  | false => rw [hb] at h; rw [if_neg (Nat.ne_of_beq_eq_false hb)]; exact X_exit st h hX
 | .code _ :: st, _, h, hX => by simp only [X]; exact X_exit st h hX
 | .ops _ _ :: st, _, h, hX => by simp only [X]; exact X_exit st h hX
 | .inv _ :: st, _, h, hX => by simp only [X]; exact X_exit st h hX
theorem x_exitTo {id : Nat} (st' : List It) (he : exitAt id st = some st') (h : S P n R st' E w) : S P n R (.code (.exit id) :: st) E w := x_exit (X_exit st he h)

theorem x_cond {c : Operand} {x y : Code} {t : Bool} (hc : ev E c = .bool t) (ht : t = true → S P n R (.code x :: st) E w) (hf : t = false → S P n R (.code y :: st) E w) :
  S P n R (.code (.cond c x y) :: st) E w := by
 intro a hA
 exact wp_cond_split (by rw [hA.eval]; exact hc) (fun h => ht h a hA) (fun h => hf h a hA)
theorem x_cond_t {c : Operand} {x y : Code} (hc : ev E c = .bool true) (ht : S P n R (.code x :: st) E w) : S P n R (.code (.cond c x y) :: st) E w :=
 x_cond hc (fun _ => ht) (fun h => by cases h)
theorem x_cond_f {c : Operand} {x y : Code} (hc : ev E c = .bool false) (hf : S P n R (.code y :: st) E w) : S P n R (.code (.cond c x y) :: st) E w :=
 x_cond hc (fun h => by cases h) (fun _ => hf)
/-- A test on a proposition. -/
theorem x_cond_p {c : Operand} {x y : Code} (p : Prop) [Decidable p] (hc : ev E c = .bool (decide p)) (ht : p → S P n R (.code x :: st) E w) (hf : ¬ p → S P n R (.code y :: st) E w) :
  S P n R (.code (.cond c x y) :: st) E w :=
 x_cond hc (fun h => ht (of_decide_eq_true h)) (fun h => hf (of_decide_eq_false h))

/-- A loop: what holds at each round's head, with how many rounds are to come at most. -/
theorem x_loop {c : Code} (I : Nat → Env → World → Prop) (k : Nat) (h0 : I k E w)
  (round : ∀ k E w, I k E w → S P n R (.code c :: .inv (fun E' w' => ∃ k', k' < k ∧ I k' E' w') :: st) E w) : S P n R (.code (.loop c) :: st) E w := by
 intro a hA
 have key : ∀ (k : Nat) (a : Act) (E : Env) (w : World), Is a E n → I k E w →
   ∀ (b : Frame) (kk : List Item) (cs : List Frame), ∃ e a' w', (∃ E', Is a' E' n ∧ X P n R st e E' w') ∧ Arrives P (lone (b.at a (.code c :: .inLoop c :: kk)) cs w) b kk cs e a' w' := by
  intro k
  induction k using Nat.strongRecOn with
  | _ k ih =>
   intro a E w hA hI b kk cs
   obtain ⟨e, a₁, w₁, ⟨E₁, hA₁, hq⟩, harr⟩ := round k E w hI a hA b (.inLoop c :: kk) cs
   cases e with
   | normal =>
    obtain ⟨k', hlt, hI'⟩ := hq
    obtain ⟨e₂, a₂, w₂, hq₂, harr₂⟩ := ih k' hlt a₁ E₁ w₁ hA₁ hI' b kk cs
    exact ⟨e₂, a₂, w₂, hq₂, .of_steps (Steps.trans harr (.one step_inLoop)) harr₂⟩
   | exit id => exact ⟨_, a₁, w₁, ⟨E₁, hA₁, by simpa [X] using hq⟩, .pass (x := .inLoop c) rfl (fun _ _ => .inl (by simp)) harr⟩
   | goto l => exact ⟨_, a₁, w₁, ⟨E₁, hA₁, by simpa [X] using hq⟩, .pass (x := .inLoop c) rfl (fun _ _ => .inl (by simp)) harr⟩
   | ret => exact ⟨_, a₁, w₁, ⟨E₁, hA₁, by simpa [X] using hq⟩, .pass (x := .inLoop c) rfl (fun _ _ => .inl (by simp)) harr⟩
   | panic ch => exact ⟨_, a₁, w₁, ⟨E₁, hA₁, by simpa [X] using hq⟩, .pass (x := .inLoop c) rfl (fun _ _ => .inl (by simp)) harr⟩
   | outgrown => exact ⟨_, a₁, w₁, ⟨E₁, hA₁, by simpa [X] using hq⟩, .pass (x := .inLoop c) rfl (fun _ _ => .inl (by simp)) harr⟩
 intro b kk cs
 obtain ⟨e, a', w', hq, harr⟩ := key k a E w hA h0 b kk cs
 exact ⟨e, a', w', hq, .of_steps (.one step_loop) harr⟩

theorem x_inv {I : Env → World → Prop} (h : I E w) : S P n R (.inv I :: st) E w := h

theorem x_region {id : Nat} {l : List Oper} (h : S P n R (.ops l.toArray l :: st) E w) : S P n R (.code (.region id l.toArray false) :: st) E w :=
 fun a hA => wp_region_lit (h a hA)

theorem x_done {all : Array Oper} (h : S P n R st E w) : S P n R (.ops all [] :: st) E w := fun a hA => wpList_nil ⟨E, hA, h⟩

/-! ### One operation -/
variable {all : Array Oper} {rest : List Oper} {o : Oper}

theorem o_val (hg : o.guard = none) (hd : fits o.dst n = true) {v : Value} {w' : World} (hr : (execOp (ev E) o).run P w = .ok (.value v) w')
  (h : S P n R (.ops all rest :: st) (E.ins o.dst v) w') : S P n R (.ops all (o :: rest) :: st) E w := by
 intro a hA
 refine wpList_plain hg fun K hK => ?_
 unfold Oper.wp
 rw [hA.eval, hr]
 exact hK _ _ (h _ (hA.put (fits_spec hd) v))

theorem o_nil (hg : o.guard = none) (hd : fits o.dst n = true) {w' : World} (hr : (execOp (ev E) o).run P w = .ok .skip w')
  (h : S P n R (.ops all rest :: st) (E.ins o.dst undef) w') : S P n R (.ops all (o :: rest) :: st) E w := by
 intro a hA
 refine wpList_plain hg fun K hK => ?_
 unfold Oper.wp
 rw [hA.eval, hr]
 exact hK _ _ (h _ (hA.put (fits_spec hd) undef))

theorem o_enter (hg : o.guard = none) (hd : fits o.dst n = true) {f : FuncId} {args : Array Value} {w' : World} (hr : (execOp (ev E) o).run P w = .ok (.enter f args) w')
  (h : Calls P f args w' fun e w'' => ∃ v, e = .returned v ∧ S P n R (.ops all rest :: st) (E.ins o.dst v) w'') : S P n R (.ops all (o :: rest) :: st) E w := by
 intro a hA
 refine wpList_plain hg fun K hK => ?_
 unfold Oper.wp
 rw [hA.eval, hr]
 refine h.mono ?_
 rintro e w'' ⟨v, rfl, hX⟩
 exact hK _ _ (hX _ (hA.put (fits_spec hd) v))

end
end Go.Proofs.YtgmjhlpjlggpiaaDoor.X
