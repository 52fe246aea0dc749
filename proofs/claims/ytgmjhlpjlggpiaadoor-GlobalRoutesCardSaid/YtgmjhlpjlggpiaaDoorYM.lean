/- Maps whose keys are structs of whole numbers; an entry that is read and written; iterators over maps. Lemmas over any program. -/
import Derived.Test.YtgmjhlpjlggpiaaDoorYW
import Derived.Maps.RangeRun
namespace Go.Proofs.YtgmjhlpjlggpiaaDoor.X
open Go Go.RowKit Go.Instr
set_option linter.unusedVariables false
set_option linter.unusedSimpArgs false
set_option linter.unusedSectionVars false
/-! keys of whole numbers -/
/-- A type's cells where they are whole numbers alone: whether it is a struct, and how many. -/
def intsF (P : Program) (g : TypeId → Option (Bool × Nat)) : List Field → Nat → Option Nat
 | [], o => some o
 | f :: fs, o => if f.name ≠ "_" ∧ f.offset = o then match g f.type with
  | some (_, m) => intsF P g fs (o + m)
  | none => none else none
def intsB (P : Program) : Nat → TypeId → Option (Bool × Nat)
 | 0, _ => none
 | d + 1, t => match P.underlying t with
  | some (.int .i64) => if oneB P t then some (false, 1) else none
  | some (.struct fs) => if P.stoodInHeld t then none else match intsF P (intsB P d) fs.toList 0 with
   | some m => if aggB P t m then some (true, m) else none
   | none => none
  | _ => none
def iv (ag : Bool) (xs : List Int) : Value := if ag then .agg ⟨xs.map (Value.int .i64)⟩ else .int .i64 (xs.headD 0)
section
variable {P : Program}
theorem isAgg_one {t : TypeId} (ht : oneB P t = true) (w : World) : (isAgg t).run P w = .ok false w := by
 unfold oneB at ht
 unfold isAgg
 split at ht
 ·cases ht
 ·cases ht
 ·cases ht
 ·rename_i x h1 h2 h3
  cases hu : P.underlying t with
  | none => exact absurd hu h3
  | some d =>
   simp only [run_underlying hu, Sem.run_bind, Result.andThen_ok]
   cases d <;> first | rfl | (exfalso; exact h1 _ hu) | (exfalso; exact h2 _ _ hu)
theorem isAgg_agg {t : TypeId} {n : Nat} (ht : aggB P t n = true) (w : World) : (isAgg t).run P w = .ok true w ∧ (sizeOf t).run P w = .ok n w := by
 unfold aggB at ht
 split at ht
 ·rename_i fs hu
  split at ht
  ·rename_i i hi
   refine ⟨by simp [isAgg, run_underlying hu, pure, Sem.run], ?_⟩
   simp only [beq_iff_eq] at ht
   simp [sizeOf, typeInfo, hi, pure, Sem.run, ht]
  ·cases ht
 ·rename_i a b hu
  split at ht
  ·rename_i i hi
   refine ⟨by simp [isAgg, run_underlying hu, pure, Sem.run], ?_⟩
   simp only [beq_iff_eq] at ht
   simp [sizeOf, typeInfo, hi, pure, Sem.run, ht]
  ·cases ht
 ·cases ht
theorem intsB_kind {d : Nat} {t : TypeId} {ag : Bool} {m : Nat} (h : intsB P d t = some (ag, m)) : (ag = true ∧ aggB P t m = true) ∨ (ag = false ∧ m = 1 ∧ oneB P t = true) := by
 cases d with
 | zero => cases h
 | succ d =>
  unfold intsB at h
  split at h
  ·split at h
   ·rename_i h1; cases h; exact .inr ⟨rfl, rfl, h1⟩
   ·cases h
  ·split at h
   ·cases h
   ·split at h
    ·split at h
     ·rename_i h1; cases h; exact .inl ⟨rfl, h1⟩
     ·cases h
    ·cases h
  ·cases h
theorem part_ints {t : TypeId} {d : Nat} {ag : Bool} {m : Nat} (h : intsB P d t = some (ag, m)) (xs : List Int) (o : Nat) (hl : o + m ≤ xs.length) (w : World) : (part t ⟨xs.map (Value.int .i64)⟩ o).run P w = .ok (iv ag ((xs.drop o).take m)) w := by
 rcases intsB_kind h with ⟨rfl, h1⟩ | ⟨rfl, rfl, h1⟩
 ·obtain ⟨e1, e2⟩ := isAgg_agg h1 w
  simp only [part, Sem.run_bind, e1, Result.andThen_ok, if_true, e2, iv, pure, Sem.run]
  congr 2
  apply Array.ext'
  simp [List.extract, List.map_take, List.map_drop]
 ·have e1 := isAgg_one h1 w
  have e3 : xs[o]? = some (xs[o]'(by omega)) := List.getElem?_eq_getElem (by omega)
  have e4 : (xs.drop o).take 1 = [xs[o]'(by omega)] := by
   rw [List.drop_eq_getElem_cons (by omega)]; rfl
  simp only [part, Sem.run_bind, e1, Result.andThen_ok, e4, iv]
  simp [e3, pure, Sem.run]
/-- What runs over the fields, the numbers cut field by field. -/
theorem ints_cut {xs ys : List Int} {o m : Nat} (hl : xs.length = ys.length) (hx : o + m ≤ xs.length) : xs.drop o = ys.drop o ↔ (xs.drop o).take m = (ys.drop o).take m ∧ xs.drop (o + m) = ys.drop (o + m) := by
 constructor
 ·intro h
  refine ⟨by rw [h], ?_⟩
  rw [← List.drop_drop, ← List.drop_drop, h]
 ·rintro ⟨h1, h2⟩
  rw [← List.drop_drop, ← List.drop_drop] at h2
  rw [← List.take_append_drop m (xs.drop o), ← List.take_append_drop m (ys.drop o), h1, h2]
theorem intsF_le {g : TypeId → Option (Bool × Nat)} : ∀ {fs : List Field} {o m : Nat}, intsF P g fs o = some m → o ≤ m
 | [], o, m, h => by cases h; exact Nat.le_refl _
 | f :: fs, o, m, h => by
  unfold intsF at h
  split at h
  ·split at h
   ·have := intsF_le h; omega
   ·cases h
  ·cases h
theorem eqF_ints {d D : Nat} (ih : ∀ {t : TypeId} {ag : Bool} {m : Nat}, intsB P d t = some (ag, m) → ∀ (xs ys : List Int) (w : World), xs.length = m → ys.length = m → (Op.equalIn (D + d) t (iv ag xs) (iv ag ys)).run P w = .ok (decide (xs = ys)) w)
  (xs ys : List Int) (w : World) : ∀ (fs : List Field) (o m : Nat), intsF P (intsB P d) fs o = some m → xs.length = m → ys.length = m → (Op.eqFields (D + d) ⟨xs.map (Value.int .i64)⟩ ⟨ys.map (Value.int .i64)⟩ fs).run P w = .ok (decide (xs.drop o = ys.drop o)) w
 | [], o, m, h, hx, hy => by
  cases h
  rw [List.drop_eq_nil_of_le (by omega), List.drop_eq_nil_of_le (by omega)]
  simp [Op.eqFields, pure, Sem.run]
 | f :: fs, o, m, h, hx, hy => by
  unfold intsF at h
  split at h
  ·rename_i hn
   obtain ⟨hn, rfl⟩ := hn
   split at h
   ·rename_i ag k hk
    have hle := intsF_le h
    have ihF := eqF_ints ih xs ys w fs _ _ h hx hy
    have p1 := part_ints hk xs f.offset (by omega) w
    have p2 := part_ints hk ys f.offset (by omega) w
    have e1 := ih hk ((xs.drop f.offset).take k) ((ys.drop f.offset).take k) w (by simp; omega) (by simp; omega)
    have cut := ints_cut (xs := xs) (ys := ys) (o := f.offset) (m := k) (by omega) (by omega)
    simp only [Op.eqFields, hn, ne_eq, not_false_eq_true, if_true, Sem.run_bind, p1, p2, Result.andThen_ok, e1]
    by_cases q : (xs.drop f.offset).take k = (ys.drop f.offset).take k
    ·simp only [q, decide_true, Bool.not_true, Bool.false_eq_true, if_false, ihF]
     congr 1
     exact decide_eq_decide.2 ⟨fun h => cut.2 ⟨q, h⟩, fun h => (cut.1 h).2⟩
    ·have : ¬ xs.drop f.offset = ys.drop f.offset := fun h => q (cut.1 h).1
     simp [q, this, pure, Sem.run]
   ·cases h
  ·cases h
theorem equal_ints : ∀ {d : Nat} {t : TypeId} {ag : Bool} {m : Nat}, intsB P d t = some (ag, m) → ∀ (D : Nat) (xs ys : List Int) (w : World), xs.length = m → ys.length = m → (Op.equalIn (D + d) t (iv ag xs) (iv ag ys)).run P w = .ok (decide (xs = ys)) w
 | 0, t, ag, m, h, D, xs, ys, w, hx, hy => by cases h
 | d + 1, t, ag, m, h, D, xs, ys, w, hx, hy => by
  unfold intsB at h
  split at h
  ·rename_i hu
   split at h
   ·cases h
    obtain ⟨x, rfl⟩ := List.length_eq_one_iff.1 hx
    obtain ⟨y, rfl⟩ := List.length_eq_one_iff.1 hy
    have := run_equalIn_int (P := P) w (D + d) t .i64 .i64 x y hu
    rw [show D + (d + 1) = D + d + 1 by omega]
    simp only [iv, Bool.false_eq_true, if_false, List.headD_cons, this]
    congr 1
    by_cases q : x = y <;> simp [q]
   ·cases h
  ·rename_i fs hu
   split at h
   ·cases h
   ·rename_i hs
    split at h
    ·rename_i k hk
     split at h
     ·cases h
      have hf : P.fieldsOf t = fs := by simp [Program.fieldsOf, hu]
      rw [show D + (d + 1) = D + d + 1 by omega]
      simp only [iv, if_true]
      rw [run_equalIn_struct w (D + d) t _ _ (by rw [hf]; exact hu) (by simpa using hs), hf]
      have := eqF_ints (D := D) (fun h xs ys w hx hy => equal_ints h D xs ys w hx hy) xs ys w fs.toList 0 _ hk hx hy
      simpa using this
     ·cases h
    ·cases h
  ·cases h
theorem chkF_ints {e : Bool} {d D : Nat} (ih : ∀ {t : TypeId} {ag : Bool} {m : Nat}, intsB P d t = some (ag, m) → ∀ (xs : List Int) (w : World), xs.length = m → (checkKey e (D + d) t (iv ag xs)).run P w = .ok () w)
  (xs : List Int) (w : World) : ∀ (fs : List Field) (o m : Nat), intsF P (intsB P d) fs o = some m → xs.length = m →
  (forIn (m := Sem) fs PUnit.unit fun f _ => do
   if f.name ≠ "_" then
    checkKey e (D + d) f.type (← part f.type ⟨xs.map (Value.int .i64)⟩ f.offset)
    pure (ForInStep.yield PUnit.unit)
   else pure (ForInStep.yield PUnit.unit)).run P w = .ok PUnit.unit w
 | [], o, m, h, hx => by simp [pure, Sem.run]
 | f :: fs, o, m, h, hx => by
  unfold intsF at h
  split at h
  ·rename_i hn
   obtain ⟨hn, rfl⟩ := hn
   split at h
   ·rename_i ag k hk
    have hle := intsF_le h
    have ihF := chkF_ints ih xs w fs _ _ h hx
    have p1 := part_ints hk xs f.offset (by omega) w
    have e1 := ih hk ((xs.drop f.offset).take k) w (by simp; omega)
    simp only [List.forIn_cons, hn, ne_eq, not_false_eq_true, if_true, Sem.run_bind, p1, e1, Result.andThen_ok]
    simpa using ihF
   ·cases h
  ·cases h
theorem chk_ints {e : Bool} : ∀ {d : Nat} {t : TypeId} {ag : Bool} {m : Nat}, intsB P d t = some (ag, m) → ∀ (D : Nat) (xs : List Int) (w : World), xs.length = m → (checkKey e (D + d) t (iv ag xs)).run P w = .ok () w
 | 0, t, ag, m, h, D, xs, w, hx => by cases h
 | d + 1, t, ag, m, h, D, xs, w, hx => by
  unfold intsB at h
  split at h
  ·rename_i hu
   split at h
   ·cases h
    rw [show D + (d + 1) = D + d + 1 by omega]
    simp [checkKey, run_underlying hu, iv, pure, Sem.run]
   ·cases h
  ·rename_i fs hu
   split at h
   ·cases h
   ·split at h
    ·rename_i k hk
     split at h
     ·cases h
      have := chkF_ints (e := e) (D := D) (fun h xs w hx => chk_ints h D xs w hx) xs w fs.toList 0 _ hk hx
      rw [show D + (d + 1) = D + d + 1 by omega]
      simp only [checkKey, run_underlying hu, iv, if_true, Sem.run_bind, Result.andThen_ok]
      rw [← Array.forIn_toList, this]
      rfl
     ·cases h
    ·cases h
  ·cases h
/-- Whole numbers as a key: told by a list, one to one. -/
theorem KeyP.ints {κ : Type} [DecidableEq κ] {kt : TypeId} {kf : κ → Value} {m : Nat} (fl : κ → List Int) (hB : intsB P 9 kt = some (true, m)) (hs : ∃ fs, P.underlying kt = some (.struct fs)) (hk : ∀ a, kf a = iv true (fl a)) (hl : ∀ a, (fl a).length = m) (hi : ∀ a b, fl a = fl b → a = b) : KeyP P kt kf := by
 have eq : ∀ (a b : κ) (w : World), (Op.equal kt (kf a) (kf b)).run P w = .ok (decide (a = b)) w := fun a b w => by
  rw [hk, hk]
  have := equal_ints hB 9991 (fl a) (fl b) w (hl a) (hl b)
  rw [Op.equal, Op.maxDepth, this]
  congr 1
  exact decide_eq_decide.2 ⟨hi a b, fun h => by rw [h]⟩
 have ask : ∀ {α : Type} (vf : α → Value) (k : κ) (w : World) (es : List (κ × α)) (n i : Nat), (findAsking kt (kf k) (ents kf vf es n) i).run P w = .ok ((mfind k es).map fun v => (i + mpos k es, vf v)) w := by
  intro α vf k w es
  induction es with
  | nil => intro n i; rfl
  | cons e r ih =>
   intro n i
   obtain ⟨k', v⟩ := e
   simp only [ents, findAsking, Sem.run_bind, eq, Result.andThen_ok, mfind, mpos]
   by_cases h : k = k'
   ·simp [h, pure, Sem.run]
   ·simp only [h, decide_false, Bool.false_eq_true, if_false]
    rw [ih (n + 1) (i + 1)]
    cases mfind k r with
    | none => rfl
    | some v => simp only [Option.map_some]; congr 3; omega
 refine ⟨fun vf k es n w => ?_, fun e a w => ?_, fun a => ?_⟩
 ·obtain ⟨fs, hu⟩ := hs
  unfold findKey
  simp only [run_underlying hu, Sem.run_bind, Result.andThen_ok]
  cases es with
  | nil => simp [ents, findNow, mfind, pure, Sem.run]
  | cons e r =>
   obtain ⟨k', v⟩ := e
   have h0 : findNow (.struct fs) (kf k) (ents kf vf ((k', v) :: r) n) 0 = none := by
    simp [ents, findNow, sameNow]
   rw [h0]
   have := ask vf k w ((k', v) :: r) n 0
   simpa using this
 ·rw [hk]; exact chk_ints hB 9991 (fl a) w (hl a)
 ·rw [hk]
  simp only [iv, if_true, sameBits]
  simp only [beq_self_eq_true, Bool.true_and, List.all_eq_true]
  intro x hx
  obtain ⟨i, hi, rfl⟩ := List.getElem_of_mem hx
  simp [sameBits]
end
section
variable {P : Program} {n : Nat} {R : Env → World → Prop} {st : List It} {E : Env} {w0 w : World} {l : List Assn} {all : Array Oper} {rest : List Oper} {ty : TypeId} {pos : String} {af : Array Edge} {g : Option (Nat × Bool)} {x y z : Operand}
variable {κ α : Type} [DecidableEq κ] {kf : κ → Value} {vf : α → Value}
theorem St.mapset {b : Nat} {o o' : Obj} (hS : St w0 w (blk b o :: l)) : St w0 { w with heap := w.heap.set! b o' } (blk b o' :: l) := by
 have hlt := St.lt hS
 refine St.step hS rfl rfl rfl (by simp) fun F hF hbF hn => ⟨F, ⟨hF.1, ?_⟩, hn, fun b hb => .inl hb, fun b' hb' => by simp; exact hbF b' hb', fun b' hlt' hni => ?_⟩
 ·simp [hp, hlt]
 ·obtain ⟨rfl, _⟩ := hF
  have : ¬ b = b' := fun h => hni (by simp [h])
  simp [this]
theorem mput_same {k : κ} {v : α} : ∀ {es : List (κ × α)}, mfind k es = some v → mput k v es = es
 | [], h => by simp [mfind] at h
 | (k', v') :: r, h => by
  simp only [mfind] at h
  by_cases e : k = k'
  ·simp only [e, if_true, Option.some.injEq] at h
   simp [mput, e, h]
  ·simp only [e, if_false] at h
   simp [mput, e, mput_same h]
theorem mfind_mput {k : κ} {v : α} : ∀ {es : List (κ × α)}, mfind k (mput k v es) = some v
 | [] => by simp [mput, mfind]
 | (k', v') :: r => by
  by_cases e : k = k'
  ·simp [mput, mfind, e]
  ·simp [mput, mfind, e, mfind_mput (es := r)]
theorem mpos_mput {k : κ} {v : α} : ∀ {es : List (κ × α)}, mpos k (mput k v es) = mpos k es
 | [] => by simp [mput, mpos]
 | (k', v') :: r => by
  by_cases e : k = k'
  ·simp [mput, mpos, e]
  ·simp [mput, mpos, e, mpos_mput (es := r)]
theorem mget_ent {k : κ} {r d : α} {es es' : List (κ × α)} (h : es' = mput k r es) (hr : r = mget k es d) : mget k es' d = mget k es d := by
 rw [h, ← hr]
 simp [mget, mfind_mput]
theorem mpos_none {k : κ} : ∀ {es : List (κ × α)}, mfind k es = none → mpos k es = es.length
 | [], _ => rfl
 | (k', v') :: r, h => by
  simp only [mfind] at h
  by_cases e : k = k'
  ·simp [e] at h
  ·simp only [e, if_false] at h
   simp [mpos, e, mpos_none h]
theorem mpos_lt {k : κ} {v : α} : ∀ {es : List (κ × α)}, mfind k es = some v → mpos k es < es.length
 | [], h => by simp [mfind] at h
 | (k', v') :: r, h => by
  simp only [mfind] at h
  by_cases e : k = k'
  ·simp [mpos, e]
  ·simp only [e, if_false] at h
   simp only [mpos, e, if_false, List.length_cons]
   have := mpos_lt h
   omega
theorem ents_at {k : κ} {v : α} : ∀ {es : List (κ × α)} {n : Nat}, mfind k es = some v → (ents kf vf es n)[mpos k es]? = some ⟨kf k, vf v, n + mpos k es⟩
 | [], n, h => by simp [mfind] at h
 | (k', v') :: r, n, h => by
  simp only [mfind] at h
  by_cases e : k = k'
  ·simp only [e, if_true, Option.some.injEq] at h
   simp [e, ents, mpos, h]
  ·simp only [e, if_false] at h
   simp only [e, if_false, ents, mpos, List.getElem?_cons_succ]
   rw [ents_at h]
   congr 2
   omega
theorem modify_same {β : Type} {f : β → β} : ∀ {l : List β} {i : Nat} {x : β}, l[i]? = some x → f x = x → l.modify i f = l
 | [], i, x, h, _ => by simp at h
 | a :: l, 0, x, h, hf => by simp only [List.getElem?_cons_zero, Option.some.injEq] at h; subst h; simp [hf]
 | a :: l, i + 1, x, h, hf => by
  simp only [List.getElem?_cons_succ] at h
  rw [List.modify_succ_cons, modify_same h hf]
theorem modify_alike {β : Type} {f g : β → β} : ∀ {l : List β} {i : Nat} {x : β}, l[i]? = some x → f x = g x → l.modify i f = l.modify i g
 | [], i, x, h, _ => by simp at h
 | a :: l, 0, x, h, hf => by simp only [List.getElem?_cons_zero, Option.some.injEq] at h; subst h; simp [hf]
 | a :: l, i + 1, x, h, hf => by
  simp only [List.getElem?_cons_succ] at h
  rw [List.modify_succ_cons, List.modify_succ_cons, modify_alike h hf]
theorem ents_idx : ∀ {es : List (κ × α)} {n i : Nat}, i < es.length → (ents kf vf es n).findIdx? (fun e => (e.born : Int) == ((n + i : Nat) : Int)) = some i
 | [], n, i, h => by simp at h
 | (k, v) :: r, n, 0, h => by simp [ents, List.findIdx?_cons]
 | (k, v) :: r, n, i + 1, h => by
  have ih := ents_idx (es := r) (n := n + 1) (i := i) (by simpa using h)
  have hne : ((n : Int) == ((n + (i + 1) : Nat) : Int)) = false := by
   rw [beq_eq_false_iff_ne]; omega
  simp only [ents, List.findIdx?_cons, hne, Bool.false_eq_true, if_false]
  rw [show n + (i + 1) = n + 1 + i by omega, ih]
  rfl
theorem o_mapEntry {t kt et : TypeId} {d : Nat} {b : Nat} {k : κ} {es es' : List (κ × α)} {d0 r : α} (hm : P.underlying t = some (.map kt et)) (hk : KeyP P kt kf) (hz : ∀ w, (zeroValue et).run P w = .ok (vf d0) w) (hx : ev E x = .map (some b)) (hy : ev E y = kf k) (hS : St w0 w (mapA b kf vf es :: l)) (hr : r = mget k es d0) (he : es' = mput k r es)
  (h : ∀ w', St w0 w' (mapA b kf vf es' :: l) → S P n R (.ops all rest :: st) (E.set d (.tuple #[vf r, .int .i64 (mpos k es)])) w') (hd : Nat.blt d n = true := by rfl) :
  S P n R (.ops all (⟨some d, .mapEntry t x y, ty, pos, af, none⟩ :: rest) :: st) E w := by
 subst he
 have hb0 : w.heap[b]? = some (.map ⟨ents kf vf es 0⟩ es.length) := St.block hS
 have hb := hS.map (P := P)
 have hf := run_findKey (P := P) (w := w) (vf := vf) hk k es 0
 have hc := hk.chk false k w
 refine o_val rfl hd (v := .tuple #[vf r, .int .i64 (mpos k es)]) (w' := { w with heap := w.heap.set! b (.map ⟨ents kf vf (mput k r es) 0⟩ (mput k r es).length) }) ?_ (h _ hS.mapset)
 simp only [execOp, hx, hy, mapEntry]
 simp [run_underlying hm, hb, pure, Sem.run] at hf hc ⊢
 unfold mget at hr
 cases h' : mfind k es with
 | none =>
  rw [h'] at hf hr
  simp only [Option.getD_none] at hr
  subst hr
  rw [ents_none h', mput_none h', mpos_none h']
  simp [hc, hf, hz, Sem.run, setObj, hb0, Result.andThen, goInt]
 | some v0 =>
  rw [h'] at hf hr
  simp only [Option.getD_some] at hr
  subst hr
  have hkey := ents_key (kf := kf) (vf := vf) (n := 0) h'
  have hat := ents_at (kf := kf) (vf := vf) (n := 0) h'
  rw [mput_same h']
  have hsame : (ents kf vf es 0).modify (mpos k es) (fun e => { e with key := kf k }) = ents kf vf es 0 := modify_same hat rfl
  simp [hc, hf, Sem.run, setObj, keyThatStays, hkey, hk.bits, pure, hb0, Result.andThen, hat, goInt, hsame]
theorem o_entryStore {t : TypeId} {b : Nat} {k : κ} {es es1 es' : List (κ × α)} {v v0 : α} {m : Nat} (hx : ev E x = .map (some b)) (hy : ev E y = .int .i64 (m : Int)) (hz : ev E z = vf v) (hm : m = mpos k es) (h1 : es1 = mput k v0 es) (hS : St w0 w (mapA b kf vf es1 :: l)) (he : es' = mput k v es1)
  (h : ∀ w', St w0 w' (mapA b kf vf es' :: l) → S P n R (.ops all rest :: st) (E.ins none undef) w') :
  S P n R (.ops all (⟨none, .entryStore t x y z, ty, pos, af, none⟩ :: rest) :: st) E w := by
 subst he hm
 have hfd : mfind k es1 = some v0 := by rw [h1]; exact mfind_mput
 have hp : mpos k es1 = mpos k es := by rw [h1]; exact mpos_mput
 have hb0 : w.heap[b]? = some (.map ⟨ents kf vf es1 0⟩ es1.length) := St.block hS
 have hb := hS.map (P := P)
 have hat := ents_at (kf := kf) (vf := vf) (n := 0) hfd
 have hidx := ents_idx (kf := kf) (vf := vf) (es := es1) (n := 0) (mpos_lt hfd)
 simp only [Nat.zero_add] at hidx hat
 refine o_nil rfl rfl (w' := { w with heap := w.heap.set! b (.map ⟨ents kf vf (mput k v es1) 0⟩ (mput k v es1).length) }) ?_ (h _ hS.mapset)
 rw [← hp] at hy
 simp only [execOp, hx, hy, hz, entryStore]
 have hsame : (ents kf vf es1 0).modify (mpos k es1) (fun e => { e with val := vf v }) = ents kf vf (mput k v es1) 0 := by
  rw [ents_some hfd]; exact modify_alike hat rfl
 simp [hb, pure, Sem.run, asInt, asIntOf, hidx, setObj, hb0, Result.andThen, hsame, mput_some hfd]
/-! iterators over maps: the entries' numbers that have come, in their order -/
def itA (r b n : Nat) (seen : List Nat) : Assn := blk r (.mapIter (some b) n ⟨seen⟩ n)
theorem ents_mem {e : MapEntry} : ∀ {es : List (κ × α)} {n : Nat}, e ∈ ents kf vf es n → ∃ i, ∃ h : i < es.length, e = ⟨kf es[i].1, vf es[i].2, n + i⟩
 | [], n, h => by simp [ents] at h
 | (k, v) :: r, n, h => by
  simp only [ents, List.mem_cons] at h
  rcases h with rfl | h
  ·exact ⟨0, by simp, rfl⟩
  ·obtain ⟨i, hi, e'⟩ := ents_mem h
   exact ⟨i + 1, by simpa using hi, by rw [e']; simp; omega⟩
theorem ents_get : ∀ {es : List (κ × α)} {n i : Nat} (h : i < es.length), ⟨kf es[i].1, vf es[i].2, n + i⟩ ∈ ents kf vf es n
 | [], n, i, h => by simp at h
 | (k, v) :: r, n, 0, h => by simp [ents]
 | (k, v) :: r, n, i + 1, h => by
  have := ents_get (es := r) (n := n + 1) (i := i) (by simpa using h)
  simp only [ents, List.mem_cons]
  refine .inr ?_
  rw [show n + (i + 1) = n + 1 + i by omega]
  exact this
theorem ents_born : ∀ (es : List (κ × α)) (n : Nat), ((ents kf vf es n).map (·.born)).Nodup ∧ ∀ x ∈ (ents kf vf es n).map (·.born), n ≤ x
 | [], n => by simp [ents]
 | (k, v) :: r, n => by
  obtain ⟨h1, h2⟩ := ents_born r (n + 1)
  simp only [ents, List.map_cons, List.nodup_cons]
  refine ⟨⟨fun h => by have := h2 _ h; omega, h1⟩, fun x hx => ?_⟩
  rcases List.mem_cons.1 hx with rfl | hx
  ·exact Nat.le_refl _
  ·have := h2 x hx; omega
theorem o_range {t kt et : TypeId} {d : Nat} {b : Nat} {es : List (κ × α)} (hm : P.underlying t = some (.map kt et)) (hx : ev E x = .map (some b)) (hS : St w0 w (mapA b kf vf es :: l))
  (h : ∀ r w', St w0 w' (itA r b es.length [] :: mapA b kf vf es :: l) → S P n R (.ops all rest :: st) (E.set d (.pointer (some ⟨r, 0, none⟩))) w') (hd : Nat.blt d n = true := by rfl) :
  S P n R (.ops all (⟨some d, .range t x, ty, pos, af, none⟩ :: rest) :: st) E w := by
 have hb := hS.map (P := P)
 refine o_val rfl hd (v := .pointer (some ⟨w.heap.size, 0, none⟩)) (w' := w.alloc (.mapIter (some b) es.length ⟨[]⟩ es.length)) ?_ (h _ _ (hS.alloc _))
 simp [execOp, hx, Instr.range, run_underlying hm, hb, newObj, pure, Sem.run]
variable [Inhabited κ] [Inhabited α]
theorem gt_nth {β : Type} [Inhabited β] {xs : List β} {i : Nat} (h : i < xs.length) : gt xs i = xs[i] := by
 rw [gt_get (xs := xs) (i := (i : Int)) ⟨by omega, by omega⟩]; simp
theorem o_next {d : Nat} {r b : Nat} {es : List (κ × α)} {seen : List Nat} (hx : ev E x = .pointer (some ⟨r, 0, none⟩)) (hS : St w0 w (itA r b es.length seen :: mapA b kf vf es :: l))
  (h0 : (∀ i, i < es.length → i ∈ seen) → ∀ w', St w0 w' (itA r b es.length seen :: mapA b kf vf es :: l) → S P n R (.ops all rest :: st) (E.set d (.tuple #[.bool false])) w')
  (h1 : ∀ i : Nat, i < es.length → i ∉ seen → ∀ w', St w0 w' (itA r b es.length (seen ++ [i]) :: mapA b kf vf es :: l) → S P n R (.ops all rest :: st) (E.set d (.tuple #[.bool true, kf (gt es i).1, vf (gt es i).2])) w') (hd : Nat.blt d n = true := by rfl) :
  S P n R (.ops all (⟨some d, .next x false, ty, pos, af, none⟩ :: rest) :: st) E w := by
 have hr : w.heap[r]? = some (.mapIter (some b) es.length ⟨seen⟩ es.length) := St.block hS
 have hb : w.heap[b]? = some (.map ⟨ents kf vf es 0⟩ es.length) := St.block (hS.pull 1)
 have hold : ∀ e ∈ (⟨ents kf vf es 0⟩ : Array MapEntry).toList, e.born < es.length := fun e he => by
  obtain ⟨i, hi, rfl⟩ := ents_mem he
  simpa using hi
 rcases run_next_at (P := P) w ty r b es.length es.length ⟨seen⟩ ⟨ents kf vf es 0⟩ es.length hr hb hold (Nat.le_refl _) with ⟨hz, hrun⟩ | ⟨e, he, w1, hw1, hrun⟩
 ·refine o_val rfl hd (v := .tuple #[.bool false]) (w' := w) ?_ (h0 (fun i hi => ?_) w hS)
  ·simp only [execOp, hx, Sem.run_bind, hrun, Result.andThen_ok]
   rfl
  ·have hm := ents_get (kf := kf) (vf := vf) (n := 0) hi
   apply Classical.byContradiction
   intro hni
   have : (⟨kf es[i].1, vf es[i].2, 0 + i⟩ : MapEntry) ∈ (leftOf ⟨ents kf vf es 0⟩ ⟨seen⟩).toList := by
    unfold leftOf
    simp only [Array.toList_filter, List.mem_filter]
    exact ⟨hm, by simpa using hni⟩
   rw [Array.eq_empty_of_size_eq_zero hz] at this
   simp at this
 ·have he' : e ∈ ents kf vf es 0 ∧ ¬ e.born ∈ seen := by
   unfold leftOf at he
   simpa using he
  obtain ⟨hm, hns⟩ := he'
  obtain ⟨i, hi, rfl⟩ := ents_mem hm
  simp only [Nat.zero_add] at hns hrun
  have hS1 : St w0 w1 (itA r b es.length seen :: mapA b kf vf es :: l) := by
   rcases hw1 with rfl | rfl
   ·exact hS
   ·exact hS.drew
  have hS2 := hS1.mapset (o' := .mapIter (some b) es.length ⟨seen ++ [i]⟩ es.length)
  have hpush : (⟨seen⟩ : Array Nat).push i = ⟨seen ++ [i]⟩ := by simp
  rw [hpush] at hrun
  have hg : gt es (i : Int) = es[i] := gt_nth hi
  refine o_val rfl hd (v := .tuple #[.bool true, kf es[i].1, vf es[i].2]) (w' := Go.ChangeMaps.setBlock w1 r (.mapIter (some b) es.length ⟨seen ++ [i]⟩ es.length)) ?_ (hg ▸ h1 i hi hns _ hS2)
  simp only [execOp, hx, Sem.run_bind, hrun, Result.andThen_ok]
  rfl
theorem at_entry {dd : Option Nat} {r b : Nat} {es : List (κ × α)} {seen : List Nat} {i : Nat} {e : κ × α} (hx : ev E x = .pointer (some ⟨r, 0, none⟩)) (hi : i < es.length) (hS : St w0 w (itA r b es.length (seen ++ [i]) :: mapA b kf vf es :: l)) (he : e = gt es i) :
  At P E ⟨dd, .entry x, ty, pos, af, g⟩ w (.tuple #[kf e.1, vf e.2]) := by
 subst he
 have hr : w.heap[r]? = some (.mapIter (some b) es.length ⟨seen ++ [i]⟩ es.length) := St.block hS
 have hb : w.heap[b]? = some (.map ⟨ents kf vf es 0⟩ es.length) := St.block (hS.pull 1)
 have hpush : (⟨seen ++ [i]⟩ : Array Nat) = (⟨seen⟩ : Array Nat).push i := by simp
 rw [hpush] at hr
 have hm := ents_get (kf := kf) (vf := vf) (n := 0) hi
 rw [Nat.zero_add] at hm
 have := run_entry_at (P := P) w r b es.length ⟨seen⟩ ⟨ents kf vf es 0⟩ es.length ⟨kf es[i].1, vf es[i].2, i⟩ hr hb hm (ents_born es 0).1
 rw [gt_nth hi]
 simp only [At, execOp, hx, Sem.run_bind, this, Result.andThen_ok]
 rfl
end
end Go.Proofs.YtgmjhlpjlggpiaaDoor.X
