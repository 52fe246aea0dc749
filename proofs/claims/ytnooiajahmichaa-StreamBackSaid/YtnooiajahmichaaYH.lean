/- Arrays (structs with numbered fields), and loops of few rounds, gone through one by one. -/
import Derived.Test.YtnooiajahmichaaYG
namespace Go.Proofs.Ytnooiajahmichaa.X
open Go Go.RowKit
set_option linter.unusedVariables false
theorem arr1 {α : Type} {a a' : α} (h : a = a') : #[a] = #[a'] := by rw [h]
theorem arr2 {α : Type} {a a' b b' : α} (h : a = a') (h2 : b = b') : #[a, b] = #[a', b'] := by rw [h, h2]
theorem arr3 {α : Type} {a a' b b' c c' : α} (h : a = a') (h2 : b = b') (h3 : c = c') : #[a, b, c] = #[a', b', c'] := by rw [h, h2, h3]
theorem arr4 {α : Type} {a a' b b' c c' d d' : α} (h : a = a') (h2 : b = b') (h3 : c = c') (h4 : d = d') : #[a, b, c, d] = #[a', b', c', d'] := by rw [h, h2, h3, h4]
/-- A function that calls itself, so deep at most. -/
def rcf {α β : Type} (B : (α → Option β) → α → Option β) : Nat → α → Option β
  | 0, _ => none
  | n + 1, a => B (rcf B n) a
section
variable {P : Program} {n : Nat} {R : Env → World → Prop} {st : List It} {E : Env} {w : World}
/-- A loop, so many rounds of which are gone through. -/
def Un (P : Program) (n : Nat) (R : Env → World → Prop) (c : Code) (st : List It) : Nat → Env → World → Prop
  | 0, _, _ => False
  | k + 1, E, w => S P n R (.code c :: .inv (Un P n R c st k) :: st) E w
theorem X_inv_mono {I J : Env → World → Prop} (h : ∀ E w, I E w → J E w) {e : Exit} (hX : X P n R (.inv I :: st) e E w) : X P n R (.inv J :: st) e E w := by
  cases e with
  | normal => exact h _ _ hX
  | _ => exact hX
theorem x_unroll (k : Nat) {c : Code} (h : S P n R (.code c :: .inv (Un P n R c st k) :: st) E w) : S P n R (.code (.loop c) :: st) E w := by
  refine x_loop (Un P n R c st) (k + 1) h ?_
  intro k E w hk
  cases k with
  | zero => exact hk.elim
  | succ k =>
    intro a hA
    refine wp_mono (hk a hA) ?_
    rintro e a' w' ⟨E', hA', hX⟩
    exact ⟨E', hA', X_inv_mono (fun E w h => ⟨k, Nat.lt_succ_self k, h⟩) hX⟩
theorem x_un (k : Nat) {c : Code} {s2 : List It} (h : S P n R (.code c :: .inv (Un P n R c st k) :: st) E w) : S P n R (.inv (Un P n R c st (k + 1)) :: s2) E w := h
end
section
variable {P : Program} {E : Env} {x y : Operand} {dd : Option Nat} {ty : TypeId} {pos : String} {af : Array Edge} {g : Option (Nat × Bool)} {k : IntKind} {i : Int} {v : Value}
theorem ylss_l {a b : Int} {t : Bool} {t1 t2 : TypeId} (hx : ev E x = .int k a) (hy : ev E y = .int k b) (h : decide (a < b) = t) : Yl P E ⟨dd, .binOp .lss t1 x y t2, ty, pos, af, g⟩ (.bool t) := h ▸ yl_lss hx hy
theorem yeql_l {a b : Int} {t : Bool} {t1 t2 : TypeId} (hx : ev E x = .int k a) (hy : ev E y = .int k b) (h : decide (a = b) = t) : Yl P E ⟨dd, .binOp .eql t1 x y t2, ty, pos, af, g⟩ (.bool t) := h ▸ yl_eql hx hy
/-- An array type: how many, and an element's cells (closed: by kernel_rfl). -/
def arrB (P : Program) (t : TypeId) : Option (Nat × Nat × TypeId) := match P.underlying t with
  | some (.array m e) => match P.info? e with
    | some i => if m ≤ 1 then none else some (m, i.size, e)
    | none => none
  | _ => none
theorem arrB_spec {t m sz e : Nat} (h : arrB P t = some (m, sz, e)) : P.underlying t = some (.array m e) ∧ (∃ i, P.info? e = some i ∧ i.size = sz) ∧ 1 < m := by
  unfold arrB at h
  split at h
  · rename_i m' e' hu
    split at h
    · rename_i i hi
      split at h
      · cases h
      · simp only [Option.some.injEq, Prod.mk.injEq] at h
        obtain ⟨rfl, rfl, rfl⟩ := h
        exact ⟨hu, ⟨i, hi, rfl⟩, by omega⟩
    · cases h
  · cases h
theorem yl_ixa {t m sz e b o : Nat} (ht : arrB P t = some (m, sz, e)) (hx : ev E x = .pointer (some ⟨b, o, none⟩)) (hy : ev E y = .int k i) (h : inb i m) {q : Nat} (hq : o + i.toNat * sz = q) : Yl P E ⟨dd, .indexAddr t x y, ty, pos, af, g⟩ (.pointer (some ⟨b, q, none⟩)) := fun w => by
  subst hq
  obtain ⟨hu, ⟨inf, hi, rfl⟩, hm⟩ := arrB_spec ht
  obtain ⟨h0, h1⟩ := h
  rw [← add_off]
  simp [At, execOp, hx, hy, Instr.indexAt, Instr.sureAddr, asIntOf, run_underlying hu, sizeOf, typeInfo, hi, h0, h1, pure, Sem.run]
theorem agg_of {t m : Nat} (h : aggB P t m = true) : (∀ w, (isAgg t).run P w = .ok true w) ∧ ∃ i, P.info? t = some i ∧ i.size = m := by
  unfold aggB at h
  unfold isAgg
  cases hu : P.underlying t with
  | none => rw [hu] at h; simp at h
  | some dsc =>
    rw [hu] at h
    cases hi : P.info? t with
    | none => rw [hi] at h; cases dsc <;> simp_all
    | some inf => rw [hi] at h; cases dsc <;> simp_all [run_underlying hu, pure, Sem.run]
theorem one_of {t : Nat} (h1 : oneB P t = true) : ∀ w, (isAgg t).run P w = .ok false w := by
  unfold oneB at h1
  unfold isAgg
  intro w
  cases hu : P.underlying t with
  | none => rw [hu] at h1; simp at h1
  | some dsc => rw [hu] at h1; cases dsc <;> simp_all [run_underlying hu, pure, Sem.run]
/-- An element of an array's value. -/
theorem yl_ixv {t m sz e : Nat} {vs : List Value} (ht : arrB P t = some (m, sz, e)) (h1 : oneB P e = true) (hx : ev E x = .agg ⟨vs⟩) (hy : ev E y = .int k i) (h : inb i m) (hv : vs[i.toNat * sz]? = some v) : Yl P E ⟨dd, .index t x y, ty, pos, af, g⟩ v := fun w => by
  obtain ⟨hu, ⟨inf, hi, rfl⟩, hm⟩ := arrB_spec ht
  obtain ⟨h0, h1'⟩ := h
  simp [At, execOp, Instr.index, hx, hy, asIntOf, run_underlying hu, h0, h1', sizeOf, typeInfo, hi, part, one_of h1 w, hv, pure, Sem.run]
theorem yl_fldA {s ft : TypeId} {j off m : Nat} {vs cs : List Value} (hs : fieldAtB P s j = some (off, ft)) (h1 : aggB P ft m = true) (hx : ev E x = .agg ⟨vs⟩) (hv : (vs.drop off).take m = cs) : Yl P E ⟨dd, .field s x j, ty, pos, af, g⟩ (.agg ⟨cs⟩) := fun w => by
  obtain ⟨hag, inf, hi, rfl⟩ := agg_of h1
  have hex : (⟨vs⟩ : Array Value).extract off (off + inf.size) = ⟨cs⟩ := by
    rw [← hv]; apply Array.ext'; simp [List.take_drop]
  unfold fieldAtB at hs
  split at hs
  · rename_i fs hfs
    split at hs
    · rename_i f hf
      split at hs
      · split at hs
        · cases hs
        · simp only [Option.some.injEq, Prod.mk.injEq] at hs
          obtain ⟨rfl, rfl⟩ := hs
          simp [At, execOp, hx, Instr.field, run_underlying hfs, hf, asAgg, part, hag w, Go.sizeOf, typeInfo, hi, hex, pure, Sem.run]
      · cases hs
    · cases hs
  · cases hs
theorem sub_every {ad : Addr} {w : World} {cs c2 : List Value} {o m : Nat} (h : ∀ j v, cs[j]? = some v → w.cell? (ad.add j) = some v) (hc : (cs.drop o).take m = c2) : ∀ j v, c2[j]? = some v → w.cell? ((ad.add o).add j) = some v := by
  subst hc
  intro j v hj
  have e : (ad.add o).add j = ad.add (o + j) := by
    simp only [Addr.add]; by_cases h1 : o = 0 <;> by_cases h2 : j = 0 <;> simp [h1, h2, Nat.add_assoc]
  rw [e]
  simp only [List.getElem?_take] at hj
  split at hj
  · rw [List.getElem?_drop] at hj; exact h _ _ hj
  · cases hj
/-! ### == of two structs of numbers, bools and strings -/
def tgB (P : Program) (t : TypeId) (tg : Nat) : Bool := match P.underlying t with | some (.int _) => Nat.beq tg 0 | some .bool => Nat.beq tg 1 | some .string => Nat.beq tg 2 | _ => false
def TgOk (P : Program) (t : TypeId) : Nat → Prop
  | 0 => ∃ k, P.underlying t = some (.int k)
  | 1 => P.underlying t = some .bool
  | 2 => P.underlying t = some .string
  | _ => False
theorem tgB_spec {t tg : Nat} (h : tgB P t tg = true) : TgOk P t tg := by
  unfold tgB at h
  split at h
  · rename_i k hu; obtain rfl := Nat.eq_of_beq_eq_true h; exact ⟨k, hu⟩
  · rename_i hu; obtain rfl := Nat.eq_of_beq_eq_true h; exact hu
  · rename_i hu; obtain rfl := Nat.eq_of_beq_eq_true h; exact hu
  · cases h
def eqT (P : Program) : List Field → Nat → List Nat → Bool
  | [], _, [] => true
  | f :: fs, off, tg :: tgs => (f.name != "_") && Nat.beq f.offset off && oneB P f.type && tgB P f.type tg && eqT P fs (off + 1) tgs
  | _, _, _ => false
def eqV : Nat → Value → Value → Option Bool
  | 0, .int k a, .int k' b => if k = k' then some (a == b) else none
  | 1, .bool a, .bool b => some (a == b)
  | 2, .string a, .string b => some (decide (a = b))
  | _, _, _ => none
def eqVs : List Nat → List Value → List Value → Option Bool
  | [], _, _ => some true
  | tg :: ts, x :: xs, y :: ys => (eqV tg x y).bind fun b => (eqVs ts xs ys).map fun c => b && c
  | _, _, _ => none
def eqStB (P : Program) (t : TypeId) (tgs : List Nat) : Bool := (match P.underlying t with | some (.struct fs) => eqT P fs.toList 0 tgs | _ => false) && !P.stoodInHeld t && !P.eqGuardType P.depth t
theorem eqF_ok (d : Nat) (w : World) (X Y : List Value) : ∀ (fs : List Field) (off : Nat) (tgs : List Nat) {b : Bool}, eqT P fs off tgs = true → eqVs tgs (X.drop off) (Y.drop off) = some b → (Op.eqFields (d + 1) ⟨X⟩ ⟨Y⟩ fs).run P w = .ok b w
  | [], _, [], b, _, hb => by simp only [eqVs, Option.some.injEq] at hb; subst hb; rfl
  | [], _, _ :: _, _, h, _ => by simp [eqT] at h
  | _ :: _, _, [], _, h, _ => by simp [eqT] at h
  | f :: fs, off, tg :: tgs, b, h, hb => by
    simp only [eqT, Bool.and_eq_true, bne_iff_ne, Nat.beq_eq] at h
    obtain ⟨⟨⟨⟨h1, rfl⟩, h3⟩, h4⟩, h5⟩ := h
    have hag := one_of h3
    replace h4 := tgB_spec h4
    cases hX : X.drop f.offset with
    | nil => rw [hX] at hb; simp [eqVs] at hb
    | cons x xs =>
      cases hY : Y.drop f.offset with
      | nil => rw [hX, hY] at hb; simp [eqVs] at hb
      | cons y ys =>
        have gx : X[f.offset]? = some x := by have := congrArg (·[0]?) hX; simpa using this
        have gy : Y[f.offset]? = some y := by have := congrArg (·[0]?) hY; simpa using this
        have dx : X.drop (f.offset + 1) = xs := by rw [← List.drop_drop, hX]; rfl
        have dy : Y.drop (f.offset + 1) = ys := by rw [← List.drop_drop, hY]; rfl
        rw [hX, hY] at hb
        simp only [eqVs, Option.bind_eq_some_iff, Option.map_eq_some_iff] at hb
        obtain ⟨b1, e1, b2, e2, rfl⟩ := hb
        rw [← dx, ← dy] at e2
        have ih := eqF_ok d w X Y fs (f.offset + 1) tgs h5 e2
        have p1 : (part f.type ⟨X⟩ f.offset).run P w = .ok x w := by simp [part, hag w, gx, pure, Sem.run]
        have p2 : (part f.type ⟨Y⟩ f.offset).run P w = .ok y w := by simp [part, hag w, gy, pure, Sem.run]
        have p3 : (Op.equalIn (d + 1) f.type x y).run P w = .ok b1 w := by
          unfold eqV at e1
          split at e1
          · split at e1
            · rename_i hk; subst hk; simp only [Option.some.injEq] at e1; subst e1; obtain ⟨_, hu⟩ := h4; exact run_equalIn_int w d _ _ _ _ _ hu
            · cases e1
          · simp only [Option.some.injEq] at e1; subst e1
            exact run_equalIn_bool' w d _ _ _ h4
          · rename_i s1 s2
            simp only [Option.some.injEq] at e1; subst e1
            have e : (s1.toList == s2.toList) = decide (s1 = s2) := by
              rw [Bool.eq_iff_iff, beq_iff_eq, decide_eq_true_eq]
              rw [ByteArray.toList_eq, ByteArray.toList_eq]
              exact ⟨fun h => ByteArray.ext (Array.toList_inj.1 h), fun h => by rw [h]⟩
            rw [← e]; exact run_equalIn_string w d _ _ _ h4
          · cases e1
        simp only [Op.eqFields, if_pos h1, Sem.run_bind, p1, p2, p3, Result.andThen_ok, Sem.run_ite, Sem.run_pure]
        cases b1 with
        | false => simp
        | true => simpa using ih
theorem eqS_ok {t : Nat} {tgs : List Nat} {X Y : List Value} {b : Bool} (ht : eqStB P t tgs = true) (hb : eqVs tgs X Y = some b) (w : World) : (Op.equalIn 10000 t (.agg ⟨X⟩) (.agg ⟨Y⟩)).run P w = .ok b w := by
  simp only [eqStB, Bool.and_eq_true, Bool.not_eq_true'] at ht
  obtain ⟨⟨h1, h2⟩, h3⟩ := ht
  split at h1
  · rename_i fs hu
    have hf : P.fieldsOf t = fs := by simp [Program.fieldsOf, hu]
    rw [run_equalIn_struct w 9999 t ⟨X⟩ ⟨Y⟩ (by rw [hf]; exact hu) h2, hf]
    exact eqF_ok 9998 w X Y fs.toList 0 tgs h1 (by simpa using hb)
  · cases h1
theorem yeqs {t t2 : TypeId} {tgs : List Nat} {X Y : List Value} {b z : Bool} (ht : eqStB P t tgs = true) (hx : ev E x = .agg ⟨X⟩) (hy : ev E y = .agg ⟨Y⟩) (hb : eqVs tgs X Y = some b) (hz : z = b) : Yl P E ⟨dd, .binOp .eql t x y t2, ty, pos, af, g⟩ (.bool z) := fun w => by
  subst hz
  have hg : P.eqGuardType P.depth t = false := by simp only [eqStB, Bool.and_eq_true, Bool.not_eq_true'] at ht; exact ht.2
  have h1 := run_eqGuard_agg (P := P) w .eql t x y ⟨X⟩ ⟨Y⟩ hg
  have h2 := run_eql_struct (P := P) w t ⟨X⟩ ⟨Y⟩
  rw [eqS_ok ht hb w] at h2
  simp [At, execOp, hx, hy, Sem.run_bind, h1, h2, pure, Sem.run]
theorem ynes' {t t2 : TypeId} {tgs : List Nat} {X Y : List Value} {b z : Bool} (ht : eqStB P t tgs = true) (hx : ev E x = .agg ⟨X⟩) (hy : ev E y = .agg ⟨Y⟩) (hb : eqVs tgs X Y = some b) (hz : z = !b) : Yl P E ⟨dd, .binOp .neq t x y t2, ty, pos, af, g⟩ (.bool z) := fun w => by
  subst hz
  have hg : P.eqGuardType P.depth t = false := by simp only [eqStB, Bool.and_eq_true, Bool.not_eq_true'] at ht; exact ht.2
  have h1 := run_eqGuard_agg (P := P) w .neq t x y ⟨X⟩ ⟨Y⟩ hg
  have h2 := run_neq_struct (P := P) w t ⟨X⟩ ⟨Y⟩
  rw [eqS_ok ht hb w] at h2
  simp [At, execOp, hx, hy, Sem.run_bind, h1, h2, pure, Sem.run]
end
end Go.Proofs.Ytnooiajahmichaa.X
