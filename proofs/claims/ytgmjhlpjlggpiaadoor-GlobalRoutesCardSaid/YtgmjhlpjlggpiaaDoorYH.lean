/- Arrays (structs with numbered fields), and loops of few rounds, gone through one by one. -/
import Derived.WideLaws
import Derived.Test.YtgmjhlpjlggpiaaDoorYG
namespace Go.Proofs.YtgmjhlpjlggpiaaDoor.X
open Go Go.RowKit
set_option linter.unusedVariables false
theorem arr2 {α : Type} {a a' b b' : α} (h : a = a') (h2 : b = b') : #[a, b] = #[a', b'] := by rw [h, h2]
section
variable {P : Program} {n : Nat} {R : Env → World → Prop} {st : List It} {E : Env} {w : World}
end
section
variable {P : Program} {E : Env} {x y : Operand} {dd : Option Nat} {ty : TypeId} {pos : String} {af : Array Edge} {g : Option (Nat × Bool)} {k : IntKind} {i : Int} {v : Value}
theorem one_of {t : Nat} (h1 : oneB P t = true) : ∀ w, (isAgg t).run P w = .ok false w := by
 unfold oneB at h1
 unfold isAgg
 intro w
 cases hu : P.underlying t with
 | none => rw [hu] at h1; simp at h1
 | some dsc => rw [hu] at h1; cases dsc <;> simp_all [run_underlying hu, pure, Sem.run]
/-! ### == of two structs of numbers, bools and strings -/
def tgB (P : Program) (t : TypeId) (tg : Nat) : Bool := match P.underlying t with | some (.int _) => Nat.beq tg 0 | some .bool => Nat.beq tg 1 | some .string => Nat.beq tg 2 | _ => false
def TgOk (P : Program) (t : TypeId) : Nat → Prop
 | 0 => ∃ k, P.underlying t = some (.int k)
 | 1 => P.underlying t = some .bool
 | 2 => P.underlying t = some .string
 | _ => False
theorem tgB_spec {t tg : Nat} (h : tgB P t tg = true) : TgOk P t tg := by
 unfold tgB at h
 split at h
 ·rename_i k hu; obtain rfl := Nat.eq_of_beq_eq_true h; exact ⟨k, hu⟩
 ·rename_i hu; obtain rfl := Nat.eq_of_beq_eq_true h; exact hu
 ·rename_i hu; obtain rfl := Nat.eq_of_beq_eq_true h; exact hu
 ·cases h
def eqT (P : Program) : List Field → Nat → List Nat → Bool
 | [], _, [] => true
 | f :: fs, off, tg :: tgs => (f.name != "_") && Nat.beq f.offset off && oneB P f.type && tgB P f.type tg && eqT P fs (off + 1) tgs
 | _, _, _ => false
def eqV : Nat → Value → Value → Option Bool
 | 0, .int k a, .int k' b => if k = k' then some (a == b) else none
 | 1, .bool a, .bool b => some (a == b)
 | 2, .string a, .string b => some (decide (a = b))
 | _, _, _ => none
def eqVs : List Nat → List Value → List Value → Option Bool
 | [], _, _ => some true
 | tg :: ts, x :: xs, y :: ys => (eqV tg x y).bind fun b => (eqVs ts xs ys).map fun c => b && c
 | _, _, _ => none
def eqStB (P : Program) (t : TypeId) (tgs : List Nat) : Bool := (match P.underlying t with | some (.struct fs) => eqT P fs.toList 0 tgs | _ => false) && !P.stoodInHeld t && !P.eqGuardType P.depth t
theorem eqF_ok (d : Nat) (w : World) (X Y : List Value) : ∀ (fs : List Field) (off : Nat) (tgs : List Nat) {b : Bool}, eqT P fs off tgs = true → eqVs tgs (X.drop off) (Y.drop off) = some b → (Op.eqFields (d + 1) ⟨X⟩ ⟨Y⟩ fs).run P w = .ok b w
 | [], _, [], b, _, hb => by simp only [eqVs, Option.some.injEq] at hb; subst hb; rfl
 | [], _, _ :: _, _, h, _ => by simp [eqT] at h
 | _ :: _, _, [], _, h, _ => by simp [eqT] at h
 | f :: fs, off, tg :: tgs, b, h, hb => by
  simp only [eqT, Bool.and_eq_true, bne_iff_ne, Nat.beq_eq] at h
  obtain ⟨⟨⟨⟨h1, rfl⟩, h3⟩, h4⟩, h5⟩ := h
  have hag := one_of h3
  replace h4 := tgB_spec h4
  cases hX : X.drop f.offset with
  | nil => rw [hX] at hb; simp [eqVs] at hb
  | cons x xs =>
   cases hY : Y.drop f.offset with
   | nil => rw [hX, hY] at hb; simp [eqVs] at hb
   | cons y ys =>
    have gx : X[f.offset]? = some x := by have := congrArg (·[0]?) hX; simpa using this
    have gy : Y[f.offset]? = some y := by have := congrArg (·[0]?) hY; simpa using this
    have dx : X.drop (f.offset + 1) = xs := by rw [← List.drop_drop, hX]; rfl
    have dy : Y.drop (f.offset + 1) = ys := by rw [← List.drop_drop, hY]; rfl
    rw [hX, hY] at hb
    simp only [eqVs, Option.bind_eq_some_iff, Option.map_eq_some_iff] at hb
    obtain ⟨b1, e1, b2, e2, rfl⟩ := hb
    rw [← dx, ← dy] at e2
    have ih := eqF_ok d w X Y fs (f.offset + 1) tgs h5 e2
    have p1 : (part f.type ⟨X⟩ f.offset).run P w = .ok x w := by simp [part, hag w, gx, pure, Sem.run]
    have p2 : (part f.type ⟨Y⟩ f.offset).run P w = .ok y w := by simp [part, hag w, gy, pure, Sem.run]
    have p3 : (Op.equalIn (d + 1) f.type x y).run P w = .ok b1 w := by
     unfold eqV at e1
     split at e1
     ·split at e1
      ·rename_i hk; subst hk; simp only [Option.some.injEq] at e1; subst e1; obtain ⟨_, hu⟩ := h4; exact run_equalIn_int w d _ _ _ _ _ hu
      ·cases e1
     ·simp only [Option.some.injEq] at e1; subst e1
      exact run_equalIn_bool' w d _ _ _ h4
     ·rename_i s1 s2
      simp only [Option.some.injEq] at e1; subst e1
      have e : (s1.toList == s2.toList) = decide (s1 = s2) := by
       rw [Bool.eq_iff_iff, beq_iff_eq, decide_eq_true_eq]
       rw [ByteArray.toList_eq, ByteArray.toList_eq]
       exact ⟨fun h => ByteArray.ext (Array.toList_inj.1 h), fun h => by rw [h]⟩
      rw [← e]; exact run_equalIn_string w d _ _ _ h4
     ·cases e1
    simp only [Op.eqFields, if_pos h1, Sem.run_bind, p1, p2, p3, Result.andThen_ok, Sem.run_ite, Sem.run_pure]
    cases b1 with
    | false => simp
    | true => simpa using ih
theorem eqS_ok {t : Nat} {tgs : List Nat} {X Y : List Value} {b : Bool} (ht : eqStB P t tgs = true) (hb : eqVs tgs X Y = some b) (w : World) : (Op.equalIn 10000 t (.agg ⟨X⟩) (.agg ⟨Y⟩)).run P w = .ok b w := by
 simp only [eqStB, Bool.and_eq_true, Bool.not_eq_true'] at ht
 obtain ⟨⟨h1, h2⟩, h3⟩ := ht
 split at h1
 ·rename_i fs hu
  have hf : P.fieldsOf t = fs := by simp [Program.fieldsOf, hu]
  rw [run_equalIn_struct w 9999 t ⟨X⟩ ⟨Y⟩ (by rw [hf]; exact hu) h2, hf]
  exact eqF_ok 9998 w X Y fs.toList 0 tgs h1 (by simpa using hb)
 ·cases h1
theorem yeqs {t t2 : TypeId} {tgs : List Nat} {X Y : List Value} {b z : Bool} (ht : eqStB P t tgs = true) (hx : ev E x = .agg ⟨X⟩) (hy : ev E y = .agg ⟨Y⟩) (hb : eqVs tgs X Y = some b) (hz : z = b) : Yl P E ⟨dd, .binOp .eql t x y t2, ty, pos, af, g⟩ (.bool z) := fun w => by
 subst hz
 have hg : P.eqGuardType P.depth t = false := by simp only [eqStB, Bool.and_eq_true, Bool.not_eq_true'] at ht; exact ht.2
 have h1 := run_eqGuard_agg (P := P) w .eql t x y ⟨X⟩ ⟨Y⟩ hg
 have h2 := run_eql_struct (P := P) w t ⟨X⟩ ⟨Y⟩
 rw [eqS_ok ht hb w] at h2
 simp [At, execOp, hx, hy, Sem.run_bind, h1, h2, pure, Sem.run]
end
end Go.Proofs.YtgmjhlpjlggpiaaDoor.X
