/- Two plain programs side by side. Rules, one for each word; no program in sight. -/
import Derived.Test.YtlolchgeedegdaaDoorYQ
namespace Go.Proofs.YtlolchgeedegdaaDoor.X
open Go Go.RowKit
set_option linter.unusedVariables false
section
variable {α β γ δ σ τ : Type}
def Ok2 (m1 : Option α) (m2 : Option β) (Q : α → β → Prop) : Prop := ∃ x y, m1 = some x ∧ m2 = some y ∧ Q x y
theorem ok2_some {a : α} {b : β} {Q : α → β → Prop} (h : Q a b) : Ok2 (some a) (some b) Q := ⟨a, b, rfl, rfl, h⟩
theorem Ok2.mono {m1 : Option α} {m2 : Option β} {Q Q' : α → β → Prop} (h : Ok2 m1 m2 Q) (hQ : ∀ x y, Q x y → Q' x y) : Ok2 m1 m2 Q' := by
  obtain ⟨x, y, h1, h2, h3⟩ := h; exact ⟨x, y, h1, h2, hQ x y h3⟩
theorem ok2_bd {m1 : Option α} {m2 : Option β} {k1 : α → Option γ} {k2 : β → Option δ} {Q : γ → δ → Prop} {R : α → β → Prop} (hm : Ok2 m1 m2 R) (h : ∀ x y, m1 = some x → R x y → Ok2 (k1 x) (k2 y) Q) : Ok2 (bd m1 k1) (bd m2 k2) Q := by
  obtain ⟨x, y, rfl, rfl, hx⟩ := hm; exact h x y rfl hx
theorem ok2_one {m : Option α} {k1 : α → Option γ} {k2 : α → Option δ} {Q : γ → δ → Prop} {R : α → Prop} (hm : Ok m R) (h : ∀ x, R x → Ok2 (k1 x) (k2 x) Q) : Ok2 (bd m k1) (bd m k2) Q := by
  obtain ⟨x, rfl, hx⟩ := hm; exact h x hx
theorem ok2_both {m1 : Option α} {m2 : Option β} {k1 : α → Option γ} {k2 : β → Option δ} {Q : γ → δ → Prop} {R1 : α → Prop} {R2 : β → Prop} (h1 : Ok m1 R1) (h2 : Ok m2 R2) (h : ∀ x y, R1 x → R2 y → Ok2 (k1 x) (k2 y) Q) : Ok2 (bd m1 k1) (bd m2 k2) Q := by
  obtain ⟨x, rfl, hx⟩ := h1; obtain ⟨y, rfl, hy⟩ := h2; exact h x y hx hy
theorem ok2_ck {c1 c2 : Prop} [Decidable c1] [Decidable c2] {k1 : Option γ} {k2 : Option δ} {Q : γ → δ → Prop} (h1 : c1) (h2 : c2) (h : Ok2 k1 k2 Q) : Ok2 (ck c1 k1) (ck c2 k2) Q := by unfold ck; rw [if_pos h1, if_pos h2]; exact h
theorem ok2_lv {a : α} {b : β} {k1 : α → Option γ} {k2 : β → Option δ} {Q : γ → δ → Prop} (h : Ok2 (k1 a) (k2 b) Q) : Ok2 (lv a k1) (lv b k2) Q := h
theorem ok2_ar {a b : Int} {k1 : Int → Option γ} {k2 : Int → Option δ} {Q : γ → δ → Prop} (h1 : I64 a) (h2 : I64 b) (h : Ok2 (k1 a) (k2 b) Q) : Ok2 (ar a k1) (ar b k2) Q := by unfold ar; rw [if_pos h1, if_pos h2]; exact h
theorem ok2_ite {c1 c2 : Prop} [Decidable c1] [Decidable c2] {a1 b1 : Option γ} {a2 b2 : Option δ} {Q : γ → δ → Prop} (hc : c1 ↔ c2) (ha : c1 → Ok2 a1 a2 Q) (hb : ¬ c1 → Ok2 b1 b2 Q) : Ok2 (if c1 then a1 else b1) (if c2 then a2 else b2) Q := by
  by_cases h : c1
  · rw [if_pos h, if_pos (hc.1 h)]; exact ha h
  · rw [if_neg h, if_neg (fun x => h (hc.2 x))]; exact hb h
/-- One round of two loops: both go on, or both end. -/
def Step2 (I : σ → τ → Prop) (μ : σ → Nat) (s : σ) (Q : γ → δ → Prop) (o1 : σ ⊕ γ) (o2 : τ ⊕ δ) : Prop := (∃ s' t', o1 = .inl s' ∧ o2 = .inl t' ∧ I s' t' ∧ μ s' < μ s) ∨ ∃ x y, o1 = .inr x ∧ o2 = .inr y ∧ Q x y
theorem lp2_ok {b1 : σ → Option (σ ⊕ γ)} {b2 : τ → Option (τ ⊕ δ)} {Q : γ → δ → Prop} (I : σ → τ → Prop) (μ : σ → Nat)
    (h : ∀ s t, I s t → Ok2 (b1 s) (b2 t) (Step2 I μ s Q)) : ∀ (n : Nat) (s : σ) (t : τ), μ s < n → I s t → Ok2 (lp b1 n s) (lp b2 n t) Q := by
  intro n
  induction n with
  | zero => intro s t hs; omega
  | succ n ih =>
    intro s t hs hI
    obtain ⟨o1, o2, e1, e2, hq⟩ := h s t hI
    rcases hq with ⟨s', t', rfl, rfl, hI', hlt⟩ | ⟨x, y, rfl, rfl, hQ⟩
    · obtain ⟨x, y, h1, h2, hQ⟩ := ih s' t' (by omega) hI'
      exact ⟨x, y, by simp only [lp, e1]; exact h1, by simp only [lp, e2]; exact h2, hQ⟩
    · exact ⟨x, y, by simp only [lp, e1], by simp only [lp, e2], hQ⟩
theorem ok2_lp {b1 : σ → Option (σ ⊕ γ)} {b2 : τ → Option (τ ⊕ δ)} {Q : γ → δ → Prop} {s : σ} {t : τ} (I : σ → τ → Prop) (μ : σ → Nat) (h0 : I s t) (hf : μ s < 4611686018427387904)
    (h : ∀ s t, I s t → Ok2 (b1 s) (b2 t) (Step2 I μ s Q)) : Ok2 (lp b1 fuel s) (lp b2 fuel t) Q :=
  lp2_ok I μ h fuel s t (by unfold fuel; exact hf) h0
theorem ok2_next {s' : σ} {t' : τ} {I : σ → τ → Prop} {μ : σ → Nat} {s : σ} {Q : γ → δ → Prop} (h : I s' t') (hlt : μ s' < μ s) :
    Ok2 (some (Sum.inl s' : σ ⊕ γ)) (some (Sum.inl t' : τ ⊕ δ)) (Step2 I μ s Q) := ok2_some (.inl ⟨s', t', rfl, rfl, h, hlt⟩)
theorem ok2_end {x : γ} {y : δ} {I : σ → τ → Prop} {μ : σ → Nat} {s : σ} {Q : γ → δ → Prop} (h : Q x y) :
    Ok2 (some (Sum.inr x : σ ⊕ γ)) (some (Sum.inr y : τ ⊕ δ)) (Step2 I μ s Q) := ok2_some (.inr ⟨x, y, rfl, rfl, h⟩)
end
section
variable {α β γ σ : Type}
/-- Whatever it answers, Q holds of it. -/
def Pt (m : Option α) (Q : α → Prop) : Prop := ∀ r, m = some r → Q r
theorem pt_some {a : α} {Q : α → Prop} (h : Q a) : Pt (some a) Q := fun r e => by cases e; exact h
theorem Pt.mono {m : Option α} {Q Q' : α → Prop} (h : Pt m Q) (hQ : ∀ r, Q r → Q' r) : Pt m Q' := fun r e => hQ r (h r e)
theorem pt_ck {c : Prop} [Decidable c] {k : Option β} {Q : β → Prop} (h : c → Pt k Q) : Pt (ck c k) Q := fun r e => by
  unfold ck at e
  split at e
  · rename_i hc; exact h hc r e
  · cases e
theorem pt_ar {v : Int} {k : Int → Option β} {Q : β → Prop} (h : I64 v → Pt (k v) Q) : Pt (ar v k) Q := fun r e => by
  unfold ar at e
  split at e
  · rename_i hc; exact h hc r e
  · cases e
theorem pt_lv {v : α} {k : α → Option β} {Q : β → Prop} (h : Pt (k v) Q) : Pt (lv v k) Q := h
theorem pt_bd {m : Option α} {k : α → Option β} {R : α → Prop} {Q : β → Prop} (hm : Pt m R) (h : ∀ x, R x → Pt (k x) Q) : Pt (bd m k) Q := fun r e => by
  cases m with
  | none => cases e
  | some x => exact h x (hm x rfl) r e
theorem pt_ite {c : Prop} [Decidable c] {a b : Option β} {Q : β → Prop} (ha : c → Pt a Q) (hb : ¬ c → Pt b Q) : Pt (if c then a else b) Q := by
  by_cases hc : c
  · rw [if_pos hc]; exact ha hc
  · rw [if_neg hc]; exact hb hc
theorem lp_pt {body : σ → Option (σ ⊕ β)} {Q : β → Prop} (I : σ → Prop) (h : ∀ s, I s → Pt (body s) (fun o => match o with | .inl s' => I s' | .inr b => Q b)) : ∀ (n : Nat) (s : σ), I s → Pt (lp body n s) Q := by
  intro n
  induction n with
  | zero => intro s _ r e; cases e
  | succ n ih =>
    intro s hI r e
    simp only [lp] at e
    cases hb : body s with
    | none => rw [hb] at e; cases e
    | some o =>
      rw [hb] at e
      have := h s hI o hb
      cases o with
      | inl s' => exact ih s' this r e
      | inr b => simp only at e; cases e; exact this
theorem pt_lp {body : σ → Option (σ ⊕ β)} {Q : β → Prop} {s : σ} (I : σ → Prop) (h0 : I s) (h : ∀ s, I s → Pt (body s) (fun o => match o with | .inl s' => I s' | .inr b => Q b)) : Pt (lp body fuel s) Q := lp_pt I h fuel s h0
theorem Ok.pt {m : Option α} {Q R : α → Prop} (h : Ok m Q) (hp : Pt m R) : Ok m (fun r => Q r ∧ R r) := by
  obtain ⟨r, e, hq⟩ := h; exact ⟨r, e, hq, hp r e⟩
end
theorem stt_gt {α : Type} [Inhabited α] (xs : List α) {i : Int} (h : inb i xs.length) : stt xs i (gt xs i) = xs := by
  refine ext_gt (stt_length _ _ _) fun j h0 h1 => ?_
  rw [gt_stt xs _ h h0]
  split
  · rename_i e; rw [e]
  · rfl
end Go.Proofs.YtlolchgeedegdaaDoor.X
