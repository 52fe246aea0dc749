/- Plain programs: what they answer. Rules, one for each word; no program in sight. -/
import Derived.Test.YtgmjhlpjlggpiaaDoorYC
namespace Go.Proofs.YtgmjhlpjlggpiaaDoor.X
open Go Go.RowKit
set_option linter.unusedVariables false
set_option linter.unusedSimpArgs false
section
variable {α β γ σ : Type}
def Ok (m : Option α) (Q : α → Prop) : Prop := ∃ r, m = some r ∧ Q r
theorem Ok.mono {m : Option α} {Q Q' : α → Prop} (h : Ok m Q) (hQ : ∀ r, Q r → Q' r) : Ok m Q' := by
 obtain ⟨r, hr, hq⟩ := h; exact ⟨r, hr, hQ r hq⟩
theorem Ok.and {m : Option α} {Q Q' : α → Prop} (h : Ok m Q) (h' : Ok m Q') : Ok m (fun r => Q r ∧ Q' r) := by
 obtain ⟨r, hr, hq⟩ := h; obtain ⟨r', hr', hq'⟩ := h'; rw [hr] at hr'; cases hr'; exact ⟨r, hr, hq, hq'⟩
theorem ok_some {a : α} {Q : α → Prop} (h : Q a) : Ok (some a) Q := ⟨a, rfl, h⟩
theorem ok_eq {m : Option α} {a : α} {Q : α → Prop} (e : m = some a) (h : Q a) : Ok m Q := ⟨a, e, h⟩
theorem ok_ck {c : Prop} [Decidable c] {k : Option β} {Q : β → Prop} (hc : c) (h : Ok k Q) : Ok (ck c k) Q := by unfold ck; rw [if_pos hc]; exact h
theorem ok_bd {m : Option α} {k : α → Option β} {Q : β → Prop} {R : α → Prop} (hm : Ok m R) (h : ∀ x, R x → Ok (k x) Q) : Ok (bd m k) Q := by
 obtain ⟨x, rfl, hx⟩ := hm; exact h x hx
theorem ok_lv {v : α} {k : α → Option β} {Q : β → Prop} (h : Ok (k v) Q) : Ok (lv v k) Q := h
theorem ok_lv' {v : α} {k : α → Option β} {Q : β → Prop} (h : ∀ x, x = v → Ok (k x) Q) : Ok (lv v k) Q := h v rfl
theorem ok_ar {v : Int} {k : Int → Option β} {Q : β → Prop} (hc : I64 v) (h : Ok (k v) Q) : Ok (ar v k) Q := by unfold ar; rw [if_pos hc]; exact h
theorem ok_ar' {v : Int} {k : Int → Option β} {Q : β → Prop} (hc : I64 v) (h : ∀ x, x = v → Ok (k x) Q) : Ok (ar v k) Q := ok_ar hc (h v rfl)
theorem ok_ite {c : Prop} [Decidable c] {a b : Option β} {Q : β → Prop} (ha : c → Ok a Q) (hb : ¬ c → Ok b Q) : Ok (if c then a else b) Q := by
 by_cases hc : c
 ·rw [if_pos hc]; exact ha hc
 ·rw [if_neg hc]; exact hb hc
theorem ok_t {c : Prop} [Decidable c] {a b : Option β} {Q : β → Prop} (hc : c) (h : Ok a Q) : Ok (if c then a else b) Q := by rw [if_pos hc]; exact h
theorem ok_f {c : Prop} [Decidable c] {a b : Option β} {Q : β → Prop} (hc : ¬ c) (h : Ok b Q) : Ok (if c then a else b) Q := by rw [if_neg hc]; exact h
theorem ok_bs {m : Option (α ⊕ γ)} {k2 : γ → Option β} {k : α → Option β} {Q : β → Prop} {R : α ⊕ γ → Prop} (hm : Ok m R) (h1 : ∀ x, R (.inl x) → Ok (k x) Q) (h2 : ∀ y, R (.inr y) → Ok (k2 y) Q) : Ok (bs m k2 k) Q := by
 obtain ⟨o, rfl, ho⟩ := hm
 cases o with
 | inl x => exact h1 x ho
 | inr y => exact h2 y ho
/-- A piece with two ends, of which the first comes. -/
theorem ok_bs1 {m : Option (α ⊕ γ)} {k2 : γ → Option β} {k : α → Option β} {Q : β → Prop} {R : α → Prop} (hm : Ok m (fun o => ∃ x, o = .inl x ∧ R x)) (h1 : ∀ x, R x → Ok (k x) Q) : Ok (bs m k2 k) Q := by
 obtain ⟨o, rfl, x, rfl, hx⟩ := hm
 exact h1 x hx
theorem ok_gd [Inhabited α] {q : Bool} {m : Option α} {Q : α → Prop} (ht : q = true → Ok m Q) (hf : q = false → Q default) : Ok (gd q m) Q := by
 cases q with
 | true => exact ht rfl
 | false => exact ⟨default, rfl, hf rfl⟩
theorem lp_ok {body : σ → Option (σ ⊕ β)} {Q : β → Prop} (I : σ → Prop) (μ : σ → Nat)
  (h : ∀ s, I s → Ok (body s) (fun o => match o with | .inl s' => I s' ∧ μ s' < μ s | .inr b => Q b)) : ∀ (n : Nat) (s : σ), μ s < n → I s → Ok (lp body n s) Q := by
 intro n
 induction n with
 | zero => intro s hs; omega
 | succ n ih =>
  intro s hs hI
  obtain ⟨o, ho, hq⟩ := h s hI
  cases o with
  | inl s' =>
   obtain ⟨hI', hlt⟩ := hq
   obtain ⟨r, hr, hQ⟩ := ih s' (by omega) hI'
   exact ⟨r, by simp only [lp, ho]; exact hr, hQ⟩
  | inr b => exact ⟨b, by simp only [lp, ho], hq⟩
theorem ok_lp {body : σ → Option (σ ⊕ β)} {Q : β → Prop} {s : σ} (I : σ → Prop) (μ : σ → Nat) (h0 : I s) (hf : μ s < 4611686018427387904)
  (h : ∀ s, I s → Ok (body s) (fun o => match o with | .inl s' => I s' ∧ μ s' < μ s | .inr b => Q b)) : Ok (lp body fuel s) Q :=
 lp_ok I μ h fuel s (by unfold fuel; exact hf) h0
theorem Ok.val {m : Option α} {Q : α → Prop} {r : α} (h : Ok m Q) (hr : m = some r) : Q r := by obtain ⟨r', e, hq⟩ := h; rw [hr] at e; cases e; exact hq
end
section
variable {α : Type}
theorem gt_stt [Inhabited α] (xs : List α) {i j : Int} (x : α) (hi : inb i xs.length) (hj : 0 ≤ j) : gt (stt xs i x) j = if j = i then x else gt xs j := by
 have h1 := inb_lt hi
 have h2 := hi.1
 simp only [gt, stt, List.getD_eq_getElem?_getD, List.getElem?_set]
 by_cases e : j = i
 ·subst e; simp [h1]
 ·rw [if_neg (by omega), if_neg e]
theorem gt_app_l [Inhabited α] {xs ys : List α} {i : Int} (h : i.toNat < xs.length) : gt (xs ++ ys) i = gt xs i := by
 simp only [gt, List.getD_eq_getElem?_getD, List.getElem?_append_left h]
theorem gt_app_1 [Inhabited α] {xs : List α} {x : α} {i : Int} (h : i = xs.length) : gt (xs ++ [x]) i = x := by
 subst h; simp [gt]
theorem gt_mem [Inhabited α] {xs : List α} {i : Int} (h : inb i xs.length) : gt xs i ∈ xs := by
 rw [gt_get h]; exact List.getElem_mem _
end
end Go.Proofs.YtgmjhlpjlggpiaaDoor.X
