/- Plain functions that hold whatever the order is in which a map's entries come: they tell what has to be shown of an outcome. -/
import Derived.Test.YtgmjhlpjlggpiaaDoorYM
import Derived.Test.YtgmjhlpjlggpiaaDoorYP
namespace Go.Proofs.YtgmjhlpjlggpiaaDoor.X
open Go Go.RowKit
set_option linter.unusedVariables false
/-- What an outcome has to fulfil, turned to what holds now. -/
abbrev Nd (α : Type) := (α → Prop) → Prop
section
variable {α β γ σ : Type}
def nret (x : α) : Nd α := fun Q => Q x
def nck (c : Prop) (k : Nd β) : Nd β := fun Q => c ∧ k Q
def nlv (v : α) (k : α → Nd β) : Nd β := k v
def nar (v : Int) (k : Int → Nd β) : Nd β := fun Q => I64 v ∧ k v Q
def nof (m : Option α) : Nd α := fun Q => ∃ x, m = some x ∧ Q x
def nbd (m : Nd α) (k : α → Nd β) : Nd β := fun Q => m (fun x => k x Q)
def nbs (m : Nd (α ⊕ γ)) (k2 : γ → Nd β) (k : α → Nd β) : Nd β := fun Q => m (fun o => (match o with | .inl x => k x | .inr y => k2 y) Q)
def nlp (body : σ → Nd (σ ⊕ β)) : Nat → σ → Nd β
 | 0, _ => fun _ => False
 | n + 1, s => fun Q => body s (fun o => (match o with | .inl s' => nlp body n s' | .inr b => nret b) Q)
/-- The next entry of a map of n entries, those in seen have come: none, or whichever. -/
def nnx (n : Nat) (seen : List Nat) (a : Nd β) (k : Nat → Nd β) : Nd β := fun Q => ((∀ i, i < n → i ∈ seen) → a Q) ∧ ∀ i : Nat, i < n → i ∉ seen → k i Q
theorem nck_s {c : Prop} {k : Nd β} {Q : β → Prop} (h : nck c k Q) : c ∧ k Q := h
theorem nlv_s {v : α} {k : α → Nd β} {Q : β → Prop} (h : nlv v k Q) : ∃ x, x = v ∧ k x Q := ⟨v, rfl, h⟩
theorem nar_s {v : Int} {k : Int → Nd β} {Q : β → Prop} (h : nar v k Q) : ∃ x, (x = v ∧ I64 v) ∧ k x Q := ⟨v, ⟨rfl, h.1⟩, h.2⟩
theorem nbd_s {m : Option α} {k : α → Nd β} {Q : β → Prop} (h : nbd (nof m) k Q) : ∃ x, m = some x ∧ k x Q := h
theorem nbd_c {m : Nd α} {k : α → Nd β} {Q : β → Prop} (h : nbd m k Q) : m (fun x => k x Q) := h
theorem nbd_j {m : Nd α} {k : α → Nd β} {Q : β → Prop} (h : nbd m k Q) : ∃ q : α → Prop, m q ∧ ∀ x, q x → k x Q := ⟨_, h, fun _ h => h⟩
theorem nbs_j {m : Nd (α ⊕ γ)} {k2 : γ → Nd β} {k : α → Nd β} {Q : β → Prop} (h : nbs m k2 k Q) : ∃ q : α ⊕ γ → Prop, m q ∧ ∀ o, q o → (match o with | .inl x => k x | .inr y => k2 y) Q := ⟨_, h, fun _ h => h⟩
theorem nlp_s {body : σ → Nd (σ ⊕ β)} {k : Nat} {s : σ} {Q : β → Prop} (h : nlp body k s Q) : ∃ k' q, k = k' + 1 ∧ body s q ∧ ∀ o, q o → (match o with | .inl s' => nlp body k' s' | .inr b => nret b) Q := by
 cases k with
 | zero => exact h.elim
 | succ k => exact ⟨k, _, rfl, h, fun _ h => h⟩
theorem nit_t {c : Prop} [Decidable c] {a b : Nd β} {Q : β → Prop} (hc : c) (h : (if c then a else b) Q) : a Q := by rwa [if_pos hc] at h
theorem nit_f {c : Prop} [Decidable c] {a b : Nd β} {Q : β → Prop} (hc : ¬ c) (h : (if c then a else b) Q) : b Q := by rwa [if_neg hc] at h
theorem nit_bf {c : Bool} {a b : Nd β} {Q : β → Prop} (hc : c = false) (h : (if c = true then a else b) Q) : b Q := by subst hc; simpa using h
theorem nnx_a {n : Nat} {seen : List Nat} {a : Nd β} {k : Nat → Nd β} {Q : β → Prop} (h : nnx n seen a k Q) (hd : ∀ i, i < n → i ∈ seen) : a Q := h.1 hd
theorem nnx_k {n : Nat} {seen : List Nat} {a : Nd β} {k : Nat → Nd β} {Q : β → Prop} (h : nnx n seen a k Q) {i : Nat} (hi : i < n) (hn : i ∉ seen) : k i Q := h.2 i hi hn
/-! rules -/
/-- All outcomes fulfil R. -/
def NOk (m : Nd α) (R : α → Prop) : Prop := ∀ Q : α → Prop, (∀ x, R x → Q x) → m Q
theorem NOk.mono {m : Nd α} {R R' : α → Prop} (h : NOk m R) (hR : ∀ x, R x → R' x) : NOk m R' := fun Q hQ => h Q fun x hx => hQ x (hR x hx)
theorem nok_ret {x : α} {R : α → Prop} (h : R x) : NOk (nret x) R := fun Q hQ => hQ x h
theorem nok_ck {c : Prop} {k : Nd β} {R : β → Prop} (hc : c) (h : NOk k R) : NOk (nck c k) R := fun Q hQ => ⟨hc, h Q hQ⟩
theorem nok_lv {v : α} {k : α → Nd β} {R : β → Prop} (h : NOk (k v) R) : NOk (nlv v k) R := h
theorem nok_ar {v : Int} {k : Int → Nd β} {R : β → Prop} (hc : I64 v) (h : NOk (k v) R) : NOk (nar v k) R := fun Q hQ => ⟨hc, h Q hQ⟩
theorem nok_of {m : Option α} {R : α → Prop} (h : Ok m R) : NOk (nof m) R := fun Q hQ => by
 obtain ⟨x, e, hx⟩ := h
 exact ⟨x, e, hQ x hx⟩
theorem nok_bd {m : Nd α} {k : α → Nd β} {R : β → Prop} {S : α → Prop} (hm : NOk m S) (h : ∀ x, S x → NOk (k x) R) : NOk (nbd m k) R := fun Q hQ => hm _ fun x hx => h x hx Q hQ
theorem nok_bo {m : Option α} {k : α → Nd β} {R : β → Prop} {S : α → Prop} (hm : Ok m S) (h : ∀ x, S x → NOk (k x) R) : NOk (nbd (nof m) k) R := nok_bd (nok_of hm) h
theorem nok_bs {m : Nd (α ⊕ γ)} {k2 : γ → Nd β} {k : α → Nd β} {R : β → Prop} {S : α ⊕ γ → Prop} (hm : NOk m S) (h1 : ∀ x, S (.inl x) → NOk (k x) R) (h2 : ∀ y, S (.inr y) → NOk (k2 y) R) : NOk (nbs m k2 k) R := fun Q hQ => hm _ fun o ho => by
 cases o with
 | inl x => exact h1 x ho Q hQ
 | inr y => exact h2 y ho Q hQ
theorem nok_ite {c : Prop} [Decidable c] {a b : Nd β} {R : β → Prop} (ha : c → NOk a R) (hb : ¬ c → NOk b R) : NOk (if c then a else b) R := by
 by_cases h : c
 ·rw [if_pos h]; exact ha h
 ·rw [if_neg h]; exact hb h
theorem nok_t {c : Prop} [Decidable c] {a b : Nd β} {R : β → Prop} (hc : c) (h : NOk a R) : NOk (if c then a else b) R := by rw [if_pos hc]; exact h
theorem nok_f {c : Prop} [Decidable c] {a b : Nd β} {R : β → Prop} (hc : ¬ c) (h : NOk b R) : NOk (if c then a else b) R := by rw [if_neg hc]; exact h
theorem nok_nx {n : Nat} {seen : List Nat} {a : Nd β} {k : Nat → Nd β} {R : β → Prop} (ha : (∀ i, i < n → i ∈ seen) → NOk a R) (hk : ∀ i : Nat, i < n → i ∉ seen → NOk (k i) R) : NOk (nnx n seen a k) R := fun Q hQ => ⟨fun h => ha h Q hQ, fun i h0 h1 => hk i h0 h1 Q hQ⟩
theorem nlp_ok {body : σ → Nd (σ ⊕ β)} {R : β → Prop} (I : σ → Prop) (μ : σ → Nat) (hb : ∀ s, I s → NOk (body s) (fun o => match o with | .inl s' => I s' ∧ μ s' < μ s | .inr b => R b)) : ∀ (n : Nat) (s : σ), I s → μ s < n → NOk (nlp body n s) R
 | 0, s, _, h => by omega
 | n + 1, s, hI, h => fun Q hQ => hb s hI _ fun o ho => by
  cases o with
  | inl s' => exact nlp_ok I μ hb n s' ho.1 (by have := ho.2; omega) Q hQ
  | inr b => exact hQ b ho
theorem nok_lp {body : σ → Nd (σ ⊕ β)} {R : β → Prop} {s : σ} (I : σ → Prop) (μ : σ → Nat) (h0 : I s) (hf : μ s < 4611686018427387904) (hb : ∀ s, I s → NOk (body s) (fun o => match o with | .inl s' => I s' ∧ μ s' < μ s | .inr b => R b)) : NOk (nlp body fuel s) R :=
 nlp_ok I μ hb fuel s h0 (by unfold fuel; exact hf)
end
end Go.Proofs.YtgmjhlpjlggpiaaDoor.X
