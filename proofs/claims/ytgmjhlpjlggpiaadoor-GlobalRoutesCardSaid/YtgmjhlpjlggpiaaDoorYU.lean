/- Maps of slices: the slices are one's own, or are never written again. Lemmas over any program. -/
import Derived.Test.YtgmjhlpjlggpiaaDoorYN
namespace Go.Proofs.YtgmjhlpjlggpiaaDoor.X
open Go Go.RowKit Go.Instr
set_option linter.unusedVariables false
set_option linter.unusedSimpArgs false
set_option linter.unusedSectionVars false
abbrev nilH : Hd := ⟨none, 0, 0⟩
section
variable {κ α : Type} [DecidableEq κ] {kf : κ → Value} {ei : TypeId} {R : Rp α} {w0 w : World} {l : List Assn} {ρ : Heap} {b : Nat}
variable {β γ : Type}
/-- The keys, with the headers of their slices. -/
def zipK : List (κ × β) → List γ → List (κ × γ)
 | (k, _) :: es, h :: hs => (k, h) :: zipK es hs
 | _, _ => []
theorem zip_none {k : κ} : ∀ {es : List (κ × β)} {hs : List γ}, hs.length = es.length → mfind k es = none → mfind k (zipK es hs) = none
 | [], [], _, _ => rfl
 | [], _ :: _, h, _ => by simp at h
 | _ :: _, [], h, _ => by simp at h
 | (k', xs) :: es, a :: hs, hl, h => by
  simp only [mfind] at h
  by_cases e : k = k'
  ·simp [e] at h
  ·simp only [e, if_false] at h
   simp only [zipK, mfind, e, if_false]
   exact zip_none (by simpa using hl) h
theorem zip_some {k : κ} {xs : β} : ∀ {es : List (κ × β)} {hs : List γ}, hs.length = es.length → mfind k es = some xs → mfind k (zipK es hs) = hs[mpos k es]?
 | [], [], _, h => by simp [mfind] at h
 | [], _ :: _, h, _ => by simp at h
 | _ :: _, [], h, _ => by simp at h
 | (k', ys) :: es, a :: hs, hl, h => by
  simp only [mfind] at h
  by_cases e : k = k'
  ·simp [zipK, mfind, mpos, e]
  ·simp only [e, if_false] at h
   simp only [zipK, mfind, mpos, e, if_false, List.getElem?_cons_succ]
   exact zip_some (by simpa using hl) h
theorem row_at {k : κ} {xs : β} : ∀ {es : List (κ × β)}, mfind k es = some xs → (es.map (·.2))[mpos k es]? = some xs
 | [], h => by simp [mfind] at h
 | (k', ys) :: es, h => by
  simp only [mfind] at h
  by_cases e : k = k'
  ·simp only [e, if_true, Option.some.injEq] at h
   simp [mpos, e, h]
  ·simp only [e, if_false] at h
   simp only [List.map_cons, mpos, e, if_false, List.getElem?_cons_succ]
   exact row_at h
theorem mget_some {β : Type} {k : κ} {es : List (κ × β)} {v d : β} (h : mfind k es = some v) : mget k es d = v := by simp [mget, h]
theorem mget_none {β : Type} {k : κ} {es : List (κ × β)} {d : β} (h : mfind k es = none) : mget k es d = d := by simp [mget, h]
/-- All headers, what they lead to never written again. -/
def RdM (R : Rp α) (ρ : Heap) (es : List (κ × List α)) (hs : List Hd) : Prop := hs.length = es.length ∧ RepL (RpSl R) ρ (es.map (·.2)) (hs.map Hd.v)
theorem RdM.le {ρ ρ' : Heap} {es : List (κ × List α)} {hs : List Hd} (h : RdM R ρ es hs) (hle : Le ρ ρ') : RdM R ρ' es hs := ⟨h.1, h.2.le hle⟩
theorem repSl_at : ∀ {xss : List (List α)} {hs : List Hd} {i : Nat} {xs : List α}, RepL (RpSl R) ρ xss (hs.map Hd.v) → xss[i]? = some xs → ∃ A n c, hs[i]? = some ⟨A, n, c⟩ ∧ RdS R ρ A n c xs
 | [], hs, i, xs, h, hi => by simp at hi
 | y :: xss, hs, i, xs, ⟨c1, c2, e, ⟨A, n, c, e1, h1⟩, h2⟩, hi => by
  subst e1
  cases hs with
  | nil => simp at e
  | cons hd hs =>
   simp only [List.map_cons, List.singleton_append, List.cons.injEq] at e
   obtain ⟨e0, rfl⟩ := e
   obtain ⟨A', n', c'⟩ := hd
   injection e0 with e1 e2 e3
   subst e1 e2 e3
   cases i with
   | zero =>
    simp only [List.getElem?_cons_zero, Option.some.injEq] at hi ⊢
    subst hi
    exact ⟨A', n', c', rfl, h1⟩
   | succ i =>
    simp only [List.getElem?_cons_succ] at hi ⊢
    exact repSl_at h2 hi
theorem RdM.get {es : List (κ × List α)} {hs : List Hd} (h : RdM R ρ es hs) (k : κ) : ∃ A n c, mget k (zipK es hs) nilH = ⟨A, n, c⟩ ∧ RdS R ρ A n c (mget k es []) := by
 cases hf : mfind k es with
 | none => exact ⟨none, 0, 0, by rw [mget_none (zip_none h.1 hf)], by rw [mget_none hf]; exact RdS.nil⟩
 | some xs =>
  obtain ⟨A, n, c, e, hr⟩ := repSl_at h.2 (row_at hf)
  exact ⟨A, n, c, by rw [mget_some ((zip_some h.1 hf).trans e)], by rw [mget_some hf]; exact hr⟩
theorem RdM.has {es : List (κ × List α)} {hs : List Hd} (h : RdM R ρ es hs) (k : κ) : mhas k (zipK es hs) = mhas k es := by
 cases hf : mfind k es with
 | none => simp [mhas, hf, zip_none h.1 hf]
 | some xs =>
  obtain ⟨A, n, c, e, hr⟩ := repSl_at h.2 (row_at hf)
  simp [mhas, hf, (zip_some h.1 hf).trans e]
end
section
variable {P : Program} {n : Nat} {Rr : Env → World → Prop} {st : List It} {E : Env} {w0 w : World} {l : List Assn} {all : Array Oper} {rest : List Oper} {ty : TypeId} {pos : String} {af : Array Edge} {g : Option (Nat × Bool)} {x y z : Operand}
variable {κ α : Type} [DecidableEq κ] {kf : κ → Value} {ei : TypeId} {R : Rp α} {b : Nat}
end
end Go.Proofs.YtgmjhlpjlggpiaaDoor.X
