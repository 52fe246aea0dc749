/- What lies in memory, for regions that draw their order and act: bundles, what is never written again told in parts. Plain lemmas over worlds. -/
import Derived.Test.YtfkncjfpgflafaaYE
namespace Go.Proofs.Ytfkncjfpgflafaa.X
open Go Go.RowKit
set_option linter.unusedVariables false
set_option linter.unusedSimpArgs false
section
variable {w0 w : World} {l : List Assn} {A B : Assn}
def pureA (p : Prop) (A : Assn) : Assn := ⟨fun h F => p ∧ A.holds h F, fun ⟨hp, h⟩ hs => ⟨hp, A.loc h hs⟩⟩
def sepL : List Assn → Assn
 | [] => emp
 | a :: r => sep a (sepL r)
theorem St.pureI {p : Prop} (hp : p) (h : St w0 w (A :: l)) : St w0 w (pureA p A :: l) := h.tell fun F hF => ⟨hp, hF⟩
theorem St.pureE {p : Prop} (h : St w0 w (pureA p A :: l)) : p ∧ St w0 w (A :: l) := by
 refine ⟨?_, h.tell fun F hF => hF.2⟩
 obtain ⟨F, hF, _⟩ := h.head
 exact hF.1
theorem St.sepI : ∀ {L : List Assn} {l : List Assn}, St w0 w (L ++ l) → St w0 w (sepL L :: l)
 | [], l, h => St.emp h
 | a :: r, l, h => by
  have h1 : St w0 w (r ++ (a :: l)) := h.perm (List.perm_middle).symm
  have h2 : St w0 w (sepL r :: a :: l) := St.sepI h1
  exact (h2.perm (.swap _ _ _)).join
theorem St.sepE : ∀ {L : List Assn} {l : List Assn}, St w0 w (sepL L :: l) → St w0 w (L ++ l)
 | [], l, h => h.drop
 | a :: r, l, h => by
  have h1 : St w0 w (sepL r :: a :: l) := h.part.perm (.swap _ _ _)
  exact (St.sepE h1).perm List.perm_middle
/-- A bundle: some things, facts about them, what lies in memory of them. -/
def bunA {α : Type} (Φ : α → Prop) (L : α → List Assn) : Assn := ex fun x => pureA (Φ x) (sepL (L x))
theorem St.bun {α : Type} {Φ : α → Prop} {L : α → List Assn} (x : α) (hp : Φ x) (h : St w0 w (L x ++ l)) : St w0 w (bunA Φ L :: l) := St.ex x (St.pureI hp (St.sepI h))
theorem St.unbun {α : Type} {Φ : α → Prop} {L : α → List Assn} (h : St w0 w (bunA Φ L :: l)) : ∃ x, Φ x ∧ St w0 w (L x ++ l) := by
 obtain ⟨x, hx⟩ := St.unex h
 obtain ⟨hp, hS⟩ := St.pureE hx
 exact ⟨x, hp, St.sepE hS⟩
/-- What is never written again, but for what was so at first. -/
def roD (ρ0 ρ : Heap) : Assn := roR fun b => match ρ0 b with | some _ => none | none => ρ b
theorem roD_some {ρ0 ρ : Heap} {b : Nat} {o : Obj} : (match ρ0 b with | some _ => none | none => ρ b) = some o ↔ ρ0 b = none ∧ ρ b = some o := by
 cases h : ρ0 b <;> simp
theorem St.ro_split {ρ0 ρ : Heap} (hle : Le ρ0 ρ) (h : St w0 w (ro ρ :: l)) : St w0 w (ro ρ0 :: roD ρ0 ρ :: l) := by
 refine St.part ?_
 have key : ∀ F, (ro ρ).holds (hp w) F → F.Nodup → ∃ F1 F2, F.Perm (F1 ++ F2) ∧ (ro ρ0).holds (hp w) F1 ∧ (roD ρ0 ρ).holds (hp w) F2 := by
  intro F hF hn
  refine ⟨F.filter fun b => (ρ0 b).isSome, F.filter fun b => !(ρ0 b).isSome, (List.filter_append_perm _ F).symm, ?_, ?_⟩
  ·refine ⟨?_, hle.base hF.2⟩
   intro b o hb
   obtain ⟨h1, h2⟩ := hF.1 b o (hle.ext b o hb)
   exact ⟨h1, List.mem_filter.2 ⟨h2, by simp [hb]⟩⟩
  ·intro b o hb
   obtain ⟨h0, h1⟩ := roD_some.1 hb
   obtain ⟨h2, h3⟩ := hF.1 b o h1
   exact ⟨h2, List.mem_filter.2 ⟨h3, by simp [h0]⟩⟩
 refine h.step rfl rfl rfl (Nat.le_refl _) fun F hF hb hn => ?_
 obtain ⟨F1, F2, hp, h1, h2⟩ := key F hF hn
 exact ⟨F1 ++ F2, ⟨F1, F2, rfl, h1, h2⟩, hp.nodup_iff.1 hn, fun b hb' => .inl (hp.mem_iff.2 hb'), fun b hb' => hb b (hp.mem_iff.2 hb'), fun _ _ _ => rfl⟩
theorem St.ro_disj {ρ1 ρ2 : Heap} (h : St w0 w (ro ρ1 :: roR ρ2 :: l)) : ∀ b o o', ρ1 b = some o → ρ2 b = some o' → False := by
 intro b o o' h1 h2
 obtain ⟨ps, hm, hh, hn, hb⟩ := h.out
 match ps, hm with
 | [p], hm => simp at hm
 | p :: q :: ps, hm =>
  simp only [List.map_cons, List.cons.injEq] at hm
  obtain ⟨e1, e2, hm⟩ := hm
  have hp := hh p (by simp)
  have hq := hh q (by simp)
  rw [e1] at hp
  rw [e2] at hq
  simp only [List.flatMap_cons] at hn
  exact absurd rfl ((List.nodup_append.1 hn).2.2 b (hp.1 b o h1).2 b (List.mem_append_left _ (hq b o' h2).2))
theorem St.ro_join {ρ0 ρ ρ1 : Heap} (h : St w0 w (ro ρ :: roD ρ0 ρ1 :: l)) (h0 : Le ρ0 ρ) (h1 : Le ρ0 ρ1) :
  ∃ ρ2, Le ρ ρ2 ∧ Le ρ1 ρ2 ∧ St w0 w (ro ρ2 :: l) ∧ ∀ {w' l'}, St w0 w' (ro ρ2 :: l') → St w0 w' (ro ρ :: roD ρ0 ρ1 :: l') := by
 have hd := h.ro_disj
 have hd' : ∀ b o o', ρ b = some o → ρ0 b = none → ρ1 b = some o' → False := fun b o o' a c d => hd b o o' a (roD_some.2 ⟨c, d⟩)
 let ρ2 : Heap := fun b => match ρ b with | some o => some o | none => ρ1 b
 have e1 : ∀ b o, ρ b = some o → ρ2 b = some o := fun b o hb => by simp [ρ2, hb]
 have e2 : ∀ b o, ρ1 b = some o → ρ2 b = some o := fun b o hb => by
  cases hr : ρ b with
  | none => simp [ρ2, hr, hb]
  | some o' =>
   cases h00 : ρ0 b with
   | none => exact (hd' b o' o hr h00 hb).elim
   | some o'' =>
    have a1 := h0.ext b o'' h00
    have a2 := h1.ext b o'' h00
    rw [hr] at a1; rw [hb] at a2
    cases a1; cases a2
    exact e1 b _ hr
 have e3 : ∀ b o, ρ2 b = some o → ρ b = some o ∨ (ρ b = none ∧ ρ0 b = none ∧ ρ1 b = some o) := fun b o hb => by
  simp only [ρ2] at hb
  cases hr : ρ b with
  | some o' => rw [hr] at hb; exact .inl hb
  | none =>
   rw [hr] at hb
   refine .inr ⟨rfl, ?_, hb⟩
   cases h00 : ρ0 b with
   | none => rfl
   | some o'' => have := h0.ext b o'' h00; rw [hr] at this; cases this
 have hB : Base ρ := h.base
 have hB1 : Base ρ1 := (h0.base hB).mono h1.ext
 refine ⟨ρ2, ⟨e1, fun _ => hB⟩, ⟨e2, fun _ => hB1⟩, h.join.tell ?_, fun {w' l'} h' => ?_⟩
 ·rintro F ⟨F1, F2, rfl, ⟨a, _⟩, c⟩
  refine ⟨?_, hB.mono e1⟩
  intro b o hb
  rcases e3 b o hb with h2 | ⟨_, h3, h4⟩
  ·obtain ⟨x, y⟩ := a b o h2; exact ⟨x, List.mem_append_left _ y⟩
  ·obtain ⟨x, y⟩ := c b o (roD_some.2 ⟨h3, h4⟩); exact ⟨x, List.mem_append_right _ y⟩
 ·have h3 := St.ro_split (ρ0 := ρ) (ρ := ρ2) ⟨e1, fun _ => hB⟩ h'
  have h4 : St w0 w' (roD ρ ρ2 :: ro ρ :: l') := h3.perm (.swap _ _ _)
  have h5 : St w0 w' (roD ρ0 ρ1 :: ro ρ :: l') := h4.tell fun F hF b o hb => by
   obtain ⟨a, c⟩ := roD_some.1 hb
   refine hF b o (roD_some.2 ⟨?_, e2 b o c⟩)
   cases hr : ρ b with
   | none => rfl
   | some o' => exact (hd' b o' o hr a c).elim
  exact h5.perm (.swap _ _ _)
end
end Go.Proofs.Ytfkncjfpgflafaa.X
