/- What lies in memory, told block by block: a list of assertions on disjoint blocks, one of them what is never written again. Plain lemmas over worlds, no program in sight. -/
import Derived.WalkKit
import Derived.Test.YtgmjhlpjlggpiaaDoorXO
namespace Go.Proofs.YtgmjhlpjlggpiaaDoor.X
open Go Go.RowKit
set_option linter.unusedVariables false

abbrev Heap := Nat → Option Obj
def hp (w : World) : Heap := fun b => w.heap[b]?
def cellOf (h : Heap) (a : Addr) : Option Value :=
 match h a.block with
 | some (.cells c _ _) => if a.spot.isSome then none else c[a.off]?
 | _ => none
theorem cell_hp (w : World) (a : Addr) : w.cell? a = cellOf (hp w) a := rfl

structure Assn where
 holds : Heap → List Nat → Prop
 loc : ∀ {h h' : Heap} {F : List Nat}, holds h F → (∀ b ∈ F, h' b = h b) → holds h' F

/-- The world w, of which w0 was the first, holds all of l, each on blocks of its own. -/
structure St (w0 w : World) (l : List Assn) : Prop where
 os : w.os = w0.os
 tape : w.tape = w0.tape
 output : w.output = w0.output
 ord : w0.drawn ≤ w.drawn
 out : ∃ ps : List (Assn × List Nat), ps.map (·.1) = l ∧ (∀ p ∈ ps, p.1.holds (hp w) p.2) ∧ (ps.flatMap (·.2)).Nodup ∧ ∀ b ∈ ps.flatMap (·.2), b < w.heap.size

theorem lift_perm {l l' : List Assn} (h : l.Perm l') : ∀ ps : List (Assn × List Nat), ps.map (·.1) = l → ∃ ps' : List (Assn × List Nat), ps'.Perm ps ∧ ps'.map (·.1) = l' := by
 induction h with
 | nil => intro ps h; exact ⟨ps, .refl _, h⟩
 | cons x _ ih =>
  intro ps h
  cases ps with
  | nil => simp at h
  | cons p ps =>
   simp only [List.map_cons, List.cons.injEq] at h
   obtain ⟨ps', hp, hm⟩ := ih ps h.2
   exact ⟨p :: ps', hp.cons p, by simp [h.1, hm]⟩
 | swap x y l =>
  intro ps h
  match ps, h with
  | p :: q :: ps, h =>
   simp only [List.map_cons, List.cons.injEq] at h
   exact ⟨q :: p :: ps, .swap _ _ _, by simp [h.1, h.2.1, h.2.2]⟩
 | trans _ _ ih1 ih2 =>
  intro ps h
  obtain ⟨ps1, h1, e1⟩ := ih1 ps h
  obtain ⟨ps2, h2, e2⟩ := ih2 ps1 e1
  exact ⟨ps2, h2.trans h1, e2⟩

section
variable {w0 w : World} {A B : Assn} {l l' : List Assn}

theorem St.perm (h : St w0 w l) (hp : l.Perm l') : St w0 w l' := by
 obtain ⟨ps, hm, hh, hn, hb⟩ := h.out
 obtain ⟨ps', hperm, hm'⟩ := lift_perm hp ps hm
 refine ⟨h.os, h.tape, h.output, h.ord, ps', hm', fun p hp => hh p (hperm.mem_iff.1 hp), ?_, fun b hb' => hb b ?_⟩
 ·exact (hperm.flatMap_right _).nodup_iff.2 hn
 ·exact (hperm.flatMap_right _).mem_iff.1 hb'

/-- Assertion number i to the head. -/
def pull : Nat → List Assn → List Assn
 | 0, l => l
 | _ + 1, [] => []
 | n + 1, a :: l => match pull n l with
  | [] => [a]
  | b :: r => b :: a :: r
theorem pull_perm : ∀ (n : Nat) (l : List Assn), l.Perm (pull n l)
 | 0, l => .refl _
 | _ + 1, [] => .refl _
 | n + 1, a :: l => by
  have h := pull_perm n l
  simp only [pull]
  cases hp : pull n l with
  | nil => rw [hp] at h; exact h.cons a
  | cons b r => rw [hp] at h; exact (h.cons a).trans (.swap _ _ _)
theorem St.pull (i : Nat) (h : St w0 w l) : St w0 w (X.pull i l) := h.perm (pull_perm i l)

/-- The head to place n. -/
def push : Nat → Assn → List Assn → List Assn
 | 0, a, l => a :: l
 | _ + 1, a, [] => [a]
 | n + 1, a, b :: l => b :: push n a l
theorem push_perm : ∀ (n : Nat) (a : Assn) (l : List Assn), (a :: l).Perm (push n a l)
 | 0, _, _ => .refl _
 | _ + 1, _, [] => .refl _
 | n + 1, a, b :: l => (List.Perm.swap _ _ _).trans ((push_perm n a l).cons b)
theorem St.push (i : Nat) (h : St w0 w (A :: l)) : St w0 w (X.push i A l) := h.perm (push_perm i A l)

theorem St.drop (h : St w0 w (A :: l)) : St w0 w l := by
 obtain ⟨ps, hm, hh, hn, hb⟩ := h.out
 cases ps with
 | nil => simp at hm
 | cons p ps =>
  simp only [List.map_cons, List.cons.injEq] at hm
  rw [List.flatMap_cons] at hn hb
  exact ⟨h.os, h.tape, h.output, h.ord, ps, hm.2, fun q hq => hh q (List.mem_cons_of_mem _ hq), (List.nodup_append.1 hn).2.1, fun b hb' => hb b (List.mem_append_right _ hb')⟩

theorem St.head (h : St w0 w (A :: l)) : ∃ F, A.holds (hp w) F ∧ ∀ b ∈ F, b < w.heap.size := by
 obtain ⟨ps, hm, hh, hn, hb⟩ := h.out
 cases ps with
 | nil => simp at hm
 | cons p ps =>
  simp only [List.map_cons, List.cons.injEq] at hm
  rw [List.flatMap_cons] at hb
  exact ⟨p.2, hm.1 ▸ hh p (by simp), fun b hb' => hb b (List.mem_append_left _ hb')⟩

theorem drawn_setCells {b : Nat} : ∀ (vs : List Value) (o : Nat) (w : World), (w.setCells b o vs).drawn = w.drawn
 | [], _, _ => rfl
 | v :: vs, o, w => (drawn_setCells vs (o + 1) (w.setCell ⟨b, o, none⟩ v)).trans rfl
/-- The one step: what stands at the head is turned, on its own blocks and new ones. -/
theorem St.step {w' : World} (h : St w0 w (A :: l)) (ho : w'.os = w.os) (ht : w'.tape = w.tape) (hu : w'.output = w.output) (hsz : w.heap.size ≤ w'.heap.size)
  (hs : ∀ F, A.holds (hp w) F → (∀ b ∈ F, b < w.heap.size) → F.Nodup → ∃ F', B.holds (hp w') F' ∧ F'.Nodup ∧ (∀ b ∈ F', b ∈ F ∨ w.heap.size ≤ b) ∧ (∀ b ∈ F', b < w'.heap.size) ∧
   ∀ b, b < w.heap.size → b ∉ F → w'.heap[b]? = w.heap[b]?) (hd : w.drawn ≤ w'.drawn := by first | exact Nat.le_refl _ | exact Nat.le_succ _ | exact Nat.le_add_right _ _ | exact Nat.le_of_eq (drawn_setCells _ _ _).symm | (unfold World.freeze; split <;> exact Nat.le_refl _) | (simp; done) | omega) : St w0 w' (B :: l) := by
 obtain ⟨ps, hm, hh, hn, hb⟩ := h.out
 cases ps with
 | nil => simp at hm
 | cons p ps =>
  simp only [List.map_cons, List.cons.injEq] at hm
  rw [List.flatMap_cons] at hn hb
  obtain ⟨hn1, hn2, hn3⟩ := List.nodup_append.1 hn
  obtain ⟨F', hB, hF', hin, hlt, hsame⟩ := hs p.2 (hm.1 ▸ hh p (by simp)) (fun b hb' => hb b (List.mem_append_left _ hb')) hn1
  refine ⟨ho.trans h.os, ht.trans h.tape, hu.trans h.output, Nat.le_trans h.ord hd, (B, F') :: ps, by simp [hm.2], ?_, ?_, ?_⟩
  ·intro q hq
   rcases List.mem_cons.1 hq with rfl | hq
   ·exact hB
   ·refine q.1.loc (hh q (List.mem_cons_of_mem _ hq)) fun b hbq => ?_
    have hmem : b ∈ ps.flatMap (·.2) := List.mem_flatMap.2 ⟨q, hq, hbq⟩
    exact hsame b (hb b (List.mem_append_right _ hmem)) (fun hbF => hn3 b hbF b hmem rfl)
  ·rw [List.flatMap_cons]
   refine List.nodup_append.2 ⟨hF', hn2, fun a ha b hb' hab => ?_⟩
   subst hab
   rcases hin a ha with h1 | h1
   ·exact hn3 a h1 a hb' rfl
   ·exact absurd (hb a (List.mem_append_right _ hb')) (by omega)
  ·rw [List.flatMap_cons]
   intro b hb'
   rcases List.mem_append.1 hb' with h1 | h1
   ·exact hlt b h1
   ·exact Nat.lt_of_lt_of_le (hb b (List.mem_append_right _ h1)) hsz

/-- The same in one world: another way to tell it. -/
theorem St.tell (h : St w0 w (A :: l)) (hs : ∀ F, A.holds (hp w) F → B.holds (hp w) F) : St w0 w (B :: l) :=
 h.step rfl rfl rfl (Nat.le_refl _) fun F hF hb hn => ⟨F, hs F hF, hn, fun b hb => .inl hb, hb, fun _ _ _ => rfl⟩

def emp : Assn := ⟨fun _ F => F = [], fun h _ => h⟩
theorem St.emp (h : St w0 w l) : St w0 w (X.emp :: l) := by
 obtain ⟨ps, hm, hh, hn, hb⟩ := h.out
 refine ⟨h.os, h.tape, h.output, h.ord, (X.emp, []) :: ps, by simp [hm], ?_, by simpa using hn, by simpa using hb⟩
 intro q hq
 rcases List.mem_cons.1 hq with rfl | hq
 ·rfl
 ·exact hh q hq

/-- Two assertions as one. -/
def sep (A B : Assn) : Assn where
 holds h F := ∃ F1 F2, F = F1 ++ F2 ∧ A.holds h F1 ∧ B.holds h F2
 loc := by
  rintro h h' F ⟨F1, F2, rfl, h1, h2⟩ hs
  exact ⟨F1, F2, rfl, A.loc h1 fun b hb => hs b (List.mem_append_left _ hb), B.loc h2 fun b hb => hs b (List.mem_append_right _ hb)⟩
theorem St.join (h : St w0 w (A :: B :: l)) : St w0 w (sep A B :: l) := by
 obtain ⟨ps, hm, hh, hn, hb⟩ := h.out
 match ps, hm with
 | p :: q :: ps, hm =>
  simp only [List.map_cons, List.cons.injEq] at hm
  obtain ⟨rfl, rfl, hm2⟩ := hm
  simp only [List.flatMap_cons] at hn hb
  refine ⟨h.os, h.tape, h.output, h.ord, (sep p.1 q.1, p.2 ++ q.2) :: ps, by simp [hm2], ?_, by simpa using hn, by simpa using hb⟩
  intro r hr
  rcases List.mem_cons.1 hr with rfl | hr
  ·exact ⟨p.2, q.2, rfl, hh p (by simp), hh q (by simp)⟩
  ·exact hh r (by simp [hr])
theorem St.part (h : St w0 w (sep A B :: l)) : St w0 w (A :: B :: l) := by
 obtain ⟨ps, hm, hh, hn, hb⟩ := h.out
 match ps, hm with
 | p :: ps, hm =>
  simp only [List.map_cons, List.cons.injEq] at hm
  obtain ⟨h1, hm⟩ := hm
  have h2 := hh p (by simp)
  rw [h1] at h2
  obtain ⟨F1, F2, hF, hA, hB⟩ := h2
  simp only [List.flatMap_cons, hF] at hn hb
  refine ⟨h.os, h.tape, h.output, h.ord, (A, F1) :: (B, F2) :: ps, by simp [hm], ?_, by simpa using hn, by simpa using hb⟩
  intro r hr
  simp only [List.mem_cons] at hr
  rcases hr with rfl | rfl | hr
  ·exact hA
  ·exact hB
  ·exact hh r (by simp [hr])

/-- A fact beside, or some value with a fact: an assertion that says 'there is'. -/
def ex {α : Type} (f : α → Assn) : Assn where
 holds h F := ∃ x, (f x).holds h F
 loc := by rintro h h' F ⟨x, hx⟩ hs; exact ⟨x, (f x).loc hx hs⟩
theorem St.ex {α : Type} {f : α → Assn} (x : α) (h : St w0 w (f x :: l)) : St w0 w (X.ex f :: l) := h.tell fun F hF => ⟨x, hF⟩
theorem St.unex {α : Type} {f : α → Assn} (h : St w0 w (X.ex f :: l)) : ∃ x, St w0 w (f x :: l) := by
 obtain ⟨ps, hm, hh, hn, hb⟩ := h.out
 match ps, hm with
 | p :: ps, hm =>
  simp only [List.map_cons, List.cons.injEq] at hm
  obtain ⟨h1, hm⟩ := hm
  have h2 := hh p (by simp)
  rw [h1] at h2
  obtain ⟨x, hx⟩ := h2
  refine ⟨x, h.os, h.tape, h.output, h.ord, (f x, p.2) :: ps, by simp [hm], ?_, hn, hb⟩
  intro r hr
  simp only [List.mem_cons] at hr
  rcases hr with rfl | hr
  ·exact hx
  ·exact hh r (by simp [hr])

/-! ### Worlds that turn -/
theorem St.same {w' : World} (h : St w0 w l) (ho : w'.os = w.os) (ht : w'.tape = w.tape) (hu : w'.output = w.output) (hh : w'.heap = w.heap) (hd : w.drawn ≤ w'.drawn := by first | exact Nat.le_refl _ | exact Nat.le_succ _ | exact Nat.le_add_right _ _ | exact Nat.le_of_eq (drawn_setCells _ _ _).symm | (unfold World.freeze; split <;> exact Nat.le_refl _) | (simp; done) | omega) : St w0 w' l := by
 obtain ⟨ps, hm, h1, hn, hb⟩ := h.out
 have e : hp w' = hp w := by funext b; simp [hp, hh]
 exact ⟨ho.trans h.os, ht.trans h.tape, hu.trans h.output, Nat.le_trans h.ord hd, ps, hm, by rw [e]; exact h1, hn, by rw [hh]; exact hb⟩
theorem St.drawn (h : St w0 w l) (k : Nat) (hk : w.drawn ≤ k := by exact Nat.le_succ _) : St w0 { w with drawn := k } l := h.same rfl rfl rfl rfl hk
theorem St.drew (h : St w0 w l) : St w0 w.drew l := h.same rfl rfl rfl rfl

def blk (b : Nat) (o : Obj) : Assn := ⟨fun h F => F = [b] ∧ h b = some o, by rintro h h' F ⟨rfl, h1⟩ hs; exact ⟨rfl, by rw [hs b (by simp)]; exact h1⟩⟩
def cells (b : Nat) (t : TypeId) (vs : List Value) : Assn := blk b (.cells ⟨vs⟩ t (0, 0))

theorem St.alloc (h : St w0 w l) (o : Obj) : St w0 (w.alloc o) (blk w.heap.size o :: l) := by
 refine h.emp.step rfl rfl rfl (by simp) fun F hF hb hn => ⟨[w.heap.size], ⟨rfl, heap_alloc_new w o⟩, by simp, by simp, by simp, fun b hb _ => heap_alloc_old w o hb⟩

theorem St.block {b : Nat} {o : Obj} (h : St w0 w (blk b o :: l)) : w.heap[b]? = some o := by
 obtain ⟨F, ⟨_, h1⟩, _⟩ := h.head
 exact h1
theorem St.lt {b : Nat} {o : Obj} (h : St w0 w (blk b o :: l)) : b < w.heap.size := by
 have := h.block
 exact (Array.getElem?_eq_some_iff.1 this).1
theorem St.cell {b : Nat} {t : TypeId} {vs : List Value} (h : St w0 w (cells b t vs :: l)) {i : Nat} {v : Value} (hi : vs[i]? = some v) : w.cell? ⟨b, i, none⟩ = some v := by
 have := h.block
 simp only [World.cell?, this]
 simpa using hi
theorem St.unfrozen {b : Nat} {t : TypeId} {vs : List Value} (h : St w0 w (cells b t vs :: l)) (i : Nat) : w.frozen? ⟨b, i, none⟩ = false := by
 have := h.block
 simp [World.frozen?, this]

theorem St.set {b : Nat} {t : TypeId} {vs : List Value} (h : St w0 w (cells b t vs :: l)) (i : Nat) (v : Value) : St w0 (w.setCell ⟨b, i, none⟩ v) (cells b t (vs.set i v) :: l) := by
 have hb := h.block
 refine h.step rfl rfl rfl (by simp [World.setCell]) fun F hF hlt hn => ?_
 obtain ⟨rfl, h1⟩ := hF
 refine ⟨[b], ⟨rfl, ?_⟩, by simp, by simp, ?_, ?_⟩
 ·have hb' := hb
  simp only [hp, World.setCell, Array.getElem?_modify, if_true, hb', Option.map_some]
  simp
 ·have := h.lt; simpa [World.setCell] using this
 ·intro c hc hne
  simp only [World.setCell, Array.getElem?_modify]
  rw [if_neg (by intro e; exact hne (by simp [e]))]

/-! ### What is never written again -/
theorem cellOf_le {ρ h : Heap} (hle : ∀ b o, ρ b = some o → h b = some o) {a : Addr} {v : Value} (hc : cellOf ρ a = some v) : cellOf h a = some v := by
 unfold cellOf at hc ⊢
 cases hb : ρ a.block with
 | none => rw [hb] at hc; simp at hc
 | some o => rw [hle _ _ hb]; rw [hb] at hc; exact hc
/-- The tables that the row lists stand as they are listed; variables of a number hold some number. -/
def BaseT (ρ : Heap) : Prop := ∀ x ∈ baseL, ∃ t fz, ρ x.1 = some (.cells x.2 t fz)
def BaseI (ρ : Heap) : Prop := ∀ g ∈ intL, ∃ m, cellOf ρ ⟨g, 0, none⟩ = some (.int .i64 m)
def Base (ρ : Heap) : Prop := BaseT ρ ∧ BaseI ρ
theorem Base.mono {ρ ρ' : Heap} (h : Base ρ) (hle : ∀ b o, ρ b = some o → ρ' b = some o) : Base ρ' := ⟨fun x hx => by
 obtain ⟨t, fz, h1⟩ := h.1 x hx
 exact ⟨t, fz, hle _ _ h1⟩, fun g hg => by
 obtain ⟨m, h1⟩ := h.2 g hg
 exact ⟨m, cellOf_le hle h1⟩⟩
def roR (ρ : Heap) : Assn where
 holds h F := ∀ b o, ρ b = some o → h b = some o ∧ b ∈ F
 loc := by intro h h' F hr hs b o hb; obtain ⟨h1, h2⟩ := hr b o hb; exact ⟨by rw [hs b h2]; exact h1, h2⟩
def ro (ρ : Heap) : Assn where
 holds h F := (roR ρ).holds h F ∧ Base ρ
 loc := fun ⟨h1, h2⟩ hs => ⟨(roR ρ).loc h1 hs, h2⟩
structure Le (ρ ρ' : Heap) : Prop where
 ext : ∀ b o, ρ b = some o → ρ' b = some o
 base : Base ρ' → Base ρ
theorem Le.refl (ρ : Heap) : Le ρ ρ := ⟨fun _ _ h => h, fun h => h⟩
theorem Le.trans {a b c : Heap} (h : Le a b) (k : Le b c) : Le a c := ⟨fun x o hx => k.ext x o (h.ext x o hx), fun x => h.base (k.base x)⟩
theorem St.base {ρ : Heap} (h : St w0 w (ro ρ :: l)) : Base ρ := by
 obtain ⟨F, hF, _⟩ := h.head
 exact hF.2
theorem St.ro_block {ρ : Heap} (h : St w0 w (ro ρ :: l)) {b : Nat} {o : Obj} (hb : ρ b = some o) : w.heap[b]? = some o := by
 obtain ⟨F, hF, _⟩ := h.head
 exact (hF.1 b o hb).1
theorem St.table {ρ : Heap} (h : St w0 w (ro ρ :: l)) {x : Nat × Array Value} (hx : x ∈ baseL) : ∃ t fz, w.heap[x.1]? = some (.cells x.2 t fz) := by
 obtain ⟨t, fz, h1⟩ := h.base.1 x hx
 exact ⟨t, fz, h.ro_block h1⟩
/-- New blocks behind the heap turn nothing of what is told. -/
theorem St.grows {w' : World} (h : St w0 w l) (ho : w'.os = w.os) (ht : w'.tape = w.tape) (hu : w'.output = w.output) (hsz : w.heap.size ≤ w'.heap.size) (hh : ∀ b, b < w.heap.size → w'.heap[b]? = w.heap[b]?) (hd : w.drawn ≤ w'.drawn := by first | exact Nat.le_refl _ | exact Nat.le_succ _ | exact Nat.le_add_right _ _ | exact Nat.le_of_eq (drawn_setCells _ _ _).symm | (unfold World.freeze; split <;> exact Nat.le_refl _) | (simp; done) | omega) : St w0 w' l := by
 obtain ⟨ps, hm, h1, hn, hb⟩ := h.out
 refine ⟨ho.trans h.os, ht.trans h.tape, hu.trans h.output, Nat.le_trans h.ord hd, ps, hm, fun p hp => p.1.loc (h1 p hp) fun b hb' => hh b (hb b (List.mem_flatMap.2 ⟨p, hp, hb'⟩)), hn, fun b hb' => Nat.lt_of_lt_of_le (hb b hb') hsz⟩
theorem St.ro_cell {ρ : Heap} (h : St w0 w (ro ρ :: l)) {a : Addr} {v : Value} (hc : cellOf ρ a = some v) : w.cell? a = some v :=
 cellOf_le (fun _ _ hb => h.ro_block hb) hc

/-- Any block becomes one that is never written again. -/
theorem St.keep {ρ : Heap} {b : Nat} {o : Obj} (h : St w0 w (blk b o :: ro ρ :: l)) : ∃ ρ', Le ρ ρ' ∧ ρ' b = some o ∧ St w0 w (ro ρ' :: l) := by
 have hd : ρ b = none := by
  obtain ⟨ps, hm, hh, hn, hb⟩ := h.out
  match ps, hm with
  | [p], hm => simp at hm
  | p :: q :: ps, hm =>
   simp only [List.map_cons, List.cons.injEq] at hm
   obtain ⟨h1, h2, hm⟩ := hm
   have hp := hh p (by simp)
   have hq := hh q (by simp)
   rw [h1] at hp
   rw [h2] at hq
   cases hr : ρ b with
   | none => rfl
   | some o' =>
    simp only [List.flatMap_cons] at hn
    have hbp : b ∈ p.2 := by rw [hp.1]; simp
    exact absurd rfl ((List.nodup_append.1 hn).2.2 b hbp b (List.mem_append_left _ (hq.1 b o' hr).2))
 have hbase := (h.perm (.swap _ _ _)).base
 have hext : ∀ c o', ρ c = some o' → (if c = b then some o else ρ c) = some o' := fun c o' hc => by
  by_cases e : c = b
  ·subst e; rw [hd] at hc; cases hc
  ·simp [e, hc]
 refine ⟨fun c => if c = b then some o else ρ c, ⟨hext, fun _ => hbase⟩, by simp, h.join.tell ?_⟩
 ·rintro F ⟨F1, F2, rfl, ⟨rfl, h1⟩, h2, _⟩
  refine ⟨?_, hbase.mono hext⟩
  intro c o' hc
  simp only at hc
  split at hc
  ·rename_i e; subst e; cases hc; exact ⟨h1, by simp⟩
  ·obtain ⟨h3, h4⟩ := h2 c o' hc; exact ⟨h3, by simp [h4]⟩

theorem St.start (w : World) (hbase : Base (hp w)) : St w w [ro (hp w)] := by
 refine ⟨rfl, rfl, rfl, Nat.le_refl _, [(ro (hp w), List.range w.heap.size)], rfl, ?_, by simp [List.nodup_range], by simp⟩
 simp only [List.mem_singleton]
 rintro p rfl
 refine ⟨?_, hbase⟩
 intro b o hb
 exact ⟨hb, by simp [(Array.getElem?_eq_some_iff.1 hb).1]⟩
theorem St.below {ρ : Heap} (h : St w0 w (ro ρ :: l)) (hle : Le (hp w0) ρ) (hsz : w0.heap.size ≤ w.heap.size) : Below w0.heap.size w0 w :=
 ⟨h.os, h.tape, h.output, hsz, fun k hk => by
  have : w0.heap[k]? = some w0.heap[k] := by simp [hk]
  rw [this]
  exact h.ro_block (hle.ext k _ this)⟩
theorem St.size_le {ρ : Heap} (h : St w0 w (ro ρ :: l)) (hle : Le (hp w0) ρ) : w0.heap.size ≤ w.heap.size := by
 rcases Nat.lt_or_ge w.heap.size w0.heap.size with hlt | hge
 ·have h1 : w0.heap[w.heap.size]? = some w0.heap[w.heap.size] := by simp [hlt]
  have := h.ro_block (hle.ext _ _ h1)
  simp at this
 ·exact hge

/-! ### A slice that is read: its cells -/
def RdC (ρ : Heap) (A : Option Addr) (vs : List Value) : Prop := ∀ j v, vs[j]? = some v → ∃ a, A = some a ∧ cellOf ρ (a.add j) = some v
theorem RdC.le {ρ ρ' : Heap} {A : Option Addr} {vs : List Value} (h : RdC ρ A vs) (hle : Le ρ ρ') : RdC ρ' A vs := fun j v hj => by
 obtain ⟨a, ha, hc⟩ := h j v hj
 exact ⟨a, ha, cellOf_le hle.ext hc⟩
theorem RdC.nil {ρ : Heap} {A : Option Addr} : RdC ρ A [] := fun j v h => by simp at h

/-! ### A slice that grows: nil, or at the head of a block of its own -/
def vec (e : TypeId) (sz : Nat) (v : Value) (n : Nat) (xs : List Value) : Assn where
 holds h F := xs.length = n * sz ∧ ((v = .slice none 0 0 ∧ n = 0 ∧ F = []) ∨
  ∃ g cap cur, v = .slice (some ⟨g, 0, none⟩) n cap ∧ F = [g] ∧ h g = some (.cells cur e (0, 0)) ∧ n ≤ cap ∧ cap ≤ maxLen ∧ cur.size = cap * sz ∧ cur.toList.take (n * sz) = xs)
 loc := by
  rintro h h' F ⟨hl, h1⟩ hs
  refine ⟨hl, ?_⟩
  rcases h1 with h1 | ⟨g, cap, cur, hv, rfl, hg, r⟩
  ·exact .inl h1
  ·exact .inr ⟨g, cap, cur, hv, rfl, by rw [hs g (by simp)]; exact hg, r⟩
theorem St.vec_nil (h : St w0 w l) (e : TypeId) (sz : Nat) : St w0 w (vec e sz (.slice none 0 0) 0 [] :: l) :=
 h.emp.tell fun F hF => ⟨by simp, .inl ⟨rfl, rfl, hF⟩⟩
theorem St.vec_slice {e : TypeId} {sz : Nat} {v : Value} {n : Nat} {xs : List Value} (h : St w0 w (vec e sz v n xs :: l)) : xs.length = n * sz ∧ ∃ A c, v = .slice A n c ∧ n ≤ c := by
 obtain ⟨F, ⟨hl, h1⟩, _⟩ := h.head
 rcases h1 with ⟨rfl, rfl, _⟩ | ⟨g, cap, cur, rfl, _, _, hc, _⟩
 ·exact ⟨hl, none, 0, rfl, Nat.le_refl _⟩
 ·exact ⟨hl, _, cap, rfl, hc⟩
/-- Its cells, to be read while it grows. -/
theorem St.vec_cell {e : TypeId} {sz : Nat} {A : Option Addr} {n c : Nat} {xs : List Value} (h : St w0 w (vec e sz (.slice A n c) n xs :: l)) {j : Nat} {u : Value} (hj : xs[j]? = some u) :
  ∃ a, A = some a ∧ w.cell? (a.add j) = some u := by
 obtain ⟨F, ⟨hl, h1⟩, _⟩ := h.head
 rcases h1 with ⟨_, rfl, _⟩ | ⟨g, cap, cur, hv, _, hg, hc, _, hs, htake⟩
 ·have : xs = [] := List.eq_nil_of_length_eq_zero (by simpa using hl)
  subst this
  simp at hj
 ·injection hv with hA _ _
  subst hA
  refine ⟨_, rfl, ?_⟩
  rw [cell_hp]
  have hadd : (⟨g, 0, none⟩ : Addr).add j = ⟨g, j, none⟩ := by unfold Addr.add; split <;> simp_all
  rw [hadd]
  simp only [cellOf, hg]
  rw [← htake, List.getElem?_take] at hj
  split at hj
  ·simpa using hj
  ·cases hj
theorem St.vec_keep {ρ : Heap} {e : TypeId} {sz : Nat} {v : Value} {n : Nat} {xs : List Value} (h : St w0 w (vec e sz v n xs :: ro ρ :: l)) :
  ∃ ρ' A c, Le ρ ρ' ∧ v = .slice A n c ∧ n ≤ c ∧ RdC ρ' A xs ∧ xs.length = n * sz ∧ St w0 w (ro ρ' :: l) := by
 have hx := h.vec_slice.1
 have hh := h.head
 obtain ⟨F, ⟨hl, h1⟩, _⟩ := hh
 rcases h1 with ⟨rfl, rfl, _⟩ | ⟨g, cap, cur, rfl, rfl, hg, hc, hm, hs, htake⟩
 ·have : xs = [] := List.eq_nil_of_length_eq_zero (by simpa using hl)
  subst this
  exact ⟨ρ, none, 0, .refl ρ, rfl, Nat.le_refl _, .nil, by simp, h.drop⟩
 ·have h' : St w0 w (blk g (.cells cur e (0, 0)) :: ro ρ :: l) := by
   refine h.tell fun F hF => ?_
   rcases hF.2 with ⟨hv, _⟩ | ⟨g', cap', cur', hv, rfl, hg', _⟩
   ·cases hv
   ·injection hv with hA _ _
    injection hA with hA
    injection hA with hA _ _
    subst hA
    exact ⟨rfl, hg⟩
  obtain ⟨ρ', hle, hb, hS⟩ := h'.keep
  refine ⟨ρ', some ⟨g, 0, none⟩, cap, hle, rfl, hc, ?_, hx, hS⟩
  intro j u hj
  refine ⟨_, rfl, ?_⟩
  have hadd : (⟨g, 0, none⟩ : Addr).add j = ⟨g, j, none⟩ := by unfold Addr.add; split <;> simp_all
  rw [hadd]
  simp only [cellOf, hb]
  rw [← htake, List.getElem?_take] at hj
  split at hj
  ·simpa using hj
  ·cases hj
/-- A block made whole (make, a literal), as a slice that may grow. -/
theorem St.vec_of {b : Nat} {e : TypeId} {sz n : Nat} {vs : List Value} (h : St w0 w (cells b e vs :: l)) (hl : vs.length = n * sz) (hm : n ≤ maxLen) : St w0 w (vec e sz (.slice (some ⟨b, 0, none⟩) n n) n vs :: l) :=
 h.tell fun F ⟨hF, hb⟩ => ⟨hl, .inr ⟨b, n, ⟨vs⟩, rfl, hF, hb, Nat.le_refl _, hm, by simpa using hl, by rw [← hl]; simp⟩⟩
end
end Go.Proofs.YtgmjhlpjlggpiaaDoor.X
