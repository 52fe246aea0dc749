/- The pulls that the laws draw; Check and held of them. Plain. -/
/- held and system of drawn pulls. Plain. -/
/- The equations of drawn pulls: place.system. Plain. -/
/- Solve of drawn pulls. Plain. -/
import Derived.Test.YtfkncjfpgflafaaPZ
import Derived.Test.YtfkncjfpgflafaaYQ
import Derived.Test.YtfkncjfpgflafaaDA
import Derived.Test.YtfkncjfpgflafaaBI
import Derived.Test.YtfkncjfpgflafaaBK
namespace Go.Proofs.Ytfkncjfpgflafaa.X
open Go Go.RowKit
set_option linter.unusedVariables false
set_option linter.unusedSimpArgs false
/-- A pull that is drawn. -/
structure PullOk (n : Nat) (p : T_place_Pull) : Prop where
 w1 : 1 ≤ p.Weight
 w5 : p.Weight ≤ 5
 cs : ∀ c ∈ p.Cells, 0 ≤ c ∧ c < n
 nd : p.Cells.Nodup
 cl : p.Cells.length ≤ 8
 al : p.At.length ≤ 2
 pt : ∀ q ∈ p.At, -60 ≤ q.X ∧ q.X ≤ 60 ∧ -60 ≤ q.Y ∧ q.Y ≤ 60
def HeldP (l : List T_place_Pull) (c : Int) : Prop := ∃ p ∈ l, c ∈ p.Cells ∧ (p.At ≠ [] ∨ ∃ d ∈ p.Cells, 0 ≤ d ∧ d < c)
theorem HeldP.app {l : List T_place_Pull} {c : Int} (h : HeldP l c) (p : T_place_Pull) : HeldP (l ++ [p]) c := by
 obtain ⟨q, hq, r⟩ := h
 exact ⟨q, by simp [hq], r⟩
structure PullsOk (n : Nat) (l : List T_place_Pull) : Prop where
 all : ∀ p ∈ l, PullOk n p
 len : l.length ≤ 12
 held : ∀ c : Int, 0 ≤ c → c < n → HeldP l c
section
variable {L : List Int} (hL : Strm L) {k : Int} {n : Nat} (hk : Few (k + 1000)) (hk0 : 0 ≤ k) (hn : n ≤ 8)
include hL hk hk0 hn
theorem pulls_ok : Ok (P_maskkeep4_pulls (T_maskmake_Stream.mk L k) (n : Int)) (fun r => PullsOk n r.1 ∧ (∀ p ∈ r.1, ∀ q ∈ p.At, 0 ≤ q.X ∧ 0 ≤ q.Y) ∧ k ≤ r.2 ∧ r.2 ≤ k + 200) := by
 unfold P_maskkeep4_pulls
 refine ok_bd (R := fun s => (∀ p ∈ s.1, PullOk n p) ∧ (∀ p ∈ s.1, ∀ q ∈ p.At, 0 ≤ q.X ∧ 0 ≤ q.Y) ∧ s.1.length = n ∧ (∀ c : Int, 0 ≤ c → c < n → HeldP s.1 c) ∧ k ≤ s.2 ∧ s.2 ≤ k + 32) ?_ ?_
 ·refine ok_lp (fun s => ∃ m : Nat, s.2.1 = (m : Int) ∧ m ≤ n ∧ s.1.length = m ∧ (∀ p ∈ s.1, PullOk n p) ∧ (∀ p ∈ s.1, ∀ q ∈ p.At, 0 ≤ q.X ∧ 0 ≤ q.Y) ∧ (∀ c : Int, 0 ≤ c → c < m → HeldP s.1 c) ∧ k ≤ s.2.2 ∧ s.2.2 ≤ k + 4 * m) (fun s => ((n : Int) - s.2.1).toNat)
   ⟨0, rfl, Nat.zero_le _, rfl, fun p hp => by simp at hp, fun p hp => by simp at hp, fun c h0 h1 => by omega, by simp only; omega, by simp only; omega⟩ (by simp only; omega) ?_
  rintro ⟨out, y, q⟩ ⟨m, rfl, hm, l1, a1, b1, e1, q0, q1⟩
  simp only at l1 a1 b1 e1 q0 q1 ⊢
  unfold P_maskkeep4_pulls_L3
  dsimp only
  refine ok_ite (fun hlt => ?_) fun hge => ok_some ⟨a1, b1, by simp only; omega, fun c h0 h1 => e1 c h0 (by omega), q0, by simp only; omega⟩
  refine ok_bd (hL.range (by omega) (by omega) (by omega) (by omega)) ?_
  rintro ⟨w, q2⟩ ⟨w0, w1, rfl⟩
  simp only at w0 w1 ⊢
  refine ok_bd (hL.flip (by omega) (by omega)) ?_
  rintro ⟨b, q3⟩ e3
  simp only at e3 ⊢
  subst e3
  refine ok_lv (ok_bd (R := fun s : Int × List Int × List T_floor_Point => q ≤ s.1 ∧ s.1 ≤ q + 4 ∧ PullOk n ⟨w, s.2.1, s.2.2⟩ ∧ (∀ q ∈ s.2.2, 0 ≤ q.X ∧ 0 ≤ q.Y) ∧ (m : Int) ∈ s.2.1 ∧ (s.2.2 ≠ [] ∨ ∃ d ∈ s.2.1, 0 ≤ d ∧ d < (m : Int))) ?_ ?_)
  ·refine ok_ite (fun hx => ?_) fun hx => ?_
   ·refine ok_bd (hL.next (by omega) (by omega)) ?_
    rintro ⟨u, q4⟩ ⟨u0, u1, -, rfl⟩
    simp only at u0 u1 ⊢
    have u1 := u1 (by omega)
    refine ok_bd (hL.next (by omega) (by omega)) ?_
    rintro ⟨v, q5⟩ ⟨v0, v1, -, rfl⟩
    simp only at v0 v1 ⊢
    have v1 := v1 (by omega)
    refine ok_lv (ok_ck (by simp only [apOk, List.length_singleton]; omega) (ok_some ⟨by simp only; omega, by simp only; omega, ⟨w0, w1, fun c hc => ?_, by simp, by simp, by simp, fun p hp => ?_⟩, fun p hp => ?_, by simp, Or.inl (by simp)⟩))
    ·simp at hc; omega
    ·simp at hp; subst hp; simp only; omega
    ·simp at hp; subst hp; simp only; omega
   ·have hm0 : 1 ≤ m := by
     simp only [Bool.or_eq_true, decide_eq_true_eq] at hx
     omega
    refine ok_bd (hL.next (by omega) (by omega)) ?_
    rintro ⟨u, q4⟩ ⟨u0, u1, -, rfl⟩
    simp only at u0 u1 ⊢
    have u1 := u1 (by omega)
    refine ok_lv (ok_ck (by simp [apOk]) (ok_some ⟨by simp only; omega, by simp only; omega, ⟨w0, w1, fun c hc => ?_, ?_, by simp, by simp, fun p hp => by simp at hp⟩, fun p hp => by simp at hp, by simp, Or.inr ⟨u, by simp, u0, u1⟩⟩))
    ·simp at hc; omega
    ·simp; omega
  rintro ⟨q4, cs, at_⟩ ⟨r0, r1, hp, hp0, hc, hh⟩
  simp only at r0 r1 hp hp0 hc hh
  refine ok_lv (ok_ck (by simp only [apOk, List.length_append, List.length_singleton]; omega) (ok_ar (by omega) (ok_some ⟨⟨m + 1, by simp only; omega, by omega, by simp only [List.length_append, List.length_singleton]; omega, fun p h => ?_, fun p h => ?_, fun c h0 h1 => ?_, by simp only; omega, by simp only; omega⟩, by simp only; omega⟩)))
  ·rcases List.mem_append.1 h with h | h
   ·exact a1 p h
   ·simp at h; subst h; exact hp
  ·rcases List.mem_append.1 h with h | h
   ·exact b1 p h
   ·simp at h; subst h; exact hp0
  ·by_cases e : c = m
   ·subst e
    exact ⟨⟨w, cs, at_⟩, by simp, hc, hh⟩
   ·exact (e1 c h0 (by omega)).app _
 rintro ⟨out, q⟩ ⟨a1, b1, l1, e1, q0, q1⟩
 simp only at a1 b1 l1 e1 q0 q1 ⊢
 refine ok_bd (hL.next (by omega) (by omega)) ?_
 rintro ⟨more, q2⟩ ⟨m0, m1, -, rfl⟩
 simp only at m0 m1 ⊢
 have m1 := m1 (by omega)
 refine ok_bd (R := fun s => (∀ p ∈ s.1, PullOk n p) ∧ (∀ p ∈ s.1, ∀ q ∈ p.At, 0 ≤ q.X ∧ 0 ≤ q.Y) ∧ s.1.length ≤ 12 ∧ (∀ c : Int, 0 ≤ c → c < n → HeldP s.1 c) ∧ k ≤ s.2 ∧ s.2 ≤ k + 200) ?_ ?_
 ·refine ok_lp (fun s => ∃ m : Nat, s.2.1 = (m : Int) ∧ m ≤ 4 ∧ s.1.length = n + m ∧ (∀ p ∈ s.1, PullOk n p) ∧ (∀ p ∈ s.1, ∀ q ∈ p.At, 0 ≤ q.X ∧ 0 ≤ q.Y) ∧ (∀ c : Int, 0 ≤ c → c < n → HeldP s.1 c) ∧ k ≤ s.2.2 ∧ s.2.2 ≤ k + 33 + 20 * m) (fun s => (4 - s.2.1).toNat)
   ⟨0, rfl, Nat.zero_le _, l1, a1, b1, e1, by simp only; omega, by simp only; omega⟩ (by simp only; omega) ?_
  rintro ⟨out, y, p⟩ ⟨m, rfl, hm, l2, a2, b2, e2, p0, p1⟩
  simp only at l2 a2 b2 e2 p0 p1 ⊢
  unfold P_maskkeep4_pulls_L12
  dsimp only
  refine ok_ite (fun hlt => ?_) fun hge => ok_some ⟨a2, b2, by simp only; omega, e2, p0, by simp only; omega⟩
  refine ok_bd (hL.range (by omega) (by omega) (by omega) (by omega)) ?_
  rintro ⟨w, q2⟩ ⟨w0, w1, rfl⟩
  simp only at w0 w1 ⊢
  refine ok_bd (R := fun s => p ≤ s.1 ∧ s.1 ≤ p + 9 ∧ (∀ c ∈ s.2, 0 ≤ c ∧ c < n) ∧ s.2.Nodup ∧ s.2.length ≤ 8) ?_ ?_
  ·refine ok_lp (fun s => ∃ j : Nat, s.1 = (j : Int) ∧ j ≤ n ∧ p ≤ s.2.1 ∧ s.2.1 ≤ p + 1 + j ∧ (∀ c ∈ s.2.2, 0 ≤ c ∧ c < j) ∧ s.2.2.Nodup ∧ s.2.2.length ≤ j) (fun s => ((n : Int) - s.1).toNat)
    ⟨0, rfl, Nat.zero_le _, by simp only; omega, by simp only; omega, fun c hc => by simp at hc, List.nodup_nil, by simp⟩ (by simp only; omega) ?_
   rintro ⟨y, r, cs⟩ ⟨j, rfl, hj, r0, r1, c1, c2, c3⟩
   simp only at r0 r1 c1 c2 c3 ⊢
   unfold P_maskkeep4_pulls_L15
   dsimp only
   refine ok_ite (fun hlt => ?_) fun hge => ok_some ⟨by simp only; omega, by simp only; omega, fun c hc => by have := c1 c hc; omega, c2, by simp only; omega⟩
   refine ok_bd (hL.flip (by omega) (by omega)) ?_
   rintro ⟨b, r3⟩ e3
   simp only at e3 ⊢
   subst e3
   refine ok_bd (R := fun z : List Int => (∀ c ∈ z, 0 ≤ c ∧ c < j + 1) ∧ z.Nodup ∧ z.length ≤ j + 1) (ok_ite (fun hb => ?_) fun hb => ok_some ⟨fun c hc => by have := c1 c hc; omega, c2, by omega⟩) ?_
   ·refine ok_lv (ok_ck (by simp only [apOk, List.length_append, List.length_singleton]; omega) (ok_some ⟨fun c hc => ?_, ?_, by simp only [List.length_append, List.length_singleton]; omega⟩))
    ·rcases List.mem_append.1 hc with h | h
     ·have := c1 c h; omega
     ·simp at h; omega
    ·refine List.nodup_append.2 ⟨c2, by simp, fun a ha b hb => ?_⟩
     have := c1 a ha
     simp at hb
     omega
   rintro z ⟨z1, z2, z3⟩
   exact ok_ar (by omega) (ok_some ⟨⟨j + 1, by simp only; omega, by omega, by simp only; omega, by simp only; omega, fun c hc => by have := z1 c hc; omega, z2, z3⟩, by simp only; omega⟩)
  rintro ⟨r, cs⟩ ⟨r0, r1, c1, c2, c3⟩
  simp only at r0 r1 c1 c2 c3 ⊢
  refine ok_bd (hL.next (by omega) (by omega)) ?_
  rintro ⟨t, r2⟩ ⟨t0, t1, -, rfl⟩
  simp only at t0 t1 ⊢
  have t1 := t1 (by omega)
  refine ok_bd (R := fun s => p ≤ s.1 ∧ s.1 ≤ p + 14 ∧ s.2.length ≤ 2 ∧ ∀ q ∈ s.2, 0 ≤ q.X ∧ q.X ≤ 60 ∧ 0 ≤ q.Y ∧ q.Y ≤ 60) ?_ ?_
  ·refine ok_lp (fun s => ∃ j : Nat, s.1 = (j : Int) ∧ j ≤ 2 ∧ p ≤ s.2.1 ∧ s.2.1 ≤ p + 10 + 2 * j ∧ s.2.2.length = j ∧ ∀ q ∈ s.2.2, 0 ≤ q.X ∧ q.X ≤ 60 ∧ 0 ≤ q.Y ∧ q.Y ≤ 60) (fun s => (2 - s.1).toNat)
    ⟨0, rfl, Nat.zero_le _, by simp only; omega, by simp only; omega, rfl, fun c hc => by simp at hc⟩ (by simp only; omega) ?_
   rintro ⟨y, s, at_⟩ ⟨j, rfl, hj, s0, s1, l3, h3⟩
   simp only at s0 s1 l3 h3 ⊢
   unfold P_maskkeep4_pulls_L21
   dsimp only
   refine ok_ite (fun hlt => ?_) fun hge => ok_some ⟨by simp only; omega, by simp only; omega, by simp only; omega, h3⟩
   refine ok_bd (hL.next (by omega) (by omega)) ?_
   rintro ⟨u, q4⟩ ⟨u0, u1, -, rfl⟩
   simp only at u0 u1 ⊢
   have u1 := u1 (by omega)
   refine ok_bd (hL.next (by omega) (by omega)) ?_
   rintro ⟨v, q5⟩ ⟨v0, v1, -, rfl⟩
   simp only at v0 v1 ⊢
   have v1 := v1 (by omega)
   refine ok_lv (ok_ck (by simp only [apOk, List.length_append, List.length_singleton]; omega) (ok_ar (by omega) (ok_some ⟨⟨j + 1, by simp only; omega, by omega, by simp only; omega, by simp only; omega, by simp only [List.length_append, List.length_singleton]; omega, fun q hq => ?_⟩, by simp only; omega⟩)))
   rcases List.mem_append.1 hq with h | h
   ·exact h3 q h
   ·simp at h; subst h; simp only; omega
  rintro ⟨s, at_⟩ ⟨s0, s1, l3, h3⟩
  simp only at s0 s1 l3 h3
  refine ok_lv (ok_ck (by simp only [apOk, List.length_append, List.length_singleton]; omega) (ok_ar (by omega) (ok_some ⟨⟨m + 1, by simp only; omega, by omega, by simp only [List.length_append, List.length_singleton]; omega, fun x h => ?_, fun x h => ?_, fun c h0 h1 => (e2 c h0 h1).app _, by simp only; omega, by simp only; omega⟩, by simp only; omega⟩)))
  ·rcases List.mem_append.1 h with h | h
   ·exact a2 x h
   ·simp at h; subst h
    exact ⟨w0, w1, c1, c2, c3, l3, fun q hq => by have := h3 q hq; omega⟩
  ·rcases List.mem_append.1 h with h | h
   ·exact b2 x h
   ·simp at h; subst h
    exact fun q hq => by have := h3 q hq; omega
 rintro ⟨out, q⟩ ⟨a2, b2, l2, e2, q0, q1⟩
 exact ok_some ⟨⟨a2, l2, e2⟩, b2, q0, q1⟩
end
theorem nodup_gt {l : List Int} (h : l.Nodup) {i j : Int} (hi : inb i l.length) (hj : inb j l.length) (hij : i < j) : gt l i ≠ gt l j := by
 rw [gt_get hi, gt_get hj]
 exact List.pairwise_iff_getElem.1 h _ _ _ _ (by have := hi.1; omega)
theorem mem_gt {α : Type} [Inhabited α] {l : List α} {x : α} (h : x ∈ l) : ∃ i : Int, inb i l.length ∧ gt l i = x := by
 obtain ⟨i, hi, e⟩ := List.getElem_of_mem h
 have hb : inb (i : Int) l.length := ⟨by omega, by omega⟩
 exact ⟨i, hb, by rw [gt_get hb]; simpa using e⟩
section
variable {n : Nat} {l : List T_place_Pull} (h : PullsOk n l) (hn : n ≤ 8)
include h hn
theorem PCheck_ok : Ok (P_place_Check (n : Int) l) (fun r => r = 0) := by
 have hlen := h.len
 unfold P_place_Check
 refine ok_f (by omega) (ok_lv (ok_f ?_ (ok_bs1 (R := fun _ => True) ?_ fun _ _ => ok_some rfl)))
 ·simp only [Bool.or_eq_true, decide_eq_true_eq]; omega
 refine ok_lp (fun y => 0 ≤ y ∧ y ≤ l.length) (fun y => ((l.length : Int) - y).toNat) ⟨by omega, by omega⟩ (by omega) ?_
 rintro y ⟨y0, y1⟩
 unfold P_place_Check_L6
 refine ok_ite (fun hlt => ?_) fun _ => ok_some ⟨(), rfl, trivial⟩
 have hp := h.all _ (gt_mem (i := y) (xs := l) ⟨y0, hlt⟩)
 generalize gt l y = p at hp
 have p1 := hp.w1
 have p2 := hp.w5
 have p3 := hp.cl
 have p4 := hp.al
 refine ok_ck ⟨y0, hlt⟩ (ok_lv (ok_lv (ok_f ?_ (ok_lv (ok_f ?_ (ok_ck (by simp only [mkOk]; omega) (ok_lv (ok_bs1 (R := fun _ => True) ?_ fun _ _ => ok_bs1 (R := fun _ => True) ?_ fun _ _ => ok_ar (by omega) (ok_some ⟨⟨by omega, by omega⟩, by omega⟩)))))))))
 ·simp only [Bool.or_eq_true, decide_eq_true_eq]; omega
 ·simp only [Bool.or_eq_true, decide_eq_true_eq]; omega
 ·refine ok_lp (fun s => s.1.length = n ∧ 0 ≤ s.2 ∧ s.2 ≤ p.Cells.length ∧ ∀ d : Int, 0 ≤ d → d < n → gt s.1 d = true → ∃ j : Int, 0 ≤ j ∧ j < s.2 ∧ gt p.Cells j = d) (fun s => ((p.Cells.length : Int) - s.2).toNat)
   ⟨by simp, by simp only; omega, by simp only; omega, fun d d0 d1 e => by rw [gt_rep ⟨d0, by simp; omega⟩] at e; cases e⟩ (by simp only; omega) ?_
  rintro ⟨seen, z⟩ ⟨l1, z0, z1, e1⟩
  simp only at l1 z0 z1 e1 ⊢
  unfold P_place_Check_L14
  dsimp only
  refine ok_ite (fun hz => ?_) fun _ => ok_some ⟨(), rfl, trivial⟩
  have hc := hp.cs _ (gt_mem (i := z) (xs := p.Cells) ⟨z0, hz⟩)
  refine ok_ck ⟨z0, hz⟩ (ok_lv (ok_lv (ok_f ?_ (ok_ck ⟨hc.1, by omega⟩ (ok_lv (ok_f ?_ (ok_ck ⟨hc.1, by omega⟩ (ok_lv (ok_ar (by omega) (ok_some ⟨⟨by rw [stt_length]; exact l1, by simp only; omega, by simp only; omega, fun d d0 d1 e => ?_⟩, by simp only; omega⟩))))))))))
  ·simp only [Bool.or_eq_true, decide_eq_true_eq]; omega
  ·intro e
   obtain ⟨j, j0, j1, e2⟩ := e1 _ hc.1 hc.2 e
   exact nodup_gt hp.nd ⟨j0, by omega⟩ ⟨z0, hz⟩ j1 e2
  ·simp only at e ⊢
   rw [gt_stt _ _ ⟨hc.1, by omega⟩ d0] at e
   by_cases q : d = gt p.Cells z
   ·exact ⟨z, z0, by omega, q.symm⟩
   ·rw [if_neg q] at e
    obtain ⟨j, j0, j1, e2⟩ := e1 d d0 d1 e
    exact ⟨j, j0, by omega, e2⟩
 ·refine ok_lp (fun z => 0 ≤ z ∧ z ≤ p.At.length) (fun z => ((p.At.length : Int) - z).toNat) ⟨by omega, by omega⟩ (by omega) ?_
  rintro z ⟨z0, z1⟩
  unfold P_place_Check_L23
  refine ok_ite (fun hz => ?_) fun _ => ok_some ⟨(), rfl, trivial⟩
  have hc := hp.pt _ (gt_mem (i := z) (xs := p.At) ⟨z0, hz⟩)
  refine ok_ck ⟨z0, hz⟩ (ok_lv (ok_bd (R := fun r => r = false) ?_ ?_))
  ·unfold P_place_far
   refine ok_lv (ok_lv (ok_lv (ok_some ?_)))
   simp only [Bool.or_eq_false_iff, decide_eq_false_iff_not]
   omega
  rintro _ rfl
  exact ok_f (by simp) (ok_ar (by omega) (ok_some ⟨⟨by omega, by omega⟩, by omega⟩))
/-- What a net draws it draws wholly. -/
def Closed (f : List Bool) (p : T_place_Pull) : Prop := (p.At ≠ [] ∨ ∃ d ∈ p.Cells, gt f d = true) → ∀ c ∈ p.Cells, gt f c = true
omit hn in
theorem closed_all {f : List Bool} (hf : ∀ p ∈ l, Closed f p) : ∀ m : Nat, ∀ c : Int, 0 ≤ c → c < n → c.toNat ≤ m → gt f c = true := by
 intro m
 induction m with
 | zero =>
  intro c h0 h1 h2
  obtain ⟨p, hp, hc, hh⟩ := h.held c h0 h1
  refine hf p hp ?_ c hc
  rcases hh with q | ⟨d, hd, d0, d1⟩
  ·exact Or.inl q
  ·omega
 | succ m ih =>
  intro c h0 h1 h2
  obtain ⟨p, hp, hc, hh⟩ := h.held c h0 h1
  refine hf p hp ?_ c hc
  rcases hh with q | ⟨d, hd, d0, d1⟩
  ·exact Or.inl q
  ·exact Or.inr ⟨d, hd, ih d d0 (by omega) (by omega)⟩
omit hn in
theorem held_nets (g : T_floor_Point → Int) : HeldN (n : Int) (l.map fun p => Net.mk (p.Weight : Rat) p.Cells (p.At.map fun q => ((g q : Int) : Rat))) := by
 intro f hf
 have key : ∀ m : Nat, ∀ c : Int, 0 ≤ c → c < n → c.toNat ≤ m → f c = 0 := by
  intro m
  induction m with
  | zero =>
   intro c h0 h1 h2
   obtain ⟨p, hp, hc, hh⟩ := h.held c h0 h1
   obtain ⟨f1, f2⟩ := hf _ (List.mem_map_of_mem hp)
   rcases hh with q | ⟨d, hd, d0, d1⟩
   ·exact f2 (fun e => q (by simpa using e)) c hc
   ·omega
  | succ m ih =>
   intro c h0 h1 h2
   obtain ⟨p, hp, hc, hh⟩ := h.held c h0 h1
   obtain ⟨f1, f2⟩ := hf _ (List.mem_map_of_mem hp)
   rcases hh with q | ⟨d, hd, d0, d1⟩
   ·exact f2 (fun e => q (by simpa using e)) c hc
   ·rw [f1 c hc d hd]; exact ih d d0 (by omega) (by omega)
 exact fun c h0 h1 => key c.toNat c h0 h1 (Nat.le_refl _)
end
end Go.Proofs.Ytfkncjfpgflafaa.X
namespace Go.Proofs.Ytfkncjfpgflafaa.X
open Go Go.RowKit
set_option linter.unusedVariables false
set_option linter.unusedSimpArgs false
/-- How many are not set. -/
def unset (f : List Bool) : Nat := f.countP fun b => !b
theorem unset_set : ∀ (f : List Bool) (i : Nat), (h : i < f.length) → f[i] = false → unset (f.set i true) + 1 = unset f := by
 intro f
 induction f with
 | nil => intro i h; simp at h
 | cons b f ih =>
  intro i h e
  cases i with
  | zero =>
   have : b = false := e
   subst this
   simp [unset]
  | succ i =>
   have := ih i (by simpa using h) (by simpa using e)
   simp only [unset, List.set_cons_succ, List.countP_cons] at this ⊢
   omega
theorem unset_stt {f : List Bool} {i : Int} (h : inb i f.length) (e : gt f i = false) : unset (stt f i true) + 1 = unset f := by
 rw [gt_get h] at e
 exact unset_set f i.toNat _ e
section
variable {n : Nat} {l : List T_place_Pull} (h : PullsOk n l) (hn : n ≤ 8)
include h hn
theorem held_ok : Ok (P_place_held (n : Int) l) (fun r => r = true) := by
 have hlen := h.len
 unfold P_place_held
 refine ok_ck (by simp only [mkOk]; omega) (ok_lv (ok_bd (R := fun f => f.length = n ∧ ∀ c : Int, 0 ≤ c → c < n → gt f c = true) ?_ ?_))
 ·refine ok_lp (fun s => s.1.length = n ∧ (s.2 = false → ∀ p ∈ l, Closed s.1 p)) (fun s => bif s.2 then unset s.1 + 1 else 0) ⟨by simp, fun e => by cases e⟩ ?_ ?_
  ·have : unset (List.replicate (n : Int).toNat false) ≤ n := by
    have := List.countP_le_length (p := fun b => !b) (l := List.replicate (n : Int).toNat false)
    unfold unset
    rw [List.length_replicate] at this
    omega
   simp only [cond_true]
   omega
  rintro ⟨f0, more⟩ ⟨l0, c0⟩
  simp only at l0 c0 ⊢
  unfold P_place_held_L3
  dsimp only
  refine ok_ite (fun hm => ?_) fun hm => ok_some ⟨l0, fun c h0 h1 => closed_all h (c0 (by simpa using hm)) c.toNat c h0 h1 (Nat.le_refl _)⟩
  refine ok_bd (R := fun s => s.1.length = n ∧ (s.2 = false → s.1 = f0 ∧ ∀ p ∈ l, Closed f0 p) ∧ (s.2 = true → unset s.1 < unset f0)) ?_ ?_
  ·refine ok_lp (fun s => s.1.length = n ∧ 0 ≤ s.2.2 ∧ s.2.2 ≤ l.length ∧ (s.2.1 = false → s.1 = f0 ∧ ∀ j : Int, 0 ≤ j → j < s.2.2 → Closed f0 (gt l j)) ∧ (s.2.1 = true → unset s.1 < unset f0)) (fun s => ((l.length : Int) - s.2.2).toNat)
    ⟨l0, by simp only; omega, by simp only; omega, fun _ => ⟨rfl, fun j j0 j1 => by simp only at j1; omega⟩, fun e => by cases e⟩ (by simp only; omega) ?_
   rintro ⟨f, m, y⟩ ⟨l1, y0, y1, e1, e2⟩
   simp only at l1 y0 y1 e1 e2 ⊢
   unfold P_place_held_L6
   dsimp only
   refine ok_ite (fun hlt => ?_) fun hge => ok_some ⟨l1, fun e => ⟨(e1 e).1, fun p hp => ?_⟩, e2⟩
   ·have hb : inb y l.length := ⟨y0, hlt⟩
    have hp := h.all _ (gt_mem hb)
    have e3 : ∀ j : Int, j = y → gt l j = gt l y := fun j e => by rw [e]
    refine ok_ck hb (ok_lv ?_)
    generalize gt l y = p at hp e3
    have p3 := hp.cl
    refine ok_bd (R := fun d : Bool => (p.At ≠ [] → d = true) ∧ ∀ c ∈ p.Cells, gt f c = true → d = true) ?_ ?_
    ·refine ok_lp (fun s => 0 ≤ s.2 ∧ s.2 ≤ p.Cells.length ∧ (p.At ≠ [] → s.1 = true) ∧ ∀ j : Int, 0 ≤ j → j < s.2 → gt f (gt p.Cells j) = true → s.1 = true) (fun s => ((p.Cells.length : Int) - s.2).toNat)
      ⟨by simp only; omega, by simp only; omega, fun e => ?_, fun j j0 j1 => by simp only at j1; omega⟩ (by simp only; omega) ?_
     ·have := List.length_pos_iff.2 e
      simp only [decide_eq_true_eq]; omega
     rintro ⟨d, z⟩ ⟨z0, z1, d1, d2⟩
     simp only at z0 z1 d1 d2 ⊢
     unfold P_place_held_L10
     dsimp only
     refine ok_ite (fun hz => ?_) fun hz => ok_some ⟨d1, fun c hc => ?_⟩
     ·have hc := hp.cs _ (gt_mem (i := z) (xs := p.Cells) ⟨z0, hz⟩)
      refine ok_ck ⟨z0, hz⟩ (ok_lv (ok_ck (fun _ => ⟨hc.1, by omega⟩) (ok_lv (ok_lv (ok_ar (by omega) (ok_some ⟨⟨by simp only; omega, by simp only; omega, fun e => by simp [d1 e], fun j j0 j1 e => ?_⟩, by simp only; omega⟩))))))
      simp only at j1 ⊢
      by_cases q : j = z
      ·subst q; simp [e]
      ·simp [d2 j j0 (by omega) e]
     ·obtain ⟨j, hj, rfl⟩ := mem_gt hc
      exact d2 j hj.1 (by have := hj.2; omega)
    rintro d ⟨d1, d2⟩
    refine ok_bd (R := fun s => s.1.length = n ∧ (s.2 = false → s.1 = f ∧ m = false ∧ (d = true → ∀ c ∈ p.Cells, gt f c = true)) ∧ (s.2 = true → unset s.1 < unset f0)) ?_ ?_
    ·refine ok_lp (fun s => s.1.length = n ∧ 0 ≤ s.2.2 ∧ s.2.2 ≤ p.Cells.length ∧ (s.2.1 = false → s.1 = f ∧ m = false ∧ (d = true → ∀ j : Int, 0 ≤ j → j < s.2.2 → gt f (gt p.Cells j) = true)) ∧ (s.2.1 = true → unset s.1 < unset f0)) (fun s => ((p.Cells.length : Int) - s.2.2).toNat)
      ⟨l1, by simp only; omega, by simp only; omega, fun e => ⟨rfl, e, fun _ j j0 j1 => by simp only at j1; omega⟩, e2⟩ (by simp only; omega) ?_
     rintro ⟨g, mm, z⟩ ⟨l2, z0, z1, g1, g2⟩
     simp only at l2 z0 z1 g1 g2 ⊢
     unfold P_place_held_L15
     dsimp only
     refine ok_ite (fun hz => ?_) fun hz => ok_some ⟨l2, fun e => ⟨(g1 e).1, (g1 e).2.1, fun hd c hc => ?_⟩, g2⟩
     ·have hc := hp.cs _ (gt_mem (i := z) (xs := p.Cells) ⟨z0, hz⟩)
      have hcb : inb (gt p.Cells z) g.length := ⟨hc.1, by omega⟩
      refine ok_ck ⟨z0, hz⟩ (ok_lv (ok_ck (fun _ => hcb) (ok_lv (ok_lv (ok_bd (R := fun s => s.1.length = n ∧ (s.2 = false → s.1 = f ∧ m = false ∧ (d = true → ∀ j : Int, 0 ≤ j → j < z + 1 → gt f (gt p.Cells j) = true)) ∧ (s.2 = true → unset s.1 < unset f0)) ?_ ?_)))))
      ·refine ok_ite (fun hx => ok_ck hcb (ok_lv (ok_some ⟨by rw [stt_length]; exact l2, fun e => (by cases e), fun _ => ?_⟩))) fun hx => ok_some ⟨l2, fun e => ?_, g2⟩
       ·simp only [Bool.and_eq_true, Bool.not_eq_true'] at hx
        have u := unset_stt hcb hx.2
        simp only
        cases hmm : mm with
        | true => have := g2 hmm; omega
        | false =>
         obtain ⟨q1, q2, -⟩ := g1 hmm
         have q3 := (e1 q2).1
         rw [q1, q3] at u ⊢
         omega
       ·obtain ⟨q1, q2, q3⟩ := g1 e
        refine ⟨q1, q2, fun hd j j0 j1 => ?_⟩
        by_cases q : j = z
        ·subst q
         rw [hd, q1] at hx
         simpa using hx
        ·exact q3 hd j j0 (by omega)
      rintro ⟨g', mm'⟩ ⟨r1, r2, r3⟩
      exact ok_ar (by omega) (ok_some ⟨⟨r1, by simp only; omega, by simp only; omega, r2, r3⟩, by simp only; omega⟩)
     ·obtain ⟨j, hj, rfl⟩ := mem_gt hc
      exact (g1 e).2.2 hd j hj.1 (by have := hj.2; omega)
    rintro ⟨g, mm⟩ ⟨l2, g1, g2⟩
    simp only at l2 g1 g2 ⊢
    refine ok_ar (by omega) (ok_some ⟨⟨l2, by simp only; omega, by simp only; omega, fun e => ?_, g2⟩, by simp only; omega⟩)
    obtain ⟨q1, q2, q3⟩ := g1 e
    obtain ⟨q4, q5⟩ := e1 q2
    refine ⟨q1.trans q4, fun j j0 j1 => ?_⟩
    simp only at j1
    by_cases q : j = y
    ·rw [e3 j q]
     intro hd c hc
     rw [← q4]
     refine q3 ?_ c hc
     rcases hd with hd | ⟨c', hc', hd⟩
     ·exact d1 hd
     ·exact d2 c' hc' (by rw [q4]; exact hd)
    ·exact q5 j j0 (by omega)
   ·obtain ⟨j, hj, rfl⟩ := mem_gt hp
    exact (e1 e).2 j hj.1 (by have := hj.2; omega)
  rintro ⟨f, m⟩ ⟨l1, e1, e2⟩
  simp only at l1 e1 e2 ⊢
  subst hm
  refine ok_some ⟨⟨l1, fun e => ?_⟩, ?_⟩
  ·obtain ⟨q1, q2⟩ := e1 e
   simp only
   rw [q1]; exact q2
  ·simp only
   cases m with
   | true => have := e2 rfl; simp only [cond_true]; omega
   | false => simp
 rintro f ⟨l1, e1⟩
 refine ok_bs1 (R := fun _ => True) ?_ fun _ _ => ok_some rfl
 refine ok_lp (fun y => 0 ≤ y ∧ y ≤ n) (fun y => ((n : Int) - y).toNat) ⟨by omega, by omega⟩ (by omega) ?_
 rintro y ⟨y0, y1⟩
 unfold P_place_held_L22
 rw [List.length_replicate]
 refine ok_ite (fun hz => ?_) fun _ => ok_some ⟨(), rfl, trivial⟩
 refine ok_ck ⟨y0, by omega⟩ (ok_lv (ok_f ?_ (ok_ar (by omega) (ok_some ⟨⟨by omega, by omega⟩, by omega⟩))))
 rw [e1 y y0 (by omega)]
 simp
end
end Go.Proofs.Ytfkncjfpgflafaa.X
namespace Go.Proofs.Ytfkncjfpgflafaa.X
open Go Go.RowKit
set_option linter.unusedVariables false
set_option linter.unusedSimpArgs false
theorem qs_take {α : Type} [Inhabited α] (l : List α) {m : Nat} (h : m < l.length) (g : α → Rat) : qs (l.take (m + 1)) g = qs (l.take m) g + g (gt l (m : Int)) := by
 have e : l.take (m + 1) = l.take m ++ [gt l (m : Int)] := by
  rw [List.take_succ_eq_append_getElem h, gt_get (i := (m : Int)) ⟨by omega, by omega⟩]
  rfl
 rw [e, qs_app, qs_cons, qs_nil]
 grind
theorem qs_take_all {α : Type} (l : List α) {m : Nat} (h : m = l.length) (g : α → Rat) : qs (l.take m) g = qs l g := by rw [h, List.take_length]
theorem Sq.mono {a : List (List Int)} {n E F : Nat} (h : Sq a n E) (hE : E ≤ F) : Sq a n F := ⟨h.len, h.row, fun i j hi hj => Nat.le_trans (h.ent i j hi hj) hE⟩
section
variable {a : List (List Int)} {n E : Nat} (h : Sq a n E) {c d : Int} (c0 : 0 ≤ c) (c1 : c < n) (d0 : 0 ≤ d) (d1 : d < n) (v : Int)
include h c0 c1 d0 d1
theorem mat_stt {i j : Nat} (hi : i < n) (hj : j < n) : mat (stt a c (stt (gt a c) d v)) i j = if (i : Int) = c ∧ (j : Int) = d then v else mat a i j := by
 obtain ⟨c, rfl⟩ := Int.eq_ofNat_of_zero_le c0
 have hr := h.row c (by omega)
 have hl := h.len
 unfold mat
 rw [gt_stt _ _ ⟨c0, by omega⟩ (by omega)]
 by_cases q : (i : Int) = (c : Int)
 ·rw [if_pos q, gt_stt _ _ ⟨d0, by omega⟩ (by omega)]
  by_cases r : (j : Int) = d
  ·rw [if_pos r, if_pos ⟨q, r⟩]
  ·rw [if_neg r, if_neg fun e => r e.2, q]
 ·rw [if_neg q, if_neg fun e => q e.1]
theorem Sq.stt {F : Nat} (hE : E ≤ F) (hv : v.natAbs ≤ F) : Sq (stt a c (stt (gt a c) d v)) n F where
 len := by rw [stt_length]; exact h.len
 row i hi := by
  have hl := h.len
  rw [gt_stt _ _ ⟨c0, by omega⟩ (by omega)]
  by_cases q : (i : Int) = c
  ·rw [if_pos q, stt_length, ← q]; exact h.row i hi
  ·rw [if_neg q]; exact h.row i hi
 ent i j hi hj := by
  rw [mat_stt h c0 c1 d0 d1 v hi hj]
  split
  ·exact hv
  ·exact Nat.le_trans (h.ent i j hi hj) hE
theorem form_stt (u : Int) (hv : v = gt (gt a c) d + u) (f x : Int → Rat) : form (mat (stt a c (stt (gt a c) d v))) n f x = form (mat a) n f x + f c * ((u : Rat) * x d) := by
 obtain ⟨c, rfl⟩ := Int.eq_ofNat_of_zero_le c0
 obtain ⟨d, rfl⟩ := Int.eq_ofNat_of_zero_le d0
 refine form_upd (c := c) (d := d) (by omega) (by omega) u ?_ (fun i j hi hj hne => ?_) f x
 ·rw [mat_stt h c0 c1 d0 d1 v (by omega) (by omega), if_pos ⟨rfl, rfl⟩, hv]; rfl
 ·rw [mat_stt h c0 c1 d0 d1 v hi hj, if_neg (by omega)]
end
theorem lin_stt {b : List Int} {n : Nat} (hl : b.length = n) {c : Int} (c0 : 0 ≤ c) (c1 : c < n) {v : Int} (u : Int) (hv : v = gt b c + u) (f : Int → Rat) : lin (fun i => gt (stt b c v) (i : Int)) n f = lin (fun i => gt b (i : Int)) n f + f c * (u : Rat) := by
 obtain ⟨c, rfl⟩ := Int.eq_ofNat_of_zero_le c0
 refine lin_upd (c := c) (by omega) u ?_ (fun i hi hne => ?_) f
 ·rw [gt_stt _ _ ⟨c0, by omega⟩ (by omega), if_pos rfl, hv]
 ·rw [gt_stt _ _ ⟨c0, by omega⟩ (by omega), if_neg (by omega)]
theorem stt_small {b : List Int} {n F F' : Nat} (hl : b.length = n) {c v : Int} (c0 : 0 ≤ c) (c1 : c < n) (h : ∀ i : Nat, i < n → (gt b (i : Int)).natAbs ≤ F) (hF : F ≤ F') (hv : v.natAbs ≤ F') : ∀ i : Nat, i < n → (gt (stt b c v) (i : Int)).natAbs ≤ F' := by
 intro i hi
 rw [gt_stt _ _ ⟨c0, by omega⟩ (by omega)]
 split
 ·exact hv
 ·exact Nat.le_trans (h i hi) hF
/-- The other cells of a net. -/
theorem qs_others {cs : List Int} (nd : cs.Nodup) {c : Int} (hc : c ∈ cs) (x : Int → Rat) : qs cs (fun d => if d ≠ c then x d else 0) = qs cs x - x c := by
 induction cs with
 | nil => simp at hc
 | cons d cs ih =>
  rw [List.nodup_cons] at nd
  rw [qs_cons, qs_cons]
  by_cases q : d = c
  ·subst q
   rw [if_neg (by simp), qs_congr (l := cs) (g := fun e => if e ≠ d then x e else 0) (h := x) fun e he => by rw [if_pos]; rintro rfl; exact nd.1 he]
   grind
  ·rw [if_pos q, ih nd.2 (by simpa [Ne.symm q] using hc)]
   grind
/-- What a net adds to a cell's equation. -/
def cellT (p : T_place_Pull) (x : Int → Rat) (c : Int) : Rat := ((p.Cells.length : Rat) + (p.At.length : Rat)) * x c - qs p.Cells x
section
variable {n : Nat} {p : T_place_Pull} (hp : PullOk n p)
include hp
theorem L16_ok {a : List (List Int)} {E : Nat} (h : Sq a n E) (hE : E + 40 ≤ 1000000) {c : Int} (c0 : 0 ≤ c) (c1 : c < n) : Ok (lp (P_place_system_L16 p c) fuel (a, 0)) (fun r => Sq r n (E + 40) ∧ ∀ f x : Int → Rat, form (mat r) n f x = form (mat a) n f x - (p.Weight : Rat) * (f c * qs p.Cells fun d => if d ≠ c then x d else 0)) := by
 have p1 := hp.w1; have p2 := hp.w5; have p3 := hp.cl
 refine ok_lp (fun s => ∃ j : Nat, s.2 = (j : Int) ∧ j ≤ p.Cells.length ∧ Sq s.1 n (E + 5 * j) ∧ ∀ f x : Int → Rat, form (mat s.1) n f x = form (mat a) n f x - (p.Weight : Rat) * (f c * qs (p.Cells.take j) fun d => if d ≠ c then x d else 0)) (fun s => ((p.Cells.length : Int) - s.2).toNat)
  ⟨0, rfl, Nat.zero_le _, h, fun f x => by rw [List.take_zero, qs_nil]; grind⟩ (by simp only; omega) ?_
 rintro ⟨b, y⟩ ⟨j, rfl, hj, hb, e1⟩
 simp only at hb e1 ⊢
 unfold P_place_system_L16
 dsimp only
 refine ok_ite (fun hlt => ?_) fun hge => ok_some ⟨hb.mono (by omega), fun f x => by rw [e1, qs_take_all _ (by omega)]⟩
 have hc := hp.cs _ (gt_mem (i := (j : Int)) (xs := p.Cells) ⟨by omega, hlt⟩)
 have hq : ∀ g : Int → Rat, qs (p.Cells.take (j + 1)) g = qs (p.Cells.take j) g + g (gt p.Cells (j : Int)) := qs_take p.Cells (by omega)
 refine ok_ck ⟨by omega, hlt⟩ (ok_lv ?_)
 generalize gt p.Cells (j : Int) = d at hc hq
 refine ok_bd (R := fun r => Sq r n (E + 5 * (j + 1)) ∧ ∀ f x : Int → Rat, form (mat r) n f x = form (mat a) n f x - (p.Weight : Rat) * (f c * qs (p.Cells.take (j + 1)) fun d => if d ≠ c then x d else 0)) ?_ ?_
 ·refine ok_ite (fun hne => ?_) fun he => ok_some ⟨hb.mono (by omega), fun f x => by rw [e1, hq, if_neg he]; grind⟩
  have hl := hb.len
  have hr := hb.row c.toNat (by omega)
  rw [show ((c.toNat : Nat) : Int) = c by omega] at hr
  have he := hb.ent c.toNat d.toNat (by omega) (by omega)
  unfold mat at he
  rw [show ((c.toNat : Nat) : Int) = c by omega, show ((d.toNat : Nat) : Int) = d by omega] at he
  refine ok_ck ⟨c0, by omega⟩ (ok_lv (ok_ck ⟨hc.1, by omega⟩ (ok_lv (ok_ar (by omega) (ok_ck ⟨hc.1, by omega⟩ (ok_lv (ok_lv (ok_some ⟨hb.stt c0 c1 hc.1 hc.2 _ (by omega) (by omega), fun f x => ?_⟩))))))))
  rw [form_stt hb c0 c1 hc.1 hc.2 _ (-p.Weight) (by omega), e1, hq, if_pos hne, Rat.intCast_neg]
  grind
 rintro r ⟨hr, er⟩
 exact ok_ar (by omega) (ok_some ⟨⟨j + 1, by simp only; omega, by omega, hr, er⟩, by simp only; omega⟩)
theorem L22_ok {xs ys : List Int} {E : Nat} (lx : xs.length = n) (ly : ys.length = n) (bx : ∀ i : Nat, i < n → (gt xs (i : Int)).natAbs ≤ E) (by_ : ∀ i : Nat, i < n → (gt ys (i : Int)).natAbs ≤ E) (hE : E + 600 ≤ 1000000) {c : Int} (c0 : 0 ≤ c) (c1 : c < n) :
  Ok (lp (P_place_system_L22 p c) fuel (xs, ys, 0)) (fun r => r.1.length = n ∧ r.2.length = n ∧ (∀ i : Nat, i < n → (gt r.1 (i : Int)).natAbs ≤ E + 600) ∧ (∀ i : Nat, i < n → (gt r.2 (i : Int)).natAbs ≤ E + 600) ∧
   (∀ f : Int → Rat, lin (fun i => gt r.1 (i : Int)) n f = lin (fun i => gt xs (i : Int)) n f + (p.Weight : Rat) * (f c * qs p.At fun q => (q.X : Rat))) ∧
   (∀ f : Int → Rat, lin (fun i => gt r.2 (i : Int)) n f = lin (fun i => gt ys (i : Int)) n f + (p.Weight : Rat) * (f c * qs p.At fun q => (q.Y : Rat)))) := by
 have p1 := hp.w1; have p2 := hp.w5; have p3 := hp.al
 refine ok_lp (fun s => ∃ j : Nat, s.2.2 = (j : Int) ∧ j ≤ p.At.length ∧ s.1.length = n ∧ s.2.1.length = n ∧ (∀ i : Nat, i < n → (gt s.1 (i : Int)).natAbs ≤ E + 300 * j) ∧ (∀ i : Nat, i < n → (gt s.2.1 (i : Int)).natAbs ≤ E + 300 * j) ∧
   (∀ f : Int → Rat, lin (fun i => gt s.1 (i : Int)) n f = lin (fun i => gt xs (i : Int)) n f + (p.Weight : Rat) * (f c * qs (p.At.take j) fun q => (q.X : Rat))) ∧
   (∀ f : Int → Rat, lin (fun i => gt s.2.1 (i : Int)) n f = lin (fun i => gt ys (i : Int)) n f + (p.Weight : Rat) * (f c * qs (p.At.take j) fun q => (q.Y : Rat)))) (fun s => ((p.At.length : Int) - s.2.2).toNat)
  ⟨0, rfl, Nat.zero_le _, lx, ly, bx, by_, fun f => by rw [List.take_zero, qs_nil]; grind, fun f => by rw [List.take_zero, qs_nil]; grind⟩ (by simp only; omega) ?_
 rintro ⟨us, vs, y⟩ ⟨j, rfl, hj, l1, l2, b1, b2, e1, e2⟩
 simp only at l1 l2 b1 b2 e1 e2 ⊢
 unfold P_place_system_L22
 dsimp only
 refine ok_ite (fun hlt => ?_) fun hge => ok_some ⟨l1, l2, fun i hi => by have := b1 i hi; simp only; omega, fun i hi => by have := b2 i hi; simp only; omega, fun f => by simp only; rw [e1, qs_take_all _ (by omega)], fun f => by simp only; rw [e2, qs_take_all _ (by omega)]⟩
 have hq0 := hp.pt _ (gt_mem (i := (j : Int)) (xs := p.At) ⟨by omega, hlt⟩)
 have hq : ∀ g : T_floor_Point → Rat, qs (p.At.take (j + 1)) g = qs (p.At.take j) g + g (gt p.At (j : Int)) := qs_take p.At (by omega)
 refine ok_ck ⟨by omega, hlt⟩ (ok_lv ?_)
 generalize gt p.At (j : Int) = q at hq0 hq
 have u1 := b1 c.toNat (by omega)
 have u2 := b2 c.toNat (by omega)
 rw [show ((c.toNat : Nat) : Int) = c by omega] at u1 u2
 have wx : -300 ≤ p.Weight * q.X ∧ p.Weight * q.X ≤ 300 := by
  have w : p.Weight = 1 ∨ p.Weight = 2 ∨ p.Weight = 3 ∨ p.Weight = 4 ∨ p.Weight = 5 := by omega
  rcases w with w | w | w | w | w <;> rw [w] <;> omega
 have wy : -300 ≤ p.Weight * q.Y ∧ p.Weight * q.Y ≤ 300 := by
  have w : p.Weight = 1 ∨ p.Weight = 2 ∨ p.Weight = 3 ∨ p.Weight = 4 ∨ p.Weight = 5 := by omega
  rcases w with w | w | w | w | w <;> rw [w] <;> omega
 refine ok_ck ⟨c0, by omega⟩ (ok_lv (ok_ar (by omega) (ok_ar (by omega) (ok_ck ⟨c0, by omega⟩ (ok_lv (ok_ck ⟨c0, by omega⟩ (ok_lv (ok_ar (by omega) (ok_ar (by omega) (ok_ck ⟨c0, by omega⟩ (ok_lv (ok_ar (by omega) (ok_some ⟨⟨j + 1, by simp only; omega, by omega, by simp only; rw [stt_length]; exact l1, by simp only; rw [stt_length]; exact l2, ?_, ?_, fun f => ?_, fun f => ?_⟩, by simp only; omega⟩)))))))))))))
 ·exact stt_small l1 c0 c1 b1 (by omega) (by omega)
 ·exact stt_small l2 c0 c1 b2 (by omega) (by omega)
 ·simp only
  rw [lin_stt l1 c0 c1 _ rfl, e1, hq, Rat.intCast_mul]
  grind
 ·simp only
  rw [lin_stt l2 c0 c1 _ rfl, e2, hq, Rat.intCast_mul]
  grind
/-- What a net adds to the equations. -/
def Net1 (p : T_place_Pull) (n : Nat) (a : List (List Int)) (xs ys : List Int) (a' : List (List Int)) (xs' ys' : List Int) (m : Nat) : Prop :=
 (∀ f x : Int → Rat, form (mat a') n f x = form (mat a) n f x + (p.Weight : Rat) * qs (p.Cells.take m) fun c => f c * cellT p x c) ∧
 (∀ f : Int → Rat, lin (fun i => gt xs' (i : Int)) n f = lin (fun i => gt xs (i : Int)) n f + (p.Weight : Rat) * qs (p.Cells.take m) fun c => f c * qs p.At fun q => (q.X : Rat)) ∧
 (∀ f : Int → Rat, lin (fun i => gt ys' (i : Int)) n f = lin (fun i => gt ys (i : Int)) n f + (p.Weight : Rat) * qs (p.Cells.take m) fun c => f c * qs p.At fun q => (q.Y : Rat))
/-- The table and the two columns. -/
structure Tabs (n : Nat) (a : List (List Int)) (xs ys : List Int) (E : Nat) : Prop where
 sq : Sq a n E
 lx : xs.length = n
 ly : ys.length = n
 bx : ∀ i : Nat, i < n → (gt xs (i : Int)).natAbs ≤ E
 by_ : ∀ i : Nat, i < n → (gt ys (i : Int)).natAbs ≤ E
omit hp in
theorem Tabs.mono {a : List (List Int)} {xs ys : List Int} {E F : Nat} (h : Tabs n a xs ys E) (hE : E ≤ F) : Tabs n a xs ys F := ⟨h.sq.mono hE, h.lx, h.ly, fun i hi => Nat.le_trans (h.bx i hi) hE, fun i hi => Nat.le_trans (h.by_ i hi) hE⟩
theorem L12_ok {a : List (List Int)} {xs ys : List Int} {E : Nat} (h : Tabs n a xs ys E) (hE : E + 5600 ≤ 1000000) : Ok (lp (P_place_system_L12 p) fuel (a, xs, ys, 0)) (fun r => Tabs n r.1 r.2.1 r.2.2 (E + 5600) ∧ Net1 p n a xs ys r.1 r.2.1 r.2.2 p.Cells.length) := by
 have p1 := hp.w1; have p2 := hp.w5; have p3 := hp.cl; have p4 := hp.al
 refine ok_lp (fun s => ∃ j : Nat, s.2.2.2 = (j : Int) ∧ j ≤ p.Cells.length ∧ Tabs n s.1 s.2.1 s.2.2.1 (E + 700 * j) ∧ Net1 p n a xs ys s.1 s.2.1 s.2.2.1 j) (fun s => ((p.Cells.length : Int) - s.2.2.2).toNat)
  ⟨0, rfl, Nat.zero_le _, h, fun f x => by rw [List.take_zero, qs_nil]; grind, fun f => by rw [List.take_zero, qs_nil]; grind, fun f => by rw [List.take_zero, qs_nil]; grind⟩ (by simp only; omega) ?_
 rintro ⟨b, us, vs, y⟩ ⟨j, rfl, hj, hb, e1, e2, e3⟩
 simp only at hb e1 e2 e3 ⊢
 unfold P_place_system_L12
 dsimp only
 refine ok_ite (fun hlt => ?_) fun hge => ok_some ⟨hb.mono (by omega), ?_⟩
 ·have hcm := gt_mem (i := (j : Int)) (xs := p.Cells) ⟨by omega, hlt⟩
  have hc := hp.cs _ hcm
  have hq : ∀ g : Int → Rat, qs (p.Cells.take (j + 1)) g = qs (p.Cells.take j) g + g (gt p.Cells (j : Int)) := qs_take p.Cells (by omega)
  refine ok_ck ⟨by omega, hlt⟩ (ok_lv ?_)
  generalize gt p.Cells (j : Int) = c at hc hq hcm
  have hl := hb.sq.len
  have hr := hb.sq.row c.toNat (by omega)
  rw [show ((c.toNat : Nat) : Int) = c by omega] at hr
  have he := hb.sq.ent c.toNat c.toNat (by omega) (by omega)
  unfold mat at he
  rw [show ((c.toNat : Nat) : Int) = c by omega] at he
  have wx : -50 ≤ p.Weight * ((p.Cells.length : Int) + (p.At.length : Int) - 1) ∧ p.Weight * ((p.Cells.length : Int) + (p.At.length : Int) - 1) ≤ 50 := by
   have w : p.Weight = 1 ∨ p.Weight = 2 ∨ p.Weight = 3 ∨ p.Weight = 4 ∨ p.Weight = 5 := by omega
   rcases w with w | w | w | w | w <;> rw [w] <;> omega
  refine ok_ck ⟨hc.1, by omega⟩ (ok_lv (ok_ck ⟨hc.1, by omega⟩ (ok_ck ⟨hc.1, by omega⟩ (ok_lv (ok_ar (by omega) (ok_ar (by omega) (ok_ar (by omega) (ok_ar (by omega) (ok_ck ⟨hc.1, by omega⟩ (ok_lv (ok_lv ?_)))))))))))
  have s1 := hb.sq.stt hc.1 hc.2 hc.1 hc.2 (gt (gt b c) c + p.Weight * ((p.Cells.length : Int) + (p.At.length : Int) - 1)) (F := E + 700 * j + 50) (by omega) (by omega)
  have s2 := fun f x => form_stt hb.sq hc.1 hc.2 hc.1 hc.2 _ (p.Weight * ((p.Cells.length : Int) + (p.At.length : Int) - 1)) rfl f x
  refine ok_bd (L16_ok hp s1 (by omega) hc.1 hc.2) ?_
  rintro a2 ⟨s3, s4⟩
  refine ok_bd (L22_ok hp hb.lx hb.ly hb.bx hb.by_ (by omega) hc.1 hc.2) ?_
  rintro ⟨x2, y2⟩ ⟨t1, t2, t3, t4, t5, t6⟩
  simp only at t1 t2 t3 t4 t5 t6
  refine ok_ar (by omega) (ok_some ⟨⟨j + 1, by simp only; omega, by omega, ⟨s3.mono (by omega), t1, t2, fun i hi => Nat.le_trans (t3 i hi) (by omega), fun i hi => Nat.le_trans (t4 i hi) (by omega)⟩, fun f x => ?_, fun f => ?_, fun f => ?_⟩, by simp only; omega⟩)
  ·simp only
   rw [s4, s2, e1, hq, qs_others hp.nd hcm]
   unfold cellT
   have ce : ((p.Weight * ((p.Cells.length : Int) + (p.At.length : Int) - 1) : Int) : Rat) = (p.Weight : Rat) * ((p.Cells.length : Rat) + (p.At.length : Rat) - 1) := by
    rw [Rat.intCast_mul, Rat.intCast_sub, Rat.intCast_add]; rfl
   rw [ce]
   grind
  ·simp only
   rw [t5, e2, hq]; grind
  ·simp only
   rw [t6, e3, hq]; grind
 ·have ej : j = p.Cells.length := by omega
  subst ej
  exact ⟨e1, e2, e3⟩
end
/-- The nets along an axis. -/
def nets (g : T_floor_Point → Int) (l : List T_place_Pull) : List Net := l.map fun p => Net.mk (p.Weight : Rat) p.Cells (p.At.map fun q => ((g q : Int) : Rat))
section
variable {n : Nat} {l : List T_place_Pull} (h : PullsOk n l) (hn : n ≤ 8)
include h hn
theorem system_ok : Ok (P_place_system (n : Int) l) (fun r => Tabs n r.1 r.2.1 r.2.2 67200 ∧ (∀ f x : Int → Rat, form (mat r.1) n f x = lin (fun i => gt r.2.1 (i : Int)) n f + work (nets (·.X) l) x f) ∧ (∀ f x : Int → Rat, form (mat r.1) n f x = lin (fun i => gt r.2.2 (i : Int)) n f + work (nets (·.Y) l) x f)) := by
 have hlen := h.len
 unfold P_place_system
 refine ok_ck (by simp only [mkOk]; omega) (ok_lv (ok_ck (by simp only [mkOk]; omega) (ok_lv (ok_ck (by simp only [mkOk]; omega) ?_))))
 have z0 : ∀ i : Nat, i < n → gt (List.replicate (n : Int).toNat (0 : Int)) (i : Int) = 0 := fun i hi => gt_rep ⟨by omega, by simp; omega⟩
 refine ok_bd (R := fun a => a.length = n ∧ ∀ i : Nat, i < n → gt a (i : Int) = List.replicate (n : Int).toNat (0 : Int)) ?_ ?_
 ·refine ok_lp (fun s => ∃ j : Nat, s.2 = (j : Int) ∧ j ≤ n ∧ s.1.length = n ∧ ∀ i : Nat, i < j → gt s.1 (i : Int) = List.replicate (n : Int).toNat (0 : Int)) (fun s => ((n : Int) - s.2).toNat)
   ⟨0, rfl, Nat.zero_le _, by simp, fun i hi => by omega⟩ (by simp only; omega) ?_
  rintro ⟨a, y⟩ ⟨j, rfl, hj, l1, e1⟩
  simp only at l1 e1 ⊢
  unfold P_place_system_L3
  dsimp only
  rw [List.length_replicate]
  refine ok_ite (fun hlt => ?_) fun hge => ok_some ⟨l1, fun i hi => e1 i (by omega)⟩
  refine ok_ck (by simp only [mkOk]; omega) (ok_ck ⟨by omega, by omega⟩ (ok_lv (ok_lv (ok_ar (by omega) (ok_some ⟨⟨j + 1, by simp only; omega, by omega, by rw [stt_length]; exact l1, fun i hi => ?_⟩, by simp only; omega⟩)))))
  simp only
  rw [gt_stt _ _ ⟨by omega, by omega⟩ (by omega)]
  by_cases q : (i : Int) = (j : Int)
  ·rw [if_pos q]
  ·rw [if_neg q]; exact e1 i (by omega)
 rintro a ⟨la, ea⟩
 have sq0 : Sq a n 0 := ⟨la, fun i hi => by rw [ea i hi]; simp, fun i j hi hj => by unfold mat; rw [ea i hi, z0 j hj]; decide⟩
 have zz : ∀ i : Nat, i < n → (gt (List.replicate (n : Int).toNat (0 : Int)) (i : Int)).natAbs ≤ 0 := fun i hi => by rw [z0 i hi]; exact Nat.le_refl _
 have tz : Tabs n a (List.replicate (n : Int).toNat (0 : Int)) (List.replicate (n : Int).toNat (0 : Int)) 0 := ⟨sq0, by simp, by simp, zz, zz⟩
 refine ok_bd (R := fun r => Tabs n r.1 r.2.1 r.2.2 67200 ∧ (∀ f x : Int → Rat, form (mat r.1) n f x = qs l fun p => (p.Weight : Rat) * qs p.Cells fun c => f c * cellT p x c) ∧
   (∀ f : Int → Rat, lin (fun i => gt r.2.1 (i : Int)) n f = qs l fun p => (p.Weight : Rat) * qs p.Cells fun c => f c * qs p.At fun q => (q.X : Rat)) ∧
   (∀ f : Int → Rat, lin (fun i => gt r.2.2 (i : Int)) n f = qs l fun p => (p.Weight : Rat) * qs p.Cells fun c => f c * qs p.At fun q => (q.Y : Rat))) ?_ ?_
 ·refine ok_lp (fun s => ∃ j : Nat, s.2.2.2 = (j : Int) ∧ j ≤ l.length ∧ Tabs n s.1 s.2.1 s.2.2.1 (5600 * j) ∧ (∀ f x : Int → Rat, form (mat s.1) n f x = qs (l.take j) fun p => (p.Weight : Rat) * qs p.Cells fun c => f c * cellT p x c) ∧
   (∀ f : Int → Rat, lin (fun i => gt s.2.1 (i : Int)) n f = qs (l.take j) fun p => (p.Weight : Rat) * qs p.Cells fun c => f c * qs p.At fun q => (q.X : Rat)) ∧
   (∀ f : Int → Rat, lin (fun i => gt s.2.2.1 (i : Int)) n f = qs (l.take j) fun p => (p.Weight : Rat) * qs p.Cells fun c => f c * qs p.At fun q => (q.Y : Rat))) (fun s => ((l.length : Int) - s.2.2.2).toNat)
   ⟨0, rfl, Nat.zero_le _, tz.mono (Nat.zero_le _), fun f x => ?_, fun f => ?_, fun f => ?_⟩ (by simp only; omega) ?_
  ·rw [List.take_zero, qs_nil]
   exact form_zero (fun i j hi hj => by unfold mat; rw [ea i hi, z0 j hj]) f x
  ·rw [List.take_zero, qs_nil]
   exact lin_zero (fun i hi => z0 i hi) f
  ·rw [List.take_zero, qs_nil]
   exact lin_zero (fun i hi => z0 i hi) f
  rintro ⟨b, us, vs, y⟩ ⟨j, rfl, hj, hb, e1, e2, e3⟩
  simp only at hb e1 e2 e3 ⊢
  unfold P_place_system_L8
  dsimp only
  refine ok_ite (fun hlt => ?_) fun hge => ok_some ⟨hb.mono (by omega), fun f x => by simp only; rw [e1, qs_take_all _ (by omega)], fun f => by simp only; rw [e2, qs_take_all _ (by omega)], fun f => by simp only; rw [e3, qs_take_all _ (by omega)]⟩
  have hp := h.all _ (gt_mem (i := (j : Int)) (xs := l) ⟨by omega, hlt⟩)
  have hq : ∀ g : T_place_Pull → Rat, qs (l.take (j + 1)) g = qs (l.take j) g + g (gt l (j : Int)) := qs_take l (by omega)
  refine ok_ck ⟨by omega, hlt⟩ (ok_lv ?_)
  generalize gt l (j : Int) = p at hp hq
  refine ok_bd (L12_ok hp hb (by omega)) ?_
  rintro ⟨a2, x2, y2⟩ ⟨t0, t1, t2, t3⟩
  simp only [List.take_length] at t0 t1 t2 t3
  refine ok_ar (by omega) (ok_some ⟨⟨j + 1, by simp only; omega, by omega, t0.mono (by omega), fun f x => ?_, fun f => ?_, fun f => ?_⟩, by simp only; omega⟩)
  ·simp only; rw [t1, e1, hq]
  ·simp only; rw [t2, e2, hq]
  ·simp only; rw [t3, e3, hq]
 rintro ⟨b, us, vs⟩ ⟨hb, e1, e2, e3⟩
 simp only at hb e1 e2 e3
 have key : ∀ (g : T_floor_Point → Int) (f x : Int → Rat), work (nets g l) x f = (qs l fun p => (p.Weight : Rat) * qs p.Cells fun c => f c * cellT p x c) - qs l fun p => (p.Weight : Rat) * qs p.Cells fun c => f c * qs p.At fun q => ((g q : Int) : Rat) := by
  intro g f x
  unfold work nets
  rw [qs_map, ← qs_sub]
  refine qs_congr fun p _ => ?_
  simp only
  rw [show ∀ A B : Rat, (p.Weight : Rat) * A - (p.Weight : Rat) * B = (p.Weight : Rat) * (A - B) by intro A B; grind, ← qs_sub]
  congr 1
  refine qs_congr fun c _ => ?_
  unfold Net.g cellT
  simp only
  rw [List.length_map, qs_map]
  grind
 refine ok_some ⟨hb, fun f x => ?_, fun f x => ?_⟩
 ·simp only; rw [key, e1, e2]; grind
 ·simp only; rw [key, e1, e3]; grind
end
end Go.Proofs.Ytfkncjfpgflafaa.X
namespace Go.Proofs.Ytfkncjfpgflafaa.X
open Go Go.RowKit
set_option linter.unusedVariables false
set_option linter.unusedSimpArgs false
theorem pow_pulls {n : Nat} (hn : n ≤ 8) : (n * 67200) ^ n < 4294967296 ^ 5 := by
 have h1 : (n * 67200) ^ n ≤ (8 * 67200) ^ n := Nat.pow_le_pow_left (by omega) _
 have h2 : (8 * 67200) ^ n ≤ (8 * 67200) ^ 8 := Nat.pow_le_pow_right (by decide) hn
 have h3 : (8 * 67200) ^ 8 < 4294967296 ^ 5 := by decide +kernel
 exact Nat.lt_of_le_of_lt (Nat.le_trans h1 h2) h3
/-- Places that are fractions over two common divisors. -/
structure Spots (n : Nat) (out : List T_place_Spot) (X Y : Nat → Int) (D G : Int) : Prop where
 len : out.length = n
 D0 : D ≠ 0
 G0 : G ≠ 0
 DL : dlen D ≤ 5
 GL : dlen G ≤ 5
 XL : ∀ i, i < n → dlen (X i) ≤ 5
 YL : ∀ i, i < n → dlen (Y i) ≤ 5
 out : ∀ i : Nat, i < n → gt out (i : Int) = ⟨rt (frac X D (i : Int)), rt (frac Y G (i : Int))⟩
theorem frac_nat (X : Nat → Int) (D : Int) (i : Nat) : frac X D (i : Int) = Rat.divInt (X i) D := by unfold frac; rw [Int.toNat_natCast]
section
variable {n : Nat} {l : List T_place_Pull} (h : PullsOk n l) (hn : n ≤ 8) (hn1 : 1 ≤ n)
include h
theorem nets_w (g : T_floor_Point → Int) : ∀ p ∈ nets g l, 0 < p.w := by
 intro p hp
 obtain ⟨q, hq, rfl⟩ := List.mem_map.1 hp
 have := (h.all q hq).w1
 have w : (0 : Int) < q.Weight := by omega
 show (0 : Rat) < (q.Weight : Rat)
 exact_mod_cast w
theorem nets_held (g : T_floor_Point → Int) : HeldN (n : Int) (nets g l) := held_nets h g
include hn hn1
theorem PSolve_ok : Ok (P_place_Solve (n : Int) l) (fun r => r.2 = 0 ∧ ∃ X Y D G, Spots n r.1 X Y D G ∧ (∀ f, work (nets (·.X) l) (frac X D) f = 0) ∧ ∀ f, work (nets (·.Y) l) (frac Y G) f = 0) := by
 unfold P_place_Solve
 refine ok_bd (PCheck_ok h hn) ?_
 rintro _ rfl
 refine ok_f (by simp) (ok_bd (held_ok h hn) ?_)
 rintro _ rfl
 refine ok_f (by simp) (ok_bd (system_ok h hn) ?_)
 rintro ⟨a, xs, ys⟩ ⟨hb, e1, e2⟩
 simp only at hb e1 e2 ⊢
 have hd : det n (mat a) ≠ 0 := held_det (nets_w h (·.X)) (nets_held h (·.X)) rfl e1
 refine ok_bd (Solve_ok hb.sq (by omega) hn1 (by omega) (by omega) (pow_pulls hn) (by omega) hb.lx hb.bx) ?_
 rintro ⟨o1, c1⟩ ⟨-, s1⟩
 obtain ⟨s1, D, X, s2⟩ := s1 hd
 simp only at s1 s2 ⊢
 subst s1
 refine ok_f (by simp) (ok_bd (Solve_ok hb.sq (by omega) hn1 (by omega) (by omega) (pow_pulls hn) (by omega) hb.ly hb.by_) ?_)
 rintro ⟨o2, c2⟩ ⟨-, t1⟩
 obtain ⟨t1, G, Y, t2⟩ := t1 hd
 simp only at t1 t2 ⊢
 subst t1
 refine ok_f (by simp) (ok_bd (R := fun o => Spots n o X Y D G) ?_ ?_)
 ·have l1 := s2.len
  have l2 := t2.len
  refine ok_lp (fun s => ∃ j : Nat, s.2 = (j : Int) ∧ j ≤ n ∧ s.1.length = j ∧ ∀ i : Nat, i < j → gt s.1 (i : Int) = ⟨rt (frac X D (i : Int)), rt (frac Y G (i : Int))⟩) (fun s => ((n : Int) - s.2).toNat)
   ⟨0, rfl, Nat.zero_le _, rfl, fun i hi => by omega⟩ (by simp only; omega) ?_
  rintro ⟨out, y⟩ ⟨j, rfl, hj, l3, e3⟩
  simp only at l3 e3 ⊢
  unfold P_place_Solve_L15
  dsimp only
  refine ok_ite (fun hlt => ?_) fun hge => ok_some ⟨by omega, s2.D0, t2.D0, s2.DL, t2.DL, s2.XL, t2.XL, fun i hi => e3 i (by omega)⟩
  refine ok_ck ⟨by omega, by omega⟩ (ok_lv (ok_ck ⟨by omega, by omega⟩ (ok_lv (ok_lv (ok_ck (by simp only [apOk, List.length_append, List.length_singleton]; omega) (ok_ar (by omega) (ok_some ⟨⟨j + 1, by simp only; omega, by omega, by simp only [List.length_append, List.length_singleton]; omega, fun i hi => ?_⟩, by simp only; omega⟩)))))))
  simp only
  by_cases q : i = j
  ·subst q
   rw [gt_app_1 (by omega), s2.out i (by omega), t2.out i (by omega), frac_nat, frac_nat]
  ·rw [gt_app_l (by omega)]; exact e3 i (by omega)
 rintro o ho
 refine ok_some ⟨rfl, X, Y, D, G, ho, fun f => ?_, fun f => ?_⟩
 ·have := form_sol s2.D0 s2.eqn f
  have := e1 f (frac X D)
  grind
 ·have := form_sol t2.D0 t2.eqn f
  have := e2 f (frac Y G)
  grind
end
theorem Diff_ok {p q : Rat} (hp : rsz p ≤ 2048) (hq : rsz q ≤ 2048) (h : rsz (p - q) ≤ 2048) : Ok (P_exact_Diff (rt p) (rt q)) (fun r => r = (rt (p - q), 0)) := by
 have h3 := rsz_num q
 unfold P_exact_Diff
 rw [rt_num]
 simp only [big_eta]
 refine ok_bd (Neg_ok (by omega)) ?_
 rintro _ rfl
 have e : T_exact_Ratio.mk (big (-q.num)) (T_exact_Int.mk (rt q).Den.fneg (rt q).Den.fmag) = rt (-q) := by
  unfold rt
  rw [Rat.neg_num, Rat.neg_den]
 rw [e]
 have en : rsz (-q) = rsz q := by
  unfold rsz
  rw [Rat.neg_num, Rat.neg_den, dlen_neg]
 refine ok_bd (Sum_ok hp (by omega) (by rw [← Rat.sub_eq_add_neg]; exact h)) ?_
 rintro _ rfl
 exact ok_some (by rw [← Rat.sub_eq_add_neg])
/-- What Compare tells. -/
theorem cmp_sign (p q : Rat) : ((p.num * q.den - q.num * p.den).sign = 0 ↔ p = q) ∧ ((p.num * q.den - q.num * p.den).sign < 0 ↔ p < q) := by
 have e : p < q ↔ p.num * q.den < q.num * p.den := Rat.lt_iff p q
 have e0 : p = q ↔ p.num * q.den = q.num * p.den := by
  constructor
  ·rintro rfl; rfl
  ·intro h
   have a1 : ¬ p < q := by rw [Rat.lt_iff]; omega
   have a2 : ¬ q < p := by rw [Rat.lt_iff]; omega
   exact Rat.le_antisymm (Rat.not_lt.1 a2) (Rat.not_lt.1 a1)
 generalize p.num * q.den = u at e e0 ⊢
 generalize q.num * p.den = v at e e0 ⊢
 rw [e, e0]
 rcases Int.lt_trichotomy (u - v) 0 with s | s | s
 ·rw [Int.sign_eq_neg_one_of_neg s]; omega
 ·rw [s, Int.sign_zero]; omega
 ·rw [Int.sign_eq_one_of_pos s]; omega
end Go.Proofs.Ytfkncjfpgflafaa.X
