/- The pulls that the laws draw; Check and held of them. Plain. -/
import Derived.Test.YtfkncjfpgflafaaPF
import Derived.Test.YtfkncjfpgflafaaYQ
import Derived.Test.YtfkncjfpgflafaaCB
namespace Go.Proofs.Ytfkncjfpgflafaa.X
open Go Go.RowKit
set_option linter.unusedVariables false
set_option linter.unusedSimpArgs false
/-- A pull that is drawn. -/
structure PullOk (n : Nat) (p : T_place_Pull) : Prop where
  w1 : 1 ≤ p.Weight
  w5 : p.Weight ≤ 5
  cs : ∀ c ∈ p.Cells, 0 ≤ c ∧ c < n
  nd : p.Cells.Nodup
  cl : p.Cells.length ≤ 8
  al : p.At.length ≤ 2
  pt : ∀ q ∈ p.At, -60 ≤ q.X ∧ q.X ≤ 60 ∧ -60 ≤ q.Y ∧ q.Y ≤ 60
def HeldP (l : List T_place_Pull) (c : Int) : Prop := ∃ p ∈ l, c ∈ p.Cells ∧ (p.At ≠ [] ∨ ∃ d ∈ p.Cells, 0 ≤ d ∧ d < c)
theorem HeldP.app {l : List T_place_Pull} {c : Int} (h : HeldP l c) (p : T_place_Pull) : HeldP (l ++ [p]) c := by
  obtain ⟨q, hq, r⟩ := h
  exact ⟨q, by simp [hq], r⟩
structure PullsOk (n : Nat) (l : List T_place_Pull) : Prop where
  all : ∀ p ∈ l, PullOk n p
  len : l.length ≤ 12
  held : ∀ c : Int, 0 ≤ c → c < n → HeldP l c
section
variable {L : List Int} (hL : Strm L) {k : Int} {n : Nat} (hk : Few (k + 1000)) (hk0 : 0 ≤ k) (hn : n ≤ 8)
include hL hk hk0 hn
theorem pulls_ok : Ok (P_maskkeep4_pulls (T_maskmake_Stream.mk L k) (n : Int)) (fun r => PullsOk n r.1 ∧ (∀ p ∈ r.1, ∀ q ∈ p.At, 0 ≤ q.X ∧ 0 ≤ q.Y) ∧ k ≤ r.2 ∧ r.2 ≤ k + 200) := by
  unfold P_maskkeep4_pulls
  refine ok_bd (R := fun s => (∀ p ∈ s.1, PullOk n p) ∧ (∀ p ∈ s.1, ∀ q ∈ p.At, 0 ≤ q.X ∧ 0 ≤ q.Y) ∧ s.1.length = n ∧ (∀ c : Int, 0 ≤ c → c < n → HeldP s.1 c) ∧ k ≤ s.2 ∧ s.2 ≤ k + 32) ?_ ?_
  · refine ok_lp (fun s => ∃ m : Nat, s.2.1 = (m : Int) ∧ m ≤ n ∧ s.1.length = m ∧ (∀ p ∈ s.1, PullOk n p) ∧ (∀ p ∈ s.1, ∀ q ∈ p.At, 0 ≤ q.X ∧ 0 ≤ q.Y) ∧ (∀ c : Int, 0 ≤ c → c < m → HeldP s.1 c) ∧ k ≤ s.2.2 ∧ s.2.2 ≤ k + 4 * m) (fun s => ((n : Int) - s.2.1).toNat)
      ⟨0, rfl, Nat.zero_le _, rfl, fun p hp => by simp at hp, fun p hp => by simp at hp, fun c h0 h1 => by omega, by simp only; omega, by simp only; omega⟩ (by simp only; omega) ?_
    rintro ⟨out, y, q⟩ ⟨m, rfl, hm, l1, a1, b1, e1, q0, q1⟩
    simp only at l1 a1 b1 e1 q0 q1 ⊢
    unfold P_maskkeep4_pulls_L3
    dsimp only
    refine ok_ite (fun hlt => ?_) fun hge => ok_some ⟨a1, b1, by simp only; omega, fun c h0 h1 => e1 c h0 (by omega), q0, by simp only; omega⟩
    refine ok_bd (hL.range (by omega) (by omega) (by omega) (by omega)) ?_
    rintro ⟨w, q2⟩ ⟨w0, w1, rfl⟩
    simp only at w0 w1 ⊢
    refine ok_bd (hL.flip (by omega) (by omega)) ?_
    rintro ⟨b, q3⟩ e3
    simp only at e3 ⊢
    subst e3
    refine ok_lv (ok_bd (R := fun s : Int × List Int × List T_floor_Point => q ≤ s.1 ∧ s.1 ≤ q + 4 ∧ PullOk n ⟨w, s.2.1, s.2.2⟩ ∧ (∀ q ∈ s.2.2, 0 ≤ q.X ∧ 0 ≤ q.Y) ∧ (m : Int) ∈ s.2.1 ∧ (s.2.2 ≠ [] ∨ ∃ d ∈ s.2.1, 0 ≤ d ∧ d < (m : Int))) ?_ ?_)
    · refine ok_ite (fun hx => ?_) fun hx => ?_
      · refine ok_bd (hL.next (by omega) (by omega)) ?_
        rintro ⟨u, q4⟩ ⟨u0, u1, -, rfl⟩
        simp only at u0 u1 ⊢
        have u1 := u1 (by omega)
        refine ok_bd (hL.next (by omega) (by omega)) ?_
        rintro ⟨v, q5⟩ ⟨v0, v1, -, rfl⟩
        simp only at v0 v1 ⊢
        have v1 := v1 (by omega)
        refine ok_lv (ok_ck (by simp only [apOk, List.length_singleton]; omega) (ok_some ⟨by simp only; omega, by simp only; omega, ⟨w0, w1, fun c hc => ?_, by simp, by simp, by simp, fun p hp => ?_⟩, fun p hp => ?_, by simp, Or.inl (by simp)⟩))
        · simp at hc; omega
        · simp at hp; subst hp; simp only; omega
        · simp at hp; subst hp; simp only; omega
      · have hm0 : 1 ≤ m := by
          simp only [Bool.or_eq_true, decide_eq_true_eq] at hx
          omega
        refine ok_bd (hL.next (by omega) (by omega)) ?_
        rintro ⟨u, q4⟩ ⟨u0, u1, -, rfl⟩
        simp only at u0 u1 ⊢
        have u1 := u1 (by omega)
        refine ok_lv (ok_ck (by simp [apOk]) (ok_some ⟨by simp only; omega, by simp only; omega, ⟨w0, w1, fun c hc => ?_, ?_, by simp, by simp, fun p hp => by simp at hp⟩, fun p hp => by simp at hp, by simp, Or.inr ⟨u, by simp, u0, u1⟩⟩))
        · simp at hc; omega
        · simp; omega
    rintro ⟨q4, cs, at_⟩ ⟨r0, r1, hp, hp0, hc, hh⟩
    simp only at r0 r1 hp hp0 hc hh
    refine ok_lv (ok_ck (by simp only [apOk, List.length_append, List.length_singleton]; omega) (ok_ar (by omega) (ok_some ⟨⟨m + 1, by simp only; omega, by omega, by simp only [List.length_append, List.length_singleton]; omega, fun p h => ?_, fun p h => ?_, fun c h0 h1 => ?_, by simp only; omega, by simp only; omega⟩, by simp only; omega⟩)))
    · rcases List.mem_append.1 h with h | h
      · exact a1 p h
      · simp at h; subst h; exact hp
    · rcases List.mem_append.1 h with h | h
      · exact b1 p h
      · simp at h; subst h; exact hp0
    · by_cases e : c = m
      · subst e
        exact ⟨⟨w, cs, at_⟩, by simp, hc, hh⟩
      · exact (e1 c h0 (by omega)).app _
  rintro ⟨out, q⟩ ⟨a1, b1, l1, e1, q0, q1⟩
  simp only at a1 b1 l1 e1 q0 q1 ⊢
  refine ok_bd (hL.next (by omega) (by omega)) ?_
  rintro ⟨more, q2⟩ ⟨m0, m1, -, rfl⟩
  simp only at m0 m1 ⊢
  have m1 := m1 (by omega)
  refine ok_bd (R := fun s => (∀ p ∈ s.1, PullOk n p) ∧ (∀ p ∈ s.1, ∀ q ∈ p.At, 0 ≤ q.X ∧ 0 ≤ q.Y) ∧ s.1.length ≤ 12 ∧ (∀ c : Int, 0 ≤ c → c < n → HeldP s.1 c) ∧ k ≤ s.2 ∧ s.2 ≤ k + 200) ?_ ?_
  · refine ok_lp (fun s => ∃ m : Nat, s.2.1 = (m : Int) ∧ m ≤ 4 ∧ s.1.length = n + m ∧ (∀ p ∈ s.1, PullOk n p) ∧ (∀ p ∈ s.1, ∀ q ∈ p.At, 0 ≤ q.X ∧ 0 ≤ q.Y) ∧ (∀ c : Int, 0 ≤ c → c < n → HeldP s.1 c) ∧ k ≤ s.2.2 ∧ s.2.2 ≤ k + 33 + 20 * m) (fun s => (4 - s.2.1).toNat)
      ⟨0, rfl, Nat.zero_le _, l1, a1, b1, e1, by simp only; omega, by simp only; omega⟩ (by simp only; omega) ?_
    rintro ⟨out, y, p⟩ ⟨m, rfl, hm, l2, a2, b2, e2, p0, p1⟩
    simp only at l2 a2 b2 e2 p0 p1 ⊢
    unfold P_maskkeep4_pulls_L12
    dsimp only
    refine ok_ite (fun hlt => ?_) fun hge => ok_some ⟨a2, b2, by simp only; omega, e2, p0, by simp only; omega⟩
    refine ok_bd (hL.range (by omega) (by omega) (by omega) (by omega)) ?_
    rintro ⟨w, q2⟩ ⟨w0, w1, rfl⟩
    simp only at w0 w1 ⊢
    refine ok_bd (R := fun s => p ≤ s.1 ∧ s.1 ≤ p + 9 ∧ (∀ c ∈ s.2, 0 ≤ c ∧ c < n) ∧ s.2.Nodup ∧ s.2.length ≤ 8) ?_ ?_
    · refine ok_lp (fun s => ∃ j : Nat, s.1 = (j : Int) ∧ j ≤ n ∧ p ≤ s.2.1 ∧ s.2.1 ≤ p + 1 + j ∧ (∀ c ∈ s.2.2, 0 ≤ c ∧ c < j) ∧ s.2.2.Nodup ∧ s.2.2.length ≤ j) (fun s => ((n : Int) - s.1).toNat)
        ⟨0, rfl, Nat.zero_le _, by simp only; omega, by simp only; omega, fun c hc => by simp at hc, List.nodup_nil, by simp⟩ (by simp only; omega) ?_
      rintro ⟨y, r, cs⟩ ⟨j, rfl, hj, r0, r1, c1, c2, c3⟩
      simp only at r0 r1 c1 c2 c3 ⊢
      unfold P_maskkeep4_pulls_L15
      dsimp only
      refine ok_ite (fun hlt => ?_) fun hge => ok_some ⟨by simp only; omega, by simp only; omega, fun c hc => by have := c1 c hc; omega, c2, by simp only; omega⟩
      refine ok_bd (hL.flip (by omega) (by omega)) ?_
      rintro ⟨b, r3⟩ e3
      simp only at e3 ⊢
      subst e3
      refine ok_bd (R := fun z : List Int => (∀ c ∈ z, 0 ≤ c ∧ c < j + 1) ∧ z.Nodup ∧ z.length ≤ j + 1) (ok_ite (fun hb => ?_) fun hb => ok_some ⟨fun c hc => by have := c1 c hc; omega, c2, by omega⟩) ?_
      · refine ok_lv (ok_ck (by simp only [apOk, List.length_append, List.length_singleton]; omega) (ok_some ⟨fun c hc => ?_, ?_, by simp only [List.length_append, List.length_singleton]; omega⟩))
        · rcases List.mem_append.1 hc with h | h
          · have := c1 c h; omega
          · simp at h; omega
        · refine List.nodup_append.2 ⟨c2, by simp, fun a ha b hb => ?_⟩
          have := c1 a ha
          simp at hb
          omega
      rintro z ⟨z1, z2, z3⟩
      exact ok_ar (by omega) (ok_some ⟨⟨j + 1, by simp only; omega, by omega, by simp only; omega, by simp only; omega, fun c hc => by have := z1 c hc; omega, z2, z3⟩, by simp only; omega⟩)
    rintro ⟨r, cs⟩ ⟨r0, r1, c1, c2, c3⟩
    simp only at r0 r1 c1 c2 c3 ⊢
    refine ok_bd (hL.next (by omega) (by omega)) ?_
    rintro ⟨t, r2⟩ ⟨t0, t1, -, rfl⟩
    simp only at t0 t1 ⊢
    have t1 := t1 (by omega)
    refine ok_bd (R := fun s => p ≤ s.1 ∧ s.1 ≤ p + 14 ∧ s.2.length ≤ 2 ∧ ∀ q ∈ s.2, 0 ≤ q.X ∧ q.X ≤ 60 ∧ 0 ≤ q.Y ∧ q.Y ≤ 60) ?_ ?_
    · refine ok_lp (fun s => ∃ j : Nat, s.1 = (j : Int) ∧ j ≤ 2 ∧ p ≤ s.2.1 ∧ s.2.1 ≤ p + 10 + 2 * j ∧ s.2.2.length = j ∧ ∀ q ∈ s.2.2, 0 ≤ q.X ∧ q.X ≤ 60 ∧ 0 ≤ q.Y ∧ q.Y ≤ 60) (fun s => (2 - s.1).toNat)
        ⟨0, rfl, Nat.zero_le _, by simp only; omega, by simp only; omega, rfl, fun c hc => by simp at hc⟩ (by simp only; omega) ?_
      rintro ⟨y, s, at_⟩ ⟨j, rfl, hj, s0, s1, l3, h3⟩
      simp only at s0 s1 l3 h3 ⊢
      unfold P_maskkeep4_pulls_L21
      dsimp only
      refine ok_ite (fun hlt => ?_) fun hge => ok_some ⟨by simp only; omega, by simp only; omega, by simp only; omega, h3⟩
      refine ok_bd (hL.next (by omega) (by omega)) ?_
      rintro ⟨u, q4⟩ ⟨u0, u1, -, rfl⟩
      simp only at u0 u1 ⊢
      have u1 := u1 (by omega)
      refine ok_bd (hL.next (by omega) (by omega)) ?_
      rintro ⟨v, q5⟩ ⟨v0, v1, -, rfl⟩
      simp only at v0 v1 ⊢
      have v1 := v1 (by omega)
      refine ok_lv (ok_ck (by simp only [apOk, List.length_append, List.length_singleton]; omega) (ok_ar (by omega) (ok_some ⟨⟨j + 1, by simp only; omega, by omega, by simp only; omega, by simp only; omega, by simp only [List.length_append, List.length_singleton]; omega, fun q hq => ?_⟩, by simp only; omega⟩)))
      rcases List.mem_append.1 hq with h | h
      · exact h3 q h
      · simp at h; subst h; simp only; omega
    rintro ⟨s, at_⟩ ⟨s0, s1, l3, h3⟩
    simp only at s0 s1 l3 h3
    refine ok_lv (ok_ck (by simp only [apOk, List.length_append, List.length_singleton]; omega) (ok_ar (by omega) (ok_some ⟨⟨m + 1, by simp only; omega, by omega, by simp only [List.length_append, List.length_singleton]; omega, fun x h => ?_, fun x h => ?_, fun c h0 h1 => (e2 c h0 h1).app _, by simp only; omega, by simp only; omega⟩, by simp only; omega⟩)))
    · rcases List.mem_append.1 h with h | h
      · exact a2 x h
      · simp at h; subst h
        exact ⟨w0, w1, c1, c2, c3, l3, fun q hq => by have := h3 q hq; omega⟩
    · rcases List.mem_append.1 h with h | h
      · exact b2 x h
      · simp at h; subst h
        exact fun q hq => by have := h3 q hq; omega
  rintro ⟨out, q⟩ ⟨a2, b2, l2, e2, q0, q1⟩
  exact ok_some ⟨⟨a2, l2, e2⟩, b2, q0, q1⟩
end
theorem nodup_gt {l : List Int} (h : l.Nodup) {i j : Int} (hi : inb i l.length) (hj : inb j l.length) (hij : i < j) : gt l i ≠ gt l j := by
  rw [gt_get hi, gt_get hj]
  exact List.pairwise_iff_getElem.1 h _ _ _ _ (by have := hi.1; omega)
theorem mem_gt {α : Type} [Inhabited α] {l : List α} {x : α} (h : x ∈ l) : ∃ i : Int, inb i l.length ∧ gt l i = x := by
  obtain ⟨i, hi, e⟩ := List.getElem_of_mem h
  have hb : inb (i : Int) l.length := ⟨by omega, by omega⟩
  exact ⟨i, hb, by rw [gt_get hb]; simpa using e⟩
section
variable {n : Nat} {l : List T_place_Pull} (h : PullsOk n l) (hn : n ≤ 8)
include h hn
theorem PCheck_ok : Ok (P_place_Check (n : Int) l) (fun r => r = 0) := by
  have hlen := h.len
  unfold P_place_Check
  refine ok_f (by omega) (ok_lv (ok_f ?_ (ok_bs1 (R := fun _ => True) ?_ fun _ _ => ok_some rfl)))
  · simp only [Bool.or_eq_true, decide_eq_true_eq]; omega
  refine ok_lp (fun y => 0 ≤ y ∧ y ≤ l.length) (fun y => ((l.length : Int) - y).toNat) ⟨by omega, by omega⟩ (by omega) ?_
  rintro y ⟨y0, y1⟩
  unfold P_place_Check_L6
  refine ok_ite (fun hlt => ?_) fun _ => ok_some ⟨(), rfl, trivial⟩
  have hp := h.all _ (gt_mem (i := y) (xs := l) ⟨y0, hlt⟩)
  generalize gt l y = p at hp
  have p1 := hp.w1
  have p2 := hp.w5
  have p3 := hp.cl
  have p4 := hp.al
  refine ok_ck ⟨y0, hlt⟩ (ok_lv (ok_lv (ok_f ?_ (ok_lv (ok_f ?_ (ok_ck (by simp only [mkOk]; omega) (ok_lv (ok_bs1 (R := fun _ => True) ?_ fun _ _ => ok_bs1 (R := fun _ => True) ?_ fun _ _ => ok_ar (by omega) (ok_some ⟨⟨by omega, by omega⟩, by omega⟩)))))))))
  · simp only [Bool.or_eq_true, decide_eq_true_eq]; omega
  · simp only [Bool.or_eq_true, decide_eq_true_eq]; omega
  · refine ok_lp (fun s => s.1.length = n ∧ 0 ≤ s.2 ∧ s.2 ≤ p.Cells.length ∧ ∀ d : Int, 0 ≤ d → d < n → gt s.1 d = true → ∃ j : Int, 0 ≤ j ∧ j < s.2 ∧ gt p.Cells j = d) (fun s => ((p.Cells.length : Int) - s.2).toNat)
      ⟨by simp, by simp only; omega, by simp only; omega, fun d d0 d1 e => by rw [gt_rep ⟨d0, by simp; omega⟩] at e; cases e⟩ (by simp only; omega) ?_
    rintro ⟨seen, z⟩ ⟨l1, z0, z1, e1⟩
    simp only at l1 z0 z1 e1 ⊢
    unfold P_place_Check_L14
    dsimp only
    refine ok_ite (fun hz => ?_) fun _ => ok_some ⟨(), rfl, trivial⟩
    have hc := hp.cs _ (gt_mem (i := z) (xs := p.Cells) ⟨z0, hz⟩)
    refine ok_ck ⟨z0, hz⟩ (ok_lv (ok_lv (ok_f ?_ (ok_ck ⟨hc.1, by omega⟩ (ok_lv (ok_f ?_ (ok_ck ⟨hc.1, by omega⟩ (ok_lv (ok_ar (by omega) (ok_some ⟨⟨by rw [stt_length]; exact l1, by simp only; omega, by simp only; omega, fun d d0 d1 e => ?_⟩, by simp only; omega⟩))))))))))
    · simp only [Bool.or_eq_true, decide_eq_true_eq]; omega
    · intro e
      obtain ⟨j, j0, j1, e2⟩ := e1 _ hc.1 hc.2 e
      exact nodup_gt hp.nd ⟨j0, by omega⟩ ⟨z0, hz⟩ j1 e2
    · simp only at e ⊢
      rw [gt_stt _ _ ⟨hc.1, by omega⟩ d0] at e
      by_cases q : d = gt p.Cells z
      · exact ⟨z, z0, by omega, q.symm⟩
      · rw [if_neg q] at e
        obtain ⟨j, j0, j1, e2⟩ := e1 d d0 d1 e
        exact ⟨j, j0, by omega, e2⟩
  · refine ok_lp (fun z => 0 ≤ z ∧ z ≤ p.At.length) (fun z => ((p.At.length : Int) - z).toNat) ⟨by omega, by omega⟩ (by omega) ?_
    rintro z ⟨z0, z1⟩
    unfold P_place_Check_L23
    refine ok_ite (fun hz => ?_) fun _ => ok_some ⟨(), rfl, trivial⟩
    have hc := hp.pt _ (gt_mem (i := z) (xs := p.At) ⟨z0, hz⟩)
    refine ok_ck ⟨z0, hz⟩ (ok_lv (ok_bd (R := fun r => r = false) ?_ ?_))
    · unfold P_place_far
      refine ok_lv (ok_lv (ok_lv (ok_some ?_)))
      simp only [Bool.or_eq_false_iff, decide_eq_false_iff_not]
      omega
    rintro _ rfl
    exact ok_f (by simp) (ok_ar (by omega) (ok_some ⟨⟨by omega, by omega⟩, by omega⟩))
/-- What a net draws it draws wholly. -/
def Closed (f : List Bool) (p : T_place_Pull) : Prop := (p.At ≠ [] ∨ ∃ d ∈ p.Cells, gt f d = true) → ∀ c ∈ p.Cells, gt f c = true
omit hn in
theorem closed_all {f : List Bool} (hf : ∀ p ∈ l, Closed f p) : ∀ m : Nat, ∀ c : Int, 0 ≤ c → c < n → c.toNat ≤ m → gt f c = true := by
  intro m
  induction m with
  | zero =>
    intro c h0 h1 h2
    obtain ⟨p, hp, hc, hh⟩ := h.held c h0 h1
    refine hf p hp ?_ c hc
    rcases hh with q | ⟨d, hd, d0, d1⟩
    · exact Or.inl q
    · omega
  | succ m ih =>
    intro c h0 h1 h2
    obtain ⟨p, hp, hc, hh⟩ := h.held c h0 h1
    refine hf p hp ?_ c hc
    rcases hh with q | ⟨d, hd, d0, d1⟩
    · exact Or.inl q
    · exact Or.inr ⟨d, hd, ih d d0 (by omega) (by omega)⟩
omit hn in
theorem held_nets (g : T_floor_Point → Int) : HeldN (n : Int) (l.map fun p => Net.mk (p.Weight : Rat) p.Cells (p.At.map fun q => ((g q : Int) : Rat))) := by
  intro f hf
  have key : ∀ m : Nat, ∀ c : Int, 0 ≤ c → c < n → c.toNat ≤ m → f c = 0 := by
    intro m
    induction m with
    | zero =>
      intro c h0 h1 h2
      obtain ⟨p, hp, hc, hh⟩ := h.held c h0 h1
      obtain ⟨f1, f2⟩ := hf _ (List.mem_map_of_mem hp)
      rcases hh with q | ⟨d, hd, d0, d1⟩
      · exact f2 (fun e => q (by simpa using e)) c hc
      · omega
    | succ m ih =>
      intro c h0 h1 h2
      obtain ⟨p, hp, hc, hh⟩ := h.held c h0 h1
      obtain ⟨f1, f2⟩ := hf _ (List.mem_map_of_mem hp)
      rcases hh with q | ⟨d, hd, d0, d1⟩
      · exact f2 (fun e => q (by simpa using e)) c hc
      · rw [f1 c hc d hd]; exact ih d d0 (by omega) (by omega)
  exact fun c h0 h1 => key c.toNat c h0 h1 (Nat.le_refl _)
end
end Go.Proofs.Ytfkncjfpgflafaa.X
