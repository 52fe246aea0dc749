/- held and system of drawn pulls. Plain. -/
import Derived.Test.YtfkncjfpgflafaaCC
import Derived.Test.YtfkncjfpgflafaaBI
namespace Go.Proofs.Ytfkncjfpgflafaa.X
open Go Go.RowKit
set_option linter.unusedVariables false
set_option linter.unusedSimpArgs false
/-- How many are not set. -/
def unset (f : List Bool) : Nat := f.countP fun b => !b
theorem unset_set : ∀ (f : List Bool) (i : Nat), (h : i < f.length) → f[i] = false → unset (f.set i true) + 1 = unset f := by
  intro f
  induction f with
  | nil => intro i h; simp at h
  | cons b f ih =>
    intro i h e
    cases i with
    | zero =>
      have : b = false := e
      subst this
      simp [unset]
    | succ i =>
      have := ih i (by simpa using h) (by simpa using e)
      simp only [unset, List.set_cons_succ, List.countP_cons] at this ⊢
      omega
theorem unset_stt {f : List Bool} {i : Int} (h : inb i f.length) (e : gt f i = false) : unset (stt f i true) + 1 = unset f := by
  rw [gt_get h] at e
  exact unset_set f i.toNat _ e
section
variable {n : Nat} {l : List T_place_Pull} (h : PullsOk n l) (hn : n ≤ 8)
include h hn
theorem held_ok : Ok (P_place_held (n : Int) l) (fun r => r = true) := by
  have hlen := h.len
  unfold P_place_held
  refine ok_ck (by simp only [mkOk]; omega) (ok_lv (ok_bd (R := fun f => f.length = n ∧ ∀ c : Int, 0 ≤ c → c < n → gt f c = true) ?_ ?_))
  · refine ok_lp (fun s => s.1.length = n ∧ (s.2 = false → ∀ p ∈ l, Closed s.1 p)) (fun s => bif s.2 then unset s.1 + 1 else 0) ⟨by simp, fun e => by cases e⟩ ?_ ?_
    · have : unset (List.replicate (n : Int).toNat false) ≤ n := by
        have := List.countP_le_length (p := fun b => !b) (l := List.replicate (n : Int).toNat false)
        unfold unset
        rw [List.length_replicate] at this
        omega
      simp only [cond_true]
      omega
    rintro ⟨f0, more⟩ ⟨l0, c0⟩
    simp only at l0 c0 ⊢
    unfold P_place_held_L3
    dsimp only
    refine ok_ite (fun hm => ?_) fun hm => ok_some ⟨l0, fun c h0 h1 => closed_all h (c0 (by simpa using hm)) c.toNat c h0 h1 (Nat.le_refl _)⟩
    refine ok_bd (R := fun s => s.1.length = n ∧ (s.2 = false → s.1 = f0 ∧ ∀ p ∈ l, Closed f0 p) ∧ (s.2 = true → unset s.1 < unset f0)) ?_ ?_
    · refine ok_lp (fun s => s.1.length = n ∧ 0 ≤ s.2.2 ∧ s.2.2 ≤ l.length ∧ (s.2.1 = false → s.1 = f0 ∧ ∀ j : Int, 0 ≤ j → j < s.2.2 → Closed f0 (gt l j)) ∧ (s.2.1 = true → unset s.1 < unset f0)) (fun s => ((l.length : Int) - s.2.2).toNat)
        ⟨l0, by simp only; omega, by simp only; omega, fun _ => ⟨rfl, fun j j0 j1 => by simp only at j1; omega⟩, fun e => by cases e⟩ (by simp only; omega) ?_
      rintro ⟨f, m, y⟩ ⟨l1, y0, y1, e1, e2⟩
      simp only at l1 y0 y1 e1 e2 ⊢
      unfold P_place_held_L6
      dsimp only
      refine ok_ite (fun hlt => ?_) fun hge => ok_some ⟨l1, fun e => ⟨(e1 e).1, fun p hp => ?_⟩, e2⟩
      · have hb : inb y l.length := ⟨y0, hlt⟩
        have hp := h.all _ (gt_mem hb)
        have e3 : ∀ j : Int, j = y → gt l j = gt l y := fun j e => by rw [e]
        refine ok_ck hb (ok_lv ?_)
        generalize gt l y = p at hp e3
        have p3 := hp.cl
        refine ok_bd (R := fun d : Bool => (p.At ≠ [] → d = true) ∧ ∀ c ∈ p.Cells, gt f c = true → d = true) ?_ ?_
        · refine ok_lp (fun s => 0 ≤ s.2 ∧ s.2 ≤ p.Cells.length ∧ (p.At ≠ [] → s.1 = true) ∧ ∀ j : Int, 0 ≤ j → j < s.2 → gt f (gt p.Cells j) = true → s.1 = true) (fun s => ((p.Cells.length : Int) - s.2).toNat)
            ⟨by simp only; omega, by simp only; omega, fun e => ?_, fun j j0 j1 => by simp only at j1; omega⟩ (by simp only; omega) ?_
          · have := List.length_pos_iff.2 e
            simp only [decide_eq_true_eq]; omega
          rintro ⟨d, z⟩ ⟨z0, z1, d1, d2⟩
          simp only at z0 z1 d1 d2 ⊢
          unfold P_place_held_L10
          dsimp only
          refine ok_ite (fun hz => ?_) fun hz => ok_some ⟨d1, fun c hc => ?_⟩
          · have hc := hp.cs _ (gt_mem (i := z) (xs := p.Cells) ⟨z0, hz⟩)
            refine ok_ck ⟨z0, hz⟩ (ok_lv (ok_ck (fun _ => ⟨hc.1, by omega⟩) (ok_lv (ok_lv (ok_ar (by omega) (ok_some ⟨⟨by simp only; omega, by simp only; omega, fun e => by simp [d1 e], fun j j0 j1 e => ?_⟩, by simp only; omega⟩))))))
            simp only at j1 ⊢
            by_cases q : j = z
            · subst q; simp [e]
            · simp [d2 j j0 (by omega) e]
          · obtain ⟨j, hj, rfl⟩ := mem_gt hc
            exact d2 j hj.1 (by have := hj.2; omega)
        rintro d ⟨d1, d2⟩
        refine ok_bd (R := fun s => s.1.length = n ∧ (s.2 = false → s.1 = f ∧ m = false ∧ (d = true → ∀ c ∈ p.Cells, gt f c = true)) ∧ (s.2 = true → unset s.1 < unset f0)) ?_ ?_
        · refine ok_lp (fun s => s.1.length = n ∧ 0 ≤ s.2.2 ∧ s.2.2 ≤ p.Cells.length ∧ (s.2.1 = false → s.1 = f ∧ m = false ∧ (d = true → ∀ j : Int, 0 ≤ j → j < s.2.2 → gt f (gt p.Cells j) = true)) ∧ (s.2.1 = true → unset s.1 < unset f0)) (fun s => ((p.Cells.length : Int) - s.2.2).toNat)
            ⟨l1, by simp only; omega, by simp only; omega, fun e => ⟨rfl, e, fun _ j j0 j1 => by simp only at j1; omega⟩, e2⟩ (by simp only; omega) ?_
          rintro ⟨g, mm, z⟩ ⟨l2, z0, z1, g1, g2⟩
          simp only at l2 z0 z1 g1 g2 ⊢
          unfold P_place_held_L15
          dsimp only
          refine ok_ite (fun hz => ?_) fun hz => ok_some ⟨l2, fun e => ⟨(g1 e).1, (g1 e).2.1, fun hd c hc => ?_⟩, g2⟩
          · have hc := hp.cs _ (gt_mem (i := z) (xs := p.Cells) ⟨z0, hz⟩)
            have hcb : inb (gt p.Cells z) g.length := ⟨hc.1, by omega⟩
            refine ok_ck ⟨z0, hz⟩ (ok_lv (ok_ck (fun _ => hcb) (ok_lv (ok_lv (ok_bd (R := fun s => s.1.length = n ∧ (s.2 = false → s.1 = f ∧ m = false ∧ (d = true → ∀ j : Int, 0 ≤ j → j < z + 1 → gt f (gt p.Cells j) = true)) ∧ (s.2 = true → unset s.1 < unset f0)) ?_ ?_)))))
            · refine ok_ite (fun hx => ok_ck hcb (ok_lv (ok_some ⟨by rw [stt_length]; exact l2, fun e => (by cases e), fun _ => ?_⟩))) fun hx => ok_some ⟨l2, fun e => ?_, g2⟩
              · simp only [Bool.and_eq_true, Bool.not_eq_true'] at hx
                have u := unset_stt hcb hx.2
                simp only
                cases hmm : mm with
                | true => have := g2 hmm; omega
                | false =>
                  obtain ⟨q1, q2, -⟩ := g1 hmm
                  have q3 := (e1 q2).1
                  rw [q1, q3] at u ⊢
                  omega
              · obtain ⟨q1, q2, q3⟩ := g1 e
                refine ⟨q1, q2, fun hd j j0 j1 => ?_⟩
                by_cases q : j = z
                · subst q
                  rw [hd, q1] at hx
                  simpa using hx
                · exact q3 hd j j0 (by omega)
            rintro ⟨g', mm'⟩ ⟨r1, r2, r3⟩
            exact ok_ar (by omega) (ok_some ⟨⟨r1, by simp only; omega, by simp only; omega, r2, r3⟩, by simp only; omega⟩)
          · obtain ⟨j, hj, rfl⟩ := mem_gt hc
            exact (g1 e).2.2 hd j hj.1 (by have := hj.2; omega)
        rintro ⟨g, mm⟩ ⟨l2, g1, g2⟩
        simp only at l2 g1 g2 ⊢
        refine ok_ar (by omega) (ok_some ⟨⟨l2, by simp only; omega, by simp only; omega, fun e => ?_, g2⟩, by simp only; omega⟩)
        obtain ⟨q1, q2, q3⟩ := g1 e
        obtain ⟨q4, q5⟩ := e1 q2
        refine ⟨q1.trans q4, fun j j0 j1 => ?_⟩
        simp only at j1
        by_cases q : j = y
        · rw [e3 j q]
          intro hd c hc
          rw [← q4]
          refine q3 ?_ c hc
          rcases hd with hd | ⟨c', hc', hd⟩
          · exact d1 hd
          · exact d2 c' hc' (by rw [q4]; exact hd)
        · exact q5 j j0 (by omega)
      · obtain ⟨j, hj, rfl⟩ := mem_gt hp
        exact (e1 e).2 j hj.1 (by have := hj.2; omega)
    rintro ⟨f, m⟩ ⟨l1, e1, e2⟩
    simp only at l1 e1 e2 ⊢
    subst hm
    refine ok_some ⟨⟨l1, fun e => ?_⟩, ?_⟩
    · obtain ⟨q1, q2⟩ := e1 e
      simp only
      rw [q1]; exact q2
    · simp only
      cases m with
      | true => have := e2 rfl; simp only [cond_true]; omega
      | false => simp
  rintro f ⟨l1, e1⟩
  refine ok_bs1 (R := fun _ => True) ?_ fun _ _ => ok_some rfl
  refine ok_lp (fun y => 0 ≤ y ∧ y ≤ n) (fun y => ((n : Int) - y).toNat) ⟨by omega, by omega⟩ (by omega) ?_
  rintro y ⟨y0, y1⟩
  unfold P_place_held_L22
  rw [List.length_replicate]
  refine ok_ite (fun hz => ?_) fun _ => ok_some ⟨(), rfl, trivial⟩
  refine ok_ck ⟨y0, by omega⟩ (ok_lv (ok_f ?_ (ok_ar (by omega) (ok_some ⟨⟨by omega, by omega⟩, by omega⟩))))
  rw [e1 y y0 (by omega)]
  simp
end
end Go.Proofs.Ytfkncjfpgflafaa.X
