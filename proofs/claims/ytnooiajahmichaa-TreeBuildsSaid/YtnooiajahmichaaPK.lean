/- tree.chunks. Plain. -/
import Derived.Test.YtnooiajahmichaaPJ
namespace Go.Proofs.Ytnooiajahmichaa.X
open Go Go.RowKit
set_option linter.unusedVariables false
/-- Chunk i of the numbers below n: those that fall to it, of the numbers below y. -/
def chunk (n m : Nat) (y : Nat) (i : Int) : List Int := (upto y).filter fun x => decide (x * m / n = i)
theorem chunk_length (n m y : Nat) (i : Int) : (chunk n m y i).length ≤ y := by
  unfold chunk
  exact Nat.le_trans (List.length_filter_le _ _) (by rw [upto_length]; exact Nat.le_refl _)
theorem chunks_ok {n : Nat} (h0 : 1 ≤ n) (h1 : n ≤ 1000) : Ok (P_tree_chunks_2 n) (fun r => r.length = (n + 7) / 8 ∧ ∀ i, inb i r.length → gt r i = chunk n ((n + 7) / 8) n i) := by
  unfold P_tree_chunks_2
  refine ok_ar' (by omega) fun x7 e7 => ok_ar' (by omega) fun x8 e8 => ok_ck (by omega) ?_
  have hd : Int.tdiv x8 8 = x8 / 8 := Int.tdiv_eq_ediv_of_nonneg (by omega)
  refine ok_ar' (by omega) fun x9 e9 => ok_ck ⟨by omega, by omega⟩ (ok_lv' fun z ez => ?_)
  have hm : x9 = (((n + 7) / 8 : Nat) : Int) := by omega
  subst hm
  generalize hmm : (n + 7) / 8 = m at *
  have hzl : z.length = m := by rw [ez]; simp
  refine ok_bd (R := fun r => r.length = m ∧ ∀ i, inb i r.length → gt r i = chunk n m n i) ?_ fun r hr => ok_some hr
  refine ok_lp (fun s => ∃ y : Nat, s.2 = y ∧ y ≤ n ∧ s.1.length = m ∧ ∀ i, inb i s.1.length → gt s.1 i = chunk n m y i) (fun s => ((n : Int) - s.2).toNat) ⟨0, rfl, by omega, hzl, fun i hi => ?_⟩ (by simp only; omega) ?_
  · simp only at hi ⊢
    rw [ez, gt_rep (by rw [hzl] at hi; simpa using hi)]; rfl
  rintro ⟨out, _⟩ ⟨y, rfl, hy, ho, hc⟩
  simp only at ho hc
  unfold P_tree_chunks_2_L4
  dsimp only
  refine ok_ite (fun hlt => ?_) fun hge => ok_some ⟨ho, fun i hi => by rw [hc i hi, show y = n by omega]⟩
  have hp0 : 0 ≤ (y : Int) * m := Int.mul_nonneg (by omega) (by omega)
  have hp1 : (y : Int) * m ≤ 1000 * 1000 := Int.mul_le_mul (by omega) (by omega) (by omega) (by omega)
  have hp2 : (y : Int) * m < n * m := by
    refine Int.mul_lt_mul_of_pos_right hlt (by omega)
  refine ok_ar' (by omega) fun x19 e19 => ok_ck (by omega) ?_
  have hq : Int.tdiv x19 n = x19 / n := Int.tdiv_eq_ediv_of_nonneg (by omega)
  have q0 : 0 ≤ x19 / (n : Int) := Int.ediv_nonneg (by omega) (by omega)
  have q1 : x19 / (n : Int) < m := Int.ediv_lt_of_lt_mul (by omega) (by rw [e19, Int.mul_comm (m : Int)]; exact hp2)
  refine ok_ar' (by omega) fun x21 e21 => ok_ck (by omega) (ok_ck ⟨by omega, by omega⟩ (ok_lv' fun g eg => ok_lv' fun z2 ez2 => ?_))
  have hin : inb x21 out.length := ⟨by omega, by omega⟩
  rw [hc x21 hin] at eg
  have hgl := chunk_length n m y x21
  have hzl2 : z2.length = g.length + 1 := by rw [ez2]; simp
  rw [← eg] at hgl
  refine ok_ck (by unfold apOk; omega) (ok_ck hin (ok_lv' fun z3 ez3 => ok_ar' (by omega) fun x ex => ok_some ⟨⟨y + 1, by simp only; omega, by omega, by simp only; rw [ez3, stt_length, ho], fun i hi => ?_⟩, by simp only; omega⟩))
  simp only at hi ⊢
  have hi' : inb i out.length := by rw [ez3, stt_length] at hi; exact hi
  have hs : chunk n m (y + 1) i = chunk n m y i ++ (if (y : Int) * m / n = i then [(y : Int)] else []) := by
    unfold chunk
    rw [upto_succ, List.filter_append]
    congr 1
    by_cases hyi : (y : Int) * m / n = i
    · rw [if_pos hyi]; simp [hyi]
    · rw [if_neg hyi]; simp [hyi]
  rw [ez3, gt_stt _ _ hin hi'.1, hs]
  by_cases e : i = x21
  · rw [if_pos e, ez2, eg, if_pos (by rw [e, e21, hq, e19]), e]
  · rw [if_neg e, hc i hi', if_neg (by rw [← e19, ← hq, ← e21]; exact fun h => e h.symm), List.append_nil]
end Go.Proofs.Ytnooiajahmichaa.X
