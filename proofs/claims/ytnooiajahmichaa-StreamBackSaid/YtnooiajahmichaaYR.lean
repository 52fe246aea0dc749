/- copy between two slices of one's own, of one cell an element. -/
import Derived.Test.YtnooiajahmichaaYJ
import Derived.Laws.IdiomCopy
namespace Go.Proofs.Ytnooiajahmichaa.X
open Go Go.RowKit
set_option linter.unusedVariables false
set_option linter.unusedSimpArgs false
set_option linter.unusedSectionVars false
def copyL {α : Type} (xs ys : List α) : List α := ys.take (min ys.length xs.length) ++ xs.drop (min ys.length xs.length)
theorem copyL_length {α : Type} (xs ys : List α) : (copyL xs ys).length = xs.length := by simp [copyL]; omega
theorem over_zero (news vs : List Value) (h : news.length ≤ vs.length) : over vs 0 news = news ++ vs.drop news.length := by
  have h1 := over_mid news [] (vs.take news.length) (vs.drop news.length) 0 (by simp; omega)
  have h2 := over_all news (vs.take news.length) 0 [] rfl (by simp; omega)
  simp only [List.nil_append, List.length_nil, Nat.add_zero, List.take_append_drop] at h1 h2
  rw [h1, h2]
section
variable {P : Program} {n : Nat} {R : Env → World → Prop} {st : List It} {E : Env} {w w0 : World} {all : Array Oper} {rest : List Oper} {l : List Assn}
variable {t ty : TypeId} {pos : String} {af : Array Edge} {x y : Operand} {α : Type} {Q : Rp α} {ρ : Heap}
theorem o_copy {d : Nat} {tt e : TypeId} {A1 A2 : Option Addr} {n1 c1 n2 c2 : Nat} {cs1 cs2 : List Value} {xs ys zz : List α} (hu : P.underlying t = some (.slice e)) (hsz : (P.info? e).map (·.size) = some 1) (hq : Q.sz = 1) (hx : ev E x = .slice A1 n1 c1) (hy : ev E y = .slice A2 n2 c2)
    (hS : St w0 w (vec e Q.sz (.slice A1 n1 c1) n1 cs1 :: vec e Q.sz (.slice A2 n2 c2) n2 cs2 :: l)) (h1 : RepL Q ρ xs cs1) (h2 : RepL Q ρ ys cs2) (hzz : zz = copyL xs ys)
    (h : ∀ cs' w', RepL Q ρ zz cs' → St w0 w' (vec e Q.sz (.slice A1 n1 c1) n1 cs' :: vec e Q.sz (.slice A2 n2 c2) n2 cs2 :: l) → S P n R (.ops all rest :: st) (E.set d (.int .i64 ((min ys.length xs.length : Nat) : Int))) w') (hd : Nat.blt d n = true := by rfl) :
    S P n R (.ops all (⟨some d, .call { callee := .builtin .copy, args := #[x, y], argTypes := #[t, tt] }, ty, pos, af, none⟩ :: rest) :: st) E w := by
  have l1 := hS.vec_slice.1
  have l2 := (hS.pull 1).vec_slice.1
  have e1 := hS.vec_n h1
  have e2 := (hS.pull 1).vec_n h2
  rw [hq, Nat.mul_one] at l1 l2
  by_cases m0 : Nat.min n2 n1 = 0
  · have hmin : min ys.length xs.length = 0 := by rw [← e1, ← e2]; exact m0
    rw [hmin] at h
    have hrun := run_copy_none (P := P) w t tt ty e A1 A2 n1 c1 n2 c2 hu hsz m0
    refine o_val rfl (by exact hd) (v := goInt 0) (w' := w) ?_ (h cs1 w ?_ hS)
    · simp [execOp, resolve, invoke, builtin, hx, hy, hrun]
    · rw [hzz]; unfold copyL; rw [hmin]; simpa using h1
  · rcases hS.vec_base with ⟨_, _, hz, _⟩ | ⟨g, hg⟩
    · exact absurd (by rw [hz]; exact Nat.min_zero _) m0
    rcases (hS.pull 1).vec_base with ⟨_, _, hz, _⟩ | ⟨g2, hg2⟩
    · exact absurd (by rw [hz]; exact Nat.zero_min _) m0
    subst hg hg2
    have hm1 : Nat.min n2 n1 ≤ n1 := Nat.min_le_right _ _
    have hm2 : Nat.min n2 n1 ≤ n2 := Nat.min_le_left _ _
    have hlen : (cs2.take (Nat.min n2 n1)).length = Nat.min n2 n1 := by rw [List.length_take]; omega
    obtain ⟨cur, k1, k2, k3, k4, hS2⟩ := hS.vec_open
    rw [hq, Nat.mul_one] at k3 k4
    have hrun := run_copy_cells (P := P) w t tt ty e g 0 n1 c1 ⟨g2, 0, none⟩ n2 c2 (cs2.take (Nat.min n2 n1)) hu hsz hlen (fun j v hj => by
      have hj2 : cs2[j]? = some v := by
        rw [List.getElem?_take] at hj
        split at hj
        · exact hj
        · cases hj
      obtain ⟨a, ha, hc⟩ := (hS.pull 1).vec_cell hj2
      cases ha
      exact hc) (fun j hj => by
      rw [hlen] at hj
      have := hS2.cell (i := 0 + j) (v := cur[0 + j]'(by omega)) (by simp)
      rw [this]; rfl) (fun j hj => hS2.unfrozen _) (fun v hv => h2.one v (List.mem_of_mem_take hv))
    have hS3 := (St.sets (news := cs2.take (Nat.min n2 n1)) (o := 0) hS2).vec_close (n := n1) (c := c1) (sz := 1) k1 k2 (by rw [over_length, k3, Nat.mul_one])
    rw [over_take, Nat.mul_one, k4, over_zero _ _ (by rw [hlen]; omega), hlen] at hS3
    have hmin : min ys.length xs.length = (cs2.take (Nat.min n2 n1)).length := by rw [hlen, ← e1, ← e2]
    rw [hmin] at h
    refine o_val rfl (by exact hd) (v := goInt (cs2.take (Nat.min n2 n1)).length) (w' := w.setCells g 0 (cs2.take (Nat.min n2 n1))) ?_ (h _ _ ?_ (by rw [hq] at hS3 ⊢; exact hS3))
    · simp [execOp, resolve, invoke, builtin, hx, hy, hrun]
    · have p1 := RepL.part 0 (Nat.min n2 n1) h2
      have p2 := RepL.part (Nat.min n2 n1) xs.length h1
      rw [hq] at p1 p2
      simp only [Nat.mul_one, List.drop_zero, Nat.zero_mul] at p1 p2
      rw [List.take_of_length_le (by simp), List.take_of_length_le (by simp; omega)] at p2
      rw [hzz]; unfold copyL
      rw [show min ys.length xs.length = Nat.min n2 n1 by rw [e1, e2]]
      exact p1.app p2
end
end Go.Proofs.Ytnooiajahmichaa.X
