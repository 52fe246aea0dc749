/- Sums of areas, in any order. Plain. -/
import Derived.Test.YtfkncjfpgflafaaDoorNO
namespace Go.Proofs.YtfkncjfpgflafaaDoor.X
open Go Go.RowKit
set_option linter.unusedVariables false
set_option linter.unusedSimpArgs false
def isum : List Int → Int
  | [] => 0
  | x :: l => x + isum l
theorem isum_app (l : List Int) (x : Int) : isum (l ++ [x]) = isum l + x := by
  induction l with
  | nil => simp [isum]
  | cons a l ih => rw [List.cons_append, isum, isum, ih]; omega
theorem isum_perm {l l' : List Int} (h : l.Perm l') : isum l = isum l' := by
  induction h with
  | nil => rfl
  | cons a _ ih => rw [isum, isum, ih]
  | swap a b l => rw [isum, isum, isum, isum]; omega
  | trans _ _ h1 h2 => rw [h1, h2]
/-- The sum of the first elements. -/
def dsum (l : List Int) : Nat → Int
  | 0 => 0
  | k + 1 => dsum l k + gt l k
theorem dsum_take (l : List Int) : ∀ k : Nat, k ≤ l.length → dsum l k = isum (l.take k)
  | 0, _ => by simp [dsum, isum]
  | k + 1, h => by
    have hb : inb (k : Int) l.length := ⟨by omega, by omega⟩
    rw [dsum, dsum_take l k (by omega), List.take_succ_eq_append_getElem (by omega), isum_app, gt_get hb]
    simp
theorem dsum_all (l : List Int) : dsum l l.length = isum l := by
  rw [dsum_take l _ (Nat.le_refl _), List.take_length]
theorem dsum_le {l : List Int} (h : ∀ k : Int, 0 ≤ k → k < l.length → 0 ≤ gt l k) {a : Nat} : ∀ {b : Nat}, a ≤ b → b ≤ l.length → dsum l a ≤ dsum l b
  | 0, h1, _ => by rw [show a = 0 by omega]; exact Int.le_refl _
  | b + 1, h1, h2 => by
    by_cases e : a = b + 1
    · rw [e]; exact Int.le_refl _
    · have ih := dsum_le h (a := a) (b := b) (by omega) (by omega)
      have := h b (by omega) (by omega)
      rw [dsum]; omega
theorem dsum_s {l : List Int} {y z : Int} (h0 : 0 ≤ y) (hz : z = y + 1) : dsum l z.toNat = dsum l y.toNat + gt l y := by
  rw [hz, show (y + 1).toNat = y.toNat + 1 by omega]
  rw [dsum, show ((y.toNat : Nat) : Int) = y by omega]
theorem gt_map' {g : Int → Int} {l : List Int} {k : Int} (h : inb k l.length) : gt (l.map g) k = g (gt l k) := by
  rw [gt_get h, gt_get (by rw [List.length_map]; exact h), List.getElem_map]
theorem order_sum {n : Nat} {area d ord : List Int} (la : area.length = n) (hd : Idn n d) (hk : Kept d ord) : isum (ord.map (gt area)) = isum area := by
  rw [isum_perm (hk.1.map (gt area))]
  have dl := hd.len
  rw [ext_gt (xs := d.map (gt area)) (ys := area) (by rw [List.length_map]; omega) fun j j0 j1 => by
    rw [List.length_map] at j1
    rw [gt_map' ⟨j0, j1⟩, hd.at_ j j0 (by omega)]]
end Go.Proofs.YtfkncjfpgflafaaDoor.X
