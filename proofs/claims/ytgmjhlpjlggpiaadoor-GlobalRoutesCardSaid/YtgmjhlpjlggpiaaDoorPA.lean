/- The streams' numbers: Below, Next, Range. -/
/- Plain programs: rules that carry what follows into the branches. -/
import Derived.Test.YtgmjhlpjlggpiaaDoorYP
import Derived.Test.YtgmjhlpjlggpiaaDoorGA
namespace Go.Proofs.YtgmjhlpjlggpiaaDoor.X
open Go Go.RowKit
set_option linter.unusedVariables false
theorem Below_ok (x : Int) {n : Int} (hx : I64 x) (hn : n ≤ 4611686018427387904) : Ok (P_maskmake_Below x n) (fun r => 0 ≤ r ∧ (1 ≤ n → r < n) ∧ (n < 1 → r = 0)) := by
 unfold P_maskmake_Below
 refine ok_ite (fun h => ok_some (by omega)) fun h => ?_
 have h1 : Int.tmod x n < n := Int.tmod_lt_of_pos x (by omega)
 have h2 : -n < Int.tmod x n := by
  have := Int.lt_tmod_of_pos x (b := n) (by omega); omega
 refine ok_ck (by omega) (ok_lv' fun r hr => ?_)
 refine ok_bd (R := fun y => 0 ≤ y ∧ y < n) ?_ fun y hy => ok_some (by omega)
 exact ok_ite (fun h => ok_ar (by omega) (ok_some (by omega))) fun h => ok_some (by omega)
/-- The stream's numbers are counted; there are few. -/
abbrev Few (k : Int) : Prop := 0 ≤ k ∧ k ≤ 100000000
theorem Next_ok (s : T_maskmake_Stream) {n : Int} (hs : Few s.fat) (hn : n ≤ 4611686018427387904) (hL : ∀ i, inb i s.L.length → I64 (gt s.L i)) (hlen : s.L.length ≤ 1000000000000000) :
  Ok (P_maskmake_Stream_Next s n) (fun r => 0 ≤ r.1 ∧ (1 ≤ n → r.1 < n) ∧ (n < 1 → r.1 = 0) ∧ r.2 = s.fat + 1) := by
 unfold P_maskmake_Stream_Next
 obtain ⟨h0, h1⟩ := hs
 refine ok_ar' (by omega) fun x11 e11 => ok_ite (fun h => ?_) fun h => ?_
 ·refine ok_ar' (by omega) fun x24 e24 => ok_bd (Below_ok x24 (by omega) hn) fun r hr => ok_some ⟨hr.1, hr.2.1, hr.2.2, e11⟩
 ·have hp : (0 : Int) < s.L.length := by omega
  refine ok_ar' (by omega) fun x31 e31 => ok_ck h (ok_lv' fun x37 e37 => ok_ar' (by omega) fun x42 e42 => ok_ck h ?_)
  have hx0 : 0 ≤ x31 := by omega
  have hm0 := Int.tmod_nonneg (s.L.length : Int) hx0
  have hm1 := Int.tmod_lt_of_pos x31 hp
  have e43 : x42 = x31 := by omega
  subst e43
  have hd : Int.tdiv x42 s.L.length = x42 / s.L.length := Int.tdiv_eq_ediv_of_nonneg hx0
  have hq0 : 0 ≤ x42 / (s.L.length : Int) := Int.ediv_nonneg hx0 (by omega)
  have hq1 : x42 / (s.L.length : Int) ≤ x42 := Int.ediv_le_self _ hx0
  have hq2 : x42 / (s.L.length : Int) * s.L.length ≤ x42 := Int.ediv_mul_le _ (by omega)
  refine ok_ar' (by omega) fun x48 e48 => ok_ck (by unfold inb; omega) (ok_lv' fun x55 e55 => ?_)
  rw [hd] at e48
  refine ok_bd (Below_ok x55 (by rw [e55]; exact hL _ (by unfold inb; omega)) (by omega)) fun r1 hr1 => ok_ar' (by omega) fun x59 e59 => ?_
  have hmul : x48 * x59 = 7919 * x48 + x48 * x37 := by rw [e59, Int.mul_add]; omega
  have hm3 : 0 ≤ x48 * x37 := Int.mul_nonneg (by omega) (by omega)
  have hm4 : x48 * x37 ≤ x48 * s.L.length := Int.mul_le_mul_of_nonneg_left (by omega) (by omega)
  have hr2 := hr1.2.1 (by omega)
  rw [← e48] at hq2
  refine ok_ar' (by omega) fun x60 e60 => ok_ar' (by omega) fun x61 e61 => ok_bd (Below_ok x61 (by omega) hn) fun r hr => ok_some ⟨hr.1, hr.2.1, hr.2.2, e11⟩
/-- A stream whose list holds numbers. -/
structure Strm (L : List Int) : Prop where
 nums : ∀ i, inb i L.length → I64 (gt L i)
 few : L.length ≤ 1000000000000000
theorem Strm.next {L : List Int} (h : Strm L) {k n : Int} (hk : Few k) (hn : n ≤ 4611686018427387904) : Ok (P_maskmake_Stream_Next (T_maskmake_Stream.mk L k) n) (fun r => 0 ≤ r.1 ∧ (1 ≤ n → r.1 < n) ∧ (n < 1 → r.1 = 0) ∧ r.2 = k + 1) :=
 Next_ok ⟨L, k⟩ hk hn h.nums h.few
theorem Strm.range {L : List Int} (h : Strm L) {k a b : Int} (hk : Few k) (ha : -1000000000000 ≤ a) (hb : b ≤ 1000000000000) (hab : a ≤ b) : Ok (P_maskmake_Stream_Range (T_maskmake_Stream.mk L k) a b) (fun r => a ≤ r.1 ∧ r.1 ≤ b ∧ r.2 = k + 1) := by
 unfold P_maskmake_Stream_Range
 refine ok_f (by omega) (ok_ar' (by omega) fun x15 e15 => ok_ar' (by omega) fun x16 e16 => ?_)
 refine ok_bd (h.next hk (by omega)) fun r hr => ?_
 have := hr.2.1 (by omega)
 exact ok_ar' (by omega) fun x18 e18 => ok_some (by simp only; omega)
theorem Strm.flip {L : List Int} (h : Strm L) {k n : Int} (hk : Few k) (hn : n ≤ 4611686018427387904) : Ok (P_maskmake_Stream_Flip (T_maskmake_Stream.mk L k) n) (fun r => r.2 = k + 1) := by
 unfold P_maskmake_Stream_Flip
 exact ok_bd (h.next hk hn) fun r hr => ok_some hr.2.2.2
end Go.Proofs.YtgmjhlpjlggpiaaDoor.X
namespace Go.Proofs.YtgmjhlpjlggpiaaDoor.X
open Go Go.RowKit
set_option linter.unusedVariables false
section
variable {α β γ δ σ : Type} {Q : β → Prop}
theorem ok_bd_some {a : α} {k : α → Option β} (h : Ok (k a) Q) : Ok (bd (some a) k) Q := h
end
end Go.Proofs.YtgmjhlpjlggpiaaDoor.X
