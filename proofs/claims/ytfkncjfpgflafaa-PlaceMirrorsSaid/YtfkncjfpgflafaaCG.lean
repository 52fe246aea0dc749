/- PlaceMirrors: turned fixed points give turned places. Plain. -/
import Derived.Test.YtfkncjfpgflafaaCF
namespace Go.Proofs.Ytfkncjfpgflafaa.X
open Go Go.RowKit
set_option linter.unusedVariables false
set_option linter.unusedSimpArgs false
theorem places_ok : Ok P_maskkeep4_places (fun r => r = true) := ⟨true, by decide +kernel, rfl⟩
theorem take_map {α β : Type} [Inhabited α] (l : List α) {m : Nat} (h : m < l.length) (g : α → β) : (l.take (m + 1)).map g = (l.take m).map g ++ [g (gt l (m : Int))] := by
  rw [List.take_succ_eq_append_getElem h, List.map_append, gt_get (i := (m : Int)) ⟨by omega, by omega⟩]
  rfl
def mirP (b : T_floor_Point) : T_floor_Point := ⟨b.Y, 0 - b.X⟩
def mirN (p : T_place_Pull) : T_place_Pull := ⟨p.Weight, p.Cells, p.At.map mirP⟩
section
variable {n : Nat} {l : List T_place_Pull} (h : PullsOk n l)
include h
theorem mir_pulls : PullsOk n (l.map mirN) where
  all p hp := by
    obtain ⟨q, hq, rfl⟩ := List.mem_map.1 hp
    have a := h.all q hq
    refine ⟨a.w1, a.w5, a.cs, a.nd, a.cl, by show (q.At.map mirP).length ≤ 2; rw [List.length_map]; exact a.al, fun b hb => ?_⟩
    obtain ⟨c, hc, rfl⟩ := List.mem_map.1 hb
    have := a.pt c hc
    unfold mirP
    simp only
    omega
  len := by rw [List.length_map]; exact h.len
  held c h0 h1 := by
    obtain ⟨p, hp, hc, hh⟩ := h.held c h0 h1
    refine ⟨mirN p, List.mem_map_of_mem hp, hc, ?_⟩
    rcases hh with q | q
    · refine Or.inl fun e => q ?_
      have e' : p.At.map mirP = [] := e
      simpa using e'
    · exact Or.inr q
omit h in
theorem mir_X : nets (·.X) (l.map mirN) = nets (·.Y) l := by
  unfold nets
  rw [List.map_map]
  refine List.map_congr_left fun p _ => ?_
  show Net.mk _ _ ((p.At.map mirP).map _) = _
  rw [List.map_map]
  rfl
omit h in
theorem mir_Y : nets (·.Y) (l.map mirN) = (nets (·.X) l).map Net.neg := by
  unfold nets
  rw [List.map_map, List.map_map]
  refine List.map_congr_left fun p _ => ?_
  show Net.mk _ _ ((p.At.map mirP).map _) = Net.mk _ _ ((p.At.map _).map _)
  rw [List.map_map, List.map_map]
  congr 1
  refine List.map_congr_left fun b _ => ?_
  show ((0 - b.X : Int) : Rat) = -(b.X : Rat)
  rw [Int.zero_sub, Rat.intCast_neg]
theorem L7_ok (k : Int) : Ok (lp (P_maskkeep4_PlaceMirrors_L7 (l, k)) fuel ([], 0)) (fun r => r = l.map mirN) := by
  have hlen := h.len
  refine ok_lp (fun s => ∃ j : Nat, s.2 = (j : Int) ∧ j ≤ l.length ∧ s.1 = (l.take j).map mirN) (fun s => ((l.length : Int) - s.2).toNat) ⟨0, rfl, Nat.zero_le _, by simp⟩ (by simp only; omega) ?_
  rintro ⟨out, y⟩ ⟨j, rfl, hj, e⟩
  simp only at e ⊢
  subst e
  unfold P_maskkeep4_PlaceMirrors_L7
  dsimp only
  refine ok_ite (fun hlt => ?_) fun hge => ok_some (by rw [show j = l.length by omega, List.take_length])
  have hp := h.all _ (gt_mem (i := (j : Int)) (xs := l) ⟨by omega, hlt⟩)
  have hq := take_map l (m := j) (by omega) mirN
  refine ok_ck ⟨by omega, hlt⟩ (ok_lv ?_)
  generalize gt l (j : Int) = p at hp hq
  have hal := hp.al
  refine ok_bd (R := fun r => r = p.At.map mirP) ?_ ?_
  · refine ok_lp (fun s => ∃ i : Nat, s.1 = (i : Int) ∧ i ≤ p.At.length ∧ s.2 = (p.At.take i).map mirP) (fun s => ((p.At.length : Int) - s.1).toNat) ⟨0, rfl, Nat.zero_le _, by simp⟩ (by simp only; omega) ?_
    rintro ⟨y, o⟩ ⟨i, rfl, hi, e⟩
    simp only at e ⊢
    subst e
    unfold P_maskkeep4_PlaceMirrors_L11
    dsimp only
    refine ok_ite (fun hlt2 => ?_) fun hge => ok_some (by rw [show i = p.At.length by omega, List.take_length])
    have hb := hp.pt _ (gt_mem (i := (i : Int)) (xs := p.At) ⟨by omega, hlt2⟩)
    refine ok_ck ⟨by omega, hlt2⟩ (ok_lv (ok_ar (by omega) (ok_lv (ok_ck (by simp only [apOk, List.length_append, List.length_singleton, List.length_map, List.length_take]; omega) (ok_ar (by omega) (ok_some ⟨⟨i + 1, by simp only; omega, by omega, ?_⟩, by simp only; omega⟩))))))
    simp only
    rw [take_map p.At (by omega) mirP]
    rfl
  rintro _ rfl
  refine ok_lv (ok_ck (by simp only [apOk, List.length_append, List.length_singleton, List.length_map, List.length_take]; omega) (ok_ar (by omega) (ok_some ⟨⟨j + 1, by simp only; omega, by omega, ?_⟩, by simp only; omega⟩)))
  simp only
  rw [hq]
  rfl
end
theorem rsz_neg (q : Rat) : rsz (-q) = rsz q := by
  unfold rsz
  rw [Rat.neg_num, Rat.neg_den, dlen_neg]
theorem PlaceMirrors_ok {L : List Int} (hL : Strm L) : Ok (P_maskkeep4_PlaceMirrors L) (fun r => r = true) := by
  unfold P_maskkeep4_PlaceMirrors
  refine ok_bd (hL.range (by omega) (by omega) (by omega) (by omega)) ?_
  rintro ⟨n, q⟩ ⟨n0, n1, rfl⟩
  simp only at n0 n1 ⊢
  obtain ⟨n, rfl⟩ := Int.eq_ofNat_of_zero_le (show 0 ≤ n by omega)
  refine ok_bd (pulls_ok hL (by omega) (by omega) (by omega)) ?_
  rintro ⟨l, k⟩ ⟨hl, -, -, -⟩
  simp only at hl ⊢
  refine ok_bd (PSolve_ok hl (by omega) (by omega)) ?_
  rintro ⟨at_, e⟩ ⟨e0, X, Y, D, G, hs, w1, w2⟩
  simp only at e0 hs ⊢
  subst e0
  refine ok_bd (L7_ok hl k) ?_
  rintro _ rfl
  refine ok_bd (PSolve_ok (mir_pulls hl) (by omega) (by omega)) ?_
  rintro ⟨tu, f⟩ ⟨f0, X', Y', D', G', ht, v1, v2⟩
  simp only at f0 ht ⊢
  subst f0
  rw [mir_X] at v1
  rw [mir_Y] at v2
  have q1 := work_one (nets_w hl (·.Y)) (nets_held hl (·.Y)) v1 w2
  have q2 := work_one (neg_w (nets_w hl (·.X))) (neg_held (nets_held hl (·.X))) v2 (y := fun c => -frac X D c) (fun f => by rw [work_neg, w1]; grind)
  refine ok_bd places_ok ?_
  rintro _ rfl
  have a1 := hs.len
  have a2 := ht.len
  refine ok_lv (ok_lv (ok_lv (ok_lv (ok_f ?_ (ok_bs1 (R := fun _ => True) ?_ fun _ _ => ok_some rfl)))))
  · simp only [Bool.or_eq_true, decide_eq_true_eq, Bool.not_eq_true', ne_eq, not_true_eq_false, or_false, false_or]
    rw [a1, a2]
    simp
  refine ok_lp (fun y => 0 ≤ y ∧ y ≤ n) (fun y => ((n : Int) - y).toNat) ⟨by omega, by omega⟩ (by omega) ?_
  rintro y ⟨y0, y1⟩
  obtain ⟨i, rfl⟩ := Int.eq_ofNat_of_zero_le y0
  unfold P_maskkeep4_PlaceMirrors_L21
  rw [a1]
  refine ok_ite (fun hlt => ?_) fun hge => ok_some ⟨(), rfl, trivial⟩
  have hi : i < n := by omega
  refine ok_bd (Whole_ok (by omega)) ?_
  rintro _ rfl
  refine ok_ck ⟨by omega, by omega⟩ (ok_lv ?_)
  rw [hs.out i hi]
  have z1 := hs.szX hi
  have z2 := hs.szY hi
  have z3 := ht.szX hi
  have z4 := ht.szY hi
  have z0 := rsz_int 0
  have z00 : dlen 0 = 0 := dlen_zero
  refine ok_bd (Diff_ok (by omega) (by omega) ?_) ?_
  · have := rsz_add ((0 : Int) : Rat) (-frac X D (i : Int))
    rw [rsz_neg] at this
    rw [Rat.sub_eq_add_neg]
    omega
  rintro _ rfl
  refine ok_ck ⟨by omega, by simp only; omega⟩ (ok_lv (ok_ck ⟨by omega, by omega⟩ (ok_lv ?_)))
  rw [ht.out i hi]
  have r1 := q1 (i : Int) (by omega) (by omega)
  have r2 := q2 (i : Int) (by omega) (by omega)
  have r3 : ((0 : Int) : Rat) - frac X D (i : Int) = frac Y' G' (i : Int) := by
    rw [r2]
    show ((0 : Int) : Rat) - _ = _
    grind
  refine ok_bd (Compare_ok (by omega) (by omega)) ?_
  rintro _ rfl
  rw [(cmp_sign _ _).1.2 r1]
  refine ok_ck (fun _ => ⟨by omega, by simp only; omega⟩) (ok_lv ?_)
  refine ok_bd (R := fun r => r = 0) (ok_gd (fun _ => ?_) fun hq => by simp at hq) ?_
  · simp only
    rw [r3]
    refine (Compare_ok (by omega) (by omega)).mono fun r hr => ?_
    rw [hr]
    exact (cmp_sign _ _).1.2 rfl
  rintro _ rfl
  exact ok_lv (ok_f (by simp) (ok_ar (by omega) (ok_some ⟨⟨by omega, by omega⟩, by omega⟩)))
end Go.Proofs.Ytfkncjfpgflafaa.X
