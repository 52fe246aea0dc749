/- tree.Load, Arrivals, Depth, Skew on a flat tree. -/
import Derived.Test.YtnooiajahmichaaPE
namespace Go.Proofs.Ytnooiajahmichaa.X
open Go Go.RowKit
set_option linter.unusedVariables false
/-- The flops' cells: 6 or 7. -/
def Flops (n : Nat) (cs : List Int) : Prop := cs.length = n ∧ ∀ j, 0 ≤ j → j < (n : Int) → gt cs j = 6 ∨ gt cs j = 7
theorem CellA.cap0 {c : T_api_Cell} {nm : ByteArray} {k tb : Int} (h : CellA c nm k tb) (hk : 1 ≤ k) : 2 ≤ gt c.Cap 0 ∧ gt c.Cap 0 ≤ 5 ∧ 0 < c.Cap.length := by
  have := h.n.capL
  have := h.n.cap 0 ⟨by omega, by omega⟩
  omega
theorem Load_ok {t : T_tree_Tree} {n b : Nat} (h : Flat t n b) {l : List T_api_Cell} (hl : Lib8 l) {cs : List Int} (hc : Flops n cs) {c : Int} (h0 : -1 ≤ c) (h1 : c < b) : Ok (P_tree_Load t c l cs) (fun r => 0 ≤ r ∧ r ≤ 40) := by
  unfold P_tree_Load
  have hf := h.fan h0 h1
  have hu := h.upL
  have hL := h.leafL
  have hn := h.shape.nR
  have hb := h.le8
  have h8 := hl.len
  have hcell := h.cell
  have hbuf := hl.c0.cap0 (by omega)
  refine ok_bd (Kids_ok t c (by omega) (by omega)) ?_
  rintro ⟨k1, k2⟩ ⟨e1, e2⟩
  simp only at e1 e2
  rw [← e1, ← e2] at hf
  refine ok_bd (R := fun r => 0 ≤ r ∧ r ≤ 5 * (k1.length : Int)) ?_ ?_
  · refine ok_lp (fun s => 0 ≤ s.2 ∧ s.2 ≤ k1.length ∧ 0 ≤ s.1 ∧ s.1 ≤ 5 * s.2) (fun s => ((k1.length : Int) - s.2).toNat) ⟨by simp, by simp only; omega, by simp, by simp⟩ (by simp only; omega) ?_
    rintro ⟨a, y⟩ ⟨s1, s2, s3, s4⟩
    simp only at s1 s2 s3 s4
    unfold P_tree_Load_L4
    simp only
    refine ok_ite (fun hlt => ?_) fun hge => ok_some (by omega)
    refine ok_ck ⟨by omega, by omega⟩ (ok_lv' fun z ez => ?_)
    rw [hcell] at ez
    subst ez
    refine ok_ck ⟨by omega, by omega⟩ (ok_lv' fun v ev => ok_ar' (by omega) fun x ex => ok_ar' (by omega) fun y' ey => ok_some ⟨⟨by simp only; omega, by simp only; omega, by simp only; omega, by simp only; omega⟩, by simp only; omega⟩)
  intro m hm
  refine ok_bd (R := fun r => 0 ≤ r ∧ r ≤ 40) ?_ fun r hr => ok_some hr
  refine ok_lp (fun s => 0 ≤ s.2 ∧ s.2 ≤ k2.length ∧ 0 ≤ s.1 ∧ s.1 ≤ m + 5 * s.2) (fun s => ((k2.length : Int) - s.2).toNat) ⟨by simp, by simp only; omega, by simp only; omega, by simp⟩ (by simp only; omega) ?_
  rintro ⟨a, y⟩ ⟨s1, s2, s3, s4⟩
  simp only at s1 s2 s3 s4
  unfold P_tree_Load_L8
  simp only
  refine ok_ite (fun hlt => ?_) fun hge => ok_some (by omega)
  refine ok_ck ⟨by omega, by omega⟩ (ok_lv' fun v ev => ?_)
  have hmem : v ∈ k2 := by rw [ev]; exact gt_mem ⟨by omega, by omega⟩
  rw [e2] at hmem
  have hv := kids_mem hmem
  have hv2 := hc.2 v hv.1 (by omega)
  have hcl := hc.1
  refine ok_ck ⟨by omega, by omega⟩ (ok_lv' fun f ef => ok_ck ⟨by omega, by omega⟩ (ok_lv' fun cl ecl => ?_))
  have hcl2 : inb cl.Ins cl.Cap.length ∧ 2 ≤ gt cl.Cap cl.Ins ∧ gt cl.Cap cl.Ins ≤ 5 := by
    rcases hv2 with e | e
    · rw [ef, e] at ecl; subst ecl
      have := hl.c6.n.capL
      have hi := hl.c6.ins
      have hin : inb (gt l 6).Ins (gt l 6).Cap.length := ⟨by omega, by omega⟩
      exact ⟨hin, hl.c6.n.cap _ hin⟩
    · rw [ef, e] at ecl; subst ecl
      have := hl.c7.n.capL
      have hi := hl.c7.ins
      have hin : inb (gt l 7).Ins (gt l 7).Cap.length := ⟨by omega, by omega⟩
      exact ⟨hin, hl.c7.n.cap _ hin⟩
  refine ok_ck hcl2.1 (ok_lv' fun v ev => ok_ar' (by omega) fun x ex => ok_ar' (by omega) fun y' ey => ok_some ⟨⟨by simp only; omega, by simp only; omega, by simp only; omega, by simp only; omega⟩, by simp only; omega⟩)
/-- A buffer's load, as tree.Load says it. -/
def ld (t : T_tree_Tree) (l : List T_api_Cell) (cs : List Int) (c : Int) : Int := (P_tree_Load t c l cs).getD 0
theorem Load_ld {t : T_tree_Tree} {n b : Nat} (h : Flat t n b) {l : List T_api_Cell} (hl : Lib8 l) {cs : List Int} (hc : Flops n cs) {c : Int} (h0 : -1 ≤ c) (h1 : c < b) : Ok (P_tree_Load t c l cs) (fun r => r = ld t l cs c ∧ 0 ≤ r ∧ r ≤ 40) := by
  obtain ⟨r, hr, h2⟩ := Load_ok h hl hc h0 h1
  exact ⟨r, hr, by simp only [ld, hr]; rfl, h2⟩
/-- A flat tree's window at buffer c. -/
def win (t : T_tree_Tree) (l : List T_api_Cell) (cs : List Int) (c : Int) : T_tree_Window :=
  if c < 0 then ⟨0, 0⟩ else ⟨gt (gt l 0).Min 0 + (gt l 0).Drive * ld t l cs c, gt (gt l 0).Max 0 + (gt l 0).Drive * ld t l cs c⟩
theorem Arrivals_ok {t : T_tree_Tree} {n b : Nat} (h : Flat t n b) {l : List T_api_Cell} (hl : Lib8 l) {cs : List Int} (hc : Flops n cs) : Ok (P_tree_Arrivals t l cs) (fun r => r.2 = 0 ∧ r.1.length = n ∧ ∀ j, 0 ≤ j → j < (n : Int) → gt r.1 j = win t l cs (gt t.Leaf j)) := by
  unfold P_tree_Arrivals
  have hu := h.upL
  have hL := h.leafL
  have hn := h.shape.nR
  have hb := h.le8
  have h8 := hl.len
  have hcell := h.cell
  have hcl := hc.1
  have hm0 := hl.c0.n.minL
  have hM0 := hl.c0.n.maxL
  have hmm := hl.c0.n.mm 0 ⟨by omega, by omega⟩
  have hdr := hl.c0.n.drive
  refine ok_bd (R := fun r => r = 0) (by rw [hcl]; exact TreeCheck_ok h hl) ?_
  rintro _ rfl
  refine ok_f (by simp) (ok_bs1 (R := fun _ => True) ?_ fun _ _ => ok_ck ⟨by omega, by omega⟩ (ok_lv' fun z ez => ?_))
  · refine ok_lp (fun y => 0 ≤ y ∧ y ≤ n) (fun y => ((n : Int) - y).toNat) ⟨by omega, by omega⟩ (by omega) ?_
    rintro y ⟨h0, h1⟩
    unfold P_tree_Arrivals_L5
    refine ok_ite (fun hlt => ?_) fun hge => ok_some ⟨(), rfl, trivial⟩
    have hv2 := hc.2 y h0 (by omega)
    refine ok_ck ⟨by omega, by omega⟩ (ok_lv' fun v ev => ok_lv' fun q eq => ok_ck (fun _ => ⟨by omega, by omega⟩) (ok_lv' fun q2 eq2 => ok_f ?_ (ok_ar' (by omega) fun x ex => ok_some ⟨⟨by omega, by omega⟩, by omega⟩)))
    have hfl : (gt l v).Flop = true := by
      rcases hv2 with e | e
      · rw [ev, e]; exact hl.c6.flop
      · rw [ev, e]; exact hl.c7.flop
    rw [eq2, hfl, eq]
    simp only [Bool.not_true, Bool.or_false, Bool.or_eq_true, decide_eq_true_eq]
    omega
  have hzl : z.length = b := by rw [ez]; simp; omega
  refine ok_bd (R := fun r => r.length = b ∧ ∀ j, 0 ≤ j → j < (b : Int) → gt r j = win t l cs j) ?_ ?_
  · refine ok_lp (fun s => 0 ≤ s.2 ∧ s.2 ≤ b ∧ s.1.length = b ∧ ∀ j, 0 ≤ j → j < s.2 → gt s.1 j = win t l cs j) (fun s => ((b : Int) - s.2).toNat) ⟨by simp, by simp only; omega, hzl, fun j j0 j1 => by simp only at j1; omega⟩ (by simp only; omega) ?_
    rintro ⟨at1, y⟩ ⟨h0, h1, h2, h3⟩
    simp only at h0 h1 h2 h3
    unfold P_tree_Arrivals_L12
    simp only
    refine ok_ite (fun hlt => ?_) fun hge => ok_some ⟨h2, fun j j0 j1 => h3 j j0 (by omega)⟩
    have hup := h.gtU h0 (by omega : y < b)
    refine ok_ck ⟨by omega, by omega⟩ (ok_lv' fun v ev => ok_ck ⟨by omega, by omega⟩ (ok_lv' fun c0 ec0 => ?_))
    rw [hcell] at ec0
    subst ec0
    refine ok_bd (Load_ld h hl hc (by omega) (by omega)) ?_
    rintro r ⟨er, hr0, hr1⟩
    have hd0 : 0 ≤ (gt l 0).Drive * r := Int.mul_nonneg (by omega) (by omega)
    have hd1 : (gt l 0).Drive * r ≤ 2 * 40 := Int.mul_le_mul (by omega) (by omega) (by omega) (by omega)
    refine ok_ck ⟨by omega, by omega⟩ (ok_lv' fun a ea => ok_ar' (by omega) fun x1 e1 => ok_ar' (by omega) fun x2 e2 => ?_)
    refine ok_ck ⟨by omega, by omega⟩ (ok_lv' fun a' ea' => ok_ar' (by omega) fun x1' e1' => ok_ar' (by omega) fun x2' e2' => ?_)
    refine ok_ck ⟨by omega, by omega⟩ (ok_lv' fun z1 ez1 => ?_)
    refine ok_bd (R := fun q => q = z1) (ok_f (by omega) (ok_some rfl)) ?_
    rintro _ rfl
    refine ok_ar' (by omega) fun x ex => ok_some ⟨⟨by simp only; omega, by simp only; omega, by simp only; rw [ez1, stt_length, h2], fun j j0 j1 => ?_⟩, by simp only; omega⟩
    simp only at j1
    simp only
    rw [ez1, gt_stt _ _ ⟨by omega, by omega⟩ j0]
    by_cases e : j = y
    · rw [if_pos e, e]; unfold win; rw [if_neg (by omega), ← er, e2, e2', ea, ea', e1, e1']
    · rw [if_neg e]; exact h3 j j0 (by omega)
  rintro at1 ⟨ha, hw⟩
  refine ok_bd (R := fun r => r.length = n ∧ ∀ j, 0 ≤ j → j < (n : Int) → gt r j = win t l cs (gt t.Leaf j)) ?_ ?_
  · refine ok_lp (fun s => 0 ≤ s.2 ∧ s.2 ≤ n ∧ (s.1.length : Int) = s.2 ∧ ∀ j, 0 ≤ j → j < s.2 → gt s.1 j = win t l cs (gt t.Leaf j)) (fun s => ((n : Int) - s.2).toNat) ⟨by simp, by simp only; omega, by simp, fun j j0 j1 => by simp only at j1; omega⟩ (by simp only; omega) ?_
    rintro ⟨out, y⟩ ⟨h0, h1, h2, h3⟩
    simp only at h0 h1 h2 h3
    unfold P_tree_Arrivals_L21
    simp only
    refine ok_ite (fun hlt => ?_) fun hge => ok_some ⟨by omega, fun j j0 j1 => h3 j j0 (by omega)⟩
    have hlf := h.gtL h0 (by omega : y < n)
    refine ok_ck ⟨by omega, by omega⟩ (ok_lv' fun v ev => ?_)
    refine ok_bd (R := fun o => o = out ++ [win t l cs v]) (ok_ite (fun hv => ok_lv (ok_ck (by unfold apOk; simp only [List.length_append, List.length_singleton]; omega) (ok_some ?_))) fun hv => ok_ck ⟨by omega, by omega⟩ (ok_lv (ok_lv (ok_ck (by unfold apOk; simp only [List.length_append, List.length_singleton]; omega) (ok_some ?_))))) ?_
    · unfold win; rw [if_pos hv]
    · rw [hw v (by omega) (by omega)]
    rintro _ rfl
    refine ok_ar' (by omega) fun x ex => ok_some ⟨⟨by simp only; omega, by simp only; omega, by simp only [List.length_append, List.length_singleton]; omega, fun j j0 j1 => ?_⟩, by simp only; omega⟩
    simp only at j1
    simp only
    by_cases e : j = y
    · rw [e, gt_app_1 h2.symm, ev]
    · rw [gt_app_l (by omega)]; exact h3 j j0 (by omega)
  rintro out ⟨ho, hw2⟩
  exact ok_some ⟨rfl, ho, hw2⟩
theorem Depth_ok {t : T_tree_Tree} {n b : Nat} (h : Flat t n b) {y : Int} (h0 : 0 ≤ y) (h1 : y < n) : Ok (P_tree_Depth t y) (fun r => r = if gt t.Leaf y < 0 then 0 else 1) := by
  unfold P_tree_Depth
  have hu := h.upL
  have hL := h.leafL
  have hn := h.shape.nR
  have hb := h.le8
  have hlf := h.gtL h0 h1
  refine ok_lv (ok_f (by simp only [Bool.or_eq_true, decide_eq_true_eq]; omega) (ok_ck ⟨by omega, by omega⟩ (ok_lv' fun v ev => ?_)))
  rw [← ev] at hlf ⊢
  refine ok_bs1 (R := fun o => o.1 = (if v < 0 then 0 else 1) ∧ o.2 = -1) ?_ ?_
  · refine ok_lp (fun s => (s.2 = v ∧ s.1 = 0) ∨ (s.2 = -1 ∧ s.1 = 1 ∧ 0 ≤ v)) (fun s => (s.2 + 1).toNat) (.inl ⟨rfl, rfl⟩) (by simp only; omega) ?_
    rintro ⟨a, y⟩ hs
    simp only at hs
    unfold P_tree_Depth_L5
    simp only
    refine ok_ite (fun hlt => ?_) fun hge => ok_some ⟨_, rfl, ?_⟩
    · have hup := h.gtU hlt (by omega : y < b)
      refine ok_ck (fun _ => ⟨by omega, by omega⟩) (ok_lv (ok_lv (ok_f (by simp only [Bool.or_eq_true, decide_eq_true_eq]; omega) (ok_ar' (by omega) fun x ex => ok_ck ⟨by omega, by omega⟩ (ok_lv' fun x2 ex2 => ok_some ⟨.inr ⟨by simp only; omega, by simp only; omega, by omega⟩, by simp only; omega⟩)))))
    · simp only
      by_cases hv : v < 0
      · rw [if_pos hv]; omega
      · rw [if_neg hv]; omega
  rintro ⟨a, y⟩ ⟨e1, e2⟩
  simp only at e1 e2
  exact ok_f (by omega) (ok_some e1)
end Go.Proofs.Ytnooiajahmichaa.X
