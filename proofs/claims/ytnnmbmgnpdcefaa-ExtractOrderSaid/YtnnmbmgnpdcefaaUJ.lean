/- The law ExtractOrder. Plain. -/
import Derived.Test.YtnnmbmgnpdcefaaUI
namespace Go.Proofs.Ytnnmbmgnpdcefaa.X
open Go Go.RowKit
set_option linter.unusedVariables false
set_option linter.unusedSimpArgs false
set_option linter.unusedSectionVars false
theorem set_mem {β : Type} [Inhabited β] {xs : List β} {k : Int} (hk : inb k xs.length) {a : β} {p : β → Prop} : (∃ v ∈ stt xs k a, p v) ↔ p a ∨ ∃ i : Nat, i < xs.length ∧ (i : Int) ≠ k ∧ p (gt xs (i : Int)) := by
  constructor
  · rintro ⟨v, hv, hp⟩
    obtain ⟨i, hi, rfl⟩ := List.getElem_of_mem hv
    rw [stt_length] at hi
    by_cases q : (i : Int) = k
    · left
      have e : gt (stt xs k a) (i : Int) = a := by rw [gt_stt _ _ hk (by omega), if_pos q]
      rw [gt_nth (by rw [stt_length]; exact hi)] at e
      rw [← e]; exact hp
    · right
      have e : gt (stt xs k a) (i : Int) = gt xs (i : Int) := by rw [gt_stt _ _ hk (by omega), if_neg q]
      rw [gt_nth (by rw [stt_length]; exact hi)] at e
      exact ⟨i, hi, q, by rw [← e]; exact hp⟩
  · rintro (hp | ⟨i, hi, q, hp⟩)
    · have e : gt (stt xs k a) k = a := by rw [gt_stt _ _ hk hk.1, if_pos rfl]
      exact ⟨gt (stt xs k a) k, gt_mem ⟨hk.1, by rw [stt_length]; exact hk.2⟩, by rw [e]; exact hp⟩
    · have e : gt (stt xs k a) (i : Int) = gt xs (i : Int) := by rw [gt_stt _ _ hk (by omega), if_neg q]
      exact ⟨gt (stt xs k a) (i : Int), gt_mem ⟨by omega, by rw [stt_length]; omega⟩, by rw [e]; exact hp⟩
theorem all_mem {β : Type} [Inhabited β] {xs : List β} {k : Int} (hk : inb k xs.length) {p : β → Prop} : (∃ v ∈ xs, p v) ↔ p (gt xs k) ∨ ∃ i : Nat, i < xs.length ∧ (i : Int) ≠ k ∧ p (gt xs (i : Int)) := by
  constructor
  · rintro ⟨v, hv, hp⟩
    obtain ⟨i, hi, rfl⟩ := List.getElem_of_mem hv
    by_cases q : (i : Int) = k
    · left; rw [← q, gt_nth hi]; exact hp
    · right; exact ⟨i, hi, q, by rw [gt_nth hi]; exact hp⟩
  · rintro (hp | ⟨i, hi, q, hp⟩)
    · exact ⟨_, gt_mem hk, hp⟩
    · exact ⟨_, gt_mem ⟨by omega, by omega⟩, hp⟩
theorem split_mem {β : Type} [Inhabited β] {xs : List β} {k : Int} (hk : inb k xs.length) {a b : β} {p : β → Prop} (h : p (gt xs k) ↔ p a ∨ p b) : (∃ v ∈ stt xs k a ++ [b], p v) ↔ ∃ v ∈ xs, p v := by
  have e : (∃ v ∈ stt xs k a ++ [b], p v) ↔ (∃ v ∈ stt xs k a, p v) ∨ p b := by
    constructor
    · rintro ⟨v, hv, hp⟩
      rcases List.mem_append.1 hv with h1 | h1
      · exact .inl ⟨v, h1, hp⟩
      · rw [List.mem_singleton.1 h1] at hp; exact .inr hp
    · rintro (⟨v, hv, hp⟩ | hp)
      · exact ⟨v, List.mem_append_left _ hv, hp⟩
      · exact ⟨b, List.mem_append_right _ (List.mem_singleton.2 rfl), hp⟩
  rw [e, set_mem hk, all_mem hk, h]
  constructor
  · rintro ((h1 | h1) | h1)
    · exact .inl (.inl h1)
    · exact .inr h1
    · exact .inl (.inr h1)
  · rintro ((h1 | h1) | h1)
    · exact .inl (.inl h1)
    · exact .inr h1
    · exact .inl (.inr h1)
theorem swap_perm' {β : Type} [Inhabited β] {xs : List β} {i j : Int} (hi : inb i xs.length) (hj : inb j xs.length) {p : β → Prop} : (∃ v ∈ stt (stt xs i (gt xs j)) j (gt xs i), p v) ↔ ∃ v ∈ xs, p v := by
  have hj' : inb j (stt xs i (gt xs j)).length := by rw [stt_length]; exact hj
  by_cases e : i = j
  · subst e
    have h1 : stt xs i (gt xs i) = xs := stt_self hi
    rw [h1, h1]
  · rw [set_mem hj', all_mem hi]
    constructor
    · rintro (h | ⟨k, hk, hkj, h⟩)
      · exact .inl h
      · rw [stt_length] at hk
        rw [gt_stt _ _ hi (by omega)] at h
        by_cases q : (k : Int) = i
        · rw [if_pos q] at h
          exact .inr ⟨j.toNat, by have := hj.2; have := hj.1; omega, by have := hj.1; omega, by rw [show ((j.toNat : Nat) : Int) = j by have := hj.1; omega]; exact h⟩
        · rw [if_neg q] at h
          exact .inr ⟨k, hk, q, h⟩
    · rintro (h | ⟨k, hk, hki, h⟩)
      · exact .inl h
      · by_cases q : (k : Int) = j
        · refine .inr ⟨i.toNat, by rw [stt_length]; have := hi.2; have := hi.1; omega, by have := hi.1; omega, ?_⟩
          rw [show ((i.toNat : Nat) : Int) = i by have := hi.1; omega, gt_stt _ _ hi hi.1, if_pos rfl, ← q]; exact h
        · exact .inr ⟨k, by rw [stt_length]; exact hk, q, by rw [gt_stt _ _ hi (by omega), if_neg hki]; exact h⟩
/-- The same elements. -/
def Sm {β : Type} (xs ys : List β) : Prop := ys.length = xs.length ∧ ∀ p : β → Prop, (∃ v ∈ ys, p v) ↔ ∃ v ∈ xs, p v
theorem Sm.all {β : Type} {xs ys : List β} (h : Sm xs ys) {p : β → Prop} (hp : ∀ v ∈ xs, p v) : ∀ v ∈ ys, p v := fun v hv => by
  obtain ⟨u, hu, e⟩ := (h.2 (fun u => u = v)).1 ⟨v, hv, rfl⟩
  rw [← e]; exact hp u hu
theorem revW_ok {ws : List T_rules_Wire} (hl : ws.length ≤ 1000) : Ok (P_slices_Reverse_rules_Wire_rules_Wire ws) (Sm ws) := by
  unfold P_slices_Reverse_rules_Wire_rules_Wire
  refine ok_ar (by omega) (ok_bd (R := Sm ws) ?_ fun r hr => ok_some hr)
  refine ok_lp (fun s => Sm ws s.1 ∧ 0 ≤ s.2.1 ∧ (-1 ≤ s.2.2 ∧ s.2.2 < ws.length) ∧ s.2.1 ≤ 1000) (fun s => (s.2.2 + 1 - s.2.1).toNat) ⟨⟨rfl, fun _ => Iff.rfl⟩, by simp only; omega, by simp only; omega, by simp only; omega⟩ (by simp only; omega) ?_
  rintro ⟨s, i, j⟩ ⟨hs, hi, hj, hi2⟩
  simp only at hs hi hj hi2 ⊢
  unfold P_slices_Reverse_rules_Wire_rules_Wire_L1
  dsimp only
  have hsl := hs.1
  refine ok_ite (fun hlt => ?_) fun hge => ok_some hs
  have ib : inb i s.length := ⟨by omega, by omega⟩
  have jb : inb j s.length := ⟨by omega, by omega⟩
  refine ok_ck jb (ok_lv (ok_ck ib (ok_lv (ok_ck ib (ok_lv (ok_ck (by rw [stt_length]; exact jb) (ok_lv (ok_ar (by omega) (ok_ar (by omega) (ok_some ⟨⟨⟨by rw [stt_length, stt_length]; exact hsl, fun p => ?_⟩, by simp only; omega, by simp only; omega, by simp only; omega⟩, by simp only; omega⟩))))))))))
  rw [swap_perm' ib jb]; exact hs.2 p
theorem revV_ok {ws : List T_rules_Via} (hl : ws.length ≤ 1000) : Ok (P_slices_Reverse_rules_Via_rules_Via ws) (Sm ws) := by
  unfold P_slices_Reverse_rules_Via_rules_Via
  refine ok_ar (by omega) (ok_bd (R := Sm ws) ?_ fun r hr => ok_some hr)
  refine ok_lp (fun s => Sm ws s.1 ∧ 0 ≤ s.2.1 ∧ (-1 ≤ s.2.2 ∧ s.2.2 < ws.length) ∧ s.2.1 ≤ 1000) (fun s => (s.2.2 + 1 - s.2.1).toNat) ⟨⟨rfl, fun _ => Iff.rfl⟩, by simp only; omega, by simp only; omega, by simp only; omega⟩ (by simp only; omega) ?_
  rintro ⟨s, i, j⟩ ⟨hs, hi, hj, hi2⟩
  simp only at hs hi hj hi2 ⊢
  unfold P_slices_Reverse_rules_Via_rules_Via_L1
  dsimp only
  have hsl := hs.1
  refine ok_ite (fun hlt => ?_) fun hge => ok_some hs
  have ib : inb i s.length := ⟨by omega, by omega⟩
  have jb : inb j s.length := ⟨by omega, by omega⟩
  refine ok_ck jb (ok_lv (ok_ck ib (ok_lv (ok_ck ib (ok_lv (ok_ck (by rw [stt_length]; exact jb) (ok_lv (ok_ar (by omega) (ok_ar (by omega) (ok_some ⟨⟨⟨by rw [stt_length, stt_length]; exact hsl, fun p => ?_⟩, by simp only; omega, by simp only; omega, by simp only; omega⟩, by simp only; omega⟩))))))))))
  rw [swap_perm' ib jb]; exact hs.2 p
theorem cloneW_ok {ps : List T_rules_Wire} (h : ps.length ≤ 1000) : Ok (P_slices_Clone_rules_Wire_rules_Wire ps) (fun r => r = ps) := by
  unfold P_slices_Clone_rules_Wire_rules_Wire
  exact ok_lv (ok_ck (by simp only [apOk, List.nil_append]; omega) (ok_some (List.nil_append _)))
theorem cloneV_ok {ps : List T_rules_Via} (h : ps.length ≤ 1000) : Ok (P_slices_Clone_rules_Via_rules_Via ps) (fun r => r = ps) := by
  unfold P_slices_Clone_rules_Via_rules_Via
  exact ok_lv (ok_ck (by simp only [apOk, List.nil_append]; omega) (ok_some (List.nil_append _)))
/-- The sums of a net. -/
def SDesc (l : T_rules_Layout) (net : Int) (r : T_extract_Net × Int) : Prop := ∃ (P : List T_rules_Spot) (G : List T_extract_step) (o : List (T_rules_Spot × Bool)), P.Nodup ∧ G.Nodup ∧ (∀ p, p ∈ P ↔ OfP l net p) ∧ (∀ s, s ∈ G ↔ OfS l net s) ∧ (∀ p, mget p o false = true ↔ ∃ w ∈ l.Wires, w.Net ≠ net ∧ Cov w p) ∧
  r = (⟨lsum capF P + lsum (fun s => if s.fa.Layer ≠ s.fb.Layer then 1 else 0) G, lsum (besF o) P, lsum resI G⟩, 0)
theorem lsum_bd {β : Type} {f : β → Int} {c : Int} : ∀ {l : List β}, (∀ x ∈ l, 0 ≤ f x ∧ f x ≤ c) → 0 ≤ lsum f l ∧ lsum f l ≤ c * l.length
  | [], _ => by simp [lsum]
  | a :: l, h => by
    have h0 := h a (by simp)
    obtain ⟨h1, h2⟩ := lsum_bd (c := c) (l := l) fun x hx => h x (List.mem_cons_of_mem _ hx)
    rw [lsum, List.length_cons, Int.natCast_add, Int.mul_add]
    simp only [Int.natCast_one, Int.mul_one]
    omega
theorem Sum_ok {l : T_rules_Layout} (hl : LayM l) {net : Int} (hc : Ok (P_extract_check l net) (fun r => r = 0)) : NOk (P_extract_Sum l net) (SDesc l net) := by
  unfold P_extract_Sum
  refine nok_bo hc ?_
  rintro _ rfl
  refine nok_f (by simp) (nok_bo (of_ok hl net) ?_)
  rintro ⟨pts, sts⟩ ⟨⟨k1, k2⟩, ⟨l1, l2⟩, m1, m2⟩
  simp only at k1 k2 l1 l2 m1 m2 ⊢
  refine nok_bo (strangers_ok hl net) ?_
  intro o ho
  have hwN := hl.wires.2
  have hpt : ∀ p, mhas p pts = true → (0 ≤ p.X ∧ p.X ≤ 1000) ∧ (0 ≤ p.Y ∧ p.Y ≤ 1000) := fun p hp => by
    obtain ⟨w, hw, _, hc⟩ := (m1 p).1 hp
    have := (hwN w hw).x
    have := (hwN w hw).y
    unfold Cov at hc
    omega
  have hcap : ∀ p, 0 ≤ capF p ∧ capF p ≤ 3 := fun p => by unfold capF; split <;> omega
  refine nok_bd (S := fun r => r.1 = lsum capF (pts.map (·.1)) ∧ r.2 = lsum (besF o) (pts.map (·.1))) ?_ ?_
  · refine nok_lp (fun s => s.1.Nodup ∧ (∀ i ∈ s.1, i < pts.length) ∧ s.2.1 = lsum capF (s.1.map fun i : Nat => (gt pts (i : Int)).1) ∧ s.2.2 = lsum (besF o) (s.1.map fun i : Nat => (gt pts (i : Int)).1)) (fun s => pts.length - s.1.length)
      ⟨List.nodup_nil, fun i hi => by simp at hi, by simp [lsum], by simp [lsum]⟩ (by simp; omega) ?_
    rintro ⟨seen, a, b⟩ ⟨h1, h2, h3, h4⟩
    simp only at h1 h2 h3 h4 ⊢
    unfold P_extract_Sum_L7
    dsimp only
    refine nok_nx (fun hall => nok_ret ?_) fun i hi hni => ?_
    · have hp := (seen_perm h1 h2 hall).map (fun i : Nat => (gt pts (i : Int)).1)
      rw [keys_range] at hp
      exact ⟨by simp only; rw [h3, lsum_perm hp], by simp only; rw [h4, lsum_perm hp]⟩
    · obtain ⟨a1, a2⟩ := seen_add h1 h2 hi hni
      have hsl := seen_len h1 h2
      have hmem : mhas (gt pts (i : Int)).1 pts = true := mhas_mem.2 (by rw [gt_nth hi]; exact List.mem_map.2 ⟨_, List.getElem_mem hi, rfl⟩)
      obtain ⟨px, py⟩ := hpt _ hmem
      have b1 := lsum_bd (f := capF) (c := 3) (l := seen.map fun i : Nat => (gt pts (i : Int)).1) fun x _ => hcap x
      have b2 := lsum_bd (f := besF o) (c := 2) (l := seen.map fun i : Nat => (gt pts (i : Int)).1) fun x _ => besF_bd o x
      rw [List.length_map] at b1 b2
      have c1 := hcap (gt pts (i : Int)).1
      have c2 := besF_bd o (gt pts (i : Int)).1
      refine nok_lv (nok_bo (capF_ok _) ?_)
      rintro _ rfl
      refine nok_ar (by omega) (nok_bo (beside_ok px py) ?_)
      rintro _ rfl
      refine nok_ar (by omega) (nok_ret ⟨⟨a1, a2, ?_, ?_⟩, ?_⟩)
      · simp only [List.map_append, List.map_cons, List.map_nil, lsum_app, lsum]; rw [h3]; omega
      · simp only [List.map_append, List.map_cons, List.map_nil, lsum_app, lsum]; rw [h4]; omega
      · have := seen_len a1 a2
        simp only [List.length_append, List.length_singleton] at this ⊢
        omega
  rintro ⟨cp, nr⟩ ⟨e1, e2⟩
  simp only at e1 e2 ⊢
  have bcp := lsum_bd (f := capF) (c := 3) (l := pts.map (·.1)) fun x _ => hcap x
  rw [List.length_map] at bcp
  refine nok_bd (S := fun r => r.1 = cp + lsum (fun s : T_extract_step => if s.fa.Layer ≠ s.fb.Layer then 1 else 0) (sts.map (·.1)) ∧ r.2 = lsum resI (sts.map (·.1))) ?_ ?_
  · refine nok_lp (fun s => s.1.Nodup ∧ (∀ i ∈ s.1, i < sts.length) ∧ s.2.1 = cp + lsum (fun s : T_extract_step => if s.fa.Layer ≠ s.fb.Layer then 1 else 0) (s.1.map fun i : Nat => (gt sts (i : Int)).1) ∧ s.2.2 = lsum resI (s.1.map fun i : Nat => (gt sts (i : Int)).1)) (fun s => sts.length - s.1.length)
      ⟨List.nodup_nil, fun i hi => by simp at hi, by simp [lsum], by simp [lsum]⟩ (by simp; omega) ?_
    rintro ⟨seen, a, b⟩ ⟨h1, h2, h3, h4⟩
    simp only at h1 h2 h3 h4 ⊢
    unfold P_extract_Sum_L12
    dsimp only
    refine nok_nx (fun hall => nok_ret ?_) fun i hi hni => ?_
    · have hp := (seen_perm h1 h2 hall).map (fun i : Nat => (gt sts (i : Int)).1)
      rw [keys_range] at hp
      exact ⟨by simp only; rw [h3, lsum_perm hp], by simp only; rw [h4, lsum_perm hp]⟩
    · obtain ⟨a1, a2⟩ := seen_add h1 h2 hi hni
      have hsl := seen_len h1 h2
      have b1 := lsum_bd (f := fun s : T_extract_step => if s.fa.Layer ≠ s.fb.Layer then 1 else 0) (c := 1) (l := seen.map fun i : Nat => (gt sts (i : Int)).1) fun x _ => by split <;> omega
      have b2 := lsum_bd (f := resI) (c := 5) (l := seen.map fun i : Nat => (gt sts (i : Int)).1) fun x _ => by have := res_bd x; omega
      rw [List.length_map] at b1 b2
      have c2 := res_bd (gt sts (i : Int)).1
      refine nok_lv (nok_bo (res_ok _) ?_)
      rintro _ rfl
      refine nok_ar (by omega) (nok_bd (S := fun r => r = a + if (gt sts (i : Int)).1.fa.Layer ≠ (gt sts (i : Int)).1.fb.Layer then 1 else 0) (nok_ite (fun h => nok_ar (by omega) (nok_ret (by rw [if_pos h]))) fun h => nok_ret (by rw [if_neg h]; omega)) ?_)
      rintro _ rfl
      refine nok_ret ⟨⟨a1, a2, ?_, ?_⟩, ?_⟩
      · simp only [List.map_append, List.map_cons, List.map_nil, lsum_app, lsum]; rw [h3]; omega
      · simp only [List.map_append, List.map_cons, List.map_nil, lsum_app, lsum]; rw [h4]; omega
      · have := seen_len a1 a2
        simp only [List.length_append, List.length_singleton] at this ⊢
        omega
  rintro ⟨cp', rs⟩ ⟨f1, f2⟩
  simp only at f1 f2 ⊢
  refine nok_ret ⟨pts.map (fun e => e.1), sts.map (fun e => e.1), o, ?_, ?_, fun p => by rw [← mhas_mem, m1], fun s => by rw [← mhas_mem, m2], ho, by rw [f1, f2, e1, e2]⟩
  · exact k1
  · exact k2
theorem SDesc.one {l1 l2 : T_rules_Layout} {net : Int} {r1 r2 : T_extract_Net × Int} (h1 : SDesc l1 net r1) (h2 : SDesc l2 net r2) (hS : ∀ s, OfS l1 net s ↔ OfS l2 net s) (hP : ∀ p, OfP l1 net p ↔ OfP l2 net p) (hO : ∀ p, (∃ w ∈ l1.Wires, w.Net ≠ net ∧ Cov w p) ↔ ∃ w ∈ l2.Wires, w.Net ≠ net ∧ Cov w p) : r1 = r2 := by
  obtain ⟨P, G, o, n1, g1, p1, s1, o1, e1⟩ := h1
  obtain ⟨P', G', o', n2, g2, p2, s2, o2, e2⟩ := h2
  have hG : G.Perm G' := nodup_perm g1 (fun s hs => (s2 s).2 ((hS s).1 ((s1 s).1 hs))) (nodup_le g2 fun s hs => (s1 s).2 ((hS s).2 ((s2 s).1 hs)))
  have hPp : P.Perm P' := nodup_perm n1 (fun s hs => (p2 s).2 ((hP s).1 ((p1 s).1 hs))) (nodup_le n2 fun s hs => (p1 s).2 ((hP s).2 ((p2 s).1 hs)))
  have hb : besF o = besF o' := funext fun p => besF_congr (fun p => (o1 p).trans ((hO p).trans (o2 p).symm)) p
  rw [e1, e2, lsum_perm hG, lsum_perm hPp, lsum_perm hG, lsum_perm hPp, hb]
/-- A wire in two that share a point. -/
def Halves (w a b : T_rules_Wire) : Prop := WireN a ∧ WireN b ∧ a.Net = w.Net ∧ b.Net = w.Net ∧ (∀ p, Cov w p ↔ Cov a p ∨ Cov b p) ∧ ∀ s, StW w s ↔ StW a s ∨ StW b s
theorem halves_x {w : T_rules_Wire} (h : WireN w) (hx : w.X0 < w.X1) {m : Int} (m0 : w.X0 ≤ m) (m1 : m ≤ w.X1) : Halves w (T_rules_Wire.mk w.Net w.Layer w.X0 w.Y0 m w.Y1) (T_rules_Wire.mk w.Net w.Layer m w.Y0 w.X1 w.Y1) := by
  have a := h.x
  have b := h.y
  have c := h.l
  have d := h.n
  have e := h.ev
  have f := h.od
  have hy : w.Y0 = w.Y1 := e (by by_cases q : w.Layer = 1; have := f q; omega; omega)
  refine ⟨⟨by simp only; omega, b, c, d, e, fun q => by have := f q; omega⟩, ⟨by simp only; omega, b, c, d, e, fun q => by have := f q; omega⟩, rfl, rfl, fun p => ?_, fun s => ?_⟩
  · unfold Cov; simp only; omega
  · unfold StW; simp only; omega
theorem halves_y {w : T_rules_Wire} (h : WireN w) (hx : ¬ w.X0 < w.X1) {m : Int} (m0 : w.Y0 ≤ m) (m1 : m ≤ w.Y1) : Halves w (T_rules_Wire.mk w.Net w.Layer w.X0 w.Y0 w.X1 m) (T_rules_Wire.mk w.Net w.Layer w.X0 m w.X1 w.Y1) := by
  have a := h.x
  have b := h.y
  have c := h.l
  have d := h.n
  have e := h.ev
  have f := h.od
  refine ⟨⟨a, by simp only; omega, c, d, fun q => by have := e q; simp only; omega, f⟩, ⟨a, by simp only; omega, c, d, fun q => by have := e q; simp only; omega, f⟩, rfl, rfl, fun p => ?_, fun s => ?_⟩
  · unfold Cov; simp only; omega
  · unfold StW; simp only; omega
theorem equal_ok {a b : List Int} (h : a = b) (hl : a.length ≤ 1000) : Ok (P_slices_Equal_int_int a b) (fun r => r = true) := by
  subst h
  unfold P_slices_Equal_int_int
  refine ok_f (by simp) (ok_bs1 (R := fun _ => True) ?_ fun _ _ => ok_some rfl)
  refine ok_lp (fun y => 0 ≤ y ∧ y ≤ a.length) (fun y => ((a.length : Int) - y).toNat) ⟨by omega, by omega⟩ (by omega) ?_
  rintro y ⟨y0, y1⟩
  unfold P_slices_Equal_int_int_L4
  exact ok_ite (fun hlt => ok_ck ⟨y0, hlt⟩ (ok_lv (ok_ck ⟨y0, hlt⟩ (ok_lv (ok_f (by simp) (ok_ar (by omega) (ok_some ⟨⟨by omega, by omega⟩, by omega⟩))))))) fun hge => ok_some ⟨(), rfl, trivial⟩
theorem ExtractOrder_ok {L : List Int} (hL : Strm L) : NOk (P_maskkeep4_ExtractOrder L) (fun r => r = true) := by
  unfold P_maskkeep4_ExtractOrder
  refine nok_bo (Tied_ok hL (k := 0) (by omega) (by omega)) ?_
  rintro ⟨x, k1⟩ ⟨hx, k10, k11⟩
  simp only at hx k10 k11 ⊢
  have hxl := hx.lay
  have hwl := hx.wires.1
  have hvl := hx.vias.1
  refine nok_bo (cloneW_ok (by omega)) ?_
  rintro _ rfl
  refine nok_bo (cloneV_ok (by omega)) ?_
  rintro _ rfl
  refine nok_bo (revW_ok (by omega)) ?_
  intro ws hws
  refine nok_bo (revV_ok (by omega)) ?_
  intro vs hvs
  refine nok_bo (hL.next (by omega) (by omega)) ?_
  rintro ⟨k, k2⟩ ⟨kk0, kk1, -, rfl⟩
  have kk1 := kk1 (by omega)
  simp only at kk0 kk1 ⊢
  have hwsl := hws.1
  have hkb : inb k ws.length := ⟨kk0, by omega⟩
  have hWN : ∀ w ∈ ws, WireN w := hws.all hx.wires.2
  have hw := hWN _ (gt_mem hkb)
  have hxx := hw.x
  have hyy := hw.y
  refine nok_ck hkb (nok_lv ?_)
  generalize hwe : gt ws k = w at hw hxx hyy
  refine nok_bd (S := fun s => (0 ≤ s.1 ∧ s.1 ≤ 1000) ∧ Halves w (T_rules_Wire.mk w.Net w.Layer w.X0 w.Y0 s.2.1 s.2.2.1) (T_rules_Wire.mk w.Net w.Layer s.2.2.2.1 s.2.2.2.2 w.X1 w.Y1)) (nok_ite (fun h => nok_bo (hL.range (by omega) (by omega) (by omega) (by omega)) ?_) fun h => nok_bo (hL.range (by omega) (by omega) (by omega) (by omega)) ?_) ?_
  · rintro ⟨m, km⟩ ⟨m0, m1, rfl⟩
    simp only at m0 m1 ⊢
    exact nok_ret ⟨by simp only; omega, halves_x hw h m0 m1⟩
  · rintro ⟨m, km⟩ ⟨m0, m1, rfl⟩
    simp only at m0 m1 ⊢
    exact nok_ret ⟨by simp only; omega, halves_y hw h m0 m1⟩
  rintro ⟨ke, c1, c2, c3, c4⟩ ⟨hke, hh⟩
  simp only at hke hh ⊢
  generalize T_rules_Wire.mk w.Net w.Layer w.X0 w.Y0 c1 c2 = wa at hh
  generalize T_rules_Wire.mk w.Net w.Layer c3 c4 w.X1 w.Y1 = wb at hh
  obtain ⟨hA, hB, nA, nB, hC, hS⟩ := hh
  refine nok_ck hkb (nok_lv (nok_lv (nok_ck (by simp only [apOk, List.length_append, List.length_singleton, stt_length]; omega) ?_)))
  have hyW : ∀ p : T_rules_Wire → Prop, (p w ↔ p wa ∨ p wb) → ((∃ v ∈ stt ws k wa ++ [wb], p v) ↔ ∃ v ∈ x.Wires, p v) := fun p hp => by
    rw [split_mem hkb (by rw [hwe]; exact hp)]; exact hws.2 p
  have hyl : LayN (T_rules_Layout.mk x.W x.H x.Layers x.Nets (stt ws k wa ++ [wb]) vs x.Pins x.Walls) := by
    refine ⟨⟨⟨by simp only [List.length_append, List.length_singleton, stt_length]; omega, all_snoc (fun v hv => ?_) hB⟩, ⟨by have := hvs.1; simp only; omega, hvs.all hx.vias.2⟩, hxl.pins⟩, hxl.size, hxl.walls⟩
    rcases List.mem_or_eq_of_mem_set hv with h1 | h1
    · exact hWN v h1
    · rw [h1]; exact hA
  have eP : ∀ net p, OfP x net p ↔ OfP (T_rules_Layout.mk x.W x.H x.Layers x.Nets (stt ws k wa ++ [wb]) vs x.Pins x.Walls) net p := fun net p => by
    unfold OfP
    simp only
    rw [hyW (fun v => v.Net = net ∧ Cov v p) (by rw [nA, nB, hC p, and_or_left])]
  have eS : ∀ net s, OfS x net s ↔ OfS (T_rules_Layout.mk x.W x.H x.Layers x.Nets (stt ws k wa ++ [wb]) vs x.Pins x.Walls) net s := fun net s => by
    unfold OfS
    simp only
    rw [hyW (fun v => v.Net = net ∧ StW v s) (by rw [nA, nB, hS s, and_or_left]), hvs.2 (fun v => v.Net = net ∧ StV v s)]
  have eO : ∀ net p, (∃ w ∈ x.Wires, w.Net ≠ net ∧ Cov w p) ↔ ∃ w ∈ (T_rules_Layout.mk x.W x.H x.Layers x.Nets (stt ws k wa ++ [wb]) vs x.Pins x.Walls).Wires, w.Net ≠ net ∧ Cov w p := fun net p => by
    rw [hyW (fun v => v.Net ≠ net ∧ Cov v p) (by rw [nA, nB, hC p, and_or_left])]
  have hpins : (T_rules_Layout.mk x.W x.H x.Layers x.Nets (stt ws k wa ++ [wb]) vs x.Pins x.Walls).Pins = x.Pins := rfl
  have hnets : x.Nets = 3 := hx.size.2.2.2
  generalize hye : T_rules_Layout.mk x.W x.H x.Layers x.Nets (stt ws k wa ++ [wb]) vs x.Pins x.Walls = y at hyl eP eS eO hpins
  refine nok_bs (S := fun o => ∃ u, o = Sum.inl u) ?_ (fun _ _ => ?_) fun z hz => by obtain ⟨u, e⟩ := hz; cases e
  · refine nok_lp (fun y => 0 ≤ y ∧ y ≤ 3) (fun y => (3 - y).toNat) ⟨by omega, by omega⟩ (by omega) ?_
    rintro net ⟨z0, z1⟩
    unfold P_maskkeep4_ExtractOrder_L18
    dsimp only
    rw [hye, hnets]
    refine nok_ite (fun hlt => ?_) fun hge => nok_ret ⟨(), rfl⟩
    refine nok_bd (Sum_ok hxl.toLayM (echeck_ok hxl (by omega))) ?_
    intro a ha
    refine nok_bd (Sum_ok hyl.toLayM (echeck_ok hyl (by omega))) ?_
    intro b hb
    have e := ha.one hb (eS net) (eP net) (eO net)
    subst e
    obtain ⟨P, G, o, _, _, _, _, _, ea⟩ := ha
    refine nok_bd extracts_ok ?_
    rintro _ rfl
    refine nok_lv (nok_lv (nok_lv (nok_lv (nok_f ?_ (nok_ar (by omega) (nok_ret ⟨⟨by omega, by omega⟩, by omega⟩))))))
    rw [ea]
    simp
  · refine nok_bo (hL.next (by omega) (by omega)) ?_
    rintro ⟨near, kn⟩ ⟨n0, n1, -, rfl⟩
    have n1 := n1 (by omega)
    simp only at n0 n1 ⊢
    refine nok_bd (Elmore_ok hxl.toLayM (echeck_ok hxl (by omega)) (by omega)) ?_
    intro a ha
    refine nok_bd (Elmore_ok hyl.toLayM (echeck_ok hyl (by omega)) (by omega)) ?_
    intro b hb
    obtain ⟨a1, a2, a3⟩ := ha.rel hb (eS 0) (eP 0) (eO 0) (by rw [hpins]) (by rw [hpins]) (by rw [hpins]) (fun v => by rw [hpins]; exact Int.le_refl _) (Int.le_refl _)
    obtain ⟨b1, b2, b3⟩ := hb.rel ha (fun s => (eS 0 s).symm) (fun p => (eP 0 p).symm) (fun p => (eO 0 p).symm) (by rw [hpins]) (by rw [hpins]) (by rw [hpins]) (fun v => by rw [hpins]; exact Int.le_refl _) (Int.le_refl _)
    have e : a = b := Prod.ext (ext_gt a2 fun j j0 j1 => by
      have c1 := a3 j.toNat (by omega)
      have c2 := b3 j.toNat (by omega)
      rw [show ((j.toNat : Nat) : Int) = j by omega] at c1 c2
      omega) a1
    subst e
    have hal : a.1.length ≤ 1000 := by
      have hpl := hx.pins.1
      rcases ha with ⟨_, e⟩ | ⟨_, G, pts, o, n, at_, up, rs, _, _, _, _, _, ⟨_, e⟩ | ⟨_, D, B, _, N1, ⟨_, e⟩ | ⟨d, e⟩⟩⟩
      · rw [e]; simp
      · rw [e]; simp
      · rw [e]; simp
      · rw [e]
        simp only [List.length_map, spots]
        exact Nat.le_trans (List.length_filter_le _ _) (by omega)
    refine nok_bo (S := fun r => r = true) (ok_gd (fun _ => equal_ok rfl hal) fun h => by simp at h) ?_
    rintro _ rfl
    exact nok_lv (nok_ret (by simp))
end Go.Proofs.Ytnnmbmgnpdcefaa.X
