/- Maps; the search of extract.grow finds a Tr. Plain. -/
import Derived.Test.YtnnmbmgnpdcefaaUA
namespace Go.Proofs.Ytnnmbmgnpdcefaa.X
open Go Go.RowKit
set_option linter.unusedVariables false
set_option linter.unusedSimpArgs false
set_option linter.unusedSectionVars false
section
variable {κ α : Type} [DecidableEq κ]
theorem mfind_mput' {k k' : κ} {v : α} : ∀ {es : List (κ × α)}, mfind k' (mput k v es) = if k' = k then some v else mfind k' es
  | [] => by simp only [mput, mfind]
  | (a, b) :: r => by
    by_cases e : k = a
    · subst e
      by_cases q : k' = k <;> simp [mput, mfind, q]
    · simp only [mput, e, if_false, mfind]
      rw [mfind_mput' (es := r)]
      by_cases q : k' = k
      · subst q; simp [e]
      · simp [q]
theorem mget_mput {k k' : κ} {v d : α} {es : List (κ × α)} : mget k' (mput k v es) d = if k' = k then v else mget k' es d := by
  unfold mget
  rw [mfind_mput']
  split <;> rfl
theorem mhas_mput {k k' : κ} {v : α} {es : List (κ × α)} : mhas k' (mput k v es) = if k' = k then true else mhas k' es := by
  unfold mhas
  rw [mfind_mput']
  split <;> rfl
theorem mget_nil {k : κ} {d : α} : mget k ([] : List (κ × α)) d = d := rfl
theorem mhas_nil {k : κ} : mhas k ([] : List (κ × α)) = false := rfl
end
theorem spot_eta (a : T_rules_Spot) : T_rules_Spot.mk a.Layer a.X a.Y = a := rfl
theorem spot_eq {a b : T_rules_Spot} : ((a.Layer == b.Layer) && ((a.X == b.X) && ((a.Y == b.Y) && true))) = true ↔ a = b := by
  cases a; cases b
  simp [beq_iff_eq]
theorem res_ok (s : T_extract_step) : Ok (P_extract_step_resistance s) (fun r => r = resI s) := by
  unfold P_extract_step_resistance resI
  first
    | exact ok_ite (fun h => ok_some (by rw [if_pos h])) fun h => ok_ite (fun h2 => ok_some (by rw [if_neg h, if_pos h2])) fun h2 => ok_some (by rw [if_neg h, if_neg h2])
/-- What a search has found. -/
structure Bf (G : List T_extract_step) (root : T_rules_Spot) (order : List T_extract_visit) (seen : List (T_rules_Spot × Bool)) : Prop where
  ne : 0 < order.length
  r0 : gt order 0 = ⟨root, root, 0⟩
  inj : ∀ i j : Int, 0 ≤ i → i < order.length → 0 ≤ j → j < order.length → (gt order i).fat = (gt order j).fat → i = j
  seen : ∀ v, mget v seen false = true ↔ ∃ j : Int, 0 ≤ j ∧ j < order.length ∧ (gt order j).fat = v
  par : ∀ j : Int, 0 < j → j < order.length → ∃ k : Int, 0 ≤ k ∧ k < j ∧ (gt order k).fat = (gt order j).fup ∧ ∃ s ∈ G, Joins s (gt order j).fup (gt order j).fat ∧ (gt order j).fres = resI s
section
variable {G : List T_extract_step} {root : T_rules_Spot} {order : List T_extract_visit} {seen : List (T_rules_Spot × Bool)}
theorem Bf.len (h : Bf G root order seen) : order.length ≤ 2 * G.length + 1 := by
  have hn : ((List.range order.length).map fun i : Nat => (gt order (i : Int)).fat).Nodup := by
    refine List.pairwise_map.2 (List.Pairwise.imp_of_mem ?_ List.nodup_range)
    intro a b ha hb hab e
    have ha := List.mem_range.1 ha
    have hb := List.mem_range.1 hb
    have := h.inj a b (by omega) (by omega) (by omega) (by omega) e
    omega
  have := nodup_le (m := root :: (G.map (·.fa) ++ G.map (·.fb))) hn fun x hx => by
    obtain ⟨i, hi, rfl⟩ := List.mem_map.1 hx
    have hi := List.mem_range.1 hi
    by_cases q : i = 0
    · have e : (gt order (i : Int)).fat = root := by rw [q]; exact congrArg T_extract_visit.fat h.r0
      rw [e]; exact List.mem_cons_self
    · obtain ⟨k, _, _, _, s, hs, hj, _⟩ := h.par i (by omega) (by omega)
      refine List.mem_cons_of_mem _ (List.mem_append.2 ?_)
      rcases hj with ⟨_, h2⟩ | ⟨h1, _⟩
      · exact .inr (List.mem_map.2 ⟨s, hs, h2⟩)
      · exact .inl (List.mem_map.2 ⟨s, hs, h1⟩)
  simp only [List.length_map, List.length_range, List.length_cons, List.length_append] at this
  omega
theorem Bf.start (G : List T_extract_step) (root : T_rules_Spot) : Bf G root [⟨root, root, 0⟩] (mput root true []) := by
  have e : ∀ j : Int, 0 ≤ j → j < ([(⟨root, root, 0⟩ : T_extract_visit)] : List T_extract_visit).length → j = 0 := fun j j0 j1 => by simp at j1; omega
  refine ⟨by simp, rfl, fun i j i0 i1 j0 j1 _ => by rw [e i i0 i1, e j j0 j1], fun v => ?_, fun j j0 j1 => by have := e j (by omega) j1; omega⟩
  rw [mget_mput, mget_nil]
  constructor
  · intro h
    split at h
    · rename_i q; exact ⟨0, by omega, by simp, q.symm⟩
    · cases h
  · rintro ⟨j, j0, j1, hj⟩
    rw [e j j0 j1] at hj
    rw [if_pos (show v = root from hj.symm)]
theorem Bf.add (h : Bf G root order seen) {i : Int} (i0 : 0 ≤ i) (i1 : i < order.length) {s : T_extract_step} (hs : s ∈ G) {u : T_rules_Spot} (hj : Joins s (gt order i).fat u) (hu : ¬ mget u seen false = true) :
    Bf G root (order ++ [⟨u, (gt order i).fat, resI s⟩]) (mput u true seen) := by
  have e1 : ∀ j : Int, 0 ≤ j → j < order.length → gt (order ++ [(⟨u, (gt order i).fat, resI s⟩ : T_extract_visit)]) j = gt order j := fun j j0 j1 => gt_app_l (by omega)
  have e2 : ∀ j : Int, j = order.length → gt (order ++ [(⟨u, (gt order i).fat, resI s⟩ : T_extract_visit)]) j = ⟨u, (gt order i).fat, resI s⟩ := fun j e => gt_app_1 e
  have hne := h.ne
  have hl : ((order ++ [(⟨u, (gt order i).fat, resI s⟩ : T_extract_visit)]).length : Int) = order.length + 1 := by simp
  refine ⟨by simp, by rw [e1 0 (by omega) (by omega)]; exact h.r0, fun a b a0 a1 b0 b1 e => ?_, fun v => ?_, fun j j0 j1 => ?_⟩
  · rw [hl] at a1 b1
    by_cases qa : a = order.length
    · by_cases qb : b = order.length
      · omega
      · exfalso
        rw [e2 a qa, e1 b b0 (by omega)] at e
        exact hu ((h.seen u).2 ⟨b, b0, by omega, e.symm⟩)
    · by_cases qb : b = order.length
      · exfalso
        rw [e2 b qb, e1 a a0 (by omega)] at e
        exact hu ((h.seen u).2 ⟨a, a0, by omega, e⟩)
      · rw [e1 a a0 (by omega), e1 b b0 (by omega)] at e
        exact h.inj a b a0 (by omega) b0 (by omega) e
  · rw [mget_mput]
    constructor
    · intro hv
      split at hv
      · rename_i q; exact ⟨order.length, by omega, by omega, by rw [e2 _ rfl, q]⟩
      · obtain ⟨j, j0, j1, ej⟩ := (h.seen v).1 hv
        exact ⟨j, j0, by omega, by rw [e1 j j0 j1]; exact ej⟩
    · rintro ⟨j, j0, j1, ej⟩
      rw [hl] at j1
      by_cases q : j = order.length
      · rw [e2 j q] at ej; rw [if_pos ej.symm]
      · rw [e1 j j0 (by omega)] at ej
        split
        · rfl
        · exact (h.seen v).2 ⟨j, j0, by omega, ej⟩
  · rw [hl] at j1
    by_cases q : j = order.length
    · rw [e2 j q]
      exact ⟨i, i0, by omega, by rw [e1 i i0 i1], s, hs, hj, rfl⟩
    · obtain ⟨k, k0, k1, k2, r⟩ := h.par j j0 (by omega)
      rw [e1 j (by omega) (by omega)]
      exact ⟨k, k0, k1, by rw [e1 k k0 (by omega)]; exact k2, r⟩
end
/-- The steps at each spot. -/
def Adj (G : List T_extract_step) (next : List (T_rules_Spot × List T_extract_step)) : Prop := ∀ v, (mget v next []).Perm (G.filter (inc v))
theorem scan_ok {G : List T_extract_step} (hd : ∀ s ∈ G, s.fa ≠ s.fb) (hG : G.length ≤ 10000) {root : T_rules_Spot} {order : List T_extract_visit} {seen : List (T_rules_Spot × Bool)} (hb : Bf G root order seen) {i : Int} (i0 : 0 ≤ i) (i1 : i < order.length) {N : List T_extract_step} (hN : ∀ s ∈ N, s ∈ G ∧ inc (gt order i).fat s = true) (hNl : N.length ≤ 10000) {steps : Int} (s0 : 0 ≤ steps) (s1 : steps ≤ 1000000000000) :
    Ok (lp (P_extract_tree_grow_L9 (gt order i) N) fuel (order, seen, steps, 0)) (fun r => Bf G root r.1 r.2.1 ∧ order.length ≤ r.1.length ∧ (∀ j : Int, 0 ≤ j → j < order.length → gt r.1 j = gt order j) ∧ r.2.2 = steps + N.length ∧
      ∀ s ∈ N, ∃ j : Int, 0 ≤ j ∧ j < r.1.length ∧ (gt r.1 j).fat = oth s (gt order i).fat) := by
  refine ok_lp (fun s => 0 ≤ s.2.2.2 ∧ s.2.2.2 ≤ N.length ∧ Bf G root s.1 s.2.1 ∧ order.length ≤ s.1.length ∧ (∀ j : Int, 0 ≤ j → j < order.length → gt s.1 j = gt order j) ∧ s.2.2.1 = steps + s.2.2.2 ∧
      ∀ t : Int, 0 ≤ t → t < s.2.2.2 → ∃ j : Int, 0 ≤ j ∧ j < s.1.length ∧ (gt s.1 j).fat = oth (gt N t) (gt order i).fat) (fun s => ((N.length : Int) - s.2.2.2).toNat)
    ⟨by simp, by simp only; omega, hb, Nat.le_refl _, fun j j0 j1 => rfl, by simp, fun t t0 t1 => by simp only at t1; omega⟩ (by simp only; omega) ?_
  rintro ⟨od, sn, st, y⟩ ⟨y0, y1, hB, hle, hpre, hst, hsc⟩
  simp only at y0 y1 hB hle hpre hst hsc ⊢
  unfold P_extract_tree_grow_L9
  dsimp only
  refine ok_ite (fun hlt => ?_) fun hge => ok_some ⟨hB, hle, hpre, by simp only; omega, fun s hs => ?_⟩
  · have hyb : inb y N.length := ⟨y0, hlt⟩
    obtain ⟨hsG, hsi⟩ := hN _ (gt_mem hyb)
    have hnext : ∀ {od' : List T_extract_visit} {sn' : List (T_rules_Spot × Bool)}, Bf G root od' sn' → od.length ≤ od'.length → (∀ j : Int, 0 ≤ j → j < od.length → gt od' j = gt od j) → (∃ j : Int, 0 ≤ j ∧ j < od'.length ∧ (gt od' j).fat = oth (gt N y) (gt order i).fat) →
        Bf G root od' sn' ∧ order.length ≤ od'.length ∧ (∀ j : Int, 0 ≤ j → j < order.length → gt od' j = gt order j) ∧ ∀ t : Int, 0 ≤ t → t < y + 1 → ∃ j : Int, 0 ≤ j ∧ j < od'.length ∧ (gt od' j).fat = oth (gt N t) (gt order i).fat := fun hB' hl' hp' hn => by
      refine ⟨hB', by omega, fun j j0 j1 => by rw [hp' j j0 (by omega)]; exact hpre j j0 j1, fun t t0 t1 => ?_⟩
      by_cases q : t = y
      · rw [q]; exact hn
      · obtain ⟨j, j0, j1, ej⟩ := hsc t t0 (by omega)
        exact ⟨j, j0, by omega, by rw [hp' j j0 j1]; exact ej⟩
    have ei : gt od i = gt order i := hpre i i0 i1
    have hjn := inc_joins hsi
    refine ok_bd (R := fun r => Bf G root r.1 r.2.1 ∧ order.length ≤ r.1.length ∧ (∀ j : Int, 0 ≤ j → j < order.length → gt r.1 j = gt order j) ∧ (∀ t : Int, 0 ≤ t → t < y + 1 → ∃ j : Int, 0 ≤ j ∧ j < r.1.length ∧ (gt r.1 j).fat = oth (gt N t) (gt order i).fat) ∧ r.2.2 = st + 1) ?_ ?_
    · refine ok_ck hyb (ok_lv (ok_ar (by omega) (ok_lv ?_)))
      refine ok_bd (R := fun t => T_rules_Spot.mk t.1 t.2.1 t.2.2 = oth (gt N y) (gt order i).fat) (ok_ite (fun h => ok_some ?_) fun h => ok_some ?_) ?_
      · rw [spot_eq] at h
        show (gt N y).fb = _
        unfold oth; rw [if_pos h]
      · rw [spot_eq] at h
        show (gt N y).fa = _
        unfold oth; rw [if_neg h]
      rintro ⟨a, b, c⟩ he
      simp only at he ⊢
      rw [he]
      refine ok_lv (ok_ite (fun h => ok_some ?_) fun h => ok_lv (ok_bd (res_ok _) ?_))
      · obtain ⟨j, j0, j1, ej⟩ := (hB.seen _).1 h
        obtain ⟨q1, q2, q3, q4⟩ := hnext hB (Nat.le_refl _) (fun j _ _ => rfl) ⟨j, j0, j1, ej⟩
        exact ⟨q1, q2, q3, q4, rfl⟩
      · rintro _ rfl
        have hB' := hB.add (u := oth (gt N y) (gt order i).fat) i0 (by omega) hsG (by rw [ei]; exact hjn) h
        have hlen := hB'.len
        rw [ei] at hB' hlen
        refine ok_lv (ok_ck (by simp only [apOk]; simp only [List.length_append, List.length_singleton] at hlen ⊢; omega) (ok_some ?_))
        obtain ⟨q1, q2, q3, q4⟩ := hnext hB' (by simp) (fun j j0 j1 => gt_app_l (by omega)) ⟨od.length, by omega, by simp only [List.length_append, List.length_singleton]; omega, by rw [gt_app_1 rfl]⟩
        exact ⟨q1, q2, q3, q4, rfl⟩
    rintro ⟨od', sn', st'⟩ ⟨q1, q2, q3, q4, q5⟩
    simp only at q1 q2 q3 q4 q5 ⊢
    exact ok_ar (by omega) (ok_some ⟨⟨by simp only; omega, by simp only; omega, q1, q2, q3, by simp only; omega, q4⟩, by simp only; omega⟩)
  · obtain ⟨t, ht, rfl⟩ := List.getElem_of_mem hs
    have := hsc t (by omega) (by omega)
    rw [gt_get ⟨by omega, by omega⟩] at this
    simpa using this
theorem bfs_ok {G : List T_extract_step} (hn : G.Nodup) (hd : ∀ s ∈ G, s.fa ≠ s.fb) (hG : G.length ≤ 10000) {next : List (T_rules_Spot × List T_extract_step)} (hA : Adj G next) {root : T_rules_Spot} {order : List T_extract_visit} {seen : List (T_rules_Spot × Bool)} (ho : order = [⟨root, root, 0⟩]) (hs : seen = mput root true []) :
    Ok (lp (P_extract_tree_grow_L5 next) fuel (order, seen, 0, 0)) (fun r => (∃ sn, Bf G root r.1 sn) ∧ r.2 = sumN (fun i => deg G (gt r.1 i).fat) r.1.length ∧ (0 ≤ r.2 ∧ r.2 ≤ 1000000000000) ∧
      ∀ j : Int, 0 ≤ j → j < r.1.length → ∀ s ∈ G, inc (gt r.1 j).fat s = true → ∃ k : Int, 0 ≤ k ∧ k < r.1.length ∧ (gt r.1 k).fat = oth s (gt r.1 j).fat) := by
  subst ho hs
  refine ok_lp (fun s => 0 ≤ s.2.2.2 ∧ s.2.2.2 ≤ s.1.length ∧ Bf G root s.1 s.2.1 ∧ s.2.2.1 = sumN (fun i => deg G (gt s.1 i).fat) s.2.2.2.toNat ∧ (0 ≤ s.2.2.1 ∧ s.2.2.1 ≤ 10000 * s.2.2.2) ∧
      ∀ j : Int, 0 ≤ j → j < s.2.2.2 → ∀ t ∈ G, inc (gt s.1 j).fat t = true → ∃ k : Int, 0 ≤ k ∧ k < s.1.length ∧ (gt s.1 k).fat = oth t (gt s.1 j).fat) (fun s => (30000 - s.2.2.2).toNat)
    ⟨by simp, by simp, Bf.start G root, by simp [sumN], by simp, fun j j0 j1 => by simp only at j1; omega⟩ (by simp only; omega) ?_
  rintro ⟨od, sn, st, i⟩ ⟨i0, i1, hB, hst, hsb, hcl⟩
  simp only at i0 i1 hB hst hsb hcl ⊢
  have hlen := hB.len
  unfold P_extract_tree_grow_L5
  dsimp only
  refine ok_ite (fun hlt => ?_) fun hge => ok_some ⟨⟨sn, hB⟩, by simp only; rw [hst, show i.toNat = od.length by omega], by simp only; omega, fun j j0 j1 => hcl j j0 (by simp only at j1; omega)⟩
  have hib : inb i od.length := ⟨i0, hlt⟩
  refine ok_ck hib (ok_lv (ok_lv ?_))
  rw [spot_eta]
  have hp := hA (gt od i).fat
  have hNl : (mget (gt od i).fat next []).length = (G.filter (inc (gt od i).fat)).length := hp.length_eq
  have hfl := List.length_filter_le (inc (gt od i).fat) G
  refine ok_bd (scan_ok hd hG hB i0 hlt (N := mget (gt od i).fat next []) (fun s hs => by have := hp.mem_iff.1 hs; rw [List.mem_filter] at this; exact this) (by omega) hsb.1 (by omega)) ?_
  rintro ⟨od', sn', st'⟩ ⟨q1, q2, q3, q4, q5⟩
  simp only at q1 q2 q3 q4 q5 ⊢
  have hlen' := q1.len
  refine ok_ar (by omega) (ok_some ⟨⟨by simp only; omega, by simp only; omega, q1, ?_, by simp only; omega, fun j j0 j1 s hs hi => ?_⟩, by simp only; omega⟩)
  · simp only
    rw [q4, hst, show (i + 1).toNat = i.toNat + 1 by omega, sumN]
    have e1 : sumN (fun i => deg G (gt od i).fat) i.toNat = sumN (fun i => deg G (gt od' i).fat) i.toNat := sumN_congr fun k hk => by rw [q3 k (by omega) (by omega)]
    have e2 : gt od' ((i.toNat : Nat) : Int) = gt od i := by rw [show ((i.toNat : Nat) : Int) = i by omega]; exact q3 i i0 hlt
    rw [e1, e2, hNl]
    rfl
  · simp only at j1 hi ⊢
    by_cases q : j = i
    · rw [q, q3 i i0 hlt] at hi ⊢
      exact q5 s (hp.mem_iff.2 (List.mem_filter.2 ⟨hs, hi⟩))
    · rw [q3 j j0 (by omega)] at hi ⊢
      obtain ⟨k, k0, k1, ek⟩ := hcl j j0 (by omega) s hs hi
      exact ⟨k, k0, by omega, by rw [q3 k k0 k1]; exact ek⟩
/-- The search's outcome in numbers. -/
theorem Bf.tr {G : List T_extract_step} (hn : G.Nodup) (hd : ∀ s ∈ G, s.fa ≠ s.fb) {root : T_rules_Spot} {order : List T_extract_visit} {seen : List (T_rules_Spot × Bool)} (h : Bf G root order seen)
    (hc : ∀ j : Int, 0 ≤ j → j < order.length → ∀ s ∈ G, inc (gt order j).fat s = true → ∃ k : Int, 0 ≤ k ∧ k < order.length ∧ (gt order k).fat = oth s (gt order j).fat) :
    Tr G order.length (fun i => (gt order i).fat) (fun i => (gt order i).fup) (fun i => (gt order i).fres) := by
  refine ⟨hn, hd, h.ne, fun i j hi hj e => ?_, fun j j0 j1 => ?_, fun i hi s hs hin => ?_⟩
  · have := h.inj i j (by omega) (by omega) (by omega) (by omega) e; omega
  · obtain ⟨k, k0, k1, k2, r⟩ := h.par j (by omega) (by omega)
    exact ⟨k.toNat, by omega, by rw [show ((k.toNat : Nat) : Int) = k by omega]; exact k2, r⟩
  · obtain ⟨k, k0, k1, ek⟩ := hc i (by omega) (by omega) s hs hin
    exact ⟨k.toNat, by omega, by rw [show ((k.toNat : Nat) : Int) = k by omega]; exact ek⟩
end Go.Proofs.Ytnnmbmgnpdcefaa.X
