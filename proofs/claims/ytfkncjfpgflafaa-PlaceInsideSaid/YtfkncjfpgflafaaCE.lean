/- The equations of drawn pulls: place.system. Plain. -/
import Derived.Test.YtfkncjfpgflafaaCD
namespace Go.Proofs.Ytfkncjfpgflafaa.X
open Go Go.RowKit
set_option linter.unusedVariables false
set_option linter.unusedSimpArgs false
theorem qs_take {α : Type} [Inhabited α] (l : List α) {m : Nat} (h : m < l.length) (g : α → Rat) : qs (l.take (m + 1)) g = qs (l.take m) g + g (gt l (m : Int)) := by
  have e : l.take (m + 1) = l.take m ++ [gt l (m : Int)] := by
    rw [List.take_succ_eq_append_getElem h, gt_get (i := (m : Int)) ⟨by omega, by omega⟩]
    rfl
  rw [e, qs_app, qs_cons, qs_nil]
  grind
theorem qs_take_all {α : Type} (l : List α) {m : Nat} (h : m = l.length) (g : α → Rat) : qs (l.take m) g = qs l g := by rw [h, List.take_length]
theorem Sq.mono {a : List (List Int)} {n E F : Nat} (h : Sq a n E) (hE : E ≤ F) : Sq a n F := ⟨h.len, h.row, fun i j hi hj => Nat.le_trans (h.ent i j hi hj) hE⟩
section
variable {a : List (List Int)} {n E : Nat} (h : Sq a n E) {c d : Int} (c0 : 0 ≤ c) (c1 : c < n) (d0 : 0 ≤ d) (d1 : d < n) (v : Int)
include h c0 c1 d0 d1
theorem mat_stt {i j : Nat} (hi : i < n) (hj : j < n) : mat (stt a c (stt (gt a c) d v)) i j = if (i : Int) = c ∧ (j : Int) = d then v else mat a i j := by
  obtain ⟨c, rfl⟩ := Int.eq_ofNat_of_zero_le c0
  have hr := h.row c (by omega)
  have hl := h.len
  unfold mat
  rw [gt_stt _ _ ⟨c0, by omega⟩ (by omega)]
  by_cases q : (i : Int) = (c : Int)
  · rw [if_pos q, gt_stt _ _ ⟨d0, by omega⟩ (by omega)]
    by_cases r : (j : Int) = d
    · rw [if_pos r, if_pos ⟨q, r⟩]
    · rw [if_neg r, if_neg fun e => r e.2, q]
  · rw [if_neg q, if_neg fun e => q e.1]
theorem Sq.stt {F : Nat} (hE : E ≤ F) (hv : v.natAbs ≤ F) : Sq (stt a c (stt (gt a c) d v)) n F where
  len := by rw [stt_length]; exact h.len
  row i hi := by
    have hl := h.len
    rw [gt_stt _ _ ⟨c0, by omega⟩ (by omega)]
    by_cases q : (i : Int) = c
    · rw [if_pos q, stt_length, ← q]; exact h.row i hi
    · rw [if_neg q]; exact h.row i hi
  ent i j hi hj := by
    rw [mat_stt h c0 c1 d0 d1 v hi hj]
    split
    · exact hv
    · exact Nat.le_trans (h.ent i j hi hj) hE
theorem form_stt (u : Int) (hv : v = gt (gt a c) d + u) (f x : Int → Rat) : form (mat (stt a c (stt (gt a c) d v))) n f x = form (mat a) n f x + f c * ((u : Rat) * x d) := by
  obtain ⟨c, rfl⟩ := Int.eq_ofNat_of_zero_le c0
  obtain ⟨d, rfl⟩ := Int.eq_ofNat_of_zero_le d0
  refine form_upd (c := c) (d := d) (by omega) (by omega) u ?_ (fun i j hi hj hne => ?_) f x
  · rw [mat_stt h c0 c1 d0 d1 v (by omega) (by omega), if_pos ⟨rfl, rfl⟩, hv]; rfl
  · rw [mat_stt h c0 c1 d0 d1 v hi hj, if_neg (by omega)]
end
theorem lin_stt {b : List Int} {n : Nat} (hl : b.length = n) {c : Int} (c0 : 0 ≤ c) (c1 : c < n) {v : Int} (u : Int) (hv : v = gt b c + u) (f : Int → Rat) : lin (fun i => gt (stt b c v) (i : Int)) n f = lin (fun i => gt b (i : Int)) n f + f c * (u : Rat) := by
  obtain ⟨c, rfl⟩ := Int.eq_ofNat_of_zero_le c0
  refine lin_upd (c := c) (by omega) u ?_ (fun i hi hne => ?_) f
  · rw [gt_stt _ _ ⟨c0, by omega⟩ (by omega), if_pos rfl, hv]
  · rw [gt_stt _ _ ⟨c0, by omega⟩ (by omega), if_neg (by omega)]
theorem stt_small {b : List Int} {n F F' : Nat} (hl : b.length = n) {c v : Int} (c0 : 0 ≤ c) (c1 : c < n) (h : ∀ i : Nat, i < n → (gt b (i : Int)).natAbs ≤ F) (hF : F ≤ F') (hv : v.natAbs ≤ F') : ∀ i : Nat, i < n → (gt (stt b c v) (i : Int)).natAbs ≤ F' := by
  intro i hi
  rw [gt_stt _ _ ⟨c0, by omega⟩ (by omega)]
  split
  · exact hv
  · exact Nat.le_trans (h i hi) hF
/-- The other cells of a net. -/
theorem qs_others {cs : List Int} (nd : cs.Nodup) {c : Int} (hc : c ∈ cs) (x : Int → Rat) : qs cs (fun d => if d ≠ c then x d else 0) = qs cs x - x c := by
  induction cs with
  | nil => simp at hc
  | cons d cs ih =>
    rw [List.nodup_cons] at nd
    rw [qs_cons, qs_cons]
    by_cases q : d = c
    · subst q
      rw [if_neg (by simp), qs_congr (l := cs) (g := fun e => if e ≠ d then x e else 0) (h := x) fun e he => by rw [if_pos]; rintro rfl; exact nd.1 he]
      grind
    · rw [if_pos q, ih nd.2 (by simpa [Ne.symm q] using hc)]
      grind
/-- What a net adds to a cell's equation. -/
def cellT (p : T_place_Pull) (x : Int → Rat) (c : Int) : Rat := ((p.Cells.length : Rat) + (p.At.length : Rat)) * x c - qs p.Cells x
section
variable {n : Nat} {p : T_place_Pull} (hp : PullOk n p)
include hp
theorem L16_ok {a : List (List Int)} {E : Nat} (h : Sq a n E) (hE : E + 40 ≤ 1000000) {c : Int} (c0 : 0 ≤ c) (c1 : c < n) : Ok (lp (P_place_system_L16 p c) fuel (a, 0)) (fun r => Sq r n (E + 40) ∧ ∀ f x : Int → Rat, form (mat r) n f x = form (mat a) n f x - (p.Weight : Rat) * (f c * qs p.Cells fun d => if d ≠ c then x d else 0)) := by
  have p1 := hp.w1; have p2 := hp.w5; have p3 := hp.cl
  refine ok_lp (fun s => ∃ j : Nat, s.2 = (j : Int) ∧ j ≤ p.Cells.length ∧ Sq s.1 n (E + 5 * j) ∧ ∀ f x : Int → Rat, form (mat s.1) n f x = form (mat a) n f x - (p.Weight : Rat) * (f c * qs (p.Cells.take j) fun d => if d ≠ c then x d else 0)) (fun s => ((p.Cells.length : Int) - s.2).toNat)
    ⟨0, rfl, Nat.zero_le _, h, fun f x => by rw [List.take_zero, qs_nil]; grind⟩ (by simp only; omega) ?_
  rintro ⟨b, y⟩ ⟨j, rfl, hj, hb, e1⟩
  simp only at hb e1 ⊢
  unfold P_place_system_L16
  dsimp only
  refine ok_ite (fun hlt => ?_) fun hge => ok_some ⟨hb.mono (by omega), fun f x => by rw [e1, qs_take_all _ (by omega)]⟩
  have hc := hp.cs _ (gt_mem (i := (j : Int)) (xs := p.Cells) ⟨by omega, hlt⟩)
  have hq : ∀ g : Int → Rat, qs (p.Cells.take (j + 1)) g = qs (p.Cells.take j) g + g (gt p.Cells (j : Int)) := qs_take p.Cells (by omega)
  refine ok_ck ⟨by omega, hlt⟩ (ok_lv ?_)
  generalize gt p.Cells (j : Int) = d at hc hq
  refine ok_bd (R := fun r => Sq r n (E + 5 * (j + 1)) ∧ ∀ f x : Int → Rat, form (mat r) n f x = form (mat a) n f x - (p.Weight : Rat) * (f c * qs (p.Cells.take (j + 1)) fun d => if d ≠ c then x d else 0)) ?_ ?_
  · refine ok_ite (fun hne => ?_) fun he => ok_some ⟨hb.mono (by omega), fun f x => by rw [e1, hq, if_neg he]; grind⟩
    have hl := hb.len
    have hr := hb.row c.toNat (by omega)
    rw [show ((c.toNat : Nat) : Int) = c by omega] at hr
    have he := hb.ent c.toNat d.toNat (by omega) (by omega)
    unfold mat at he
    rw [show ((c.toNat : Nat) : Int) = c by omega, show ((d.toNat : Nat) : Int) = d by omega] at he
    refine ok_ck ⟨c0, by omega⟩ (ok_lv (ok_ck ⟨hc.1, by omega⟩ (ok_lv (ok_ar (by omega) (ok_ck ⟨hc.1, by omega⟩ (ok_lv (ok_lv (ok_some ⟨hb.stt c0 c1 hc.1 hc.2 _ (by omega) (by omega), fun f x => ?_⟩))))))))
    rw [form_stt hb c0 c1 hc.1 hc.2 _ (-p.Weight) (by omega), e1, hq, if_pos hne, Rat.intCast_neg]
    grind
  rintro r ⟨hr, er⟩
  exact ok_ar (by omega) (ok_some ⟨⟨j + 1, by simp only; omega, by omega, hr, er⟩, by simp only; omega⟩)
theorem L22_ok {xs ys : List Int} {E : Nat} (lx : xs.length = n) (ly : ys.length = n) (bx : ∀ i : Nat, i < n → (gt xs (i : Int)).natAbs ≤ E) (by_ : ∀ i : Nat, i < n → (gt ys (i : Int)).natAbs ≤ E) (hE : E + 600 ≤ 1000000) {c : Int} (c0 : 0 ≤ c) (c1 : c < n) :
    Ok (lp (P_place_system_L22 p c) fuel (xs, ys, 0)) (fun r => r.1.length = n ∧ r.2.length = n ∧ (∀ i : Nat, i < n → (gt r.1 (i : Int)).natAbs ≤ E + 600) ∧ (∀ i : Nat, i < n → (gt r.2 (i : Int)).natAbs ≤ E + 600) ∧
      (∀ f : Int → Rat, lin (fun i => gt r.1 (i : Int)) n f = lin (fun i => gt xs (i : Int)) n f + (p.Weight : Rat) * (f c * qs p.At fun q => (q.X : Rat))) ∧
      (∀ f : Int → Rat, lin (fun i => gt r.2 (i : Int)) n f = lin (fun i => gt ys (i : Int)) n f + (p.Weight : Rat) * (f c * qs p.At fun q => (q.Y : Rat)))) := by
  have p1 := hp.w1; have p2 := hp.w5; have p3 := hp.al
  refine ok_lp (fun s => ∃ j : Nat, s.2.2 = (j : Int) ∧ j ≤ p.At.length ∧ s.1.length = n ∧ s.2.1.length = n ∧ (∀ i : Nat, i < n → (gt s.1 (i : Int)).natAbs ≤ E + 300 * j) ∧ (∀ i : Nat, i < n → (gt s.2.1 (i : Int)).natAbs ≤ E + 300 * j) ∧
      (∀ f : Int → Rat, lin (fun i => gt s.1 (i : Int)) n f = lin (fun i => gt xs (i : Int)) n f + (p.Weight : Rat) * (f c * qs (p.At.take j) fun q => (q.X : Rat))) ∧
      (∀ f : Int → Rat, lin (fun i => gt s.2.1 (i : Int)) n f = lin (fun i => gt ys (i : Int)) n f + (p.Weight : Rat) * (f c * qs (p.At.take j) fun q => (q.Y : Rat)))) (fun s => ((p.At.length : Int) - s.2.2).toNat)
    ⟨0, rfl, Nat.zero_le _, lx, ly, bx, by_, fun f => by rw [List.take_zero, qs_nil]; grind, fun f => by rw [List.take_zero, qs_nil]; grind⟩ (by simp only; omega) ?_
  rintro ⟨us, vs, y⟩ ⟨j, rfl, hj, l1, l2, b1, b2, e1, e2⟩
  simp only at l1 l2 b1 b2 e1 e2 ⊢
  unfold P_place_system_L22
  dsimp only
  refine ok_ite (fun hlt => ?_) fun hge => ok_some ⟨l1, l2, fun i hi => by have := b1 i hi; simp only; omega, fun i hi => by have := b2 i hi; simp only; omega, fun f => by simp only; rw [e1, qs_take_all _ (by omega)], fun f => by simp only; rw [e2, qs_take_all _ (by omega)]⟩
  have hq0 := hp.pt _ (gt_mem (i := (j : Int)) (xs := p.At) ⟨by omega, hlt⟩)
  have hq : ∀ g : T_floor_Point → Rat, qs (p.At.take (j + 1)) g = qs (p.At.take j) g + g (gt p.At (j : Int)) := qs_take p.At (by omega)
  refine ok_ck ⟨by omega, hlt⟩ (ok_lv ?_)
  generalize gt p.At (j : Int) = q at hq0 hq
  have u1 := b1 c.toNat (by omega)
  have u2 := b2 c.toNat (by omega)
  rw [show ((c.toNat : Nat) : Int) = c by omega] at u1 u2
  have wx : -300 ≤ p.Weight * q.X ∧ p.Weight * q.X ≤ 300 := by
    have w : p.Weight = 1 ∨ p.Weight = 2 ∨ p.Weight = 3 ∨ p.Weight = 4 ∨ p.Weight = 5 := by omega
    rcases w with w | w | w | w | w <;> rw [w] <;> omega
  have wy : -300 ≤ p.Weight * q.Y ∧ p.Weight * q.Y ≤ 300 := by
    have w : p.Weight = 1 ∨ p.Weight = 2 ∨ p.Weight = 3 ∨ p.Weight = 4 ∨ p.Weight = 5 := by omega
    rcases w with w | w | w | w | w <;> rw [w] <;> omega
  refine ok_ck ⟨c0, by omega⟩ (ok_lv (ok_ar (by omega) (ok_ar (by omega) (ok_ck ⟨c0, by omega⟩ (ok_lv (ok_ck ⟨c0, by omega⟩ (ok_lv (ok_ar (by omega) (ok_ar (by omega) (ok_ck ⟨c0, by omega⟩ (ok_lv (ok_ar (by omega) (ok_some ⟨⟨j + 1, by simp only; omega, by omega, by simp only; rw [stt_length]; exact l1, by simp only; rw [stt_length]; exact l2, ?_, ?_, fun f => ?_, fun f => ?_⟩, by simp only; omega⟩)))))))))))))
  · exact stt_small l1 c0 c1 b1 (by omega) (by omega)
  · exact stt_small l2 c0 c1 b2 (by omega) (by omega)
  · simp only
    rw [lin_stt l1 c0 c1 _ rfl, e1, hq, Rat.intCast_mul]
    grind
  · simp only
    rw [lin_stt l2 c0 c1 _ rfl, e2, hq, Rat.intCast_mul]
    grind
/-- What a net adds to the equations. -/
def Net1 (p : T_place_Pull) (n : Nat) (a : List (List Int)) (xs ys : List Int) (a' : List (List Int)) (xs' ys' : List Int) (m : Nat) : Prop :=
  (∀ f x : Int → Rat, form (mat a') n f x = form (mat a) n f x + (p.Weight : Rat) * qs (p.Cells.take m) fun c => f c * cellT p x c) ∧
  (∀ f : Int → Rat, lin (fun i => gt xs' (i : Int)) n f = lin (fun i => gt xs (i : Int)) n f + (p.Weight : Rat) * qs (p.Cells.take m) fun c => f c * qs p.At fun q => (q.X : Rat)) ∧
  (∀ f : Int → Rat, lin (fun i => gt ys' (i : Int)) n f = lin (fun i => gt ys (i : Int)) n f + (p.Weight : Rat) * qs (p.Cells.take m) fun c => f c * qs p.At fun q => (q.Y : Rat))
/-- The table and the two columns. -/
structure Tabs (n : Nat) (a : List (List Int)) (xs ys : List Int) (E : Nat) : Prop where
  sq : Sq a n E
  lx : xs.length = n
  ly : ys.length = n
  bx : ∀ i : Nat, i < n → (gt xs (i : Int)).natAbs ≤ E
  by_ : ∀ i : Nat, i < n → (gt ys (i : Int)).natAbs ≤ E
omit hp in
theorem Tabs.mono {a : List (List Int)} {xs ys : List Int} {E F : Nat} (h : Tabs n a xs ys E) (hE : E ≤ F) : Tabs n a xs ys F := ⟨h.sq.mono hE, h.lx, h.ly, fun i hi => Nat.le_trans (h.bx i hi) hE, fun i hi => Nat.le_trans (h.by_ i hi) hE⟩
theorem L12_ok {a : List (List Int)} {xs ys : List Int} {E : Nat} (h : Tabs n a xs ys E) (hE : E + 5600 ≤ 1000000) : Ok (lp (P_place_system_L12 p) fuel (a, xs, ys, 0)) (fun r => Tabs n r.1 r.2.1 r.2.2 (E + 5600) ∧ Net1 p n a xs ys r.1 r.2.1 r.2.2 p.Cells.length) := by
  have p1 := hp.w1; have p2 := hp.w5; have p3 := hp.cl; have p4 := hp.al
  refine ok_lp (fun s => ∃ j : Nat, s.2.2.2 = (j : Int) ∧ j ≤ p.Cells.length ∧ Tabs n s.1 s.2.1 s.2.2.1 (E + 700 * j) ∧ Net1 p n a xs ys s.1 s.2.1 s.2.2.1 j) (fun s => ((p.Cells.length : Int) - s.2.2.2).toNat)
    ⟨0, rfl, Nat.zero_le _, h, fun f x => by rw [List.take_zero, qs_nil]; grind, fun f => by rw [List.take_zero, qs_nil]; grind, fun f => by rw [List.take_zero, qs_nil]; grind⟩ (by simp only; omega) ?_
  rintro ⟨b, us, vs, y⟩ ⟨j, rfl, hj, hb, e1, e2, e3⟩
  simp only at hb e1 e2 e3 ⊢
  unfold P_place_system_L12
  dsimp only
  refine ok_ite (fun hlt => ?_) fun hge => ok_some ⟨hb.mono (by omega), ?_⟩
  · have hcm := gt_mem (i := (j : Int)) (xs := p.Cells) ⟨by omega, hlt⟩
    have hc := hp.cs _ hcm
    have hq : ∀ g : Int → Rat, qs (p.Cells.take (j + 1)) g = qs (p.Cells.take j) g + g (gt p.Cells (j : Int)) := qs_take p.Cells (by omega)
    refine ok_ck ⟨by omega, hlt⟩ (ok_lv ?_)
    generalize gt p.Cells (j : Int) = c at hc hq hcm
    have hl := hb.sq.len
    have hr := hb.sq.row c.toNat (by omega)
    rw [show ((c.toNat : Nat) : Int) = c by omega] at hr
    have he := hb.sq.ent c.toNat c.toNat (by omega) (by omega)
    unfold mat at he
    rw [show ((c.toNat : Nat) : Int) = c by omega] at he
    have wx : -50 ≤ p.Weight * ((p.Cells.length : Int) + (p.At.length : Int) - 1) ∧ p.Weight * ((p.Cells.length : Int) + (p.At.length : Int) - 1) ≤ 50 := by
      have w : p.Weight = 1 ∨ p.Weight = 2 ∨ p.Weight = 3 ∨ p.Weight = 4 ∨ p.Weight = 5 := by omega
      rcases w with w | w | w | w | w <;> rw [w] <;> omega
    refine ok_ck ⟨hc.1, by omega⟩ (ok_lv (ok_ck ⟨hc.1, by omega⟩ (ok_ck ⟨hc.1, by omega⟩ (ok_lv (ok_ar (by omega) (ok_ar (by omega) (ok_ar (by omega) (ok_ar (by omega) (ok_ck ⟨hc.1, by omega⟩ (ok_lv (ok_lv ?_)))))))))))
    have s1 := hb.sq.stt hc.1 hc.2 hc.1 hc.2 (gt (gt b c) c + p.Weight * ((p.Cells.length : Int) + (p.At.length : Int) - 1)) (F := E + 700 * j + 50) (by omega) (by omega)
    have s2 := fun f x => form_stt hb.sq hc.1 hc.2 hc.1 hc.2 _ (p.Weight * ((p.Cells.length : Int) + (p.At.length : Int) - 1)) rfl f x
    refine ok_bd (L16_ok hp s1 (by omega) hc.1 hc.2) ?_
    rintro a2 ⟨s3, s4⟩
    refine ok_bd (L22_ok hp hb.lx hb.ly hb.bx hb.by_ (by omega) hc.1 hc.2) ?_
    rintro ⟨x2, y2⟩ ⟨t1, t2, t3, t4, t5, t6⟩
    simp only at t1 t2 t3 t4 t5 t6
    refine ok_ar (by omega) (ok_some ⟨⟨j + 1, by simp only; omega, by omega, ⟨s3.mono (by omega), t1, t2, fun i hi => Nat.le_trans (t3 i hi) (by omega), fun i hi => Nat.le_trans (t4 i hi) (by omega)⟩, fun f x => ?_, fun f => ?_, fun f => ?_⟩, by simp only; omega⟩)
    · simp only
      rw [s4, s2, e1, hq, qs_others hp.nd hcm]
      unfold cellT
      have ce : ((p.Weight * ((p.Cells.length : Int) + (p.At.length : Int) - 1) : Int) : Rat) = (p.Weight : Rat) * ((p.Cells.length : Rat) + (p.At.length : Rat) - 1) := by
        rw [Rat.intCast_mul, Rat.intCast_sub, Rat.intCast_add]; rfl
      rw [ce]
      grind
    · simp only
      rw [t5, e2, hq]; grind
    · simp only
      rw [t6, e3, hq]; grind
  · have ej : j = p.Cells.length := by omega
    subst ej
    exact ⟨e1, e2, e3⟩
end
/-- The nets along an axis. -/
def nets (g : T_floor_Point → Int) (l : List T_place_Pull) : List Net := l.map fun p => Net.mk (p.Weight : Rat) p.Cells (p.At.map fun q => ((g q : Int) : Rat))
section
variable {n : Nat} {l : List T_place_Pull} (h : PullsOk n l) (hn : n ≤ 8)
include h hn
theorem system_ok : Ok (P_place_system (n : Int) l) (fun r => Tabs n r.1 r.2.1 r.2.2 67200 ∧ (∀ f x : Int → Rat, form (mat r.1) n f x = lin (fun i => gt r.2.1 (i : Int)) n f + work (nets (·.X) l) x f) ∧ (∀ f x : Int → Rat, form (mat r.1) n f x = lin (fun i => gt r.2.2 (i : Int)) n f + work (nets (·.Y) l) x f)) := by
  have hlen := h.len
  unfold P_place_system
  refine ok_ck (by simp only [mkOk]; omega) (ok_lv (ok_ck (by simp only [mkOk]; omega) (ok_lv (ok_ck (by simp only [mkOk]; omega) ?_))))
  have z0 : ∀ i : Nat, i < n → gt (List.replicate (n : Int).toNat (0 : Int)) (i : Int) = 0 := fun i hi => gt_rep ⟨by omega, by simp; omega⟩
  refine ok_bd (R := fun a => a.length = n ∧ ∀ i : Nat, i < n → gt a (i : Int) = List.replicate (n : Int).toNat (0 : Int)) ?_ ?_
  · refine ok_lp (fun s => ∃ j : Nat, s.2 = (j : Int) ∧ j ≤ n ∧ s.1.length = n ∧ ∀ i : Nat, i < j → gt s.1 (i : Int) = List.replicate (n : Int).toNat (0 : Int)) (fun s => ((n : Int) - s.2).toNat)
      ⟨0, rfl, Nat.zero_le _, by simp, fun i hi => by omega⟩ (by simp only; omega) ?_
    rintro ⟨a, y⟩ ⟨j, rfl, hj, l1, e1⟩
    simp only at l1 e1 ⊢
    unfold P_place_system_L3
    dsimp only
    rw [List.length_replicate]
    refine ok_ite (fun hlt => ?_) fun hge => ok_some ⟨l1, fun i hi => e1 i (by omega)⟩
    refine ok_ck (by simp only [mkOk]; omega) (ok_ck ⟨by omega, by omega⟩ (ok_lv (ok_lv (ok_ar (by omega) (ok_some ⟨⟨j + 1, by simp only; omega, by omega, by rw [stt_length]; exact l1, fun i hi => ?_⟩, by simp only; omega⟩)))))
    simp only
    rw [gt_stt _ _ ⟨by omega, by omega⟩ (by omega)]
    by_cases q : (i : Int) = (j : Int)
    · rw [if_pos q]
    · rw [if_neg q]; exact e1 i (by omega)
  rintro a ⟨la, ea⟩
  have sq0 : Sq a n 0 := ⟨la, fun i hi => by rw [ea i hi]; simp, fun i j hi hj => by unfold mat; rw [ea i hi, z0 j hj]; decide⟩
  have zz : ∀ i : Nat, i < n → (gt (List.replicate (n : Int).toNat (0 : Int)) (i : Int)).natAbs ≤ 0 := fun i hi => by rw [z0 i hi]; exact Nat.le_refl _
  have tz : Tabs n a (List.replicate (n : Int).toNat (0 : Int)) (List.replicate (n : Int).toNat (0 : Int)) 0 := ⟨sq0, by simp, by simp, zz, zz⟩
  refine ok_bd (R := fun r => Tabs n r.1 r.2.1 r.2.2 67200 ∧ (∀ f x : Int → Rat, form (mat r.1) n f x = qs l fun p => (p.Weight : Rat) * qs p.Cells fun c => f c * cellT p x c) ∧
      (∀ f : Int → Rat, lin (fun i => gt r.2.1 (i : Int)) n f = qs l fun p => (p.Weight : Rat) * qs p.Cells fun c => f c * qs p.At fun q => (q.X : Rat)) ∧
      (∀ f : Int → Rat, lin (fun i => gt r.2.2 (i : Int)) n f = qs l fun p => (p.Weight : Rat) * qs p.Cells fun c => f c * qs p.At fun q => (q.Y : Rat))) ?_ ?_
  · refine ok_lp (fun s => ∃ j : Nat, s.2.2.2 = (j : Int) ∧ j ≤ l.length ∧ Tabs n s.1 s.2.1 s.2.2.1 (5600 * j) ∧ (∀ f x : Int → Rat, form (mat s.1) n f x = qs (l.take j) fun p => (p.Weight : Rat) * qs p.Cells fun c => f c * cellT p x c) ∧
      (∀ f : Int → Rat, lin (fun i => gt s.2.1 (i : Int)) n f = qs (l.take j) fun p => (p.Weight : Rat) * qs p.Cells fun c => f c * qs p.At fun q => (q.X : Rat)) ∧
      (∀ f : Int → Rat, lin (fun i => gt s.2.2.1 (i : Int)) n f = qs (l.take j) fun p => (p.Weight : Rat) * qs p.Cells fun c => f c * qs p.At fun q => (q.Y : Rat))) (fun s => ((l.length : Int) - s.2.2.2).toNat)
      ⟨0, rfl, Nat.zero_le _, tz.mono (Nat.zero_le _), fun f x => ?_, fun f => ?_, fun f => ?_⟩ (by simp only; omega) ?_
    · rw [List.take_zero, qs_nil]
      exact form_zero (fun i j hi hj => by unfold mat; rw [ea i hi, z0 j hj]) f x
    · rw [List.take_zero, qs_nil]
      exact lin_zero (fun i hi => z0 i hi) f
    · rw [List.take_zero, qs_nil]
      exact lin_zero (fun i hi => z0 i hi) f
    rintro ⟨b, us, vs, y⟩ ⟨j, rfl, hj, hb, e1, e2, e3⟩
    simp only at hb e1 e2 e3 ⊢
    unfold P_place_system_L8
    dsimp only
    refine ok_ite (fun hlt => ?_) fun hge => ok_some ⟨hb.mono (by omega), fun f x => by simp only; rw [e1, qs_take_all _ (by omega)], fun f => by simp only; rw [e2, qs_take_all _ (by omega)], fun f => by simp only; rw [e3, qs_take_all _ (by omega)]⟩
    have hp := h.all _ (gt_mem (i := (j : Int)) (xs := l) ⟨by omega, hlt⟩)
    have hq : ∀ g : T_place_Pull → Rat, qs (l.take (j + 1)) g = qs (l.take j) g + g (gt l (j : Int)) := qs_take l (by omega)
    refine ok_ck ⟨by omega, hlt⟩ (ok_lv ?_)
    generalize gt l (j : Int) = p at hp hq
    refine ok_bd (L12_ok hp hb (by omega)) ?_
    rintro ⟨a2, x2, y2⟩ ⟨t0, t1, t2, t3⟩
    simp only [List.take_length] at t0 t1 t2 t3
    refine ok_ar (by omega) (ok_some ⟨⟨j + 1, by simp only; omega, by omega, t0.mono (by omega), fun f x => ?_, fun f => ?_, fun f => ?_⟩, by simp only; omega⟩)
    · simp only; rw [t1, e1, hq]
    · simp only; rw [t2, e2, hq]
    · simp only; rw [t3, e3, hq]
  rintro ⟨b, us, vs⟩ ⟨hb, e1, e2, e3⟩
  simp only at hb e1 e2 e3
  have key : ∀ (g : T_floor_Point → Int) (f x : Int → Rat), work (nets g l) x f = (qs l fun p => (p.Weight : Rat) * qs p.Cells fun c => f c * cellT p x c) - qs l fun p => (p.Weight : Rat) * qs p.Cells fun c => f c * qs p.At fun q => ((g q : Int) : Rat) := by
    intro g f x
    unfold work nets
    rw [qs_map, ← qs_sub]
    refine qs_congr fun p _ => ?_
    simp only
    rw [show ∀ A B : Rat, (p.Weight : Rat) * A - (p.Weight : Rat) * B = (p.Weight : Rat) * (A - B) by intro A B; grind, ← qs_sub]
    congr 1
    refine qs_congr fun c _ => ?_
    unfold Net.g cellT
    simp only
    rw [List.length_map, qs_map]
    grind
  refine ok_some ⟨hb, fun f x => ?_, fun f x => ?_⟩
  · simp only; rw [key, e1, e2]; grind
  · simp only; rw [key, e1, e3]; grind
end
end Go.Proofs.Ytfkncjfpgflafaa.X
