/- Length of places over a common divisor. Plain. -/
/- place.Length of places over a common divisor. Plain. -/
/- PlaceLeast: no other places have a smaller length. Plain. -/
import Derived.Test.YtfkncjfpgflafaaCC
namespace Go.Proofs.Ytfkncjfpgflafaa.X
open Go Go.RowKit
set_option linter.unusedVariables false
set_option linter.unusedSimpArgs false
set_option linter.unusedSectionVars false
/-- A fraction over a common divisor. -/
def Cd (M : Int) (K : Nat) (q : Rat) : Prop := ∃ m : Int, q = Rat.divInt m M ∧ dlen m ≤ K
section
variable {M N : Int} {K K' : Nat} {p q : Rat}
theorem Cd.mono (h : Cd M K q) (hK : K ≤ K') : Cd M K' q := by
 obtain ⟨m, e, l⟩ := h
 exact ⟨m, e, by omega⟩
theorem Cd.sz (hM : M ≠ 0) (h : Cd M K q) : rsz q ≤ max K (dlen M) := by
 obtain ⟨m, rfl, l⟩ := h
 have := rsz_divInt (n := m) hM
 omega
theorem Cd.add (hM : M ≠ 0) (h : Cd M K p) (h' : Cd M K' q) : Cd M (max K K' + 1) (p + q) := by
 obtain ⟨m, rfl, l⟩ := h
 obtain ⟨n, rfl, l'⟩ := h'
 have := dlen_add m n
 exact ⟨m + n, divInt_add _ _ _ hM, by omega⟩
theorem Cd.sub (hM : M ≠ 0) (h : Cd M K p) (h' : Cd M K' q) : Cd M (max K K' + 1) (p - q) := by
 obtain ⟨m, rfl, l⟩ := h
 obtain ⟨n, rfl, l'⟩ := h'
 have := dlen_add m (-n)
 rw [dlen_neg] at this
 refine ⟨m + -n, ?_, by omega⟩
 rw [← divInt_add _ _ _ hM, Rat.divInt_eq_div, Rat.divInt_eq_div, Rat.divInt_eq_div, Rat.intCast_neg]
 grind
theorem Cd.mul (h : Cd M K p) (h' : Cd N K' q) : Cd (M * N) (K + K') (p * q) := by
 obtain ⟨m, rfl, l⟩ := h
 obtain ⟨n, rfl, l'⟩ := h'
 have := dlen_mul m n
 exact ⟨m * n, Rat.divInt_mul_divInt _ _, by omega⟩
theorem Cd.mulInt (hM : M ≠ 0) (h : Cd M K p) (n : Int) : Cd M (K + dlen n) (p * (n : Rat)) := by
 obtain ⟨m, rfl, l⟩ := h
 have := dlen_mul n m
 refine ⟨n * m, ?_, by omega⟩
 rw [Rat.mul_comm, int_mul_divInt _ _ _ hM]
theorem Cd.of_div (hM : M ≠ 0) {d u : Int} (hd : d ∣ M) (hu : dlen u ≤ K) : Cd M (K + dlen M) (Rat.divInt u d) := by
 obtain ⟨e, rfl⟩ := hd
 have he : e ≠ 0 := fun h => hM (by rw [h, Int.mul_zero])
 have hd0 : d ≠ 0 := fun h => hM (by rw [h, Int.zero_mul])
 have h1 := dlen_mul u e
 have h2 : dlen e ≤ dlen (d * e) := dlen_mono (by
  rw [Int.natAbs_mul]
  exact Nat.le_mul_of_pos_left _ (by omega))
 exact ⟨u * e, (Rat.divInt_mul_right he).symm, by omega⟩
theorem Cd.int (hM : M ≠ 0) (n : Int) : Cd M (dlen n + dlen M) (n : Rat) := by
 have := Cd.of_div (K := dlen n) hM (Int.one_dvd M) (u := n) (Nat.le_refl _)
 have e : Rat.divInt n 1 = (n : Rat) := by rw [Rat.divInt_eq_div]; grind
 rw [e] at this
 exact this
theorem Cd.zero : Cd M K 0 := ⟨0, (Rat.zero_divInt _).symm, by rw [dlen_zero]; omega⟩
end
theorem gt_map {α β : Type} [Inhabited α] [Inhabited β] (f : α → β) {xs : List α} {y : Int} (h : inb y xs.length) : gt (xs.map f) y = f (gt xs y) := by
 rw [gt_get h, gt_get (by rw [List.length_map]; exact h)]
 simp
theorem take_map' {α β : Type} [Inhabited α] (l : List α) {m : Nat} (h : m < l.length) (g : α → β) : (l.take (m + 1)).map g = (l.take m).map g ++ [g (gt l (m : Int))] := by
 rw [List.take_succ_eq_append_getElem h, List.map_append, gt_get (i := (m : Int)) ⟨by omega, by omega⟩]
 rfl
section
variable {M : Int} (hM : M ≠ 0) (hL : dlen M ≤ 11)
include hM hL
theorem MM_ne : M * M ≠ 0 := Int.mul_ne_zero hM hM
theorem MM_len : dlen (M * M) ≤ 22 := by have := dlen_mul M M; omega
section
variable {rs : List Rat} (hl : rs.length ≤ 10) (h : ∀ q ∈ rs, Cd M 17 q)
include hl h
theorem s1_cd : ∀ j : Nat, j ≤ rs.length → Cd M (17 + j) (qs (rs.take j) fun z => z) := by
 intro j
 induction j with
 | zero => intro _; rw [List.take_zero, qs_nil]; exact Cd.zero
 | succ j ih =>
  intro hj
  rw [qs_take rs (by omega)]
  exact ((ih (by omega)).add hM (h _ (gt_mem ⟨by omega, by omega⟩))).mono (by omega)
theorem s2_cd : ∀ j : Nat, j ≤ rs.length → Cd (M * M) (34 + j) (qs (rs.take j) fun z => z * z) := by
 intro j
 induction j with
 | zero => intro _; rw [List.take_zero, qs_nil]; exact Cd.zero
 | succ j ih =>
  intro hj
  have hq := h _ (gt_mem (i := (j : Int)) (xs := rs) ⟨by omega, by omega⟩)
  rw [qs_take rs (by omega)]
  exact ((ih (by omega)).add (MM_ne hM hL) (hq.mul hq)).mono (by omega)
theorem en_cd : Cd (M * M) 55 (en rs) := by
 have a1 := s1_cd hM hL hl h rs.length (Nat.le_refl _)
 have a2 := s2_cd hM hL hl h rs.length (Nat.le_refl _)
 rw [List.take_length] at a1 a2
 have dl : dlen (rs.length : Int) ≤ 1 := dlen_le (by rw [Nat.pow_one]; omega)
 have b1 := a2.mulInt (MM_ne hM hL) (rs.length : Int)
 have b2 := a1.mul a1
 have b3 := (b1.sub (MM_ne hM hL) b2).mono (K' := 55) (by omega)
 have e : en rs = qs rs (fun z => z * z) * (((rs.length : Nat) : Int) : Rat) - qs rs (fun z => z) * qs rs (fun z => z) := by
  unfold en
  rw [Rat.mul_comm]
  rfl
 rw [e]; exact b3
theorem squares_ok : Ok (P_place_squares (rs.map rt)) (fun r => r = (rt (en rs), 0)) := by
 have ml := MM_len hM hL
 have m0 := MM_ne hM hL
 have z0 : ((0 : Int) : Rat) = 0 := rfl
 unfold P_place_squares
 refine ok_bd (Whole_ok (by omega)) ?_
 rintro _ rfl
 refine ok_bd (Whole_ok (by omega)) ?_
 rintro _ rfl
 rw [z0]
 refine ok_bs1 (R := fun s => s = ((rt (qs rs fun z => z)).Num.fneg, (rt (qs rs fun z => z)).Num.fmag, (rt (qs rs fun z => z)).Den.fneg, (rt (qs rs fun z => z)).Den.fmag, (rt (qs rs fun z => z * z)).Num.fneg, (rt (qs rs fun z => z * z)).Num.fmag, (rt (qs rs fun z => z * z)).Den.fneg, (rt (qs rs fun z => z * z)).Den.fmag)) ?_ ?_
 ·refine ok_lp (fun s => ∃ j : Nat, ∃ u v : Rat, j ≤ rs.length ∧ u = qs (rs.take j) (fun z => z) ∧ v = qs (rs.take j) (fun z => z * z) ∧ s = ((j : Int), (rt u).Num.fneg, (rt u).Num.fmag, (rt u).Den.fneg, (rt u).Den.fmag, (rt v).Num.fneg, (rt v).Num.fmag, (rt v).Den.fneg, (rt v).Den.fmag)) (fun s => ((rs.length : Int) - s.1).toNat)
   ⟨0, 0, 0, Nat.zero_le _, by rw [List.take_zero, qs_nil], by rw [List.take_zero, qs_nil], rfl⟩ (by simp only; omega) ?_
  rintro _ ⟨j, u, v, hj, hu, hv, rfl⟩
  unfold P_place_squares_L3
  dsimp only
  rw [List.length_map]
  refine ok_ite (fun hlt => ?_) fun hge => ok_some ⟨_, rfl, by rw [hu, hv, show j = rs.length by omega, List.take_length]⟩
  have hb : inb (j : Int) rs.length := ⟨by omega, hlt⟩
  have hq := h _ (gt_mem hb)
  have c1 := s1_cd hM hL hl h j hj
  have c2 := s2_cd hM hL hl h j hj
  have c3 := s1_cd hM hL hl h (j + 1) (by omega)
  have c4 := s2_cd hM hL hl h (j + 1) (by omega)
  have e3 := qs_take rs (m := j) (by omega) (fun z => z)
  have e4 := qs_take rs (m := j) (by omega) (fun z => z * z)
  rw [← hu] at c1 e3
  rw [← hv] at c2 e4
  refine ok_ck ⟨by omega, hlt⟩ (ok_lv ?_)
  rw [gt_map rt hb]
  generalize gt rs (j : Int) = q at hq e3 e4
  have s1 := hq.sz hM
  have s2 := (hq.mul hq).sz m0
  have s3 := c1.sz hM
  have s4 := c2.sz m0
  have s5 := c3.sz hM
  have s6 := c4.sz m0
  rw [e3] at s5
  rw [e4] at s6
  refine ok_bd (Prod_ok (by omega) (by omega) (by omega)) ?_
  rintro _ rfl
  refine ok_bd (R := fun s => s = (0, (rt (v + q * q)).Num.fneg, (rt (v + q * q)).Num.fmag, (rt (v + q * q)).Den.fneg, (rt (v + q * q)).Den.fmag)) (ok_t rfl ?_) ?_
  ·simp only [rt_eta]
   refine ok_bd (Sum_ok (by omega) (by omega) (by omega)) ?_
   rintro _ rfl
   exact ok_some rfl
  rintro _ rfl
  refine ok_bd (R := fun s => s = (0, (rt (u + q)).Num.fneg, (rt (u + q)).Num.fmag, (rt (u + q)).Den.fneg, (rt (u + q)).Den.fmag)) (ok_t rfl ?_) ?_
  ·simp only [rt_eta]
   refine ok_bd (Sum_ok (by omega) (by omega) (by omega)) ?_
   rintro _ rfl
   exact ok_some rfl
  rintro _ rfl
  exact ok_f (by simp) (ok_ar (by omega) (ok_some ⟨⟨j + 1, u + q, v + q * q, by omega, e3.symm, e4.symm, by simp⟩, by simp only; omega⟩))
 rintro _ rfl
 have a1 := s1_cd hM hL hl h rs.length (Nat.le_refl _)
 have a2 := s2_cd hM hL hl h rs.length (Nat.le_refl _)
 rw [List.take_length] at a1 a2
 have dl : dlen (rs.length : Int) ≤ 1 := dlen_le (by rw [Nat.pow_one]; omega)
 have b1 := a2.mulInt m0 (rs.length : Int)
 have b2 := a1.mul a1
 have b3 := (b1.sub m0 b2)
 have t1 := a1.sz hM
 have t2 := a2.sz m0
 have t3 := b1.sz m0
 have t4 := b2.sz m0
 have t5 := b3.sz m0
 have t6 := rsz_int (rs.length : Int)
 have e : en rs = qs rs (fun z => z * z) * (((rs.length : Nat) : Int) : Rat) - qs rs (fun z => z) * qs rs (fun z => z) := by
  unfold en
  rw [Rat.mul_comm]
  rfl
 dsimp only
 rw [List.length_map]
 refine ok_bd (Whole_ok (by omega)) ?_
 rintro _ rfl
 simp only [rt_eta]
 refine ok_bd (Prod_ok (by omega) (by omega) (by omega)) ?_
 rintro _ rfl
 refine ok_f (by simp) (ok_bd (Prod_ok (by omega) (by omega) (by omega)) ?_)
 rintro _ rfl
 refine ok_f (by simp) (ok_bd (Diff_ok (by omega) (by omega) (by omega)) ?_)
 rintro _ rfl
 exact ok_some (by rw [e])
end
end
end Go.Proofs.Ytfkncjfpgflafaa.X
namespace Go.Proofs.Ytfkncjfpgflafaa.X
open Go Go.RowKit
set_option linter.unusedVariables false
set_option linter.unusedSimpArgs false
set_option linter.unusedSectionVars false
/-- Places over a common divisor. -/
structure Places (n : Nat) (at_ : List T_place_Spot) (x y : Int → Rat) (M : Int) : Prop where
 len : at_.length = n
 out : ∀ i : Nat, i < n → gt at_ (i : Int) = ⟨rt (x (i : Int)), rt (y (i : Int))⟩
 cx : ∀ i : Nat, i < n → Cd M 17 (x (i : Int))
 cy : ∀ i : Nat, i < n → Cd M 17 (y (i : Int))
/-- The places of a net along an axis. -/
def co (g : T_floor_Point → Int) (p : T_place_Pull) (x : Int → Rat) : List Rat := p.Cells.map x ++ p.At.map fun q => ((g q : Int) : Rat)
section
variable {M : Int} (hM : M ≠ 0) (hL : dlen M ≤ 11)
include hM hL
theorem w_len {w : Int} (w1 : 1 ≤ w) (w5 : w ≤ 5) : dlen w ≤ 1 := dlen_le (by rw [Nat.pow_one]; omega)
theorem L30_ok {p : T_place_Pull} (w1 : 1 ≤ p.Weight) (w5 : p.Weight ≤ 5) {xs ys : List Rat} (lx : xs.length ≤ 10) (ly : ys.length ≤ 10) (cx : ∀ q ∈ xs, Cd M 17 q) (cy : ∀ q ∈ ys, Cd M 17 q) {S : Rat} {K : Nat} (cS : Cd (M * M) K S) (K0 : 56 ≤ K) (K1 : K ≤ 100) :
  Ok (lp (P_place_Length_L30 p) fuel ([xs.map rt, ys.map rt], 0, (rt S).Num.fneg, (rt S).Num.fmag, (rt S).Den.fneg, (rt S).Den.fmag)) (fun o => ∃ u, u = S + en xs * (p.Weight : Rat) + en ys * (p.Weight : Rat) ∧ o = Sum.inl ((rt u).Num.fneg, (rt u).Num.fmag, (rt u).Den.fneg, (rt u).Den.fmag)) := by
 have ml := MM_len hM hL
 have m0 := MM_ne hM hL
 have wl := w_len hM hL w1 w5
 have ex := (en_cd hM hL lx cx).mulInt m0 p.Weight
 have ey := (en_cd hM hL ly cy).mulInt m0 p.Weight
 refine ok_lp (fun s => ∃ (j : Nat) (u : Rat), ((j = 0 ∧ u = S) ∨ (j = 1 ∧ u = S + en xs * (p.Weight : Rat)) ∨ (j = 2 ∧ u = S + en xs * (p.Weight : Rat) + en ys * (p.Weight : Rat))) ∧ s = ([xs.map rt, ys.map rt], (j : Int), (rt u).Num.fneg, (rt u).Num.fmag, (rt u).Den.fneg, (rt u).Den.fmag)) (fun s => (2 - s.2.1).toNat)
  ⟨0, S, Or.inl ⟨rfl, rfl⟩, rfl⟩ (by simp only; omega) ?_
 rintro _ ⟨j, u, hj, rfl⟩
 unfold P_place_Length_L30
 dsimp only
 refine ok_ite (fun hlt => ?_) fun hge => ok_some ⟨u, ?_, rfl⟩
 ·have key : ∃ rs : List Rat, gt [xs.map rt, ys.map rt] (j : Int) = rs.map rt ∧ rs.length ≤ 10 ∧ (∀ q ∈ rs, Cd M 17 q) ∧ ((j + 1 = 1 ∧ u + en rs * (p.Weight : Rat) = S + en xs * (p.Weight : Rat)) ∨ (j + 1 = 2 ∧ u + en rs * (p.Weight : Rat) = S + en xs * (p.Weight : Rat) + en ys * (p.Weight : Rat))) ∧ Cd (M * M) (K + 1) u := by
   rcases hj with ⟨rfl, rfl⟩ | ⟨rfl, rfl⟩ | ⟨rfl, rfl⟩
   ·exact ⟨xs, rfl, lx, cx, Or.inl ⟨rfl, rfl⟩, cS.mono (by omega)⟩
   ·exact ⟨ys, rfl, ly, cy, Or.inr ⟨rfl, rfl⟩, (cS.add m0 ex).mono (by omega)⟩
   ·omega
  obtain ⟨rs, e1, lr, cr, hn, cu⟩ := key
  have er := en_cd hM hL lr cr
  have ew := er.mulInt m0 p.Weight
  have es := cu.add m0 ew
  have t1 := er.sz m0
  have t2 := ew.sz m0
  have t3 := es.sz m0
  have t4 := cu.sz m0
  have t5 := rsz_int p.Weight
  refine ok_ck ⟨by omega, by simp only [List.length_cons, List.length_nil]; omega⟩ (ok_lv ?_)
  rw [e1]
  refine ok_bd (squares_ok hM hL lr cr) ?_
  rintro _ rfl
  refine ok_bd (R := fun s => s = (0, (rt (en rs * (p.Weight : Rat))).Num.fneg, (rt (en rs * (p.Weight : Rat))).Num.fmag, (rt (en rs * (p.Weight : Rat))).Den.fneg, (rt (en rs * (p.Weight : Rat))).Den.fmag)) (ok_t rfl ?_) ?_
  ·refine ok_bd (Whole_ok (by omega)) ?_
   rintro _ rfl
   refine ok_bd (Prod_ok (by omega) (by omega) (by omega)) ?_
   rintro _ rfl
   exact ok_some rfl
  rintro _ rfl
  refine ok_bd (R := fun s => s = (0, (rt (u + en rs * (p.Weight : Rat))).Num.fneg, (rt (u + en rs * (p.Weight : Rat))).Num.fmag, (rt (u + en rs * (p.Weight : Rat))).Den.fneg, (rt (u + en rs * (p.Weight : Rat))).Den.fmag)) (ok_t rfl ?_) ?_
  ·simp only [rt_eta]
   refine ok_bd (Sum_ok (by omega) (by omega) (by omega)) ?_
   rintro _ rfl
   exact ok_some rfl
  rintro _ rfl
  exact ok_f (by simp) (ok_ar (by omega) (ok_some ⟨⟨j + 1, u + en rs * (p.Weight : Rat), Or.inr hn, by simp⟩, by simp only; omega⟩))
 ·rcases hj with ⟨rfl, rfl⟩ | ⟨rfl, rfl⟩ | ⟨rfl, rfl⟩
  ·omega
  ·omega
  ·rfl
section
variable {n : Nat} {l : List T_place_Pull} (h : PullsOk n l) (hn : n ≤ 8) {at_ : List T_place_Spot} {x y : Int → Rat} (hp : Places n at_ x y M)
include h hn hp
theorem co_cd {p : T_place_Pull} (q : PullOk n p) : ((co (·.X) p x).length ≤ 10 ∧ ∀ z ∈ co (·.X) p x, Cd M 17 z) ∧ ((co (·.Y) p y).length ≤ 10 ∧ ∀ z ∈ co (·.Y) p y, Cd M 17 z) := by
 have c1 := q.cl
 have c2 := q.al
 have at_cd : ∀ t : Int, -60 ≤ t → t ≤ 60 → Cd M 17 (t : Rat) := fun t t0 t1 => by
  have : dlen t ≤ 1 := dlen_le (by rw [Nat.pow_one]; omega)
  exact (Cd.int hM t).mono (by omega)
 refine ⟨⟨by simp only [co, List.length_append, List.length_map]; omega, fun z hz => ?_⟩, ⟨by simp only [co, List.length_append, List.length_map]; omega, fun z hz => ?_⟩⟩
 ·rcases List.mem_append.1 hz with hz | hz
  ·obtain ⟨c, hc, rfl⟩ := List.mem_map.1 hz
   obtain ⟨c0, c3⟩ := q.cs c hc
   obtain ⟨c, rfl⟩ := Int.eq_ofNat_of_zero_le c0
   exact hp.cx c (by omega)
  ·obtain ⟨b, hb, rfl⟩ := List.mem_map.1 hz
   have := q.pt b hb
   exact at_cd b.X (by omega) (by omega)
 ·rcases List.mem_append.1 hz with hz | hz
  ·obtain ⟨c, hc, rfl⟩ := List.mem_map.1 hz
   obtain ⟨c0, c3⟩ := q.cs c hc
   obtain ⟨c, rfl⟩ := Int.eq_ofNat_of_zero_le c0
   exact hp.cy c (by omega)
  ·obtain ⟨b, hb, rfl⟩ := List.mem_map.1 hz
   have := q.pt b hb
   exact at_cd b.Y (by omega) (by omega)
/-- What a net adds to the length. -/
def netL (x y : Int → Rat) (p : T_place_Pull) : Rat := en (co (·.X) p x) * (p.Weight : Rat) + en (co (·.Y) p y) * (p.Weight : Rat)
theorem T_cd : ∀ j : Nat, j ≤ l.length → Cd (M * M) (56 + 2 * j) (qs (l.take j) (netL x y)) := by
 have m0 := MM_ne hM hL
 intro j
 induction j with
 | zero => intro _; rw [List.take_zero, qs_nil]; exact Cd.zero
 | succ j ih =>
  intro hj
  rw [qs_take l (by omega)]
  have q := h.all _ (gt_mem (i := (j : Int)) (xs := l) ⟨by omega, by omega⟩)
  generalize gt l (j : Int) = p at q
  obtain ⟨⟨a1, a2⟩, a3, a4⟩ := co_cd hM hL h hn hp q
  have wl := w_len hM hL q.w1 q.w5
  have b1 := (en_cd hM hL a1 a2).mulInt m0 p.Weight
  have b2 := (en_cd hM hL a3 a4).mulInt m0 p.Weight
  exact ((ih (by omega)).add m0 (b1.add m0 b2)).mono (by omega)
theorem coords_ok {p : T_place_Pull} (q : PullOk n p) : Ok (lp (P_place_Length_L20 at_ p) fuel ([], [], 0)) (fun r => r = (p.Cells.map fun c => rt (x c), p.Cells.map fun c => rt (y c))) := by
 have c1 := q.cl
 refine ok_lp (fun s => ∃ j : Nat, j ≤ p.Cells.length ∧ s = ((p.Cells.take j).map (fun c => rt (x c)), (p.Cells.take j).map (fun c => rt (y c)), (j : Int))) (fun s => ((p.Cells.length : Int) - s.2.2).toNat) ⟨0, Nat.zero_le _, by simp⟩ (by simp only; omega) ?_
 rintro _ ⟨j, hj, rfl⟩
 unfold P_place_Length_L20
 dsimp only
 refine ok_ite (fun hlt => ?_) fun hge => ok_some (by rw [show j = p.Cells.length by omega, List.take_length])
 have hc := q.cs _ (gt_mem (i := (j : Int)) (xs := p.Cells) ⟨by omega, hlt⟩)
 have e1 := take_map' p.Cells (m := j) (by omega) fun c => rt (x c)
 have e2 := take_map' p.Cells (m := j) (by omega) fun c => rt (y c)
 refine ok_ck ⟨by omega, hlt⟩ (ok_lv ?_)
 generalize gt p.Cells (j : Int) = c at hc e1 e2
 obtain ⟨c0, c3⟩ := hc
 obtain ⟨c, rfl⟩ := Int.eq_ofNat_of_zero_le c0
 have hl := hp.len
 rw [hp.out c (by omega)]
 refine ok_ck ⟨c0, by omega⟩ (ok_lv (ok_lv (ok_ck (by simp only [apOk, List.length_append, List.length_singleton, List.length_map, List.length_take]; omega) (ok_ck ⟨c0, by omega⟩ (ok_lv (ok_lv (ok_ck (by simp only [apOk, List.length_append, List.length_singleton, List.length_map, List.length_take]; omega) (ok_ar (by omega) (ok_some ⟨⟨j + 1, by omega, ?_⟩, by simp only; omega⟩)))))))))
 rw [e1, e2]
 simp
theorem points_ok {p : T_place_Pull} (q : PullOk n p) : Ok (lp (P_place_Length_L25 p) fuel (p.Cells.map fun c => rt (x c), p.Cells.map fun c => rt (y c), 0)) (fun r => r = ((co (·.X) p x).map rt, (co (·.Y) p y).map rt)) := by
 have c1 := q.cl
 have c2 := q.al
 refine ok_lp (fun s => ∃ j : Nat, j ≤ p.At.length ∧ s = ((p.Cells.map fun c => rt (x c)) ++ (p.At.take j).map (fun b => rt (b.X : Rat)), (p.Cells.map fun c => rt (y c)) ++ (p.At.take j).map (fun b => rt (b.Y : Rat)), (j : Int))) (fun s => ((p.At.length : Int) - s.2.2).toNat) ⟨0, Nat.zero_le _, by simp⟩ (by simp only; omega) ?_
 rintro _ ⟨j, hj, rfl⟩
 unfold P_place_Length_L25
 dsimp only
 refine ok_ite (fun hlt => ?_) fun hge => ok_some ?_
 ·have hb := q.pt _ (gt_mem (i := (j : Int)) (xs := p.At) ⟨by omega, hlt⟩)
  have e1 := take_map' p.At (m := j) (by omega) fun b => rt (b.X : Rat)
  have e2 := take_map' p.At (m := j) (by omega) fun b => rt (b.Y : Rat)
  refine ok_ck ⟨by omega, hlt⟩ (ok_lv ?_)
  generalize gt p.At (j : Int) = b at hb e1 e2
  refine ok_bd (Whole_ok (by omega)) ?_
  rintro _ rfl
  refine ok_lv (ok_ck (by simp only [apOk, List.length_append, List.length_singleton, List.length_map, List.length_take]; omega) (ok_bd (Whole_ok (by omega)) ?_))
  rintro _ rfl
  refine ok_lv (ok_ck (by simp only [apOk, List.length_append, List.length_singleton, List.length_map, List.length_take]; omega) (ok_ar (by omega) (ok_some ⟨⟨j + 1, by omega, ?_⟩, by simp only; omega⟩)))
  rw [e1, e2]
  simp
 ·rw [show j = p.At.length by omega, List.take_length]
  unfold co
  rw [List.map_append, List.map_append, List.map_map, List.map_map, List.map_map, List.map_map]
  rfl
theorem Length_ok : Ok (P_place_Length at_ l) (fun r => r = (rt (qs l (netL x y)), 0)) := by
 have hlen := h.len
 have hl := hp.len
 have m0 := MM_ne hM hL
 have ml := MM_len hM hL
 unfold P_place_Length
 rw [hl]
 refine ok_bd (PCheck_ok h hn) ?_
 rintro _ rfl
 refine ok_f (by simp) (ok_bs1 (R := fun _ => True) ?_ fun _ _ => ?_)
 ·refine ok_lp (fun y => 0 ≤ y ∧ y ≤ n) (fun y => ((n : Int) - y).toNat) ⟨by omega, by omega⟩ (by omega) ?_
  rintro z ⟨z0, z1⟩
  obtain ⟨i, rfl⟩ := Int.eq_ofNat_of_zero_le z0
  unfold P_place_Length_L5
  rw [hl]
  refine ok_ite (fun hlt => ?_) fun hge => ok_some ⟨(), rfl, trivial⟩
  have s1 := (hp.cx i (by omega)).sz hM
  have s2 := (hp.cy i (by omega)).sz hM
  refine ok_ck ⟨by omega, by omega⟩ (ok_lv ?_)
  rw [hp.out i (by omega)]
  simp only [rt_eta]
  refine ok_bd (RCheck_ok (by omega)) ?_
  rintro _ rfl
  refine ok_f (by simp) (ok_bd (RCheck_ok (by omega)) ?_)
  rintro _ rfl
  exact ok_f (by simp) (ok_ar (by omega) (ok_some ⟨⟨by omega, by omega⟩, by omega⟩))
 refine ok_bd (Whole_ok (by omega)) ?_
 rintro _ rfl
 refine ok_bs1 (R := fun s => s = ((rt (qs l (netL x y))).Num.fneg, (rt (qs l (netL x y))).Num.fmag, (rt (qs l (netL x y))).Den.fneg, (rt (qs l (netL x y))).Den.fmag)) ?_ ?_
 ·refine ok_lp (fun s => ∃ (j : Nat) (u : Rat), j ≤ l.length ∧ u = qs (l.take j) (netL x y) ∧ s = ((j : Int), (rt u).Num.fneg, (rt u).Num.fmag, (rt u).Den.fneg, (rt u).Den.fmag)) (fun s => ((l.length : Int) - s.1).toNat)
   ⟨0, 0, Nat.zero_le _, by rw [List.take_zero, qs_nil], rfl⟩ (by simp only; omega) ?_
  rintro _ ⟨j, u, hj, hu, rfl⟩
  unfold P_place_Length_L16
  dsimp only
  refine ok_ite (fun hlt => ?_) fun hge => ok_some ⟨_, rfl, by rw [hu, show j = l.length by omega, List.take_length]⟩
  have q := h.all _ (gt_mem (i := (j : Int)) (xs := l) ⟨by omega, hlt⟩)
  have e := qs_take l (m := j) (by omega) (netL x y)
  have cu := T_cd hM hL h hn hp j hj
  rw [← hu] at e cu
  refine ok_ck ⟨by omega, hlt⟩ (ok_lv ?_)
  generalize gt l (j : Int) = p at q e
  obtain ⟨⟨a1, a2⟩, a3, a4⟩ := co_cd hM hL h hn hp q
  refine ok_bd (coords_ok hM hL h hn hp q) ?_
  rintro _ rfl
  refine ok_bd (points_ok hM hL h hn hp q) ?_
  rintro _ rfl
  refine ok_bs (L30_ok hM hL q.w1 q.w5 a1 a3 a2 a4 cu (by omega) (by omega)) ?_ ?_
  ·rintro _ ⟨u', hu', e'⟩
   cases e'
   refine ok_ar (by omega) (ok_some ⟨⟨j + 1, u', by omega, ?_, by simp⟩, by simp only; omega⟩)
   rw [e, hu']
   unfold netL
   grind
  ·rintro _ ⟨u', hu', e'⟩
   cases e'
 rintro _ rfl
 exact ok_some (by simp only [rt_eta])
theorem Length_sz : rsz (qs l (netL x y)) ≤ 100 := by
 have hlen := h.len
 have c := T_cd hM hL h hn hp l.length (Nat.le_refl _)
 rw [List.take_length] at c
 have := c.sz (MM_ne hM hL)
 have ml := MM_len hM hL
 omega
end
end
theorem netL_tot (l : List T_place_Pull) (x y : Int → Rat) : qs l (netL x y) = tot (nets (·.X) l) x + tot (nets (·.Y) l) y := by
 unfold tot nets
 rw [qs_map, qs_map, ← qs_add]
 refine qs_congr fun p _ => ?_
 show en (co (·.X) p x) * (p.Weight : Rat) + en (co (·.Y) p y) * (p.Weight : Rat) = (p.Weight : Rat) * en (co (·.X) p x) + (p.Weight : Rat) * en (co (·.Y) p y)
 grind
end Go.Proofs.Ytfkncjfpgflafaa.X
namespace Go.Proofs.Ytfkncjfpgflafaa.X
open Go Go.RowKit
set_option linter.unusedVariables false
set_option linter.unusedSimpArgs false
theorem places_ok : Ok P_maskkeep4_places (fun r => r = true) := ⟨true, by decide +kernel, rfl⟩
theorem cloneP_ok (xs : List T_place_Spot) (h : xs.length ≤ 10000) : Ok (P_slices_Clone_place_Spot_place_Spot xs) (fun r => r = xs) := by
 unfold P_slices_Clone_place_Spot_place_Spot
 exact ok_lv (ok_ck (by simp only [apOk, List.nil_append]; omega) (ok_some (List.nil_append _)))
theorem Make_ok {u v : Int} (hv : v ≠ 0) (lu : dlen u ≤ 100) (lv : dlen v ≤ 100) : Ok (P_exact_Make (big u) (big v)) (fun r => r = (rt (Rat.divInt u v), 0)) := by
 have hs := rsz_divInt (n := u) hv
 unfold P_exact_Make
 refine ok_bd Sign_ok ?_
 rintro _ rfl
 refine ok_f (by rw [Int.sign_eq_zero_iff_zero]; exact hv) (ok_bd (reduced_ok hv (by omega) (by omega) (by omega)) ?_)
 rintro _ rfl
 exact ok_some rfl
theorem dvd_small {v : Int} (h1 : 1 ≤ v) (h2 : v ≤ 9) : v ∣ 2520 := by
 have : v = 1 ∨ v = 2 ∨ v = 3 ∨ v = 4 ∨ v = 5 ∨ v = 6 ∨ v = 7 ∨ v = 8 ∨ v = 9 := by omega
 rcases this with rfl | rfl | rfl | rfl | rfl | rfl | rfl | rfl | rfl <;> decide
theorem num_zero {q : Rat} : q.num.sign = 0 ↔ q = 0 := by
 rw [Int.sign_eq_zero_iff_zero, Rat.num_eq_zero]
theorem PlaceLeast_ok {L : List Int} (hL : Strm L) : Ok (P_maskkeep4_PlaceLeast L) (fun r => r = true) := by
 unfold P_maskkeep4_PlaceLeast
 refine ok_bd (hL.range (by omega) (by omega) (by omega) (by omega)) ?_
 rintro ⟨n, q⟩ ⟨n0, n1, rfl⟩
 simp only at n0 n1 ⊢
 obtain ⟨n, rfl⟩ := Int.eq_ofNat_of_zero_le (show 0 ≤ n by omega)
 have hn : n ≤ 8 := by omega
 refine ok_bd (pulls_ok hL (by omega) (by omega) hn) ?_
 rintro ⟨l, k⟩ ⟨hl, -, k0, k1⟩
 simp only at hl k0 k1 ⊢
 refine ok_bd (PSolve_ok hl (by omega) (by omega)) ?_
 rintro ⟨at_, e⟩ ⟨e0, X, Y, D, G, hs, w1, w2⟩
 simp only at e0 hs ⊢
 subst e0
 refine ok_bd places_ok ?_
 rintro _ rfl
 have a1 := hs.len
 refine ok_lv (ok_lv (ok_f ?_ ?_))
 ·simp only [Bool.or_eq_true, decide_eq_true_eq, Bool.not_eq_true', ne_eq, not_true_eq_false, or_false, false_or]
  rw [a1]
  simp
 -- the common divisor
 obtain ⟨M, hMd⟩ : ∃ M : Int, M = 2520 * (D * G) := ⟨_, rfl⟩
 have hM : M ≠ 0 := by rw [hMd]; exact Int.mul_ne_zero (by decide) (Int.mul_ne_zero hs.D0 hs.G0)
 have dM : D ∣ M := ⟨2520 * G, by rw [hMd]; grind⟩
 have gM : G ∣ M := ⟨2520 * D, by rw [hMd]; grind⟩
 have vM : (2520 : Int) ∣ M := ⟨D * G, hMd⟩
 have hML : dlen M ≤ 11 := by
  have m1 := dlen_mul 2520 (D * G)
  have m2 := dlen_mul D G
  have m3 : dlen 2520 ≤ 1 := dlen_le (by decide)
  have m4 := hs.DL
  have m5 := hs.GL
  rw [hMd]
  omega
 have cX : ∀ i : Nat, i < n → Cd M 16 (frac X D (i : Int)) := fun i hi => by
  rw [frac_nat]; exact (Cd.of_div hM dM (hs.XL i hi)).mono (by omega)
 have cY : ∀ i : Nat, i < n → Cd M 16 (frac Y G (i : Int)) := fun i hi => by
  rw [frac_nat]; exact (Cd.of_div hM gM (hs.YL i hi)).mono (by omega)
 have hp : Places n at_ (frac X D) (frac Y G) M := ⟨a1, hs.out, fun i hi => (cX i hi).mono (by omega), fun i hi => (cY i hi).mono (by omega)⟩
 refine ok_bd (Length_ok hM hML hl hn hp) ?_
 rintro _ rfl
 refine ok_bd (cloneP_ok at_ (by omega)) ?_
 rintro _ rfl
 refine ok_bd (R := fun s => ∃ x y : Int → Rat, Places n s.1 x y M ∧ (s.2 = false → x = frac X D ∧ y = frac Y G) ∧ (s.2 = true → ∃ c : Int, 0 ≤ c ∧ c < n ∧ (x c ≠ frac X D c ∨ y c ≠ frac Y G c))) ?_ ?_
 ·refine ok_lp (fun s => ∃ (j : Nat) (x y : Int → Rat), j ≤ n ∧ s.2.2.1 = (j : Int) ∧ 0 ≤ s.2.2.2 ∧ s.2.2.2 ≤ k + 6 * j ∧ Places n s.1 x y M ∧ (∀ c : Int, (j : Int) ≤ c → x c = frac X D c ∧ y c = frac Y G c) ∧ (s.2.1 = false → x = frac X D ∧ y = frac Y G) ∧ (s.2.1 = true → ∃ c : Int, 0 ≤ c ∧ c < n ∧ (c < j) ∧ (x c ≠ frac X D c ∨ y c ≠ frac Y G c))) (fun s => ((n : Int) - s.2.2.1).toNat)
   ⟨0, frac X D, frac Y G, Nat.zero_le _, rfl, by simp only; omega, by simp only; omega, hp, fun c _ => ⟨rfl, rfl⟩, fun _ => ⟨rfl, rfl⟩, fun e => by cases e⟩ (by simp only; omega) ?_
  rintro ⟨ot, mv, y, b⟩ ⟨j, x, y', hj, rfl, b0, b1, po, hx, m0, m1⟩
  simp only at b0 b1 po hx m0 m1 ⊢
  unfold P_maskkeep4_PlaceLeast_L11
  dsimp only
  rw [a1]
  refine ok_ite (fun hlt => ?_) fun hge => ok_some ⟨x, y', po, m0, fun e => by obtain ⟨c, c0, c1, -, c2⟩ := m1 e; exact ⟨c, c0, c1, c2⟩⟩
  have hjn : j < n := by omega
  have lo := po.len
  refine ok_bd (hL.flip (by omega) (by omega)) ?_
  rintro ⟨fl, q3⟩ e3
  simp only at e3 ⊢
  subst e3
  -- the first coordinate
  refine ok_bd (R := fun s : List T_place_Spot × Bool × Int => ∃ x2 : Int → Rat, 0 ≤ s.2.2 ∧ s.2.2 ≤ b + 3 ∧ Places n s.1 x2 y' M ∧ (∀ c : Int, (j : Int) < c → x2 c = frac X D c) ∧ (s.2.1 = false → x2 = frac X D ∧ y' = frac Y G) ∧ (s.2.1 = true → ∃ c : Int, 0 ≤ c ∧ c < n ∧ (c < j + 1) ∧ (x2 c ≠ frac X D c ∨ y' c ≠ frac Y G c))) ?_ ?_
  ·refine ok_ite (fun hf => ?_) fun hf => ok_some ⟨x, by simp only; omega, by simp only; omega, po, fun c hc => (hx c (by omega)).1, m0, fun e => by obtain ⟨c, c0, c1, c2, c3⟩ := m1 e; exact ⟨c, c0, c1, by omega, c3⟩⟩
   refine ok_bd (hL.range (by omega) (by omega) (by omega) (by omega)) ?_
   rintro ⟨u, q4⟩ ⟨u0, u1, rfl⟩
   simp only at u0 u1 ⊢
   refine ok_bd (Of_ok (by omega)) ?_
   rintro _ rfl
   refine ok_bd (hL.range (by omega) (by omega) (by omega) (by omega)) ?_
   rintro ⟨v, q5⟩ ⟨v0, v1, rfl⟩
   simp only at v0 v1 ⊢
   refine ok_bd (Of_ok (by omega)) ?_
   rintro _ rfl
   have du : dlen u ≤ 1 := dlen_le (by rw [Nat.pow_one]; omega)
   have dv : dlen v ≤ 1 := dlen_le (by rw [Nat.pow_one]; omega)
   refine ok_bd (Make_ok (by omega) (by omega) (by omega)) ?_
   rintro _ rfl
   have cd : Cd M 12 (Rat.divInt u v) := (Cd.of_div hM (Int.dvd_trans (dvd_small v0 v1) vM) du).mono (by omega)
   generalize Rat.divInt u v = d at cd
   refine ok_ck ⟨by omega, by omega⟩ (ok_lv ?_)
   rw [po.out j hjn]
   have ex := (hx j (by omega)).1
   have cs : Cd M 17 (x (j : Int) + d) := by rw [ex]; exact ((cX j hjn).add hM cd).mono (by omega)
   have z1 := (po.cx j hjn).sz hM
   have z2 := cd.sz hM
   have z3 := cs.sz hM
   refine ok_bd (Sum_ok (by omega) (by omega) (by omega)) ?_
   rintro _ rfl
   refine ok_ck ⟨by omega, by omega⟩ (ok_lv ?_)
   refine ok_bd (R := fun r => mv = false → r = d.num.sign) (ok_gd (fun _ => by rw [rt_num, big_eta]; exact Sign_ok.mono fun r hr _ => hr) fun hq e => by rw [e] at hq; cases hq) ?_
   intro sg hsg
   have pl : Places n (stt ot (j : Int) ⟨rt (x (j : Int) + d), rt (y' (j : Int))⟩) (fun c => if c = (j : Int) then x (j : Int) + d else x c) y' M := by
    refine ⟨by rw [stt_length]; exact lo, fun i hi => ?_, fun i hi => ?_, po.cy⟩
    ·rw [gt_stt _ _ ⟨by omega, by omega⟩ (by omega)]
     by_cases e : (i : Int) = (j : Int)
     ·rw [if_pos e]; rw [if_pos e, e]
     ·rw [if_neg e]; rw [if_neg e]; exact po.out i hi
    ·by_cases e : (i : Int) = (j : Int)
     ·rw [if_pos e]; exact cs
     ·rw [if_neg e]; exact po.cx i hi
   refine ok_lv (ok_some ⟨_, by simp only; omega, by simp only; omega, pl, fun c hc => ?_, fun e => ?_, fun e => ?_⟩)
   ·rw [if_neg (by omega)]; exact (hx c (by omega)).1
   ·simp only [Bool.or_eq_false_iff, decide_eq_false_iff_not, ne_eq, Decidable.not_not] at e
    obtain ⟨f1, f2⟩ := m0 e.1
    have d0 : d = 0 := num_zero.1 (by rw [← hsg e.1]; exact e.2)
    refine ⟨?_, f2⟩
    funext c
    by_cases ec : c = (j : Int)
    ·rw [if_pos ec, ec, d0, f1]; grind
    ·rw [if_neg ec, f1]
   ·simp only [Bool.or_eq_true, decide_eq_true_eq] at e
    by_cases hmv : mv = true
    ·obtain ⟨c, c0, c1, c2, c3⟩ := m1 hmv
     refine ⟨c, c0, c1, by omega, ?_⟩
     rw [if_neg (by omega)]; exact c3
    ·have hf' : mv = false := by simpa using hmv
     have hs0 : sg ≠ 0 := by rcases e with e | e; exact absurd e hmv; exact e
     refine ⟨(j : Int), by omega, by omega, by omega, Or.inl ?_⟩
     simp only [if_true]
     rw [ex]
     intro h0
     apply hs0
     rw [hsg hf']
     exact num_zero.2 (by grind)
  rintro ⟨ot2, mv2, b2⟩ ⟨x2, b20, b21, po2, hx2, m02, m12⟩
  simp only at b20 b21 po2 hx2 m02 m12 ⊢
  have lo2 := po2.len
  refine ok_bd (hL.flip (by omega) (by omega)) ?_
  rintro ⟨fl2, q6⟩ e6
  simp only at e6 ⊢
  subst e6
  -- the second coordinate
  refine ok_bd (R := fun s : List T_place_Spot × Bool × Int => ∃ y2 : Int → Rat, 0 ≤ s.2.2 ∧ s.2.2 ≤ b2 + 2 ∧ Places n s.1 x2 y2 M ∧ (∀ c : Int, (j : Int) < c → y2 c = frac Y G c) ∧ (s.2.1 = false → x2 = frac X D ∧ y2 = frac Y G) ∧ (s.2.1 = true → ∃ c : Int, 0 ≤ c ∧ c < n ∧ (c < j + 1) ∧ (x2 c ≠ frac X D c ∨ y2 c ≠ frac Y G c))) ?_ ?_
  ·refine ok_ite (fun hf => ?_) fun hf => ok_some ⟨y', by simp only; omega, by simp only; omega, po2, fun c hc => (hx c (by omega)).2, m02, m12⟩
   refine ok_bd (hL.next (by omega) (by omega)) ?_
   rintro ⟨u, q7⟩ ⟨u0, u1, -, rfl⟩
   simp only at u0 u1 ⊢
   have u1 := u1 (by omega)
   have du : dlen u ≤ 1 := dlen_le (by rw [Nat.pow_one]; omega)
   refine ok_bd (Whole_ok (by omega)) ?_
   rintro _ rfl
   have cu : Cd M 17 (u : Rat) := (Cd.int hM u).mono (by omega)
   generalize (u : Rat) = d at cu
   have z1 := cu.sz hM
   have z2 := (cY j hjn).sz hM
   have ey := (hx j (by omega)).2
   have pl : Places n (stt ot2 (j : Int) ⟨rt (x2 (j : Int)), rt d⟩) x2 (fun c => if c = (j : Int) then d else y' c) M := by
    refine ⟨by rw [stt_length]; exact lo2, fun i hi => ?_, po2.cx, fun i hi => ?_⟩
    ·rw [gt_stt _ _ ⟨by omega, by omega⟩ (by omega)]
     by_cases e : (i : Int) = (j : Int)
     ·rw [if_pos e]; rw [if_pos e, e]
     ·rw [if_neg e]; rw [if_neg e]; exact po2.out i hi
    ·by_cases e : (i : Int) = (j : Int)
     ·rw [if_pos e]; exact cu
     ·rw [if_neg e]; exact po2.cy i hi
   refine ok_ck ⟨by omega, by omega⟩ (ok_lv ?_)
   rw [po2.out j hjn]
   refine ok_ck (fun _ => ⟨by omega, by rw [stt_length]; omega⟩) (ok_lv (ok_ck (fun _ => ⟨by omega, by omega⟩) (ok_lv ?_)))
   rw [pl.out j hjn, hs.out j hjn]
   simp only [if_pos]
   refine ok_bd (R := fun r => mv2 = false → (r = 0 ↔ d = frac Y G (j : Int))) (ok_gd (fun _ => (Compare_ok (by omega) (by omega)).mono fun r hr _ => by rw [hr]; exact (cmp_sign _ _).1) fun hq e => by rw [e] at hq; cases hq) ?_
   intro sg hsg
   refine ok_lv (ok_some ⟨_, by simp only; omega, by simp only; omega, pl, fun c hc => ?_, fun e => ?_, fun e => ?_⟩)
   ·rw [if_neg (by omega)]; exact (hx c (by omega)).2
   ·simp only [Bool.or_eq_false_iff, decide_eq_false_iff_not, ne_eq, Decidable.not_not] at e
    obtain ⟨f1, f2⟩ := m02 e.1
    have d0 := (hsg e.1).1 e.2
    refine ⟨f1, ?_⟩
    funext c
    by_cases ec : c = (j : Int)
    ·rw [if_pos ec, ec, d0]
    ·rw [if_neg ec, f2]
   ·simp only [Bool.or_eq_true, decide_eq_true_eq] at e
    by_cases hmv : mv2 = true
    ·obtain ⟨c, c0, c1, c2, c3⟩ := m12 hmv
     by_cases ec : c = (j : Int)
     ·subst ec
      rcases c3 with c3 | c3
      ·exact ⟨_, c0, c1, c2, Or.inl c3⟩
      ·exact absurd ey c3
     ·refine ⟨c, c0, c1, c2, ?_⟩
      rw [if_neg ec]; exact c3
    ·have hf' : mv2 = false := by simpa using hmv
     have hs0 : sg ≠ 0 := by rcases e with e | e; exact absurd e hmv; exact e
     refine ⟨(j : Int), by omega, by omega, by omega, Or.inr ?_⟩
     simp only [if_true]
     skip
     exact fun h0 => hs0 ((hsg hf').2 h0)
  rintro ⟨ot3, mv3, b3⟩ ⟨y3, b30, b31, po3, hy3, m03, m13⟩
  simp only at b30 b31 po3 hy3 m03 m13 ⊢
  exact ok_ar (by omega) (ok_some ⟨⟨j + 1, x2, y3, by omega, by simp only; omega, b30, by simp only; omega, po3, fun c hc => ⟨hx2 c (by omega), hy3 c (by omega)⟩, m03, fun e => by obtain ⟨c, c0, c1, c2, c3⟩ := m13 e; exact ⟨c, c0, c1, by omega, c3⟩⟩, by simp only; omega⟩)
 rintro ⟨ot, mv⟩ ⟨x, y, po, m0, m1⟩
 simp only at po m0 m1 ⊢
 refine ok_bd (Length_ok hM hML hl hn po) ?_
 rintro _ rfl
 have s1 := Length_sz hM hML hl hn hp
 have s2 := Length_sz hM hML hl hn po
 -- the difference of the lengths
 have ax := tot_add (nets (·.X) l) (frac X D) (fun c => x c - frac X D c)
 have ay := tot_add (nets (·.Y) l) (frac Y G) (fun c => y c - frac Y G c)
 rw [w1] at ax
 rw [w2] at ay
 have fx : (fun c => frac X D c + (x c - frac X D c)) = x := by funext c; grind
 have fy : (fun c => frac Y G c + (y c - frac Y G c)) = y := by funext c; grind
 rw [fx] at ax
 rw [fy] at ay
 have nx := z_nonneg (nets_w hl (·.X)) (fun c => x c - frac X D c)
 have ny := z_nonneg (nets_w hl (·.Y)) (fun c => y c - frac Y G c)
 refine ok_bd (Compare_ok (by omega) (by omega)) ?_
 rintro c hc
 have t := cmp_sign (qs l (netL (frac X D) (frac Y G))) (qs l (netL x y))
 rw [← hc] at t
 clear hc
 rw [netL_tot, netL_tot] at t
 refine ok_lv (ok_lv (ok_lv (ok_lv (ok_some ?_))))
 cases mv with
 | false =>
  obtain ⟨f1, f2⟩ := m0 rfl
  have c0 : c = 0 := t.1.2 (by rw [f1, f2])
  rw [c0]; rfl
 | true =>
  obtain ⟨i, i0, i1, hi⟩ := m1 rfl
  have c0 : c < 0 := by
   refine t.2.2 ?_
   rw [ax, ay]
   have : ¬ (work ((nets (·.X) l).map Net.z) (fun c => x c - frac X D c) (fun c => x c - frac X D c) = 0 ∧ work ((nets (·.Y) l).map Net.z) (fun c => y c - frac Y G c) (fun c => y c - frac Y G c) = 0) := by
    rintro ⟨h1, h2⟩
    have k1 := z_kernel (nets_w hl (·.X)) (nets_held hl (·.X)) h1 i i0 i1
    have k2 := z_kernel (nets_w hl (·.Y)) (nets_held hl (·.Y)) h2 i i0 i1
    rcases hi with hi | hi
    ·exact hi (by grind)
    ·exact hi (by grind)
   grind
  have e1 : decide (c < 0) = true := decide_eq_true c0
  rw [e1]; rfl
end Go.Proofs.Ytfkncjfpgflafaa.X
