/- LayLib: eight cells, as lib.Check wants them. -/
import Derived.Test.YtlolchgeedegdaaDoorPA
namespace Go.Proofs.YtlolchgeedegdaaDoor.X
open Go Go.RowKit
set_option linter.unusedVariables false
/-- A cell's numbers: so many inputs with a capacity, so many windows. -/
structure CellN (c : T_api_Cell) (caps ends : Int) : Prop where
  area : 1 ≤ c.Area ∧ c.Area ≤ 3 ∧ c.Ins ≤ 2 * c.Area
  capL : (c.Cap.length : Int) = caps
  cap : ∀ i, inb i c.Cap.length → 2 ≤ gt c.Cap i ∧ gt c.Cap i ≤ 5
  minL : (c.Min.length : Int) = ends
  maxL : (c.Max.length : Int) = ends
  mm : ∀ i, inb i c.Min.length → 0 ≤ gt c.Min i ∧ gt c.Min i ≤ gt c.Max i ∧ gt c.Max i ≤ 10
  drive : 0 ≤ c.Drive ∧ c.Drive ≤ 2
  setup : 0 ≤ c.Setup ∧ c.Setup ≤ 3
  hold : 0 ≤ c.Hold ∧ c.Hold ≤ 3
theorem gt_snoc {xs : List Int} {x i : Int} (h : inb i (xs ++ [x]).length) : (inb i xs.length ∧ gt (xs ++ [x]) i = gt xs i) ∨ (i = xs.length ∧ gt (xs ++ [x]) i = x) := by
  obtain ⟨h0, h1⟩ := h
  simp only [List.length_append, List.length_singleton] at h1
  by_cases e : i = xs.length
  · exact .inr ⟨e, gt_app_1 e⟩
  · exact .inl ⟨⟨h0, by omega⟩, gt_app_l (by omega)⟩
theorem snoc_len (xs : List Int) (x : Int) : ((xs ++ [x]).length : Int) = xs.length + 1 := by simp
/-- A cell of the first kind. -/
structure CellA (c : T_api_Cell) (nm : ByteArray) (k tb : Int) : Prop where
  name : c.Name = nm
  flop : c.Flop = false
  ins : c.Ins = k
  table : c.Table = tb
  setup : c.Setup = 0
  hold : c.Hold = 0
  n : CellN c k k
theorem add_ok {L : List Int} (hL : Strm L) {k : Int} (hk : Few (k + 100)) (hk0 : 0 ≤ k) (name : ByteArray) {ins table : Int} (hi : 1 ≤ ins ∧ ins ≤ 3) {cs : List T_api_Cell} (hcs : cs.length ≤ 100) :
    Ok (P_maskmake_Stream_LayLib_1_2 name ins table (T_maskmake_Stream.mk L k) cs) (fun r => k ≤ r.1 ∧ r.1 ≤ k + 20 ∧ ∃ c, r.2 = cs ++ [c] ∧ CellA c name ins table) := by
  unfold P_maskmake_Stream_LayLib_1_2
  have hd : Int.tdiv (ins + 1) 2 = (ins + 1) / 2 := Int.tdiv_eq_ediv_of_nonneg (by omega)
  refine ok_ar' (by omega) fun x14 e14 => ok_ck (by omega) ?_
  rw [e14]
  rw [hd]
  refine ok_ar' (by omega) fun x15 e15 => ok_bd (hL.next (by omega) (by omega)) fun r0 h0 => ?_
  have h0' := h0.2.1 (by omega)
  refine ok_ar' (by omega) fun x18 e18 => ok_bd (hL.next (by omega) (by omega)) fun r1 h1 => ?_
  have h1' := h1.2.1 (by omega)
  refine ok_bd (R := fun o => (o.1.length : Int) = ins ∧ (o.2.1.length : Int) = ins ∧ (o.2.2.1.length : Int) = ins ∧ (∀ i, inb i o.1.length → 2 ≤ gt o.1 i ∧ gt o.1 i ≤ 5) ∧ (∀ i, inb i o.2.1.length → 0 ≤ gt o.2.1 i ∧ gt o.2.1 i ≤ gt o.2.2.1 i ∧ gt o.2.2.1 i ≤ 10) ∧ k ≤ o.2.2.2 ∧ o.2.2.2 ≤ k + 20) ?_ ?_
  · refine ok_lp (fun s => 0 ≤ s.1 ∧ s.1 ≤ ins ∧ (s.2.1.length : Int) = s.1 ∧ (s.2.2.1.length : Int) = s.1 ∧ (s.2.2.2.1.length : Int) = s.1 ∧ (∀ i, inb i s.2.1.length → 2 ≤ gt s.2.1 i ∧ gt s.2.1 i ≤ 5) ∧ (∀ i, inb i s.2.2.1.length → 0 ≤ gt s.2.2.1 i ∧ gt s.2.2.1 i ≤ gt s.2.2.2.1 i ∧ gt s.2.2.2.1 i ≤ 10) ∧ s.2.2.2.2 = k + 2 + 3 * s.1) (fun s => (ins - s.1).toNat) ?_ ?_ ?_
    · refine ⟨by simp, by simp only; omega, rfl, rfl, rfl, ?_, ?_, by simp only; omega⟩ <;> (intro i hi; obtain ⟨a, b⟩ := hi; simp at b; omega)
    · simp only; omega
    · rintro ⟨y, c, mi, ma, f⟩ ⟨i0, i1, i2, i3, i4, i5, i6, i7⟩
      simp only at i0 i1 i2 i3 i4 i5 i6 i7
      unfold P_maskmake_Stream_LayLib_1_2_L2
      refine ok_ite (fun hlt => ?_) fun hge => ok_some ⟨by simp only; omega, by simp only; omega, by simp only; omega, i5, i6, by simp only; omega, by simp only; omega⟩
      refine ok_bd (hL.next (by omega) (by omega)) fun r3 h3 => ok_bd (hL.range (by omega) (by omega) (by omega) (by omega)) fun r4 h4 => ok_lv (ok_ck (by simp only [List.length_append, List.length_singleton]; omega) (ok_lv (ok_ck (by simp only [List.length_append, List.length_singleton]; omega) ?_)))
      have h3' := h3.2.1 (by omega)
      refine ok_bd (hL.next (by omega) (by omega)) fun r5 h5 => ok_ar' (by have := h5.2.1 (by omega); omega) fun x43 e43 => ok_lv (ok_ck (by simp only [List.length_append, List.length_singleton]; omega) ?_)
      have h5' := h5.2.1 (by omega)
      refine ok_ar' (by omega) fun x49 e49 => ok_some ?_
      refine ⟨⟨by simp only; omega, by simp only; omega, by simp only [snoc_len]; omega, by simp only [snoc_len]; omega, by simp only [snoc_len]; omega, ?_, ?_, by simp only; omega⟩, by simp only; omega⟩
      · intro i hi
        rcases gt_snoc hi with ⟨h, e⟩ | ⟨h, e⟩
        · simp only [e]; exact i5 i h
        · simp only [e]; omega
      · intro i hi
        simp only at hi ⊢
        have hi' : inb i (ma ++ [x43]).length := ⟨hi.1, by have := hi.2; rw [snoc_len] at this ⊢; omega⟩
        rcases gt_snoc hi with ⟨h, e⟩ | ⟨h, e⟩ <;> rcases gt_snoc hi' with ⟨h', e'⟩ | ⟨h', e'⟩
        · rw [e, e']; exact i6 i h
        · have := h.2; omega
        · have := h'.2; omega
        · rw [e, e']; omega
  · rintro ⟨c, mi, ma, f⟩ ⟨o1, o2, o3, o4, o5, o6, o7⟩
    simp only at o1 o2 o3 o4 o5 o6 o7
    refine ok_lv (ok_ck (by simp only [List.length_append, List.length_singleton]; omega) (ok_some ⟨o6, o7, _, rfl, rfl, rfl, rfl, rfl, rfl, rfl, ?_⟩))
    exact ⟨by simp only; omega, o1, o4, o2, o3, o5, by simp only; omega, by simp, by simp⟩
/-- A flip-flop. -/
structure CellF (c : T_api_Cell) (nm : ByteArray) (k : Int) : Prop where
  name : c.Name = nm
  flop : c.Flop = true
  ins : c.Ins = k
  table : c.Table = 0
  n : CellN c (k + 1) 1
/-- A library of a stream. -/
structure Lib8 (l : List T_api_Cell) : Prop where
  len : l.length = 8
  c0 : CellA (gt l 0) ⟨#[98, 117, 102]⟩ 1 2
  c1 : CellA (gt l 1) ⟨#[105, 110, 118]⟩ 1 1
  c2 : CellA (gt l 2) ⟨#[110, 97, 110, 100]⟩ 2 7
  c3 : CellA (gt l 3) ⟨#[111, 114]⟩ 2 14
  c4 : CellA (gt l 4) ⟨#[120, 111, 114]⟩ 2 6
  c5 : CellA (gt l 5) ⟨#[109, 117, 120]⟩ 3 202
  c6 : CellF (gt l 6) ⟨#[100, 102, 102]⟩ 1
  c7 : CellF (gt l 7) ⟨#[100, 102, 102, 101]⟩ 2
theorem flopcaps_ok {L : List Int} (hL : Strm L) {x : Int} (hx : 0 ≤ x ∧ x ≤ 10) (mi ma : List Int) {k : Int} (hk : Few (k + 100)) (hk0 : 0 ≤ k) (s0 : T_maskmake_Stream) (hs : s0.L = L) :
    Ok (lp (P_maskmake_Stream_LayLib_L15 s0 x) fuel (0, [], mi, ma, k)) (fun o => (o.1.length : Int) = x ∧ (∀ i, inb i o.1.length → 2 ≤ gt o.1 i ∧ gt o.1 i ≤ 5) ∧ o.2.1 = mi ∧ o.2.2.1 = ma ∧ k ≤ o.2.2.2 ∧ o.2.2.2 ≤ k + 10) := by
  refine ok_lp (fun s => 0 ≤ s.1 ∧ s.1 ≤ x ∧ (s.2.1.length : Int) = s.1 ∧ (∀ i, inb i s.2.1.length → 2 ≤ gt s.2.1 i ∧ gt s.2.1 i ≤ 5) ∧ s.2.2.1 = mi ∧ s.2.2.2.1 = ma ∧ s.2.2.2.2 = k + s.1) (fun s => (x - s.1).toNat) ⟨by simp, by simp only; omega, rfl, by intro i hi; obtain ⟨a, b⟩ := hi; simp at b; omega, rfl, rfl, by simp⟩ (by simp only; omega) ?_
  rintro ⟨y, c, mi', ma', f⟩ ⟨i0, i1, i2, i3, i4, i5, i6⟩
  simp only at i0 i1 i2 i3 i4 i5 i6
  unfold P_maskmake_Stream_LayLib_L15
  rw [hs]
  refine ok_ite (fun hlt => ?_) fun hge => ok_some ⟨by simp only; omega, i3, i4, i5, by simp only; omega, by simp only; omega⟩
  refine ok_bd (hL.range (by omega) (by omega) (by omega) (by omega)) fun r h => ok_lv (ok_ck (by simp only [List.length_append, List.length_singleton]; omega) (ok_ar' (by omega) fun z ez => ok_some ⟨⟨by simp only; omega, by simp only; omega, by simp only [snoc_len]; omega, ?_, i4, i5, by simp only; omega⟩, by simp only; omega⟩))
  intro i hi
  rcases gt_snoc hi with ⟨h', e⟩ | ⟨h', e⟩
  · simp only [e]; exact i3 i h'
  · simp only [e]; omega
theorem one_inb {i : Int} {x : Int} (h : inb i [x].length) : i = 0 := by obtain ⟨a, b⟩ := h; simp at b; omega
theorem LayLib_ok {L : List Int} (hL : Strm L) {k : Int} (hk : Few (k + 1000)) (hk0 : 0 ≤ k) : Ok (P_maskmake_Stream_LayLib (T_maskmake_Stream.mk L k)) (fun r => Lib8 r.1 ∧ k ≤ r.2 ∧ r.2 ≤ k + 500) := by
  unfold P_maskmake_Stream_LayLib
  refine ok_bd (add_ok hL (by omega) hk0 _ (by omega) (by simp)) ?_
  rintro ⟨k0, _⟩ ⟨a0, b0, c0, rfl, h0⟩
  simp only at a0 b0
  refine ok_bd (add_ok hL (by omega) (by omega) _ (by omega) (by simp)) ?_
  rintro ⟨k1, _⟩ ⟨a1, b1, c1, rfl, h1⟩
  simp only at a1 b1
  refine ok_bd (add_ok hL (by omega) (by omega) _ (by omega) (by simp)) ?_
  rintro ⟨k2, _⟩ ⟨a2, b2, c2, rfl, h2⟩
  simp only at a2 b2
  refine ok_bd (add_ok hL (by omega) (by omega) _ (by omega) (by simp)) ?_
  rintro ⟨k3, _⟩ ⟨a3, b3, c3, rfl, h3⟩
  simp only at a3 b3
  refine ok_bd (add_ok hL (by omega) (by omega) _ (by omega) (by simp)) ?_
  rintro ⟨k4, _⟩ ⟨a4, b4, c4, rfl, h4⟩
  simp only at a4 b4
  refine ok_bd (add_ok hL (by omega) (by omega) _ (by omega) (by simp)) ?_
  rintro ⟨k5, _⟩ ⟨a5, b5, c5, rfl, h5⟩
  simp only at a5 b5
  simp only [List.nil_append, List.cons_append]
  let NM : List ByteArray := [⟨#[100, 102, 102]⟩, ⟨#[100, 102, 102, 101]⟩]
  refine ok_bd (R := fun o => (∃ c6 c7, o.1 = [c0, c1, c2, c3, c4, c5, c6, c7] ∧ CellF c6 ⟨#[100, 102, 102]⟩ 1 ∧ CellF c7 ⟨#[100, 102, 102, 101]⟩ 2) ∧ k ≤ o.2 ∧ o.2 ≤ k + 500) ?_ ?_
  · refine ok_lp (fun s => s.1 = NM ∧ 0 ≤ s.2.1 ∧ s.2.1 ≤ 2 ∧ k ≤ s.2.2.2 ∧ s.2.2.2 ≤ k + 120 + 40 * s.2.1 ∧
        ((s.2.1 = 0 ∧ s.2.2.1 = [c0, c1, c2, c3, c4, c5]) ∨ (s.2.1 = 1 ∧ ∃ c6, s.2.2.1 = [c0, c1, c2, c3, c4, c5, c6] ∧ CellF c6 ⟨#[100, 102, 102]⟩ 1) ∨
          (s.2.1 = 2 ∧ ∃ c6 c7, s.2.2.1 = [c0, c1, c2, c3, c4, c5, c6, c7] ∧ CellF c6 ⟨#[100, 102, 102]⟩ 1 ∧ CellF c7 ⟨#[100, 102, 102, 101]⟩ 2))) (fun s => (2 - s.2.1).toNat) ?_ (by simp) ?_
    · exact ⟨rfl, by simp, by simp, by simp only; omega, by simp only; omega, .inl ⟨rfl, rfl⟩⟩
    · rintro ⟨nm, y, cs, f⟩ ⟨i0, i1, i2, i3, i4, i5⟩
      simp only at i0 i1 i2 i3 i4 i5
      subst i0
      unfold P_maskmake_Stream_LayLib_L10
      refine ok_ite (fun hlt => ?_) fun hge => ?_
      · have hlen : cs.length ≤ 8 := by rcases i5 with ⟨_, rfl⟩ | ⟨_, c6, rfl, _⟩ | ⟨_, c6, c7, rfl, _⟩ <;> simp
        refine ok_ck ⟨i1, by show y < 2; exact hlt⟩ (ok_lv' fun nn enn => ok_bd (hL.range (by omega) (by omega) (by omega) (by omega)) fun r1 h1 => ok_ar' (by omega) fun x33 e33 => ok_bd (hL.next (by omega) (by omega)) fun r2 h2 => ?_)
        have h2' := h2.2.1 (by omega)
        refine ok_ar' (by omega) fun x36 e36 => ok_bd (hL.next (by omega) (by omega)) fun r3 h3 => ?_
        have h3' := h3.2.1 (by omega)
        refine ok_ar' (by omega) fun x42 e42 => ok_bd (hL.next (by omega) (by omega)) fun r4 h4 => ok_bd (hL.next (by omega) (by omega)) fun r5 h5 => ok_bd (hL.next (by omega) (by omega)) fun r6 h6 => ok_ar' (by omega) fun x53 e53 => ?_
        have h4' := h4.2.1 (by omega)
        have h5' := h5.2.1 (by omega)
        have h6' := h6.2.1 (by omega)
        refine ok_bd (flopcaps_ok hL (by omega) _ _ (by omega) (by omega) _ rfl) ?_
        rintro ⟨cap, mi, ma, f'⟩ ⟨q1, q2, q3, q4, q5, q6⟩
        simp only at q1 q2 q3 q4 q5 q6
        subst q3
        subst q4
        have hc : CellF (T_api_Cell.mk nn true x33 0 x36 cap [r1.1] [x42] r4.1 r5.1 r6.1) nn (1 + y) := by
          refine ⟨rfl, rfl, e33, rfl, ⟨by simp only; omega, by simp only; omega, q2, rfl, rfl, ?_, by simp only; omega, by simp only; omega, by simp only; omega⟩⟩
          intro i hi
          have := one_inb hi
          subst this
          simp only [gt, Int.toNat_zero, List.getD_cons_zero]
          omega
        refine ok_lv (ok_ck (by simp only [List.length_append, List.length_singleton]; omega) (ok_ar' (by omega) fun x68 e68 => ok_some ⟨⟨rfl, by simp only; omega, by simp only; omega, by simp only; omega, by simp only; omega, ?_⟩, by simp only; omega⟩))
        rcases i5 with ⟨e, rfl⟩ | ⟨e, c6, rfl, h6⟩ | ⟨e, _⟩
        · subst e
          have en : nn = ⟨#[100, 102, 102]⟩ := by rw [enn]; rfl
          exact .inr (.inl ⟨by simp only; omega, _, rfl, by rw [en] at hc ⊢; exact hc⟩)
        · subst e
          have en : nn = ⟨#[100, 102, 102, 101]⟩ := by rw [enn]; rfl
          exact .inr (.inr ⟨by simp only; omega, _, _, rfl, h6, by rw [en] at hc ⊢; exact hc⟩)
        · omega
      · rcases i5 with ⟨e, _⟩ | ⟨e, _⟩ | ⟨e, h⟩
        · omega
        · omega
        · exact ok_some ⟨h, by simp only; omega, by simp only; omega⟩
  · rintro ⟨cs, f⟩ ⟨⟨c6, c7, rfl, h6, h7⟩, e1, e2⟩
    exact ok_some ⟨⟨rfl, h0, h1, h2, h3, h4, h5, h6, h7⟩, e1, e2⟩
end Go.Proofs.YtlolchgeedegdaaDoor.X
