/- Placed: netlists of cells of LayLib. Plain. -/
import Derived.Test.YtlolchgeedegdaaDoorPB
import Derived.Test.YtlolchgeedegdaaDoorYQ
namespace Go.Proofs.YtlolchgeedegdaaDoor.X
open Go Go.RowKit
set_option linter.unusedVariables false
theorem decDigits_size : ((List.range 100).all fun n => decide ((Go.Lib.decDigits n).length ≤ 2)) = true := by decide +kernel
theorem itoa_size {n : Int} (h0 : 0 ≤ n) (h1 : n < 100) : (itoa n).size ≤ 2 := by
  have := List.all_eq_true.1 decDigits_size n.toNat (List.mem_range.2 (by omega))
  simp only [decide_eq_true_eq] at this
  simpa [itoa, ByteArray.size] using this
theorem Itoa_ok {n : Int} (h0 : 0 ≤ n) (h1 : n < 100) : Ok (P_strconv_Itoa n) (fun r => r = itoa n ∧ r.size ≤ 2) := by
  unfold P_strconv_Itoa
  exact ok_ck ⟨h0, by omega⟩ (ok_some ⟨rfl, itoa_size h0 h1⟩)
theorem gt_snoc' {α : Type} [Inhabited α] {xs : List α} {x : α} {i : Int} (h : inb i (xs ++ [x]).length) : (inb i xs.length ∧ gt (xs ++ [x]) i = gt xs i) ∨ (i = xs.length ∧ gt (xs ++ [x]) i = x) := by
  obtain ⟨h0, h1⟩ := h
  simp only [List.length_append, List.length_singleton] at h1
  by_cases e : i = xs.length
  · exact .inr ⟨e, gt_app_1 e⟩
  · exact .inl ⟨⟨h0, by omega⟩, gt_app_l (by omega)⟩
/-- All elements of a list. -/
def All {α : Type} [Inhabited α] (p : Int → α → Prop) (xs : List α) : Prop := ∀ i, inb i xs.length → p i (gt xs i)
theorem All.nil {α : Type} [Inhabited α] {p : Int → α → Prop} : All p [] := fun i hi => by obtain ⟨a, b⟩ := hi; simp at b; omega
theorem All.snoc {α : Type} [Inhabited α] {p : Int → α → Prop} {xs : List α} {x : α} (h : All p xs) (hx : p xs.length x) : All p (xs ++ [x]) := by
  intro i hi
  rcases gt_snoc' hi with ⟨h1, e⟩ | ⟨h1, e⟩
  · rw [e]; exact h i h1
  · rw [e, h1]; exact hx
theorem All.mono {α : Type} [Inhabited α] {p q : Int → α → Prop} {xs : List α} (h : All p xs) (hpq : ∀ i x, inb i xs.length → p i x → q i x) : All q xs := fun i hi => hpq i _ hi (h i hi)
theorem net_ok {L : List Int} (hL : Strm L) {k most : Int} (hk : Few (k + 5)) (hk0 : 0 ≤ k) (hm : 1 ≤ most ∧ most ≤ 1000) : Ok (P_maskmake_Stream_Placed_1 most (T_maskmake_Stream.mk L k)) (fun r => 0 ≤ r.1 ∧ r.1 < most ∧ r.2 = k + 2) := by
  unfold P_maskmake_Stream_Placed_1
  refine ok_bd (hL.next (by omega) (by omega)) ?_
  rintro ⟨a, k1⟩ ⟨a0, a1, -, rfl⟩
  simp only at a0 a1
  refine ok_ite (fun h => ?_) fun h => ?_
  · refine ok_ar (by omega) (ok_lv (ok_bd (hL.next (by simp only; omega) (by omega)) ?_))
    rintro ⟨b, k2⟩ ⟨b0, b1, -, rfl⟩
    have b1 := b1 (by omega)
    simp only at b0 b1
    exact ok_ar (by omega) (ok_some ⟨by simp only; omega, by simp only; omega, by simp only; omega⟩)
  · refine ok_bd (hL.next (by simp only; omega) (by omega)) ?_
    rintro ⟨b, k2⟩ ⟨b0, b1, -, rfl⟩
    have b1 := b1 (by omega)
    simp only at b0 b1
    exact ok_some ⟨by simp only; omega, by simp only; omega, by simp only; omega⟩
/-- A letter and a number. -/
def nm (c : UInt8) (i : Int) : ByteArray := (⟨#[c]⟩ : ByteArray) ++ itoa i
theorem nm_size (c : UInt8) {i : Int} (h0 : 0 ≤ i) (h1 : i < 100) : (nm c i).size ≤ 3 := by
  have := itoa_size h0 h1
  unfold nm
  rw [ByteArray.size_append]
  have : (⟨#[c]⟩ : ByteArray).size = 1 := rfl
  omega
/-- A netlist that Placed returns. -/
structure PlacedN (n : T_api_Netlist) (l : List T_api_Cell) (ins flops gates outs : Int) : Prop where
  inL : (n.In.length : Int) = ins
  outL : (n.Out.length : Int) = outs
  outsL : (n.Outs.length : Int) = outs
  flopL : (n.Flops.length : Int) = flops
  gateL : (n.Gates.length : Int) = gates
  inN : All (fun i x => x = nm 105 i) n.In
  outN : All (fun i x => x = nm 111 i) n.Out
  outs : All (fun _ x => 0 ≤ x ∧ x < 2 + ins + flops + gates) n.Outs
  flop : All (fun i f => f.Name = nm 102 i ∧ (0 ≤ f.D ∧ f.D < 2 + ins + flops + gates) ∧ (f.Cell = 6 ∧ f.En = 1 ∨ f.Cell = 7 ∧ 0 ≤ f.En ∧ f.En < 2 + ins + flops + gates)) n.Flops
  gate : All (fun i g => (0 ≤ g.Cell ∧ g.Cell < 6) ∧ g.Table = (gt l g.Cell).Table ∧ (g.Ins.length : Int) = (gt l g.Cell).Ins ∧ All (fun _ x => 0 ≤ x ∧ x < 2 + ins + flops + i) g.Ins) n.Gates
theorem Lib8.ins {l : List T_api_Cell} (h : Lib8 l) {i : Int} (hi : 0 ≤ i ∧ i < 6) : 1 ≤ (gt l i).Ins ∧ (gt l i).Ins ≤ 3 := by
  rcases (by omega : i = 0 ∨ i = 1 ∨ i = 2 ∨ i = 3 ∨ i = 4 ∨ i = 5) with e | e | e | e | e | e <;> subst e
  · rw [h.c0.ins]; omega
  · rw [h.c1.ins]; omega
  · rw [h.c2.ins]; omega
  · rw [h.c3.ins]; omega
  · rw [h.c4.ins]; omega
  · rw [h.c5.ins]; omega
theorem Placed_ok {L : List Int} (hL : Strm L) {k : Int} (hk : Few (k + 10000)) (hk0 : 0 ≤ k) {l : List T_api_Cell} (hl : Lib8 l) {ins flops gates outs : Int} (hi : 1 ≤ ins ∧ ins ≤ 20) (hf : 0 ≤ flops ∧ flops ≤ 20) (hg : 0 ≤ gates ∧ gates ≤ 100) (ho : 0 ≤ outs ∧ outs ≤ 20) :
    Ok (P_maskmake_Stream_Placed (T_maskmake_Stream.mk L k) l ins flops gates outs) (fun r => PlacedN r.1 l ins flops gates outs ∧ k ≤ r.2 ∧ r.2 ≤ k + 5000) := by
  have h8 := hl.len
  unfold P_maskmake_Stream_Placed
  refine ok_bd (R := fun r => (r.length : Int) = ins ∧ All (fun i x => x = nm 105 i) r) ?_ ?_
  · refine ok_lp (fun s => 0 ≤ s.1 ∧ s.1 ≤ ins ∧ (s.2.length : Int) = s.1 ∧ All (fun i x => x = nm 105 i) s.2) (fun s => (ins - s.1).toNat) ⟨by simp, by simp only; omega, by simp, All.nil⟩ (by simp only; omega) ?_
    rintro ⟨y, b⟩ ⟨y0, y1, y2, y3⟩
    simp only at y0 y1 y2 y3
    unfold P_maskmake_Stream_Placed_L3
    dsimp only
    refine ok_ite (fun hlt => ok_bd (Itoa_ok y0 (by omega)) ?_) fun hge => ok_some ⟨by omega, y3⟩
    rintro _ ⟨rfl, hs⟩
    refine ok_ck (by have : (⟨#[105]⟩ : ByteArray).size = 1 := rfl; omega) (ok_lv (ok_ck ?_ (ok_ar (by omega) (ok_some ⟨⟨by simp only; omega, by simp only; omega, by simp only [List.length_append, List.length_singleton]; omega, y3.snoc (by rw [y2]; rfl)⟩, by simp only; omega⟩))))
    simp only [List.length_append, List.length_singleton]; omega
  rintro nin ⟨i1, i2⟩
  refine ok_ar (by omega) (ok_ar (by omega) ?_)
  have hx : (2 : Int) + ins + flops = 2 + ins + flops := rfl
  refine ok_bd (R := fun r => (r.1.length : Int) = gates ∧ All (fun i g => (0 ≤ g.Cell ∧ g.Cell < 6) ∧ g.Table = (gt l g.Cell).Table ∧ (g.Ins.length : Int) = (gt l g.Cell).Ins ∧ All (fun _ x => 0 ≤ x ∧ x < 2 + ins + flops + i) g.Ins) r.1 ∧ k ≤ r.2 ∧ r.2 ≤ k + 700) ?_ ?_
  · refine ok_lp (fun s => 0 ≤ s.1 ∧ s.1 ≤ gates ∧ (s.2.1.length : Int) = s.1 ∧ (k ≤ s.2.2 ∧ s.2.2 ≤ k + 7 * s.1) ∧ All (fun i g => (0 ≤ g.Cell ∧ g.Cell < 6) ∧ g.Table = (gt l g.Cell).Table ∧ (g.Ins.length : Int) = (gt l g.Cell).Ins ∧ All (fun _ x => 0 ≤ x ∧ x < 2 + ins + flops + i) g.Ins) s.2.1) (fun s => (gates - s.1).toNat) ⟨by simp, by simp only; omega, by simp, by simp, All.nil⟩ (by simp only; omega) ?_
    rintro ⟨y, gs, q⟩ ⟨y0, y1, y2, y3, y4⟩
    simp only at y0 y1 y2 y3 y4
    unfold P_maskmake_Stream_Placed_L10
    dsimp only
    refine ok_ite (fun hlt => ok_bd (hL.next (by omega) (by omega)) ?_) fun hge => ok_some ⟨by simp only; omega, y4, by simp only; omega, by simp only; omega⟩
    rintro ⟨c, q1⟩ ⟨c0, c1, -, rfl⟩
    have c1 := c1 (by omega)
    simp only at c0 c1
    have hci := hl.ins ⟨c0, c1⟩
    refine ok_ck ⟨c0, by omega⟩ (ok_lv (ok_ck ⟨c0, by omega⟩ (ok_lv (ok_bd (R := fun r => (r.1.length : Int) = (gt l c).Ins ∧ (q + 1 ≤ r.2 ∧ r.2 ≤ q + 7) ∧ All (fun _ x => 0 ≤ x ∧ x < 2 + ins + flops + y) r.1) ?_ ?_))))
    · refine ok_lp (fun s => 0 ≤ s.1 ∧ s.1 ≤ (gt l c).Ins ∧ (s.2.1.length : Int) = s.1 ∧ s.2.2 = q + 1 + 2 * s.1 ∧ All (fun _ x => 0 ≤ x ∧ x < 2 + ins + flops + y) s.2.1) (fun s => ((gt l c).Ins - s.1).toNat) ⟨by simp, by simp only; omega, by simp, by simp, All.nil⟩ (by simp only; omega) ?_
      rintro ⟨z, xs, q2⟩ ⟨z0, z1, z2, z3, z4⟩
      simp only at z0 z1 z2 z3 z4
      subst z3
      unfold P_maskmake_Stream_Placed_L15
      dsimp only
      refine ok_ite (fun hlt => ok_ar (by omega) (ok_bd (net_ok hL (by omega) (by omega) (by omega)) ?_)) fun hge => ok_some ⟨by simp only; omega, by simp only; omega, z4⟩
      rintro ⟨x, q3⟩ ⟨x0, x1, rfl⟩
      simp only at x0 x1
      refine ok_lv (ok_ck ?_ (ok_ar (by omega) (ok_some ⟨⟨by simp only; omega, by simp only; omega, by simp only [List.length_append, List.length_singleton]; omega, by simp only; omega, z4.snoc ⟨x0, x1⟩⟩, by simp only; omega⟩)))
      simp only [List.length_append, List.length_singleton]; omega
    · rintro ⟨xs, q2⟩ ⟨h1, h2, h3⟩
      simp only at h1 h2 h3
      refine ok_lv (ok_ck ?_ (ok_ar (by omega) (ok_some ⟨⟨by simp only; omega, by simp only; omega, by simp only [List.length_append, List.length_singleton]; omega, by simp only; omega, y4.snoc ⟨⟨c0, c1⟩, rfl, h1, ?_⟩⟩, by simp only; omega⟩)))
      · simp only [List.length_append, List.length_singleton]; omega
      · rw [y2]; exact h3
  rintro ⟨gs, q⟩ ⟨g1, g2, g3, g4⟩
  simp only at g1 g2 g3 g4
  refine ok_bd (R := fun r => (r.1.length : Int) = flops ∧ All (fun i f => f.Name = nm 102 i ∧ (0 ≤ f.D ∧ f.D < 2 + ins + flops + gates) ∧ (f.Cell = 6 ∧ f.En = 1 ∨ f.Cell = 7 ∧ 0 ≤ f.En ∧ f.En < 2 + ins + flops + gates)) r.1 ∧ q ≤ r.2 ∧ r.2 ≤ q + 200) ?_ ?_
  · refine ok_lp (fun s => 0 ≤ s.1 ∧ s.1 ≤ flops ∧ (s.2.1.length : Int) = s.1 ∧ (q ≤ s.2.2 ∧ s.2.2 ≤ q + 10 * s.1) ∧ All (fun i f => f.Name = nm 102 i ∧ (0 ≤ f.D ∧ f.D < 2 + ins + flops + gates) ∧ (f.Cell = 6 ∧ f.En = 1 ∨ f.Cell = 7 ∧ 0 ≤ f.En ∧ f.En < 2 + ins + flops + gates)) s.2.1) (fun s => (flops - s.1).toNat) ⟨by simp, by simp only; omega, by simp, by simp, All.nil⟩ (by simp only; omega) ?_
    rintro ⟨y, fs, q1⟩ ⟨y0, y1, y2, y3, y4⟩
    simp only at y0 y1 y2 y3 y4
    unfold P_maskmake_Stream_Placed_L21
    dsimp only
    refine ok_ite (fun hlt => ok_bd (Itoa_ok y0 (by omega)) ?_) fun hge => ok_some ⟨by simp only; omega, y4, by simp only; omega, by simp only; omega⟩
    rintro _ ⟨rfl, hs⟩
    refine ok_ck (by have : (⟨#[102]⟩ : ByteArray).size = 1 := rfl; omega) (ok_ar (by omega) (ok_bd (net_ok hL (by omega) (by omega) (by omega)) ?_))
    rintro ⟨d, q2⟩ ⟨d0, d1, rfl⟩
    simp only at d0 d1
    refine ok_bd (hL.flip (by simp only; omega) (by omega)) ?_
    rintro ⟨b1, q3⟩ rfl
    refine ok_bd (hL.flip (by simp only; omega) (by omega)) ?_
    rintro ⟨b2, q4⟩ rfl
    refine ok_bd (R := fun o => (o.1 = 6 ∧ o.2.1 = 1 ∨ o.1 = 7 ∧ 0 ≤ o.2.1 ∧ o.2.1 < 2 + ins + flops + gates) ∧ q1 ≤ o.2.2 ∧ o.2.2 ≤ q1 + 10) ?_ ?_
    · refine ok_ite (fun _ => ok_bd (hL.next (by simp only; omega) (by omega)) ?_) fun _ => ok_some ⟨.inl ⟨rfl, rfl⟩, by simp only; omega, by simp only; omega⟩
      rintro ⟨e, q5⟩ ⟨e0, e1, -, rfl⟩
      simp only at e0 e1
      refine ok_bd_ite (fun _ => ?_) fun _ => ok_bd_some (ok_some ⟨.inr ⟨rfl, by simp only; omega, by simp only; omega⟩, by simp only; omega, by simp only; omega⟩)
      refine ok_bd_ar (by omega) (ok_bd_bd (ok_bd (net_ok hL (by simp only; omega) (by simp only; omega) (by omega)) ?_))
      rintro ⟨en, q6⟩ ⟨n0, n1, rfl⟩
      simp only at n0 n1
      exact ok_bd_some (ok_some ⟨.inr ⟨rfl, n0, n1⟩, by simp only; omega, by simp only; omega⟩)
    rintro ⟨cl, en, q5⟩ ⟨h1, h2, h3⟩
    simp only at h1 h2 h3
    refine ok_lv (ok_ck ?_ (ok_ar (by omega) (ok_some ⟨⟨by simp only; omega, by simp only; omega, by simp only [List.length_append, List.length_singleton]; omega, by simp only; omega, y4.snoc ⟨by rw [y2]; rfl, ⟨d0, d1⟩, h1⟩⟩, by simp only; omega⟩)))
    simp only [List.length_append, List.length_singleton]; omega
  rintro ⟨fs, q'⟩ ⟨f1, f2, f3, f4⟩
  simp only at f1 f2 f3 f4
  refine ok_bd (R := fun r => (r.1.length : Int) = outs ∧ (r.2.1.length : Int) = outs ∧ All (fun i x => x = nm 111 i) r.1 ∧ All (fun _ x => 0 ≤ x ∧ x < 2 + ins + flops + gates) r.2.1 ∧ q' ≤ r.2.2 ∧ r.2.2 ≤ q' + 40) ?_ ?_
  · refine ok_lp (fun s => 0 ≤ s.1 ∧ s.1 ≤ outs ∧ (s.2.1.length : Int) = s.1 ∧ (s.2.2.1.length : Int) = s.1 ∧ s.2.2.2 = q' + 2 * s.1 ∧ All (fun i x => x = nm 111 i) s.2.1 ∧ All (fun _ x => 0 ≤ x ∧ x < 2 + ins + flops + gates) s.2.2.1) (fun s => (outs - s.1).toNat) ⟨by simp, by simp only; omega, by simp, by simp, by simp, All.nil, All.nil⟩ (by simp only; omega) ?_
    rintro ⟨y, ns, os, q1⟩ ⟨y0, y1, y2, y3, y6, y4, y5⟩
    simp only at y0 y1 y2 y3 y4 y5 y6
    subst y6
    unfold P_maskmake_Stream_Placed_L31
    dsimp only
    refine ok_ite (fun hlt => ok_bd (Itoa_ok y0 (by omega)) ?_) fun hge => ok_some ⟨by simp only; omega, by simp only; omega, y4, y5, by simp only; omega, by simp only; omega⟩
    rintro _ ⟨rfl, hs⟩
    refine ok_ck (by have : (⟨#[111]⟩ : ByteArray).size = 1 := rfl; omega) (ok_lv (ok_ck ?_ (ok_ar (by omega) (ok_bd (net_ok hL (by omega) (by omega) (by omega)) ?_))))
    · simp only [List.length_append, List.length_singleton]; omega
    rintro ⟨x, q2⟩ ⟨x0, x1, rfl⟩
    simp only at x0 x1
    refine ok_lv (ok_ck ?_ (ok_ar (by omega) (ok_some ⟨⟨by simp only; omega, by simp only; omega, by simp only [List.length_append, List.length_singleton]; omega, by simp only [List.length_append, List.length_singleton]; omega, by simp only; omega, y4.snoc (by rw [y2]; rfl), y5.snoc ⟨x0, x1⟩⟩, by simp only; omega⟩)))
    simp only [List.length_append, List.length_singleton]; omega
  rintro ⟨ns, os, q1⟩ ⟨o1, o2, o3, o4, o5, o6⟩
  simp only at o1 o2 o3 o4 o5 o6
  exact ok_some ⟨⟨i1, o1, o2, f1, g1, i2, o3, o4, f2, g2⟩, by simp only; omega, by simp only; omega⟩
end Go.Proofs.YtlolchgeedegdaaDoor.X
