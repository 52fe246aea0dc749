/- The limits of a stream, for any netlist of words. Plain. -/
import Derived.Test.YtkenpbnpemjbhaaDoorKB
namespace Go.Proofs.YtkenpbnpemjbhaaDoor.X
open Go Go.RowKit
set_option linter.unusedVariables false
set_option linter.unusedSimpArgs false
set_option linter.unusedSectionVars false
structure WinN (m : Int) (w : T_tree_Window) : Prop where
  lo : 0 ≤ w.Lo
  le : w.Lo ≤ w.Hi
  hi : w.Hi ≤ m
theorem window_ok {L : List Int} (hL : Strm L) {k : Int} (hk : Few (k + 5)) (hk0 : 0 ≤ k) : Ok (P_maskmake_Stream_window (T_maskmake_Stream.mk L k) 6) (fun r => WinN 10 r.1 ∧ r.2 = k + 2) := by
  unfold P_maskmake_Stream_window
  refine ok_bd (hL.next (by omega) (by omega)) ?_
  rintro ⟨a, k1⟩ ⟨a0, a1, -, rfl⟩
  have a1 := a1 (by omega)
  refine ok_bd (hL.next (by omega) (by omega)) ?_
  rintro ⟨b, k2⟩ ⟨b0, b1, -, rfl⟩
  have b1 := b1 (by omega)
  simp only at a0 a1 b0 b1
  exact ok_ar (by omega) (ok_some ⟨⟨by simp only; omega, by simp only; omega, by simp only; omega⟩, by simp only; omega⟩)
theorem pick3_ok {L : List Int} (hL : Strm L) {k : Int} (hk : Few (k + 5)) (hk0 : 0 ≤ k) (a b c : Int) : Ok (P_maskmake_Stream_Pick (T_maskmake_Stream.mk L k) [a, b, c]) (fun r => (r.1 = a ∨ r.1 = b ∨ r.1 = c) ∧ r.2 = k + 1) := by
  unfold P_maskmake_Stream_Pick
  refine ok_bd (hL.next (by omega) (by simp)) ?_
  rintro ⟨i, k1⟩ ⟨i0, i1, -, rfl⟩
  have i1 := i1 (by simp)
  simp only [List.length_cons, List.length_nil] at i0 i1
  refine ok_ck ⟨i0, by simp only [List.length_cons, List.length_nil]; omega⟩ (ok_lv (ok_some ⟨?_, rfl⟩))
  rcases (by omega : i = 0 ∨ i = 1 ∨ i = 2) with rfl | rfl | rfl
  · exact .inl rfl
  · exact .inr (.inl rfl)
  · exact .inr (.inr rfl)
/-- No name, a port's, or a flip-flop's. -/
def NameW (ns : List ByteArray) (fs : List T_api_Flop) (s : ByteArray) : Prop := s = (⟨#[]⟩ : ByteArray) ∨ (∃ a, (0 ≤ a ∧ a < (ns.length : Int)) ∧ s = gt ns a) ∨ (∃ a, inb a fs.length ∧ s = (gt fs a).Name)
/-- Limits for a netlist. -/
structure LimW (n : T_api_Netlist) (p : Bool) (l : T_clocks_Limits) : Prop where
  per : 1 ≤ l.Period ∧ l.Period ≤ 2000
  inL : (l.Inputs.length : Int) ≤ n.In.length
  inp : All (fun _ x => (∃ a, (0 ≤ a ∧ a < (n.In.length : Int)) ∧ x.Name = gt n.In a) ∧ WinN 10 x.At) l.Inputs
  inD : ∀ i j : Int, 0 ≤ j → j < i → i < l.Inputs.length → (gt l.Inputs j).Name ≠ (gt l.Inputs i).Name
  outL : (l.Outputs.length : Int) ≤ n.Out.length
  out : All (fun _ x => (∃ a, (0 ≤ a ∧ a < (n.Out.length : Int)) ∧ x.Name = gt n.Out a) ∧ 1 ≤ x.Before ∧ x.Before ≤ 6) l.Outputs
  outD : ∀ i j : Int, 0 ≤ j → j < i → i < l.Outputs.length → (gt l.Outputs j).Name ≠ (gt l.Outputs i).Name
  pL : l.Paths.length ≤ 3
  pth : All (fun _ x => NameW n.In n.Flops x.From ∧ NameW n.Out n.Flops x.To ∧ (x.Cycles = 0 ∨ x.Cycles = 2 ∨ x.Cycles = 3)) l.Paths
  pN : p = false → l.Paths = []
theorem apart_snoc {α : Type} [Inhabited α] (f : α → ByteArray) {ns : List ByteArray} {y : Int} (hW : All (fun i s => WordAt i s) ns) (hy : 0 ≤ y ∧ y < (ns.length : Int)) {xs : List α} {x : α}
    (h : ∀ i, inb i xs.length → ∃ a, (0 ≤ a ∧ a < y) ∧ f (gt xs i) = gt ns a) (hD : ∀ i j : Int, 0 ≤ j → j < i → i < xs.length → f (gt xs j) ≠ f (gt xs i)) (hx : f x = gt ns y) :
    ∀ i j : Int, 0 ≤ j → j < i → i < (xs ++ [x]).length → f (gt (xs ++ [x]) j) ≠ f (gt (xs ++ [x]) i) := by
  intro i j h0 h1 h2
  have hj : inb j xs.length := ⟨h0, by simp only [List.length_append, List.length_singleton] at h2; omega⟩
  rw [gt_app_l (xs := xs) (i := j) (by have := hj.2; omega)]
  rcases gt_snoc' (xs := xs) (x := x) (i := i) ⟨by omega, h2⟩ with ⟨q, e⟩ | ⟨q, e⟩
  · rw [e]; exact hD i j h0 h1 q.2
  · rw [e, hx]
    obtain ⟨a, ha, e2⟩ := h j hj
    rw [e2]
    exact (hW a ⟨ha.1, by omega⟩).apart (hW y ⟨hy.1, hy.2⟩) (by omega)
section
variable {n : T_api_Netlist} {ins flops outs : Int} (h : NetW n ins flops outs) (hi : 1 ≤ ins ∧ ins ≤ 5) (hf : 0 ≤ flops ∧ flops ≤ 4) (ho : 1 ≤ outs ∧ outs ≤ 5)
include h hi hf ho
theorem Limits_ok {L : List Int} (hL : Strm L) {k : Int} (hk : Few (k + 1000)) (hk0 : 0 ≤ k) (p : Bool) : Ok (P_maskmake_Stream_Limits (T_maskmake_Stream.mk L k) n p) (fun r => (LimW n p r.1 ∧ r.1.Period ≤ 200) ∧ k ≤ r.2 ∧ r.2 ≤ k + 100) := by
  have a := h.inL
  have b := h.flopL
  have c := h.outL
  unfold P_maskmake_Stream_Limits
  refine ok_bd (pick3_ok hL (by omega) hk0 20 60 200) ?_
  rintro ⟨top, k1⟩ ⟨htop, rfl⟩
  simp only at htop
  refine ok_bd (hL.range (by simp only; omega) (by omega) (by simp only; omega) (by simp only; omega)) ?_
  rintro ⟨per, k2⟩ ⟨hp0, hp1, rfl⟩
  simp only at hp0 hp1
  refine ok_bd (R := fun r => ((r.2.length : Int) ≤ ins ∧ All (fun _ x => (∃ a, (0 ≤ a ∧ a < ins) ∧ x.Name = gt n.In a) ∧ WinN 10 x.At) r.2 ∧ (∀ i j : Int, 0 ≤ j → j < i → i < r.2.length → (gt r.2 j).Name ≠ (gt r.2 i).Name)) ∧ k + 2 ≤ r.1 ∧ r.1 ≤ k + 2 + 4 * ins) ?_ ?_
  · refine ok_lp (fun s => (0 ≤ s.1 ∧ s.1 ≤ ins) ∧ ((s.2.2.length : Int) ≤ s.1 ∧ All (fun _ x => (∃ a, (0 ≤ a ∧ a < s.1) ∧ x.Name = gt n.In a) ∧ WinN 10 x.At) s.2.2 ∧ (∀ i j : Int, 0 ≤ j → j < i → i < s.2.2.length → (gt s.2.2 j).Name ≠ (gt s.2.2 i).Name)) ∧ k + 2 ≤ s.2.1 ∧ s.2.1 ≤ k + 2 + 4 * s.1) (fun s => (ins - s.1).toNat) ⟨⟨by simp, by simp only; omega⟩, ⟨by simp, All.nil, fun i j h0 h1 h2 => by simp at h2; omega⟩, by simp only; omega, by simp only; omega⟩ (by simp only; omega) ?_
    rintro ⟨y, q, xs⟩ ⟨⟨y0, y1⟩, ⟨y2, y3, y4⟩, y5, y6⟩
    simp only at y0 y1 y2 y3 y4 y5 y6
    unfold P_maskmake_Stream_Limits_L3
    dsimp only
    refine ok_ite (fun hlt => ?_) fun hge => ok_some ⟨⟨by simp only; omega, y3.mono fun i x _ ⟨⟨a, h1, h2⟩, h3⟩ => ⟨⟨a, by omega, h2⟩, h3⟩, y4⟩, by simp only; omega, by simp only; omega⟩
    have hnm : gt n.In y = gt n.In y := rfl
    refine ok_ck ⟨y0, hlt⟩ (ok_lv (ok_bd (hL.flip (by omega) (by omega)) ?_))
    rintro ⟨fl, q1⟩ hq
    simp only at hq
    subst hq
    refine ok_bd (R := fun r => ((r.2.length : Int) ≤ y + 1 ∧ All (fun _ x => (∃ a, (0 ≤ a ∧ a < y + 1) ∧ x.Name = gt n.In a) ∧ WinN 10 x.At) r.2 ∧ (∀ i j : Int, 0 ≤ j → j < i → i < r.2.length → (gt r.2 j).Name ≠ (gt r.2 i).Name)) ∧ q + 1 ≤ r.1 ∧ r.1 ≤ q + 4) ?_ ?_
    · refine ok_ite (fun hfl => ok_bd (window_ok hL (by omega) (by omega)) ?_) fun hfl => ok_some ⟨⟨by simp only; omega, y3.mono fun i x _ ⟨⟨a, h1, h2⟩, h3⟩ => ⟨⟨a, by omega, h2⟩, h3⟩, y4⟩, by simp only; omega, by simp only; omega⟩
      rintro ⟨w, q2⟩ ⟨hw, rfl⟩
      simp only at hw
      refine ok_lv (ok_ck (by simp only [apOk, List.length_append, List.length_singleton]; omega) (ok_some ⟨⟨by simp only [List.length_append, List.length_singleton]; omega, All.snoc (y3.mono fun i x _ ⟨⟨a, h1, h2⟩, h3⟩ => ⟨⟨a, by omega, h2⟩, h3⟩) ⟨⟨y, by omega, hnm⟩, hw⟩, ?_⟩, by simp only; omega, by simp only; omega⟩))
      exact apart_snoc (fun x : T_clocks_Input => x.Name) (ns := n.In) (y := y) (x := ⟨gt n.In y, w⟩) h.inW (by omega) (fun i hi => (y3 i hi).1) y4 hnm
    rintro ⟨q3, xs2⟩ ⟨z1, z2, z3⟩
    simp only at z1 z2 z3
    exact ok_ar (by omega) (ok_some ⟨⟨⟨by simp only; omega, by simp only; omega⟩, z1, by simp only; omega, by simp only; omega⟩, by simp only; omega⟩)
  rintro ⟨k3, I⟩ ⟨hI, k3a, k3b⟩
  simp only at hI k3a k3b
  refine ok_bd (R := fun r => ((r.2.length : Int) ≤ outs ∧ All (fun _ x => (∃ a, (0 ≤ a ∧ a < outs) ∧ x.Name = gt n.Out a) ∧ 1 ≤ x.Before ∧ x.Before ≤ 6) r.2 ∧ (∀ i j : Int, 0 ≤ j → j < i → i < r.2.length → (gt r.2 j).Name ≠ (gt r.2 i).Name)) ∧ k3 ≤ r.1 ∧ r.1 ≤ k3 + 4 * outs) ?_ ?_
  · refine ok_lp (fun s => (0 ≤ s.1 ∧ s.1 ≤ outs) ∧ ((s.2.2.length : Int) ≤ s.1 ∧ All (fun _ x => (∃ a, (0 ≤ a ∧ a < s.1) ∧ x.Name = gt n.Out a) ∧ 1 ≤ x.Before ∧ x.Before ≤ 6) s.2.2 ∧ (∀ i j : Int, 0 ≤ j → j < i → i < s.2.2.length → (gt s.2.2 j).Name ≠ (gt s.2.2 i).Name)) ∧ k3 ≤ s.2.1 ∧ s.2.1 ≤ k3 + 4 * s.1) (fun s => (outs - s.1).toNat) ⟨⟨by simp, by simp only; omega⟩, ⟨by simp, All.nil, fun i j h0 h1 h2 => by simp at h2; omega⟩, by simp only; omega, by simp only; omega⟩ (by simp only; omega) ?_
    rintro ⟨y, q, xs⟩ ⟨⟨y0, y1⟩, ⟨y2, y3, y4⟩, y5, y6⟩
    simp only at y0 y1 y2 y3 y4 y5 y6
    unfold P_maskmake_Stream_Limits_L9
    dsimp only
    refine ok_ite (fun hlt => ?_) fun hge => ok_some ⟨⟨by simp only; omega, y3.mono fun i x _ ⟨⟨a, h1, h2⟩, h3⟩ => ⟨⟨a, by omega, h2⟩, h3⟩, y4⟩, by simp only; omega, by simp only; omega⟩
    have hnm : gt n.Out y = gt n.Out y := rfl
    refine ok_ck ⟨y0, hlt⟩ (ok_lv (ok_bd (hL.flip (by omega) (by omega)) ?_))
    rintro ⟨fl, q1⟩ hq
    simp only at hq
    subst hq
    refine ok_bd (R := fun r => ((r.2.length : Int) ≤ y + 1 ∧ All (fun _ x => (∃ a, (0 ≤ a ∧ a < y + 1) ∧ x.Name = gt n.Out a) ∧ 1 ≤ x.Before ∧ x.Before ≤ 6) r.2 ∧ (∀ i j : Int, 0 ≤ j → j < i → i < r.2.length → (gt r.2 j).Name ≠ (gt r.2 i).Name)) ∧ q + 1 ≤ r.1 ∧ r.1 ≤ q + 4) ?_ ?_
    · refine ok_ite (fun hfl => ok_bd (hL.range (by omega) (by omega) (by omega) (by omega)) ?_) fun hfl => ok_some ⟨⟨by simp only; omega, y3.mono fun i x _ ⟨⟨a, h1, h2⟩, h3⟩ => ⟨⟨a, by omega, h2⟩, h3⟩, y4⟩, by simp only; omega, by simp only; omega⟩
      rintro ⟨w, q2⟩ ⟨hw0, hw1, rfl⟩
      simp only at hw0 hw1
      refine ok_lv (ok_ck (by simp only [apOk, List.length_append, List.length_singleton]; omega) (ok_some ⟨⟨by simp only [List.length_append, List.length_singleton]; omega, All.snoc (y3.mono fun i x _ ⟨⟨a, h1, h2⟩, h3⟩ => ⟨⟨a, by omega, h2⟩, h3⟩) ⟨⟨y, by omega, hnm⟩, hw0, hw1⟩, ?_⟩, by simp only; omega, by simp only; omega⟩))
      exact apart_snoc (fun x : T_clocks_Output => x.Name) (ns := n.Out) (y := y) (x := ⟨gt n.Out y, w⟩) h.outW (by omega) (fun i hi => (y3 i hi).1) y4 hnm
    rintro ⟨q3, xs2⟩ ⟨z1, z2, z3⟩
    simp only at z1 z2 z3
    exact ok_ar (by omega) (ok_some ⟨⟨⟨by simp only; omega, by simp only; omega⟩, z1, by simp only; omega, by simp only; omega⟩, by simp only; omega⟩)
  rintro ⟨k4, O⟩ ⟨hO, k4a, k4b⟩
  simp only at hO k4a k4b
  have hF0 : All (fun _ x => NameW n.In n.Flops x) ([(⟨#[]⟩ : ByteArray)] ++ n.In) := by
    intro i hi
    by_cases e : i = 0
    · subst e; exact .inl rfl
    · have e2 : gt ([(⟨#[]⟩ : ByteArray)] ++ n.In) i = gt n.In (i - 1) := by
        simp only [gt, List.getD_eq_getElem?_getD]
        rw [List.getElem?_append_right (by simp only [List.length_singleton]; have := hi.1; omega)]
        congr 2
        simp only [List.length_singleton]; omega
      have h2 := hi.2
      simp only [List.length_append, List.length_singleton] at h2
      rw [e2]
      exact .inr (.inl ⟨i - 1, ⟨by have := hi.1; omega, by omega⟩, rfl⟩)
  have hT0 : All (fun _ x => NameW n.Out n.Flops x) ([(⟨#[]⟩ : ByteArray)] ++ n.Out) := by
    intro i hi
    by_cases e : i = 0
    · subst e; exact .inl rfl
    · have e2 : gt ([(⟨#[]⟩ : ByteArray)] ++ n.Out) i = gt n.Out (i - 1) := by
        simp only [gt, List.getD_eq_getElem?_getD]
        rw [List.getElem?_append_right (by simp only [List.length_singleton]; have := hi.1; omega)]
        congr 2
        simp only [List.length_singleton]; omega
      have h2 := hi.2
      simp only [List.length_append, List.length_singleton] at h2
      rw [e2]
      exact .inr (.inl ⟨i - 1, ⟨by have := hi.1; omega, by omega⟩, rfl⟩)
  refine ok_lv (ok_ck (by simp only [apOk, List.length_append, List.length_singleton]; omega) (ok_lv (ok_ck (by simp only [apOk, List.length_append, List.length_singleton]; omega) ?_)))
  refine ok_bd (R := fun r => ((r.1.length : Int) = 1 + ins + flops ∧ All (fun _ x => NameW n.In n.Flops x) r.1) ∧ (r.2.length : Int) = 1 + outs + flops ∧ All (fun _ x => NameW n.Out n.Flops x) r.2) ?_ ?_
  · refine ok_lp (fun s => (0 ≤ s.2.2 ∧ s.2.2 ≤ flops) ∧ ((s.1.length : Int) = 1 + ins + s.2.2 ∧ All (fun _ x => NameW n.In n.Flops x) s.1) ∧ (s.2.1.length : Int) = 1 + outs + s.2.2 ∧ All (fun _ x => NameW n.Out n.Flops x) s.2.1) (fun s => (flops - s.2.2).toNat) ⟨⟨by simp, by simp only; omega⟩, ⟨by simp only [List.length_append, List.length_singleton]; omega, hF0⟩, by simp only [List.length_append, List.length_singleton]; omega, hT0⟩ (by simp only; omega) ?_
    rintro ⟨fs, ts, y⟩ ⟨⟨y0, y1⟩, ⟨y2, y3⟩, y4, y5⟩
    simp only at y0 y1 y2 y3 y4 y5
    unfold P_maskmake_Stream_Limits_L16
    dsimp only
    refine ok_ite (fun hlt => ?_) fun hge => ok_some ⟨⟨by simp only; omega, y3⟩, by simp only; omega, y5⟩
    have hnm : (gt n.Flops y).Name = (gt n.Flops y).Name := rfl
    refine ok_ck ⟨y0, hlt⟩ (ok_lv (ok_lv (ok_ck (by simp only [apOk, List.length_append, List.length_singleton]; omega) (ok_lv (ok_ck (by simp only [apOk, List.length_append, List.length_singleton]; omega) (ok_ar (by omega) (ok_some ⟨⟨⟨by simp only; omega, by simp only; omega⟩, ⟨by simp only [List.length_append, List.length_singleton]; omega, y3.snoc (.inr (.inr ⟨y, ⟨y0, hlt⟩, hnm⟩))⟩, by simp only [List.length_append, List.length_singleton]; omega, y5.snoc (.inr (.inr ⟨y, ⟨y0, hlt⟩, hnm⟩))⟩, by simp only; omega⟩)))))))
  rintro ⟨fs, ts⟩ ⟨⟨f1, f2⟩, t1, t2⟩
  simp only at f1 f2 t1 t2
  refine ok_bd (hL.next (by omega) (by omega)) ?_
  rintro ⟨m, k5⟩ ⟨m0, m1, -, rfl⟩
  have m1 := m1 (by omega)
  simp only at m0 m1
  refine ok_bd (R := fun r => (((r.1.length : Int) ≤ 3 ∧ All (fun _ x => NameW n.In n.Flops x.From ∧ NameW n.Out n.Flops x.To ∧ (x.Cycles = 0 ∨ x.Cycles = 2 ∨ x.Cycles = 3)) r.1) ∧ (p = false → r.1 = [])) ∧ k4 + 1 ≤ r.2 ∧ r.2 ≤ k4 + 20) ?_ ?_
  · refine ok_lp (fun s => (0 ≤ s.1 ∧ s.1 ≤ m) ∧ (((s.2.2.length : Int) ≤ s.1 ∧ All (fun _ x => NameW n.In n.Flops x.From ∧ NameW n.Out n.Flops x.To ∧ (x.Cycles = 0 ∨ x.Cycles = 2 ∨ x.Cycles = 3)) s.2.2) ∧ (p = false → s.2.2 = [])) ∧ k4 + 1 ≤ s.2.1 ∧ s.2.1 ≤ k4 + 1 + 3 * s.1) (fun s => (m - s.1).toNat) ⟨⟨by simp, by simp only; omega⟩, ⟨⟨by simp, All.nil⟩, fun _ => rfl⟩, by simp only; omega, by simp only; omega⟩ (by simp only; omega) ?_
    rintro ⟨y, q, xs⟩ ⟨⟨y0, y1⟩, ⟨⟨y2, y3⟩, y4⟩, y5, y6⟩
    simp only at y0 y1 y2 y3 y4 y5 y6
    unfold P_maskmake_Stream_Limits_L21
    dsimp only
    refine ok_ite (fun hlt => ?_) fun hge => ok_some ⟨⟨⟨by simp only; omega, y3⟩, y4⟩, by simp only; omega, by simp only; omega⟩
    refine ok_bd (R := fun r => (((r.2.length : Int) ≤ y + 1 ∧ All (fun _ x => NameW n.In n.Flops x.From ∧ NameW n.Out n.Flops x.To ∧ (x.Cycles = 0 ∨ x.Cycles = 2 ∨ x.Cycles = 3)) r.2) ∧ (p = false → r.2 = [])) ∧ q ≤ r.1 ∧ r.1 ≤ q + 3) ?_ ?_
    · refine ok_ite (fun hp => ?_) fun hp => ok_some ⟨⟨⟨by simp only; omega, y3⟩, y4⟩, by simp only; omega, by simp only; omega⟩
      refine ok_bd (hL.next (by omega) (by omega)) ?_
      rintro ⟨u, q1⟩ ⟨u0, u1, -, rfl⟩
      have u1 := u1 (by omega)
      simp only at u0 u1
      refine ok_ck ⟨u0, by omega⟩ (ok_lv (ok_bd (hL.next (by simp only; omega) (by omega)) ?_))
      rintro ⟨v, q2⟩ ⟨v0, v1, -, rfl⟩
      have v1 := v1 (by omega)
      simp only at v0 v1
      refine ok_ck ⟨v0, by omega⟩ (ok_lv (ok_bd (pick3_ok hL (by simp only; omega) (by simp only; omega) 0 2 3) ?_))
      rintro ⟨cy, q3⟩ ⟨hcy, rfl⟩
      simp only at hcy
      exact ok_lv (ok_ck (by simp only [apOk, List.length_append, List.length_singleton]; omega) (ok_some ⟨⟨⟨by simp only [List.length_append, List.length_singleton]; omega, y3.snoc ⟨f2 u ⟨u0, by omega⟩, t2 v ⟨v0, by omega⟩, hcy⟩⟩, fun e => by rw [hp] at e; cases e⟩, by simp only; omega, by simp only; omega⟩))
    rintro ⟨q3, xs2⟩ ⟨z1, z2, z3⟩
    simp only at z1 z2 z3
    exact ok_ar (by omega) (ok_some ⟨⟨⟨by simp only; omega, by simp only; omega⟩, z1, by simp only; omega, by simp only; omega⟩, by simp only; omega⟩)
  rintro ⟨Q, k6⟩ ⟨⟨⟨p1, p2⟩, p3⟩, k6a, k6b⟩
  simp only at p1 p2 p3 k6a k6b
  rw [← a] at hI
  rw [← c] at hO
  exact ok_some ⟨⟨⟨by simp only; omega, hI.1, hI.2.1, hI.2.2, hO.1, hO.2.1, hO.2.2, by simp only; omega, p2, p3⟩, by simp only; omega⟩, by simp only; omega, by simp only; omega⟩
end
end Go.Proofs.YtkenpbnpemjbhaaDoor.X
