/- legal.Check of sites that are free and apart. Plain. -/
import Derived.Test.YtfkncjfpgflafaaDoorNG
namespace Go.Proofs.YtfkncjfpgflafaaDoor.X
open Go Go.RowKit
set_option linter.unusedVariables false
set_option linter.unusedSimpArgs false
/-- A table of the sites; what is set lies in Z. -/
structure Tab (f : T_floor_Floor) (Z : Int → Int → Prop) (u : List (List Bool)) : Prop where
  len : (u.length : Int) = f.Rows
  row : ∀ r : Int, 0 ≤ r → r < f.Rows → ((gt u r).length : Int) = f.Sites
  only : ∀ r k : Int, 0 ≤ r → r < f.Rows → 0 ≤ k → k < f.Sites → gt (gt u r) k = true → Z r k
theorem Tab.mono {f : T_floor_Floor} {Z Z' : Int → Int → Prop} {u : List (List Bool)} (h : Tab f Z u) (hZ : ∀ r k, Z r k → Z' r k) : Tab f Z' u := ⟨h.len, h.row, fun r k a b c d e => hZ _ _ (h.only r k a b c d e)⟩
theorem Tab.put {f : T_floor_Floor} {Z : Int → Int → Prop} {u : List (List Bool)} (h : Tab f Z u) {r k : Int} (r0 : 0 ≤ r) (r1 : r < f.Rows) (k0 : 0 ≤ k) (k1 : k < f.Sites) (hz : Z r k) : Tab f Z (stt u r (stt (gt u r) k true)) := by
  have hl := h.len
  have hr := h.row r r0 r1
  refine ⟨by rw [stt_length]; exact hl, fun a a0 a1 => ?_, fun a b a0 a1 b0 b1 e => ?_⟩
  · rw [gt_stt _ _ ⟨r0, by omega⟩ a0]
    split
    · rw [stt_length]; exact hr
    · exact h.row a a0 a1
  · rw [gt_stt _ _ ⟨r0, by omega⟩ a0] at e
    by_cases q : a = r
    · rw [if_pos q, gt_stt _ _ ⟨k0, by omega⟩ b0] at e
      by_cases p : b = k
      · rw [q, p]; exact hz
      · rw [if_neg p] at e; rw [q]; exact h.only r b r0 r1 b0 b1 e
    · rw [if_neg q] at e; exact h.only a b a0 a1 b0 b1 e
def InBlock (f : T_floor_Floor) (r k : Int) : Prop := ∃ i : Int, 0 ≤ i ∧ i < f.Blocks.length ∧ (gt f.Blocks i).Row = r ∧ (gt f.Blocks i).From ≤ k ∧ k < (gt f.Blocks i).To
structure SiteOk (f : T_floor_Floor) (a : Int) (s : T_floor_Site) : Prop where
  area : 1 ≤ a ∧ a ≤ 40
  row : 0 ≤ s.Row ∧ s.Row < f.Rows
  lo : 0 ≤ s.At
  hi : s.At + a ≤ f.Sites
  free : ∀ i : Int, 0 ≤ i → i < f.Blocks.length → (gt f.Blocks i).Row = s.Row → s.At + a ≤ (gt f.Blocks i).From ∨ (gt f.Blocks i).To ≤ s.At
theorem LCheck_ok {f : T_floor_Floor} (hf : FlN f) (hp : f.Ports = []) {area : List Int} {l : List T_floor_Site} (hl : l.length = area.length) (ha : area.length ≤ 364)
    (he : ∀ i : Int, 0 ≤ i → i < l.length → SiteOk f (gt area i) (gt l i))
    (hs : ∀ i j : Int, 0 ≤ i → i < j → j < l.length → (gt l i).Row = (gt l j).Row → (gt l i).At + gt area i ≤ (gt l j).At ∨ (gt l j).At + gt area j ≤ (gt l i).At) : Ok (P_legal_Check f area l) (fun r => r = 0) := by
  have a := hf.R
  have b := hf.S
  have e1 := hf.blockL
  unfold P_legal_Check
  refine ok_bd (FCheck0 hf hp) ?_
  rintro _ rfl
  refine ok_f (by simp) (ok_f (by omega) (ok_f (by omega) (ok_ck (by simp only [mkOk]; omega) (ok_lv ?_))))
  refine ok_bd (R := fun u => Tab f (fun _ _ => False) u) ?_ ?_
  · refine ok_lp (fun s => 0 ≤ s.2 ∧ s.2 ≤ f.Rows ∧ (s.1.length : Int) = f.Rows ∧ ∀ r : Int, 0 ≤ r → r < s.2 → gt s.1 r = List.replicate (f.Sites : Int).toNat false) (fun s => (f.Rows - s.2).toNat)
      ⟨by simp, by simp only; omega, by simp only [List.length_replicate]; omega, fun r r0 r1 => by simp only at r1; omega⟩ (by simp only; omega) ?_
    rintro ⟨u, y⟩ ⟨y0, y1, l1, h1⟩
    simp only at y0 y1 l1 h1 ⊢
    unfold P_legal_Check_L10
    dsimp only
    rw [List.length_replicate]
    refine ok_ite (fun hlt => ?_) fun hge => ok_some ⟨l1, fun r r0 r1 => by rw [h1 r r0 (by omega), List.length_replicate]; omega, fun r k r0 r1 k0 k1 e => by rw [h1 r r0 (by omega), gt_rep ⟨k0, by omega⟩] at e; cases e⟩
    refine ok_ck (by simp only [mkOk]; omega) (ok_lv (ok_ck ⟨y0, by omega⟩ (ok_lv (ok_lv (ok_ar (by omega) (ok_some ⟨⟨by simp only; omega, by simp only; omega, by rw [stt_length]; exact l1, fun r r0 r1 => ?_⟩, by simp only; omega⟩))))))
    simp only at r1 ⊢
    rw [gt_stt _ _ ⟨y0, by omega⟩ r0]
    split
    · rfl
    · exact h1 r r0 (by omega)
  intro u0 hu0
  refine ok_bd (R := fun u => Tab f (InBlock f) u) ?_ ?_
  · refine ok_lp (fun s => 0 ≤ s.2 ∧ s.2 ≤ f.Blocks.length ∧ Tab f (InBlock f) s.1) (fun s => ((f.Blocks.length : Int) - s.2).toNat) ⟨by simp, by simp only; omega, hu0.mono fun _ _ h => h.elim⟩ (by simp only; omega) ?_
    rintro ⟨u, y⟩ ⟨y0, y1, hu⟩
    simp only at y0 y1 hu ⊢
    unfold P_legal_Check_L15
    dsimp only
    refine ok_ite (fun hlt => ?_) fun hge => ok_some hu
    have g := hf.block y ⟨y0, hlt⟩
    have gx := g.x
    have gr := g.row
    have hz : ∀ k : Int, (gt f.Blocks y).From ≤ k → k < (gt f.Blocks y).To → InBlock f (gt f.Blocks y).Row k := fun k k0 k1 => ⟨y, y0, hlt, rfl, k0, k1⟩
    refine ok_ck ⟨y0, hlt⟩ (ok_lv ?_)
    generalize gt f.Blocks y = bk at gx gr hz
    refine ok_bd (R := fun u => Tab f (InBlock f) u) ?_ fun v hv => ok_ar (by omega) (ok_some ⟨⟨by simp only; omega, by simp only; omega, hv⟩, by simp only; omega⟩)
    refine ok_lp (fun s => bk.From ≤ s.2 ∧ s.2 ≤ bk.To ∧ Tab f (InBlock f) s.1) (fun s => (bk.To - s.2).toNat) ⟨by simp, by simp only; omega, hu⟩ (by simp only; omega) ?_
    rintro ⟨v, k⟩ ⟨k0, k1, hv⟩
    simp only at k0 k1 hv ⊢
    unfold P_legal_Check_L18
    dsimp only
    have vl := hv.len
    have vr := hv.row bk.Row gr.1 gr.2
    refine ok_ite (fun hk => ?_) fun hk => ok_some hv
    exact ok_ck ⟨gr.1, by omega⟩ (ok_lv (ok_ck ⟨by omega, by omega⟩ (ok_lv (ok_ar (by omega) (ok_lv (ok_some ⟨⟨by simp only; omega, by simp only; omega, hv.put gr.1 gr.2 (by omega) (by omega) (hz k k0 hk)⟩, by simp only; omega⟩))))))
  intro u1 hu1
  refine ok_bs1 (R := fun _ => True) ?_ fun _ _ => ok_some rfl
  refine ok_lp (fun s => 0 ≤ s.2 ∧ s.2 ≤ l.length ∧ Tab f (fun r k => InBlock f r k ∨ ∃ i : Int, 0 ≤ i ∧ i < s.2 ∧ (gt l i).Row = r ∧ (gt l i).At ≤ k ∧ k < (gt l i).At + gt area i) s.1) (fun s => ((l.length : Int) - s.2).toNat) ⟨by simp, by simp only; omega, hu1.mono fun _ _ h => Or.inl h⟩ (by simp only; omega) ?_
  rintro ⟨u, y⟩ ⟨y0, y1, hu⟩
  simp only at y0 y1 hu ⊢
  unfold P_legal_Check_L23
  dsimp only
  refine ok_ite (fun hlt => ?_) fun hge => ok_some ⟨(), rfl, trivial⟩
  have g := he y y0 hlt
  have ga := g.area
  have gr := g.row
  have g1 := g.lo
  have g2 := g.hi
  refine ok_ck ⟨y0, hlt⟩ (ok_lv (ok_ck ⟨y0, by omega⟩ (ok_lv (ok_ck (fun _ => ⟨y0, by omega⟩) (ok_lv (ok_lv (ok_lv (ok_lv (ok_ck (fun _ => ⟨y0, by omega⟩) (ok_ck (fun _ => by omega) (ok_lv (ok_lv (ok_f ?_ ?_)))))))))))))
  · simp only [Bool.or_eq_true, decide_eq_true_eq]; omega
  refine ok_bs1 (R := fun v => Tab f (fun r k => InBlock f r k ∨ ∃ i : Int, 0 ≤ i ∧ i < y + 1 ∧ (gt l i).Row = r ∧ (gt l i).At ≤ k ∧ k < (gt l i).At + gt area i) v) ?_ fun v hv => ok_ar (by omega) (ok_some ⟨⟨by simp only; omega, by simp only; omega, hv⟩, by simp only; omega⟩)
  refine ok_lp (fun s => (gt l y).At ≤ s.2 ∧ s.2 ≤ (gt l y).At + gt area y ∧ Tab f (fun r k => (InBlock f r k ∨ ∃ i : Int, 0 ≤ i ∧ i < y ∧ (gt l i).Row = r ∧ (gt l i).At ≤ k ∧ k < (gt l i).At + gt area i) ∨ (r = (gt l y).Row ∧ (gt l y).At ≤ k ∧ k < s.2)) s.1) (fun s => ((gt l y).At + gt area y - s.2).toNat)
    ⟨by simp, by simp only; omega, hu.mono fun _ _ h => Or.inl h⟩ (by simp only; omega) ?_
  rintro ⟨v, k⟩ ⟨k0, k1, hv⟩
  simp only at k0 k1 hv ⊢
  unfold P_legal_Check_L28
  dsimp only
  have vl := hv.len
  have vr := hv.row (gt l y).Row gr.1 gr.2
  refine ok_ck ⟨y0, by omega⟩ (ok_ar (by omega) (ok_ite (fun hk => ?_) fun hk => ok_some ⟨_, rfl, hv.mono fun r j h => ?_⟩))
  · refine ok_ck ⟨gr.1, by omega⟩ (ok_lv (ok_ck ⟨by omega, by omega⟩ (ok_lv (ok_f ?_ (ok_ck ⟨gr.1, by omega⟩ (ok_ck ⟨by omega, by omega⟩ (ok_lv (ok_ar (by omega) (ok_lv (ok_some ⟨⟨by simp only; omega, by simp only; omega, (hv.mono fun r j h => ?_).put gr.1 gr.2 (by omega) (by omega) (Or.inr ⟨rfl, k0, by simp only; omega⟩)⟩, by simp only; omega⟩))))))))))
    · intro hx
      rcases hv.only _ k gr.1 gr.2 (by omega) (by omega) hx with (⟨i, i0, i1, i2, i3, i4⟩ | ⟨i, i0, i1, i2, i3, i4⟩) | ⟨-, -, h3⟩
      · rcases g.free i i0 i1 i2 with q | q <;> omega
      · rcases hs i y i0 i1 hlt i2 with q | q <;> omega
      · omega
    · rcases h with h | ⟨h1, h2, h3⟩
      · exact Or.inl h
      · exact Or.inr ⟨h1, h2, by simp only; omega⟩
  · rcases h with (h | ⟨i, i0, i1, i2, i3, i4⟩) | ⟨h1, h2, h3⟩
    · exact Or.inl h
    · exact Or.inr ⟨i, i0, by omega, i2, i3, i4⟩
    · exact Or.inr ⟨y, y0, by omega, h1.symm, h2, by omega⟩
end Go.Proofs.YtfkncjfpgflafaaDoor.X
