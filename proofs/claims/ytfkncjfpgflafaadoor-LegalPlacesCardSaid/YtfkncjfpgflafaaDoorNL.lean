/- near answers free sites. Plain. -/
import Derived.Test.YtfkncjfpgflafaaDoorNK
namespace Go.Proofs.YtfkncjfpgflafaaDoor.X
open Go Go.RowKit
set_option linter.unusedVariables false
set_option linter.unusedSimpArgs false
theorem near_ok {f : T_floor_Floor} (hf : FlN f) (hp : f.Ports = []) {n : Nat} {want : List T_floor_Point} {area : List Int} (hw : Wants n want area) :
    Ok (P_legal_near want area f) (fun r => r.2 = true → ∃ ord free, Ord n ord ∧ r.1.length = n ∧ Cut f area ord n free r.1) := by
  have lw := hw.lw
  have la := hw.la
  have nf := hw.few
  unfold P_legal_near
  refine ok_bd (rooms_ok hf hp) ?_
  rintro rs ⟨hrs, hrl⟩
  refine ok_ck (by simp only [mkOk]; omega) (ok_lv ?_)
  refine ok_bd (nearId_ok (n := n) (by simp; omega) (by omega)) ?_
  intro d hd
  have dl := hd.len
  refine ok_bd (Nr.sort_ok ⟨by omega, fun x hx => by have := hd.mem.1 hx; exact ⟨this.1, by omega⟩⟩) ?_
  intro ord hk
  have ho := hd.ord hk
  have ol := ho.len
  refine ok_ck (by simp only [mkOk]; omega) (ok_lv ?_)
  refine ok_bs (R := fun s => (∀ o, s = Sum.inl o → ∃ free, o.length = n ∧ Cut f area ord n free o) ∧ ∀ z, s = Sum.inr z → z.2 = false) ?_ ?_ ?_
  · refine ok_lp (fun s => 0 ≤ s.2.2 ∧ s.2.2 ≤ n ∧ s.2.1.length = n ∧ (s.1.length : Int) ≤ 55 + s.2.2 ∧ RoomsOk f s.1 ∧ Cut f area ord s.2.2 s.1 s.2.1) (fun s => ((n : Int) - s.2.2).toNat)
      ⟨by simp, by simp only; omega, by simp; omega, by simp only; omega, hrs, ⟨fun j j0 j1 => by simp only at j1; omega, fun i j i0 ij j1 => by simp only at j1; omega, fun j k j0 j1 => by simp only at j1; omega⟩⟩ (by simp only; omega) ?_
    rintro ⟨free, out, y⟩ ⟨y0, y1, lo, lf, hr, hc⟩
    simp only at y0 y1 lo lf hr hc ⊢
    unfold P_legal_near_L11
    dsimp only
    rw [List.length_replicate]
    refine ok_ite (fun hlt => ?_) fun hge => ok_some ⟨fun o e => (by cases e; rw [show y = n by omega] at hc; exact ⟨free, lo, hc⟩), fun z e => (by cases e)⟩
    have oy := ho.rng y y0 (by omega)
    have ha := hw.ar _ oy.1 oy.2
    refine ok_ck ⟨y0, by omega⟩ (ok_lv (ok_bd (best_ok hf hw hr (by omega) oy.1 oy.2) ?_))
    rintro ⟨b, at_⟩ hb
    simp only at hb ⊢
    refine ok_ite (fun _ => ok_some ⟨fun o e => (by cases e), fun z e => (by cases e; rfl)⟩) fun hb0 => ?_
    obtain ⟨b0, b1, h0, h1⟩ : 0 ≤ b ∧ b < free.length ∧ (gt free b).Span.From ≤ at_ ∧ at_ + gt area (gt ord y) ≤ (gt free b).Span.To := by
      rcases hb with q | q
      · omega
      · exact q
    have g := hr.each b b0 b1
    have g1 := g.lo; have g2 := g.hi; have gS := hf.S
    have hbb : inb b free.length := ⟨b0, b1⟩
    refine ok_ck hbb (ok_lv (ok_ck ⟨oy.1, by omega⟩ (ok_lv (ok_ck hbb (ok_lv' fun f1 ef1 => ok_ck ⟨oy.1, by omega⟩ (ok_lv (ok_ar (by omega) (ok_lv' fun f2 ef2 => ?_))))))))
    have l1 : f1.length = free.length := by rw [ef1, stt_length]
    have l2 : f2.length = free.length + 1 := by rw [ef2, List.length_append, l1]; rfl
    refine ok_ck (by simp only [apOk]; omega) (ok_ar (by omega) (ok_some ⟨⟨by simp only; omega, by simp only; omega, by simp only [stt_length]; exact lo, by simp only; omega, ?_, ?_⟩, by simp only; omega⟩))
    all_goals
      have e1 : ∀ k : Int, 0 ≤ k → k < free.length → gt f2 k = if k = b then { (gt free b) with Span := { (gt free b).Span with To := at_ } } else gt free k := fun k k0 k1 => by
        rw [ef2, gt_app_l (by omega), ef1, gt_stt _ _ hbb k0]
      have e2 : ∀ k : Int, k = free.length → gt f2 k = T_legal_room.mk (gt free b).frow (T_floor_Span.mk (at_ + gt area (gt ord y)) (gt free b).Span.To) := fun k k0 => by
        rw [ef2, gt_app_1 (by omega)]
      have p1 : Piece { (gt free b) with Span := { (gt free b).Span with To := at_ } } (gt free b) := ⟨rfl, Int.le_refl _, by simp only; omega⟩
      have p2 : Piece (T_legal_room.mk (gt free b).frow (T_floor_Span.mk (at_ + gt area (gt ord y)) (gt free b).Span.To)) (gt free b) := ⟨rfl, by simp only; omega, Int.le_refl _⟩
    · simp only
      refine ⟨fun k k0 k1 => ?_, fun i j i0 ij j1 => ?_⟩
      · by_cases q : k = free.length
        · rw [e2 k q]; exact g.piece p2 (by simp only; omega)
        · rw [e1 k k0 (by omega)]
          split
          · exact g.piece p1 h0
          · exact hr.each k k0 (by omega)
      · have pi : ∃ r, gt f2 i = r ∧ Piece r (gt free i) := by
          rw [e1 i i0 (by omega)]
          split
          · rename_i q; exact ⟨_, rfl, by rw [q]; exact p1⟩
          · exact ⟨_, rfl, Piece.refl _⟩
        obtain ⟨r, er, pr⟩ := pi
        by_cases q : j = free.length
        · rw [e2 j q]
          by_cases p : i = b
          · rw [e1 i i0 (by omega), if_pos p]
            intro _
            exact Or.inl (by simp only; omega)
          · rw [er]; exact (hr.apart' i0 (by omega) b0 b1 p).piece pr p2
        · have pj : ∃ s, gt f2 j = s ∧ Piece s (gt free j) := by
            rw [e1 j (by omega) (by omega)]
            split
            · rename_i q; exact ⟨_, rfl, by rw [q]; exact p1⟩
            · exact ⟨_, rfl, Piece.refl _⟩
          obtain ⟨s, es, ps⟩ := pj
          rw [er, es]; exact (hr.apart i j i0 ij (by omega)).piece pr ps
    · simp only
      refine hc.step ho y0 (by omega) lo hr b0 b1 (by omega) h0 h1 fun k k0 k1 => ?_
      by_cases q : k = free.length
      · rw [e2 k q]; exact Or.inr ⟨p2, Or.inl (Int.le_refl _)⟩
      · rw [e1 k k0 (by omega)]
        by_cases p : k = b
        · rw [if_pos p]; exact Or.inr ⟨p1, Or.inr (Int.le_refl _)⟩
        · rw [if_neg p]; exact Or.inl ⟨k, k0, by omega, p, Piece.refl _⟩
  · rintro o ⟨h1, -⟩
    obtain ⟨free, q1, q2⟩ := h1 o rfl
    exact ok_some fun _ => ⟨ord, free, ho, q1, q2⟩
  · rintro z ⟨-, h2⟩
    exact ok_some fun e => by rw [h2 z rfl] at e; cases e
end Go.Proofs.YtfkncjfpgflafaaDoor.X
