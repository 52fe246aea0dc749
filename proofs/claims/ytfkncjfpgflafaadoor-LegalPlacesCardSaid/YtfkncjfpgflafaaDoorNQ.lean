/- tight answers free sites; where it does not, the cells are many. Plain. -/
import Derived.Test.YtfkncjfpgflafaaDoorNP
namespace Go.Proofs.YtfkncjfpgflafaaDoor.X
open Go Go.RowKit
set_option linter.unusedVariables false
set_option linter.unusedSimpArgs false
theorem tight_ok {f : T_floor_Floor} (hf : FlN f) (hp : f.Ports = []) {n : Nat} {area : List Int} (la : area.length = n) (nf : n ≤ 30) (har : ∀ i : Int, 0 ≤ i → i < n → 1 ≤ gt area i ∧ gt area i ≤ 3) :
    Ok (P_legal_tight area f) (fun r => (r.2 = true → ∃ ord free, Ord n ord ∧ r.1.length = n ∧ Cut f area ord n free r.1) ∧ (r.2 = false → r.1 = [] ∧ ∃ c : Int, 0 ≤ c ∧ c < n ∧ wds f f.Rows.toNat < isum area + nsp f f.Rows.toNat * (gt area c - 1))) := by
  unfold P_legal_tight
  refine ok_bd ((rooms_ok hf hp).and (rooms_cnt hf hp)) ?_
  rintro rs ⟨⟨hrs, hrl⟩, hcn, hwd⟩
  refine ok_ck (by simp only [mkOk]; omega) (ok_lv ?_)
  refine ok_bd (tightId_ok (n := n) (by simp; omega) (by omega)) ?_
  intro d hd
  have dl := hd.len
  refine ok_bd (Ti.sort_ok ⟨by omega, fun x hx => by have := hd.mem.1 hx; exact ⟨this.1, by omega⟩⟩) ?_
  intro ord hk
  have ho := hd.ord hk
  have ol := ho.len
  have sm := order_sum la hd hk
  have gm : ∀ k : Int, 0 ≤ k → k < n → gt (ord.map (gt area)) k = gt area (gt ord k) := fun k k0 k1 => gt_map' ⟨k0, by omega⟩
  have ml : (ord.map (gt area)).length = n := by rw [List.length_map]; exact ol
  refine ok_ck (by simp only [mkOk]; omega) (ok_lv ?_)
  refine ok_bs (R := fun s => (∀ o, s = Sum.inl o → ∃ free, o.length = n ∧ Cut f area ord n free o) ∧ ∀ z, s = Sum.inr z → z.2 = false ∧ z.1 = [] ∧ ∃ c : Int, 0 ≤ c ∧ c < n ∧ wds f f.Rows.toNat < isum area + nsp f f.Rows.toNat * (gt area c - 1)) ?_ ?_ ?_
  · refine ok_lp (fun s => 0 ≤ s.2.2 ∧ s.2.2 ≤ n ∧ s.2.1.length = n ∧ (s.1.length : Int) = rs.length ∧ RoomsOk f s.1 ∧ Cut f area ord s.2.2 s.1 s.2.1 ∧ tot s.1 = wds f f.Rows.toNat - dsum (ord.map (gt area)) s.2.2.toNat) (fun s => ((n : Int) - s.2.2).toNat)
      ⟨by simp, by simp only; omega, by simp; omega, rfl, hrs, ⟨fun j j0 j1 => by simp only at j1; omega, fun i j i0 ij j1 => by simp only at j1; omega, fun j k j0 j1 => by simp only at j1; omega⟩, by simp [dsum, hwd]⟩ (by simp only; omega) ?_
    rintro ⟨free, out, y⟩ ⟨y0, y1, lo, lf, hr, hc, ht⟩
    simp only at y0 y1 lo lf hr hc ht ⊢
    unfold P_legal_tight_L11
    dsimp only
    rw [List.length_replicate]
    refine ok_ite (fun hlt => ?_) fun hge => ok_some ⟨fun o e => (by cases e; rw [show y = n by omega] at hc; exact ⟨free, lo, hc⟩), fun z e => (by cases e)⟩
    have oy := ho.rng y y0 (by omega)
    have ha := har _ oy.1 oy.2
    refine ok_ck ⟨y0, by omega⟩ (ok_lv (ok_bd (first_ok hf hr (by omega) oy.1 (by omega)) ?_))
    intro b hb
    refine ok_ite (fun hb0 => ok_some ⟨fun o e => (by cases e), fun z e => ?_⟩) fun hb0 => ?_
    · cases e
      have hb' : ∀ k : Int, 0 ≤ k → k < free.length → (gt free k).Span.To - (gt free k).Span.From < gt area (gt ord y) := by
        rcases hb with q | q
        · exact q.2
        · omega
      refine ⟨rfl, rfl, gt ord y, oy.1, oy.2, ?_⟩
      have t1 := tot_small (m := gt area (gt ord y) - 1) free fun k k0 k1 => by
        have := hb' k k0 k1
        unfold wid; omega
      rw [lf, hcn, ht] at t1
      have t2 := dsum_le (l := ord.map (gt area)) (fun k k0 k1 => by
        rw [ml] at k1
        rw [gm k k0 k1]
        have q := ho.rng k k0 k1
        have := har _ q.1 q.2
        omega) (a := (y + 1).toNat) (b := n) (by omega) (by omega)
      rw [dsum_s y0 rfl, gm y y0 (by omega)] at t2
      have t3 : dsum (ord.map (gt area)) n = isum area := by rw [← sm, ← ml, dsum_all]
      rw [t3] at t2
      omega
    obtain ⟨b0, b1, h1⟩ : 0 ≤ b ∧ b < free.length ∧ gt area (gt ord y) ≤ (gt free b).Span.To - (gt free b).Span.From := by
      rcases hb with q | q
      · omega
      · exact q
    have g := hr.each b b0 b1
    have g1 := g.lo; have g2 := g.hi; have gS := hf.S; have g3 := g.ne
    have hbb : inb b free.length := ⟨b0, b1⟩
    refine ok_ck hbb (ok_lv (ok_ck hbb (ok_lv (ok_ck ⟨oy.1, by omega⟩ (ok_lv' fun o1 eo1 => ok_ck hbb (ok_lv (ok_ck ⟨oy.1, by omega⟩ (ok_lv (ok_ar (by omega) (ok_ck hbb (ok_lv' fun f1 ef1 => ?_)))))))))))
    have l1 : f1.length = free.length := by rw [ef1, stt_length]
    have p1 : Piece { (gt free b) with Span := { (gt free b).Span with From := (gt free b).Span.From + gt area (gt ord y) } } (gt free b) := ⟨rfl, by simp only; omega, Int.le_refl _⟩
    have e1 : ∀ k : Int, 0 ≤ k → gt f1 k = if k = b then { (gt free b) with Span := { (gt free b).Span with From := (gt free b).Span.From + gt area (gt ord y) } } else gt free k := fun k k0 => by
      rw [ef1, gt_stt _ _ hbb k0]
    have pc : ∀ k : Int, 0 ≤ k → ∃ r, gt f1 k = r ∧ Piece r (gt free k) := fun k k0 => by
      rw [e1 k k0]
      split
      · rename_i q; exact ⟨_, rfl, by rw [q]; exact p1⟩
      · exact ⟨_, rfl, Piece.refl _⟩
    refine ok_ar (by omega) (ok_some ⟨⟨by simp only; omega, by simp only; omega, by simp only [eo1, stt_length]; exact lo, by simp only; omega, ?_, ?_, ?_⟩, by simp only; omega⟩)
    · simp only
      refine ⟨fun k k0 k1 => ?_, fun i j i0 ij j1 => ?_⟩
      · rw [e1 k k0]
        split
        · exact g.piece p1 (by simp only; omega)
        · exact hr.each k k0 (by omega)
      · obtain ⟨r, er, pr⟩ := pc i i0
        obtain ⟨s, es, ps⟩ := pc j (by omega)
        rw [er, es]; exact (hr.apart i j i0 ij (by omega)).piece pr ps
    · simp only
      rw [eo1]
      refine hc.step ho y0 (by omega) lo hr b0 b1 (by omega) (Int.le_refl _) (by omega) fun k k0 k1 => ?_
      rw [e1 k k0]
      by_cases q : k = b
      · rw [if_pos q]; exact Or.inr ⟨p1, Or.inl (Int.le_refl _)⟩
      · rw [if_neg q]; exact Or.inl ⟨k, k0, by omega, q, Piece.refl _⟩
    · simp only
      rw [ef1, tot_stt hbb, ht, dsum_s y0 rfl, gm y y0 (by omega)]
      unfold wid
      simp only
      omega
  · rintro o ⟨h1, -⟩
    obtain ⟨free, q1, q2⟩ := h1 o rfl
    exact ok_some ⟨fun _ => ⟨ord, free, ho, q1, q2⟩, fun e => (by cases e)⟩
  · rintro z ⟨-, h2⟩
    obtain ⟨q1, q2⟩ := h2 z rfl
    exact ok_some ⟨fun e => (by rw [q1] at e; cases e), fun _ => q2⟩
end Go.Proofs.YtfkncjfpgflafaaDoor.X
