/- TimingWider. Plain. -/
import Derived.Test.YtlolchgeedegdaaDoorTG
namespace Go.Proofs.YtlolchgeedegdaaDoor.X
open Go Go.RowKit
set_option linter.unusedVariables false
set_option linter.unusedSimpArgs false
set_option linter.unusedSectionVars false
theorem TimingWider_ok {L : List Int} (hL : Strm L) : Ok (P_maskkeep4_TimingWider L) (fun r => r = true) := by
  unfold P_maskkeep4_TimingWider
  refine ok_bd (job_ok hL true) ?_
  rintro ⟨j, k⟩ ⟨⟨ins, flops, gates, outs, hj⟩, hper, k0, k1⟩
  simp only at hj hper k0 k1
  have hg := hj.hg
  have gL := hj.hn.gateL
  have dL := hj.hd.gL
  refine ok_bd (R := fun G => G.length = j.Delays.Gates.length ∧ All (fun g l => l.length = (gt j.Delays.Gates g).length ∧ All (fun i w => WinN 12 w ∧ RW False (gt (gt j.Delays.Gates g) i) w) l) G) ?_ ?_
  · refine ok_lp (fun s => (0 ≤ s.1 ∧ s.1 ≤ gates) ∧ (0 ≤ s.2.1 ∧ s.2.1 ≤ 10000 + 10 * s.1) ∧ (s.2.2.length : Int) = s.1 ∧ All (fun g l => l.length = (gt j.Delays.Gates g).length ∧ All (fun i w => WinN 12 w ∧ RW False (gt (gt j.Delays.Gates g) i) w) l) s.2.2) (fun s => (gates - s.1).toNat) ⟨⟨by simp, by simp only; omega⟩, ⟨k0, by simp only; omega⟩, by simp, All.nil⟩ (by simp only; omega) ?_
    rintro ⟨y, q, gs⟩ ⟨⟨y0, y1⟩, ⟨y2, y3⟩, y4, y5⟩
    simp only at y0 y1 y2 y3 y4 y5
    unfold P_maskkeep4_TimingWider_L6
    dsimp only
    refine ok_ite (fun hlt => ?_) fun hge => ok_some ⟨by omega, y5⟩
    obtain ⟨w1, w2⟩ := hj.hd.gW y ⟨y0, hlt⟩
    have q5 := hj.hn.insL hj.hl (i := y) ⟨y0, by omega⟩
    refine ok_ck ⟨y0, hlt⟩ (ok_lv (ok_bd (R := fun r => r.1.length = (gt j.Delays.Gates y).length ∧ All (fun i w => WinN 12 w ∧ RW False (gt (gt j.Delays.Gates y) i) w) r.1 ∧ q ≤ r.2 ∧ r.2 ≤ q + 10) ?_ ?_))
    · refine ok_lp (fun s => (0 ≤ s.2.1 ∧ s.2.1 ≤ (gt j.Delays.Gates y).length) ∧ s.2.2 = q + 2 * s.2.1 ∧ (s.1.length : Int) = s.2.1 ∧ All (fun i w => WinN 12 w ∧ RW False (gt (gt j.Delays.Gates y) i) w) s.1) (fun s => (((gt j.Delays.Gates y).length : Int) - s.2.1).toNat) ⟨⟨by simp, by simp⟩, by simp, by simp, All.nil⟩ (by simp only; omega) ?_
      rintro ⟨xs, z, q2⟩ ⟨⟨z0, z1⟩, z2, z3, z4⟩
      simp only at z0 z1 z2 z3 z4
      subst z2
      unfold P_maskkeep4_TimingWider_L10
      dsimp only
      refine ok_ite (fun hz => ?_) fun hge => ok_some ⟨by simp only; omega, z4, by simp only; omega, by simp only; omega⟩
      have hw := w2 z ⟨z0, hz⟩
      have v1 := hw.lo
      have v2 := hw.le
      have v3 := hw.hi
      refine ok_ck ⟨z0, hz⟩ (ok_lv (ok_bd (hL.next (by omega) (by omega)) ?_))
      rintro ⟨u, q3⟩ ⟨u0, u1, -, rfl⟩
      have u1 := u1 (by omega)
      simp only at u0 u1
      refine ok_ar (by simp only; omega) (ok_lv (ok_bd (hL.next (by simp only; omega) (by omega)) ?_))
      rintro ⟨v, q4⟩ ⟨t0, t1, -, rfl⟩
      have t1 := t1 (by omega)
      simp only at t0 t1
      refine ok_ar (by simp only; omega) (ok_lv (ok_ck (by simp only [apOk, List.length_append, List.length_singleton]; omega) (ok_ar (by omega) (ok_some ⟨⟨⟨by simp only; omega, by simp only; omega⟩, by simp only; omega, by simp only [List.length_append, List.length_singleton]; omega, z4.snoc ?_⟩, by simp only; omega⟩))))
      rw [z3]
      exact ⟨⟨by simp only; omega, by simp only; omega, by simp only; omega⟩, ⟨by simp only; omega, by simp only; omega, fun e => e.elim, by simp only; omega, by omega, by omega, by simp only; omega⟩⟩
    rintro ⟨xs, q2⟩ ⟨x1, x2, x3, x4⟩
    simp only at x1 x2 x3 x4
    refine ok_lv (ok_ck (by simp only [apOk, List.length_append, List.length_singleton]; omega) (ok_ar (by omega) (ok_some ⟨⟨⟨by simp only; omega, by simp only; omega⟩, ⟨by simp only; omega, by simp only; omega⟩, by simp only [List.length_append, List.length_singleton]; omega, y5.snoc ?_⟩, by simp only; omega⟩)))
    rw [y4]
    exact ⟨x1, x2⟩
  rintro G ⟨G1, G2⟩
  have hk := hj.grow (d := 0) (m' := 12) (by omega) (by omega) hper (G := G) (by omega) (G2.mono fun i x hi hx => ⟨by rw [hx.1, (hj.hd.gW i ⟨hi.1, by have := hi.2; omega⟩).1], hx.2.mono fun i w _ hw => hw.1⟩)
  obtain ⟨r, t, e1, e2, r0, t0, n, hn, hR⟩ := Report2 (eq := False) hj hk (by omega) (.inl rfl) G1 fun g hg => ⟨(G2 g hg).1, fun i hi => ((G2 g hg).2 i hi).2⟩
  have l1 := hR.l1
  have l2 := hR.l2
  refine ok_bd (R := fun x => r = x) ⟨r, e1, rfl⟩ ?_
  rintro _ rfl
  have e2' : P_timing_Report (T_timing_Job.mk (T_api_Netlist.mk j.Net.In j.Net.Out j.Net.Flops j.Net.Gates j.Net.Outs) j.Lib (T_delay_Delays.mk G j.Delays.Data j.Delays.Outs j.Delays.Clock j.Delays.Launch) (T_clocks_Limits.mk j.Limits.Period j.Limits.Inputs j.Limits.Outputs j.Limits.Paths)) = some t := by
    have : j.Limits.Period + 0 = j.Limits.Period := by omega
    rw [← e2]; unfold kOf; rw [this]
  refine ok_bd (R := fun x => t = x) ⟨t, e2', rfl⟩ ?_
  rintro _ rfl
  refine ok_bd times_ok ?_
  rintro _ rfl
  refine ok_lv (ok_lv (ok_lv (ok_f (by simp only [r0, t0, Bool.or_eq_true, decide_eq_true_eq]; simp; omega) (ok_bs1 (R := fun _ => True) ?_ fun _ _ => ok_some rfl))))
  refine ok_lp (fun y => 0 ≤ y ∧ y ≤ n) (fun y => (n - y).toNat) ⟨by omega, by omega⟩ (by omega) ?_
  rintro y ⟨y0, y1⟩
  unfold P_maskkeep4_TimingWider_L21
  refine ok_ite (fun hlt => ?_) fun hge => ok_some ⟨(), rfl, trivial⟩
  have i1 : inb y r.1.length := ⟨y0, hlt⟩
  have i2 : inb y t.1.length := ⟨y0, by omega⟩
  obtain ⟨q1, q2, q3, q4, q5⟩ := hR.at_ y y0 (by omega)
  have hkn : ((gt r.1 y).Setup.Known == (gt t.1 y).Setup.Known) = true := by rw [q3.kn]; simp
  have hv : (gt t.1 y).Setup.Value ≤ (gt r.1 y).Setup.Value := by
    cases hk : (gt r.1 y).Setup.Known
    · have := q3.no hk; omega
    · have := (q3.le hk).1; omega
  have hh : (gt t.1 y).Hold.Value ≤ (gt r.1 y).Hold.Value := by
    cases hk : (gt r.1 y).Hold.Known
    · have := q4.no hk; omega
    · have := (q4.le hk).1; omega
  refine ok_ck i1 (ok_lv (ok_ck i2 (ok_lv (ok_ck (fun _ => i2) (ok_ck (fun _ => i1) (ok_lv (ok_ck (fun _ => i2) (ok_ck (fun _ => i1) (ok_lv (ok_f ?_ (ok_ar (by omega) (ok_some ⟨⟨by omega, by omega⟩, by omega⟩))))))))))))
  rw [hkn]
  simp only [Bool.or_eq_true, decide_eq_true_eq, Bool.not_true, or_false, false_or]
  simp
  omega
end Go.Proofs.YtlolchgeedegdaaDoor.X
