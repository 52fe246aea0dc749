/- TimingPeriod. Plain. -/
import Derived.Test.YtlolchgeedegdaaDoorTG
namespace Go.Proofs.YtlolchgeedegdaaDoor.X
open Go Go.RowKit
set_option linter.unusedVariables false
set_option linter.unusedSimpArgs false
set_option linter.unusedSectionVars false
theorem TimingPeriod_ok {L : List Int} (hL : Strm L) {more : Int} (hm : I64 more) : Ok (P_maskkeep4_TimingPeriod L more) (fun r => r = true) := by
  unfold P_maskkeep4_TimingPeriod
  refine ok_bd (job_ok hL false) ?_
  rintro ⟨j, k⟩ ⟨⟨ins, flops, gates, outs, hj⟩, hper, k0, k1⟩
  simp only at hj hper k0 k1
  refine ok_bd (Below_ok more hm (n := 1000) (by omega)) ?_
  rintro d ⟨d0, d1, -⟩
  have d1 := d1 (by omega)
  have hp1 := hj.hL.per.1
  refine ok_ar (by simp only; omega) ?_
  have hk := hj.grow (d := d) (m' := 12) (by omega) (by omega) hper (G := j.Delays.Gates) hj.hd.gL (hj.hd.gW.mono fun i x _ hx => ⟨hx.1, hx.2.mono fun i w _ hw => ⟨hw.lo, hw.le, by have := hw.hi; omega⟩⟩)
  obtain ⟨r, t, e1, e2, r0, t0, n, hn, hR⟩ := Report2 (eq := True) hj hk (by omega) (.inr rfl) rfl fun g hg => ⟨rfl, fun i hi => RW.same hj ((hj.hd.gW g hg).2 i hi)⟩
  have l1 := hR.l1
  have l2 := hR.l2
  refine ok_bd (R := fun x => r = x) ⟨r, e1, rfl⟩ ?_
  rintro _ rfl
  refine ok_bd (R := fun x => t = x) ⟨t, e2, rfl⟩ ?_
  rintro _ rfl
  refine ok_bd times_ok ?_
  rintro _ rfl
  refine ok_lv (ok_lv (ok_lv (ok_f (by simp only [r0, t0, Bool.or_eq_true, decide_eq_true_eq]; simp; omega) (ok_bs1 (R := fun _ => True) ?_ fun _ _ => ok_some rfl))))
  refine ok_lp (fun y => 0 ≤ y ∧ y ≤ n) (fun y => (n - y).toNat) ⟨by omega, by omega⟩ (by omega) ?_
  rintro y ⟨y0, y1⟩
  unfold P_maskkeep4_TimingPeriod_L11
  refine ok_ite (fun hlt => ?_) fun hge => ok_some ⟨(), rfl, trivial⟩
  have i1 : inb y r.1.length := ⟨y0, hlt⟩
  have i2 : inb y t.1.length := ⟨y0, by omega⟩
  obtain ⟨q1, q2, q3, q4, q5⟩ := hR.at_ y y0 (by omega)
  have hval := q3.bd
  have hkn : ((gt r.1 y).Setup.Known == (gt t.1 y).Setup.Known) = true := by rw [q3.kn]; simp
  have hv : ((gt r.1 y).Setup.Known && decide ((gt t.1 y).Setup.Value ≠ (gt r.1 y).Setup.Value + d)) = false := by
    cases hk : (gt r.1 y).Setup.Known
    · rfl
    · have := (q3.le hk).2 trivial
      simp [this]
  have hH : (gt r.1 y).Hold = (gt t.1 y).Hold := by
    have hkk := q4.kn
    have hvv : (gt r.1 y).Hold.Value = (gt t.1 y).Hold.Value := by
      cases hk : (gt r.1 y).Hold.Known
      · have := q4.no hk; omega
      · have := (q4.le hk).2 trivial; omega
    have hff := q4.fr trivial
    cases hx : (gt r.1 y).Hold
    cases hy : (gt t.1 y).Hold
    rw [hx, hy] at hkk hvv hff
    simp only at hkk hvv hff
    subst hkk; subst hvv; subst hff
    rfl
  refine ok_ck i1 (ok_lv (ok_ck i2 (ok_lv (ok_ck (fun _ => i1) (ok_ck (fun _ => i2) (ok_ck (fun _ => i1) (ok_ck (fun _ => by omega) (ok_lv (ok_lv (ok_lv (ok_ck (fun _ => i1) (ok_lv (ok_ck (fun _ => i2) (ok_lv (ok_lv (ok_lv (ok_f ?_ (ok_ar (by omega) (ok_some ⟨⟨by omega, by omega⟩, by omega⟩)))))))))))))))))))
  rw [hv, hkn, hH]
  simp
end Go.Proofs.YtlolchgeedegdaaDoor.X
