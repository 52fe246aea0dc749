/- timing.Report of two jobs side by side. Plain. -/
import Derived.Test.YtlolchgeedegdaaDoorTF
namespace Go.Proofs.YtlolchgeedegdaaDoor.X
open Go Go.RowKit
set_option linter.unusedVariables false
set_option linter.unusedSimpArgs false
set_option linter.unusedSectionVars false
section
variable {j : T_timing_Job} {ins flops gates outs : Int} {p : Bool} (h : JobN ins flops gates outs p 10 j)
include h
theorem Ends_ok : Ok (P_timing_Ends j.Net) (fun r => (1 ≤ r.length ∧ r.length ≤ 20) ∧ All (fun _ e => EndN j.Net e ∧ e.Setup = ⟨false, 0, 0⟩ ∧ e.Hold = ⟨false, 0, 0⟩) r) := by
  have hf := h.hf
  have ho := h.ho
  have a := h.hn.flopL
  have b := h.hn.outsL
  unfold P_timing_Ends
  refine ok_bd (R := fun r => (r.length : Int) ≤ 2 * flops ∧ All (fun _ e => EndN j.Net e ∧ e.Setup = ⟨false, 0, 0⟩ ∧ e.Hold = ⟨false, 0, 0⟩) r) ?_ ?_
  · refine ok_lp (fun s => (0 ≤ s.2 ∧ s.2 ≤ flops) ∧ (s.1.length : Int) ≤ 2 * s.2 ∧ All (fun _ e => EndN j.Net e ∧ e.Setup = ⟨false, 0, 0⟩ ∧ e.Hold = ⟨false, 0, 0⟩) s.1) (fun s => (flops - s.2).toNat) ⟨⟨by simp, by simp only; omega⟩, by simp, All.nil⟩ (by simp only; omega) ?_
    rintro ⟨xs, y⟩ ⟨⟨y0, y1⟩, y2, y3⟩
    simp only at y0 y1 y2 y3
    unfold P_timing_Ends_L3
    dsimp only
    refine ok_ite (fun hlt => ?_) fun hge => ok_some ⟨by omega, y3⟩
    refine ok_ck ⟨y0, hlt⟩ (ok_lv (ok_bd (inputs_ok _) ?_))
    rintro k hk
    have hk2 : k ≤ 2 := by rw [hk]; split <;> omega
    refine ok_bd (R := fun r => (r.length : Int) ≤ 2 * (y + 1) ∧ All (fun _ e => EndN j.Net e ∧ e.Setup = ⟨false, 0, 0⟩ ∧ e.Hold = ⟨false, 0, 0⟩) r) ?_ ?_
    · refine ok_lp (fun s => (0 ≤ s.2 ∧ s.2 ≤ 2) ∧ (s.1.length : Int) ≤ 2 * y + s.2 ∧ All (fun _ e => EndN j.Net e ∧ e.Setup = ⟨false, 0, 0⟩ ∧ e.Hold = ⟨false, 0, 0⟩) s.1) (fun s => (2 - s.2).toNat) ⟨⟨by simp, by simp⟩, by simpa using y2, y3⟩ (by simp only; omega) ?_
      rintro ⟨xs, z⟩ ⟨⟨z0, z1⟩, z2, z3⟩
      simp only at z0 z1 z2 z3
      unfold P_timing_Ends_L6
      dsimp only
      refine ok_ite (fun hz => ?_) fun hge => ok_some ⟨by omega, z3⟩
      exact ok_lv (ok_ck (by simp only [apOk, List.length_append, List.length_singleton]; omega) (ok_ar (by omega) (ok_some ⟨⟨⟨by simp only; omega, by simp only; omega⟩, by simp only [List.length_append, List.length_singleton]; omega, z3.snoc ⟨.inr ⟨⟨y0, hlt⟩, z0, by rw [← hk]; exact hz⟩, rfl, rfl⟩⟩, by simp only; omega⟩)))
    rintro r ⟨r1, r2⟩
    exact ok_ar (by omega) (ok_some ⟨⟨⟨by simp only; omega, by simp only; omega⟩, r1, r2⟩, by simp only; omega⟩)
  rintro xs ⟨x1, x2⟩
  refine ok_bd (R := fun r => (1 ≤ r.length ∧ r.length ≤ 20) ∧ All (fun _ e => EndN j.Net e ∧ e.Setup = ⟨false, 0, 0⟩ ∧ e.Hold = ⟨false, 0, 0⟩) r) ?_ fun r hr => ok_some hr
  refine ok_lp (fun s => (0 ≤ s.2 ∧ s.2 ≤ outs) ∧ ((s.1.length : Int) ≤ 2 * flops + s.2 ∧ s.2 ≤ s.1.length) ∧ All (fun _ e => EndN j.Net e ∧ e.Setup = ⟨false, 0, 0⟩ ∧ e.Hold = ⟨false, 0, 0⟩) s.1) (fun s => (outs - s.2).toNat) ⟨⟨by simp, by simp only; omega⟩, ⟨by simpa using x1, by simp⟩, x2⟩ (by simp only; omega) ?_
  rintro ⟨xs, z⟩ ⟨⟨z0, z1⟩, ⟨z2, z4⟩, z3⟩
  simp only at z0 z1 z2 z3 z4
  unfold P_timing_Ends_L12
  dsimp only
  refine ok_ite (fun hz => ?_) fun hge => ok_some ⟨by omega, z3⟩
  exact ok_lv (ok_ck (by simp only [apOk, List.length_append, List.length_singleton]; omega) (ok_ar (by omega) (ok_some ⟨⟨⟨by simp only; omega, by simp only; omega⟩, ⟨by simp only [List.length_append, List.length_singleton]; omega, by simp only [List.length_append, List.length_singleton]; omega⟩, z3.snoc ⟨.inl ⟨rfl, z0, hz⟩, rfl, rfl⟩⟩, by simp only; omega⟩)))
variable {G : List (List T_tree_Window)} {d : Int} {eq : Prop} (hk : JobN ins flops gates outs p 12 (kOf j G d)) (hd : 0 ≤ d ∧ d ≤ 1000) (hp : d = 0 ∨ p = false) (hGl : G.length = j.Delays.Gates.length)
  (hG : ∀ g, inb g G.length → (gt G g).length = (gt j.Delays.Gates g).length ∧ ∀ i, inb i (gt G g).length → RW eq (gt (gt j.Delays.Gates g) i) (gt (gt G g) i))
include hk hd hp hGl hG
theorem Report2 : Ok2 (P_timing_Report j) (P_timing_Report (kOf j G d)) (fun r t => r.2 = 0 ∧ t.2 = 0 ∧ ∃ n, (1 ≤ n ∧ n ≤ 20) ∧ REs eq d (KnE j (ins + flops)) n r.1 t.1) := by
  have h' := TCheck_ok h
  have hk' := TCheck_ok hk
  unfold P_timing_Report
  refine ok2_both h' hk' ?_
  rintro _ _ rfl rfl
  refine ok2_ite Iff.rfl (fun hn => absurd rfl hn) fun _ => ok2_one (Ends_ok h) ?_
  rintro es ⟨⟨n1, n2⟩, hes⟩
  have hR0 : REs eq d (KnE j (ins + flops)) es.length es es := by
    refine ⟨rfl, rfl, fun i h0 h1 => ?_⟩
    obtain ⟨q1, q2, q3⟩ := hes i ⟨h0, h1⟩
    exact ⟨rfl, rfl, ⟨rfl, fun hk => (by rw [q2] at hk; cases hk), fun _ => by rw [q2]; exact ⟨rfl, rfl⟩, fun _ => rfl, by rw [q2]; simp⟩, ⟨rfl, fun hk => (by rw [q3] at hk; cases hk), fun _ => by rw [q3]; exact ⟨rfl, rfl⟩, fun _ => rfl, by rw [q3]; simp⟩, q1, fun hk => (by rw [q2] at hk; cases hk)⟩
  have hi := h.hi
  have hf := h.hf
  have a := h.hn.inL
  have b := h.hn.flopL
  refine ok2_one (R := fun r => r = ins + flops) ?_ ?_
  · unfold P_timing_Starts
    exact ok_ar (by simp only; omega) (ok_some (by simp only; omega))
  rintro _ rfl
  refine ok2_bd (R := REs eq d (KnE j (ins + flops)) es.length) ?_ fun x y _ hr => ok2_some ⟨rfl, rfl, es.length, by omega, hr⟩
  refine ok2_lp (fun u v => u.2 = v.2 ∧ (0 ≤ u.2 ∧ u.2 ≤ ins + flops) ∧ REs eq d (KnE j (ins + flops)) es.length u.1 v.1) (fun u => (ins + flops - u.2).toNat) ⟨rfl, ⟨by simp, by simp only; omega⟩, hR0⟩ (by simp only; omega) ?_
  rintro ⟨xs, y⟩ ⟨ys, y'⟩ ⟨rfl, ⟨y0, y1⟩, hR⟩
  simp only at y0 y1 hR
  unfold P_timing_Report_L6
  dsimp only
  refine ok2_ite Iff.rfl (fun hlt => ?_) fun hge => ok2_end hR
  refine ok2_bd (from2 h hGl hG (d := d) (s := y) ⟨y0, hlt⟩) ?_
  rintro nets nets' hnets hN
  refine ok2_bd (R := REs eq d (KnE j (ins + flops)) es.length) ?_ ?_
  · refine ok2_lp (fun u v => u.2 = v.2 ∧ (0 ≤ u.2 ∧ u.2 ≤ es.length) ∧ REs eq d (KnE j (ins + flops)) es.length u.1 v.1) (fun u => ((es.length : Int) - u.2).toNat) ⟨rfl, ⟨by simp, by simp⟩, hR⟩ (by simp only; omega) ?_
    rintro ⟨xs, z⟩ ⟨ys, z'⟩ ⟨rfl, ⟨z0, z1⟩, hQ⟩
    simp only at z0 z1 hQ
    have l1 := hQ.l1
    have l2 := hQ.l2
    unfold P_timing_Report_L10
    dsimp only
    refine ok2_ite Iff.rfl (fun hz => ?_) fun hge => ok2_end hQ
    have hE := (hQ.at_ z z0 hz).k.1
    refine ok2_ck ⟨z0, by omega⟩ ⟨z0, by omega⟩ (ok2_ck ⟨z0, by omega⟩ ⟨z0, by omega⟩ (ok2_lv (ok2_bd (R := fun a b => P_timing_at j nets (gt xs z) = some a ∧ RA eq 1012 a b) ?_ ?_)))
    · unfold P_timing_End_in
      have hs : P_timing_at (kOf j G d) nets' (gt ys z) = P_timing_at j nets' (gt xs z) := by
        rw [at_same h]
        unfold P_timing_at
        rw [(hQ.at_ z z0 hz).fl, (hQ.at_ z z0 hz).ip]
      rw [hs]
      refine ok2_bd (at2 h hN hE) ?_
      intro a b ha hab
      exact ok2_some ⟨ha, hab⟩
    rintro a b - ⟨ha, hab⟩
    refine ok2_bd (slacks2 h (G := G) hd hp (s := y) ⟨y0, hlt⟩ hQ (i := z) ⟨z0, hz⟩ hab hnets ha) ?_
    rintro xs2 ys2 - hQ2
    exact ok2_ar (by omega) (by omega) (ok2_next ⟨rfl, ⟨by simp only; omega, by simp only; omega⟩, hQ2⟩ (by simp only; omega))
  rintro xs2 ys2 - hR2
  exact ok2_ar (by omega) (by omega) (ok2_next ⟨rfl, ⟨by simp only; omega, by simp only; omega⟩, hR2⟩ (by simp only; omega))
end
theorem times_ok : Ok P_maskkeep4_times (fun r => r = true) := ⟨true, by decide +kernel, rfl⟩
theorem JobN.grow {j : T_timing_Job} {ins flops gates outs m m' : Int} {p : Bool} (h : JobN ins flops gates outs p m j) (hm : m ≤ m' ∧ m' ≤ 12) {d : Int} (hd : 0 ≤ d ∧ d ≤ 1000) (hper : j.Limits.Period ≤ 200) {G : List (List T_tree_Window)}
    (hG : G.length = j.Net.Gates.length) (hg : All (fun i l => l.length = (gt j.Net.Gates i).Ins.length ∧ All (fun _ w => WinN m' w) l) G) : JobN ins flops gates outs p m' (kOf j G d) := by
  have hw : ∀ {xs : List T_tree_Window}, All (fun _ w => WinN m w) xs → All (fun _ w => WinN m' w) xs := fun hx => hx.mono fun i x _ hx => ⟨hx.lo, hx.le, by have := hx.hi; omega⟩
  obtain ⟨h1, h2, h3, h4, h5, h6, h7, h8, h9⟩ := h
  obtain ⟨d1, d2, d3, d4, d5, d6, d7, d8, d9, d10⟩ := h7
  obtain ⟨l1, l2, l3, l4, l5, l6, l7, l8, l9, l10⟩ := h9
  exact ⟨h1, h2, h3, h4, h5, h6, ⟨hG, hg, d3, d4.mono fun i x _ hx => ⟨hx.1, hw hx.2⟩, d5, hw d6, d7, hw d8, d9, hw d10⟩, by omega, ⟨by simp only [kOf]; omega, l2, l3, l4, l5, l6, l7, l8, l9, l10⟩⟩
end Go.Proofs.YtlolchgeedegdaaDoor.X
