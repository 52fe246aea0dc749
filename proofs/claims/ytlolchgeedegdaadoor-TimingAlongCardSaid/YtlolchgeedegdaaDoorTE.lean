/- timing.Report of two jobs side by side: windows that are wider, or a period that is longer. Plain. -/
import Derived.Test.YtlolchgeedegdaaDoorTD
import Derived.Test.YtlolchgeedegdaaDoorYV
namespace Go.Proofs.YtlolchgeedegdaaDoor.X
open Go Go.RowKit
set_option linter.unusedVariables false
set_option linter.unusedSimpArgs false
set_option linter.unusedSectionVars false
/-- The job with other windows of gates, and another period. -/
def kOf (j : T_timing_Job) (G : List (List T_tree_Window)) (d : Int) : T_timing_Job :=
  ⟨j.Net, j.Lib, ⟨G, j.Delays.Data, j.Delays.Outs, j.Delays.Clock, j.Delays.Launch⟩, ⟨j.Limits.Period + d, j.Limits.Inputs, j.Limits.Outputs, j.Limits.Paths⟩⟩
/-- Two arrivals, the second one within wider windows. -/
structure RA (eq : Prop) (B : Int) (a b : T_timing_Arrival) : Prop where
  kn : a.Known = b.Known
  ea : b.Early ≤ a.Early
  la : a.Late ≤ b.Late
  eq : eq → a = b
  e1 : -B ≤ b.Early
  e2 : a.Early ≤ B
  l1 : -B ≤ a.Late
  l2 : b.Late ≤ B
structure RW (eq : Prop) (w v : T_tree_Window) : Prop where
  lo : v.Lo ≤ w.Lo
  hi : w.Hi ≤ v.Hi
  eq : eq → w = v
  l1 : 0 ≤ v.Lo
  l2 : w.Lo ≤ 12
  h1 : 0 ≤ w.Hi
  h2 : v.Hi ≤ 12
theorem RA.grow {eq : Prop} {B C : Int} {a b : T_timing_Arrival} (h : RA eq B a b) (hc : B ≤ C) : RA eq C a b :=
  ⟨h.kn, h.ea, h.la, h.eq, by have := h.e1; omega, by have := h.e2; omega, by have := h.l1; omega, by have := h.l2; omega⟩
theorem later2 {eq : Prop} {B : Int} {a b : T_timing_Arrival} {w v : T_tree_Window} (h : RA eq B a b) (hw : RW eq w v) (hB : 0 ≤ B ∧ B ≤ 1000000) : Ok2 (P_timing_later a w) (P_timing_later b v) (RA eq (B + 12)) := by
  obtain ⟨h1, h2, h3, h4, h5, h6, h7, h8⟩ := h
  obtain ⟨w1, w2, w3, w4, w5, w6, w7⟩ := hw
  unfold P_timing_later
  refine ok2_ite (by rw [h1]) (fun _ => ok2_some ⟨h1, h2, h3, h4, by omega, by omega, by omega, by omega⟩) fun _ => ok2_ar (by omega) (by omega) (ok2_ar (by omega) (by omega) (ok2_some ⟨rfl, by simp only; omega, by simp only; omega, fun e => by rw [h4 e, w3 e], by simp only; omega, by simp only; omega, by simp only; omega, by simp only; omega⟩))
theorem join2 {eq : Prop} {B : Int} {a b c d : T_timing_Arrival} (h : RA eq B a b) (h' : RA eq B c d) : Ok2 (P_timing_join a c) (P_timing_join b d) (RA eq B) := by
  obtain ⟨h1, h2, h3, h4, h5, h6, h7, h8⟩ := h
  have h'0 := h'
  obtain ⟨g1, g2, g3, g4, g5, g6, g7, g8⟩ := h'
  unfold P_timing_join
  refine ok2_ite (by rw [h1]) (fun _ => ok2_some h'0) fun _ => ok2_ite (by rw [g1]) (fun _ => ok2_some ⟨h1, h2, h3, h4, h5, h6, h7, h8⟩) fun _ => ok2_lv (ok2_lv (ok2_some ⟨rfl, by simp only; omega, by simp only; omega, fun e => by rw [h4 e, g4 e], by simp only; omega, by simp only; omega, by simp only; omega, by simp only; omega⟩))
/-- Lists of arrivals. -/
structure RAs (eq : Prop) (N B : Int) (xs ys : List T_timing_Arrival) : Prop where
  l1 : (xs.length : Int) = N
  l2 : (ys.length : Int) = N
  at_ : ∀ i, 0 ≤ i → i < N → RA eq B (gt xs i) (gt ys i)
theorem RAs.put {eq : Prop} {N B : Int} {xs ys : List T_timing_Arrival} (h : RAs eq N B xs ys) {i : Int} (hi : 0 ≤ i ∧ i < N) {a b : T_timing_Arrival} (hab : RA eq B a b) : RAs eq N B (stt xs i a) (stt ys i b) := by
  refine ⟨by rw [stt_length]; exact h.l1, by rw [stt_length]; exact h.l2, fun q h0 h1 => ?_⟩
  rw [gt_stt xs _ ⟨hi.1, by have := h.l1; omega⟩ h0, gt_stt ys _ ⟨hi.1, by have := h.l2; omega⟩ h0]
  split
  · exact hab
  · exact h.at_ q h0 h1
section
variable {j : T_timing_Job} {ins flops gates outs : Int} {p : Bool} (h : JobN ins flops gates outs p 10 j)
include h
theorem leaves_ok {s : Int} (hs : 0 ≤ s ∧ s < ins + flops) : Ok (P_timing_leaves j s) (fun r => 0 ≤ r.Lo ∧ r.Lo ≤ 20 ∧ 0 ≤ r.Hi ∧ r.Hi ≤ 20) := by
  have a := h.hn.inL
  have b := h.hn.flopL
  have c := h.hd.cL
  have d := h.hd.lL
  have hi := h.hi
  have hf := h.hf
  unfold P_timing_leaves
  refine ok_ite (fun hlt => ok_ck ⟨hs.1, hlt⟩ (ok_lv (ok_bd (R := fun r => 0 ≤ r.Lo ∧ r.Lo ≤ 20 ∧ 0 ≤ r.Hi ∧ r.Hi ≤ 20) ?_ fun r hr => ok_some hr))) fun hge => ok_ar (by omega) (ok_ck ⟨by omega, by omega⟩ (ok_lv (ok_ck ⟨by omega, by omega⟩ (ok_lv ?_))))
  · have e := h.hL.inL
    unfold P_clocks_At
    refine ok_bs (R := fun o => match o with | .inl _ => True | .inr (r : T_tree_Window) => 0 ≤ r.Lo ∧ r.Lo ≤ 20 ∧ 0 ≤ r.Hi ∧ r.Hi ≤ 20) ?_ (fun _ _ => ok_some (by simp)) fun y hy => ok_some hy
    refine ok_lp (fun y => 0 ≤ y ∧ y ≤ j.Limits.Inputs.length) (fun y => ((j.Limits.Inputs.length : Int) - y).toNat) ⟨by omega, by omega⟩ (by omega) ?_
    rintro y ⟨y0, y1⟩
    unfold P_clocks_At_L2
    dsimp only
    refine ok_ite (fun hlt => ?_) fun hge => ok_some trivial
    obtain ⟨-, hw⟩ := h.hL.inp y ⟨y0, hlt⟩
    have w1 := hw.lo
    have w2 := hw.le
    have w3 := hw.hi
    refine ok_ck ⟨y0, hlt⟩ (ok_lv (ok_ite (fun _ => ok_some (by simp only; omega)) fun _ => ok_ar (by omega) (ok_some ⟨⟨by omega, by omega⟩, by omega⟩)))
  · have hw := h.hd.cW (s - j.Net.In.length) ⟨by omega, by omega⟩
    have hv := h.hd.lW (s - j.Net.In.length) ⟨by omega, by omega⟩
    have w1 := hw.lo
    have w2 := hw.le
    have w3 := hw.hi
    have v1 := hv.lo
    have v2 := hv.le
    have v3 := hv.hi
    exact ok_ar (by omega) (ok_ar (by omega) (ok_some ⟨by simp only; omega, by simp only; omega, by simp only; omega, by simp only; omega⟩))
theorem Nets_ok : Ok (P_netlist_Nets j.Net) (fun r => r = 2 + ins + flops + gates) := by
  have a := h.hn.gateL
  have hi := h.hi
  have hf := h.hf
  have hg := h.hg
  unfold P_netlist_Nets
  refine ok_bd (First_ok h.hl h.hn (by omega) (by omega) (by have := h.hg; omega) (by have := h.ho; omega)) ?_
  rintro _ rfl
  exact ok_ar (by omega) (ok_some (by omega))
variable {G : List (List T_tree_Window)} {d : Int} {eq : Prop} (hGl : G.length = j.Delays.Gates.length)
  (hG : ∀ g, inb g G.length → (gt G g).length = (gt j.Delays.Gates g).length ∧ ∀ i, inb i (gt G g).length → RW eq (gt (gt j.Delays.Gates g) i) (gt (gt G g) i))
include hGl hG
theorem from2 {s : Int} (hs : 0 ≤ s ∧ s < ins + flops) : Ok2 (P_timing_from j [s]) (P_timing_from (kOf j G d) [s]) (RAs eq (2 + ins + flops + gates) 1000) := by
  have hi := h.hi
  have hf := h.hf
  have hg := h.hg
  have a := h.hn.gateL
  have b := h.hd.gL
  unfold P_timing_from
  refine ok2_one (Nets_ok h) ?_
  rintro _ rfl
  refine ok2_ck (by simp only [mkOk]; omega) (by simp only [mkOk]; omega) (ok2_lv (ok2_bd (R := RAs eq (2 + ins + flops + gates) 20) ?_ ?_))
  · refine ok2_lp (fun u v => u.2 = v.2 ∧ (0 ≤ u.2 ∧ u.2 ≤ 1) ∧ RAs eq (2 + ins + flops + gates) 20 u.1 v.1) (fun u => (1 - u.2).toNat) ⟨rfl, by simp, ⟨by simp only [List.length_replicate]; omega, by simp only [List.length_replicate]; omega, fun i h0 h1 => ?_⟩⟩ (by simp only; omega) ?_
    · simp only
      rw [gt_rep ⟨h0, by omega⟩]
      exact ⟨rfl, by simp, by simp, fun _ => rfl, by simp, by simp, by simp, by simp⟩
    rintro ⟨xs, y⟩ ⟨ys, y'⟩ ⟨rfl, ⟨y0, y1⟩, hR⟩
    simp only at y0 y1 hR
    have l1 := hR.l1
    have l2 := hR.l2
    unfold P_timing_from_L3
    dsimp only
    refine ok2_ite Iff.rfl (fun hlt => ?_) fun hge => ok2_end hR
    simp only [List.length_cons, List.length_nil] at hlt
    have e0 : y = 0 := by omega
    subst e0
    refine ok2_ck ⟨by omega, by simp⟩ ⟨by omega, by simp⟩ (ok2_lv ?_)
    rw [show gt [s] 0 = s from rfl, show P_timing_leaves (kOf j G d) s = P_timing_leaves j s by unfold P_timing_leaves P_clocks_At P_clocks_At_L2; rfl]
    refine ok2_one (leaves_ok h hs) ?_
    rintro w ⟨w1, w2, w3, w4⟩
    refine ok2_ar (by omega) (by omega) (ok2_ck ⟨by omega, by omega⟩ ⟨by omega, by omega⟩ (ok2_lv (ok2_ar (by omega) (by omega) (ok2_next ⟨rfl, by simp, hR.put (by omega) ⟨rfl, by simp, by simp, fun _ => rfl, by simp only; omega, by simp only; omega, by simp only; omega, by simp only; omega⟩⟩ (by simp only; omega)))))
  rintro xs ys - hR0
  refine ok2_one (First_ok h.hl h.hn (by omega) (by omega) (by have := h.hg; omega) (by have := h.ho; omega)) ?_
  rintro _ rfl
  refine ok2_bd (R := RAs eq (2 + ins + flops + gates) 1000) ?_ fun x y _ hr => ok2_some hr
  refine ok2_lp (fun u v => u.2 = v.2 ∧ (0 ≤ u.2 ∧ u.2 ≤ gates) ∧ RAs eq (2 + ins + flops + gates) (20 + 40 * u.2) u.1 v.1) (fun u => (gates - u.2).toNat) ⟨rfl, ⟨by simp, by simp only; omega⟩, by simpa using hR0⟩ (by simp only; omega) ?_
  rintro ⟨xs, y⟩ ⟨ys, y'⟩ ⟨rfl, ⟨y0, y1⟩, hR⟩
  simp only at y0 y1 hR
  unfold P_timing_from_L10
  dsimp only
  refine ok2_ite Iff.rfl (fun hlt => ?_) fun hge => ok2_end ⟨hR.l1, hR.l2, fun i h0 h1 => (hR.at_ i h0 h1).grow (by omega)⟩
  obtain ⟨q1, q2, q3, q4⟩ := h.hn.gate y ⟨y0, hlt⟩
  have q5 := h.hn.insL h.hl (i := y) ⟨y0, by omega⟩
  obtain ⟨d1, d2⟩ := h.hd.gW y ⟨y0, by omega⟩
  obtain ⟨g1, g2⟩ := hG y ⟨y0, by omega⟩
  refine ok2_ck ⟨y0, hlt⟩ ⟨y0, hlt⟩ (ok2_lv (ok2_bd (R := RAs eq (2 + ins + flops + gates) (20 + 40 * (y + 1))) ?_ ?_))
  · refine ok2_lp (fun u v => u.2 = v.2 ∧ (0 ≤ u.2 ∧ u.2 ≤ (gt j.Net.Gates y).Ins.length) ∧ RAs eq (2 + ins + flops + gates) (20 + 40 * y + 12 * u.2) u.1 v.1) (fun u => (((gt j.Net.Gates y).Ins.length : Int) - u.2).toNat) ⟨rfl, ⟨by simp, by simp only; omega⟩, by simpa using hR⟩ (by simp only; omega) ?_
    rintro ⟨xs, z⟩ ⟨ys, z'⟩ ⟨rfl, ⟨z0, z1⟩, hQ⟩
    simp only at z0 z1 hQ
    have l1 := hQ.l1
    have l2 := hQ.l2
    unfold P_timing_from_L13
    dsimp only
    refine ok2_ite Iff.rfl (fun hz => ?_) fun hge => ok2_end ⟨hQ.l1, hQ.l2, fun i h0 h1 => (hQ.at_ i h0 h1).grow (by omega)⟩
    have q6 := q4 z ⟨z0, hz⟩
    simp only at q6
    refine ok2_ck ⟨z0, hz⟩ ⟨z0, hz⟩ (ok2_lv (ok2_ar (by omega) (by omega) (ok2_ar (by omega) (by omega) (ok2_ck ⟨by omega, by omega⟩ ⟨by omega, by omega⟩ (ok2_lv (ok2_ck ⟨by omega, by omega⟩ ⟨q6.1, by simp only [kOf]; omega⟩ (ok2_lv (ok2_ck ⟨y0, by omega⟩ ⟨y0, by simp only [kOf]; omega⟩ (ok2_lv (ok2_ck ⟨z0, by omega⟩ ⟨z0, by simp only [kOf]; omega⟩ (ok2_lv ?_)))))))))))
    refine ok2_bd (later2 (hQ.at_ (gt (gt j.Net.Gates y).Ins z) q6.1 (by omega)) (g2 z ⟨z0, by omega⟩) (by omega)) ?_
    rintro b1 b2 - hb
    refine ok2_bd (join2 ((hQ.at_ (2 + ins + flops + y) (by omega) (by omega)).grow (by omega)) hb) ?_
    rintro c1 c2 - hc
    refine ok2_ck ⟨by omega, by omega⟩ ⟨by omega, by omega⟩ (ok2_lv (ok2_ar (by omega) (by omega) (ok2_next ⟨rfl, ⟨by simp only; omega, by simp only; omega⟩, ?_⟩ (by simp only; omega))))
    have hQ' : RAs eq (2 + ins + flops + gates) (20 + 40 * y + 12 * z + 12) xs ys := ⟨hQ.l1, hQ.l2, fun i h0 h1 => (hQ.at_ i h0 h1).grow (by omega)⟩
    have := hQ'.put (i := 2 + ins + flops + y) (by omega) hc
    rw [show 20 + 40 * y + 12 * (z + 1) = 20 + 40 * y + 12 * z + 12 by omega]
    exact this
  rintro xs2 ys2 - hR2
  exact ok2_ar (by omega) (by omega) (ok2_next ⟨rfl, ⟨by simp only; omega, by simp only; omega⟩, hR2⟩ (by simp only; omega))
end
end Go.Proofs.YtlolchgeedegdaaDoor.X
