/- timing.Report of two jobs side by side: the endpoints. Plain. -/
import Derived.Test.YtlolchgeedegdaaDoorTE
namespace Go.Proofs.YtlolchgeedegdaaDoor.X
open Go Go.RowKit
set_option linter.unusedVariables false
set_option linter.unusedSimpArgs false
set_option linter.unusedSectionVars false
/-- Two slacks, the second one at most d greater. -/
structure RS (eq : Prop) (d : Int) (s t : T_timing_Slack) : Prop where
  kn : s.Known = t.Known
  le : s.Known = true → t.Value ≤ s.Value + d ∧ (eq → t.Value = s.Value + d)
  no : s.Known = false → s.Value = 0 ∧ t.Value = 0
  fr : eq → s.From = t.From
  bd : -20000 ≤ s.Value ∧ s.Value ≤ 20000
structure RE (eq : Prop) (d : Int) (K : T_timing_End → Prop) (e f : T_timing_End) : Prop where
  fl : e.Flop = f.Flop
  ip : e.Input = f.Input
  su : RS eq d e.Setup f.Setup
  ho : RS eq 0 e.Hold f.Hold
  k : K e
structure REs (eq : Prop) (d : Int) (K : T_timing_End → Prop) (n : Int) (xs ys : List T_timing_End) : Prop where
  l1 : (xs.length : Int) = n
  l2 : (ys.length : Int) = n
  at_ : ∀ i, 0 ≤ i → i < n → RE eq d K (gt xs i) (gt ys i)
theorem REs.put {eq : Prop} {d n : Int} {K : T_timing_End → Prop} {xs ys : List T_timing_End} (h : REs eq d K n xs ys) {i : Int} (hi : 0 ≤ i ∧ i < n) {a b : T_timing_End} (hab : RE eq d K a b) : REs eq d K n (stt xs i a) (stt ys i b) := by
  refine ⟨by rw [stt_length]; exact h.l1, by rw [stt_length]; exact h.l2, fun q h0 h1 => ?_⟩
  rw [gt_stt xs _ ⟨hi.1, by have := h.l1; omega⟩ h0, gt_stt ys _ ⟨hi.1, by have := h.l2; omega⟩ h0]
  split
  · exact hab
  · exact h.at_ q h0 h1
/-- The smaller slack. -/
def lessS (s : T_timing_Slack) (v f : Int) : T_timing_Slack := if (!s.Known || decide (v < s.Value)) = true then ⟨true, v, f⟩ else s
theorem lessS_known (s : T_timing_Slack) (v f : Int) : (lessS s v f).Known = true := by
  unfold lessS
  split
  · rfl
  · rename_i h
    cases hk : s.Known <;> simp_all
theorem lessS_no {s : T_timing_Slack} {v f : Int} (h : s.Known = false) : lessS s v f = ⟨true, v, f⟩ := by
  unfold lessS
  rw [if_pos (by rw [h]; rfl)]
theorem lessS_yes {s : T_timing_Slack} {v f : Int} (h : s.Known = true) : lessS s v f = if v < s.Value then ⟨true, v, f⟩ else s := by
  unfold lessS
  by_cases hv : v < s.Value
  · rw [if_pos (by rw [h]; simp [hv]), if_pos hv]
  · rw [if_neg (by rw [h]; simp [hv]), if_neg hv]
theorem RS.less {eq : Prop} {d : Int} {s t : T_timing_Slack} (h : RS eq d s t) {v w f : Int} (hv : w ≤ v + d ∧ (eq → w = v + d)) (hb : -20000 ≤ v ∧ v ≤ 20000) : RS eq d (lessS s v f) (lessS t w f) := by
  obtain ⟨h1, h2, h3, h4, h5⟩ := h
  refine ⟨by rw [lessS_known, lessS_known], fun _ => ?_, fun hk => (by rw [lessS_known] at hk; cases hk), fun e => ?_, ?_⟩
  all_goals cases hk : s.Known
  · rw [hk] at h1
    rw [lessS_no hk, lessS_no h1.symm]
    exact hv
  · rw [hk] at h1
    rw [lessS_yes hk, lessS_yes h1.symm]
    obtain ⟨h6, h7⟩ := h2 hk
    obtain ⟨v1, v2⟩ := hv
    refine ⟨by split <;> split <;> (try simp only) <;> omega, fun e => ?_⟩
    have := h7 e
    have := v2 e
    split <;> split <;> (try simp only) <;> omega
  · rw [hk] at h1
    rw [lessS_no hk, lessS_no h1.symm]
  · rw [hk] at h1
    rw [lessS_yes hk, lessS_yes h1.symm]
    have := (h2 hk).2 e
    have := hv.2 e
    split <;> split <;> first | rfl | omega | exact h4 e
  · rw [lessS_no hk]; exact hb
  · rw [lessS_yes hk]
    split
    · exact hb
    · exact h5
theorem at_setup {j : T_timing_Job} {nets : List T_timing_Arrival} {e : T_timing_End} {s : T_timing_Slack} : P_timing_at j nets { e with Setup := s } = P_timing_at j nets e := by unfold P_timing_at; rfl
theorem at_hold {j : T_timing_Job} {nets : List T_timing_Arrival} {e : T_timing_End} {s : T_timing_Slack} : P_timing_at j nets { e with Hold := s } = P_timing_at j nets e := by unfold P_timing_at; rfl
theorem less_eq {xs : List T_timing_End} {i v f : Int} (hi : inb i xs.length) : P_timing_Slack_less xs i v f = some (stt xs i { gt xs i with Setup := lessS (gt xs i).Setup v f }) := by
  unfold P_timing_Slack_less lessS
  unfold lv
  by_cases hc : (!(gt xs i).Setup.Known || decide (v < (gt xs i).Setup.Value)) = true
  · simp only [if_pos hc, bd]
  · simp only [if_neg hc, bd]
    rw [show ({ gt xs i with Setup := (gt xs i).Setup } : T_timing_End) = gt xs i from rfl, stt_gt xs hi]
theorem less_eq2 {xs : List T_timing_End} {i v f : Int} (hi : inb i xs.length) : P_timing_Slack_less_2 xs i v f = some (stt xs i { gt xs i with Hold := lessS (gt xs i).Hold v f }) := by
  unfold P_timing_Slack_less_2 lessS
  unfold lv
  by_cases hc : (!(gt xs i).Hold.Known || decide (v < (gt xs i).Hold.Value)) = true
  · simp only [if_pos hc, bd]
  · simp only [if_neg hc, bd]
    rw [show ({ gt xs i with Hold := (gt xs i).Hold } : T_timing_End) = gt xs i from rfl, stt_gt xs hi]
/-- An endpoint of a netlist. -/
def EndN (n : T_api_Netlist) (e : T_timing_End) : Prop := (e.Flop = -1 ∧ 0 ≤ e.Input ∧ e.Input < n.Outs.length) ∨ ((0 ≤ e.Flop ∧ e.Flop < n.Flops.length) ∧ 0 ≤ e.Input ∧ e.Input < (if (gt n.Flops e.Flop).En = 1 then 1 else 2))
/-- The setup slack of an endpoint is that of a start that reaches it. -/
def KnE (j : T_timing_Job) (S : Int) (e : T_timing_End) : Prop := EndN j.Net e ∧ (e.Setup.Known = true → (0 ≤ e.Setup.From ∧ e.Setup.From < S) ∧ ∃ nets a, P_timing_from j [e.Setup.From] = some nets ∧ P_timing_at j nets e = some a ∧ a.Known = true)
section
variable {j : T_timing_Job} {ins flops gates outs : Int} {p : Bool} (h : JobN ins flops gates outs p 10 j)
include h
theorem Cycles_ok (f t : ByteArray) : Ok (P_clocks_Cycles j.Limits f t) (fun r => (r = 0 ∨ r = 1 ∨ r = 2 ∨ r = 3) ∧ (p = false → r = 1)) := by
  have a := h.hL.pL
  unfold P_clocks_Cycles
  refine ok_bs (R := fun o => match o with | .inl _ => True | .inr (r : Int) => (r = 0 ∨ r = 1 ∨ r = 2 ∨ r = 3) ∧ (p = false → r = 1)) ?_ (fun _ _ => ok_some ⟨by omega, fun _ => rfl⟩) fun y hy => ok_some hy
  refine ok_lp (fun y => 0 ≤ y ∧ y ≤ j.Limits.Paths.length) (fun y => ((j.Limits.Paths.length : Int) - y).toNat) ⟨by omega, by omega⟩ (by omega) ?_
  rintro y ⟨y0, y1⟩
  unfold P_clocks_Cycles_L2
  refine ok_ite (fun hlt => ?_) fun hge => ok_some trivial
  obtain ⟨-, -, hc⟩ := h.hL.pth y ⟨y0, hlt⟩
  refine ok_ck ⟨y0, hlt⟩ (ok_lv (ok_lv (ok_lv (ok_lv (ok_ite (fun _ => ok_some ⟨by omega, fun e => ?_⟩) fun _ => ok_ar (by omega) (ok_some ⟨⟨by omega, by omega⟩, by omega⟩))))))
  have := h.hL.pN e
  rw [this] at hlt
  simp at hlt
  omega
theorem Before_ok (o : ByteArray) : Ok (P_clocks_Before j.Limits o) (fun r => 1 ≤ r ∧ r ≤ 6) := by
  have a := h.hL.outL
  have ho := h.ho
  unfold P_clocks_Before
  refine ok_bs (R := fun o => match o with | .inl _ => True | .inr (r : Int) => 1 ≤ r ∧ r ≤ 6) ?_ (fun _ _ => ok_some (by omega)) fun y hy => ok_some hy
  refine ok_lp (fun y => 0 ≤ y ∧ y ≤ j.Limits.Outputs.length) (fun y => ((j.Limits.Outputs.length : Int) - y).toNat) ⟨by omega, by omega⟩ (by omega) ?_
  rintro y ⟨y0, y1⟩
  unfold P_clocks_Before_L2
  refine ok_ite (fun hlt => ?_) fun hge => ok_some trivial
  obtain ⟨-, hc⟩ := h.hL.out y ⟨y0, hlt⟩
  exact ok_ck ⟨y0, hlt⟩ (ok_lv (ok_ite (fun _ => ok_some hc) fun _ => ok_ar (by omega) (ok_some ⟨⟨by omega, by omega⟩, by omega⟩)))
theorem name_ok {s : Int} (hs : 0 ≤ s ∧ s < ins + flops) : Ok (P_timing_name j.Net s) (fun _ => True) := by
  have a := h.hn.inL
  have b := h.hn.flopL
  have hi := h.hi
  have hf := h.hf
  unfold P_timing_name
  exact ok_ite (fun hlt => ok_ck ⟨hs.1, hlt⟩ (ok_lv (ok_some trivial))) fun hge => ok_ar (by omega) (ok_ck ⟨by omega, by omega⟩ (ok_lv (ok_some trivial)))
theorem label_ok {e : T_timing_End} (he : EndN j.Net e) : Ok (P_timing_label j.Net e) (fun _ => True) := by
  have a := h.hn.outL
  have b := h.hn.outsL
  unfold P_timing_label
  rcases he with ⟨h1, h2, h3⟩ | ⟨⟨h1, h2⟩, h3, h4⟩
  · exact ok_t (by omega) (ok_ck ⟨by omega, by omega⟩ (ok_lv (ok_some trivial)))
  · exact ok_f (by omega) (ok_ck ⟨by omega, by omega⟩ (ok_lv (ok_some trivial)))
theorem RW.same {eq : Prop} {w : T_tree_Window} (hw : WinN 10 w) : RW eq w w :=
  ⟨Int.le_refl _, Int.le_refl _, fun _ => rfl, hw.lo, by have := hw.le; have := hw.hi; omega, by have := hw.lo; have := hw.le; omega, by have := hw.hi; omega⟩
theorem at2 {eq : Prop} {xs ys : List T_timing_Arrival} (hR : RAs eq (2 + ins + flops + gates) 1000 xs ys) {e : T_timing_End} (he : EndN j.Net e) : Ok2 (P_timing_at j xs e) (P_timing_at j ys e) (RA eq 1012) := by
  have hi := h.hi
  have hf := h.hf
  have hg := h.hg
  have l1 := hR.l1
  have l2 := hR.l2
  have a := h.hn.outsL
  have b := h.hd.oL
  have c := h.hn.flopL
  have d := h.hd.dL
  unfold P_timing_at
  rcases he with ⟨h1, h2, h3⟩ | ⟨⟨h1, h2⟩, h3, h4⟩
  · have q := h.hn.outs e.Input ⟨h2, h3⟩
    simp only at q
    refine ok2_ite Iff.rfl (fun _ => ok2_ck ⟨h2, h3⟩ ⟨h2, h3⟩ (ok2_lv (ok2_ck ⟨q.1, by omega⟩ ⟨q.1, by omega⟩ (ok2_lv (ok2_ck ⟨h2, by omega⟩ ⟨h2, by omega⟩ (ok2_lv ?_)))))) fun hn => absurd h1 (by omega)
    exact ok2_bd (later2 (hR.at_ _ q.1 (by omega)) (RW.same h (h.hd.oW e.Input ⟨h2, by omega⟩)) (by omega)) fun x y _ hr => ok2_some hr
  · obtain ⟨-, q1, q2⟩ := h.hn.flop e.Flop ⟨h1, h2⟩
    obtain ⟨q3, q4⟩ := h.hd.dW e.Flop ⟨h1, by omega⟩
    refine ok2_ite Iff.rfl (fun hn => absurd hn (by omega)) fun _ => ok2_ck ⟨h1, h2⟩ ⟨h1, h2⟩ (ok2_lv (ok2_bd (R := fun x y => x = y ∧ 0 ≤ x ∧ x < 2 + ins + flops + gates) ?_ ?_))
    · exact ok2_ite Iff.rfl (fun hn => ok2_some ⟨rfl, by split at h4 <;> omega, by split at h4 <;> omega⟩) fun _ => ok2_some ⟨rfl, q1⟩
    rintro net _ - ⟨rfl, n0, n1⟩
    refine ok2_ck ⟨n0, by omega⟩ ⟨n0, by omega⟩ (ok2_lv (ok2_ck ⟨h1, by omega⟩ ⟨h1, by omega⟩ (ok2_lv (ok2_ck ⟨h3, by omega⟩ ⟨h3, by omega⟩ (ok2_lv ?_)))))
    exact ok2_bd (later2 (hR.at_ _ n0 n1) (RW.same h (q4 e.Input ⟨h3, by omega⟩)) (by omega)) fun x y _ hr => ok2_some hr
theorem at_same {G : List (List T_tree_Window)} {d : Int} {xs : List T_timing_Arrival} {e : T_timing_End} : P_timing_at (kOf j G d) xs e = P_timing_at j xs e := by unfold P_timing_at; rfl
theorem flopcell {f : Int} (hf : inb f j.Net.Flops.length) : inb (gt j.Net.Flops f).Cell j.Lib.length ∧ (0 ≤ (gt j.Lib (gt j.Net.Flops f).Cell).Setup ∧ (gt j.Lib (gt j.Net.Flops f).Cell).Setup ≤ 3) ∧ 0 ≤ (gt j.Lib (gt j.Net.Flops f).Cell).Hold ∧ (gt j.Lib (gt j.Net.Flops f).Cell).Hold ≤ 3 := by
  obtain ⟨-, -, q⟩ := h.hn.flop f hf
  have h8 := h.hl.len
  rcases q with ⟨e, -⟩ | ⟨e, -⟩ <;> rw [e]
  · exact ⟨⟨by omega, by omega⟩, h.hl.c6.n.setup, h.hl.c6.n.hold⟩
  · exact ⟨⟨by omega, by omega⟩, h.hl.c7.n.setup, h.hl.c7.n.hold⟩
theorem slacks2 {G : List (List T_tree_Window)} {d : Int} {eq : Prop} (hd : 0 ≤ d ∧ d ≤ 1000) (hp : d = 0 ∨ p = false) {s n : Int} (hs : 0 ≤ s ∧ s < ins + flops) {xs ys : List T_timing_End} (hR : REs eq d (KnE j (ins + flops)) n xs ys) {i : Int} (hi : 0 ≤ i ∧ i < n)
    {a b : T_timing_Arrival} (hab : RA eq 1012 a b) {nets : List T_timing_Arrival} (hf : P_timing_from j [s] = some nets) (ha : P_timing_at j nets (gt xs i) = some a) :
    Ok2 (P_timing_slacks j xs i s a) (P_timing_slacks (kOf j G d) ys i s b) (REs eq d (KnE j (ins + flops)) n) := by
  have hR' := hR
  obtain ⟨l1, l2, hat⟩ := hR
  have hi1 : inb i xs.length := ⟨hi.1, by omega⟩
  have hi2 : inb i ys.length := ⟨hi.1, by omega⟩
  obtain ⟨r1, r2, r3, r4, r5⟩ := hat i hi.1 hi.2
  obtain ⟨kn, ea, la, heq, e1, e2, w1, w2⟩ := hab
  have hE := r5.1
  have hE2 : EndN j.Net (gt ys i) := by unfold EndN at hE ⊢; rw [← r1, ← r2]; exact hE
  unfold P_timing_slacks
  refine ok2_one (name_ok h hs) fun nm _ => ok2_lv ?_
  have hl : P_timing_label (kOf j G d).Net (gt ys i) = P_timing_label j.Net (gt xs i) := by unfold P_timing_label; rw [r1, r2]; rfl
  show Ok2 (bd (P_timing_label j.Net (gt xs i)) _) (bd (P_timing_label (kOf j G d).Net (gt ys i)) _) _
  rw [hl]
  refine ok2_one (label_ok h hE) fun lb _ => ?_
  have hc : P_clocks_Cycles (kOf j G d).Limits nm lb = P_clocks_Cycles j.Limits nm lb := by unfold P_clocks_Cycles P_clocks_Cycles_L2; rfl
  show Ok2 (bd (P_clocks_Cycles j.Limits nm lb) _) (bd (P_clocks_Cycles (kOf j G d).Limits nm lb) _) _
  rw [hc]
  refine ok2_one (Cycles_ok h nm lb) ?_
  rintro cy ⟨cy1, cy2⟩
  have hper := h.hL.per
  refine ok2_lv (ok2_ite (by rw [kn]) (fun _ => ok2_some hR') fun hkn => ?_)
  have hkA : a.Known = true := by simp only [Bool.or_eq_true, not_or] at hkn; simpa using hkn.1
  have hcp : cy * j.Limits.Period ≤ 6000 ∧ 0 ≤ cy * j.Limits.Period ∧ cy * (j.Limits.Period + d) ≤ 9000 ∧ cy * (j.Limits.Period + d) = cy * j.Limits.Period + d := by
    rcases hp with rfl | hp
    · rcases cy1 with rfl | rfl | rfl | rfl <;> omega
    · rw [cy2 hp]; omega
  obtain ⟨c1, c2, c3, c4⟩ := hcp
  have c5 : cy * (kOf j G d).Limits.Period = cy * j.Limits.Period + d := c4
  refine ok2_ar (by omega) (by omega) (ok2_lv (ok2_ite (by rw [r1]) (fun hfl => ok2_lv ?_) fun hfl => ok2_lv ?_))
  · obtain ⟨g1, g2, g3⟩ : (gt xs i).Flop = -1 ∧ 0 ≤ (gt xs i).Input ∧ (gt xs i).Input < j.Net.Outs.length := by
      rcases hE with q | ⟨⟨g1, -⟩, -⟩
      · exact q
      · omega
    have o1 := h.hn.outL
    have o2 := h.hn.outsL
    refine ok2_ck ⟨g2, by omega⟩ ⟨by omega, by simp only [kOf]; omega⟩ (ok2_lv ?_)
    have hb : P_clocks_Before (kOf j G d).Limits (gt (kOf j G d).Net.Out (gt ys i).Input) = P_clocks_Before j.Limits (gt j.Net.Out (gt xs i).Input) := by unfold P_clocks_Before P_clocks_Before_L2; rw [r2]; rfl
    show Ok2 (bd (P_clocks_Before j.Limits (gt j.Net.Out (gt xs i).Input)) _) (bd (P_clocks_Before (kOf j G d).Limits (gt (kOf j G d).Net.Out (gt ys i).Input)) _) _
    rw [hb]
    refine ok2_one (Before_ok h _) ?_
    rintro bf ⟨b1, b2⟩
    refine ok2_ar (by omega) (by omega) (ok2_ar (by omega) (by omega) ?_)
    rw [less_eq hi1, less_eq hi2]
    refine ok2_bd (ok2_some (hR'.put hi ⟨r1, r2, r3.less ⟨by omega, fun e => by rw [heq e]; omega⟩ (by omega), r4, r5.1, fun _ => ?_⟩)) fun x y _ hr => ok2_some hr
    simp only [lessS]
    split
    · exact ⟨hs, nets, a, hf, at_setup.trans ha, hkA⟩
    · rename_i hq
      have hk : (gt xs i).Setup.Known = true := by cases hk : (gt xs i).Setup.Known <;> simp_all
      obtain ⟨q1, q2, q3, q4, q5, q6⟩ := r5.2 hk
      exact ⟨q1, q2, q3, q4, at_setup.trans q5, q6⟩
  · obtain ⟨g1, g2⟩ : 0 ≤ (gt xs i).Flop ∧ (gt xs i).Flop < j.Net.Flops.length := by
      rcases hE with ⟨g1, -⟩ | ⟨q, -⟩
      · omega
      · exact q
    obtain ⟨cc, s1, s2⟩ := flopcell h ⟨g1, g2⟩
    have d1 := h.hd.cL
    have hw := h.hd.cW (gt xs i).Flop ⟨g1, by omega⟩
    have v1 := hw.lo
    have v2 := hw.le
    have v3 := hw.hi
    rw [← r1]
    refine ok2_ck ⟨g1, g2⟩ ⟨g1, g2⟩ (ok2_lv (ok2_ck cc cc (ok2_lv (ok2_lv ?_))))
    rw [← r1]
    refine ok2_ck ⟨g1, by omega⟩ ⟨g1, by simp only [kOf]; omega⟩ (ok2_lv (ok2_ar (by omega) (by simp only [kOf] at c5 ⊢; omega) (ok2_ar (by omega) (by simp only [kOf] at c5 ⊢; omega) (ok2_ar (by omega) (by simp only [kOf] at c5 ⊢; omega) ?_))))
    rw [less_eq hi1, less_eq hi2]
    have hP1 := hR'.put (a := { gt xs i with Setup := lessS (gt xs i).Setup (cy * j.Limits.Period + (gt j.Delays.Clock (gt xs i).Flop).Lo - (gt j.Lib (gt j.Net.Flops (gt xs i).Flop).Cell).Setup - a.Late) s })
      (b := { gt ys i with Setup := lessS (gt ys i).Setup (cy * (kOf j G d).Limits.Period + (gt (kOf j G d).Delays.Clock (gt xs i).Flop).Lo - (gt (kOf j G d).Lib (gt (kOf j G d).Net.Flops (gt xs i).Flop).Cell).Setup - b.Late) s }) hi ⟨r1, r2, r3.less ⟨by simp only [kOf] at c5 ⊢; omega, fun e => by rw [heq e]; simp only [kOf] at c5 ⊢; omega⟩ (by omega), r4, r5.1, fun _ => ?_⟩
    · refine ok2_bd (ok2_some hP1) ?_
      rintro x y - hP
      obtain ⟨t1, t2, t3, t4, t5⟩ := hP.at_ i hi.1 hi.2
      have hx1 : inb i x.length := ⟨hi.1, by have := hP.l1; omega⟩
      have hx2 : inb i y.length := ⟨hi.1, by have := hP.l2; omega⟩
      refine ok2_ar (by omega) (by simp only [kOf]; omega) (ok2_ar (by omega) (by simp only [kOf]; omega) (ok2_ar (by omega) (by simp only [kOf]; omega) (ok2_ck hx1 hx2 ?_)))
      rw [less_eq2 hx1, less_eq2 hx2]
      refine ok2_bd (ok2_some (hP.put hi ⟨t1, t2, t3, t4.less ⟨by simp only [kOf]; omega, fun e => by rw [heq e]; simp only [kOf]; omega⟩ (by omega), t5.1, fun hk => ?_⟩)) fun x y _ hr => ok2_some hr
      obtain ⟨q1, q2, q3, q4, q5, q6⟩ := t5.2 hk
      exact ⟨q1, q2, q3, q4, at_hold.trans q5, q6⟩
    · simp only [lessS]
      split
      · exact ⟨hs, nets, a, hf, at_setup.trans ha, hkA⟩
      · rename_i hq
        have hk : (gt xs i).Setup.Known = true := by cases hk : (gt xs i).Setup.Known <;> simp_all
        obtain ⟨q1, q2, q3, q4, q5, q6⟩ := r5.2 hk
        exact ⟨q1, q2, q3, q4, at_setup.trans q5, q6⟩
end
end Go.Proofs.YtlolchgeedegdaaDoor.X
