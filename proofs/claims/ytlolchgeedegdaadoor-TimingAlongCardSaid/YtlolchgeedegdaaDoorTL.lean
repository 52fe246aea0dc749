/- TimingAlong. Plain. -/
import Derived.Test.YtlolchgeedegdaaDoorTG
namespace Go.Proofs.YtlolchgeedegdaaDoor.X
open Go Go.RowKit
set_option linter.unusedVariables false
set_option linter.unusedSimpArgs false
set_option linter.unusedSectionVars false
theorem later_pt (a : T_timing_Arrival) (w : T_tree_Window) : Pt (P_timing_later a w) (fun r => r.Known = a.Known ∧ (a.Known = true → r.Late = a.Late + w.Hi)) := by
  unfold P_timing_later
  exact pt_ite (fun hk => pt_some ⟨rfl, fun h => by rw [h] at hk; simp at hk⟩) fun hk => pt_ar fun _ => pt_ar fun _ => pt_some ⟨by simp only; exact (show a.Known = true by simpa using hk).symm, fun _ => rfl⟩
theorem join_pt (a b : T_timing_Arrival) : Pt (P_timing_join a b) (fun r => (r.Known = true ↔ a.Known = true ∨ b.Known = true) ∧ (r.Known = true → (a.Known = true ∧ r.Late = a.Late ∨ b.Known = true ∧ r.Late = b.Late) ∧ (a.Known = true → a.Late ≤ r.Late) ∧ (b.Known = true → b.Late ≤ r.Late))) := by
  unfold P_timing_join
  refine pt_ite (fun hk => ?_) fun hk => pt_ite (fun hk2 => ?_) fun hk2 => pt_lv (pt_lv ?_)
  · have ha : a.Known = false := by simpa using hk
    exact pt_some ⟨by rw [ha]; simp, fun h => ⟨.inr ⟨h, rfl⟩, fun e => by rw [ha] at e; (cases e), fun _ => by omega⟩⟩
  · have hb : b.Known = false := by simpa using hk2
    exact pt_some ⟨by rw [hb]; simp, fun h => ⟨.inl ⟨h, rfl⟩, fun _ => by omega, fun e => by rw [hb] at e; (cases e)⟩⟩
  · have ha : a.Known = true := by simpa using hk
    have hb : b.Known = true := by simpa using hk2
    refine pt_some ⟨by simp [ha], fun _ => ⟨?_, fun _ => by simp only; omega, fun _ => by simp only; omega⟩⟩
    rcases Int.le_total a.Late b.Late with h | h
    · exact .inr ⟨hb, by simp only; omega⟩
    · exact .inl ⟨ha, by simp only; omega⟩
/-- What of a gate's arrival is known, by its first inputs. -/
structure GateA (j : T_timing_Job) (out : List T_timing_Arrival) (g : Int) (a : T_timing_Arrival) (z : Int) : Prop where
  ex : a.Known = true → ∃ k : Int, (0 ≤ k ∧ k < z) ∧ (gt out (gt (gt j.Net.Gates g).Ins k)).Known = true ∧ a.Late = (gt out (gt (gt j.Net.Gates g).Ins k)).Late + (gt (gt j.Delays.Gates g) k).Hi
  all : ∀ k : Int, 0 ≤ k → k < z → (gt out (gt (gt j.Net.Gates g).Ins k)).Known = true → a.Known = true ∧ (gt out (gt (gt j.Net.Gates g).Ins k)).Late + (gt (gt j.Delays.Gates g) k).Hi ≤ a.Late
theorem GateA.keep {j : T_timing_Job} {out out' : List T_timing_Arrival} {g z : Int} {a : T_timing_Arrival} (h : GateA j out g a z) (he : ∀ k : Int, 0 ≤ k → k < z → gt out' (gt (gt j.Net.Gates g).Ins k) = gt out (gt (gt j.Net.Gates g).Ins k)) : GateA j out' g a z := by
  refine ⟨fun hk => ?_, fun k h0 h1 => ?_⟩
  · obtain ⟨k, hk0, h1, h2⟩ := h.ex hk
    exact ⟨k, hk0, by rw [he k hk0.1 hk0.2]; exact h1, by rw [he k hk0.1 hk0.2]; exact h2⟩
  · rw [he k h0 h1]; exact h.all k h0 h1
/-- Arrivals from a start: of what leaves it, and of the gates in order. -/
structure FromA (j : T_timing_Job) (first gates s : Int) (out : List T_timing_Arrival) (y : Int) : Prop where
  len : (out.length : Int) = first + gates
  st : ∀ i : Int, 0 ≤ i → i < first → ((gt out i).Known = true → i = 2 + s)
  no : ∀ g : Int, y ≤ g → g < gates → (gt out (first + g)).Known = false
  gt_ : ∀ g : Int, 0 ≤ g → g < y → GateA j out g (gt out (first + g)) (gt j.Net.Gates g).Ins.length
section
variable {j : T_timing_Job} {ins flops gates outs : Int} {p : Bool} (h : JobN ins flops gates outs p 10 j)
include h
theorem from_pt {s : Int} (hs : 0 ≤ s ∧ s < ins + flops) : Pt (P_timing_from j [s]) (fun r => FromA j (2 + ins + flops) gates s r gates) := by
  have hi := h.hi
  have hf := h.hf
  have hg := h.hg
  have a := h.hn.gateL
  unfold P_timing_from
  refine pt_bd (R := fun r => r = 2 + ins + flops + gates) (fun r e => (Nets_ok h).val e) ?_
  rintro _ rfl
  refine pt_ck fun _ => pt_lv (pt_bd (R := fun xs => FromA j (2 + ins + flops) gates s xs 0) ?_ ?_)
  · refine pt_lp (fun u => 0 ≤ u.2 ∧ FromA j (2 + ins + flops) gates s u.1 0) ⟨by simp, ⟨by simp only [List.length_replicate]; omega, fun i h0 h1 hk => ?_, fun g h0 h1 => ?_, fun g h0 h1 => by omega⟩⟩ ?_
    · simp only at hk
      rw [gt_rep ⟨h0, by omega⟩] at hk
      cases hk
    · simp only
      rw [gt_rep ⟨by omega, by omega⟩]
    rintro ⟨xs, y⟩ ⟨y0, hF⟩
    simp only at y0 hF
    unfold P_timing_from_L3
    dsimp only
    refine pt_ite (fun hlt => ?_) fun hge => pt_some hF
    simp only [List.length_cons, List.length_nil] at hlt
    have e0 : y = 0 := by omega
    subst e0
    refine pt_ck fun _ => pt_lv (pt_bd (R := fun _ => True) (fun _ _ => trivial) fun w _ => pt_ar fun _ => pt_ck fun hb => pt_lv (pt_ar fun _ => pt_some ⟨by simp, ?_⟩))
    rw [show gt [s] 0 = s from rfl] at hb ⊢
    refine ⟨by rw [stt_length]; exact hF.len, fun i h0 h1 hk => ?_, fun g h0 h1 => ?_, fun g h0 h1 => by omega⟩
    · simp only at hk
      rw [gt_stt _ _ hb h0] at hk
      split at hk
      · omega
      · exact hF.st i h0 h1 hk
    · simp only
      rw [gt_stt _ _ hb (by omega), if_neg (by omega)]
      exact hF.no g h0 h1
  intro xs hF0
  refine pt_bd (R := fun r => r = 2 + ins + flops) (fun r e => (First_ok h.hl h.hn (by omega) (by omega) (by omega) (by have := h.ho; omega)).val e) ?_
  rintro _ rfl
  refine pt_bd (R := fun r => FromA j (2 + ins + flops) gates s r gates) ?_ fun r hr => pt_some hr
  refine pt_lp (fun u => (0 ≤ u.2 ∧ u.2 ≤ gates) ∧ FromA j (2 + ins + flops) gates s u.1 u.2) ⟨⟨by simp, by simp only; omega⟩, hF0⟩ ?_
  rintro ⟨xs, y⟩ ⟨⟨y0, y1⟩, hF⟩
  simp only at y0 y1 hF
  unfold P_timing_from_L10
  dsimp only
  refine pt_ite (fun hlt => ?_) fun hge => pt_some (by simp only; rw [show gates = y by omega]; rw [show gates = y by omega] at hF; exact hF)
  obtain ⟨-, -, -, q4⟩ := h.hn.gate y ⟨y0, hlt⟩
  refine pt_ck fun _ => pt_lv (pt_bd (R := fun r => FromA j (2 + ins + flops) gates s r (y + 1)) ?_ fun r hr => pt_ar fun _ => pt_some ⟨⟨by simp only; omega, by simp only; omega⟩, hr⟩)
  refine pt_lp (fun u => (0 ≤ u.2 ∧ u.2 ≤ (gt j.Net.Gates y).Ins.length) ∧ (u.1.length : Int) = 2 + ins + flops + gates ∧ (∀ i : Int, 0 ≤ i → i < 2 + ins + flops + gates → i ≠ 2 + ins + flops + y → gt u.1 i = gt xs i) ∧ GateA j xs y (gt u.1 (2 + ins + flops + y)) u.2) ⟨⟨by simp, by simp⟩, hF.len, fun _ _ _ _ => rfl, ⟨fun hk => ?_, fun k h0 h1 => by simp only at h1; omega⟩⟩ ?_
  · simp only at hk
    rw [hF.no y (by omega) (by omega)] at hk
    cases hk
  rintro ⟨us, z⟩ ⟨⟨z0, z1⟩, u1, u2, u3⟩
  simp only at z0 z1 u1 u2 u3
  unfold P_timing_from_L13
  dsimp only
  refine pt_ite (fun hz => ?_) fun hge => pt_some ?_
  · have q6 := q4 z ⟨z0, hz⟩
    simp only at q6
    have he : gt us (gt (gt j.Net.Gates y).Ins z) = gt xs (gt (gt j.Net.Gates y).Ins z) := u2 _ q6.1 (by omega) (by omega)
    refine pt_ck fun _ => pt_lv (pt_ar fun _ => pt_ar fun _ => pt_ck fun hb => pt_lv (pt_ck fun _ => pt_lv (pt_ck fun _ => pt_lv (pt_ck fun _ => pt_lv (pt_bd (later_pt _ _) ?_)))))
    rw [he]
    rintro la ⟨la1, la2⟩
    refine pt_bd (join_pt _ _) ?_
    rintro r ⟨r1, r2⟩
    refine pt_ck fun hb2 => pt_lv (pt_ar fun _ => pt_some ⟨⟨by simp only; omega, by simp only; omega⟩, by simp only; rw [stt_length]; exact u1, fun i h0 h1 h2 => ?_, ?_⟩)
    · simp only
      rw [gt_stt _ _ hb2 h0, if_neg h2]
      exact u2 i h0 h1 h2
    · simp only
      rw [gt_stt _ _ hb2 (by omega), if_pos rfl]
      rw [la1] at r1
      refine ⟨fun hk => ?_, fun k h0 h1 hk => ?_⟩
      · rcases (r2 hk).1 with ⟨h3, h4⟩ | ⟨h3, h4⟩
        · obtain ⟨k, hk0, hk1, hk2⟩ := u3.ex h3
          exact ⟨k, ⟨hk0.1, by omega⟩, hk1, by rw [h4]; exact hk2⟩
        · rw [la1] at h3
          exact ⟨z, ⟨z0, by omega⟩, h3, by rw [h4]; exact la2 h3⟩
      · by_cases e : k = z
        · subst e
          have hr := r1.2 (.inr hk)
          refine ⟨hr, ?_⟩
          have := (r2 hr).2.2 (by rw [la1]; exact hk)
          rw [la2 hk] at this
          exact this
        · obtain ⟨h3, h4⟩ := u3.all k h0 (by omega) hk
          have hr := r1.2 (.inl h3)
          have := (r2 hr).2.1 h3
          exact ⟨hr, by omega⟩
  · have ez : z = (gt j.Net.Gates y).Ins.length := by omega
    subst ez
    refine ⟨u1, fun i h0 h1 => by rw [u2 i h0 (by omega) (by omega)]; exact hF.st i h0 h1, fun g h0 h1 => by rw [u2 _ (by omega) (by omega) (by omega)]; exact hF.no g (by omega) h1, fun g h0 h1 => ?_⟩
    obtain ⟨-, -, -, q7⟩ := h.hn.gate g ⟨h0, by omega⟩
    have hkeep : ∀ k : Int, 0 ≤ k → k < (gt j.Net.Gates g).Ins.length → gt us (gt (gt j.Net.Gates g).Ins k) = gt xs (gt (gt j.Net.Gates g).Ins k) := fun k k0 k1 => by
      have := q7 k ⟨k0, k1⟩
      simp only at this
      exact u2 _ this.1 (by omega) (by omega)
    by_cases e : g = y
    · subst e
      exact u3.keep hkeep
    · rw [u2 _ (by omega) (by omega) (by omega)]
      exact (hF.gt_ g h0 (by omega)).keep hkeep
/-- Arrivals that are not far. -/
def NearA (N : Int) (xs : List T_timing_Arrival) : Prop := (xs.length : Int) = N ∧ ∀ i : Int, 0 ≤ i → i < N → (-1000 ≤ (gt xs i).Early ∧ (gt xs i).Early ≤ 1000) ∧ -1000 ≤ (gt xs i).Late ∧ (gt xs i).Late ≤ 1000
theorem from_near {s : Int} (hs : 0 ≤ s ∧ s < ins + flops) : Ok (P_timing_from j [s]) (fun r => NearA (2 + ins + flops + gates) r ∧ FromA j (2 + ins + flops) gates s r gates) := by
  obtain ⟨x, y, e1, -, hR⟩ := from2 h (G := j.Delays.Gates) (d := 0) (eq := True) rfl (fun g hg => ⟨rfl, fun i hi => RW.same h ((h.hd.gW g hg).2 i hi)⟩) hs
  refine ⟨x, e1, ⟨hR.l1, fun i h0 h1 => ?_⟩, from_pt h hs x e1⟩
  obtain ⟨-, q2, q3, -, q5, q6, q7, q8⟩ := hR.at_ i h0 h1
  omega
theorem later_ok' {a : T_timing_Arrival} {w : T_tree_Window} (ha : (-1000 ≤ a.Early ∧ a.Early ≤ 1000) ∧ -1000 ≤ a.Late ∧ a.Late ≤ 1000) (hw : WinN 10 w) : Ok (P_timing_later a w) (fun r => r.Known = a.Known ∧ (a.Known = true → r.Late = a.Late + w.Hi)) := by
  have h1 := hw.lo
  have h2 := hw.le
  have h3 := hw.hi
  have : Ok (P_timing_later a w) (fun _ => True) := by
    unfold P_timing_later
    exact ok_ite (fun _ => ok_some trivial) fun _ => ok_ar (by omega) (ok_ar (by omega) (ok_some trivial))
  exact (this.pt (later_pt a w)).mono fun r hr => hr.2
theorem latest_ok {s g : Int} {nets : List T_timing_Arrival} (hN : NearA (2 + ins + flops + gates) nets) (hF : FromA j (2 + ins + flops) gates s nets gates) (hg : 0 ≤ g ∧ g < gates) (hk : (gt nets (2 + ins + flops + g)).Known = true) :
    Ok (P_timing_latest j nets g) (fun r => ∃ k : Int, (0 ≤ k ∧ k < (gt j.Net.Gates g).Ins.length) ∧ r = gt (gt j.Net.Gates g).Ins k ∧ (0 ≤ r ∧ r < 2 + ins + flops + g) ∧ (gt nets r).Known = true ∧ (gt nets (2 + ins + flops + g)).Late = (gt nets r).Late + (gt (gt j.Delays.Gates g) k).Hi) := by
  have hi := h.hi
  have hf := h.hf
  have hgg := h.hg
  have a := h.hn.gateL
  have b := h.hd.gL
  obtain ⟨-, -, -, q4⟩ := h.hn.gate g ⟨hg.1, by omega⟩
  have q5 := h.hn.insL h.hl (i := g) hg
  obtain ⟨d1, d2⟩ := h.hd.gW g ⟨hg.1, by omega⟩
  have hG := hF.gt_ g hg.1 hg.2
  have hl := hN.1
  unfold P_timing_latest
  refine ok_ck ⟨hg.1, by omega⟩ (ok_lv (ok_bd (R := fun r => ∃ k : Int, (0 ≤ k ∧ k < (gt j.Net.Gates g).Ins.length) ∧ r = gt (gt j.Net.Gates g).Ins k ∧ (0 ≤ r ∧ r < 2 + ins + flops + g) ∧ (gt nets r).Known = true ∧ (gt nets (2 + ins + flops + g)).Late = (gt nets r).Late + (gt (gt j.Delays.Gates g) k).Hi) ?_ fun r hr => ok_some hr))
  refine ok_lp (fun u => (0 ≤ u.2.2 ∧ u.2.2 ≤ (gt j.Net.Gates g).Ins.length) ∧ ((u.1 = -1 ∧ ∀ k : Int, 0 ≤ k → k < u.2.2 → (gt nets (gt (gt j.Net.Gates g).Ins k)).Known = false) ∨
      ∃ k : Int, (0 ≤ k ∧ k < u.2.2) ∧ u.1 = gt (gt j.Net.Gates g).Ins k ∧ (gt nets u.1).Known = true ∧ u.2.1 = (gt nets u.1).Late + (gt (gt j.Delays.Gates g) k).Hi ∧ ∀ k' : Int, 0 ≤ k' → k' < u.2.2 → (gt nets (gt (gt j.Net.Gates g).Ins k')).Known = true → (gt nets (gt (gt j.Net.Gates g).Ins k')).Late + (gt (gt j.Delays.Gates g) k').Hi ≤ u.2.1))
    (fun u => (((gt j.Net.Gates g).Ins.length : Int) - u.2.2).toNat) ⟨⟨by simp, by simp⟩, .inl ⟨rfl, fun k h0 h1 => by simp only at h1; omega⟩⟩ (by simp only; omega) ?_
  rintro ⟨best, most, z⟩ ⟨⟨z0, z1⟩, hI⟩
  simp only at z0 z1 hI
  unfold P_timing_latest_L3
  dsimp only
  refine ok_ite (fun hz => ?_) fun hge => ok_some ?_
  · have q6 := q4 z ⟨z0, hz⟩
    simp only at q6
    refine ok_ck ⟨z0, hz⟩ (ok_lv (ok_ck ⟨q6.1, by omega⟩ (ok_lv (ok_ck ⟨hg.1, by omega⟩ (ok_lv (ok_ck ⟨z0, by omega⟩ (ok_lv (ok_bd (later_ok' h (hN.2 _ q6.1 (by omega)) (d2 z ⟨z0, by omega⟩)) ?_))))))))
    rintro la ⟨la1, la2⟩
    refine ok_lv (ok_lv (ok_bd (R := fun r => (r.1 = -1 ∧ ∀ k : Int, 0 ≤ k → k < z + 1 → (gt nets (gt (gt j.Net.Gates g).Ins k)).Known = false) ∨
      ∃ k : Int, (0 ≤ k ∧ k < z + 1) ∧ r.1 = gt (gt j.Net.Gates g).Ins k ∧ (gt nets r.1).Known = true ∧ r.2 = (gt nets r.1).Late + (gt (gt j.Delays.Gates g) k).Hi ∧ ∀ k' : Int, 0 ≤ k' → k' < z + 1 → (gt nets (gt (gt j.Net.Gates g).Ins k')).Known = true → (gt nets (gt (gt j.Net.Gates g).Ins k')).Late + (gt (gt j.Delays.Gates g) k').Hi ≤ r.2) ?_ fun r hr => ok_ar (by omega) (ok_some ⟨⟨⟨by simp only; omega, by simp only; omega⟩, hr⟩, by simp only; omega⟩)))
    refine ok_ite (fun hc => ok_some (.inr ⟨z, ⟨z0, by omega⟩, rfl, ?_, ?_, ?_⟩)) fun hc => ok_some ?_
    · simp only [Bool.and_eq_true] at hc
      rw [← la1]; exact hc.1
    · simp only [Bool.and_eq_true] at hc
      simp only
      exact la2 (by rw [← la1]; exact hc.1)
    · simp only [Bool.and_eq_true, Bool.or_eq_true, decide_eq_true_eq] at hc
      have hl2 := la2 (by rw [← la1]; exact hc.1)
      intro k' h0 h1 hk'
      simp only
      by_cases e : k' = z
      · subst e; omega
      · rcases hI with ⟨-, hI⟩ | ⟨k, hk0, hk1, hk2, hk3, hk4⟩
        · rw [hI k' h0 (by omega)] at hk'; cases hk'
        · have := hk4 k' h0 (by omega) hk'
          rcases hc.2 with hc2 | hc2
          · have := q4 k ⟨hk0.1, by omega⟩
            simp only at this
            omega
          · omega
    · simp only [Bool.and_eq_true, Bool.or_eq_true, decide_eq_true_eq, not_and] at hc
      rcases hI with ⟨hI0, hI⟩ | ⟨k, hk0, hk1, hk2, hk3, hk4⟩
      · refine .inl ⟨hI0, fun k h0 h1 => ?_⟩
        by_cases e : k = z
        · subst e
          rw [← la1]
          cases hla : la.Known
          · rfl
          · exact absurd (.inl (by omega)) (hc hla)
        · exact hI k h0 (by omega)
      · refine .inr ⟨k, ⟨hk0.1, by omega⟩, hk1, hk2, hk3, fun k' h0 h1 hk' => ?_⟩
        by_cases e : k' = z
        · subst e
          have := hc (by rw [la1]; exact hk')
          have := la2 hk'
          simp only
          omega
        · exact hk4 k' h0 (by omega) hk'
  · have ez : z = (gt j.Net.Gates g).Ins.length := by omega
    subst ez
    obtain ⟨k0, hk0, hk1, hk2⟩ := hG.ex hk
    rcases hI with ⟨-, hI⟩ | ⟨k, hk3, rfl, hk5, hk6, hk7⟩
    · rw [hI k0 hk0.1 hk0.2] at hk1; cases hk1
    · have := q4 k hk3
      simp only at this
      refine ⟨k, hk3, rfl, this, hk5, ?_⟩
      have h1 := hk7 k0 hk0.1 hk0.2 hk1
      have h2 := (hG.all k hk3.1 hk3.2 hk5).2
      omega
/-- One step of a path follows another one. -/
def Link (j : T_timing_Job) (first gates : Int) (u v : T_timing_Step) : Prop := ∃ g k : Int, v.Net = first + g ∧ (0 ≤ g ∧ g < gates) ∧ (0 ≤ k ∧ k < (gt j.Net.Gates g).Ins.length) ∧ u.Net = gt (gt j.Net.Gates g).Ins k ∧ v.At = u.At + (gt (gt j.Delays.Gates g) k).Hi
structure PathN (j : T_timing_Job) (first gates : Int) (p : List T_timing_Step) : Prop where
  near : ∀ i, inb i p.length → -1000 ≤ (gt p i).At ∧ (gt p i).At ≤ 1000
  len : p.length ≤ 1000
  link : ∀ i : Int, 0 ≤ i → i + 1 < p.length → Link j first gates (gt p (i + 1)) (gt p i)
theorem isEnd_ok {e : T_timing_End} (he : EndN j.Net e) : Ok (P_timing_isEnd j.Net e) (fun r => r = true) := by
  unfold P_timing_isEnd
  rcases he with ⟨h1, h2, h3⟩ | ⟨⟨h1, h2⟩, h3, h4⟩
  · exact ok_t h1 (ok_lv (ok_some (by simp; omega)))
  · refine ok_f (by omega) (ok_lv (ok_lv (ok_ck (fun _ => ⟨h1, h2⟩) (ok_lv (ok_bd (R := fun r => r = if (gt j.Net.Flops e.Flop).En = 1 then 1 else 2) (ok_gd (fun _ => inputs_ok _) fun hq => by simp at hq; omega) ?_)))))
    rintro _ rfl
    exact ok_lv (ok_some (by simp; omega))
theorem Path_ok {e : T_timing_End} (he : KnE j (ins + flops) e) (hk : e.Setup.Known = true) :
    Ok (P_timing_Path j e.Setup.From e) (fun r => r.2 = 0 ∧ (1 ≤ r.1.length ∧ r.1.length ≤ 1000) ∧ (gt r.1 0).Net = 2 + e.Setup.From ∧ (∀ i, inb i r.1.length → -1000 ≤ (gt r.1 i).At ∧ (gt r.1 i).At ≤ 1000) ∧ ∀ i : Int, 1 ≤ i → i < r.1.length → Link j (2 + ins + flops) gates (gt r.1 (i - 1)) (gt r.1 i)) := by
  have hi := h.hi
  have hf := h.hf
  have hg := h.hg
  obtain ⟨hE, hK⟩ := he
  obtain ⟨hs, nets, ar, e1, e2, e3⟩ := hK hk
  obtain ⟨nets', e1', hN, hF⟩ := from_near h hs
  rw [e1] at e1'
  cases e1'
  have hl := hN.1
  unfold P_timing_Path
  refine ok_bd (TCheck_ok h) ?_
  rintro _ rfl
  refine ok_f (by simp) (ok_bd (R := fun r => r = ins + flops) (ok_gd (fun _ => ?_) fun hq => by simp at hq; omega) ?_)
  · have a := h.hn.inL
    have b := h.hn.flopL
    unfold P_timing_Starts
    exact ok_ar (by simp only; omega) (ok_some (by simp only; omega))
  rintro _ rfl
  refine ok_lv (ok_f (by simp only [Bool.or_eq_true, decide_eq_true_eq]; omega) (ok_bd (isEnd_ok h hE) ?_))
  rintro _ rfl
  refine ok_f (by simp) (ok_bd (R := fun r => nets = r) ⟨nets, e1, rfl⟩ ?_)
  rintro _ rfl
  refine ok_bd (R := fun r => (0 ≤ r ∧ r < 2 + ins + flops + gates) ∧ (gt nets r).Known = true) ?_ ?_
  · unfold P_timing_at at e2
    rcases hE with ⟨g1, g2, g3⟩ | ⟨⟨g1, g2⟩, g3, g4⟩
    · have q := h.hn.outs e.Input ⟨g2, g3⟩
      simp only at q
      refine ok_t (by omega) (ok_ck ⟨g2, g3⟩ (ok_lv (ok_some ⟨q, ?_⟩)))
      rw [if_pos (by omega)] at e2
      have : Pt (some ar) (fun r => r.Known = (gt nets (gt j.Net.Outs e.Input)).Known) := by
        rw [← e2]
        exact pt_ck fun _ => pt_lv (pt_ck fun _ => pt_lv (pt_ck fun _ => pt_lv (pt_bd (later_pt _ _) fun r hr => pt_some hr.1)))
      rw [← this ar rfl]; exact e3
    · obtain ⟨-, q1, q2⟩ := h.hn.flop e.Flop ⟨g1, g2⟩
      rw [if_neg (by omega)] at e2
      refine ok_f (by omega) (ok_ck ⟨g1, g2⟩ (ok_lv (ok_bd (R := fun r => (0 ≤ r ∧ r < 2 + ins + flops + gates) ∧ (gt nets r).Known = true) ?_ fun r hr => ok_some hr)))
      have key : ∀ n, (if e.Input = 1 then (gt j.Net.Flops e.Flop).En else (gt j.Net.Flops e.Flop).D) = n → (gt nets n).Known = true := by
        intro n hn
        have : Pt (some ar) (fun r => r.Known = (gt nets n).Known) := by
          rw [← e2]
          refine pt_ck fun _ => pt_lv (pt_bd (R := fun r => r = n) (pt_ite (fun hc => pt_some ?_) fun hc => pt_some ?_) ?_)
          · rw [← hn, if_pos hc]
          · rw [← hn, if_neg hc]
          rintro _ rfl
          exact pt_ck fun _ => pt_lv (pt_ck fun _ => pt_lv (pt_ck fun _ => pt_lv (pt_bd (later_pt _ _) fun r hr => pt_some hr.1)))
        rw [← this ar rfl]; exact e3
      refine ok_ite (fun hc => ok_ck ⟨g1, g2⟩ (ok_lv (ok_some ⟨?_, key _ (by rw [if_pos hc])⟩))) fun hc => ok_some ⟨q1, key _ (by rw [if_neg hc])⟩
      split at g4 <;> omega
  rintro last ⟨⟨l0, l1⟩, l2⟩
  refine ok_ck ⟨l0, by omega⟩ (ok_lv (ok_f (by simp [l2]) (ok_bd (First_ok h.hl h.hn (by omega) (by omega) (by omega) (by have := h.ho; omega)) ?_)))
  rintro _ rfl
  refine ok_bd (R := fun r => PathN j (2 + ins + flops) gates r ∧ 1 ≤ r.length ∧ (gt r ((r.length : Int) - 1)).Net = 2 + e.Setup.From) ?_ ?_
  · refine ok_lp (fun u => ((0 ≤ u.1 ∧ u.1 < 2 + ins + flops + gates) ∧ (gt nets u.1).Known = true ∧ (u.2.length : Int) + u.1 ≤ 2 + ins + flops + gates) ∧ PathN j (2 + ins + flops) gates u.2 ∧ (1 ≤ u.2.length → Link j (2 + ins + flops) gates ⟨u.1, (gt nets u.1).Late⟩ (gt u.2 ((u.2.length : Int) - 1)))) (fun u => u.1.toNat) ⟨⟨⟨l0, l1⟩, l2, by simp; omega⟩, ⟨fun i hi => by obtain ⟨i0, i1⟩ := hi; simp at i1; omega, by simp, fun i i0 i1 => by simp at i1; omega⟩, fun hn => by simp at hn⟩ (by simp only; omega) ?_
    rintro ⟨last, back⟩ ⟨⟨⟨l0, l1⟩, l2, l3⟩, hP, hL⟩
    simp only at l0 l1 l2 l3 hP hL
    have hz : PathN j (2 + ins + flops) gates (back ++ [⟨last, (gt nets last).Late⟩]) := by
      refine ⟨fun i hi => ?_, by simp only [List.length_append, List.length_singleton]; omega, fun i i0 i1 => ?_⟩
      · rcases gt_snoc' hi with ⟨q, e⟩ | ⟨q, e⟩
        · rw [e]; exact hP.near i q
        · rw [e]; exact (hN.2 last l0 l1).2
      · simp only [List.length_append, List.length_singleton] at i1
        rw [gt_app_l (xs := back) (i := i) (by omega)]
        by_cases q : i + 1 < back.length
        · rw [gt_app_l (xs := back) (i := i + 1) (by omega)]; exact hP.link i i0 q
        · rw [gt_app_1 (xs := back) (i := i + 1) (by omega)]
          have := hL (by omega)
          rw [show (back.length : Int) - 1 = i by omega] at this
          exact this
    unfold P_timing_Path_L20
    dsimp only
    refine ok_ck ⟨l0, by omega⟩ (ok_lv (ok_lv (ok_ck (by simp only [apOk, List.length_append, List.length_singleton]; omega) (ok_ite (fun hlt => ok_some ⟨hz, by simp only [List.length_append, List.length_singleton]; omega, ?_⟩) fun hge => ok_ar (by omega) ?_))))
    · rw [gt_app_1 (xs := back) (by simp only [List.length_append, List.length_singleton]; omega)]
      exact hF.st last l0 hlt l2
    · have ee : 2 + ins + flops + (last - (2 + ins + flops)) = last := by omega
      refine ok_bd (latest_ok h hN hF (g := last - (2 + ins + flops)) (by omega) (by rw [ee]; exact l2)) ?_
      rintro r ⟨k, hk0, rfl, hk2, hk3, hk4⟩
      rw [ee] at hk4
      refine ok_some ⟨⟨⟨⟨by simp only; omega, by simp only; omega⟩, hk3, by simp only [List.length_append, List.length_singleton]; omega⟩, hz, fun _ => ?_⟩, by simp only; omega⟩
      simp only
      rw [gt_app_1 (xs := back) (by simp only [List.length_append, List.length_singleton]; omega)]
      exact ⟨last - (2 + ins + flops), k, ee.symm, by omega, hk0, rfl, hk4⟩
  rintro back ⟨hP, hb1, hb2⟩
  have hbl := hP.len
  refine ok_bd (R := fun r => r.length = back.length ∧ ∀ i : Int, 0 ≤ i → i < back.length → gt r i = gt back ((back.length : Int) - 1 - i)) ?_ ?_
  · refine ok_lp (fun u => (0 ≤ u.2 ∧ u.2 ≤ back.length) ∧ (u.1.length : Int) = u.2 ∧ ∀ i : Int, 0 ≤ i → i < u.2 → gt u.1 i = gt back ((back.length : Int) - 1 - i)) (fun u => ((back.length : Int) - u.2).toNat) ⟨⟨by simp, by simp⟩, by simp, fun i i0 i1 => by simp only at i1; omega⟩ (by simp only; omega) ?_
    rintro ⟨out, y⟩ ⟨⟨y0, y1⟩, y2, y3⟩
    simp only at y0 y1 y2 y3
    unfold P_timing_Path_L25
    dsimp only
    refine ok_ite (fun hlt => ?_) fun hge => ok_some ⟨by omega, fun i i0 i1 => y3 i i0 (by omega)⟩
    refine ok_ar (by omega) (ok_ar (by omega) (ok_ck ⟨by omega, by omega⟩ (ok_lv (ok_lv (ok_ck (by simp only [apOk, List.length_append, List.length_singleton]; omega) (ok_ar (by omega) (ok_some ⟨⟨⟨by simp only; omega, by simp only; omega⟩, by simp only [List.length_append, List.length_singleton]; omega, fun i i0 i1 => ?_⟩, by simp only; omega⟩)))))))
    simp only at i1 ⊢
    by_cases q : i = y
    · rw [gt_app_1 (xs := out) (by omega), q]
    · rw [gt_app_l (xs := out) (by omega)]; exact y3 i i0 (by omega)
  rintro out ⟨o1, o2⟩
  refine ok_some ⟨rfl, ⟨by simp only; omega, by simp only; omega⟩, ?_, fun i hi => ?_, fun i i0 i1 => ?_⟩
  · simp only
    rw [o2 0 (by omega) (by omega), show (back.length : Int) - 1 - 0 = back.length - 1 by omega]
    exact hb2
  · simp only at hi ⊢
    have := hi.2
    rw [o2 i hi.1 (by omega)]
    exact hP.near _ ⟨by have := hi.1; omega, by have := hi.1; omega⟩
  · simp only at i1 ⊢
    rw [o2 i (by omega) (by omega), o2 (i - 1) (by omega) (by omega)]
    have := hP.link ((back.length : Int) - 1 - i) (by omega) (by omega)
    rw [show (back.length : Int) - 1 - i + 1 = back.length - 1 - (i - 1) by omega] at this
    exact this
end
theorem TimingAlong_ok {L : List Int} (hL : Strm L) {at_ : Int} (ha : I64 at_) : Ok (P_maskkeep4_TimingAlong L at_) (fun r => r = true) := by
  unfold P_maskkeep4_TimingAlong
  refine ok_bd (job_ok hL true) ?_
  rintro ⟨j, k⟩ ⟨⟨ins, flops, gates, outs, hj⟩, hper, k0, k1⟩
  simp only at hj hper k0 k1
  have hi := hj.hi
  have hf := hj.hf
  have hg := hj.hg
  have gL := hj.hn.gateL
  have hk := hj.grow (d := 0) (m' := 12) (by omega) (by omega) hper (G := j.Delays.Gates) hj.hd.gL (hj.hd.gW.mono fun i x _ hx => ⟨hx.1, hx.2.mono fun i w _ hw => ⟨hw.lo, hw.le, by have := hw.hi; omega⟩⟩)
  obtain ⟨r, t, e1, -, r0, -, n, hn, hR⟩ := Report2 (eq := True) hj hk (by omega) (.inl rfl) rfl fun g hg => ⟨rfl, fun i hi => RW.same hj ((hj.hd.gW g hg).2 i hi)⟩
  have l1 := hR.l1
  refine ok_bd (R := fun x => r = x) ⟨r, e1, rfl⟩ ?_
  rintro _ rfl
  refine ok_bd times_ok ?_
  rintro _ rfl
  refine ok_lv (ok_lv (ok_f (by simp only [r0, Bool.or_eq_true, decide_eq_true_eq]; simp; intro e; rw [e] at l1; simp at l1; omega) (ok_bd (Below_ok at_ ha (n := (r.1.length : Int)) (by omega)) ?_)))
  rintro i ⟨i0, i1, -⟩
  have i1 := i1 (by omega)
  refine ok_ck ⟨i0, i1⟩ (ok_lv (ok_ite (fun _ => ok_some rfl) fun hkn => ?_))
  have hkn : (gt r.1 i).Setup.Known = true := by simpa using hkn
  have hE := (hR.at_ i i0 (by omega)).k
  have hs := (hE.2 hkn).1
  refine ok_bd (Path_ok hj hE hkn) ?_
  rintro ⟨p, pe⟩ ⟨p0, p1, p2, p3, p4⟩
  simp only at p0 p1 p2 p3 p4
  refine ok_lv (ok_ck (fun _ => ⟨by omega, by simp only; omega⟩) (ok_ck (fun _ => by omega) (ok_lv (ok_lv (ok_f ?_ (ok_bd (First_ok hj.hl hj.hn (by omega) (by omega) (by omega) (by have := hj.ho; omega)) ?_))))))
  · simp only [p0, p2, Bool.or_eq_true, decide_eq_true_eq]
    simp
    intro e
    rw [e] at p1
    simp at p1
  rintro _ rfl
  refine ok_bs1 (R := fun _ => True) ?_ fun _ _ => ok_some rfl
  refine ok_lp (fun y => 1 ≤ y ∧ y ≤ p.length) (fun y => ((p.length : Int) - y).toNat) ⟨by omega, by omega⟩ (by omega) ?_
  rintro y ⟨y0, y1⟩
  unfold P_maskkeep4_TimingAlong_L14
  refine ok_ite (fun hlt => ?_) fun hge => ok_some ⟨(), rfl, trivial⟩
  simp only at hlt
  obtain ⟨g, k, q1, q2, q3, q4, q5⟩ := p4 y y0 hlt
  have ee : (gt p y).Net - (2 + ins + flops) = g := by omega
  have hins := hj.hn.insL hj.hl (i := g) q2
  obtain ⟨d1, d2⟩ := hj.hd.gW g ⟨q2.1, by have := hj.hd.gL; omega⟩
  have hwk := d2 k ⟨q3.1, by omega⟩
  refine ok_ck ⟨by omega, hlt⟩ (ok_lv (ok_ar (by simp only; omega) ?_))
  simp only [ee]
  refine ok_lv (ok_f (by simp only [Bool.or_eq_true, decide_eq_true_eq]; omega) (ok_ck ⟨q2.1, by omega⟩ (ok_lv (ok_bd (R := fun b => b = true) ?_ ?_))))
  · refine ok_lp (fun u => (0 ≤ u.2 ∧ u.2 ≤ (gt j.Net.Gates g).Ins.length) ∧ (u.1 = false → u.2 ≤ k)) (fun u => (((gt j.Net.Gates g).Ins.length : Int) - u.2).toNat) ⟨⟨by simp, by simp⟩, fun _ => by simp only; omega⟩ (by simp only; omega) ?_
    rintro ⟨ok, z⟩ ⟨⟨z0, z1⟩, z2⟩
    simp only at z0 z1 z2
    unfold P_maskkeep4_TimingAlong_L21
    dsimp only
    refine ok_ite (fun hz => ?_) fun hge => ok_some ?_
    · have hw := d2 z ⟨z0, by omega⟩
      have w1 := hw.lo
      have w2 := hw.le
      have w3 := hw.hi
      have hp := p3 (y - 1) ⟨by omega, by omega⟩
      refine ok_ck ⟨z0, hz⟩ (ok_lv (ok_ck (fun _ => by omega) (ok_lv (ok_ck (fun _ => ⟨by omega, by omega⟩) (ok_ck (fun _ => ⟨by omega, hlt⟩) (ok_ck (fun _ => by omega) (ok_lv (ok_ck (fun _ => ⟨by omega, by omega⟩) (ok_ck (fun _ => ⟨q2.1, by have := hj.hd.gL; omega⟩) (ok_lv (ok_ck (fun _ => ⟨z0, by omega⟩) (ok_ck (fun _ => by omega) (ok_lv (ok_lv (ok_lv (ok_ar (by omega) (ok_some ⟨⟨⟨by simp only; omega, by simp only; omega⟩, fun hb => ?_⟩, by simp only; omega⟩)))))))))))))))))
      simp only [Bool.or_eq_false_iff, Bool.and_eq_false_iff, decide_eq_false_iff_not] at hb ⊢
      have := z2 hb.1
      by_cases e : z = k
      · subst e
        rcases hb.2 with hb2 | hb2
        · exact absurd q4.symm hb2
        · exact absurd q5 hb2
      · omega
    · cases ok
      · have := z2 rfl
        omega
      · rfl
  rintro _ rfl
  exact ok_f (by simp) (ok_ar (by omega) (ok_some ⟨⟨by omega, by omega⟩, by omega⟩))
end Go.Proofs.YtlolchgeedegdaaDoor.X
