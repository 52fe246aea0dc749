/- The closed check of the package extract; the law ExtractGrows. Plain. -/
import Derived.Test.YtnnmbmgnpdcefaaUH
namespace Go.Proofs.Ytnnmbmgnpdcefaa.X
open Go Go.RowKit
set_option linter.unusedVariables false
set_option linter.unusedSimpArgs false
set_option linter.unusedSectionVars false
def exW : T_rules_Wire := T_rules_Wire.mk 0 0 0 0 2 0
def exPins : List T_rules_Pin := [(T_rules_Pin.mk 0 0 0 true 0), (T_rules_Pin.mk 0 2 0 false 2)]
def exL : T_rules_Layout := T_rules_Layout.mk 5 3 1 1 [exW] [] exPins []
theorem exL_m : LayM exL := by
  refine ⟨⟨by decide, fun w hw => ?_⟩, ⟨by decide, fun v hv => by simp [exL] at hv⟩, ⟨by decide, fun p hp => ?_⟩⟩
  · have : w = exW := by simpa [exL] using hw
    subst this
    exact ⟨by decide, by decide, by decide, by decide, fun _ => rfl, fun q => absurd q (by decide)⟩
  · have : p = T_rules_Pin.mk 0 0 0 true 0 ∨ p = T_rules_Pin.mk 0 2 0 false 2 := by simpa [exL, exPins] using hp
    rcases this with q | q <;> subst q <;> decide
def exS1 : T_extract_step := ⟨⟨0, 0, 0⟩, ⟨0, 1, 0⟩⟩
def exS2 : T_extract_step := ⟨⟨0, 1, 0⟩, ⟨0, 2, 0⟩⟩
def exAt (i : Nat) : T_rules_Spot := ⟨0, i, 0⟩
def exUp (i : Nat) : T_rules_Spot := ⟨0, (i : Int) - 1, 0⟩
def exRs (i : Nat) : Int := if i = 0 then 0 else 4
def exD (v : T_rules_Spot) : Int := if v.X = 0 then 0 else if v.X = 1 then 32 else 52
def exB (i : Nat) : Int := if i = 0 then 11 else if i = 1 then 8 else 5
def exPts : List (T_rules_Spot × Bool) := [(⟨0, 0, 0⟩, true), (⟨0, 1, 0⟩, true), (⟨0, 2, 0⟩, true)]
theorem below3 {p : Nat → Prop} (h0 : p 0) (h1 : p 1) (h2 : p 2) : ∀ i, i < 3 → p i := fun i hi => by
  have : i = 0 ∨ i = 1 ∨ i = 2 := by omega
  rcases this with q | q | q <;> subst q <;> assumption
theorem ex_tr : Tr [exS1, exS2] 3 exAt exUp exRs := by
  refine ⟨by decide, by decide, by decide, fun i j _ _ e => ?_, fun j j0 j1 => ?_, fun i hi => ?_⟩
  · have := congrArg T_rules_Spot.X e
    simp only [exAt] at this
    omega
  · have : j = 1 ∨ j = 2 := by omega
    rcases this with q | q <;> subst q
    · exact ⟨0, by decide, by decide, exS1, by simp, .inl ⟨by decide, by decide⟩, by decide⟩
    · exact ⟨1, by decide, by decide, exS2, by simp, .inl ⟨by decide, by decide⟩, by decide⟩
  · revert hi
    revert i
    refine below3 ?_ ?_ ?_
    · intro s hs hin
      simp only [List.mem_cons, List.not_mem_nil, or_false] at hs
      rcases hs with q | q <;> subst q
      · exact ⟨1, by decide, by decide⟩
      · exact absurd hin (by decide)
    · intro s hs hin
      simp only [List.mem_cons, List.not_mem_nil, or_false] at hs
      rcases hs with q | q <;> subst q
      · exact ⟨0, by decide, by decide⟩
      · exact ⟨2, by decide, by decide⟩
    · intro s hs hin
      simp only [List.mem_cons, List.not_mem_nil, or_false] at hs
      rcases hs with q | q <;> subst q
      · exact absurd hin (by decide)
      · exact ⟨1, by decide, by decide⟩
theorem ex_sol : Sol 3 exAt exUp exRs (loadF (ldP 0 exPins) exPts [exS1, exS2] [] 0) exD exB := by
  refine ⟨by decide, fun j j0 j1 => ?_, below3 (by decide +kernel) (by decide +kernel) (by decide +kernel)⟩
  have : j = 1 ∨ j = 2 := by omega
  rcases this with q | q <;> subst q <;> decide
theorem ex_desc : EDesc exL 0 0 ([0, 52], 0) := by
  refine .inr ⟨by decide, [exS1, exS2], exPts, [], 3, exAt, exUp, exRs, fun s => ?_, fun p => ?_, fun p => ?_, by decide, ex_tr, .inr ⟨by decide, exD, exB, ex_sol, fun k hk => by unfold exD; split <;> (try split) <;> omega, .inr ⟨fun v hv => ?_, by decide⟩⟩⟩
  · constructor
    · intro hs
      simp only [List.mem_cons, List.not_mem_nil, or_false] at hs
      refine .inl ⟨exW, by simp [exL], rfl, ?_⟩
      unfold StW
      rcases hs with q | q <;> subst q <;> decide
    · rintro (⟨w, hw, _, hs⟩ | ⟨v, hv, _⟩)
      · have : w = exW := by simpa [exL] using hw
        subst this
        unfold StW exW at hs
        simp only at hs
        simp only [List.mem_cons, List.not_mem_nil, or_false]
        unfold exS1 exS2
        rw [step_ext, step_ext]
        omega
      · simp [exL] at hv
  · rw [mhas_mem]
    unfold exPts OfP
    simp only [List.map_cons, List.map_nil, List.mem_cons, List.not_mem_nil, or_false, spot_ext]
    constructor
    · intro h
      refine ⟨exW, by simp [exL], rfl, ?_⟩
      unfold Cov exW
      simp only
      omega
    · rintro ⟨w, hw, _, hc⟩
      have : w = exW := by simpa [exL] using hw
      subst this
      unfold Cov exW at hc
      simp only at hc
      omega
  · rw [mget_nil]
    constructor
    · intro h; cases h
    · rintro ⟨w, hw, hn, _⟩
      have : w = exW := by simpa [exL] using hw
      subst this
      exact absurd rfl hn
  · have : v = ⟨0, 0, 0⟩ ∨ v = ⟨0, 2, 0⟩ := by simpa [spots, exL, exPins, spotP] using hv
    rcases this with q | q <;> subst q
    · exact ⟨0, by decide, by decide⟩
    · exact ⟨2, by decide, by decide⟩
theorem EDesc.one {l : T_rules_Layout} {net near : Int} {r r' : List Int × Int} (h : EDesc l net near r) (h' : EDesc l net near r') : r = r' := by
  obtain ⟨a1, a2, a3⟩ := h.rel h' (fun _ => Iff.rfl) (fun _ => Iff.rfl) (fun _ => Iff.rfl) rfl rfl rfl (fun _ => Int.le_refl _) (Int.le_refl _)
  obtain ⟨b1, b2, b3⟩ := h'.rel h (fun _ => Iff.rfl) (fun _ => Iff.rfl) (fun _ => Iff.rfl) rfl rfl rfl (fun _ => Int.le_refl _) (Int.le_refl _)
  refine Prod.ext (ext_gt a2 fun j j0 j1 => ?_) a1
  have c1 := a3 j.toNat (by omega)
  have c2 := b3 j.toNat (by omega)
  rw [show ((j.toNat : Nat) : Int) = j by omega] at c1 c2
  omega
theorem extracts_ok : NOk P_maskkeep4_extracts (fun r => r = true) := by
  unfold P_maskkeep4_extracts
  refine nok_bd (Elmore_ok (l := exL) exL_m ⟨0, by decide +kernel, rfl⟩ (by decide)) ?_
  intro r hr
  have e := hr.one ex_desc
  subst e
  refine nok_bd (S := fun r => r = true) (nok_t (by decide) (nok_bo (S := fun r => r = true) ⟨true, by decide +kernel, rfl⟩ fun r hr => nok_ret hr)) fun r hr => nok_ret hr
theorem TiedN.lay {l : T_rules_Layout} (h : TiedN l) : LayN l := by
  refine ⟨⟨⟨by have := h.wires.1; omega, h.wires.2⟩, ⟨by have := h.vias.1; omega, h.vias.2⟩, ⟨by have := h.pins.1; omega, fun p hp => ?_⟩⟩, h.size, h.walls⟩
  obtain ⟨a, b, c, d, e⟩ := h.pins.2 p hp
  exact ⟨a, b, c, by omega, e⟩
/-- A pin, but for its size. -/
def PR (p q : T_rules_Pin) : Prop := q.Net = p.Net ∧ q.X = p.X ∧ q.Y = p.Y ∧ q.Drive = p.Drive ∧ (p.Size ≤ q.Size ∧ q.Size ≤ p.Size + 3) ∧ (p.Drive = true → q.Size = p.Size)
theorem PR.refl (p : T_rules_Pin) : PR p p := ⟨rfl, rfl, rfl, rfl, by omega, fun _ => rfl⟩
def PRel : List T_rules_Pin → List T_rules_Pin → Prop
  | [], [] => True
  | p :: ps, q :: qs => PR p q ∧ PRel ps qs
  | _, _ => False
theorem PRel.of : ∀ {ps qs : List T_rules_Pin}, qs.length = ps.length → (∀ i : Nat, i < ps.length → PR (gt ps (i : Int)) (gt qs (i : Int))) → PRel ps qs
  | [], [], _, _ => trivial
  | [], _ :: _, h, _ => by simp at h
  | _ :: _, [], h, _ => by simp at h
  | p :: ps, q :: qs, hl, h => by
    refine ⟨h 0 (by simp), PRel.of (by simpa using hl) fun i hi => ?_⟩
    have h1 := h (i + 1) (by simp only [List.length_cons]; omega)
    rw [gt_nth (by simp only [List.length_cons]; omega), gt_nth (by simp only [List.length_cons] at hl ⊢; omega)] at h1
    rw [gt_nth hi, gt_nth (by simp only [List.length_cons] at hl; omega)]
    exact h1
theorem PRel.same {net : Int} : ∀ {ps qs : List T_rules_Pin}, PRel ps qs → drv net ps = drv net qs ∧ spots net ps = spots net qs ∧ (∀ v, ldP net ps v ≤ ldP net qs v) ∧ ∀ r, ps.foldl (fun r p => if p.Net = net ∧ p.Drive = true then (p.X, p.Y) else r) r = qs.foldl (fun r p => if p.Net = net ∧ p.Drive = true then (p.X, p.Y) else r) r
  | [], [], _ => ⟨rfl, rfl, fun _ => Int.le_refl _, fun _ => rfl⟩
  | [], _ :: _, h => h.elim
  | _ :: _, [], h => h.elim
  | p :: ps, q :: qs, ⟨h, hr⟩ => by
    obtain ⟨a, b, c, d⟩ := PRel.same (net := net) hr
    obtain ⟨h1, h2, h3, h4, h5, h6⟩ := h
    have hs : spotP q = spotP p := by unfold spotP; rw [h2, h3]
    refine ⟨?_, ?_, fun v => ?_, fun r => ?_⟩
    · unfold drv at a ⊢
      rw [lsum, lsum, a, h1, h4]
    · unfold spots at b ⊢
      by_cases e : p.Net = net
      · have e' : q.Net = net := h1.trans e
        simp only [List.filter_cons, e, e', decide_true, if_true, List.map_cons, hs, b]
      · have e' : ¬ q.Net = net := fun x => e (h1.symm.trans x)
        simp only [List.filter_cons, e, e', decide_false, Bool.false_eq_true, if_false, b]
    · have cv := c v
      unfold ldP at cv ⊢
      rw [lsum, lsum, h1, hs]
      split <;> omega
    · simp only [List.foldl_cons, h1, h2, h3, h4]
      exact d _
end Go.Proofs.Ytnnmbmgnpdcefaa.X
