/- extract.Elmore: what comes out, whatever the orders are; two runs side by side. Plain. -/
import Derived.Test.YtnnmbmgnpdcefaaUG
namespace Go.Proofs.Ytnnmbmgnpdcefaa.X
open Go Go.RowKit
set_option linter.unusedVariables false
set_option linter.unusedSimpArgs false
set_option linter.unusedSectionVars false
def spotP (p : T_rules_Pin) : T_rules_Spot := ⟨0, p.X, p.Y⟩
def ldP (net : Int) (pins : List T_rules_Pin) (v : T_rules_Spot) : Int := lsum (fun p => if p.Net = net ∧ spotP p = v then p.Size else 0) pins
def drv (net : Int) (pins : List T_rules_Pin) : Int := lsum (fun p => if p.Net = net ∧ p.Drive = true then 1 else 0) pins
def rootP (net : Int) (pins : List T_rules_Pin) : Int × Int := pins.foldl (fun r p => if p.Net = net ∧ p.Drive = true then (p.X, p.Y) else r) (0, 0)
def spots (net : Int) (pins : List T_rules_Pin) : List T_rules_Spot := (pins.filter fun p => decide (p.Net = net)).map spotP
theorem lsum_take {β : Type} (f : β → Int) (l : List β) {m : Nat} (h : m < l.length) : lsum f (l.take (m + 1)) = lsum f (l.take m) + f l[m] := by
  rw [List.take_succ_eq_append_getElem h, lsum_app]
  simp [lsum]
theorem pins_ok {l : T_rules_Layout} (hl : LayM l) (net : Int) :
    NOk (nlp (P_extract_Elmore_L10 l net) fuel (0, 0, [], 0, 0)) (fun r => r.1 = drv net l.Pins ∧ (∀ v, mget v r.2.1 0 = ldP net l.Pins v) ∧ (r.2.2.1, r.2.2.2) = rootP net l.Pins ∧ ∀ v, 0 ≤ mget v r.2.1 0 ∧ mget v r.2.1 0 ≤ 10000) := by
  obtain ⟨pl, pN⟩ := hl.pins
  refine nok_lp (fun s => ∃ m : Nat, s.2.1 = m ∧ m ≤ l.Pins.length ∧ s.1 = drv net (l.Pins.take m) ∧ (0 ≤ s.1 ∧ s.1 ≤ m) ∧ (∀ v, mget v s.2.2.1 0 = ldP net (l.Pins.take m) v) ∧ (∀ v, 0 ≤ mget v s.2.2.1 0 ∧ mget v s.2.2.1 0 ≤ 100 * m) ∧ (s.2.2.2.1, s.2.2.2.2) = rootP net (l.Pins.take m)) (fun s => ((l.Pins.length : Int) - s.2.1).toNat)
    ⟨0, rfl, Nat.zero_le _, by simp [drv, lsum], by simp, fun v => by simp [ldP, lsum, mget_nil], fun v => by simp [mget_nil], by simp [rootP]⟩ (by simp only; omega) ?_
  rintro ⟨d, y, ld, bx, by_⟩ ⟨m, rfl, hm, hd, hd2, hld, hlb, hr⟩
  simp only at hd hd2 hld hlb hr ⊢
  unfold P_extract_Elmore_L10
  dsimp only
  refine nok_ite (fun hlt => ?_) fun hge => nok_ret ?_
  · have hmb : m < l.Pins.length := by omega
    have hg : gt l.Pins (m : Int) = l.Pins[m] := gt_nth hmb
    obtain ⟨p1, p2, p3, p4, p5⟩ := pN _ (List.getElem_mem hmb)
    refine nok_bd (S := fun s => s.1 = drv net (l.Pins.take (m + 1)) ∧ (0 ≤ s.1 ∧ s.1 ≤ m + 1) ∧ (∀ v, mget v s.2.1 0 = ldP net (l.Pins.take (m + 1)) v) ∧ (∀ v, 0 ≤ mget v s.2.1 0 ∧ mget v s.2.1 0 ≤ 100 * (m + 1)) ∧ (s.2.2.1, s.2.2.2) = rootP net (l.Pins.take (m + 1))) (nok_ck ⟨by omega, hlt⟩ (nok_lv ?_)) ?_
    · rw [hg]
      have e1 : drv net (l.Pins.take (m + 1)) = drv net (l.Pins.take m) + if l.Pins[m].Net = net ∧ l.Pins[m].Drive = true then 1 else 0 := lsum_take _ _ hmb
      have e2 : ∀ v, ldP net (l.Pins.take (m + 1)) v = ldP net (l.Pins.take m) v + if l.Pins[m].Net = net ∧ spotP l.Pins[m] = v then l.Pins[m].Size else 0 := fun v => lsum_take _ _ hmb
      have e3 : rootP net (l.Pins.take (m + 1)) = if l.Pins[m].Net = net ∧ l.Pins[m].Drive = true then (l.Pins[m].X, l.Pins[m].Y) else rootP net (l.Pins.take m) := by
        unfold rootP
        rw [List.take_succ_eq_append_getElem hmb, List.foldl_append]
        rfl
      generalize l.Pins[m] = p at p1 p2 p3 p4 p5 e1 e2 e3
      refine nok_ite (fun hn => nok_ret ?_) fun hn => ?_
      · have hf : ∀ q : Prop, ¬ (p.Net = net ∧ q) := fun q h => hn h.1
        refine ⟨by rw [e1, if_neg (hf _)]; simp only; omega, by simp only; omega, fun v => ?_, fun v => ?_, by rw [e3, if_neg (hf _)]; exact hr⟩
        · rw [e2, if_neg (hf _)]; simp only; rw [hld]; omega
        · have := hlb v; simp only; omega
      · have hn : p.Net = net := Decidable.not_not.1 hn
        have hb := hlb (T_rules_Spot.mk 0 p.X p.Y)
        refine nok_lv (nok_ar (by omega) (nok_lv (nok_lv (nok_lv ?_))))
        have hnew : ∀ v, mget v (mput (T_rules_Spot.mk 0 p.X p.Y) (mget (T_rules_Spot.mk 0 p.X p.Y) ld 0 + p.Size) (mput (T_rules_Spot.mk 0 p.X p.Y) (mget (T_rules_Spot.mk 0 p.X p.Y) ld 0) ld)) 0 = mget v ld 0 + if spotP p = v then p.Size else 0 := fun v => by
          show mget v (mput (spotP p) (mget (spotP p) ld 0 + p.Size) (mput (spotP p) (mget (spotP p) ld 0) ld)) 0 = mget v ld 0 + if spotP p = v then p.Size else 0
          simp only [mget_mput]
          by_cases q : v = spotP p
          · rw [if_pos q, if_pos q.symm, q]
          · rw [if_neg q, if_neg q, if_neg fun e => q e.symm]; omega
        refine nok_bd (S := fun s => s.1 = drv net (l.Pins.take (m + 1)) ∧ (0 ≤ s.1 ∧ s.1 ≤ m + 1) ∧ (s.2.1, s.2.2) = rootP net (l.Pins.take (m + 1))) (nok_ite (fun h => nok_ar (by omega) (nok_ret ⟨?_, by simp only; omega, ?_⟩)) fun h => nok_ret ⟨?_, by simp only; omega, ?_⟩) ?_
        · rw [e1, if_pos ⟨hn, h⟩]; simp only; omega
        · rw [e3, if_pos ⟨hn, h⟩]
        · rw [e1, if_neg fun x => h x.2]; simp only; omega
        · rw [e3, if_neg fun x => h x.2]; exact hr
        rintro ⟨d', x', y'⟩ ⟨k1, k2, k3⟩
        refine nok_ret ⟨k1, k2, fun v => ?_, fun v => ?_, k3⟩
        · simp only
          rw [hnew, hld, e2]
          by_cases q : spotP p = v
          · rw [if_pos q, if_pos ⟨hn, q⟩]
          · rw [if_neg q, if_neg fun x => q x.2]
        · simp only
          rw [hnew]
          have := hlb v
          split <;> omega
    · rintro ⟨d', ld', x', y'⟩ ⟨k1, k2, k3, k4, k5⟩
      simp only at k1 k2 k3 k4 k5 ⊢
      exact nok_ar (by omega) (nok_ret ⟨⟨m + 1, by simp, by omega, k1, by simp only; omega, k3, fun v => by have := k4 v; simp only; omega, k5⟩, by simp only; omega⟩)
  · have e : m = l.Pins.length := by omega
    subst e
    rw [List.take_length] at hd hr
    simp only [List.take_length] at hld
    exact ⟨hd, hld, hr, fun v => by have := hlb v; simp only; omega⟩
theorem outs_ok {l : T_rules_Layout} (hl : LayM l) (net : Int) {D : Bool × List (T_rules_Spot × Int)} :
    NOk (nlp (P_extract_Elmore_L26 l net D) fuel ([], 0)) (fun r => (r = Sum.inr ([], 18) ∧ ¬ ∀ v ∈ spots net l.Pins, mhas v D.2 = true) ∨ (r = Sum.inl ((spots net l.Pins).map fun v => mget v D.2 0) ∧ ∀ v ∈ spots net l.Pins, mhas v D.2 = true)) := by
  obtain ⟨pl, pN⟩ := hl.pins
  refine nok_lp (fun s => ∃ m : Nat, s.2 = m ∧ m ≤ l.Pins.length ∧ s.1 = (spots net (l.Pins.take m)).map (fun v => mget v D.2 0) ∧ s.1.length ≤ m ∧ ∀ v ∈ spots net (l.Pins.take m), mhas v D.2 = true) (fun s => ((l.Pins.length : Int) - s.2).toNat)
    ⟨0, rfl, Nat.zero_le _, by simp [spots], by simp, fun v hv => by simp [spots] at hv⟩ (by simp only; omega) ?_
  rintro ⟨out, y⟩ ⟨m, rfl, hm, ho, hlen, hh⟩
  simp only at ho hlen hh ⊢
  unfold P_extract_Elmore_L26
  dsimp only
  refine nok_ite (fun hlt => ?_) fun hge => nok_ret (.inr ?_)
  · have hmb : m < l.Pins.length := by omega
    have hg : gt l.Pins (m : Int) = l.Pins[m] := gt_nth hmb
    have e : spots net (l.Pins.take (m + 1)) = spots net (l.Pins.take m) ++ if l.Pins[m].Net = net then [spotP l.Pins[m]] else [] := by
      unfold spots
      rw [List.take_succ_eq_append_getElem hmb, List.filter_append, List.map_append]
      congr 1
      by_cases q : l.Pins[m].Net = net <;> simp [q]
    have hin : l.Pins[m].Net = net → spotP l.Pins[m] ∈ spots net l.Pins := fun q => by
      unfold spots
      exact List.mem_map.2 ⟨_, List.mem_filter.2 ⟨List.getElem_mem hmb, by simpa using q⟩, rfl⟩
    refine nok_bs (S := fun o => (∀ out', o = Sum.inl out' → out' = (spots net (l.Pins.take (m + 1))).map (fun v => mget v D.2 0) ∧ out'.length ≤ m + 1 ∧ ∀ v ∈ spots net (l.Pins.take (m + 1)), mhas v D.2 = true) ∧ ∀ z, o = Sum.inr z → z = ([], 18) ∧ ¬ ∀ v ∈ spots net l.Pins, mhas v D.2 = true) (nok_ck ⟨by omega, hlt⟩ (nok_lv ?_)) ?_ ?_
    · rw [hg]
      generalize l.Pins[m] = p at e hin
      refine nok_ite (fun hn => nok_ret ⟨fun o' eo => ?_, fun z ez => by cases ez⟩) fun hn => nok_lv (nok_lv (nok_ite (fun hq => nok_ret ⟨fun o' eo => (by cases eo), fun z ez => ?_⟩) fun hq => nok_lv (nok_ck (by simp only [apOk, List.length_append, List.length_singleton]; omega) (nok_ret ⟨fun o' eo => ?_, fun z ez => by cases ez⟩))))
      · cases eo
        rw [e, if_neg hn, List.append_nil]
        exact ⟨ho, by omega, hh⟩
      · cases ez
        have hn : p.Net = net := Decidable.not_not.1 hn
        refine ⟨rfl, fun hall => ?_⟩
        have := hall _ (hin hn)
        unfold spotP at this
        rw [this] at hq
        exact absurd hq (by decide)
      · cases eo
        have hn : p.Net = net := Decidable.not_not.1 hn
        have hq' : mhas (spotP p) D.2 = true := by
          unfold spotP
          cases hv : mhas (T_rules_Spot.mk 0 p.X p.Y) D.2 with
          | true => rfl
          | false => rw [hv] at hq; exact absurd rfl hq
        rw [e, if_pos hn, List.map_append]
        refine ⟨by rw [ho]; rfl, by simp only [List.length_append, List.length_singleton]; omega, fun v hv => ?_⟩
        rcases List.mem_append.1 hv with h | h
        · exact hh v h
        · rw [List.mem_singleton.1 h]; exact hq'
    · rintro out' ⟨h1, -⟩
      obtain ⟨q1, q2, q3⟩ := h1 out' rfl
      exact nok_ar (by omega) (nok_ret ⟨⟨m + 1, by simp, by omega, q1, q2, q3⟩, by simp only; omega⟩)
    · rintro z ⟨-, h2⟩
      obtain ⟨q1, q2⟩ := h2 z rfl
      exact nok_ret (.inl ⟨by rw [q1], q2⟩)
  · have e : m = l.Pins.length := by omega
    subst e
    rw [List.take_length] at ho hh
    exact ⟨by rw [ho], hh⟩
/-- What Elmore answers. -/
def EDesc (l : T_rules_Layout) (net near : Int) (r : List Int × Int) : Prop :=
  (drv net l.Pins ≠ 1 ∧ r = ([], 13)) ∨
  (drv net l.Pins = 1 ∧ ∃ (G : List T_extract_step) (pts o : List (T_rules_Spot × Bool)) (n : Nat) (at_ up : Nat → T_rules_Spot) (rs : Nat → Int), (∀ s, s ∈ G ↔ OfS l net s) ∧ (∀ p, mhas p pts = true ↔ OfP l net p) ∧ (∀ p, mget p o false = true ↔ ∃ w ∈ l.Wires, w.Net ≠ net ∧ Cov w p) ∧ at_ 0 = ⟨0, (rootP net l.Pins).1, (rootP net l.Pins).2⟩ ∧ Tr G n at_ up rs ∧
    ((sumN (fun i => deg G (at_ i)) n ≠ 2 * ((n : Int) - 1) ∧ r = ([], 17)) ∨
     (sumN (fun i => deg G (at_ i)) n = 2 * ((n : Int) - 1) ∧ ∃ (D : T_rules_Spot → Int) (B : Nat → Int), Sol n at_ up rs (loadF (ldP net l.Pins) pts G o near) D B ∧ (∀ k, k < n → 0 ≤ D (at_ k)) ∧
      ((¬ (∀ v ∈ spots net l.Pins, ∃ k, k < n ∧ at_ k = v) ∧ r = ([], 18)) ∨ ((∀ v ∈ spots net l.Pins, ∃ k, k < n ∧ at_ k = v) ∧ r = ((spots net l.Pins).map D, 0))))))
theorem Elmore_ok {l : T_rules_Layout} (hl : LayM l) {net near : Int} (hc : Ok (P_extract_check l net) (fun r => r = 0)) (hn : 0 ≤ near ∧ near ≤ 4) : NOk (P_extract_Elmore l net near) (EDesc l net near) := by
  unfold P_extract_Elmore
  refine nok_bo hc ?_
  rintro _ rfl
  refine nok_f (by simp) (nok_lv (nok_f (by simp only [Bool.or_eq_true, decide_eq_true_eq]; omega) (nok_bd (pins_ok hl net) ?_)))
  rintro ⟨d, ld, bx, by_⟩ ⟨h1, h2, h3, h4⟩
  simp only at h1 h2 h3 h4 ⊢
  refine nok_ite (fun hd => nok_ret (.inl ⟨by rw [← h1]; exact hd, rfl⟩)) fun hd => nok_bo (of_ok hl net) ?_
  rintro ⟨pts, sts⟩ ⟨⟨k1, k2⟩, ⟨l1, l2⟩, m1, m2⟩
  simp only at k1 k2 l1 l2 m1 m2 ⊢
  refine nok_bo (strangers_ok hl net) ?_
  intro o ho
  have hwN := hl.wires.2
  have hvN := hl.vias.2
  have hends : ∀ s, OfS l net s → s.fa ≠ s.fb := by
    rintro s (⟨w, hw, _, hs⟩ | ⟨v, hv, _, hs⟩) e
    · unfold StW at hs; rw [e] at hs; have := hwN w hw; have := this.x; omega
    · unfold StV at hs; rw [e] at hs; omega
  have hGm : ∀ s, s ∈ sts.map (·.1) ↔ OfS l net s := fun s => by rw [← mhas_mem, m2]
  have hpt : ∀ p, mhas p pts = true → (0 ≤ p.X ∧ p.X ≤ 1000) ∧ (0 ≤ p.Y ∧ p.Y ≤ 1000) := fun p hp => by
    obtain ⟨w, hw, _, hc⟩ := (m1 p).1 hp
    have := hwN w hw
    have := this.x
    have := (hwN w hw).y
    unfold Cov at hc
    omega
  have hd1 : ∀ s ∈ sts.map (·.1), s.fa ≠ s.fb := fun s hs => hends s ((hGm s).1 hs)
  refine nok_bd (fill_ok h4 hn k1 k2 l1 l2 hpt hd1) ?_
  rintro ⟨next, load⟩ ⟨f1, f2, f3⟩
  simp only at f1 f2 f3 ⊢
  refine nok_bo (grow_ok k2 hd1 (by rw [List.length_map]; omega) f1 (M := 100000) (by omega) f3 (T_rules_Spot.mk 0 bx by_)) ?_
  rintro ⟨ok, D⟩ ⟨n, at_, up, rs, hroot, hT, hres⟩
  simp only at hres ⊢
  have hdr : drv net l.Pins = 1 := by rw [← h1]; exact Decidable.not_not.1 hd
  have hrt : at_ 0 = ⟨0, (rootP net l.Pins).1, (rootP net l.Pins).2⟩ := by rw [hroot, ← h3]
  have hld : (fun v => mget v load 0) = loadF (ldP net l.Pins) pts (sts.map (·.1)) o near := funext fun v => by
    rw [f2]; unfold loadF; simp only [h2]
  rcases hres with ⟨r1, r2⟩ | ⟨r1, r2, ⟨B, hB⟩, r3, r4⟩
  · subst r1
    exact nok_t rfl (nok_ret (.inr ⟨hdr, _, pts, o, n, at_, up, rs, hGm, m1, ho, hrt, hT, .inl ⟨r2, rfl⟩⟩))
  · subst r1
    rw [hld] at hB
    refine nok_f (by decide) (nok_bs (outs_ok hl net) (fun x hx => nok_ret ?_) fun z hz => nok_ret ?_)
    · rcases hx with ⟨e, _⟩ | ⟨e, hx⟩
      · cases e
      · cases e
        exact .inr ⟨hdr, _, pts, o, n, at_, up, rs, hGm, m1, ho, hrt, hT, .inr ⟨r2, _, B, hB, r4, .inr ⟨fun v hv => (r3 v).1 (hx v hv), rfl⟩⟩⟩
    · rcases hz with ⟨e, hx⟩ | ⟨e, _⟩
      · cases e
        exact .inr ⟨hdr, _, pts, o, n, at_, up, rs, hGm, m1, ho, hrt, hT, .inr ⟨r2, _, B, hB, r4, .inl ⟨fun hall => hx fun v hv => (r3 v).2 (hall v hv), rfl⟩⟩⟩
      · cases e
theorem besF_congr {o o' : List (T_rules_Spot × Bool)} (h : ∀ p, mget p o false = true ↔ mget p o' false = true) (p : T_rules_Spot) : besF o p = besF o' p := by
  unfold besF
  simp only [h]
/-- Two runs over one graph, the loads of the second no smaller. -/
theorem EDesc.rel {l1 l2 : T_rules_Layout} {net near1 near2 : Int} {r1 r2 : List Int × Int} (h1 : EDesc l1 net near1 r1) (h2 : EDesc l2 net near2 r2) (hS : ∀ s, OfS l1 net s ↔ OfS l2 net s) (hP : ∀ p, OfP l1 net p ↔ OfP l2 net p) (hO : ∀ p, (∃ w ∈ l1.Wires, w.Net ≠ net ∧ Cov w p) ↔ ∃ w ∈ l2.Wires, w.Net ≠ net ∧ Cov w p)
    (hd : drv net l1.Pins = drv net l2.Pins) (hr : rootP net l1.Pins = rootP net l2.Pins) (hs : spots net l1.Pins = spots net l2.Pins) (hl : ∀ v, ldP net l1.Pins v ≤ ldP net l2.Pins v) (hn : near1 ≤ near2) :
    r1.2 = r2.2 ∧ r1.1.length = r2.1.length ∧ ∀ i : Nat, i < r1.1.length → gt r1.1 (i : Int) ≤ gt r2.1 (i : Int) := by
  rcases h1 with ⟨a1, e1⟩ | ⟨a1, G, pts, o, n, at_, up, rs, g1, p1, o1, t1, T1, c1⟩ <;> rcases h2 with ⟨a2, e2⟩ | ⟨a2, G', pts', o', n', at', up', rs', g2, p2, o2, t2, T2, c2⟩
  · subst e1 e2; exact ⟨rfl, rfl, fun i hi => by simp at hi⟩
  · exact absurd (hd.trans a2) a1
  · exact absurd (hd.symm.trans a1) a2
  · have hm : ∀ s, s ∈ G ↔ s ∈ G' := fun s => (g1 s).trans ((hS s).trans (g2 s).symm)
    have hG : G.Perm G' := nodup_perm T1.nd (fun s hs => (hm s).1 hs) (nodup_le T2.nd fun s hs => (hm s).2 hs)
    have h0 : at_ 0 = at' 0 := by rw [t1, t2, hr]
    obtain ⟨hcn, hcs⟩ := T1.count T2 hG h0
    have sm1 := T1.same T2 (fun s hs => (hm s).1 hs) h0
    have sm2 := T2.same T1 (fun s hs => (hm s).2 hs) h0.symm
    have hreach : ∀ v, (∃ k, k < n ∧ at_ k = v) ↔ ∃ k, k < n' ∧ at' k = v := fun v => by
      constructor
      · rintro ⟨k, hk, rfl⟩; exact sm1 k hk
      · rintro ⟨k, hk, rfl⟩; exact sm2 k hk
    rcases c1 with ⟨b1, e1⟩ | ⟨b1, D, B, S1, N1, c1⟩ <;> rcases c2 with ⟨b2, e2⟩ | ⟨b2, D', B', S2, N2, c2⟩
    · subst e1 e2; exact ⟨rfl, rfl, fun i hi => by simp at hi⟩
    · exact absurd (by rw [hcs, b2, hcn]) b1
    · exact absurd (by rw [← hcs, b1, hcn]) b2
    · have hload : ∀ v, loadF (ldP net l1.Pins) pts G o near1 v ≤ loadF (ldP net l2.Pins) pts' G' o' near2 v := fun v => by
        unfold loadF
        have q1 : mhas v pts = true ↔ mhas v pts' = true := (p1 v).trans ((hP v).trans (p2 v).symm)
        have q2 : besF o v = besF o' v := besF_congr (fun p => (o1 p).trans ((hO p).trans (o2 p).symm)) v
        have q3 := hl v
        rw [lsum_perm hG, q2]
        have q4 : near1 * besF o' v ≤ near2 * besF o' v := Int.mul_le_mul_of_nonneg_right hn (besF_bd o' v).1
        by_cases q : mhas v pts = true
        · rw [if_pos q, if_pos (q1.1 q)]; omega
        · rw [if_neg q, if_neg fun h => q (q1.2 h)]; omega
      have hmono := Sol.mono T1 T2 hG h0 b1 S1 S2 (fun i _ => hload _)
      rcases c1 with ⟨d1, e1⟩ | ⟨d1, e1⟩ <;> rcases c2 with ⟨d2, e2⟩ | ⟨d2, e2⟩
      · subst e1 e2; exact ⟨rfl, rfl, fun i hi => by simp at hi⟩
      · exact absurd (fun v hv => (hreach v).2 (d2 v (hs ▸ hv))) d1
      · exact absurd (fun v hv => (hreach v).1 (d1 v (hs ▸ hv))) d2
      · subst e1 e2
        refine ⟨rfl, by simp only [List.length_map, hs], fun i hi => ?_⟩
        simp only [List.length_map] at hi
        have hi2 : i < (spots net l2.Pins).length := by rw [← hs]; exact hi
        rw [gt_nth (by rw [List.length_map]; exact hi), gt_nth (by rw [List.length_map]; exact hi2), List.getElem_map, List.getElem_map]
        have hv : (spots net l2.Pins)[i] = (spots net l1.Pins)[i] := by simp only [hs]
        rw [hv]
        obtain ⟨k, hk, ek⟩ := d1 _ (List.getElem_mem hi)
        rw [← ek]
        exact hmono k hk
end Go.Proofs.Ytnnmbmgnpdcefaa.X
