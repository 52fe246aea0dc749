/- extract.of and extract.strangers: what they hold. Plain. -/
import Derived.Test.YtnnmbmgnpdcefaaUD
namespace Go.Proofs.Ytnnmbmgnpdcefaa.X
open Go Go.RowKit
set_option linter.unusedVariables false
set_option linter.unusedSimpArgs false
set_option linter.unusedSectionVars false
section
variable {κ α : Type} [DecidableEq κ]
theorem has_mput {k k' : κ} {v : α} {es : List (κ × α)} : mhas k' (mput k v es) = true ↔ k' = k ∨ mhas k' es = true := by
  rw [mhas_mput]
  by_cases q : k' = k <;> simp [q]
theorem mput_len {k : κ} {v : α} : ∀ {es : List (κ × α)}, (mput k v es).length ≤ es.length + 1
  | [] => by simp [mput]
  | (a, b) :: r => by
    by_cases e : k = a
    · simp [mput, e]
    · have := mput_len (k := k) (v := v) (es := r)
      simp only [mput, e, if_false, List.length_cons]; omega
theorem mhas_mem {k : κ} : ∀ {es : List (κ × α)}, mhas k es = true ↔ k ∈ es.map (·.1)
  | [] => by simp [mhas, mfind]
  | (a, b) :: r => by
    by_cases e : k = a
    · simp [mhas, mfind, e]
    · have := mhas_mem (k := k) (es := r)
      simp only [mhas, mfind, e, if_false] at this ⊢
      simp only [List.map_cons, List.mem_cons, e, false_or]
      exact this
def Ks (es : List (κ × α)) : Prop := (es.map (·.1)).Nodup
theorem Ks.nil : Ks ([] : List (κ × α)) := List.nodup_nil
theorem Ks.put {k : κ} {v : α} : ∀ {es : List (κ × α)}, Ks es → Ks (mput k v es)
  | [], _ => by simp [Ks, mput]
  | (a, b) :: r, h => by
    unfold Ks at h ⊢
    simp only [List.map_cons, List.nodup_cons] at h
    by_cases e : k = a
    · simp only [mput, e, if_true, List.map_cons, List.nodup_cons]
      exact h
    · simp only [mput, e, if_false, List.map_cons, List.nodup_cons]
      refine ⟨fun hm => ?_, Ks.put (es := r) h.2⟩
      have := has_mput.1 (mhas_mem.2 hm)
      rcases this with q | q
      · exact e q.symm
      · exact h.1 (mhas_mem.1 q)
end
theorem spot_ext {p : T_rules_Spot} {a b c : Int} : p = ⟨a, b, c⟩ ↔ p.Layer = a ∧ p.X = b ∧ p.Y = c := by
  cases p; simp
theorem step_ext {s : T_extract_step} {a b c d e f : Int} : s = ⟨⟨a, b, c⟩, ⟨d, e, f⟩⟩ ↔ s.fa.Layer = a ∧ s.fa.X = b ∧ s.fa.Y = c ∧ s.fb.Layer = d ∧ s.fb.X = e ∧ s.fb.Y = f := by
  obtain ⟨⟨_, _, _⟩, ⟨_, _, _⟩⟩ := s
  simp [and_assoc]
structure WireN (w : T_rules_Wire) : Prop where
  x : 0 ≤ w.X0 ∧ w.X0 ≤ w.X1 ∧ w.X1 ≤ 11
  y : 0 ≤ w.Y0 ∧ w.Y0 ≤ w.Y1 ∧ w.Y1 ≤ 11
  l : 0 ≤ w.Layer ∧ w.Layer ≤ 2
  n : 0 ≤ w.Net ∧ w.Net ≤ 2
  ev : w.Layer = 0 ∨ w.Layer = 2 → w.Y0 = w.Y1
  od : w.Layer = 1 → w.X0 = w.X1
structure ViaN (v : T_rules_Via) : Prop where
  n : 0 ≤ v.Net ∧ v.Net ≤ 2
  l : 0 ≤ v.Layer ∧ v.Layer ≤ 1
  x : 0 ≤ v.X ∧ v.X ≤ 11
  y : 0 ≤ v.Y ∧ v.Y ≤ 11
/-- A wire covers a spot; a step lies in a wire, in a via. -/
def Cov (w : T_rules_Wire) (p : T_rules_Spot) : Prop := p.Layer = w.Layer ∧ w.X0 ≤ p.X ∧ p.X ≤ w.X1 ∧ w.Y0 ≤ p.Y ∧ p.Y ≤ w.Y1
def StW (w : T_rules_Wire) (s : T_extract_step) : Prop := s.fa.Layer = w.Layer ∧ s.fb.Layer = w.Layer ∧
  ((s.fa.Y = s.fb.Y ∧ s.fb.X = s.fa.X + 1 ∧ w.X0 ≤ s.fa.X ∧ s.fb.X ≤ w.X1 ∧ w.Y0 ≤ s.fa.Y ∧ s.fa.Y ≤ w.Y1) ∨ (s.fb.Y = s.fa.Y + 1 ∧ s.fa.X = w.X1 ∧ s.fb.X = w.X0 ∧ w.Y0 ≤ s.fa.Y ∧ s.fb.Y ≤ w.Y1))
def StV (v : T_rules_Via) (s : T_extract_step) : Prop := s.fa.Layer = v.Layer ∧ s.fb.Layer = v.Layer + 1 ∧ s.fa.X = v.X ∧ s.fb.X = v.X ∧ s.fa.Y = v.Y ∧ s.fb.Y = v.Y
def RowS (w : T_rules_Wire) (y x : Int) (s : T_extract_step) : Prop := s.fa.Layer = w.Layer ∧ s.fb.Layer = w.Layer ∧
  ((s.fa.Y = y ∧ s.fb.Y = y ∧ s.fb.X = s.fa.X + 1 ∧ w.X0 ≤ s.fa.X ∧ s.fb.X < x) ∨ (s.fb.Y = y ∧ s.fa.Y = y - 1 ∧ w.Y0 < y ∧ s.fa.X = w.X1 ∧ s.fb.X = w.X0 ∧ w.X0 < x))
theorem wx_ok {w : T_rules_Wire} (hw : WireN w) {y : Int} (y0 : w.Y0 ≤ y) (y1 : y ≤ w.Y1) {P : List (T_rules_Spot × Bool)} {S : List (T_extract_step × Bool)} {a b c : Int} (hP : Ks P) (hS : Ks S) (hl : w.Y0 < y → a = w.Layer ∧ b = w.X1 ∧ c = y - 1) :
    Ok (lp (P_extract_of_L11 w y) fuel (w.X0, P, S, a, b, c)) (fun r => (Ks r.1 ∧ Ks r.2.1) ∧ (r.1.length ≤ P.length + 12 ∧ r.2.1.length ≤ S.length + 12) ∧ (∀ p, mhas p r.1 = true ↔ mhas p P = true ∨ (p.Layer = w.Layer ∧ p.Y = y ∧ w.X0 ≤ p.X ∧ p.X ≤ w.X1)) ∧
      (∀ s, mhas s r.2.1 = true ↔ mhas s S = true ∨ RowS w y (w.X1 + 1) s) ∧ r.2.2.1 = w.Layer ∧ r.2.2.2.1 = w.X1 ∧ r.2.2.2.2 = y) := by
  have hx := hw.x
  have hy := hw.y
  have hL := hw.l
  refine ok_lp (fun s => (w.X0 ≤ s.1 ∧ s.1 ≤ w.X1 + 1) ∧ (Ks s.2.1 ∧ Ks s.2.2.1) ∧ ((s.2.1.length : Int) ≤ P.length + (s.1 - w.X0) ∧ (s.2.2.1.length : Int) ≤ S.length + (s.1 - w.X0)) ∧ (∀ p, mhas p s.2.1 = true ↔ mhas p P = true ∨ (p.Layer = w.Layer ∧ p.Y = y ∧ w.X0 ≤ p.X ∧ p.X < s.1)) ∧
      (∀ t, mhas t s.2.2.1 = true ↔ mhas t S = true ∨ RowS w y s.1 t) ∧ (w.X0 < s.1 → s.2.2.2.1 = w.Layer ∧ s.2.2.2.2.1 = s.1 - 1 ∧ s.2.2.2.2.2 = y) ∧ (s.1 = w.X0 → w.Y0 < y → s.2.2.2.1 = w.Layer ∧ s.2.2.2.2.1 = w.X1 ∧ s.2.2.2.2.2 = y - 1)) (fun s => (w.X1 + 1 - s.1).toNat)
    ⟨by simp only; omega, ⟨hP, hS⟩, by simp only; omega, fun p => ⟨fun h => .inl h, fun h => h.elim id fun h => by simp only at h; omega⟩, fun t => ⟨fun h => .inl h, fun h => h.elim id fun h => by unfold RowS at h; simp only at h; omega⟩, fun h => by simp only at h; omega, fun _ h => hl h⟩ (by simp only; omega) ?_
  rintro ⟨x, pt, st, la, lb, lc⟩ ⟨hx1, hk, hlen, hpt, hst, hla, hlb⟩
  simp only at hx1 hk hlen hpt hst hla hlb ⊢
  unfold P_extract_of_L11
  dsimp only
  refine ok_ite (fun hle => ?_) fun hgt => ?_
  · have hp2 := mput_len (k := T_rules_Spot.mk w.Layer x y) (v := true) (es := pt)
    refine ok_lv (ok_lv (ok_bd (R := fun st' => Ks st' ∧ st'.length ≤ st.length + 1 ∧ ∀ t, mhas t st' = true ↔ mhas t S = true ∨ RowS w y (x + 1) t) (ok_ite (fun hq => ok_lv (ok_some ?_)) fun hq => ok_some ?_) ?_))
    · simp only [Bool.or_eq_true, decide_eq_true_eq] at hq
      refine ⟨hk.2.put, mput_len, fun t => ?_⟩
      rw [has_mput, hst, step_ext]
      by_cases hz : mhas t S = true
      · simp only [hz, true_or, or_true]
      · simp only [hz, Bool.false_eq_true, false_or]
        unfold RowS
        constructor <;> intro h <;> omega
    · simp only [Bool.or_eq_true, decide_eq_true_eq] at hq
      refine ⟨hk.2, Nat.le_succ _, fun t => ?_⟩
      rw [hst]
      by_cases hz : mhas t S = true
      · simp only [hz, true_or]
      · simp only [hz, Bool.false_eq_true, false_or]
        unfold RowS
        constructor <;> intro h <;> omega
    · rintro st' ⟨k1, k2, k3⟩
      refine ok_ar (by omega) (ok_some ⟨⟨by simp only; omega, ⟨hk.1.put, k1⟩, by simp only; omega, fun p => ?_, k3, fun _ => ⟨rfl, by simp only; omega, rfl⟩, fun h => by simp only at h; omega⟩, by simp only; omega⟩)
      simp only
      rw [has_mput, hpt, spot_ext]
      by_cases hz : mhas p P = true
      · simp only [hz, true_or, or_true]
      · simp only [hz, Bool.false_eq_true, false_or]
        constructor <;> intro h <;> omega
  · have e : x = w.X1 + 1 := by omega
    subst e
    obtain ⟨h1, h2, h3⟩ := hla (by omega)
    refine ok_some ⟨hk, by simp only; omega, fun p => ?_, hst, h1, by simp only; omega, h3⟩
    simp only
    rw [hpt]
    by_cases hz : mhas p P = true
    · simp only [hz, true_or]
    · simp only [hz, Bool.false_eq_true, false_or]
      constructor <;> intro h <;> omega
theorem wire_ok {w : T_rules_Wire} (hw : WireN w) {P : List (T_rules_Spot × Bool)} {S : List (T_extract_step × Bool)} (hP : Ks P) (hS : Ks S) :
    Ok (lp (P_extract_of_L8 w) fuel (w.Y0, P, S, 0, 0, 0)) (fun r => (Ks r.1 ∧ Ks r.2) ∧ (r.1.length ≤ P.length + 144 ∧ r.2.length ≤ S.length + 144) ∧ (∀ p, mhas p r.1 = true ↔ mhas p P = true ∨ Cov w p) ∧ ∀ s, mhas s r.2 = true ↔ mhas s S = true ∨ StW w s) := by
  have hx := hw.x
  have hy := hw.y
  refine ok_lp (fun s => (w.Y0 ≤ s.1 ∧ s.1 ≤ w.Y1 + 1) ∧ (Ks s.2.1 ∧ Ks s.2.2.1) ∧ ((s.2.1.length : Int) ≤ P.length + 12 * (s.1 - w.Y0) ∧ (s.2.2.1.length : Int) ≤ S.length + 12 * (s.1 - w.Y0)) ∧ (∀ p, mhas p s.2.1 = true ↔ mhas p P = true ∨ (Cov w p ∧ p.Y < s.1)) ∧
      (∀ t, mhas t s.2.2.1 = true ↔ mhas t S = true ∨ (StW w t ∧ t.fb.Y < s.1)) ∧ (w.Y0 < s.1 → s.2.2.2.1 = w.Layer ∧ s.2.2.2.2.1 = w.X1 ∧ s.2.2.2.2.2 = s.1 - 1)) (fun s => (w.Y1 + 1 - s.1).toNat)
    ⟨by simp only; omega, ⟨hP, hS⟩, by simp only; omega, fun p => ⟨fun h => .inl h, fun h => h.elim id fun h => by unfold Cov at h; simp only at h; omega⟩, fun t => ⟨fun h => .inl h, fun h => h.elim id fun h => by unfold StW at h; simp only at h; omega⟩, fun h => by simp only at h; omega⟩ (by simp only; omega) ?_
  rintro ⟨y, pt, st, la, lb, lc⟩ ⟨hy1, hk, hlen, hpt, hst, hla⟩
  simp only at hy1 hk hlen hpt hst hla ⊢
  unfold P_extract_of_L8
  dsimp only
  refine ok_ite (fun hle => ?_) fun hgt => ok_some ⟨hk, by simp only; omega, fun p => ?_, fun t => ?_⟩
  · refine ok_bd (wx_ok hw hy1.1 hle hk.1 hk.2 (fun h => hla h)) ?_
    rintro ⟨pt', st', a, b, c⟩ ⟨k1, k2, k3, k4, k5, k6, k7⟩
    simp only at k1 k2 k3 k4 k5 k6 k7 ⊢
    refine ok_ar (by omega) (ok_some ⟨⟨by simp only; omega, k1, by simp only; omega, fun p => ?_, fun t => ?_, fun _ => ⟨k5, k6, by simp only; omega⟩⟩, by simp only; omega⟩)
    · simp only
      rw [k3, hpt]
      by_cases hz : mhas p P = true
      · simp only [hz, true_or]
      · simp only [hz, Bool.false_eq_true, false_or]
        unfold Cov
        constructor <;> intro h <;> omega
    · simp only
      rw [k4, hst]
      by_cases hz : mhas t S = true
      · simp only [hz, true_or]
      · simp only [hz, Bool.false_eq_true, false_or]
        unfold StW RowS
        constructor <;> intro h <;> omega
  · simp only
    rw [hpt]
    by_cases hz : mhas p P = true
    · simp only [hz, true_or]
    · simp only [hz, Bool.false_eq_true, false_or]
      unfold Cov
      constructor <;> intro h <;> omega
  · simp only
    rw [hst]
    by_cases hz : mhas t S = true
    · simp only [hz, true_or]
    · simp only [hz, Bool.false_eq_true, false_or]
      unfold StW
      constructor <;> intro h <;> omega
/-- What lies in a layout. -/
structure LayM (l : T_rules_Layout) : Prop where
  wires : l.Wires.length ≤ 20 ∧ ∀ w ∈ l.Wires, WireN w
  vias : l.Vias.length ≤ 20 ∧ ∀ v ∈ l.Vias, ViaN v
  pins : l.Pins.length ≤ 20 ∧ ∀ p ∈ l.Pins, (0 ≤ p.Net ∧ p.Net ≤ 2) ∧ (0 ≤ p.X ∧ p.X ≤ 11) ∧ (0 ≤ p.Y ∧ p.Y ≤ 11) ∧ (0 ≤ p.Size ∧ p.Size ≤ 100) ∧ (p.Drive = true → p.Size = 0)
structure LayN (l : T_rules_Layout) : Prop extends LayM l where
  size : l.W = 12 ∧ l.H = 12 ∧ l.Layers = 3 ∧ l.Nets = 3
  walls : l.Walls = []
def OfP (l : T_rules_Layout) (net : Int) (p : T_rules_Spot) : Prop := ∃ w ∈ l.Wires, w.Net = net ∧ Cov w p
def OfS (l : T_rules_Layout) (net : Int) (s : T_extract_step) : Prop := (∃ w ∈ l.Wires, w.Net = net ∧ StW w s) ∨ ∃ v ∈ l.Vias, v.Net = net ∧ StV v s
theorem mem_snoc_ex {β : Type} {xs : List β} {y : Nat} (hy : y < xs.length) {p : β → Prop} : (∃ w ∈ xs.take (y + 1), p w) ↔ (∃ w ∈ xs.take y, p w) ∨ p xs[y] := by
  rw [List.take_succ_eq_append_getElem hy]
  constructor
  · rintro ⟨w, hw, hp⟩
    rcases List.mem_append.1 hw with h | h
    · exact .inl ⟨w, h, hp⟩
    · rw [List.mem_singleton.1 h] at hp; exact .inr hp
  · rintro (⟨w, hw, hp⟩ | hp)
    · exact ⟨w, List.mem_append_left _ hw, hp⟩
    · exact ⟨_, List.mem_append_right _ (List.mem_singleton.2 rfl), hp⟩
theorem of_ok {l : T_rules_Layout} (hl : LayM l) (net : Int) : Ok (P_extract_of l net) (fun r => (Ks r.1 ∧ Ks r.2) ∧ (r.1.length ≤ 3000 ∧ r.2.length ≤ 3000) ∧ (∀ p, mhas p r.1 = true ↔ OfP l net p) ∧ ∀ s, mhas s r.2 = true ↔ OfS l net s) := by
  obtain ⟨wl, wN⟩ := hl.wires
  obtain ⟨vl, vN⟩ := hl.vias
  unfold P_extract_of
  refine ok_bd (R := fun r => (Ks r.1 ∧ Ks r.2) ∧ (r.1.length ≤ 2880 ∧ r.2.length ≤ 2880) ∧ (∀ p, mhas p r.1 = true ↔ OfP l net p) ∧ ∀ s, mhas s r.2 = true ↔ ∃ w ∈ l.Wires, w.Net = net ∧ StW w s) ?_ ?_
  · refine ok_lp (fun s => ∃ m : Nat, s.1 = m ∧ m ≤ l.Wires.length ∧ (Ks s.2.1 ∧ Ks s.2.2) ∧ (s.2.1.length ≤ 144 * m ∧ s.2.2.length ≤ 144 * m) ∧ (∀ p, mhas p s.2.1 = true ↔ ∃ w ∈ l.Wires.take m, w.Net = net ∧ Cov w p) ∧ ∀ t, mhas t s.2.2 = true ↔ ∃ w ∈ l.Wires.take m, w.Net = net ∧ StW w t) (fun s => ((l.Wires.length : Int) - s.1).toNat)
      ⟨0, rfl, Nat.zero_le _, ⟨Ks.nil, Ks.nil⟩, by simp, fun p => by simp [mhas_nil], fun t => by simp [mhas_nil]⟩ (by simp only; omega) ?_
    rintro ⟨y, pt, st⟩ ⟨m, rfl, hm, hk, hlen, hpt, hst⟩
    simp only at hk hlen hpt hst ⊢
    unfold P_extract_of_L3
    dsimp only
    refine ok_ite (fun hlt => ?_) fun hge => ok_some ?_
    · have hmb : m < l.Wires.length := by omega
      have hg : gt l.Wires (m : Int) = l.Wires[m] := gt_nth hmb
      have hw := wN _ (List.getElem_mem hmb)
      refine ok_bd (R := fun r => (Ks r.1 ∧ Ks r.2) ∧ (r.1.length ≤ 144 * (m + 1) ∧ r.2.length ≤ 144 * (m + 1)) ∧ (∀ p, mhas p r.1 = true ↔ ∃ w ∈ l.Wires.take (m + 1), w.Net = net ∧ Cov w p) ∧ ∀ t, mhas t r.2 = true ↔ ∃ w ∈ l.Wires.take (m + 1), w.Net = net ∧ StW w t) (ok_ck ⟨by omega, hlt⟩ (ok_lv ?_)) fun r hr => ok_ar (by omega) (ok_some ⟨⟨m + 1, by simp, by omega, hr⟩, by simp only; omega⟩)
      rw [hg]
      refine ok_ite (fun hn => ok_some ⟨hk, by simp only; omega, fun p => ?_, fun t => ?_⟩) fun hn => ok_bd (wire_ok hw hk.1 hk.2) ?_
      · rw [mem_snoc_ex hmb, hpt]; exact ⟨.inl, fun h => h.elim id fun h => absurd h.1 hn⟩
      · rw [mem_snoc_ex hmb, hst]; exact ⟨.inl, fun h => h.elim id fun h => absurd h.1 hn⟩
      · have hn : l.Wires[m].Net = net := Decidable.not_not.1 hn
        rintro ⟨pt', st'⟩ ⟨k1, k2, k3, k4⟩
        simp only at k1 k2 k3 k4 ⊢
        refine ok_some ⟨k1, by simp only; omega, fun p => ?_, fun t => ?_⟩
        · rw [mem_snoc_ex hmb, k3, hpt]; simp only [hn, true_and]
        · rw [mem_snoc_ex hmb, k4, hst]; simp only [hn, true_and]
    · have e : m = l.Wires.length := by omega
      subst e
      rw [List.take_length] at hpt hst
      exact ⟨hk, by simp only; omega, hpt, hst⟩
  rintro ⟨pt, st⟩ ⟨hk, hlen, hpt, hst⟩
  simp only at hk hlen hpt hst ⊢
  refine ok_bd (R := fun s => Ks s ∧ s.length ≤ 3000 ∧ ∀ t, mhas t s = true ↔ OfS l net t) ?_ fun s hs => ok_some ⟨⟨hk.1, hs.1⟩, ⟨by simp only; omega, hs.2.1⟩, hpt, hs.2.2⟩
  refine ok_lp (fun s => ∃ m : Nat, s.1 = m ∧ m ≤ l.Vias.length ∧ Ks s.2 ∧ s.2.length ≤ 2880 + m ∧ ∀ t, mhas t s.2 = true ↔ (∃ w ∈ l.Wires, w.Net = net ∧ StW w t) ∨ ∃ v ∈ l.Vias.take m, v.Net = net ∧ StV v t) (fun s => ((l.Vias.length : Int) - s.1).toNat)
    ⟨0, rfl, Nat.zero_le _, hk.2, by simp only; omega, fun t => by simp [hst]⟩ (by simp only; omega) ?_
  rintro ⟨y, st1⟩ ⟨m, rfl, hm, hk1, hlen1, hst1⟩
  simp only at hk1 hlen1 hst1 ⊢
  unfold P_extract_of_L20
  dsimp only
  refine ok_ite (fun hlt => ?_) fun hge => ok_some ?_
  · have hmb : m < l.Vias.length := by omega
    have hg : gt l.Vias (m : Int) = l.Vias[m] := gt_nth hmb
    have hv := vN _ (List.getElem_mem hmb)
    have hvl := hv.l
    refine ok_ck ⟨by omega, hlt⟩ (ok_lv ?_)
    rw [hg]
    refine ok_bd (R := fun s => Ks s ∧ s.length ≤ 2880 + (m + 1) ∧ ∀ t, mhas t s = true ↔ (∃ w ∈ l.Wires, w.Net = net ∧ StW w t) ∨ ∃ v ∈ l.Vias.take (m + 1), v.Net = net ∧ StV v t) (ok_ite (fun hn => ok_ar (by omega) (ok_lv (ok_some ⟨hk1.put, ?_, fun t => ?_⟩))) fun hn => ok_some ⟨hk1, by omega, fun t => ?_⟩) fun s hs => ok_ar (by omega) (ok_some ⟨⟨m + 1, by simp, by omega, hs⟩, by simp only; omega⟩)
    · exact Nat.le_trans mput_len (by omega)
    · rw [mem_snoc_ex hmb, has_mput, hst1, step_ext]
      have : (t.fa.Layer = l.Vias[m].Layer ∧ t.fa.X = l.Vias[m].X ∧ t.fa.Y = l.Vias[m].Y ∧ t.fb.Layer = l.Vias[m].Layer + 1 ∧ t.fb.X = l.Vias[m].X ∧ t.fb.Y = l.Vias[m].Y) ↔ (l.Vias[m].Net = net ∧ StV l.Vias[m] t) := by
        unfold StV
        constructor
        · intro h; exact ⟨hn, by omega⟩
        · rintro ⟨-, h⟩; omega
      rw [this]
      constructor
      · rintro (h | h | h)
        · exact .inr (.inr h)
        · exact .inl h
        · exact .inr (.inl h)
      · rintro (h | h | h)
        · exact .inr (.inl h)
        · exact .inr (.inr h)
        · exact .inl h
    · rw [mem_snoc_ex hmb, hst1]
      constructor
      · rintro (h | h)
        · exact .inl h
        · exact .inr (.inl h)
      · rintro (h | h | h)
        · exact .inl h
        · exact .inr h
        · exact absurd h.1 hn
  · have e : m = l.Vias.length := by omega
    subst e
    rw [List.take_length] at hst1
    exact ⟨hk1, by omega, hst1⟩
end Go.Proofs.Ytnnmbmgnpdcefaa.X
