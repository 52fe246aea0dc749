/- Which faults a layout has; the bag that collects them. Plain. -/
/- Shorts and walls. Plain. -/
/- Vias side by side. Plain. -/
/- Pieces of a layer that are too small. Plain. -/
import Derived.Test.YtnnmbmgnpdcefaaRA
namespace Go.Proofs.Ytnnmbmgnpdcefaa.X
open Go Go.RowKit
set_option linter.unusedVariables false
set_option linter.unusedSimpArgs false
set_option linter.unusedSectionVars false
theorem nodup_le {β : Type} [DecidableEq β] : ∀ {l m : List β}, l.Nodup → (∀ x ∈ l, x ∈ m) → l.length ≤ m.length
  | [], m, _, _ => Nat.zero_le _
  | a :: l, m, hn, hs => by
    obtain ⟨h1, h2⟩ := List.nodup_cons.1 hn
    have hm := hs a (by simp)
    have := nodup_le (l := l) (m := m.erase a) h2 fun x hx => by
      have hxa : x ≠ a := fun e => h1 (e ▸ hx)
      exact (List.mem_erase_of_ne hxa).2 (hs x (List.mem_cons_of_mem _ hx))
    rw [List.length_erase_of_mem hm] at this
    have hpos : 0 < m.length := List.length_pos_of_mem hm
    rw [List.length_cons]; omega
/-! the faults -/
def CovG (sh : List T_rules_shape) (g : T_rules_shape → List T_rules_Spot) (n : Int) (p : T_rules_Spot) : Prop := ∃ s ∈ sh, s.fnet = n ∧ p ∈ g s
def F1 (sh : List T_rules_shape) (f : T_rules_Fault) : Prop := ∃ n m p, n ≠ m ∧ CovG sh allS n p ∧ CovG sh allS m p ∧ f = ⟨1, min n m, max n m, p⟩
def Wl (w : T_floor_Wall) (p : T_rules_Spot) : Prop := p.Layer = w.Layer ∧ (w.X0 ≤ p.X ∧ p.X ≤ w.X1) ∧ w.Y0 ≤ p.Y ∧ p.Y ≤ w.Y1
def F2 (l : T_rules_Layout) (f : T_rules_Fault) : Prop := ∃ n p, CovG (shps l) allS n p ∧ (∃ w ∈ l.Walls, Wl w p) ∧ f = ⟨2, n, 0, p⟩
def vspot (v : T_rules_Via) : T_rules_Spot := ⟨v.Layer, v.X, v.Y⟩
def Beside (a b : T_rules_Spot) : Prop := b.Layer = a.Layer ∧ (b.X = a.X + 1 ∧ b.Y = a.Y ∨ b.X = a.X - 1 ∧ b.Y = a.Y + 1 ∨ b.X = a.X ∧ b.Y = a.Y + 1 ∨ b.X = a.X + 1 ∧ b.Y = a.Y + 1)
def F3 (l : T_rules_Layout) (f : T_rules_Fault) : Prop := ∃ v ∈ l.Vias, ∃ u ∈ l.Vias, Beside (vspot v) (vspot u) ∧ f = ⟨3, min v.Net u.Net, max v.Net u.Net, vspot v⟩
def F4 (l : T_rules_Layout) (f : T_rules_Fault) : Prop := ∃ ly n p, (1 ≤ ly ∧ ly < l.Layers) ∧ CovG (shps l) (onL ly) n p ∧ (∀ q, Conn (Adj (shps l) (onL ly) n) p q → q = p) ∧ f = ⟨4, n, 0, p⟩
def pspot (p : T_rules_Pin) : T_rules_Spot := ⟨0, p.X, p.Y⟩
def F5 (l : T_rules_Layout) (f : T_rules_Fault) : Prop := ∃ p ∈ l.Pins, ∃ q, l.Pins.find? (fun q => decide (q.Net = p.Net)) = some q ∧ ¬ Conn (Adj (shps l) allS p.Net) (pspot q) (pspot p) ∧ f = ⟨5, p.Net, 0, pspot p⟩
def F6 (l : T_rules_Layout) (f : T_rules_Fault) : Prop := ∃ n m, CovG (shps l) allS n m ∧ (∀ q, Conn (Adj (shps l) allS n) m q → befS q m = false) ∧ (∀ p ∈ l.Pins, p.Net = n → ¬ Conn (Adj (shps l) allS n) m (pspot p)) ∧ f = ⟨6, n, 0, m⟩
def Gate (p : T_rules_Pin) : Prop := p.Drive = false ∧ 0 < p.Size
/-- The wire of a net on the layers up to one. -/
def WireC (l : T_rules_Layout) (ly n : Int) (x : T_rules_Spot) : Prop := ∃ w ∈ l.Wires, w.Net = n ∧ x ∈ upL ly (shW w)
open Classical in
/-- The sizes of the gates of a net that are joined to a spot. -/
noncomputable def gsum (C : T_rules_Spot → Prop) (n : Int) : List T_rules_Pin → Int
  | [] => 0
  | p :: ps => (if Gate p ∧ p.Net = n ∧ C (pspot p) then p.Size else 0) + gsum C n ps
def F7 (l : T_rules_Layout) (f : T_rules_Fault) : Prop := ∃ ly, (0 ≤ ly ∧ ly < l.Layers) ∧ ∃ p ∈ l.Pins, Gate p ∧
  (∀ q ∈ l.Pins, Gate q → q.Net = p.Net → Conn (Adj (shps l) (upL ly) p.Net) (pspot p) (pspot q) → befS (pspot q) (pspot p) = false) ∧
  (∀ q ∈ l.Pins, q.Drive = true → q.Net = p.Net → ¬ Conn (Adj (shps l) (upL ly) p.Net) (pspot p) (pspot q)) ∧
  (∃ L : List T_rules_Spot, L.Nodup ∧ (∀ x, x ∈ L ↔ WireC l ly p.Net x ∧ Conn (Adj (shps l) (upL ly) p.Net) (pspot p) x) ∧ 64 * gsum (Conn (Adj (shps l) (upL ly) p.Net) (pspot p)) p.Net l.Pins < L.length) ∧
  f = ⟨7, p.Net, 0, ⟨ly, p.X, p.Y⟩⟩
def FS (l : T_rules_Layout) (f : T_rules_Fault) : Prop := F1 (shps l) f ∨ F2 l f ∨ F3 l f ∨ F4 l f ∨ F5 l f ∨ F6 l f ∨ F7 l f
/-! facts on the shapes -/
theorem shps_mem {l : T_rules_Layout} {s : T_rules_shape} : s ∈ shps l ↔ (∃ w ∈ l.Wires, s = shW w) ∨ (∃ v ∈ l.Vias, s = shV v) ∨ ∃ k : Nat, k < l.Pins.length ∧ s = shP k (gt l.Pins (k : Int)) := by
  unfold shps shPs
  simp only [List.mem_append, List.mem_map, List.mem_range]
  constructor
  · rintro ((⟨w, h, rfl⟩ | ⟨v, h, rfl⟩) | ⟨k, h, rfl⟩)
    · exact .inl ⟨w, h, rfl⟩
    · exact .inr (.inl ⟨v, h, rfl⟩)
    · exact .inr (.inr ⟨k, h, rfl⟩)
  · rintro (⟨w, h, rfl⟩ | ⟨v, h, rfl⟩ | ⟨k, h, rfl⟩)
    · exact .inl (.inl ⟨w, h, rfl⟩)
    · exact .inl (.inr ⟨v, h, rfl⟩)
    · exact .inr ⟨k, h, rfl⟩
section
variable {l : T_rules_Layout} (hl : LayR l)
include hl
theorem LayR.shLen : (shps l).length ≤ 21 := by
  have e1 := hl.wireL
  have e2 := hl.viaL
  have e3 := hl.pinL
  simp only [shps, shPs, List.length_append, List.length_map, List.length_range]; omega
theorem LayR.spots {s : T_rules_shape} (h : s ∈ shps l) : s.fspots.length ≤ 10 := by
  rcases shps_mem.1 h with ⟨w, hw, rfl⟩ | ⟨v, hv, rfl⟩ | ⟨k, hk, rfl⟩
  · exact wspots_len (All.mem.1 hl.wire w hw) hl.W.2 hl.H.2
  · simp [shV]
  · simp [shP]
theorem LayR.nets {s : T_rules_shape} (h : s ∈ shps l) : 0 ≤ s.fnet ∧ s.fnet < 4 := by
  have hN := hl.N
  rcases shps_mem.1 h with ⟨w, hw, rfl⟩ | ⟨v, hv, rfl⟩ | ⟨k, hk, rfl⟩
  · have := (All.mem.1 hl.wire w hw).net; simp only [shW]; omega
  · have := (All.mem.1 hl.via v hv).net; simp only [shV]; omega
  · have := (hl.pin k ⟨by omega, by omega⟩).net; simp only [shP]; omega
theorem LayR.some {s : T_rules_shape} (h : s ∈ shps l) : s.fspots ≠ [] := by
  rcases shps_mem.1 h with ⟨w, hw, rfl⟩ | ⟨v, hv, rfl⟩ | ⟨k, hk, rfl⟩
  · have h := All.mem.1 hl.wire w hw
    have a := h.x
    have b := h.y
    have : (⟨w.Layer, w.X0, w.Y0⟩ : T_rules_Spot) ∈ wspots w := mem_wspots.2 ⟨rfl, by dsimp only; omega, by dsimp only; omega, by dsimp only; omega, by dsimp only; omega⟩
    exact List.ne_nil_of_mem this
  · simp [shV]
  · simp [shP]
end
/-! few faults -/
def allU (l : T_rules_Layout) : List (Int × T_rules_Spot) := (shps l).flatMap fun s => s.fspots.map fun p => (s.fnet, p)
def allB (x : Int × T_rules_Spot) : List T_rules_Fault :=
  [⟨2, x.1, 0, x.2⟩, ⟨4, x.1, 0, x.2⟩, ⟨5, x.1, 0, x.2⟩, ⟨6, x.1, 0, x.2⟩] ++ ([0, 1, 2, 3] : List Int).flatMap (fun m => [⟨1, min x.1 m, max x.1 m, x.2⟩, ⟨3, min x.1 m, max x.1 m, x.2⟩]) ++ ([0, 1, 2, 3] : List Int).map fun ly => ⟨7, x.1, 0, ⟨ly, x.2.X, x.2.Y⟩⟩
theorem four {m : Int} (h : 0 ≤ m ∧ m < 4) : m ∈ ([0, 1, 2, 3] : List Int) := by
  simp only [List.mem_cons, List.not_mem_nil, or_false]; omega
theorem mem_allU {l : T_rules_Layout} {n : Int} {p : T_rules_Spot} (h : CovG (shps l) allS n p) : (n, p) ∈ allU l := by
  obtain ⟨s, hs, rfl, hp⟩ := h
  exact List.mem_flatMap.2 ⟨s, hs, List.mem_map.2 ⟨p, hp, rfl⟩⟩
theorem CovG.all {sh : List T_rules_shape} {v n : Int} {p : T_rules_Spot} (h : CovG sh (onL v) n p) : CovG sh allS n p := by
  obtain ⟨s, hs, hn, hp⟩ := h
  exact ⟨s, hs, hn, (List.mem_filter.1 hp).1⟩
theorem cov_pin {l : T_rules_Layout} {p : T_rules_Pin} (h : p ∈ l.Pins) : CovG (shps l) allS p.Net (pspot p) := by
  obtain ⟨k, hk, rfl⟩ := List.getElem_of_mem h
  refine ⟨shP k (gt l.Pins (k : Int)), shps_mem.2 (.inr (.inr ⟨k, hk, rfl⟩)), ?_, ?_⟩ <;> rw [gt_nth hk]
  · rfl
  · simp [allS, shP, pspot]
theorem cov_via {l : T_rules_Layout} {v : T_rules_Via} (h : v ∈ l.Vias) : CovG (shps l) allS v.Net (vspot v) :=
  ⟨shV v, shps_mem.2 (.inr (.inl ⟨v, h, rfl⟩)), rfl, by simp [allS, shV, vspot]⟩
theorem FS.mem {l : T_rules_Layout} (hl : LayR l) {f : T_rules_Fault} (h : FS l f) : f ∈ (allU l).flatMap allB := by
  have hcov : ∀ {n p}, CovG (shps l) allS n p → 0 ≤ n ∧ n < 4 := fun h => by
    obtain ⟨s, hs, rfl, _⟩ := h; exact hl.nets hs
  have hLy := hl.Ly
  rcases h with h | h | h | h | h | h | h
  · obtain ⟨n, m, p, _, h1, h2, rfl⟩ := h
    refine List.mem_flatMap.2 ⟨(n, p), mem_allU h1, ?_⟩
    exact List.mem_append_left _ (List.mem_append_right _ (List.mem_flatMap.2 ⟨m, four (hcov h2), by simp⟩))
  · obtain ⟨n, p, h1, _, rfl⟩ := h
    exact List.mem_flatMap.2 ⟨(n, p), mem_allU h1, List.mem_append_left _ (List.mem_append_left _ (by simp))⟩
  · obtain ⟨v, hv, u, hu, _, rfl⟩ := h
    refine List.mem_flatMap.2 ⟨(v.Net, vspot v), mem_allU (cov_via hv), ?_⟩
    exact List.mem_append_left _ (List.mem_append_right _ (List.mem_flatMap.2 ⟨u.Net, four (hcov (cov_via hu)), by simp⟩))
  · obtain ⟨ly, n, p, _, h1, _, rfl⟩ := h
    exact List.mem_flatMap.2 ⟨(n, p), mem_allU h1.all, List.mem_append_left _ (List.mem_append_left _ (by simp))⟩
  · obtain ⟨p, hp, q, _, _, rfl⟩ := h
    exact List.mem_flatMap.2 ⟨(p.Net, pspot p), mem_allU (cov_pin hp), List.mem_append_left _ (List.mem_append_left _ (by simp))⟩
  · obtain ⟨n, m, h1, _, _, rfl⟩ := h
    exact List.mem_flatMap.2 ⟨(n, m), mem_allU h1, List.mem_append_left _ (List.mem_append_left _ (by simp))⟩
  · obtain ⟨ly, hly, p, hp, _, _, _, _, rfl⟩ := h
    refine List.mem_flatMap.2 ⟨(p.Net, pspot p), mem_allU (cov_pin hp), ?_⟩
    exact List.mem_append_right _ (List.mem_map.2 ⟨ly, four ⟨hly.1, by omega⟩, rfl⟩)
theorem few {l : T_rules_Layout} (hl : LayR l) {L : List T_rules_Fault} (hn : L.Nodup) (h : ∀ f ∈ L, FS l f) : L.length < 10000 := by
  have h1 := nodup_le hn fun f hf => (h f hf).mem hl
  have h2 : ((allU l).flatMap allB).length ≤ (allU l).length * 16 := flat_len fun x _ => by simp [allB]
  have h3 : (allU l).length ≤ (shps l).length * 10 := flat_len fun s hs => by rw [List.length_map]; exact hl.spots hs
  have h4 := hl.shLen
  omega
/-! the bag -/
def Bag (F : T_rules_Fault → Prop) (seen : List (T_rules_Fault × Bool)) : Prop := Ks seen ∧ (∀ f, mhas f seen = true ↔ F f) ∧ ∀ f, mhas f seen = true → mget f seen false = true
theorem Bag.congr {F G : T_rules_Fault → Prop} {seen : List (T_rules_Fault × Bool)} (h : Bag F seen) (e : ∀ f, F f ↔ G f) : Bag G seen := ⟨h.1, fun f => (h.2.1 f).trans (e f), h.2.2⟩
theorem Bag.nil : Bag (fun _ => False) [] := ⟨Ks.nil, fun f => by simp [mhas, mfind], fun f h => by simp [mhas, mfind] at h⟩
section
variable {l : T_rules_Layout} (hl : LayR l)
include hl
theorem add_ok {F : T_rules_Fault → Prop} {seen : List (T_rules_Fault × Bool)} (h : Bag F seen) (hF : ∀ f, F f → FS l f) {f : T_rules_Fault} (hf : FS l f) :
    Ok (P_rules_bag_add seen false f) (fun r => r.2 = false ∧ Bag (fun x => F x ∨ x = f) r.1) := by
  obtain ⟨h1, h2, h3⟩ := h
  have hlt : seen.length < 10000 := by
    have := few hl (L := List.map (fun e : T_rules_Fault × Bool => e.1) seen) h1 fun x hx => hF x ((h2 x).1 (mhas_mem.2 hx))
    simpa using this
  unfold P_rules_bag_add
  refine ok_lv (ok_lv (ok_f ?_ (ok_lv (ok_some ⟨rfl, h1.put, fun x => ?_, fun x hx => ?_⟩))))
  · simp only [Bool.and_eq_true, decide_eq_true_eq, not_and]; intro _; omega
  · dsimp only
    rw [has_mput, h2]
    constructor
    · rintro (h | h)
      · exact .inr h
      · exact .inl h
    · rintro (h | h)
      · exact .inr h
      · exact .inl h
  · dsimp only at hx ⊢
    rw [mget_mput]
    rw [has_mput] at hx
    split
    · rfl
    · rename_i q; exact h3 x (hx.resolve_left q)
/-- The same, with what comes behind. -/
theorem add_bd {β : Type} {F : T_rules_Fault → Prop} {seen : List (T_rules_Fault × Bool)} (h : Bag F seen) (hF : ∀ f, F f → FS l f) {f : T_rules_Fault} (hf : FS l f) {k : List (T_rules_Fault × Bool) × Bool → Option β} {Q : β → Prop} (hk : ∀ s, Bag (fun x => F x ∨ x = f) s → Ok (k (s, false)) Q) : Ok (bd (P_rules_bag_add seen false f) k) Q :=
  ok_bd (add_ok hl h hF hf) fun r hr => by
    obtain ⟨s, b⟩ := r
    obtain ⟨e, hb⟩ := hr
    dsimp only at e hb
    subst e
    exact hk s hb
end
end Go.Proofs.Ytnnmbmgnpdcefaa.X
namespace Go.Proofs.Ytnnmbmgnpdcefaa.X
open Go Go.RowKit
set_option linter.unusedVariables false
set_option linter.unusedSimpArgs false
set_option linter.unusedSectionVars false
theorem mem_take {β : Type} [Inhabited β] {xs : List β} {y : Int} (h : inb y xs.length) {x : β} : x ∈ xs.take (y + 1).toNat ↔ x ∈ xs.take y.toNat ∨ x = gt xs y := by
  rw [take_snoc h]; simp
theorem contains_ok {s : List Int} (hs : s.length ≤ 1000) (v : Int) : Ok (P_slices_Contains_int_int s v) (fun r => r = decide (v ∈ s)) := by
  unfold P_slices_Contains_int_int
  refine ok_bd (R := fun r => 0 ≤ r ∧ v ∈ s ∨ r = -1 ∧ v ∉ s) ?_ (fun r hr => ok_some ?_)
  · unfold P_slices_Index_int_int
    refine ok_bs (R := fun o => match o with | .inl _ => v ∉ s | .inr r => 0 ≤ r ∧ v ∈ s) ?_ (fun _ h => ok_some (.inr ⟨rfl, h⟩)) (fun r h => ok_some (.inl h))
    refine ok_lp (fun y => 0 ≤ y ∧ v ∉ s.take y.toNat) (fun y => ((s.length : Int) - y).toNat) ⟨by omega, by simp⟩ (by omega) ?_
    rintro y ⟨y0, hy⟩
    unfold P_slices_Index_int_int_L2
    refine ok_ite (fun hlt => ok_ck ⟨y0, hlt⟩ (ok_lv (ok_ite (fun e => ok_some ⟨y0, by rw [e]; exact gt_mem ⟨y0, hlt⟩⟩) (fun e => ok_ar (by unfold I64; omega) (ok_some ⟨⟨by omega, ?_⟩, by omega⟩))))) (fun hge => ok_some ?_)
    · rw [mem_take ⟨y0, hlt⟩]; rintro (h | h)
      · exact hy h
      · exact e h
    · rwa [List.take_of_length_le (by omega)] at hy
  · rcases hr with ⟨h1, h2⟩ | ⟨h1, h2⟩
    · simp [h1, h2]
    · subst h1; simp [h2]
theorem few_nets {s : List Int} (hn : s.Nodup) (h : ∀ n ∈ s, 0 ≤ n ∧ n < 4) : s.length ≤ 4 := nodup_le hn fun n hm => four (h n hm)
def F1D (D : Int → T_rules_Spot → Prop) (f : T_rules_Fault) : Prop := ∃ n m p, n ≠ m ∧ D n p ∧ D m p ∧ f = ⟨1, min n m, max n m, p⟩
/-- What is known of the spots that came. -/
structure ShI (l : T_rules_Layout) (F : T_rules_Fault → Prop) (nets : List (T_rules_Spot × List Int)) (seen : List (T_rules_Fault × Bool)) (D : Int → T_rules_Spot → Prop) : Prop where
  mem : ∀ p n, n ∈ mget p nets [] ↔ D n p
  nd : ∀ p, (mget p nets []).Nodup
  bag : Bag (fun f => F f ∨ F1D D f) seen
  cov : ∀ n p, D n p → CovG (shps l) allS n p
theorem ShI.congr {l : T_rules_Layout} {F : T_rules_Fault → Prop} {nets : List (T_rules_Spot × List Int)} {seen : List (T_rules_Fault × Bool)} {D D' : Int → T_rules_Spot → Prop} (h : ShI l F nets seen D) (e : ∀ n p, D n p ↔ D' n p) : ShI l F nets seen D' := by
  have : D = D' := by funext n p; exact propext (e n p)
  rw [← this]; exact h
theorem within_eq {n a b : Int} : P_rules_within n a b = some (decide (a ≤ n) && decide (n ≤ b)) := by
  unfold P_rules_within lv; rfl
section
variable {l : T_rules_Layout} (hl : LayR l) {F : T_rules_Fault → Prop} (hF : ∀ f, F f → FS l f)
include hl hF
theorem short10_ok {s : T_rules_shape} {p : T_rules_Spot} {rows : List Int} (hlen : rows.length ≤ 1000) (hn : CovG (shps l) allS s.fnet p) (hr : ∀ m ∈ rows, m ≠ s.fnet ∧ CovG (shps l) allS m p) {seen : List (T_rules_Fault × Bool)} (hB : Bag F seen) :
    Ok (lp (P_rules_shorts_L10 s p rows) fuel (0, seen, false)) (fun o => ∃ x, o = .inl x ∧ x.2 = false ∧ Bag (fun f => F f ∨ ∃ m ∈ rows, f = ⟨1, min m s.fnet, max m s.fnet, p⟩) x.1) := by
  refine ok_lp (fun q => (0 ≤ q.1 ∧ q.1 ≤ rows.length) ∧ q.2.2 = false ∧ Bag (fun f => F f ∨ ∃ m ∈ rows.take q.1.toNat, f = ⟨1, min m s.fnet, max m s.fnet, p⟩) q.2.1) (fun q => ((rows.length : Int) - q.1).toNat) ⟨⟨by simp, by simp⟩, rfl, hB.congr fun f => by simp⟩ (by simp only; omega) ?_
  rintro ⟨y, sn, b⟩ ⟨⟨y0, y1⟩, rfl, hb⟩
  dsimp only at y0 y1 hb
  unfold P_rules_shorts_L10
  dsimp only
  refine ok_ite (fun hlt => ok_ck ⟨y0, hlt⟩ (ok_lv (ok_lv (ok_lv ?_)))) (fun hge => ok_some ⟨_, rfl, rfl, ?_⟩)
  · have key : ∀ m ∈ rows, FS l ⟨1, min m s.fnet, max m s.fnet, p⟩ := fun m hm => .inl ⟨m, s.fnet, p, (hr m hm).1, (hr m hm).2, hn, rfl⟩
    refine add_bd hl hb (fun f h => ?_) (key _ (gt_mem ⟨y0, hlt⟩)) fun sn' hs => ok_f (by simp) (ok_ar (by unfold I64; omega) (ok_some ⟨⟨⟨by dsimp only; omega, by dsimp only; omega⟩, rfl, hs.congr fun f => ?_⟩, by dsimp only; omega⟩))
    · rcases h with h | ⟨m, hm, rfl⟩
      · exact hF f h
      · exact key m (List.mem_of_mem_take hm)
    · dsimp only
      constructor
      · rintro ((h | ⟨m, hm, e⟩) | e)
        · exact .inl h
        · exact .inr ⟨m, (mem_take ⟨y0, hlt⟩).2 (.inl hm), e⟩
        · exact .inr ⟨_, (mem_take ⟨y0, hlt⟩).2 (.inr rfl), e⟩
      · rintro (h | ⟨m, hm, e⟩)
        · exact .inl (.inl h)
        · rcases (mem_take ⟨y0, hlt⟩).1 hm with h | rfl
          · exact .inl (.inr ⟨m, h, e⟩)
          · exact .inr e
  · rw [List.take_of_length_le (by omega)] at hb; exact hb
theorem short6_ok {s : T_rules_shape} (hs : s ∈ shps l) {nets : List (T_rules_Spot × List Int)} {seen : List (T_rules_Fault × Bool)} {D : Int → T_rules_Spot → Prop} (hI : ShI l F nets seen D) :
    Ok (lp (P_rules_shorts_L6 s) fuel (nets, 0, seen, false)) (fun o => ∃ x, o = .inl x ∧ x.2.2 = false ∧ ShI l F x.1 x.2.1 (fun n p => D n p ∨ n = s.fnet ∧ p ∈ s.fspots)) := by
  have hlen := hl.spots hs
  refine ok_lp (fun q => (0 ≤ q.2.1 ∧ q.2.1 ≤ s.fspots.length) ∧ q.2.2.2 = false ∧ ShI l F q.1 q.2.2.1 (fun n p => D n p ∨ n = s.fnet ∧ p ∈ s.fspots.take q.2.1.toNat)) (fun q => ((s.fspots.length : Int) - q.2.1).toNat) ⟨⟨by simp, by simp⟩, rfl, hI.congr fun n p => by simp⟩ (by simp only; omega) ?_
  rintro ⟨nt, y, sn, b⟩ ⟨⟨y0, y1⟩, rfl, hI⟩
  dsimp only at y0 y1 hI
  unfold P_rules_shorts_L6
  dsimp only
  refine ok_ite (fun hlt => ?_) (fun hge => ok_some ⟨_, rfl, rfl, hI.congr fun n p => by rw [List.take_of_length_le (by omega)]⟩)
  have hy : inb y s.fspots.length := ⟨y0, hlt⟩
  have hpm : gt s.fspots y ∈ s.fspots := gt_mem hy
  have hcov : CovG (shps l) allS s.fnet (gt s.fspots y) := ⟨s, hs, rfl, hpm⟩
  have hnet := hl.nets hs
  have hDn : ∀ n p, (D n p ∨ n = s.fnet ∧ p ∈ s.fspots.take (y + 1).toNat) ↔ (D n p ∨ n = s.fnet ∧ p ∈ s.fspots.take y.toNat) ∨ n = s.fnet ∧ p = gt s.fspots y := fun n p => by
    rw [mem_take hy]
    constructor
    · rintro (h | ⟨h, h1 | h1⟩)
      · exact .inl (.inl h)
      · exact .inl (.inr ⟨h, h1⟩)
      · exact .inr ⟨h, h1⟩
    · rintro ((h | ⟨h, h1⟩) | ⟨h, h1⟩)
      · exact .inl h
      · exact .inr ⟨h, .inl h1⟩
      · exact .inr ⟨h, .inr h1⟩
  have hrow : ∀ m ∈ mget (gt s.fspots y) nt [], CovG (shps l) allS m (gt s.fspots y) := fun m hm => hI.cov _ _ ((hI.mem _ _).1 hm)
  have hrl : (mget (gt s.fspots y) nt []).length ≤ 4 := few_nets (hI.nd _) fun m hm => by
    obtain ⟨s', h1, rfl, _⟩ := hrow m hm; exact hl.nets h1
  refine ok_bs1 (R := fun x => x.2.2 = false ∧ ShI l F x.1 x.2.1 (fun n p => D n p ∨ n = s.fnet ∧ p ∈ s.fspots.take (y + 1).toNat)) ?_ ?_
  · refine ok_ck hy (ok_lv (ok_lv (ok_bd (contains_ok (by omega) _) ?_)))
    rintro _ rfl
    refine ok_ite (fun hc => ok_some ⟨_, rfl, rfl, hI.congr fun n p => ?_⟩) (fun hc => ?_)
    · rw [hDn]
      refine ⟨fun h => .inl h, fun h => ?_⟩
      rcases h with h | ⟨rfl, rfl⟩
      · exact h
      · exact (hI.mem _ _).1 (by simpa using hc)
    · have hno : s.fnet ∉ mget (gt s.fspots y) nt [] := by simpa using hc
      refine ok_bs1 (short10_ok hl (F := fun f => F f ∨ F1D (fun n p => D n p ∨ n = s.fnet ∧ p ∈ s.fspots.take y.toNat) f) (fun f h => ?_) (by omega) hcov (fun m hm => ⟨fun e => hno (e ▸ hm), hrow m hm⟩) hI.bag) ?_
      · rcases h with h | ⟨n, m, p, h1, h2, h3, h4⟩
        · exact hF f h
        · exact .inl ⟨n, m, p, h1, hI.cov _ _ h2, hI.cov _ _ h3, h4⟩
      rintro ⟨sn', b'⟩ ⟨rfl, hb⟩
      dsimp only at hb
      refine ok_lv (ok_lv (ok_ck (by simp only [apOk, List.length_append, List.length_singleton]; omega) (ok_lv (ok_some ⟨_, rfl, rfl, ?_⟩))))
      dsimp only
      refine ⟨fun p n => ?_, fun p => ?_, hb.congr fun f => ?_, fun n p h => ?_⟩
      · rw [mget_mput, hDn]
        by_cases e : p = gt s.fspots y
        · rw [if_pos e, List.mem_append, List.mem_singleton, ← e, hI.mem]
          exact ⟨fun h => h.elim .inl fun h => .inr ⟨h, rfl⟩, fun h => h.elim .inl fun h => .inr h.1⟩
        · rw [if_neg e, mget_mput, if_neg e, hI.mem]
          exact ⟨.inl, fun h => h.elim id fun h => absurd h.2 e⟩
      · rw [mget_mput]
        by_cases e : p = gt s.fspots y
        · rw [if_pos e]
          exact List.nodup_append.2 ⟨hI.nd _, by simp, fun a ha b hb' => by simp at hb'; subst hb'; exact fun e => hno (e ▸ ha)⟩
        · rw [if_neg e, mget_mput, if_neg e]; exact hI.nd p
      · constructor
        · rintro ((h | ⟨n, m, p, h1, h2, h3, h4⟩) | ⟨m, hm, e⟩)
          · exact .inl h
          · exact .inr ⟨n, m, p, h1, (hDn _ _).2 (.inl h2), (hDn _ _).2 (.inl h3), h4⟩
          · exact .inr ⟨m, s.fnet, gt s.fspots y, fun e => hno (e ▸ hm), (hDn _ _).2 (.inl ((hI.mem _ _).1 hm)), (hDn _ _).2 (.inr ⟨rfl, rfl⟩), e⟩
        · rintro (h | ⟨n, m, p, h1, h2, h3, h4⟩)
          · exact .inl (.inl h)
          · rcases (hDn _ _).1 h2 with h2 | ⟨e1, e2⟩
            · rcases (hDn _ _).1 h3 with h3 | ⟨e1, e2⟩
              · exact .inl (.inr ⟨n, m, p, h1, h2, h3, h4⟩)
              · subst e1 e2; exact .inr ⟨n, (hI.mem _ _).2 h2, h4⟩
            · rcases (hDn _ _).1 h3 with h3 | ⟨e3, e4⟩
              · subst e1 e2
                refine .inr ⟨m, (hI.mem _ _).2 h3, ?_⟩
                rw [h4, Int.min_comm, Int.max_comm]
              · exact absurd (e1.trans e3.symm) h1
      · rcases (hDn _ _).1 h with h | ⟨e1, e2⟩
        · exact hI.cov _ _ h
        · subst e1 e2; exact hcov
  · rintro ⟨nt', sn', b'⟩ ⟨rfl, hI'⟩
    exact ok_ar (by unfold I64; omega) (ok_some ⟨⟨⟨by dsimp only; omega, by dsimp only; omega⟩, rfl, hI'⟩, by dsimp only; omega⟩)
theorem shorts_ok {seen : List (T_rules_Fault × Bool)} (hB : Bag F seen) : Ok (P_rules_shorts seen false l (shps l)) (fun r => r.2 = false ∧ Bag (fun f => F f ∨ F1 (shps l) f) r.1) := by
  have hsl := hl.shLen
  unfold P_rules_shorts
  refine ok_bs1 (R := fun x => x.2 = false ∧ Bag (fun f => F f ∨ F1 (shps l) f) x.1) ?_ (fun x hx => ok_some hx)
  refine ok_lp (fun q => (0 ≤ q.2.1 ∧ q.2.1 ≤ (shps l).length) ∧ q.2.2.2 = false ∧ ShI l F q.1 q.2.2.1 (fun n p => CovG ((shps l).take q.2.1.toNat) allS n p)) (fun q => (((shps l).length : Int) - q.2.1).toNat) ⟨⟨by simp, by simp⟩, rfl, ?_⟩ (by simp only; omega) ?_
  · refine ⟨fun p n => ?_, fun p => ?_, hB.congr fun f => ?_, fun n p h => ?_⟩
    · simp [mget, mfind, CovG]
    · simp [mget, mfind]
    · simp [F1D, CovG]
    · simp [CovG] at h
  rintro ⟨nt, y, sn, b⟩ ⟨⟨y0, y1⟩, rfl, hI⟩
  dsimp only at y0 y1 hI
  unfold P_rules_shorts_L3
  dsimp only
  refine ok_ite (fun hlt => ?_) (fun hge => ok_some ⟨_, rfl, rfl, ?_⟩)
  · have hy : inb y (shps l).length := ⟨y0, hlt⟩
    refine ok_ck hy (ok_lv (ok_bs1 (short6_ok hl hF (gt_mem hy) hI) ?_))
    rintro ⟨nt', sn', b'⟩ ⟨rfl, hI'⟩
    refine ok_ar (by unfold I64; omega) (ok_some ⟨⟨⟨by dsimp only; omega, by dsimp only; omega⟩, rfl, hI'.congr fun n p => ?_⟩, by dsimp only; omega⟩)
    dsimp only
    constructor
    · rintro (⟨s, h1, h2, h3⟩ | ⟨rfl, h⟩)
      · exact ⟨s, (mem_take hy).2 (.inl h1), h2, h3⟩
      · exact ⟨_, (mem_take hy).2 (.inr rfl), rfl, h⟩
    · rintro ⟨s, h1, h2, h3⟩
      rcases (mem_take hy).1 h1 with h1 | rfl
      · exact .inl ⟨s, h1, h2, h3⟩
      · exact .inr ⟨h2.symm, h3⟩
  · rw [List.take_of_length_le (by omega)] at hI
    exact hI.bag
/-! walls -/
theorem wall8_ok {s : T_rules_shape} {p : T_rules_Spot} (hn : CovG (shps l) allS s.fnet p) {seen : List (T_rules_Fault × Bool)} (hB : Bag F seen) :
    Ok (lp (P_rules_walled_L8 l s p) fuel (0, seen, false)) (fun x => x.2 = false ∧ Bag (fun f => F f ∨ (∃ w ∈ l.Walls, Wl w p) ∧ f = ⟨2, s.fnet, 0, p⟩) x.1) := by
  have hwl := hl.wallL
  refine ok_lp (fun q => (0 ≤ q.1 ∧ q.1 ≤ l.Walls.length) ∧ q.2.2 = false ∧ Bag (fun f => F f ∨ (∃ w ∈ l.Walls.take q.1.toNat, Wl w p) ∧ f = ⟨2, s.fnet, 0, p⟩) q.2.1) (fun q => ((l.Walls.length : Int) - q.1).toNat) ⟨⟨by simp, by simp⟩, rfl, hB.congr fun f => by simp⟩ (by simp only; omega) ?_
  rintro ⟨y, sn, b⟩ ⟨⟨y0, y1⟩, rfl, hb⟩
  dsimp only at y0 y1 hb
  unfold P_rules_walled_L8
  dsimp only
  refine ok_ite (fun hlt => ok_ck ⟨y0, hlt⟩ (ok_lv ?_)) (fun hge => ok_some ⟨rfl, ?_⟩)
  · have hy : inb y l.Walls.length := ⟨y0, hlt⟩
    have hgd : ∀ (q : Bool) (a b c : Int), gd q (P_rules_within a b c) = some (if q = true then (decide (b ≤ a) && decide (a ≤ c)) else default) := fun q a b c => by
      rw [within_eq]; cases q <;> rfl
    rw [hgd]
    refine ok_bd (R := fun r => r = _) (ok_some rfl) ?_
    rintro _ rfl
    refine ok_lv ?_
    rw [hgd]
    refine ok_bd (R := fun r => r = _) (ok_some rfl) ?_
    rintro _ rfl
    refine ok_lv (ok_bd (R := fun q => q.2 = false ∧ Bag (fun f => F f ∨ (∃ w ∈ l.Walls.take (y + 1).toNat, Wl w p) ∧ f = ⟨2, s.fnet, 0, p⟩) q.1) (ok_ite (fun hc => ?_) (fun hc => ok_some ⟨rfl, hb.congr fun f => ?_⟩)) ?_)
    · have hw : Wl (gt l.Walls y) p := by
        simp only [Bool.and_eq_true, decide_eq_true_eq] at hc
        obtain ⟨⟨h1, h2⟩, h3⟩ := hc
        simp only [h1, decide_true, if_true, Bool.and_eq_true, decide_eq_true_eq, Bool.true_and] at h2 h3
        simp only [h2, decide_true, Bool.and_self, and_self, if_true, Bool.and_eq_true, decide_eq_true_eq] at h3
        exact ⟨h1, h2, h3⟩
      have hfs : ∀ w ∈ l.Walls, Wl w p → FS l ⟨2, s.fnet, 0, p⟩ := fun w hw hwp => .inr (.inl ⟨s.fnet, p, hn, ⟨w, hw, hwp⟩, rfl⟩)
      refine add_bd hl hb (fun f h => ?_) (hfs _ (gt_mem hy) hw) fun sn' hs => ok_some ⟨rfl, hs.congr fun f => ?_⟩
      · rcases h with h | ⟨⟨w, hw, hwp⟩, rfl⟩
        · exact hF f h
        · exact hfs w (List.mem_of_mem_take hw) hwp
      · constructor
        · rintro ((h | ⟨⟨w, h1, h2⟩, e⟩) | e)
          · exact .inl h
          · exact .inr ⟨⟨w, (mem_take hy).2 (.inl h1), h2⟩, e⟩
          · exact .inr ⟨⟨_, (mem_take hy).2 (.inr rfl), hw⟩, e⟩
        · rintro (h | ⟨_, e⟩)
          · exact .inl (.inl h)
          · exact .inr e
    · have hw : ¬ Wl (gt l.Walls y) p := fun ⟨h1, h2, h3⟩ => hc (by simp [h1, h2, h3])
      constructor
      · rintro (h | ⟨⟨w, h1, h2⟩, e⟩)
        · exact .inl h
        · exact .inr ⟨⟨w, (mem_take hy).2 (.inl h1), h2⟩, e⟩
      · rintro (h | ⟨⟨w, h1, h2⟩, e⟩)
        · exact .inl h
        · rcases (mem_take hy).1 h1 with h1 | rfl
          · exact .inr ⟨⟨w, h1, h2⟩, e⟩
          · exact absurd h2 hw
    · rintro ⟨sn', b'⟩ ⟨rfl, hb'⟩
      exact ok_ar (by unfold I64; omega) (ok_some ⟨⟨⟨by dsimp only; omega, by dsimp only; omega⟩, rfl, hb'⟩, by dsimp only; omega⟩)
  · rw [List.take_of_length_le (by omega)] at hb; exact hb
theorem wall5_ok {s : T_rules_shape} (hs : s ∈ shps l) {seen : List (T_rules_Fault × Bool)} (hB : Bag F seen) :
    Ok (lp (P_rules_walled_L5 l s) fuel (0, seen, false)) (fun x => x.2 = false ∧ Bag (fun f => F f ∨ ∃ p ∈ s.fspots, (∃ w ∈ l.Walls, Wl w p) ∧ f = ⟨2, s.fnet, 0, p⟩) x.1) := by
  have hlen := hl.spots hs
  refine ok_lp (fun q => (0 ≤ q.1 ∧ q.1 ≤ s.fspots.length) ∧ q.2.2 = false ∧ Bag (fun f => F f ∨ ∃ p ∈ s.fspots.take q.1.toNat, (∃ w ∈ l.Walls, Wl w p) ∧ f = ⟨2, s.fnet, 0, p⟩) q.2.1) (fun q => ((s.fspots.length : Int) - q.1).toNat) ⟨⟨by simp, by simp⟩, rfl, hB.congr fun f => by simp⟩ (by simp only; omega) ?_
  rintro ⟨y, sn, b⟩ ⟨⟨y0, y1⟩, rfl, hb⟩
  dsimp only at y0 y1 hb
  unfold P_rules_walled_L5
  dsimp only
  refine ok_ite (fun hlt => ok_ck ⟨y0, hlt⟩ (ok_lv ?_)) (fun hge => ok_some ⟨rfl, ?_⟩)
  · have hy : inb y s.fspots.length := ⟨y0, hlt⟩
    refine ok_bd (wall8_ok hl (F := fun f => F f ∨ ∃ p ∈ s.fspots.take y.toNat, (∃ w ∈ l.Walls, Wl w p) ∧ f = ⟨2, s.fnet, 0, p⟩) (fun f h => ?_) ⟨s, hs, rfl, gt_mem hy⟩ hb) ?_
    · rcases h with h | ⟨p, hp, hw, rfl⟩
      · exact hF f h
      · exact .inr (.inl ⟨s.fnet, p, ⟨s, hs, rfl, List.mem_of_mem_take hp⟩, hw, rfl⟩)
    rintro ⟨sn', b'⟩ ⟨rfl, hb'⟩
    refine ok_ar (by unfold I64; omega) (ok_some ⟨⟨⟨by dsimp only; omega, by dsimp only; omega⟩, rfl, hb'.congr fun f => ?_⟩, by dsimp only; omega⟩)
    dsimp only
    constructor
    · rintro ((h | ⟨p, h1, h2⟩) | h2)
      · exact .inl h
      · exact .inr ⟨p, (mem_take hy).2 (.inl h1), h2⟩
      · exact .inr ⟨_, (mem_take hy).2 (.inr rfl), h2⟩
    · rintro (h | ⟨p, h1, h2⟩)
      · exact .inl (.inl h)
      · rcases (mem_take hy).1 h1 with h1 | rfl
        · exact .inl (.inr ⟨p, h1, h2⟩)
        · exact .inr h2
  · rw [List.take_of_length_le (by omega)] at hb; exact hb
theorem walled_ok {seen : List (T_rules_Fault × Bool)} (hB : Bag F seen) : Ok (P_rules_walled seen false l (shps l)) (fun r => r.2 = false ∧ Bag (fun f => F f ∨ F2 l f) r.1) := by
  have hsl := hl.shLen
  unfold P_rules_walled
  refine ok_bd (R := fun x => x.2 = false ∧ Bag (fun f => F f ∨ ∃ s ∈ shps l, ∃ p ∈ s.fspots, (∃ w ∈ l.Walls, Wl w p) ∧ f = ⟨2, s.fnet, 0, p⟩) x.1) ?_ (fun x hx => ok_some ⟨hx.1, hx.2.congr fun f => ?_⟩)
  · refine ok_lp (fun q => (0 ≤ q.1 ∧ q.1 ≤ (shps l).length) ∧ q.2.2 = false ∧ Bag (fun f => F f ∨ ∃ s ∈ (shps l).take q.1.toNat, ∃ p ∈ s.fspots, (∃ w ∈ l.Walls, Wl w p) ∧ f = ⟨2, s.fnet, 0, p⟩) q.2.1) (fun q => (((shps l).length : Int) - q.1).toNat) ⟨⟨by simp, by simp⟩, rfl, hB.congr fun f => by simp⟩ (by simp only; omega) ?_
    rintro ⟨y, sn, b⟩ ⟨⟨y0, y1⟩, rfl, hb⟩
    dsimp only at y0 y1 hb
    unfold P_rules_walled_L2
    dsimp only
    refine ok_ite (fun hlt => ok_ck ⟨y0, hlt⟩ (ok_lv ?_)) (fun hge => ok_some ⟨rfl, ?_⟩)
    · have hy : inb y (shps l).length := ⟨y0, hlt⟩
      refine ok_bd (wall5_ok hl (F := fun f => F f ∨ ∃ s ∈ (shps l).take y.toNat, ∃ p ∈ s.fspots, (∃ w ∈ l.Walls, Wl w p) ∧ f = ⟨2, s.fnet, 0, p⟩) (fun f h => ?_) (gt_mem hy) hb) ?_
      · rcases h with h | ⟨s, hs, p, hp, hw, rfl⟩
        · exact hF f h
        · exact .inr (.inl ⟨s.fnet, p, ⟨s, List.mem_of_mem_take hs, rfl, hp⟩, hw, rfl⟩)
      rintro ⟨sn', b'⟩ ⟨rfl, hb'⟩
      refine ok_ar (by unfold I64; omega) (ok_some ⟨⟨⟨by dsimp only; omega, by dsimp only; omega⟩, rfl, hb'.congr fun f => ?_⟩, by dsimp only; omega⟩)
      dsimp only
      constructor
      · rintro ((h | ⟨p, h1, h2⟩) | h2)
        · exact .inl h
        · exact .inr ⟨p, (mem_take hy).2 (.inl h1), h2⟩
        · exact .inr ⟨_, (mem_take hy).2 (.inr rfl), h2⟩
      · rintro (h | ⟨p, h1, h2⟩)
        · exact .inl (.inl h)
        · rcases (mem_take hy).1 h1 with h1 | rfl
          · exact .inl (.inr ⟨p, h1, h2⟩)
          · exact .inr h2
    · rw [List.take_of_length_le (by omega)] at hb; exact hb
  · constructor
    · rintro (h | ⟨s, hs, p, hp, hw, e⟩)
      · exact .inl h
      · exact .inr ⟨s.fnet, p, ⟨s, hs, rfl, hp⟩, hw, e⟩
    · rintro (h | ⟨n, p, ⟨s, hs, rfl, hp⟩, hw, e⟩)
      · exact .inl h
      · exact .inr ⟨s, hs, p, hp, hw, e⟩
end
end Go.Proofs.Ytnnmbmgnpdcefaa.X
namespace Go.Proofs.Ytnnmbmgnpdcefaa.X
open Go Go.RowKit
set_option linter.unusedVariables false
set_option linter.unusedSimpArgs false
set_option linter.unusedSectionVars false
theorem seen_len {n : Nat} {seen : List Nat} (hn : seen.Nodup) (hb : ∀ i ∈ seen, i < n) : seen.length ≤ n := by
  have := nodup_le (m := List.range n) hn fun i hi => List.mem_range.2 (hb i hi)
  simpa using this
theorem seen_add {n : Nat} {seen : List Nat} {i : Nat} (hn : seen.Nodup) (hb : ∀ i ∈ seen, i < n) (hi : i < n) (hni : i ∉ seen) : (seen ++ [i]).Nodup ∧ ∀ j ∈ seen ++ [i], j < n := by
  refine ⟨List.nodup_append.2 ⟨hn, by simp, fun a ha b hb hab => ?_⟩, fun j hj => ?_⟩
  · rw [List.mem_singleton] at hb
    exact hni (by rw [← hb, ← hab]; exact ha)
  · rcases List.mem_append.1 hj with h | h
    · exact hb j h
    · rw [List.mem_singleton.1 h]; exact hi
theorem seen_dec {n : Nat} {seen : List Nat} {i : Nat} (hn : seen.Nodup) (hb : ∀ i ∈ seen, i < n) (hi : i < n) (hni : i ∉ seen) : n - (seen ++ [i]).length < n - seen.length := by
  obtain ⟨a, b⟩ := seen_add hn hb hi hni
  have := seen_len a b
  simp only [List.length_append, List.length_singleton] at this ⊢
  omega
theorem nok_bs1 {α β γ : Type} {m : Nd (α ⊕ γ)} {k2 : γ → Nd β} {k : α → Nd β} {R : β → Prop} {S : α → Prop} (hm : NOk m (fun o => ∃ x, o = .inl x ∧ S x)) (h1 : ∀ x, S x → NOk (k x) R) : NOk (nbs m k2 k) R :=
  nok_bs hm (fun x h => by obtain ⟨y, e, hy⟩ := h; cases e; exact h1 _ hy) (fun y h => by obtain ⟨x, e, _⟩ := h; cases e)
section
variable {κ α : Type} [DecidableEq κ]
theorem mfind_in {k : κ} {v : α} : ∀ {es : List (κ × α)}, Ks es → (k, v) ∈ es → mfind k es = some v
  | [], _, h => by cases h
  | (a, b) :: r, hk, h => by
    unfold Ks at hk
    simp only [List.map_cons, List.nodup_cons] at hk
    rcases List.mem_cons.1 h with h | h
    · cases h; simp [mfind]
    · have hne : k ≠ a := fun e => hk.1 (List.mem_map.2 ⟨(k, v), h, e⟩)
      simp only [mfind, hne, if_false]
      exact mfind_in (es := r) hk.2 h
theorem Ks.mget_at [Inhabited κ] [Inhabited α] {es : List (κ × α)} (h : Ks es) {i : Nat} (hi : i < es.length) (d : α) : mget (gt es (i : Int)).1 es d = (gt es (i : Int)).2 := by
  have hm : gt es (i : Int) ∈ es := gt_mem ⟨by omega, by omega⟩
  have h2 : mfind (gt es (i : Int)).1 es = some (gt es (i : Int)).2 := mfind_in h hm
  unfold mget
  rw [h2]; rfl
theorem mhas_at [Inhabited κ] [Inhabited α] {es : List (κ × α)} {i : Nat} (hi : i < es.length) : mhas (gt es (i : Int)).1 es = true :=
  mhas_mem.2 (List.mem_map.2 ⟨_, gt_mem ⟨by omega, by omega⟩, rfl⟩)
theorem mhas_idx [Inhabited κ] [Inhabited α] {k : κ} {es : List (κ × α)} (h : mhas k es = true) : ∃ i : Nat, i < es.length ∧ (gt es (i : Int)).1 = k := by
  obtain ⟨e, he, rfl⟩ := List.mem_map.1 (mhas_mem.1 h)
  obtain ⟨i, hi, rfl⟩ := List.getElem_of_mem he
  exact ⟨i, hi, by rw [gt_nth hi]⟩
theorem mhas_mget {β : Type} {k : κ} {es : List (κ × List β)} {x : β} (h : x ∈ mget k es []) : mhas k es = true := by
  unfold mget at h
  unfold mhas
  cases hf : mfind k es with
  | none => rw [hf] at h; simp at h
  | some v => rfl
end
def VN (vs : List T_rules_Via) (p : T_rules_Spot) (n : Int) : Prop := ∃ v ∈ vs, vspot v = p ∧ v.Net = n
/-- The vias by their spots. -/
structure NrI (vs : List T_rules_Via) (a : List (T_rules_Spot × List Int)) : Prop where
  ks : Ks a
  mem : ∀ p n, n ∈ mget p a [] ↔ VN vs p n
  nd : ∀ p, (mget p a []).Nodup
  key : ∀ p, mhas p a = true ↔ ∃ v ∈ vs, vspot v = p
/-- The faults that an entry shows. -/
def NF (a : List (T_rules_Spot × List Int)) (e : T_rules_Spot × List Int) (f : T_rules_Fault) : Prop := ∃ q, Beside e.1 q ∧ ∃ m ∈ mget q a [], ∃ n ∈ e.2, f = ⟨3, min n m, max n m, e.1⟩
section
variable {l : T_rules_Layout} (hl : LayR l)
include hl
theorem NrI.len {vs : List T_rules_Via} (hvs : ∀ v ∈ vs, v ∈ l.Vias) {a : List (T_rules_Spot × List Int)} (h : NrI vs a) (p : T_rules_Spot) : (mget p a []).length ≤ 4 :=
  few_nets (h.nd p) fun n hn => by
    obtain ⟨v, hv, _, rfl⟩ := (h.mem p n).1 hn
    have h1 := (All.mem.1 hl.via v (hvs v hv)).net
    have h2 := hl.N
    omega
theorem near3_ok : NOk (nlp (P_rules_near_L3 l) fuel ([], 0)) (fun a => NrI l.Vias a) := by
  have hvl := hl.viaL
  refine nok_lp (fun s => (0 ≤ s.2 ∧ s.2 ≤ l.Vias.length) ∧ NrI (l.Vias.take s.2.toNat) s.1) (fun s => ((l.Vias.length : Int) - s.2).toNat) ⟨⟨by simp, by simp⟩, ⟨Ks.nil, fun p n => by simp [mget, mfind, VN], fun p => by simp [mget, mfind], fun p => by simp [mhas, mfind]⟩⟩ (by simp only; omega) ?_
  rintro ⟨a, y⟩ ⟨⟨y0, y1⟩, hI⟩
  dsimp only at y0 y1 hI
  unfold P_rules_near_L3
  dsimp only
  refine nok_ite (fun hlt => ?_) (fun hge => nok_ret ?_)
  · have hy : inb y l.Vias.length := ⟨y0, hlt⟩
    have hrl := fun p => hI.len hl (fun v hv => List.mem_of_mem_take hv) p
    refine nok_ck hy (nok_lv (nok_lv ?_))
    generalize hv : gt l.Vias y = v
    have hV : ∀ p n, VN (l.Vias.take (y + 1).toNat) p n ↔ VN (l.Vias.take y.toNat) p n ∨ vspot v = p ∧ v.Net = n := fun p n => by
      unfold VN
      constructor
      · rintro ⟨u, hu, h⟩
        rcases (mem_take hy).1 hu with hu | rfl
        · exact .inl ⟨u, hu, h⟩
        · rw [hv] at h; exact .inr h
      · rintro (⟨u, hu, h⟩ | h)
        · exact ⟨u, (mem_take hy).2 (.inl hu), h⟩
        · exact ⟨v, (mem_take hy).2 (.inr hv.symm), h⟩
    have hK : ∀ p, (∃ u ∈ l.Vias.take (y + 1).toNat, vspot u = p) ↔ (∃ u ∈ l.Vias.take y.toNat, vspot u = p) ∨ vspot v = p := fun p => by
      constructor
      · rintro ⟨u, hu, h⟩
        rcases (mem_take hy).1 hu with hu | rfl
        · exact .inl ⟨u, hu, h⟩
        · rw [hv] at h; exact .inr h
      · rintro (⟨u, hu, h⟩ | h)
        · exact ⟨u, (mem_take hy).2 (.inl hu), h⟩
        · exact ⟨v, (mem_take hy).2 (.inr hv.symm), h⟩
    have e : (T_rules_Spot.mk v.Layer v.X v.Y) = vspot v := rfl
    rw [e]
    refine nok_bo (contains_ok (by have := hrl (vspot v); omega) _) ?_
    rintro _ rfl
    refine nok_bd (S := fun a => NrI (l.Vias.take (y + 1).toNat) a) (nok_ite (fun hc => ?_) (fun hc => nok_ret ?_)) fun a ha => nok_ar (by unfold I64; omega) (nok_ret ⟨⟨⟨by dsimp only; omega, by dsimp only; omega⟩, ha⟩, by dsimp only; omega⟩)
    · have hno : v.Net ∉ mget (vspot v) a [] := by simpa using hc
      refine nok_lv (nok_lv (nok_lv (nok_ck ?_ (nok_lv (nok_ret ?_)))))
      · have := hrl (vspot v)
        simp only [apOk, List.length_append, List.length_singleton]; omega
      · refine ⟨hI.ks.put.put, fun p n => ?_, fun p => ?_, fun p => ?_⟩
        · rw [mget_mput, hV]
          by_cases q : p = vspot v
          · rw [if_pos q, List.mem_append, List.mem_singleton, ← q, hI.mem]
            exact ⟨fun h => h.elim .inl fun h => .inr ⟨rfl, h.symm⟩, fun h => h.elim .inl fun h => .inr h.2.symm⟩
          · rw [if_neg q, mget_mput, if_neg q, hI.mem]
            exact ⟨.inl, fun h => h.elim id fun h => absurd h.1.symm q⟩
        · rw [mget_mput]
          by_cases q : p = vspot v
          · rw [if_pos q]
            exact List.nodup_append.2 ⟨hI.nd _, by simp, fun a ha b hb' => by simp at hb'; subst hb'; exact fun e => hno (e ▸ ha)⟩
          · rw [if_neg q, mget_mput, if_neg q]; exact hI.nd p
        · rw [has_mput, has_mput, hK, hI.key]
          constructor
          · rintro (h | h | h)
            · exact .inr h.symm
            · exact .inr h.symm
            · exact .inl h
          · rintro (h | h)
            · exact .inr (.inr h)
            · exact .inl h.symm
    · have hyes : v.Net ∈ mget (vspot v) a [] := by simpa using hc
      refine ⟨hI.ks, fun p n => ?_, hI.nd, fun p => ?_⟩
      · rw [hV, hI.mem]
        refine ⟨.inl, fun h => h.elim id fun h => ?_⟩
        obtain ⟨rfl, rfl⟩ := h
        exact (hI.mem _ _).1 hyes
      · rw [hK, ← hI.key]
        refine ⟨.inl, fun h => h.elim id fun h => ?_⟩
        subst h; exact mhas_mget hyes
  · rw [List.take_of_length_le (by omega)] at hI; exact hI
theorem add_nd {β : Type} {F : T_rules_Fault → Prop} {seen : List (T_rules_Fault × Bool)} (h : Bag F seen) (hF : ∀ f, F f → FS l f) {f : T_rules_Fault} (hf : FS l f) {k : List (T_rules_Fault × Bool) × Bool → Nd β} {Q : β → Prop} (hk : ∀ s, Bag (fun x => F x ∨ x = f) s → NOk (k (s, false)) Q) : NOk (nbd (nof (P_rules_bag_add seen false f)) k) Q :=
  nok_bo (add_ok hl h hF hf) fun r hr => by
    obtain ⟨s, b⟩ := r
    obtain ⟨e, hb⟩ := hr
    dsimp only at e hb
    subst e
    exact hk s hb
variable {F : T_rules_Fault → Prop} (hF : ∀ f, F f → FS l f)
include hF
theorem near19_ok {e : T_rules_Spot × List Int} {m : Int} (hlen : e.2.length ≤ 1000) (hfs : ∀ n ∈ e.2, FS l ⟨3, min n m, max n m, e.1⟩) {seen : List (T_rules_Fault × Bool)} (hB : Bag F seen) :
    NOk (nlp (P_rules_near_L19u4 e m) fuel (0, seen, false)) (fun o => ∃ x, o = .inl x ∧ x.2 = false ∧ Bag (fun f => F f ∨ ∃ n ∈ e.2, f = ⟨3, min n m, max n m, e.1⟩) x.1) := by
  refine nok_lp (fun q => (0 ≤ q.1 ∧ q.1 ≤ e.2.length) ∧ q.2.2 = false ∧ Bag (fun f => F f ∨ ∃ n ∈ e.2.take q.1.toNat, f = ⟨3, min n m, max n m, e.1⟩) q.2.1) (fun q => ((e.2.length : Int) - q.1).toNat) ⟨⟨by simp, by simp⟩, rfl, hB.congr fun f => by simp⟩ (by simp only; omega) ?_
  rintro ⟨y, sn, b⟩ ⟨⟨y0, y1⟩, rfl, hb⟩
  dsimp only at y0 y1 hb
  unfold P_rules_near_L19u4
  dsimp only
  refine nok_ite (fun hlt => nok_ck ⟨y0, hlt⟩ (nok_lv (nok_lv (nok_lv ?_)))) (fun hge => nok_ret ⟨_, rfl, rfl, ?_⟩)
  · refine add_nd hl hb (fun f h => ?_) (hfs _ (gt_mem ⟨y0, hlt⟩)) fun sn' hs => nok_f (by simp) (nok_ar (by unfold I64; omega) (nok_ret ⟨⟨⟨by dsimp only; omega, by dsimp only; omega⟩, rfl, hs.congr fun f => ?_⟩, by dsimp only; omega⟩))
    · rcases h with h | ⟨n, hn, rfl⟩
      · exact hF f h
      · exact hfs n (List.mem_of_mem_take hn)
    · dsimp only
      constructor
      · rintro ((h | ⟨n, hn, e⟩) | e)
        · exact .inl h
        · exact .inr ⟨n, (mem_take ⟨y0, hlt⟩).2 (.inl hn), e⟩
        · exact .inr ⟨_, (mem_take ⟨y0, hlt⟩).2 (.inr rfl), e⟩
      · rintro (h | ⟨n, hn, e⟩)
        · exact .inl (.inl h)
        · rcases (mem_take ⟨y0, hlt⟩).1 hn with h | rfl
          · exact .inl (.inr ⟨n, h, e⟩)
          · exact .inr e
  · rw [List.take_of_length_le (by omega)] at hb; exact hb
theorem near16_ok {e : T_rules_Spot × List Int} {rows : List Int} (hlen : e.2.length ≤ 1000) (hrl : rows.length ≤ 1000) (hfs : ∀ m ∈ rows, ∀ n ∈ e.2, FS l ⟨3, min n m, max n m, e.1⟩) {seen : List (T_rules_Fault × Bool)} (hB : Bag F seen) :
    NOk (nlp (P_rules_near_L16u4 e rows) fuel (0, seen, false)) (fun o => ∃ x, o = .inl x ∧ x.2 = false ∧ Bag (fun f => F f ∨ ∃ m ∈ rows, ∃ n ∈ e.2, f = ⟨3, min n m, max n m, e.1⟩) x.1) := by
  refine nok_lp (fun q => (0 ≤ q.1 ∧ q.1 ≤ rows.length) ∧ q.2.2 = false ∧ Bag (fun f => F f ∨ ∃ m ∈ rows.take q.1.toNat, ∃ n ∈ e.2, f = ⟨3, min n m, max n m, e.1⟩) q.2.1) (fun q => ((rows.length : Int) - q.1).toNat) ⟨⟨by simp, by simp⟩, rfl, hB.congr fun f => by simp⟩ (by simp only; omega) ?_
  rintro ⟨y, sn, b⟩ ⟨⟨y0, y1⟩, rfl, hb⟩
  dsimp only at y0 y1 hb
  unfold P_rules_near_L16u4
  dsimp only
  refine nok_ite (fun hlt => nok_ck ⟨y0, hlt⟩ (nok_lv ?_)) (fun hge => nok_ret ⟨_, rfl, rfl, ?_⟩)
  · refine nok_bs1 (near19_ok hl (F := fun f => F f ∨ ∃ m ∈ rows.take y.toNat, ∃ n ∈ e.2, f = ⟨3, min n m, max n m, e.1⟩) (fun f h => ?_) hlen (hfs _ (gt_mem ⟨y0, hlt⟩)) hb) ?_
    · rcases h with h | ⟨m, hm, n, hn, rfl⟩
      · exact hF f h
      · exact hfs m (List.mem_of_mem_take hm) n hn
    rintro ⟨sn', b'⟩ ⟨rfl, hb'⟩
    refine nok_ar (by unfold I64; omega) (nok_ret ⟨⟨⟨by dsimp only; omega, by dsimp only; omega⟩, rfl, hb'.congr fun f => ?_⟩, by dsimp only; omega⟩)
    dsimp only
    constructor
    · rintro ((h | ⟨n, hn, e⟩) | e)
      · exact .inl h
      · exact .inr ⟨n, (mem_take ⟨y0, hlt⟩).2 (.inl hn), e⟩
      · exact .inr ⟨_, (mem_take ⟨y0, hlt⟩).2 (.inr rfl), e⟩
    · rintro (h | ⟨n, hn, e⟩)
      · exact .inl (.inl h)
      · rcases (mem_take ⟨y0, hlt⟩).1 hn with h | rfl
        · exact .inl (.inr ⟨n, h, e⟩)
        · exact .inr e
  · rw [List.take_of_length_le (by omega)] at hb; exact hb
theorem near10_ok {a : List (T_rules_Spot × List Int)} (hI : NrI l.Vias a) (hal : a.length ≤ 1000) {seen : List (T_rules_Fault × Bool)} (hB : Bag F seen) :
    NOk (nlp (P_rules_near_L10 a) fuel ([], seen, false)) (fun o => ∃ x, o = .inl x ∧ x.2 = false ∧ Bag (fun f => F f ∨ F3 l f) x.1) := by
  have hrl := fun p => hI.len hl (fun v hv => hv) p
  have ent : ∀ i : Nat, i < a.length → ∀ n, n ∈ (gt a (i : Int)).2 → ∃ v ∈ l.Vias, vspot v = (gt a (i : Int)).1 ∧ v.Net = n := fun i hi n hn => by
    rw [← hI.ks.mget_at hi []] at hn
    exact (hI.mem _ _).1 hn
  have elen : ∀ i : Nat, i < a.length → (gt a (i : Int)).2.length ≤ 4 := fun i hi => by
    rw [← hI.ks.mget_at hi []]; exact hrl _
  have nf3 : ∀ i : Nat, i < a.length → ∀ f, NF a (gt a (i : Int)) f → F3 l f := by
    rintro i hi f ⟨q, hq, m, hm, n, hn, rfl⟩
    obtain ⟨v, hv, ev, rfl⟩ := ent i hi n hn
    obtain ⟨u, hu, eu, rfl⟩ := (hI.mem _ _).1 hm
    exact ⟨v, hv, u, hu, by rw [ev, eu]; exact hq, by rw [ev]⟩
  have fin : ∀ f, F3 l f → ∃ i : Nat, i < a.length ∧ NF a (gt a (i : Int)) f := by
    rintro f ⟨v, hv, u, hu, hb, rfl⟩
    obtain ⟨i, hi, e⟩ := mhas_idx ((hI.key (vspot v)).2 ⟨v, hv, rfl⟩)
    refine ⟨i, hi, vspot u, by rw [e]; exact hb, u.Net, (hI.mem _ _).2 ⟨u, hu, rfl, rfl⟩, v.Net, ?_, by rw [e]⟩
    rw [← hI.ks.mget_at hi [], e]
    exact (hI.mem _ _).2 ⟨v, hv, rfl, rfl⟩
  have near : ∀ i : Nat, i < a.length → (0 ≤ (gt a (i : Int)).1.X ∧ (gt a (i : Int)).1.X ≤ 10) ∧ (0 ≤ (gt a (i : Int)).1.Y ∧ (gt a (i : Int)).1.Y ≤ 10) := fun i hi => by
    obtain ⟨v, hv, ev⟩ := (hI.key _).1 (mhas_at hi)
    have h := All.mem.1 hl.via v hv
    have h1 := h.x
    have h2 := h.y
    have h3 := hl.W
    have h4 := hl.H
    rw [← ev]
    simp only [vspot]; omega
  refine nok_lp (fun q => q.1.Nodup ∧ (∀ i ∈ q.1, i < a.length) ∧ q.2.2 = false ∧ Bag (fun f => F f ∨ ∃ i ∈ q.1, NF a (gt a (i : Int)) f) q.2.1) (fun q => a.length - q.1.length) ⟨List.nodup_nil, fun i hi => by simp at hi, rfl, hB.congr fun f => by simp⟩ (by simp only; omega) ?_
  rintro ⟨sn, bs, b⟩ ⟨h1, h2, rfl, hb⟩
  dsimp only at h1 h2 hb
  unfold P_rules_near_L10
  dsimp only
  refine nok_nx (fun hall => nok_ret ⟨_, rfl, rfl, hb.congr fun f => ?_⟩) fun i hi hni => ?_
  · constructor
    · rintro (h | ⟨i, hi, h⟩)
      · exact .inl h
      · exact .inr (nf3 i (h2 i hi) f h)
    · rintro (h | h)
      · exact .inl h
      · obtain ⟨i, hi, h⟩ := fin f h
        exact .inr ⟨i, hall i hi, h⟩
  · obtain ⟨a1, a2⟩ := seen_add h1 h2 hi hni
    have hdec := seen_dec h1 h2 hi hni
    have el := elen i hi
    have nr := near i hi
    have hFS : ∀ q, Beside (gt a (i : Int)).1 q → ∀ m ∈ mget q a [], ∀ n ∈ (gt a (i : Int)).2, FS l ⟨3, min n m, max n m, (gt a (i : Int)).1⟩ := fun q hq m hm n hn => .inr (.inr (.inl (nf3 i hi _ ⟨q, hq, m, hm, n, hn, rfl⟩)))
    have key : ∀ (ps : List T_rules_Spot) (G : T_rules_Fault → Prop), (∀ f, G f ↔ (F f ∨ ∃ i ∈ sn, NF a (gt a (i : Int)) f) ∨ ∃ q ∈ ps, ∃ m ∈ mget q a [], ∃ n ∈ (gt a (i : Int)).2, f = ⟨3, min n m, max n m, (gt a (i : Int)).1⟩) → (∀ q ∈ ps, Beside (gt a (i : Int)).1 q) → ∀ f, G f → FS l f := fun ps G hG hps f h => by
      rcases (hG f).1 h with (h | ⟨j, hj, h⟩) | ⟨q, hq, m, hm, n, hn, rfl⟩
      · exact hF f h
      · exact .inr (.inr (.inl (nf3 j (h2 j hj) f h)))
      · exact hFS q (hps q hq) m hm n hn
    have step : ∀ (ps : List T_rules_Spot) (q : T_rules_Spot), (∀ p ∈ ps, Beside (gt a (i : Int)).1 p) → Beside (gt a (i : Int)).1 q → ∀ (bs : List (T_rules_Fault × Bool)), Bag (fun f => (F f ∨ ∃ i ∈ sn, NF a (gt a (i : Int)) f) ∨ ∃ q ∈ ps, ∃ m ∈ mget q a [], ∃ n ∈ (gt a (i : Int)).2, f = ⟨3, min n m, max n m, (gt a (i : Int)).1⟩) bs →
        NOk (nlp (P_rules_near_L16u4 (gt a (i : Int)) (mget q a [])) fuel (0, bs, false)) (fun o => ∃ x, o = .inl x ∧ x.2 = false ∧ Bag (fun f => (F f ∨ ∃ i ∈ sn, NF a (gt a (i : Int)) f) ∨ ∃ p ∈ ps ++ [q], ∃ m ∈ mget p a [], ∃ n ∈ (gt a (i : Int)).2, f = ⟨3, min n m, max n m, (gt a (i : Int)).1⟩) x.1) := fun ps q hps hq bs hbs => by
      refine NOk.mono (near16_ok hl (F := fun f => (F f ∨ ∃ i ∈ sn, NF a (gt a (i : Int)) f) ∨ ∃ q ∈ ps, ∃ m ∈ mget q a [], ∃ n ∈ (gt a (i : Int)).2, f = ⟨3, min n m, max n m, (gt a (i : Int)).1⟩) (key ps _ (fun f => Iff.rfl) hps) (by omega) (by have := hrl q; omega) (hFS q hq) hbs) ?_
      rintro o ⟨x, e, e2, hx⟩
      refine ⟨x, e, e2, hx.congr fun f => ?_⟩
      constructor
      · rintro ((h | ⟨p, hp, h⟩) | h)
        · exact .inl h
        · exact .inr ⟨p, List.mem_append_left _ hp, h⟩
        · exact .inr ⟨q, by simp, h⟩
      · rintro (h | ⟨p, hp, h⟩)
        · exact .inl (.inl h)
        · rcases List.mem_append.1 hp with hp | hp
          · exact .inl (.inr ⟨p, hp, h⟩)
          · rw [List.mem_singleton] at hp; subst hp; exact .inr h
    generalize hge : gt a (i : Int) = e at nr el hFS key step ⊢
    have b1 : Beside e.1 ⟨e.1.Layer, e.1.X + 1, e.1.Y + 0⟩ := ⟨rfl, .inl ⟨rfl, by dsimp only; omega⟩⟩
    have b2 : Beside e.1 ⟨e.1.Layer, e.1.X + -1, e.1.Y + 1⟩ := ⟨rfl, .inr (.inl ⟨by dsimp only; omega, rfl⟩)⟩
    have b3 : Beside e.1 ⟨e.1.Layer, e.1.X + 0, e.1.Y + 1⟩ := ⟨rfl, .inr (.inr (.inl ⟨by dsimp only; omega, rfl⟩))⟩
    have b4 : Beside e.1 ⟨e.1.Layer, e.1.X + 1, e.1.Y + 1⟩ := ⟨rfl, .inr (.inr (.inr ⟨rfl, rfl⟩))⟩
    have ball : ∀ q, Beside e.1 q ↔ q ∈ ([⟨e.1.Layer, e.1.X + 1, e.1.Y + 0⟩, ⟨e.1.Layer, e.1.X + -1, e.1.Y + 1⟩, ⟨e.1.Layer, e.1.X + 0, e.1.Y + 1⟩, ⟨e.1.Layer, e.1.X + 1, e.1.Y + 1⟩] : List T_rules_Spot) := fun q => by
      obtain ⟨q1, q2, q3⟩ := q
      simp only [Beside, List.mem_cons, List.not_mem_nil, or_false, T_rules_Spot.mk.injEq]
      omega
    refine nok_lv (nok_ar (by unfold I64; omega) (nok_ar (by unfold I64; omega) (nok_lv (nok_bs1 (step [] _ (by simp) b1 _ (hb.congr fun f => by simp)) ?_))))
    rintro ⟨c1, _⟩ ⟨rfl, hc1⟩
    refine nok_ar (by unfold I64; omega) (nok_ar (by unfold I64; omega) (nok_lv (nok_bs1 (step [_] _ (by simpa using b1) b2 _ hc1) ?_)))
    rintro ⟨c2, _⟩ ⟨rfl, hc2⟩
    refine nok_ar (by unfold I64; omega) (nok_ar (by unfold I64; omega) (nok_lv (nok_bs1 (step [_, _] _ (by intro p hp; simp only [List.mem_cons, List.not_mem_nil, or_false] at hp; rcases hp with rfl | rfl; exact b1; exact b2) b3 _ hc2) ?_)))
    rintro ⟨c3, _⟩ ⟨rfl, hc3⟩
    refine nok_ar (by unfold I64; omega) (nok_ar (by unfold I64; omega) (nok_lv (nok_bs1 (step [_, _, _] _ (by intro p hp; simp only [List.mem_cons, List.not_mem_nil, or_false] at hp; rcases hp with rfl | rfl | rfl; exact b1; exact b2; exact b3) b4 _ hc3) ?_)))
    rintro ⟨c4, _⟩ ⟨rfl, hc4⟩
    refine nok_ret ⟨⟨a1, a2, rfl, hc4.congr fun f => ?_⟩, hdec⟩
    constructor
    · rintro ((h | ⟨j, hj, h⟩) | ⟨q, hq, h⟩)
      · exact .inl h
      · exact .inr ⟨j, List.mem_append_left _ hj, h⟩
      · exact .inr ⟨i, by simp, by rw [hge]; exact ⟨q, (ball q).2 hq, h⟩⟩
    · rintro (h | ⟨j, hj, h⟩)
      · exact .inl (.inl h)
      · rcases List.mem_append.1 hj with hj | hj
        · exact .inl (.inr ⟨j, hj, h⟩)
        · rw [List.mem_singleton] at hj; subst hj
          rw [hge] at h
          obtain ⟨q, hq, h⟩ := h
          exact .inr ⟨q, (ball q).1 hq, h⟩
theorem near_ok {seen : List (T_rules_Fault × Bool)} (hB : Bag F seen) : NOk (P_rules_near seen false l (shps l)) (fun r => r.2 = false ∧ Bag (fun f => F f ∨ F3 l f) r.1) := by
  unfold P_rules_near
  refine nok_bd (near3_ok hl) fun a ha => nok_bs1 (near10_ok hl hF ha ?_ hB) fun x hx => nok_ret hx
  have h1 : (a.map (·.1)).length ≤ (l.Vias.map vspot).length := nodup_le ha.ks fun p hp => by
    obtain ⟨v, hv, e⟩ := (ha.key p).1 (mhas_mem.2 hp)
    exact List.mem_map.2 ⟨v, hv, e⟩
  have h2 := hl.viaL
  simp only [List.length_map] at h1
  omega
end
end Go.Proofs.Ytnnmbmgnpdcefaa.X
namespace Go.Proofs.Ytnnmbmgnpdcefaa.X
open Go Go.RowKit
set_option linter.unusedVariables false
set_option linter.unusedSimpArgs false
set_option linter.unusedSectionVars false
section
variable {sh : List T_rules_shape} {g : T_rules_shape → List T_rules_Spot} {G : List Int}
theorem GrpOk.net (h : GrpOk sh g G) {i j : Nat} (hi : i < sh.length) (hj : j < sh.length) (e : gt G (i : Int) = gt G (j : Int)) : (gt sh (i : Int)).fnet = (gt sh (j : Int)).fnet := by
  rcases (h.2 i j hi hj).1 e with rfl | h
  · rfl
  · exact h.1
theorem sh_idx {s : T_rules_shape} (h : s ∈ sh) : ∃ i : Nat, i < sh.length ∧ gt sh (i : Int) = s := by
  obtain ⟨i, hi, rfl⟩ := List.getElem_of_mem h
  exact ⟨i, hi, gt_nth hi⟩
theorem GrpOk.conn (h : GrpOk sh g G) {i : Nat} (hi : i < sh.length) {p q : T_rules_Spot} (hp : p ∈ g (gt sh (i : Int))) : Conn (Adj sh g (gt sh (i : Int)).fnet) p q ↔ ∃ j : Nat, j < sh.length ∧ gt G (j : Int) = gt G (i : Int) ∧ q ∈ g (gt sh (j : Int)) := by
  constructor
  · intro hc
    induction hc with
    | refl => exact ⟨i, hi, rfl, hp⟩
    | tail _ ha ih =>
      obtain ⟨j, hj, e, hr⟩ := ih
      obtain ⟨s, hs, hn, h1, h2⟩ := ha
      obtain ⟨c, hc, rfl⟩ := sh_idx hs
      have e2 := (h.2 c j hc hj).2 (EC.one (hn.trans (h.net hj hi e).symm) h1 hr)
      exact ⟨c, hc, e2.trans e, h2⟩
  · rintro ⟨j, hj, e, hq⟩
    rcases (h.2 i j hi hj).1 e.symm with rfl | ⟨hn, p', hp', q', hq', hc⟩
    · exact Conn.one ⟨_, sh_mem hi, rfl, hp, hq⟩
    · exact (Conn.tail (.trans (Conn.one ⟨_, sh_mem hi, rfl, hp, hp'⟩) hc) ⟨_, sh_mem hj, hn.symm, hq', hq⟩)
/-- The spots of each group, with the group's net. -/
structure SpI (sh : List T_rules_shape) (G : List Int) (spots : List (Int × List (T_rules_Spot × Bool))) (net : List (Int × Int)) (D : Nat → T_rules_Spot → Prop) : Prop where
  ks : Ks spots
  mem : ∀ k p, mhas p (mget k spots []) = true ↔ ∃ i : Nat, i < sh.length ∧ D i p ∧ gt G (i : Int) = k
  iks : ∀ k, Ks (mget k spots [])
  key : ∀ k, mhas k spots = true ↔ ∃ (i : Nat) (p : T_rules_Spot), i < sh.length ∧ D i p ∧ gt G (i : Int) = k
  net : ∀ (i : Nat) (p : T_rules_Spot), i < sh.length → D i p → mget (gt G (i : Int)) net 0 = (gt sh (i : Int)).fnet
theorem SpI.congr {spots : List (Int × List (T_rules_Spot × Bool))} {net : List (Int × Int)} {D D' : Nat → T_rules_Spot → Prop} (h : SpI sh G spots net D) (e : ∀ i p, i < sh.length → (D i p ↔ D' i p)) : SpI sh G spots net D' := by
  refine ⟨h.ks, fun k p => (h.mem k p).trans ?_, h.iks, fun k => (h.key k).trans ?_, fun i p hi hp => h.net i p hi ((e i p hi).2 hp)⟩
  · exact ⟨fun ⟨i, a, b, c⟩ => ⟨i, a, (e i p a).1 b, c⟩, fun ⟨i, a, b, c⟩ => ⟨i, a, (e i p a).2 b, c⟩⟩
  · exact ⟨fun ⟨i, p, a, b, c⟩ => ⟨i, p, a, (e i p a).1 b, c⟩, fun ⟨i, p, a, b, c⟩ => ⟨i, p, a, (e i p a).2 b, c⟩⟩
theorem SpI.step (hG : GrpOk sh g G) {spots sp : List (Int × List (T_rules_Spot × Bool))} {net : List (Int × Int)} {D : Nat → T_rules_Spot → Prop} (h : SpI sh G spots net D) {i : Nat} (hi : i < sh.length) {z : Int} {p : T_rules_Spot}
    (h1 : Ks sp) (h2 : ∀ k, mget k sp [] = mget k spots []) (h3 : ∀ k, mhas k sp = true ↔ k = gt G (i : Int) ∨ mhas k spots = true) :
    SpI sh G (mput (gt G (i : Int)) (mput p true (mget (gt G (i : Int)) sp [])) sp) (mput (gt G (i : Int)) (gt sh (i : Int)).fnet (mput (gt G (i : Int)) z net)) (fun j q => D j q ∨ j = i ∧ q = p) := by
  refine ⟨h1.put, fun k q => ?_, fun k => ?_, fun k => ?_, fun j q hj hq => ?_⟩
  · rw [mget_mput]
    by_cases e : k = gt G (i : Int)
    · rw [if_pos e, has_mput, h2, ← e, h.mem]
      constructor
      · rintro (rfl | ⟨j, a, b, c⟩)
        · exact ⟨i, hi, .inr ⟨rfl, rfl⟩, e.symm⟩
        · exact ⟨j, a, .inl b, c⟩
      · rintro ⟨j, a, b | ⟨b, b2⟩, c⟩
        · exact .inr ⟨j, a, b, c⟩
        · exact .inl b2
    · rw [if_neg e, h2, h.mem]
      constructor
      · rintro ⟨j, a, b, c⟩
        exact ⟨j, a, .inl b, c⟩
      · rintro ⟨j, a, b | ⟨b, b2⟩, c⟩
        · exact ⟨j, a, b, c⟩
        · subst b; exact absurd c.symm e
  · rw [mget_mput]
    split
    · rw [h2]; exact (h.iks _).put
    · rw [h2]; exact h.iks k
  · rw [has_mput, h3, h.key]
    constructor
    · rintro (rfl | rfl | ⟨j, q, a, b, c⟩)
      · exact ⟨i, p, hi, .inr ⟨rfl, rfl⟩, rfl⟩
      · exact ⟨i, p, hi, .inr ⟨rfl, rfl⟩, rfl⟩
      · exact ⟨j, q, a, .inl b, c⟩
    · rintro ⟨j, q, a, b | ⟨b, b2⟩, c⟩
      · exact .inr (.inr ⟨j, q, a, b, c⟩)
      · subst b; exact .inl c.symm
  · rw [mget_mput, mget_mput]
    by_cases e : gt G (j : Int) = gt G (i : Int)
    · rw [if_pos e]; exact (hG.net hj hi e).symm
    · rw [if_neg e, if_neg e]
      rcases hq with hq | ⟨rfl, _⟩
      · exact h.net j q hj hq
      · exact absurd rfl e
theorem small11_ok (hG : GrpOk sh g G) {rows : List T_rules_Spot} (hr : rows.length ≤ 1000) {i : Nat} (hi : i < sh.length) {spots : List (Int × List (T_rules_Spot × Bool))} {net : List (Int × Int)} {D : Nat → T_rules_Spot → Prop} (hI : SpI sh G spots net D) :
    NOk (nlp (P_rules_small_L11 sh (gt G (i : Int)) rows (i : Int)) fuel (spots, net, 0)) (fun r => SpI sh G r.1 r.2 (fun j q => D j q ∨ j = i ∧ q ∈ rows)) := by
  refine nok_lp (fun s => (0 ≤ s.2.2 ∧ s.2.2 ≤ rows.length) ∧ SpI sh G s.1 s.2.1 (fun j q => D j q ∨ j = i ∧ q ∈ rows.take s.2.2.toNat)) (fun s => ((rows.length : Int) - s.2.2).toNat) ⟨⟨by simp, by simp⟩, hI.congr fun j q _ => by simp⟩ (by simp only; omega) ?_
  rintro ⟨sp, nt, y⟩ ⟨⟨y0, y1⟩, hI⟩
  dsimp only at y0 y1 hI
  unfold P_rules_small_L11
  dsimp only
  refine nok_ite (fun hlt => ?_) (fun hge => nok_ret ?_)
  · have hy : inb y rows.length := ⟨y0, hlt⟩
    refine nok_ck hy (nok_lv (nok_lv (nok_bd (S := fun s => Ks s ∧ (∀ k, mget k s [] = mget k sp []) ∧ ∀ k, mhas k s = true ↔ k = gt G (i : Int) ∨ mhas k sp = true) ?_ ?_)))
    · refine nok_ite (fun hc => nok_ck (by simpa using hc) (nok_lv (nok_ret ?_))) (fun hc => nok_ret ?_)
      · have hno : mhas (gt G (i : Int)) sp = false := by simpa using hc
        refine ⟨hI.ks.put, fun k => ?_, fun k => has_mput⟩
        rw [mget_mput]
        split
        · rename_i e
          subst e
          unfold mhas at hno
          unfold mget
          cases hf : mfind (gt G (i : Int)) sp with
          | none => rfl
          | some v => rw [hf] at hno; simp at hno
        · rfl
      · have hyes : mhas (gt G (i : Int)) sp = true := by simpa using hc
        refine ⟨hI.ks, fun _ => rfl, fun k => ⟨.inr, fun h => h.elim (fun e => ?_) id⟩⟩
        subst e; exact hyes
    · rintro s ⟨h1, h2, h3⟩
      refine nok_ck ⟨by omega, by omega⟩ (nok_lv (nok_ck ((h3 _).2 (.inl rfl)) (nok_lv (nok_lv (nok_lv (nok_lv (nok_ar (by unfold I64; omega) (nok_ret ⟨⟨⟨by dsimp only; omega, by dsimp only; omega⟩, (hI.step hG hi h1 h2 h3).congr fun j q _ => ?_⟩, by dsimp only; omega⟩))))))))
      dsimp only
      rw [mem_take hy]
      constructor
      · rintro ((h | ⟨h, h1⟩) | ⟨h, h1⟩)
        · exact .inl h
        · exact .inr ⟨h, .inl h1⟩
        · exact .inr ⟨h, .inr h1⟩
      · rintro (h | ⟨h, h1 | h1⟩)
        · exact .inl (.inl h)
        · exact .inl (.inr ⟨h, h1⟩)
        · exact .inr ⟨h, h1⟩
  · refine hI.congr fun j q _ => ?_
    rw [List.take_of_length_le (by omega)]
end
section
variable {l : T_rules_Layout} (hl : LayR l)
include hl
theorem small8_ok (v : Int) {G : List Int} (hG : GrpOk (shps l) (onL v) G) : NOk (nlp (P_rules_small_L8 (shps l) G v) fuel ([], [], 0)) (fun r => SpI (shps l) G r.1 r.2 (fun i p => p ∈ onL v (gt (shps l) (i : Int)))) := by
  have hsl := hl.shLen
  have hGl := hG.1
  refine nok_lp (fun s => (0 ≤ s.2.2 ∧ s.2.2 ≤ (shps l).length) ∧ SpI (shps l) G s.1 s.2.1 (fun i p => (i : Int) < s.2.2 ∧ p ∈ onL v (gt (shps l) (i : Int)))) (fun s => (((shps l).length : Int) - s.2.2).toNat) ⟨⟨by simp, by simp⟩, ?_⟩ (by simp only; omega) ?_
  · refine ⟨Ks.nil, fun k p => ?_, fun k => by simp [mget, mfind]; exact Ks.nil, fun k => ?_, fun i p hi h => ?_⟩
    · simp only [mget, mfind, mhas]
      constructor
      · intro h; simp [mfind] at h
      · rintro ⟨i, _, ⟨h, _⟩, _⟩; omega
    · constructor
      · intro h; simp [mhas, mfind] at h
      · rintro ⟨i, p, _, ⟨h, _⟩, _⟩; dsimp only at h; omega
    · have := h.1; dsimp only at this; omega
  rintro ⟨sp, nt, y⟩ ⟨⟨y0, y1⟩, hI⟩
  dsimp only at y0 y1 hI
  obtain ⟨k, rfl⟩ := Int.eq_ofNat_of_zero_le y0
  unfold P_rules_small_L8
  dsimp only
  refine nok_ite (fun hlt => ?_) (fun hge => nok_ret ?_)
  · have hk : k < (shps l).length := by omega
    have hsp := hl.spots (sh_mem hk)
    refine nok_ck ⟨y0, hlt⟩ (nok_lv (nok_ck ⟨by omega, by omega⟩ (nok_lv (nok_bo (small1_ok (by omega) v) ?_))))
    rintro _ rfl
    refine nok_bd (small11_ok hG (Nat.le_trans (List.length_filter_le _ _) (by omega)) hk hI) fun r hr => nok_ar (by unfold I64; omega) (nok_ret ⟨⟨⟨by dsimp only; omega, by dsimp only; omega⟩, hr.congr fun j q _ => ?_⟩, by dsimp only; omega⟩)
    dsimp only
    constructor
    · rintro (⟨h, h1⟩ | ⟨h, h1⟩)
      · exact ⟨by omega, h1⟩
      · subst h; exact ⟨by omega, h1⟩
    · rintro ⟨h, h1⟩
      by_cases e : j = k
      · subst e; exact .inr ⟨rfl, h1⟩
      · exact .inl ⟨by omega, h1⟩
  · exact hI.congr fun j q hj => ⟨fun h => h.2, fun h => ⟨by omega, h⟩⟩
omit hl in
theorem one_key {es : List (T_rules_Spot × Bool)} {p : T_rules_Spot} (hk : Ks es) (hp : mhas p es = true) : es.length < 2 ↔ ∀ q, mhas q es = true → q = p := by
  constructor
  · intro h q hq
    match es, h, hp, hq with
    | [], _, hp, _ => simp [mhas, mfind] at hp
    | [e], _, hp, hq =>
      have h1 := mhas_mem.1 hp
      have h2 := mhas_mem.1 hq
      simp only [List.map_cons, List.map_nil, List.mem_singleton] at h1 h2
      rw [h1, h2]
  · intro h
    have := nodup_le (m := [p]) hk fun q hq => by simpa using h q (mhas_mem.2 hq)
    simp only [List.length_map, List.length_singleton] at this
    omega
omit hl in
theorem least_key {es : List (T_rules_Spot × Bool)} {p : T_rules_Spot} (hp : mhas p es = true) (h : ∀ q, mhas q es = true → q = p) : leastS es = p := by
  have hne : es ≠ [] := by rintro rfl; simp [mhas, mfind] at hp
  obtain ⟨⟨e, he, h1⟩, _⟩ := leastS_spec hne
  rw [← h1]
  exact h _ (mhas_mem.2 (List.mem_map.2 ⟨e, he, rfl⟩))
/-- The faults of one layer. -/
def F4L (l : T_rules_Layout) (ly : Int) (f : T_rules_Fault) : Prop := ∃ n p, CovG (shps l) (onL ly) n p ∧ (∀ q, Conn (Adj (shps l) (onL ly) n) p q → q = p) ∧ f = ⟨4, n, 0, p⟩
def SF (net : List (Int × Int)) (e : Int × List (T_rules_Spot × Bool)) (f : T_rules_Fault) : Prop := e.2.length < 2 ∧ f = ⟨4, mget e.1 net 0, 0, leastS e.2⟩
omit hl in
theorem sf_iff {v : Int} {G : List Int} (hG : GrpOk (shps l) (onL v) G) {spots : List (Int × List (T_rules_Spot × Bool))} {net : List (Int × Int)} (hI : SpI (shps l) G spots net (fun i p => p ∈ onL v (gt (shps l) (i : Int)))) (f : T_rules_Fault) :
    (∃ i : Nat, i < spots.length ∧ SF net (gt spots (i : Int)) f) ↔ F4L l v f := by
  have same : ∀ {j : Nat} {p : T_rules_Spot}, j < (shps l).length → p ∈ onL v (gt (shps l) (j : Int)) → ∀ q, mhas q (mget (gt G (j : Int)) spots []) = true ↔ Conn (Adj (shps l) (onL v) (gt (shps l) (j : Int)).fnet) p q := fun {j p} hj hp q => by
    rw [hI.mem, hG.conn hj hp]
    exact ⟨fun ⟨i, a, b, c⟩ => ⟨i, a, c, b⟩, fun ⟨i, a, b, c⟩ => ⟨i, a, c, b⟩⟩
  constructor
  · rintro ⟨i, hi, h1, rfl⟩
    obtain ⟨j, p, hj, hp, e⟩ := (hI.key _).1 (mhas_at hi)
    have e2 := hI.ks.mget_at hi []
    rw [← e] at e2
    rw [← e2] at h1 ⊢
    rw [← e, hI.net j p hj hp]
    have hpm := (same hj hp p).2 (.refl p)
    have hall := (one_key (hI.iks _) hpm).1 h1
    refine ⟨_, p, ⟨_, sh_mem hj, rfl, hp⟩, fun q hq => hall q ((same hj hp q).2 hq), ?_⟩
    rw [least_key hpm hall]
  · rintro ⟨n, p, ⟨s, hs, rfl, hp⟩, hq, rfl⟩
    obtain ⟨j, hj, rfl⟩ := sh_idx hs
    obtain ⟨i, hi, e⟩ := mhas_idx ((hI.key _).2 ⟨j, p, hj, hp, rfl⟩)
    have e2 := hI.ks.mget_at hi []
    rw [e] at e2
    have hpm := (same hj hp p).2 (.refl p)
    have hall : ∀ q, mhas q (mget (gt G (j : Int)) spots []) = true → q = p := fun q h => hq q ((same hj hp q).1 h)
    refine ⟨i, hi, ?_, ?_⟩
    · rw [← e2]; exact (one_key (hI.iks _) hpm).2 hall
    · rw [← e2, e, hI.net j p hj hp, least_key hpm hall]
variable {F : T_rules_Fault → Prop} (hF : ∀ f, F f → FS l f)
include hF
theorem small19_ok {v : Int} (hv : 1 ≤ v ∧ v < l.Layers) {G : List Int} (hG : GrpOk (shps l) (onL v) G) {spots : List (Int × List (T_rules_Spot × Bool))} {net : List (Int × Int)} (hI : SpI (shps l) G spots net (fun i p => p ∈ onL v (gt (shps l) (i : Int)))) (hsl : spots.length ≤ 1000) {seen : List (T_rules_Fault × Bool)} (hB : Bag F seen) :
    NOk (nlp (P_rules_small_L19 spots net) fuel ([], seen, false)) (fun r => r.2 = false ∧ Bag (fun f => F f ∨ F4L l v f) r.1) := by
  have hiff := sf_iff hG hI
  have hfs : ∀ i : Nat, i < spots.length → ∀ f, SF net (gt spots (i : Int)) f → FS l f := fun i hi f h => by
    obtain ⟨n, p, h1, h2, h3⟩ := (hiff f).1 ⟨i, hi, h⟩
    exact .inr (.inr (.inr (.inl ⟨v, n, p, hv, h1, h2, h3⟩)))
  refine nok_lp (fun q => q.1.Nodup ∧ (∀ i ∈ q.1, i < spots.length) ∧ q.2.2 = false ∧ Bag (fun f => F f ∨ ∃ i ∈ q.1, SF net (gt spots (i : Int)) f) q.2.1) (fun q => spots.length - q.1.length) ⟨List.nodup_nil, fun i hi => by simp at hi, rfl, hB.congr fun f => by simp⟩ (by simp only; omega) ?_
  rintro ⟨sn, bs, b⟩ ⟨h1, h2, rfl, hb⟩
  dsimp only at h1 h2 hb
  unfold P_rules_small_L19
  dsimp only
  refine nok_nx (fun hall => nok_ret ⟨rfl, hb.congr fun f => ?_⟩) fun i hi hni => ?_
  · rw [← hiff]
    constructor
    · rintro (h | ⟨i, hi, h⟩)
      · exact .inl h
      · exact .inr ⟨i, h2 i hi, h⟩
    · rintro (h | ⟨i, hi, h⟩)
      · exact .inl h
      · exact .inr ⟨i, hall i hi, h⟩
  · obtain ⟨a1, a2⟩ := seen_add h1 h2 hi hni
    have hdec := seen_dec h1 h2 hi hni
    have hE : ∀ f, (F f ∨ ∃ j ∈ sn ++ [i], SF net (gt spots (j : Int)) f) ↔ (F f ∨ ∃ j ∈ sn, SF net (gt spots (j : Int)) f) ∨ SF net (gt spots (i : Int)) f := fun f => by
      constructor
      · rintro (h | ⟨j, hj, h⟩)
        · exact .inl (.inl h)
        · rcases List.mem_append.1 hj with hj | hj
          · exact .inl (.inr ⟨j, hj, h⟩)
          · rw [List.mem_singleton] at hj; subst hj; exact .inr h
      · rintro ((h | ⟨j, hj, h⟩) | h)
        · exact .inl h
        · exact .inr ⟨j, List.mem_append_left _ hj, h⟩
        · exact .inr ⟨i, by simp, h⟩
    refine nok_lv (nok_bd (S := fun r => r.2 = false ∧ Bag (fun f => F f ∨ ∃ j ∈ sn ++ [i], SF net (gt spots (j : Int)) f) r.1) (nok_ite (fun hc => ?_) (fun hc => nok_ret ⟨rfl, hb.congr fun f => ?_⟩)) ?_)
    · have hsf : SF net (gt spots (i : Int)) ⟨4, mget (gt spots (i : Int)).1 net 0, 0, leastS (gt spots (i : Int)).2⟩ := ⟨by omega, rfl⟩
      refine nok_lv (nok_bo (R := _) (S := fun r => r = leastS (gt spots (i : Int)).2) (by unfold P_rules_least; exact ok_ck (by omega) (ok_some rfl)) ?_)
      rintro _ rfl
      refine add_nd hl hb (fun f h => ?_) (hfs i hi _ hsf) fun s hs => nok_ret ⟨rfl, hs.congr fun f => ?_⟩
      · rcases h with h | ⟨j, hj, h⟩
        · exact hF f h
        · exact hfs j (h2 j hj) f h
      · rw [hE]
        exact ⟨fun h => h.elim .inl fun h => .inr (by rw [h]; exact hsf), fun h => h.elim .inl fun h => .inr h.2⟩
    · rw [hE]
      exact ⟨.inl, fun h => h.elim id fun h => absurd h.1 (by omega)⟩
    · rintro ⟨s, b⟩ ⟨rfl, hs⟩
      exact nok_ret ⟨⟨a1, a2, rfl, hs⟩, hdec⟩
theorem small_ok {seen : List (T_rules_Fault × Bool)} (hB : Bag F seen) : NOk (P_rules_small seen false l (shps l)) (fun r => r.2 = false ∧ Bag (fun f => F f ∨ F4 l f) r.1) := by
  have hLy := hl.Ly
  have hsl := hl.shLen
  unfold P_rules_small
  refine nok_bd (S := fun r => r.2 = false ∧ Bag (fun f => F f ∨ F4 l f) r.1) ?_ fun x hx => nok_ret hx
  refine nok_lp (fun q => (1 ≤ q.2.2 ∧ q.2.2 ≤ l.Layers) ∧ q.2.1 = false ∧ Bag (fun f => F f ∨ ∃ v, (1 ≤ v ∧ v < q.2.2) ∧ F4L l v f) q.1) (fun q => (l.Layers - q.2.2).toNat) ⟨⟨by simp, by simp only; omega⟩, rfl, hB.congr fun f => ?_⟩ (by simp only; omega) ?_
  · constructor
    · exact .inl
    · rintro (h | ⟨v, h, _⟩)
      · exact h
      · dsimp only at h; omega
  rintro ⟨bs, b, y⟩ ⟨⟨y0, y1⟩, rfl, hb⟩
  dsimp only at y0 y1 hb
  unfold P_rules_small_L2
  dsimp only
  have tofs : ∀ f v, 1 ≤ v ∧ v < l.Layers → F4L l v f → FS l f := fun f v hv h => by
    obtain ⟨n, p, h1, h2, h3⟩ := h
    exact .inr (.inr (.inr (.inl ⟨v, n, p, hv, h1, h2, h3⟩)))
  refine nok_ite (fun hlt => ?_) (fun hge => nok_ret ⟨rfl, hb.congr fun f => ?_⟩)
  · refine nok_bo (groups_ok (by omega) (fun s hs => by have := hl.spots hs; omega) y) fun G hG => nok_bd (small8_ok hl y hG) fun r hr => ?_
    have hspl : r.1.length ≤ 1000 := by
      have h1 : (r.1.map (·.1)).length ≤ G.length := nodup_le hr.ks fun k hk => by
        obtain ⟨i, p, hi, _, e⟩ := (hr.key k).1 (mhas_mem.2 hk)
        rw [← e]; exact gt_mem ⟨by omega, by rw [hG.1]; omega⟩
      rw [List.length_map, hG.1] at h1
      omega
    refine nok_bd (small19_ok hl (F := fun f => F f ∨ ∃ v, (1 ≤ v ∧ v < y) ∧ F4L l v f) (fun f h => ?_) ⟨y0, hlt⟩ hG hr hspl hb) ?_
    · rcases h with h | ⟨v, hv, h⟩
      · exact hF f h
      · exact tofs f v ⟨hv.1, by omega⟩ h
    rintro ⟨s, b⟩ ⟨rfl, hs⟩
    refine nok_ar (by unfold I64; omega) (nok_ret ⟨⟨⟨by dsimp only; omega, by dsimp only; omega⟩, rfl, hs.congr fun f => ?_⟩, by dsimp only; omega⟩)
    dsimp only
    constructor
    · rintro ((h | ⟨v, hv, h⟩) | h)
      · exact .inl h
      · exact .inr ⟨v, ⟨hv.1, by omega⟩, h⟩
      · exact .inr ⟨y, ⟨y0, by omega⟩, h⟩
    · rintro (h | ⟨v, hv, h⟩)
      · exact .inl (.inl h)
      · by_cases e : v = y
        · subst e; exact .inr h
        · exact .inl (.inr ⟨v, ⟨hv.1, by omega⟩, h⟩)
  · constructor
    · rintro (h | ⟨v, hv, n, p, h⟩)
      · exact .inl h
      · exact .inr ⟨v, n, p, ⟨hv.1, by omega⟩, h⟩
    · rintro (h | ⟨v, n, p, hv, h⟩)
      · exact .inl h
      · exact .inr ⟨v, ⟨hv.1, by omega⟩, n, p, h⟩
end
end Go.Proofs.Ytnnmbmgnpdcefaa.X
