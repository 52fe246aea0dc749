/- global.Check of ways that are trees. Plain. -/
/- global.Route. Plain. -/
/- GlobalRoutes. Plain. -/
import Derived.Test.YtgmjhlpjlggpiaaDoorMM
namespace Go.Proofs.YtgmjhlpjlggpiaaDoor.X
open Go Go.RowKit
set_option linter.unusedVariables false
set_option linter.unusedSimpArgs false
set_option linter.unusedSectionVars false
/-- How often a border lies in the ways. -/
def lcnt : List (List T_global_Edge) → T_global_Edge → Int
  | [], _ => 0
  | w :: ws, e => (w.count e : Int) + lcnt ws e
theorem lcnt_nil (e : T_global_Edge) : lcnt [] e = 0 := rfl
theorem lcnt_cons (w : List T_global_Edge) (ws : List (List T_global_Edge)) (e : T_global_Edge) : lcnt (w :: ws) e = (w.count e : Int) + lcnt ws e := rfl
theorem lcnt_nn (ws : List (List T_global_Edge)) (e : T_global_Edge) : 0 ≤ lcnt ws e := by
  induction ws with
  | nil => exact Int.le_refl _
  | cons w ws ih => rw [lcnt_cons]; omega
theorem count_le1 {w : List T_global_Edge} (h : w.Nodup) (e : T_global_Edge) : w.count e ≤ 1 := by
  exact List.nodup_iff_count.1 h e
theorem lcnt_le {ws : List (List T_global_Edge)} (h : ∀ w ∈ ws, w.Nodup) (e : T_global_Edge) : lcnt ws e ≤ ws.length := by
  induction ws with
  | nil => exact Int.le_refl _
  | cons w ws ih =>
    have h1 := ih fun v hv => h v (List.mem_cons_of_mem _ hv)
    have h2 := count_le1 (h w List.mem_cons_self) e
    rw [lcnt_cons, List.length_cons]; omega
theorem lcnt_snoc (ws : List (List T_global_Edge)) (w : List T_global_Edge) (e : T_global_Edge) : lcnt (ws ++ [w]) e = lcnt ws e + w.count e := by
  induction ws with
  | nil => rw [List.nil_append, lcnt_cons, lcnt_nil]; omega
  | cons v ws ih => rw [List.cons_append, lcnt_cons, lcnt_cons, ih]; omega
theorem lcnt_set {ws : List (List T_global_Edge)} {i : Nat} (hi : i < ws.length) (w : List T_global_Edge) (e : T_global_Edge) : lcnt (ws.set i w) e = lcnt ws e - (ws[i].count e : Int) + w.count e := by
  induction ws generalizing i with
  | nil => simp at hi
  | cons v ws ih =>
    cases i with
    | zero => rw [List.set_cons_zero, lcnt_cons, lcnt_cons]; simp only [List.getElem_cons_zero]; omega
    | succ i =>
      rw [List.set_cons_succ, lcnt_cons, lcnt_cons, ih (by simpa using hi)]
      simp only [List.getElem_cons_succ]; omega
theorem lcnt_stt {ws : List (List T_global_Edge)} {y : Int} (hy : inb y ws.length) (w : List T_global_Edge) (e : T_global_Edge) : lcnt (stt ws y w) e = lcnt ws e - ((gt ws y).count e : Int) + w.count e := by
  unfold stt
  rw [lcnt_set (inb_lt hy), gt_get hy]
theorem WayOf.edges {f : T_floor_Floor} {n : T_legal_Net} {out : List T_global_Edge} (h : WayOf f n out) : out.Nodup ∧ ∀ e ∈ out, IsE (Cc f) (Rr f) e := by
  obtain ⟨root, H, ht, _⟩ := h.tree
  exact ht.edges
theorem WayOf.len {f : T_floor_Floor} (hf : FlN f) {n : T_legal_Net} {out : List T_global_Edge} (h : WayOf f n out) : out.length ≤ 24 := by
  obtain ⟨root, H, ht, _⟩ := h.tree
  exact ht.few hf.grid
/-- A load's borders. -/
structure LoadI (f : T_floor_Floor) (ld : List (T_global_Edge × Int)) (c : T_global_Edge → Int) : Prop where
  ks : Ks ld
  k : ∀ e, mhas e ld = true → IsE (Cc f) (Rr f) e
  v : ∀ e, mget e ld 0 = c e
theorem LoadI.cg {f : T_floor_Floor} {ld : List (T_global_Edge × Int)} {c c' : T_global_Edge → Int} (h : LoadI f ld c) (e : ∀ x, c x = c' x) : LoadI f ld c' := ⟨h.ks, h.k, fun x => (h.v x).trans (e x)⟩
theorem LoadI.few {f : T_floor_Floor} (hf : FlN f) (hp : f.Ports = []) {ld : List (T_global_Edge × Int)} {c : T_global_Edge → Int} (h : LoadI f ld c) : ld.length ≤ 100 := by
  obtain ⟨r, _, h1, h2⟩ := Edges_ok hf hp
  have := nodup_le (m := r) h.ks fun x hx => (h2 x).2 (h.k x (mhas_mem.2 hx))
  simp only [List.length_map] at this; omega
theorem LoadI.put {f : T_floor_Floor} {ld : List (T_global_Edge × Int)} {c : T_global_Edge → Int} (h : LoadI f ld c) {e : T_global_Edge} (he : IsE (Cc f) (Rr f) e) (u v : Int) : LoadI f (mput e v (mput e u ld)) (fun x => if x = e then v else c x) := by
  refine ⟨h.ks.put.put, fun x hx => ?_, fun x => ?_⟩
  · rcases has_mput.1 hx with rfl | hx
    · exact he
    · rcases has_mput.1 hx with rfl | hx
      · exact he
      · exact h.k x hx
  · rw [mget_mput, mget_mput]
    by_cases q : x = e
    · rw [if_pos q, if_pos q]
    · rw [if_neg q, if_neg q, if_neg q]; exact h.v x
theorem count_snoc {w : List T_global_Edge} {y : Int} (hy : inb y w.length) (x : T_global_Edge) : ((w.take (y + 1).toNat).count x : Int) = (w.take y.toNat).count x + if x = gt w y then 1 else 0 := by
  rw [take_snoc hy, List.count_append]
  by_cases q : x = gt w y
  · subst q; simp
  · have : [gt w y].count x = 0 := List.count_eq_zero_of_not_mem (by simpa using q)
    rw [if_neg q, this]; simp
theorem Contains_ok {xs : List T_global_Edge} {v : T_global_Edge} (hl : xs.length ≤ 1000) (hn : v ∉ xs) : Ok (P_slices_Contains_global_Edge_global_Edge xs v) (fun r => r = false) := by
  unfold P_slices_Contains_global_Edge_global_Edge
  refine ok_bd (R := fun r => r = -1) ?_ ?_
  · unfold P_slices_Index_global_Edge_global_Edge
    refine ok_bs1 (R := fun _ => True) ?_ fun _ _ => ok_some rfl
    refine ok_lp (fun y => 0 ≤ y ∧ y ≤ xs.length) (fun y => ((xs.length : Int) - y).toNat) ⟨by omega, by omega⟩ (by omega) ?_
    rintro y ⟨y0, y1⟩
    unfold P_slices_Index_global_Edge_global_Edge_L2
    refine ok_ite (fun hlt => ?_) (fun hge => ok_some ⟨(), rfl, trivial⟩)
    have hy : inb y xs.length := ⟨y0, hlt⟩
    refine ok_ck hy (ok_lv (ok_lv (ok_f (fun e => hn ?_) (ok_ar (by unfold I64; omega) (ok_some ⟨⟨by omega, by omega⟩, by omega⟩)))))
    simp only [Bool.and_eq_true, beq_iff_eq, and_true] at e
    have : v = gt xs y := by
      cases hv : v; cases hg : gt xs y
      rw [hv, hg] at e
      simp only at e
      rw [e.1, e.2]
    rw [this]; exact gt_mem hy
  rintro _ rfl
  exact ok_some (by simp)
theorem Load_ok {f : T_floor_Floor} (hf : FlN f) {ws : List (List T_global_Edge)} (hl : ws.length ≤ 12) (hw : ∀ w ∈ ws, w.length ≤ 24 ∧ ∀ e ∈ w, IsE (Cc f) (Rr f) e) : Ok (P_global_Load ws) (fun r => LoadI f r (lcnt ws)) := by
  unfold P_global_Load
  refine ok_bd (R := fun r => LoadI f r (lcnt ws)) ?_ fun r h => ok_some h
  refine ok_lp (fun s => (0 ≤ s.2 ∧ s.2 ≤ ws.length) ∧ LoadI f s.1 (lcnt (ws.take s.2.toNat)) ∧ ∀ e, mget e s.1 0 ≤ 24 * s.2) (fun s => ((ws.length : Int) - s.2).toNat) ⟨⟨by simp, by simp⟩, ⟨Ks.nil, fun e he => by simp [mhas, mfind] at he, fun e => by simp [mget, mfind, lcnt]⟩, fun e => by simp [mget, mfind]⟩ (by simp only; omega) ?_
  rintro ⟨ld, y⟩ ⟨⟨y0, y1⟩, hi, hb⟩
  dsimp only at y0 y1 hi hb
  unfold P_global_Load_L3
  dsimp only
  refine ok_ite (fun hlt => ?_) (fun hge => ok_some (by rw [List.take_of_length_le (by omega)] at hi; exact hi))
  have hy : inb y ws.length := ⟨y0, hlt⟩
  obtain ⟨w1, w2⟩ := hw _ (gt_mem hy)
  refine ok_ck hy (ok_lv (ok_bd (R := fun r => LoadI f r (lcnt (ws.take (y + 1).toNat)) ∧ ∀ e, mget e r 0 ≤ 24 * (y + 1)) ?_ fun r h => ok_ar (by unfold I64; omega) (ok_some ⟨⟨⟨by dsimp only; omega, by dsimp only; omega⟩, h⟩, by dsimp only; omega⟩)))
  refine ok_lp (fun s => (0 ≤ s.2 ∧ s.2 ≤ (gt ws y).length) ∧ LoadI f s.1 (fun e => lcnt (ws.take y.toNat) e + ((gt ws y).take s.2.toNat).count e)) (fun s => (((gt ws y).length : Int) - s.2).toNat) ⟨⟨by simp, by simp⟩, hi.cg fun e => by simp⟩ (by simp only; omega) ?_
  rintro ⟨m, z⟩ ⟨⟨z0, z1⟩, hm⟩
  dsimp only at z0 z1 hm
  unfold P_global_Load_L6
  dsimp only
  have hcl : ∀ e, (((gt ws y).take z.toNat).count e : Int) ≤ 24 := fun e => by
    have := List.count_le_length (a := e) (l := (gt ws y).take z.toNat)
    rw [List.length_take] at this; omega
  have hnn := lcnt_nn (ws.take y.toNat)
  have hbb : ∀ e, lcnt (ws.take y.toNat) e ≤ 24 * y := fun e => by rw [← hi.v]; exact hb e
  refine ok_ite (fun hz => ?_) (fun hz => ok_some ?_)
  · have hzz : inb z (gt ws y).length := ⟨z0, hz⟩
    refine ok_ck hzz (ok_lv (ok_lv (ok_ar ?_ (ok_lv (ok_lv (ok_lv (ok_ar (by unfold I64; omega) (ok_some ⟨⟨⟨by dsimp only; omega, by dsimp only; omega⟩, ?_⟩, by dsimp only; omega⟩))))))))
    · rw [hm.v]
      have h1 := hcl (gt (gt ws y) z)
      have h2 := hnn (gt (gt ws y) z)
      have h3 := hbb (gt (gt ws y) z)
      unfold I64; omega
    · dsimp only
      refine (hm.put (w2 _ (gt_mem hzz)) _ _).cg fun x => ?_
      rw [count_snoc hzz, hm.v]
      by_cases q : x = gt (gt ws y) z
      · subst q; rw [if_pos rfl, if_pos rfl]; omega
      · rw [if_neg q, if_neg q]; omega
  · rw [List.take_of_length_le (l := gt ws y) (by omega)] at hm
    rw [take_snoc hy]
    refine ⟨hm.cg fun x => (lcnt_snoc _ _ _).symm, fun e => ?_⟩
    rw [hm.v]
    have h1 := List.count_le_length (a := e) (l := gt ws y)
    have h3 := hbb e
    omega
def roomV (f : T_floor_Floor) (e : T_global_Edge) : Int := (P_global_Room f e).getD 0
theorem IsE.small {f : T_floor_Floor} (hf : FlN f) {e : T_global_Edge} (h : IsE (Cc f) (Rr f) e) : (-1000 ≤ e.From ∧ e.From ≤ 1000) ∧ (-1000 ≤ e.To ∧ e.To ≤ 1000) := by
  have h1 := h.rng hf.grid
  have h2 := hf.grid.le
  omega
theorem roomV_ok {f : T_floor_Floor} (hf : FlN f) (hp : f.Ports = []) {e : T_global_Edge} (he : IsE (Cc f) (Rr f) e) : Ok (P_global_Room f e) (fun r => r = roomV f e ∧ 0 ≤ r ∧ r ≤ 100) := by
  obtain ⟨h1, h2⟩ := he.small hf
  obtain ⟨r, hr, h3, _⟩ := Room_ok hf hp h1 h2
  exact ok_eq hr ⟨by unfold roomV; rw [hr]; rfl, h3⟩
theorem Loop_nets {f : T_floor_Floor} (hf : FlN f) (hp : f.Ports = []) {nets : List T_legal_Net} (hl : nets.length ≤ 12) (hn : ∀ n ∈ nets, PinsIn f n) : Ok (P_global_checkNets f nets) (fun r => r = 0) := by
  unfold P_global_checkNets
  refine ok_bd (FCheck0 hf hp) ?_
  rintro _ rfl
  refine ok_f (by simp) (ok_f (by omega) (ok_bd (Size_ok hf.R hf.S) ?_))
  rintro _ rfl
  refine ok_bs1 (R := fun _ => True) ?_ fun _ _ => ok_some rfl
  refine ok_lp (fun s => (0 ≤ s.2 ∧ s.2 ≤ nets.length) ∧ 0 ≤ s.1 ∧ s.1 ≤ 10 * s.2) (fun s => ((nets.length : Int) - s.2).toNat) ⟨⟨by simp, by simp⟩, by simp, by simp⟩ (by simp only; omega) ?_
  rintro ⟨m, y⟩ ⟨⟨y0, y1⟩, m0, m1⟩
  dsimp only at y0 y1 m0 m1
  unfold P_global_checkNets_L9
  dsimp only
  refine ok_ite (fun hlt => ?_) (fun hge => ok_some ⟨(), rfl, trivial⟩)
  have hy : inb y nets.length := ⟨y0, hlt⟩
  obtain ⟨p1, p2⟩ := hn _ (gt_mem hy)
  refine ok_ck hy (ok_lv (ok_ar (by unfold I64; omega) (ok_f (by omega) ?_)))
  refine ok_bs1 (R := fun _ => True) ?_ fun _ _ => ok_ar (by unfold I64; omega) (ok_some ⟨⟨⟨by dsimp only; omega, by dsimp only; omega⟩, by dsimp only; omega, by dsimp only; omega⟩, by dsimp only; omega⟩)
  refine ok_lp (fun z => 0 ≤ z ∧ z ≤ (gt nets y).Pins.length) (fun z => (((gt nets y).Pins.length : Int) - z).toNat) ⟨by omega, by omega⟩ (by omega) ?_
  rintro z ⟨z0, z1⟩
  unfold P_global_checkNets_L15
  refine ok_ite (fun hlt => ?_) (fun hge => ok_some ⟨(), rfl, trivial⟩)
  have hz : inb z (gt nets y).Pins.length := ⟨z0, hlt⟩
  obtain ⟨q1, q2⟩ := p2 _ (gt_mem hz)
  exact ok_ck hz (ok_lv (ok_lv (ok_lv (ok_lv (ok_f (by simp only [Bool.or_eq_true, decide_eq_true_eq]; omega) (ok_ar (by unfold I64; omega) (ok_some ⟨⟨by omega, by omega⟩, by omega⟩)))))))
/-- The ways of the nets. -/
def Ways (f : T_floor_Floor) (nets : List T_legal_Net) (ws : List (List T_global_Edge)) : Prop := ws.length = nets.length ∧ ∀ i, inb i ws.length → WayOf f (gt nets i) (gt ws i)
theorem Ways.each {f : T_floor_Floor} {nets : List T_legal_Net} {ws : List (List T_global_Edge)} (h : Ways f nets ws) : ∀ w ∈ ws, ∃ n, WayOf f n w := fun w hw => by
  obtain ⟨i, hi, rfl⟩ := List.getElem_of_mem hw
  have := h.2 (i : Int) ⟨by omega, by omega⟩
  rw [gt_nth' hi] at this
  exact ⟨_, this⟩
theorem Check_ok {f : T_floor_Floor} (hf : FlN f) (hp : f.Ports = []) {nets : List T_legal_Net} (hl : nets.length ≤ 12) (hn : ∀ n ∈ nets, PinsIn f n) {ws : List (List T_global_Edge)} (hw : Ways f nets ws) (hc : ∀ e, IsE (Cc f) (Rr f) e → lcnt ws e ≤ roomV f e) : NOk (P_global_Check f nets ws) (fun r => r = 0) := by
  unfold P_global_Check
  refine nok_bo (Loop_nets hf hp hl hn) ?_
  rintro _ rfl
  have hwl := hw.1
  refine nok_f (by simp) (nok_f (by omega) (nok_bs1 (S := fun _ => True) ?_ fun _ _ => ?_))
  · refine nok_lp (fun y => 0 ≤ y ∧ y ≤ ws.length) (fun y => ((ws.length : Int) - y).toNat) ⟨by omega, by omega⟩ (by omega) ?_
    rintro y ⟨y0, y1⟩
    unfold P_global_Check_L7
    refine nok_ite (fun hlt => ?_) (fun hge => nok_ret ⟨(), rfl, trivial⟩)
    have hy : inb y ws.length := ⟨y0, hlt⟩
    have hy' : inb y nets.length := ⟨y0, by omega⟩
    have hwy := hw.2 y hy
    have hwl := hwy.len hf
    obtain ⟨e1, e2⟩ := hwy.edges
    refine nok_ck hy (nok_lv (nok_bs1 (S := fun _ => True) ?_ fun _ _ => nok_ck hy' (nok_lv (nok_bo (joins_ok hf (hn _ (gt_mem hy')) hwy) ?_))))
    · refine nok_lp (fun z => 0 ≤ z ∧ z ≤ (gt ws y).length) (fun z => (((gt ws y).length : Int) - z).toNat) ⟨by omega, by omega⟩ (by omega) ?_
      rintro z ⟨z0, z1⟩
      unfold P_global_Check_L10
      refine nok_ite (fun hlt => ?_) (fun hge => nok_ret ⟨(), rfl, trivial⟩)
      have hz : inb z (gt ws y).length := ⟨z0, hlt⟩
      have he := e2 _ (gt_mem hz)
      obtain ⟨s1, s2⟩ := he.small hf
      refine nok_ck hz (nok_lv (nok_bo (isEdge_ok hf s1 s2) fun r hr => ?_))
      have hrt := hr.2 he
      subst hrt
      refine nok_f (by simp) (nok_ck ⟨by omega, by omega, by omega⟩ (nok_lv (nok_bo (Contains_ok (by unfold sub; simp only [List.length_take, List.length_drop]; omega) fun hm => ?_) ?_)))
      · have hs : sub (gt ws y) 0 z = (gt ws y).take z.toNat := by unfold sub; simp
        rw [hs] at hm
        have := e1.sublist (List.take_sublist (z + 1).toNat _)
        rw [take_snoc hz] at this
        exact (List.nodup_append.1 this).2.2 _ hm _ (by simp) rfl
      · rintro _ rfl
        exact nok_f (by simp) (nok_ar (by unfold I64; omega) (nok_ret ⟨⟨by omega, by omega⟩, by omega⟩))
    · rintro _ rfl
      exact nok_f (by simp) (nok_ar (by unfold I64; omega) (nok_ret ⟨⟨by omega, by omega⟩, by omega⟩))
  · refine nok_bo (Load_ok hf (by omega) fun w hm => ?_) fun ld hld => ?_
    · obtain ⟨n, h⟩ := hw.each w hm
      exact ⟨h.len hf, h.edges.2⟩
    · refine nok_bs1 (S := fun _ => True) ?_ fun _ _ => nok_ret rfl
      refine nok_lp (fun s => s.Nodup ∧ ∀ i ∈ s, i < ld.length) (fun s => ld.length - s.length) ⟨List.nodup_nil, fun i hi => by simp at hi⟩ (by have := hld.few hf hp; omega) ?_
      rintro s ⟨s1, s2⟩
      unfold P_global_Check_L22
      refine nok_nx (fun hall => nok_ret ⟨(), rfl, trivial⟩) fun i hi hni => nok_lv ?_
      have he := hld.k _ (mhas_at hi)
      refine nok_bo (roomV_ok hf hp he) ?_
      rintro r ⟨rfl, _⟩
      have hv := hld.ks.mget_at hi 0
      rw [hld.v] at hv
      have := hc _ he
      exact nok_f (by rw [← hv]; omega) (nok_ret ⟨seen_add s1 s2 hi hni, seen_dec s1 s2 hi hni⟩)
end Go.Proofs.YtgmjhlpjlggpiaaDoor.X
namespace Go.Proofs.YtgmjhlpjlggpiaaDoor.X
open Go Go.RowKit
set_option linter.unusedVariables false
set_option linter.unusedSimpArgs false
set_option linter.unusedSectionVars false
theorem Ks.inj {κ α : Type} [Inhabited κ] [Inhabited α] {es : List (κ × α)} (h : Ks es) {i j : Nat} (hi : i < es.length) (hj : j < es.length) (e : (gt es (i : Int)).1 = (gt es (j : Int)).1) : i = j := by
  rw [gt_nth' hi, gt_nth' hj] at e
  have hp := List.pairwise_iff_getElem.1 (show List.Pairwise (· ≠ ·) (es.map (·.1)) from h)
  rcases Nat.lt_trichotomy i j with q | q | q
  · exact absurd (by rw [List.getElem_map, List.getElem_map]; exact e) (hp i j (by simpa using hi) (by simpa using hj) q)
  · exact q
  · exact absurd (by rw [List.getElem_map, List.getElem_map]; exact e.symm) (hp j i (by simpa using hj) (by simpa using hi) q)
section
variable {f : T_floor_Floor}
theorem L19_ok {ld : List (T_global_Edge × Int)} {c : T_global_Edge → Int} {w : List T_global_Edge} (h : LoadI f ld c) (hc : ∀ e, -1000 ≤ c e ∧ c e ≤ 1000) (hl : w.length ≤ 24) (he : ∀ e ∈ w, IsE (Cc f) (Rr f) e) : NOk (nlp (P_global_Route_L19 w) fuel (0, ld)) (fun r => LoadI f r (fun e => c e - w.count e)) := by
  refine nok_lp (fun s => (0 ≤ s.1 ∧ s.1 ≤ w.length) ∧ LoadI f s.2 (fun e => c e - (w.take s.1.toNat).count e)) (fun s => ((w.length : Int) - s.1).toNat) ⟨⟨by simp, by simp⟩, h.cg fun e => by simp⟩ (by simp only; omega) ?_
  rintro ⟨z, m⟩ ⟨⟨z0, z1⟩, hm⟩
  dsimp only at z0 z1 hm
  unfold P_global_Route_L19
  dsimp only
  refine nok_ite (fun hz => ?_) (fun hz => nok_ret (by rw [List.take_of_length_le (by omega)] at hm; exact hm))
  have hzz : inb z w.length := ⟨z0, hz⟩
  have h1 := hc (gt w z)
  have h2 := List.count_le_length (a := gt w z) (l := w.take z.toNat)
  rw [List.length_take] at h2
  refine nok_ck hzz (nok_lv (nok_lv (nok_ar (by rw [hm.v]; unfold I64; omega) (nok_lv (nok_lv (nok_lv (nok_ar (by unfold I64; omega) (nok_ret ⟨⟨⟨by dsimp only; omega, by dsimp only; omega⟩, ?_⟩, by dsimp only; omega⟩))))))))
  dsimp only
  refine (hm.put (he _ (gt_mem hzz)) _ _).cg fun x => ?_
  rw [count_snoc hzz, hm.v]
  by_cases q : x = gt w z
  · subst q; rw [if_pos rfl, if_pos rfl]; omega
  · rw [if_neg q, if_neg q]; omega
theorem L25_ok {ld : List (T_global_Edge × Int)} {c : T_global_Edge → Int} {w : List T_global_Edge} (h : LoadI f ld c) (hc : ∀ e, -1000 ≤ c e ∧ c e ≤ 1000) (hl : w.length ≤ 24) (he : ∀ e ∈ w, IsE (Cc f) (Rr f) e) : NOk (nlp (P_global_Route_L25 w) fuel (0, ld)) (fun r => LoadI f r (fun e => c e + w.count e)) := by
  refine nok_lp (fun s => (0 ≤ s.1 ∧ s.1 ≤ w.length) ∧ LoadI f s.2 (fun e => c e + (w.take s.1.toNat).count e)) (fun s => ((w.length : Int) - s.1).toNat) ⟨⟨by simp, by simp⟩, h.cg fun e => by simp⟩ (by simp only; omega) ?_
  rintro ⟨z, m⟩ ⟨⟨z0, z1⟩, hm⟩
  dsimp only at z0 z1 hm
  unfold P_global_Route_L25
  dsimp only
  refine nok_ite (fun hz => ?_) (fun hz => nok_ret (by rw [List.take_of_length_le (by omega)] at hm; exact hm))
  have hzz : inb z w.length := ⟨z0, hz⟩
  have h1 := hc (gt w z)
  have h2 := List.count_le_length (a := gt w z) (l := w.take z.toNat)
  rw [List.length_take] at h2
  refine nok_ck hzz (nok_lv (nok_lv (nok_ar (by rw [hm.v]; unfold I64; omega) (nok_lv (nok_lv (nok_lv (nok_ar (by unfold I64; omega) (nok_ret ⟨⟨⟨by dsimp only; omega, by dsimp only; omega⟩, ?_⟩, by dsimp only; omega⟩))))))))
  dsimp only
  refine (hm.put (he _ (gt_mem hzz)) _ _).cg fun x => ?_
  rw [count_snoc hzz, hm.v]
  by_cases q : x = gt w z
  · subst q; rw [if_pos rfl, if_pos rfl]; omega
  · rw [if_neg q, if_neg q]; omega
theorem crowded_ok {rm ld ps : List (T_global_Edge × Int)} {w : List T_global_Edge} (hl : w.length ≤ 24) : Ok (P_global_plan_crowded f.Rows f.Sites f.Layers f.Blocks f.Walls f.Ports rm ld ps w) (fun _ => True) := by
  unfold P_global_plan_crowded
  refine ok_bs (R := fun _ => True) ?_ (fun _ _ => ok_some trivial) fun _ _ => ok_some trivial
  refine ok_lp (fun y => 0 ≤ y ∧ y ≤ w.length) (fun y => ((w.length : Int) - y).toNat) ⟨by omega, by omega⟩ (by omega) ?_
  rintro y ⟨y0, y1⟩
  unfold P_global_plan_crowded_L2
  exact ok_ite (fun hlt => ok_ck ⟨y0, hlt⟩ (ok_lv (ok_lv (ok_lv (ok_ite (fun _ => ok_some trivial) fun _ => ok_ar (by unfold I64; omega) (ok_some ⟨⟨by omega, by omega⟩, by omega⟩)))))) fun _ => ok_some trivial
/-- The ways of round rd, up to net y. -/
def WI (f : T_floor_Floor) (nets : List T_legal_Net) (rd y : Int) (ws : List (List T_global_Edge)) : Prop := ws.length = nets.length ∧ ∀ i, inb i ws.length → WayOf f (gt nets i) (gt ws i) ∨ (rd = 0 ∧ y ≤ i ∧ gt ws i = [])
theorem WI.each (hf : FlN f) {nets : List T_legal_Net} {rd y : Int} {ws : List (List T_global_Edge)} (h : WI f nets rd y ws) {i : Int} (hi : inb i ws.length) : (gt ws i).length ≤ 24 ∧ (gt ws i).Nodup ∧ ∀ e ∈ gt ws i, IsE (Cc f) (Rr f) e := by
  rcases h.2 i hi with h | ⟨_, _, h⟩
  · exact ⟨h.len hf, h.edges.1, h.edges.2⟩
  · rw [h]; exact ⟨Nat.zero_le _, List.nodup_nil, fun e he => by cases he⟩
theorem WI.lcnt (hf : FlN f) {nets : List T_legal_Net} {rd y : Int} {ws : List (List T_global_Edge)} (h : WI f nets rd y ws) (hl : nets.length ≤ 12) (e : T_global_Edge) : 0 ≤ lcnt ws e ∧ lcnt ws e ≤ nets.length := by
  have := lcnt_le (ws := ws) (fun w hw => by
    obtain ⟨i, hi, rfl⟩ := List.getElem_of_mem hw
    have := (h.each hf (i := (i : Int)) ⟨by omega, by omega⟩).2.1
    rw [gt_nth' hi] at this; exact this) e
  rw [h.1] at this
  exact ⟨lcnt_nn ws e, this⟩
theorem gt_stt' {α : Type} [Inhabited α] {xs : List α} {y i : Int} {v : α} (hy : inb y xs.length) (hi : inb i xs.length) : gt (stt xs y v) i = if i = y then v else gt xs i := by
  have hi' : inb i (stt xs y v).length := by rw [stt_length]; exact hi
  rw [gt_get hi', gt_get hi]
  unfold stt
  rw [List.getElem_set]
  have h1 := hy.1
  have h2 := hi.1
  by_cases q : i = y
  · rw [if_pos q, if_pos (by rw [q])]
  · rw [if_neg q, if_neg (by omega)]
/-- Rooms as the plan holds them. -/
def RM (f : T_floor_Floor) (rm : List (T_global_Edge × Int)) : Prop := Bd rm ∧ ∀ e, IsE (Cc f) (Rr f) e → mget e rm 0 = roomV f e
theorem L6_ok (hf : FlN f) (hp : f.Ports = []) {es : List T_global_Edge} (hl : es.length ≤ 100) (he : ∀ e, e ∈ es ↔ IsE (Cc f) (Rr f) e) : NOk (nlp (P_global_Route_L6 f es) fuel (0, [])) (RM f) := by
  refine nok_lp (fun s => (0 ≤ s.1 ∧ s.1 ≤ es.length) ∧ Bd s.2 ∧ ∀ e ∈ es.take s.1.toNat, mget e s.2 0 = roomV f e) (fun s => ((es.length : Int) - s.1).toNat) ⟨⟨by simp, by simp⟩, fun e => by simp [mget, mfind], fun e he => by simp at he⟩ (by simp only; omega) ?_
  rintro ⟨y, m⟩ ⟨⟨y0, y1⟩, h1, h2⟩
  dsimp only at y0 y1 h1 h2
  unfold P_global_Route_L6
  dsimp only
  refine nok_ite (fun hlt => ?_) (fun hge => nok_ret ⟨h1, fun e h => ?_⟩)
  · have hy : inb y es.length := ⟨y0, hlt⟩
    refine nok_ck hy (nok_lv (nok_bo (roomV_ok hf hp ((he _).1 (gt_mem hy))) ?_))
    rintro r ⟨rfl, r0, r1⟩
    refine nok_lv (nok_ar (by unfold I64; omega) (nok_ret ⟨⟨⟨by dsimp only; omega, by dsimp only; omega⟩, fun e => ?_, fun e h => ?_⟩, by dsimp only; omega⟩))
    · dsimp only
      rw [mget_mput]
      by_cases q : e = gt es y
      · rw [if_pos q]; exact ⟨r0, r1⟩
      · rw [if_neg q]; exact h1 e
    · dsimp only at h ⊢
      rw [mget_mput]
      by_cases q : e = gt es y
      · rw [if_pos q, q]
      · rw [if_neg q]
        rcases (mem_take hy).1 h with h | h
        · exact h2 e h
        · exact absurd h q
  · rw [List.take_of_length_le (by omega)] at h2
    exact h2 e ((he e).2 h)
/-- A border that the nets would overload. -/
def Tight (f : T_floor_Floor) (nets : List T_legal_Net) : Prop := ∃ e, IsE (Cc f) (Rr f) e ∧ roomV f e < nets.length
theorem L32_ok (hf : FlN f) (hp : f.Ports = []) {nets : List T_legal_Net} {rm ld ps : List (T_global_Edge × Int)} {c : T_global_Edge → Int} {n : Int} (hr : RM f rm) (hl : LoadI f ld c) (hc : ∀ e, 0 ≤ c e ∧ c e ≤ nets.length) (hps : ∀ e, 0 ≤ mget e ps 0 ∧ mget e ps 0 ≤ n) (hn : n ≤ 50) (h0 : 0 ≤ n) :
    NOk (nlp (P_global_Route_L32 rm ld) fuel (true, [], ps)) (fun r => (r.1 = true → ∀ e, IsE (Cc f) (Rr f) e → c e ≤ roomV f e) ∧ (r.1 = false → Tight f nets) ∧ ∀ e, 0 ≤ mget e r.2 0 ∧ mget e r.2 0 ≤ n + 1) := by
  refine nok_lp (fun s => s.2.1.Nodup ∧ (∀ i ∈ s.2.1, i < ld.length) ∧ (s.1 = true → ∀ i ∈ s.2.1, (gt ld (i : Int)).2 ≤ roomV f (gt ld (i : Int)).1) ∧ (s.1 = false → Tight f nets) ∧ ∀ e, 0 ≤ mget e s.2.2 0 ∧ mget e s.2.2 0 ≤ n + 1 ∧ ((∀ i ∈ s.2.1, (gt ld (i : Int)).1 ≠ e) → mget e s.2.2 0 ≤ n)) (fun s => ld.length - s.2.1.length)
    ⟨List.nodup_nil, fun i hi => (by simp at hi), fun _ i hi => (by simp at hi), fun h => (by cases h), fun e => by have := hps e; exact ⟨this.1, by dsimp only; omega, fun _ => this.2⟩⟩ (by have := hl.few hf hp; simp only; omega) ?_
  rintro ⟨full, sn, m⟩ ⟨s1, s2, s3, s4, s5⟩
  dsimp only at s1 s2 s3 s4 s5
  unfold P_global_Route_L32
  dsimp only
  refine nok_nx (fun hall => nok_ret ⟨fun hf => ?_, s4, fun e => ⟨(s5 e).1, (s5 e).2.1⟩⟩) fun i hi hni => nok_lv (nok_lv ?_)
  · intro e he
    rw [← hl.v]
    by_cases q : mhas e ld = true
    · obtain ⟨i, hi, rfl⟩ := mhas_idx q
      rw [hl.ks.mget_at hi]
      exact s3 hf i (hall i hi)
    · rw [mget_no (by simpa using q), ← hr.2 e he]
      exact (hr.1 e).1
  obtain ⟨a1, a2⟩ := seen_add s1 s2 hi hni
  have he := hl.k _ (mhas_at hi)
  have hv := hl.ks.mget_at hi 0
  have hcv := hl.v (gt ld (i : Int)).1
  have hfresh : ∀ j ∈ sn, (gt ld (j : Int)).1 ≠ (gt ld (i : Int)).1 := fun j hj e => hni (hl.ks.inj (s2 j hj) hi e ▸ hj)
  have hold : ∀ {e}, (∀ j ∈ sn ++ [i], (gt ld (j : Int)).1 ≠ e) → ∀ j ∈ sn, (gt ld (j : Int)).1 ≠ e := fun h j hj => h j (List.mem_append_left _ hj)
  refine nok_bd (S := fun s => (s.1 = true → ∀ j ∈ sn ++ [i], (gt ld (j : Int)).2 ≤ roomV f (gt ld (j : Int)).1) ∧ (s.1 = false → Tight f nets) ∧ ∀ e, 0 ≤ mget e s.2 0 ∧ mget e s.2 0 ≤ n + 1 ∧ ((∀ j ∈ sn ++ [i], (gt ld (j : Int)).1 ≠ e) → mget e s.2 0 ≤ n)) (nok_ite (fun hlt => ?_) (fun hge => nok_ret ⟨fun h j hj => ?_, s4, fun e => ⟨(s5 e).1, (s5 e).2.1, fun h => (s5 e).2.2 (hold h)⟩⟩)) fun s hs => nok_ret ⟨⟨a1, a2, hs⟩, seen_dec s1 s2 hi hni⟩
  · have h5 := s5 (gt ld (i : Int)).1
    have h6 := h5.2.2 hfresh
    refine nok_lv (nok_ar (by unfold I64; omega) (nok_lv (nok_lv (nok_lv (nok_ret ⟨fun h => (by cases h), fun _ => ⟨_, he, ?_⟩, fun e => ?_⟩)))))
    · rw [hr.2 _ he] at hlt
      have := (hc (gt ld (i : Int)).1).2
      omega
    · dsimp only
      rw [mget_mput, mget_mput]
      by_cases q : e = (gt ld (i : Int)).1
      · rw [if_pos q]
        exact ⟨by omega, by omega, fun h => absurd q.symm (h i (by simp))⟩
      · rw [if_neg q, if_neg q]
        exact ⟨(s5 e).1, (s5 e).2.1, fun h => (s5 e).2.2 (hold h)⟩
  · rcases List.mem_append.1 hj with hj | hj
    · exact s3 h j hj
    · rw [List.mem_singleton] at hj; subst hj
      rw [hr.2 _ he] at hge
      omega
theorem Route_ok (hf : FlN f) (hp : f.Ports = []) {nets : List T_legal_Net} (hl : nets.length ≤ 12) (hn : ∀ n ∈ nets, PinsIn f n) :
    NOk (P_global_Route f nets) (fun r => (r.2 = 0 ∧ Ways f nets r.1 ∧ ∀ e, IsE (Cc f) (Rr f) e → lcnt r.1 e ≤ roomV f e) ∨ (r = ([], 14) ∧ Tight f nets)) := by
  unfold P_global_Route
  refine nok_bo (Loop_nets hf hp hl hn) ?_
  rintro _ rfl
  refine nok_f (by simp) (nok_bo (Edges_ok hf hp) ?_)
  rintro es ⟨e1, e2⟩
  refine nok_bd (L6_ok hf hp e1 e2) fun rm hrm => nok_ck (by simp only [mkOk]; omega) (nok_lv ?_)
  refine nok_bs (S := fun o => match o with | .inl _ => Tight f nets | .inr r => r.2 = 0 ∧ Ways f nets r.1 ∧ ∀ e, IsE (Cc f) (Rr f) e → lcnt r.1 e ≤ roomV f e) ?_ (fun _ h => nok_ret (.inr ⟨rfl, h⟩)) fun r h => nok_ret (.inl h)
  refine nok_lp (fun s => (0 ≤ s.2.1 ∧ s.2.1 ≤ 12) ∧ WI f nets s.2.1 0 s.1 ∧ LoadI f s.2.2.1 (lcnt s.1) ∧ (∀ e, 0 ≤ mget e s.2.2.2 0 ∧ mget e s.2.2.2 0 ≤ s.2.1) ∧ (0 < s.2.1 → Tight f nets)) (fun s => ((12 : Int) - s.2.1).toNat) ⟨⟨by simp, by simp⟩, ⟨by simp, fun i hi => .inr ⟨rfl, hi.1, ?_⟩⟩, ⟨Ks.nil, fun e he => (by simp [mhas, mfind] at he), fun e => ?_⟩, fun e => (by simp [mget, mfind]), fun h => (by simp at h)⟩ (by simp only; omega) ?_
  · rw [gt_get hi]; simp
  · dsimp only
    have : ∀ k : Nat, lcnt (List.replicate k []) e = 0 := fun k => by
      induction k with
      | zero => rfl
      | succ k ih => rw [List.replicate_succ, lcnt_cons, ih]; simp
    rw [this]; rfl
  rintro ⟨ways, rd, ld, ps⟩ ⟨⟨r0, r1⟩, hW, hL, hP, hT⟩
  dsimp only at r0 r1 hW hL hP hT
  unfold P_global_Route_L12
  dsimp only
  refine nok_ite (fun hlt => ?_) (fun hge => nok_ret (hT (by omega)))
  have hBps : Bd ps := fun e => by have := hP e; omega
  refine nok_bd (S := fun s => Ways f nets s.1 ∧ LoadI f s.2 (lcnt s.1)) ?_ ?_
  · refine nok_lp (fun s => (0 ≤ s.2.1 ∧ s.2.1 ≤ nets.length) ∧ WI f nets rd s.2.1 s.1 ∧ LoadI f s.2.2 (lcnt s.1)) (fun s => ((nets.length : Int) - s.2.1).toNat) ⟨⟨by simp, by simp⟩, hW, hL⟩ (by simp only; omega) ?_
    rintro ⟨ws, y, l⟩ ⟨⟨y0, y1⟩, hw, hl'⟩
    dsimp only at y0 y1 hw hl'
    unfold P_global_Route_L15
    dsimp only
    refine nok_ite (fun hlt => ?_) (fun hge => nok_ret ⟨⟨hw.1, fun i hi => (hw.2 i hi).elim id fun h => ?_⟩, hl'⟩)
    · have hy : inb y nets.length := ⟨y0, hlt⟩
      have hy' : inb y ws.length := by rw [hw.1]; exact hy
      have hwl := hw.1
      obtain ⟨o1, o2, o3⟩ := hw.each hf hy'
      have hcn := hw.lcnt hf hl
      refine nok_bd (S := fun s => WI f nets rd (y + 1) s.1 ∧ LoadI f s.2 (lcnt s.1)) ?_ fun s hs => nok_ar (by unfold I64; omega) (nok_ret ⟨⟨⟨by dsimp only; omega, by dsimp only; omega⟩, hs⟩, by dsimp only; omega⟩)
      refine nok_ck hy (nok_lv (nok_ck (fun _ => hy') (nok_lv (nok_bo (ok_gd (Q := fun _ => True) (fun _ => crowded_ok o1) fun _ => trivial) fun cr _ => nok_lv (nok_ite (fun hq => nok_ret ⟨⟨hw.1, fun i hi => (hw.2 i hi).imp id fun h => ?_⟩, hl'⟩) fun hq => nok_ck hy' (nok_lv ?_))))))
      · simp only [Bool.and_eq_true, decide_eq_true_eq] at hq
        omega
      have hw0 : WI f nets rd y ws := hw
      refine nok_bd (L19_ok hl' (fun e => by have := hcn e; omega) o1 o3) fun l1 h1 => ?_
      have hz := fun e => lcnt_stt hy' ([] : List T_global_Edge) e
      have hz2 : ∀ e, 0 ≤ lcnt ws e - ((gt ws y).count e : Int) := fun e => by
        have h1 := hz e
        have h2 := lcnt_nn (stt ws y []) e
        simp only [List.count_nil] at h1; omega
      refine nok_bd (way_ok hf hrm.1 (fun e => by rw [h1.v]; have a := hz2 e; have b := hcn e; omega) hBps (hn _ (gt_mem hy))) fun w hwy => nok_ck hy' (nok_lv (nok_ck (by rw [stt_length]; exact hy') (nok_lv ?_)))
      have hg : gt (stt ws y w) y = w := by rw [gt_stt' hy' hy', if_pos rfl]
      rw [hg]
      refine nok_bd (L25_ok h1 (fun e => by have a := hz2 e; have b := hcn e; omega) (hwy.len hf) hwy.edges.2) fun l2 h2 => nok_ret ⟨⟨by rw [stt_length]; exact hw.1, fun i hi => ?_⟩, h2.cg fun e => (lcnt_stt hy' w e).symm⟩
      dsimp only at hi ⊢
      rw [stt_length] at hi
      rw [gt_stt' hy' hi]
      by_cases q : i = y
      · rw [if_pos q, q]; exact .inl hwy
      · rw [if_neg q]
        exact (hw.2 i hi).imp id fun h => ⟨h.1, by omega, h.2.2⟩
    · obtain ⟨_, h2⟩ := hi
      have := hw.1
      dsimp only at h2
      omega
  rintro ⟨ws, l⟩ ⟨hw, hl'⟩
  dsimp only at hw hl'
  have hwi : WI f nets (rd + 1) 0 ws := ⟨hw.1, fun i hi => .inl (hw.2 i hi)⟩
  refine nok_bd (L32_ok (n := rd) hf hp (nets := nets) hrm hl' (hwi.lcnt hf hl) hP (by omega) r0) ?_
  rintro ⟨full, past⟩ ⟨g1, g2, g3⟩
  dsimp only at g1 g2 g3
  refine nok_ite (fun hq => nok_ret ⟨rfl, hw, g1 hq⟩) (fun hq => nok_ar (by unfold I64; omega) (nok_ret ⟨⟨⟨by dsimp only; omega, by dsimp only; omega⟩, hwi, hl', g3, fun _ => g2 (by simpa using hq)⟩, by dsimp only; omega⟩))
end
end Go.Proofs.YtgmjhlpjlggpiaaDoor.X
namespace Go.Proofs.YtgmjhlpjlggpiaaDoor.X
open Go Go.RowKit
set_option linter.unusedVariables false
set_option linter.unusedSimpArgs false
set_option linter.unusedSectionVars false
theorem FlN.bare {f : T_floor_Floor} (hf : FlN f) : FlN (T_floor_Floor.mk f.Rows f.Sites f.Layers f.Blocks f.Walls []) :=
  ⟨hf.R, hf.S, hf.Ly, hf.blockL, hf.block, hf.wallL, hf.wall, by simp, All.nil⟩
theorem Size_2 (f : T_floor_Floor) : P_floor_Size_2 f = P_floor_Size f := by unfold P_floor_Size_2 P_floor_Size; rfl
theorem Check_2 (f : T_floor_Floor) : P_floor_Check_2 f = P_floor_Check f := by unfold P_floor_Check_2 P_floor_Check; rfl
theorem Edges_2 (f : T_floor_Floor) : P_global_Edges_2 f = P_global_Edges f := by unfold P_global_Edges_2 P_global_Edges; rfl
theorem regions_ok : P_maskkeep4_regions = some true := by decide +kernel
theorem Tight_ok {f : T_floor_Floor} (hf : FlN f) (hp : f.Ports = []) {nets : List T_legal_Net} (ht : Tight f nets) {es : List T_global_Edge} (hl : es.length ≤ 100) (he : ∀ e, e ∈ es ↔ IsE (Cc f) (Rr f) e) : Ok (P_slices_ContainsFunc_global_Edge_global_Edge es f nets) (fun r => r = true) := by
  obtain ⟨e0, t1, t2⟩ := ht
  unfold P_slices_ContainsFunc_global_Edge_global_Edge
  refine ok_bd (R := fun r => 0 ≤ r) ?_ fun r h => ok_some (by simpa using h)
  unfold P_slices_IndexFunc_global_Edge_global_Edge
  refine ok_bs (R := fun o => ∃ y : Int, o = .inr y ∧ 0 ≤ y) ?_ (fun x h => by obtain ⟨y, e, _⟩ := h; cases e) fun y h => by obtain ⟨z, e, h⟩ := h; cases e; exact ok_some h
  refine ok_lp (fun y => (0 ≤ y ∧ y ≤ es.length) ∧ e0 ∉ es.take y.toNat) (fun y => ((es.length : Int) - y).toNat) ⟨⟨by omega, by omega⟩, by simp⟩ (by omega) ?_
  rintro y ⟨⟨y0, y1⟩, hn⟩
  unfold P_slices_IndexFunc_global_Edge_global_Edge_L2
  refine ok_ite (fun hlt => ?_) (fun hge => ?_)
  · have hy : inb y es.length := ⟨y0, hlt⟩
    refine ok_ck hy (ok_lv (ok_bd (R := fun r => r = decide (roomV f (gt es y) < nets.length)) ?_ ?_))
    · unfold P_maskkeep4_GlobalRoutes_1
      refine ok_bd (roomV_ok hf hp ((he _).1 (gt_mem hy))) ?_
      rintro r ⟨rfl, _⟩
      exact ok_some rfl
    rintro r rfl
    refine ok_ite (fun _ => ok_some ⟨y, rfl, y0⟩) (fun hq => ok_ar (by unfold I64; omega) (ok_some ⟨⟨⟨by omega, by omega⟩, fun hm => ?_⟩, by omega⟩))
    rcases (mem_take hy).1 hm with h | rfl
    · exact hn h
    · exact hq (by simpa using t2)
  · rw [List.take_of_length_le (by omega)] at hn
    exact absurd ((he e0).2 t1) hn
theorem GlobalRoutes_ok {L : List Int} (hL : Strm L) : NOk (P_maskkeep4_GlobalRoutes L) (fun r => r = true) := by
  unfold P_maskkeep4_GlobalRoutes
  refine nok_bo (Floor_ok hL (k := 0) (by omega) (by omega)) ?_
  rintro ⟨f0, k0⟩ ⟨hf0, k1, k2⟩
  dsimp only at hf0 k1 k2
  have hf := hf0.bare
  dsimp only
  generalize hfe : T_floor_Floor.mk f0.Rows f0.Sites f0.Layers f0.Blocks f0.Walls [] = f at *
  have hp : f.Ports = [] := by rw [← hfe]
  rw [Size_2, Check_2, Edges_2]
  refine nok_bo (Size_ok hf.R hf.S) ?_
  rintro _ rfl
  refine nok_bo (hL.next (by omega) (by omega)) ?_
  rintro ⟨m, k3⟩ ⟨m0, m1, -, rfl⟩
  dsimp only at m0 m1
  have hR := hf.R
  have hS := hf.S
  refine nok_bd (S := fun nets => nets.length ≤ 12 ∧ ∀ n ∈ nets, PinsIn f n) ?_ ?_
  · refine nok_lp (fun s => (0 ≤ s.1 ∧ s.1 ≤ m) ∧ (0 ≤ s.2.1 ∧ s.2.1 ≤ k0 + 1 + 20 * s.1) ∧ (s.2.2.length : Int) = s.1 ∧ ∀ n ∈ s.2.2, PinsIn f n) (fun s => (m - s.1).toNat) ⟨⟨by simp, by simpa using m0⟩, ⟨by dsimp only; omega, by dsimp only; omega⟩, by simp, fun n hn => by cases hn⟩ (by simp only; omega) ?_
    rintro ⟨y, k, ns⟩ ⟨⟨y0, y1⟩, ⟨j0, j1⟩, hl, hn⟩
    dsimp only at y0 y1 j0 j1 hl hn
    unfold P_maskkeep4_GlobalRoutes_L7
    dsimp only
    refine nok_ite (fun hlt => ?_) (fun hge => nok_ret ⟨by omega, hn⟩)
    refine nok_bo (hL.next (by omega) (by omega)) ?_
    rintro ⟨c, k4⟩ ⟨c0, c1, -, rfl⟩
    dsimp only at c0 c1
    refine nok_bd (S := fun s => (0 ≤ s.1 ∧ s.1 ≤ k + 1 + 2 * c) ∧ (s.2.length : Int) = c ∧ ∀ p ∈ s.2, (0 ≤ p.At.X ∧ p.At.X < 4 * f.Sites + 8) ∧ 0 ≤ p.At.Y ∧ p.At.Y < 4 * f.Rows + 8) ?_ ?_
    · refine nok_lp (fun s => (0 ≤ s.1 ∧ s.1 ≤ c) ∧ (0 ≤ s.2.1 ∧ s.2.1 ≤ k + 1 + 2 * s.1) ∧ (s.2.2.length : Int) = s.1 ∧ ∀ p ∈ s.2.2, (0 ≤ p.At.X ∧ p.At.X < 4 * f.Sites + 8) ∧ 0 ≤ p.At.Y ∧ p.At.Y < 4 * f.Rows + 8) (fun s => (c - s.1).toNat) ⟨⟨by simp, by simpa using c0⟩, ⟨by dsimp only; omega, by dsimp only; omega⟩, by simp, fun n hn => by cases hn⟩ (by simp only; omega) ?_
      rintro ⟨z, q, ps⟩ ⟨⟨z0, z1⟩, ⟨q0, q1⟩, pl, hps⟩
      dsimp only at z0 z1 q0 q1 pl hps
      unfold P_maskkeep4_GlobalRoutes_L10
      dsimp only
      refine nok_ite (fun hlt => ?_) (fun hge => nok_ret ⟨⟨q0, by dsimp only; omega⟩, by dsimp only; omega, hps⟩)
      refine nok_bo (hL.next (by omega) (by omega)) ?_
      rintro ⟨X, k4⟩ ⟨x0, x1, -, rfl⟩
      dsimp only at x0 x1
      refine nok_bo (hL.next (by dsimp only; omega) (by omega)) ?_
      rintro ⟨Y, k4⟩ ⟨v0, v1, -, rfl⟩
      dsimp only at v0 v1
      refine nok_lv (nok_ck (by simp only [apOk, List.length_append, List.length_singleton]; omega) (nok_ar (by unfold I64; omega) (nok_ret ⟨⟨⟨by dsimp only; omega, by dsimp only; omega⟩, ⟨by dsimp only; omega, by dsimp only; omega⟩, by simp only [List.length_append, List.length_singleton]; omega, fun p hp => ?_⟩, by dsimp only; omega⟩)))
      rcases List.mem_append.1 hp with hp | hp
      · exact hps p hp
      · rw [List.mem_singleton] at hp; subst hp
        exact ⟨⟨x0, x1 (by omega)⟩, v0, v1 (by omega)⟩
    rintro ⟨k5, ps⟩ ⟨⟨p0, p1⟩, p2, p3⟩
    dsimp only at p0 p1 p2 p3
    refine nok_lv (nok_ck (by simp only [apOk, List.length_append, List.length_singleton]; omega) (nok_ar (by unfold I64; omega) (nok_ret ⟨⟨⟨by dsimp only; omega, by dsimp only; omega⟩, ⟨by dsimp only; omega, by dsimp only; omega⟩, by simp only [List.length_append, List.length_singleton]; omega, fun n hn' => ?_⟩, by dsimp only; omega⟩)))
    rcases List.mem_append.1 hn' with h | h
    · exact hn n h
    · rw [List.mem_singleton] at h; subst h
      exact ⟨by dsimp only; omega, p3⟩
  rintro nets ⟨hl, hn⟩
  refine nok_bd (Route_ok hf hp hl hn) fun r hr => nok_bo (ok_eq regions_ok (Q := fun r => r = true) rfl) ?_
  rintro _ rfl
  refine nok_bo (ok_gd (Q := fun r => r = 0) (fun _ => FCheck0 hf hp) fun _ => rfl) ?_
  rintro _ rfl
  refine nok_lv (nok_f (by simp) ?_)
  rcases hr with ⟨h0, hw, hc⟩ | ⟨rfl, ht⟩
  · refine nok_t h0 (nok_bd (Check_ok hf hp hl hn hw hc) ?_)
    rintro _ rfl
    exact nok_ret (by simp)
  · refine nok_f (by simp) (nok_bo (Edges_ok hf hp) ?_)
    rintro es ⟨e1, e2⟩
    refine nok_bo (Tight_ok hf hp ht e1 e2) ?_
    rintro _ rfl
    exact nok_lv (nok_lv (nok_ret (by simp)))
end Go.Proofs.YtgmjhlpjlggpiaaDoor.X
