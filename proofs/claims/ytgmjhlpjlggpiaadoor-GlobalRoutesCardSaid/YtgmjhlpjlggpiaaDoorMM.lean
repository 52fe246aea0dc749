/- Maps, lists without doubles, entries that come in some order. Plain. -/
/- global's search: a way to a wanted region. Plain. -/
/- global: a tree for each net. Plain. -/
/- global.joins: a tree's borders pass. Plain. -/
import Derived.Test.YtgmjhlpjlggpiaaDoorGA
import Derived.Test.YtgmjhlpjlggpiaaDoorPA
import Derived.Test.YtgmjhlpjlggpiaaDoorND
namespace Go.Proofs.YtgmjhlpjlggpiaaDoor.X
open Go Go.RowKit
set_option linter.unusedVariables false
set_option linter.unusedSimpArgs false
set_option linter.unusedSectionVars false
section
variable {κ α : Type} [DecidableEq κ]
theorem mfind_mput' {k k' : κ} {v : α} : ∀ {es : List (κ × α)}, mfind k' (mput k v es) = if k' = k then some v else mfind k' es
  | [] => by simp only [mput, mfind]
  | (a, b) :: r => by
    by_cases e : k = a
    · subst e
      by_cases q : k' = k <;> simp [mput, mfind, q]
    · simp only [mput, e, if_false, mfind]
      rw [mfind_mput' (es := r)]
      by_cases q : k' = k
      · subst q; simp [e]
      · simp [q]
theorem mget_mput {k k' : κ} {v d : α} {es : List (κ × α)} : mget k' (mput k v es) d = if k' = k then v else mget k' es d := by
  unfold mget
  rw [mfind_mput']
  split <;> rfl
theorem has_mput {k k' : κ} {v : α} {es : List (κ × α)} : mhas k' (mput k v es) = true ↔ k' = k ∨ mhas k' es = true := by
  unfold mhas
  rw [mfind_mput']
  by_cases q : k' = k <;> simp [q]
theorem mget_no {k : κ} {d : α} {es : List (κ × α)} (h : mhas k es = false) : mget k es d = d := by
  unfold mhas at h
  unfold mget
  cases hf : mfind k es with
  | none => rfl
  | some v => rw [hf] at h; simp at h
theorem mhas_mem {k : κ} : ∀ {es : List (κ × α)}, mhas k es = true ↔ k ∈ es.map (·.1)
  | [] => by simp [mhas, mfind]
  | (a, b) :: r => by
    by_cases e : k = a
    · simp [mhas, mfind, e]
    · have := mhas_mem (k := k) (es := r)
      simp only [mhas, mfind, e, if_false] at this ⊢
      simp only [List.map_cons, List.mem_cons, e, false_or]
      exact this
def Ks (es : List (κ × α)) : Prop := (es.map (·.1)).Nodup
theorem Ks.nil : Ks ([] : List (κ × α)) := List.nodup_nil
theorem Ks.put {k : κ} {v : α} : ∀ {es : List (κ × α)}, Ks es → Ks (mput k v es)
  | [], _ => by simp [Ks, mput]
  | (a, b) :: r, h => by
    unfold Ks at h ⊢
    simp only [List.map_cons, List.nodup_cons] at h
    by_cases e : k = a
    · simp only [mput, e, if_true, List.map_cons, List.nodup_cons]
      exact h
    · simp only [mput, e, if_false, List.map_cons, List.nodup_cons]
      refine ⟨fun hm => ?_, Ks.put (es := r) h.2⟩
      have := has_mput.1 (mhas_mem.2 hm)
      rcases this with q | q
      · exact e q.symm
      · exact h.1 (mhas_mem.1 q)
theorem mput_len1 {k : κ} {v : α} {es : List (κ × α)} (h : mhas k es = false) : (mput k v es).length = es.length + 1 := mput_none (by
  unfold mhas at h
  cases hf : mfind k es with
  | none => rfl
  | some v => rw [hf] at h; simp at h)
theorem mfind_in {k : κ} {v : α} : ∀ {es : List (κ × α)}, Ks es → (k, v) ∈ es → mfind k es = some v
  | [], _, h => by cases h
  | (a, b) :: r, hk, h => by
    unfold Ks at hk
    simp only [List.map_cons, List.nodup_cons] at hk
    rcases List.mem_cons.1 h with h | h
    · cases h; simp [mfind]
    · have hne : k ≠ a := fun e => hk.1 (List.mem_map.2 ⟨(k, v), h, e⟩)
      simp only [mfind, hne, if_false]
      exact mfind_in (es := r) hk.2 h
theorem Ks.mget_at [Inhabited κ] [Inhabited α] {es : List (κ × α)} (h : Ks es) {i : Nat} (hi : i < es.length) (d : α) : mget (gt es (i : Int)).1 es d = (gt es (i : Int)).2 := by
  have hm : gt es (i : Int) ∈ es := gt_mem ⟨by omega, by omega⟩
  have h2 : mfind (gt es (i : Int)).1 es = some (gt es (i : Int)).2 := mfind_in h hm
  unfold mget
  rw [h2]; rfl
theorem mhas_at [Inhabited κ] [Inhabited α] {es : List (κ × α)} {i : Nat} (hi : i < es.length) : mhas (gt es (i : Int)).1 es = true :=
  mhas_mem.2 (List.mem_map.2 ⟨_, gt_mem ⟨by omega, by omega⟩, rfl⟩)
theorem gt_nth' {β : Type} [Inhabited β] {xs : List β} {i : Nat} (h : i < xs.length) : gt xs (i : Int) = xs[i] := by
  rw [gt_get ⟨by omega, by omega⟩]; simp
theorem mhas_idx [Inhabited κ] [Inhabited α] {k : κ} {es : List (κ × α)} (h : mhas k es = true) : ∃ i : Nat, i < es.length ∧ (gt es (i : Int)).1 = k := by
  obtain ⟨e, he, rfl⟩ := List.mem_map.1 (mhas_mem.1 h)
  obtain ⟨i, hi, rfl⟩ := List.getElem_of_mem he
  exact ⟨i, hi, by rw [gt_nth' hi]⟩
theorem mdel_keys {k : κ} : ∀ {es : List (κ × α)}, (mdel k es).map (·.1) = (es.map (·.1)).erase k
  | [] => rfl
  | (a, b) :: r => by
    by_cases e : k = a
    · simp [mdel, e]
    · simp only [mdel, e, if_false, List.map_cons]
      rw [List.erase_cons_tail (by simpa using fun h => e h.symm), mdel_keys (es := r)]
theorem Ks.del {k : κ} {es : List (κ × α)} (h : Ks es) : Ks (mdel k es) := by
  unfold Ks at *
  rw [mdel_keys]; exact h.erase k
theorem has_mdel {k k' : κ} {es : List (κ × α)} (h : Ks es) : mhas k' (mdel k es) = true ↔ k' ≠ k ∧ mhas k' es = true := by
  rw [mhas_mem, mdel_keys, mhas_mem, h.mem_erase_iff]
theorem mem_mdel {k : κ} {e : κ × α} : ∀ {es : List (κ × α)}, e ∈ mdel k es → e ∈ es
  | [], h => by cases h
  | (a, b) :: r, h => by
    by_cases q : k = a
    · simp only [mdel, q, if_true] at h; exact List.mem_cons_of_mem _ h
    · simp only [mdel, q, if_false] at h
      rcases List.mem_cons.1 h with h | h
      · exact h ▸ List.mem_cons_self
      · exact List.mem_cons_of_mem _ (mem_mdel h)
theorem mget_in {k : κ} {d : α} {es : List (κ × α)} (h : mhas k es = true) : ∃ e ∈ es, e.1 = k ∧ e.2 = mget k es d := by
  induction es with
  | nil => simp [mhas, mfind] at h
  | cons e r ih =>
    obtain ⟨a, b⟩ := e
    by_cases q : k = a
    · exact ⟨(a, b), by simp, q.symm, by simp [mget, mfind, q]⟩
    · have h' : mhas k r = true := by simpa [mhas, mfind, q] using h
      obtain ⟨e, he, h1, h2⟩ := ih h'
      exact ⟨e, List.mem_cons_of_mem _ he, h1, by rw [h2]; simp [mget, mfind, q]⟩
end
theorem nodup_le {β : Type} [DecidableEq β] : ∀ {l m : List β}, l.Nodup → (∀ x ∈ l, x ∈ m) → l.length ≤ m.length
  | [], m, _, _ => Nat.zero_le _
  | a :: l, m, hn, hs => by
    obtain ⟨h1, h2⟩ := List.nodup_cons.1 hn
    have hm := hs a (by simp)
    have := nodup_le (l := l) (m := m.erase a) h2 fun x hx => by
      have hxa : x ≠ a := fun e => h1 (e ▸ hx)
      exact (List.mem_erase_of_ne hxa).2 (hs x (List.mem_cons_of_mem _ hx))
    rw [List.length_erase_of_mem hm] at this
    have hpos : 0 < m.length := List.length_pos_of_mem hm
    rw [List.length_cons]; omega
/-- Few numbers. -/
theorem few_int {l : List Int} {n : Nat} (hn : l.Nodup) (h : ∀ x ∈ l, 0 ≤ x ∧ x < n) : l.length ≤ n := by
  have := nodup_le (m := (List.range n).map fun k : Nat => (k : Int)) hn fun x hx => by
    have := h x hx
    exact List.mem_map.2 ⟨x.toNat, List.mem_range.2 (by omega), by omega⟩
  simpa using this
theorem seen_len {n : Nat} {seen : List Nat} (hn : seen.Nodup) (hb : ∀ i ∈ seen, i < n) : seen.length ≤ n := by
  have := nodup_le (m := List.range n) hn fun i hi => List.mem_range.2 (hb i hi)
  simpa using this
theorem seen_add {n : Nat} {seen : List Nat} {i : Nat} (hn : seen.Nodup) (hb : ∀ i ∈ seen, i < n) (hi : i < n) (hni : i ∉ seen) : (seen ++ [i]).Nodup ∧ ∀ j ∈ seen ++ [i], j < n := by
  refine ⟨List.nodup_append.2 ⟨hn, by simp, fun a ha b hb hab => ?_⟩, fun j hj => ?_⟩
  · rw [List.mem_singleton] at hb
    exact hni (by rw [← hb, ← hab]; exact ha)
  · rcases List.mem_append.1 hj with h | h
    · exact hb j h
    · rw [List.mem_singleton.1 h]; exact hi
theorem seen_dec {n : Nat} {seen : List Nat} {i : Nat} (hn : seen.Nodup) (hb : ∀ i ∈ seen, i < n) (hi : i < n) (hni : i ∉ seen) : n - (seen ++ [i]).length < n - seen.length := by
  obtain ⟨a, b⟩ := seen_add hn hb hi hni
  have := seen_len a b
  simp only [List.length_append, List.length_singleton] at this ⊢
  omega
theorem nok_bs1 {α β γ : Type} {m : Nd (α ⊕ γ)} {k2 : γ → Nd β} {k : α → Nd β} {R : β → Prop} {S : α → Prop} (hm : NOk m (fun o => ∃ x, o = .inl x ∧ S x)) (h1 : ∀ x, S x → NOk (k x) R) : NOk (nbs m k2 k) R :=
  nok_bs hm (fun x h => by obtain ⟨y, e, hy⟩ := h; cases e; exact h1 _ hy) (fun y h => by obtain ⟨x, e, _⟩ := h; cases e)
theorem take_snoc {β : Type} [Inhabited β] {xs : List β} {i : Int} (h : inb i xs.length) : xs.take (i + 1).toNat = xs.take i.toNat ++ [gt xs i] := by
  have hl := inb_lt h
  obtain ⟨h0, h1⟩ := h
  rw [show (i + 1).toNat = i.toNat + 1 by omega, List.take_succ_eq_append_getElem hl, gt_get ⟨h0, h1⟩]
theorem mem_take {β : Type} [Inhabited β] {xs : List β} {y : Int} (h : inb y xs.length) {x : β} : x ∈ xs.take (y + 1).toNat ↔ x ∈ xs.take y.toNat ∨ x = gt xs y := by
  rw [take_snoc h]; simp
end Go.Proofs.YtgmjhlpjlggpiaaDoor.X
namespace Go.Proofs.YtgmjhlpjlggpiaaDoor.X
open Go Go.RowKit
set_option linter.unusedVariables false
set_option linter.unusedSimpArgs false
set_option linter.unusedSectionVars false
/-- A way out of H's complement: its places, its borders. -/
inductive Trail (C R : Int) (H : Int → Prop) : Int → List Int → List T_global_Edge → Prop
  | stop {k : Int} : H k → Trail C R H k [] []
  | step {k p : Int} {ns : List Int} {es : List T_global_Edge} : ¬ H k → nb C R k p → k ∉ ns → Trail C R H p ns es → Trail C R H k (k :: ns) (mkE k p :: es)
/-- A way that the search has noted. -/
inductive TF (C R : Int) (H : Int → Prop) (fr : List (Int × Int)) : Int → List Int → List T_global_Edge → Prop
  | stop {k : Int} : mhas k fr = true → mget k fr 0 = -1 → H k → TF C R H fr k [] []
  | step {k p : Int} {ns : List Int} {es : List T_global_Edge} : mhas k fr = true → mget k fr 0 = p → 0 ≤ p → ¬ H k → nb C R k p → k ∉ ns → TF C R H fr p ns es → TF C R H fr k (k :: ns) (mkE k p :: es)
section
variable {C R : Int} {H : Int → Prop} {fr : List (Int × Int)}
theorem TF.trail {k : Int} {ns : List Int} {es : List T_global_Edge} (h : TF C R H fr k ns es) : Trail C R H k ns es := by
  induction h with
  | stop _ _ h => exact .stop h
  | step _ _ _ h1 h2 h3 _ ih => exact .step h1 h2 h3 ih
theorem TF.keys {k : Int} {ns : List Int} {es : List T_global_Edge} (h : TF C R H fr k ns es) : mhas k fr = true ∧ ∀ x ∈ ns, mhas x fr = true := by
  induction h with
  | stop h _ _ => exact ⟨h, fun x hx => by cases hx⟩
  | step h _ _ _ _ _ _ ih =>
    refine ⟨h, fun x hx => ?_⟩
    rcases List.mem_cons.1 hx with rfl | hx
    · exact h
    · exact ih.2 x hx
theorem TF.put {a v k : Int} {ns : List Int} {es : List T_global_Edge} (ha : mhas a fr = false) (h : TF C R H fr k ns es) : TF C R H (mput a v fr) k ns es := by
  have ne : ∀ {x}, mhas x fr = true → x ≠ a := fun hx e => by rw [e, ha] at hx; cases hx
  induction h with
  | stop h1 h2 h3 => exact .stop (has_mput.2 (.inr h1)) (by rw [mget_mput, if_neg (ne h1)]; exact h2) h3
  | step h1 h2 h3 h4 h5 h6 _ ih => exact .step (has_mput.2 (.inr h1)) (by rw [mget_mput, if_neg (ne h1)]; exact h2) h3 h4 h5 h6 ih
end
theorem edge_ok' (a b : Int) : Ok (P_global_edge a b) (fun r => r = mkE a b) := by
  unfold P_global_edge
  exact ok_lv (ok_lv (ok_some rfl))
theorem loop15_ok {C R : Int} {H : Int → Prop} {fr : List (Int × Int)} {k : Int} {ns : List Int} {es : List T_global_Edge} (h : TF C R H fr k ns es) (hl : es.length ≤ 1000) : NOk (nlp (P_global_plan_reach_L15 fr) fuel ([], k)) (fun r => r = es) := by
  refine nok_lp (fun s => ∃ ns' es', TF C R H fr s.2 ns' es' ∧ s.1 ++ es' = es) (fun s => es.length - s.1.length) ⟨ns, es, h, rfl⟩ (by simp only; omega) ?_
  rintro ⟨out, k'⟩ ⟨ns', es', h', e⟩
  dsimp only at h' e
  subst e
  unfold P_global_plan_reach_L15
  dsimp only
  cases h' with
  | stop h1 h2 h3 =>
    refine nok_lv (nok_f (by rw [h2]; decide) (nok_ret (by simp)))
  | step h1 h2 h3 h4 h5 h6 h7 =>
    rename_i p ns'' es''
    subst h2
    refine nok_lv (nok_t h3 (nok_lv (nok_bo (edge_ok' k' _) ?_)))
    rintro _ rfl
    simp only [List.length_append, List.length_cons] at hl
    refine nok_lv (nok_ck (by simp only [apOk, List.length_append, List.length_singleton]; omega) (nok_lv (nok_ret ⟨⟨ns'', es'', h7, by simp⟩, ?_⟩)))
    simp only [List.length_append, List.length_cons, List.length_singleton]; omega
/-- What lies in the queue. -/
def Item (C R : Int) (H : Int → Prop) (fr : List (Int × Int)) (x : T_global_step) : Prop :=
  (0 ≤ x.fat ∧ x.fat < C * R) ∧ (x.fcost = 0 ∧ H x.fat ∧ x.ffrom = -1 ∨ (4 ≤ x.fcost ∧ x.fcost ≤ 10000 * fr.length) ∧ mhas x.ffrom fr = true ∧ nb C R x.fat x.ffrom)
structure SI (C R : Int) (H W : Int → Prop) (fr : List (Int × Int)) (q : List T_global_step) : Prop where
  ks : Ks fr
  rng : ∀ k, mhas k fr = true → 0 ≤ k ∧ k < C * R
  tf : ∀ k, mhas k fr = true → ∃ ns es, TF C R H fr k ns es
  nw : ∀ k, mhas k fr = true → ¬ W k
  heap : HeapF leS 0 q q.length
  it : ∀ x ∈ q, Item C R H fr x
  st : ∀ k, H k → mhas k fr = true ∨ ∃ x ∈ q, x.fat = k ∧ x.fcost = 0
  cl : ∀ k x, mhas k fr = true → nb C R k x → mhas x fr = true ∨ ∃ y ∈ q, y.fat = x
  len : q.length ≤ 24 + 4 * fr.length
theorem Ks.few {α : Type} {C R : Int} (hg : GridN C R) {es : List (Int × α)} (h : Ks es) (hr : ∀ k, mhas k es = true → 0 ≤ k ∧ k < C * R) : es.length ≤ 24 := by
  have hl := hg.le
  have := few_int (n := 24) h fun x hx => by have := hr x (mhas_mem.2 hx); omega
  simpa using this
theorem leS_cost {x y : T_global_step} (h : leS x y) : x.fcost ≤ y.fcost := by
  unfold leS leK keyS at h
  simp only [lexL, not_or] at h
  omega
def Bd (m : List (T_global_Edge × Int)) : Prop := ∀ e, 0 ≤ mget e m 0 ∧ mget e m 0 ≤ 100
section
variable {f : T_floor_Floor} (hf : FlN f) {rm ld ps : List (T_global_Edge × Int)} (h1 : Bd rm) (h2 : Bd ld) (h3 : Bd ps)
include hf h1 h2 h3
theorem push20_ok {x : T_global_step} {q : List T_global_step} {fr : List (Int × Int)} {ns : List Int} {qo : List T_global_step} (hx : 0 ≤ x.fcost ∧ x.fcost ≤ 1000000) (hn : ns.length ≤ 4) (hq : q.length ≤ 1000) (hh : HeapF leS 0 q q.length) :
    NOk (nlp (P_global_plan_reach_L20 f.Rows f.Sites f.Layers f.Blocks f.Walls f.Ports rm ld ps (x, qo) fr ns) fuel (0, q)) (fun r => HeapF leS 0 r r.length ∧ r.length ≤ q.length + 4 ∧ (∀ z ∈ q, z ∈ r) ∧ (∀ z ∈ r, z ∈ q ∨ (z.ffrom = x.fat ∧ z.fat ∈ ns ∧ mhas z.fat fr = false ∧ x.fcost + 4 ≤ z.fcost ∧ z.fcost ≤ x.fcost + 10000)) ∧ ∀ k ∈ ns, mhas k fr = true ∨ ∃ z ∈ r, z.fat = k) := by
  refine NOk.mono (R := fun r => HeapF leS 0 r r.length ∧ r.length ≤ q.length + ns.length ∧ (∀ z ∈ q, z ∈ r) ∧ (∀ z ∈ r, z ∈ q ∨ (z.ffrom = x.fat ∧ z.fat ∈ ns ∧ mhas z.fat fr = false ∧ x.fcost + 4 ≤ z.fcost ∧ z.fcost ≤ x.fcost + 10000)) ∧ ∀ k ∈ ns, mhas k fr = true ∨ ∃ z ∈ r, z.fat = k) ?_ fun r h => ⟨h.1, by have := h.2.1; omega, h.2.2⟩
  refine nok_lp (fun s => (0 ≤ s.1 ∧ s.1 ≤ ns.length) ∧ HeapF leS 0 s.2 s.2.length ∧ (s.2.length : Int) ≤ q.length + s.1 ∧ (∀ z ∈ q, z ∈ s.2) ∧ (∀ z ∈ s.2, z ∈ q ∨ (z.ffrom = x.fat ∧ z.fat ∈ ns ∧ mhas z.fat fr = false ∧ x.fcost + 4 ≤ z.fcost ∧ z.fcost ≤ x.fcost + 10000)) ∧ ∀ k ∈ ns.take s.1.toNat, mhas k fr = true ∨ ∃ z ∈ s.2, z.fat = k) (fun s => ((ns.length : Int) - s.1).toNat)
    ⟨⟨by simp, by simp⟩, hh, by simp, fun z hz => hz, fun z hz => .inl hz, fun k hk => by simp at hk⟩ (by simp only; omega) ?_
  rintro ⟨y, s⟩ ⟨⟨y0, y1⟩, i1, i2, i3, i4, i5⟩
  dsimp only at y0 y1 i1 i2 i3 i4 i5
  unfold P_global_plan_reach_L20
  dsimp only
  refine nok_ite (fun hlt => ?_) (fun hge => nok_ret ⟨i1, by omega, i3, i4, by rw [List.take_of_length_le (by omega)] at i5; exact i5⟩)
  have hy : inb y ns.length := ⟨y0, hlt⟩
  refine nok_ck hy (nok_lv (nok_lv (nok_lv (nok_bd (S := fun r => HeapF leS 0 r r.length ∧ (r.length : Int) ≤ q.length + (y + 1) ∧ (∀ z ∈ q, z ∈ r) ∧ (∀ z ∈ r, z ∈ q ∨ (z.ffrom = x.fat ∧ z.fat ∈ ns ∧ mhas z.fat fr = false ∧ x.fcost + 4 ≤ z.fcost ∧ z.fcost ≤ x.fcost + 10000)) ∧ ∀ k ∈ ns.take (y + 1).toNat, mhas k fr = true ∨ ∃ z ∈ r, z.fat = k) (nok_ite (fun hc => ?_) (fun hc => nok_ret ⟨i1, by omega, i3, i4, fun k hk => ?_⟩)) fun r hr => nok_ar (by unfold I64; omega) (nok_ret ⟨⟨⟨by dsimp only; omega, by dsimp only; omega⟩, hr⟩, by dsimp only; omega⟩)))))
  · have hno : mhas (gt ns y) fr = false := by simpa using hc
    refine nok_bo (edge_ok' _ _) ?_
    rintro _ rfl
    refine nok_bo (price_ok hf (h1 _) (h2 _) (h3 _)) fun pr hpr => nok_ar (by unfold I64; omega) (nok_bo (push_ok (by omega) i1 _) fun r hr => nok_ret ?_)
    obtain ⟨p1, p2⟩ := hr
    have hl := p1.length_eq
    simp only [List.length_append, List.length_singleton] at hl
    refine ⟨p2, by omega, fun z hz => p1.mem_iff.2 (List.mem_append_left _ (i3 z hz)), fun z hz => ?_, fun k hk => ?_⟩
    · rcases List.mem_append.1 (p1.mem_iff.1 hz) with h | h
      · exact i4 z h
      · rw [List.mem_singleton] at h; subst h
        exact .inr ⟨rfl, gt_mem hy, hno, by dsimp only; omega, by dsimp only; omega⟩
    · rcases (mem_take hy).1 hk with h | rfl
      · rcases i5 k h with h | ⟨z, hz, e⟩
        · exact .inl h
        · exact .inr ⟨z, p1.mem_iff.2 (List.mem_append_left _ hz), e⟩
      · exact .inr ⟨_, p1.mem_iff.2 (List.mem_append_right _ List.mem_cons_self), rfl⟩
  · have hyes : mhas (gt ns y) fr = true := by simpa using hc
    rcases (mem_take hy).1 hk with h | rfl
    · exact i5 k h
    · exact .inl hyes
theorem reach_ok {has want : List (Int × Bool)} (hk : Ks has) (hr : ∀ k, mhas k has = true → 0 ≤ k ∧ k < Cc f * Rr f) (wr : ∀ k, mget k want false = true → 0 ≤ k ∧ k < Cc f * Rr f) {a b : Int} (ha : mhas a has = true) (hb : mget b want false = true) :
    NOk (P_global_plan_reach f.Rows f.Sites f.Layers f.Blocks f.Walls f.Ports rm ld ps has want) (fun r => ∃ k ns, mget k want false = true ∧ Trail (Cc f) (Rr f) (fun k => mhas k has = true) k ns r) := by
  have hg := hf.grid
  have hgl := hg.le
  have hfew := hk.few hg hr
  unfold P_global_plan_reach
  refine nok_bd (S := fun q => q.length ≤ 24 ∧ (∀ x ∈ q, x.fcost = 0 ∧ mhas x.fat has = true ∧ x.ffrom = -1) ∧ ∀ k, mhas k has = true → ∃ x ∈ q, x.fat = k) ?_ ?_
  · refine nok_lp (fun s => s.1.Nodup ∧ (∀ i ∈ s.1, i < has.length) ∧ s.2.length = s.1.length ∧ (∀ x ∈ s.2, x.fcost = 0 ∧ mhas x.fat has = true ∧ x.ffrom = -1) ∧ ∀ i ∈ s.1, ∃ x ∈ s.2, x.fat = (gt has (i : Int)).1) (fun s => has.length - s.1.length)
      ⟨List.nodup_nil, fun i hi => by simp at hi, rfl, fun x hx => by simp at hx, fun i hi => by simp at hi⟩ (by simp only; omega) ?_
    rintro ⟨sn, q⟩ ⟨s1, s2, s3, s4, s5⟩
    dsimp only at s1 s2 s3 s4 s5
    have hsl := seen_len s1 s2
    unfold P_global_plan_reach_L3
    dsimp only
    refine nok_nx (fun hall => nok_ret ⟨by omega, s4, fun k hk => ?_⟩) fun i hi hni => ?_
    · obtain ⟨i, hi, rfl⟩ := mhas_idx hk
      exact s5 i (hall i hi)
    · obtain ⟨a1, a2⟩ := seen_add s1 s2 hi hni
      refine nok_lv (nok_lv (nok_ck (by simp only [apOk, List.length_append, List.length_singleton]; omega) (nok_ret ⟨⟨a1, a2, by simp [s3], fun x hx => ?_, fun j hj => ?_⟩, seen_dec s1 s2 hi hni⟩)))
      · rcases List.mem_append.1 hx with h | h
        · exact s4 x h
        · rw [List.mem_singleton] at h; subst h; exact ⟨rfl, mhas_at hi, rfl⟩
      · rcases List.mem_append.1 hj with h | h
        · obtain ⟨x, hx, e⟩ := s5 j h
          exact ⟨x, List.mem_append_left _ hx, e⟩
        · rw [List.mem_singleton] at h; subst h
          exact ⟨_, List.mem_append_right _ List.mem_cons_self, rfl⟩
  rintro q0 ⟨q1, q2, q3⟩
  refine nok_bo (init_ok (by omega)) ?_
  rintro q ⟨qp, qh⟩
  have hq0 : SI (Cc f) (Rr f) (fun k => mhas k has = true) (fun k => mget k want false = true) [] q := by
    refine ⟨Ks.nil, fun k h => by simp [mhas, mfind] at h, fun k h => by simp [mhas, mfind] at h, fun k h => by simp [mhas, mfind] at h, qh, fun x hx => ?_, fun k h => ?_, fun k x h => by simp [mhas, mfind] at h, by rw [qp.length_eq]; simp; omega⟩
    · obtain ⟨c1, c2, c3⟩ := q2 x (qp.mem_iff.1 hx)
      exact ⟨hr _ c2, .inl ⟨c1, c2, c3⟩⟩
    · obtain ⟨x, hx, e⟩ := q3 k h
      exact .inr ⟨x, qp.mem_iff.2 hx, e, (q2 x hx).1⟩
  refine nok_bs (S := fun o => match o with | .inl _ => False | .inr r => ∃ k ns, mget k want false = true ∧ Trail (Cc f) (Rr f) (fun k => mhas k has = true) k ns r) ?_ (fun x h => h.elim) (fun r h => nok_ret h)
  refine nok_lp (fun s => SI (Cc f) (Rr f) (fun k => mhas k has = true) (fun k => mget k want false = true) s.1 s.2) (fun s => s.2.length + 5 * (24 - s.1.length)) hq0 (by have := hq0.len; simp only [List.length_nil] at this ⊢; omega) ?_
  rintro ⟨fr, q⟩ hI
  dsimp only at hI
  have hfl := hI.ks.few hg hI.rng
  have hql := hI.len
  unfold P_global_plan_reach_L7
  dsimp only
  refine nok_bo (S := fun _ => True) (by unfold P_global_queue_Len; exact ok_some trivial) fun _ _ => nok_ite (fun hpos => ?_) (fun hno => nok_ret ?_)
  · refine nok_bs (S := fun o => match o with | .inl s => SI (Cc f) (Rr f) (fun k => mhas k has = true) (fun k => mget k want false = true) s.1 s.2 ∧ s.2.length + 5 * (24 - s.1.length) < q.length + 5 * (24 - fr.length) | .inr r => ∃ k ns, mget k want false = true ∧ Trail (Cc f) (Rr f) (fun k => mhas k has = true) k ns r) ?_ (fun s hs => nok_ret hs) (fun r h => nok_ret h)
    refine nok_bo (pop_ok (by omega) (by omega) hI.heap) ?_
    rintro ⟨x, q'⟩ ⟨hp, hh, hmin⟩
    dsimp only at hp hh hmin
    have hl : q'.length + 1 = q.length := by simpa using hp.length_eq
    have hxq : x ∈ q := hp.mem_iff.1 List.mem_cons_self
    have hsub : ∀ z ∈ q', z ∈ q := fun z hz => hp.mem_iff.1 (List.mem_cons_of_mem _ hz)
    have hcase : ∀ z ∈ q, z = x ∨ z ∈ q' := fun z hz => List.mem_cons.1 (hp.mem_iff.2 hz)
    obtain ⟨xr, xi⟩ := hI.it x hxq
    refine nok_lv (nok_lv (nok_ite (fun hd => nok_ret ⟨⟨hI.ks, hI.rng, hI.tf, hI.nw, hh, fun z hz => hI.it z (hsub z hz), fun k h => ?_, fun k z h1 h2 => ?_, by dsimp only; omega⟩, by dsimp only; omega⟩) (fun hd => ?_)))
    · rcases hI.st k h with h | ⟨z, hz, e1, e2⟩
      · exact .inl h
      · rcases hcase z hz with rfl | hz
        · exact .inl (by rw [← e1]; exact hd)
        · exact .inr ⟨z, hz, e1, e2⟩
    · rcases hI.cl k z h1 h2 with h | ⟨y, hy, e⟩
      · exact .inl h
      · rcases hcase y hy with rfl | hy
        · exact .inl (by rw [← e]; exact hd)
        · exact .inr ⟨y, hy, e⟩
    · have hno : mhas x.fat fr = false := by simpa using hd
      have hlen1 := mput_len1 (v := x.ffrom) hno
      have tf' : ∃ ns es, TF (Cc f) (Rr f) (fun k => mhas k has = true) (mput x.fat x.ffrom fr) x.fat ns es := by
        rcases xi with ⟨x1, x2, x3⟩ | ⟨⟨x1, x1'⟩, x2, x3⟩
        · exact ⟨[], [], .stop (has_mput.2 (.inl rfl)) (by rw [mget_mput, if_pos rfl]; exact x3) x2⟩
        · obtain ⟨ns, es, ht⟩ := hI.tf _ x2
          refine ⟨_, _, .step (has_mput.2 (.inl rfl)) (by rw [mget_mput, if_pos rfl]) (hI.rng _ x2).1 (fun hH => ?_) x3 (fun hm => ?_) (ht.put hno)⟩
          · rcases hI.st _ hH with h | ⟨z, hz, e1, e2⟩
            · rw [hno] at h; cases h
            · have := leS_cost (hmin z hz); omega
          · have := ht.keys.2 _ hm; rw [hno] at this; cases this
      refine nok_lv (nok_lv (nok_ite (fun hw => ?_) (fun hw => ?_)))
      · obtain ⟨ns, es, ht⟩ := tf'
        have hes : es.length ≤ 1000 := by
          have hlen : ∀ {k ns es}, Trail (Cc f) (Rr f) (fun k => mhas k has = true) k ns es → es.length = ns.length ∧ ns.Nodup ∧ ∀ y ∈ ns, 0 ≤ y ∧ y < Cc f * Rr f := fun h => by
            induction h with
            | stop _ => exact ⟨rfl, List.nodup_nil, fun y hy => by cases hy⟩
            | step a b c _ ih =>
              refine ⟨by simp [ih.1], List.nodup_cons.2 ⟨c, ih.2.1⟩, fun y hy => ?_⟩
              rcases List.mem_cons.1 hy with rfl | hy
              · exact (b.rng hg).1
              · exact ih.2.2 y hy
          obtain ⟨c1, c2, c3⟩ := hlen ht.trail
          have := few_int (n := 24) c2 fun y hy => by have := c3 y hy; omega
          omega
        refine nok_bd (loop15_ok ht hes) ?_
        rintro _ rfl
        exact nok_ret ⟨_, ns, hw, ht.trail⟩
      · refine nok_bo (beside_ok hf xr) ?_
        rintro ns ⟨n1, n2⟩
        have hl2 : ((mput x.fat x.ffrom fr).length : Int) = fr.length + 1 := by omega
        dsimp only
        have hxc : 0 ≤ x.fcost ∧ x.fcost ≤ 10000 * fr.length := by
          rcases xi with ⟨x1, _, _⟩ | ⟨⟨x1, x1'⟩, _, _⟩
          · omega
          · omega
        refine nok_bd (push20_ok hf h1 h2 h3 (q := q') (by omega) n1 (by omega) hh) ?_
        rintro r ⟨r1, r2, r3, r4, r5⟩
        have hitold : ∀ z, Item (Cc f) (Rr f) (fun k => mhas k has = true) fr z → Item (Cc f) (Rr f) (fun k => mhas k has = true) (mput x.fat x.ffrom fr) z := fun z hz => by
          obtain ⟨z1, z2 | ⟨⟨z2, z2'⟩, z3, z4⟩⟩ := hz
          · exact ⟨z1, .inl z2⟩
          · exact ⟨z1, .inr ⟨⟨z2, by omega⟩, has_mput.2 (.inr z3), z4⟩⟩
        refine nok_ret ⟨⟨hI.ks.put, fun k h => ?_, fun k h => ?_, fun k h => ?_, r1, fun z hz => ?_, fun k h => ?_, fun k z hk' hn => ?_, by dsimp only; omega⟩, ?_⟩
        · rcases has_mput.1 h with rfl | h
          · exact xr
          · exact hI.rng k h
        · rcases has_mput.1 h with rfl | h
          · exact tf'
          · obtain ⟨ns, es, ht⟩ := hI.tf k h
            exact ⟨ns, es, ht.put hno⟩
        · rcases has_mput.1 h with rfl | h
          · exact hw
          · exact hI.nw k h
        · rcases r4 z hz with h | ⟨z1, z2, z3, z4, z5⟩
          · exact hitold z (hI.it z (hsub z h))
          · have hnb := (n2 _).1 z2
            refine ⟨(hnb.rng hg).2, .inr ⟨⟨by omega, by dsimp only; omega⟩, by rw [z1]; exact has_mput.2 (.inl rfl), by rw [z1]; exact hnb.comm⟩⟩
        · rcases hI.st k h with h | ⟨z, hz, e1, e2⟩
          · exact .inl (has_mput.2 (.inr h))
          · rcases hcase z hz with rfl | hz
            · exact .inl (has_mput.2 (.inl e1.symm))
            · exact .inr ⟨z, r3 z hz, e1, e2⟩
        · rcases has_mput.1 hk' with rfl | hk'
          · exact r5 z ((n2 z).2 hn)
          · rcases hI.cl k z hk' hn with h | ⟨y, hy, e⟩
            · exact .inl (has_mput.2 (.inr h))
            · rcases hcase y hy with rfl | hy
              · exact .inl (has_mput.2 (.inl e.symm))
              · exact .inr ⟨y, r3 y hy, e⟩
        · have := (hI.ks.put (k := x.fat) (v := x.ffrom)).few hg (fun k h => by
            rcases has_mput.1 h with rfl | h
            · exact xr
            · exact hI.rng k h)
          dsimp only; omega
  · have hq : q = [] := List.eq_nil_of_length_eq_zero (by omega)
    subst hq
    have hin : ∀ k x, mhas k fr = true → nb (Cc f) (Rr f) k x → mhas x fr = true := fun k x h h' => by
      rcases hI.cl k x h h' with h | ⟨y, hy, _⟩
      · exact h
      · cases hy
    have haf : mhas a fr = true := by
      rcases hI.st a ha with h | ⟨y, hy, _⟩
      · exact h
      · cases hy
    exact hI.nw b (conn_all hg (S := fun k => mhas k fr = true) hin (hr a ha) haf b (wr b hb)) hb
end
end Go.Proofs.YtgmjhlpjlggpiaaDoor.X
namespace Go.Proofs.YtgmjhlpjlggpiaaDoor.X
open Go Go.RowKit
set_option linter.unusedVariables false
set_option linter.unusedSimpArgs false
set_option linter.unusedSectionVars false
theorem mem_mput {κ α : Type} [DecidableEq κ] {k : κ} {v : α} {e : κ × α} : ∀ {es : List (κ × α)}, e ∈ mput k v es → e = (k, v) ∨ e ∈ es
  | [], h => by simp [mput] at h; exact .inl h
  | (a, b) :: r, h => by
    by_cases q : k = a
    · simp only [mput, q, if_true] at h
      rcases List.mem_cons.1 h with h | h
      · exact .inl (by rw [h, q])
      · exact .inr (List.mem_cons_of_mem _ h)
    · simp only [mput, q, if_false] at h
      rcases List.mem_cons.1 h with h | h
      · exact .inr (h ▸ List.mem_cons_self)
      · rcases mem_mput h with h | h
        · exact .inl h
        · exact .inr (List.mem_cons_of_mem _ h)
def AllT (es : List (Int × Bool)) : Prop := ∀ e ∈ es, e.2 = true
theorem AllT.get {es : List (Int × Bool)} (h : AllT es) (k : Int) : mget k es false = true ↔ mhas k es = true := by
  constructor
  · intro hg
    cases hh : mhas k es with
    | true => rfl
    | false => rw [mget_no hh] at hg; cases hg
  · intro hh
    obtain ⟨e, he, h1, h2⟩ := mget_in (d := false) hh
    rw [← h2]; exact h e he
theorem Trail.ext {C R : Int} {H : Int → Prop} {k : Int} {ns : List Int} {es : List T_global_Edge} (h : Trail C R H k ns es) (par : Int → Int) (rk : Int → Nat) :
    ∃ (par' : Int → Int) (rk' : Int → Nat), (∀ x, H x → par' x = par x ∧ rk' x = rk x) ∧ es = ns.map (fun x => mkE x (par' x)) ∧ (∀ x ∈ ns, nb C R x (par' x) ∧ (H (par' x) ∨ par' x ∈ ns) ∧ rk' (par' x) < rk' x) ∧ ns.Nodup ∧ (∀ x ∈ ns, ¬ H x) ∧ (H k ∨ k ∈ ns) := by
  induction h with
  | stop hk => exact ⟨par, rk, fun _ _ => ⟨rfl, rfl⟩, rfl, fun x hx => (by cases hx), List.nodup_nil, fun x hx => (by cases hx), .inl hk⟩
  | @step k p ns es hn hb hni _ ih =>
    obtain ⟨par1, rk1, a1, a2, a3, a4, a5, a6⟩ := ih
    have nek : ∀ {x}, x ∈ ns → x ≠ k := fun hx e => hni (e ▸ hx)
    have pk : p ≠ k := by
      rintro rfl
      rcases a6 with h | h
      · exact hn h
      · exact hni h
    refine ⟨fun x => if x = k then p else par1 x, fun x => if x = k then rk1 p + 1 else rk1 x, fun x hx => ?_, ?_, fun x hx => ?_, List.nodup_cons.2 ⟨hni, a4⟩, fun x hx => ?_, .inr List.mem_cons_self⟩
    · have : x ≠ k := fun e => hn (e ▸ hx)
      dsimp only
      rw [if_neg this, if_neg this]; exact a1 x hx
    · have : ns.map (fun x => mkE x (if x = k then p else par1 x)) = ns.map (fun x => mkE x (par1 x)) := List.map_congr_left fun x hx => by rw [if_neg (nek hx)]
      rw [List.map_cons]
      dsimp only
      rw [if_pos rfl, this, a2]
    · dsimp only
      rcases List.mem_cons.1 hx with rfl | hx
      · rw [if_pos rfl, if_pos rfl, if_neg pk]
        exact ⟨hb, a6.elim .inl fun h => .inr (List.mem_cons_of_mem _ h), by omega⟩
      · obtain ⟨b1, b2, b3⟩ := a3 x hx
        have hpk : par1 x ≠ k := fun e => by
          rw [e] at b2
          exact b2.elim hn hni
        rw [if_neg (nek hx), if_neg (nek hx), if_neg hpk]
        exact ⟨b1, b2.elim .inl fun h => .inr (List.mem_cons_of_mem _ h), b3⟩
    · rcases List.mem_cons.1 hx with rfl | hx
      · exact hn
      · exact a5 x hx
/-- Borders that form a tree over the regions H. -/
def Tree (C R root : Int) (H : Int → Prop) (out : List T_global_Edge) : Prop := ∃ (xs : List Int) (par : Int → Int) (rk : Int → Nat),
  out = xs.map (fun x => mkE x (par x)) ∧ xs.Nodup ∧ root ∉ xs ∧ (∀ x, H x ↔ x = root ∨ x ∈ xs) ∧ ∀ x ∈ xs, nb C R x (par x) ∧ H (par x) ∧ rk (par x) < rk x
theorem Tree.congr {C R root : Int} {H H' : Int → Prop} {out : List T_global_Edge} (h : Tree C R root H out) (e : ∀ x, H x ↔ H' x) : Tree C R root H' out := by
  have : H = H' := by funext x; exact propext (e x)
  rw [← this]; exact h
theorem Tree.ext {C R root : Int} {H : Int → Prop} {out : List T_global_Edge} (h : Tree C R root H out) {k : Int} {ns : List Int} {es : List T_global_Edge} (ht : Trail C R H k ns es) :
    Tree C R root (fun x => H x ∨ x ∈ ns) (out ++ es) ∧ (H k ∨ k ∈ ns) ∧ ∀ y, (∃ e ∈ es, y = e.From ∨ y = e.To) → H y ∨ y ∈ ns := by
  obtain ⟨xs, par, rk, h1, h2, h3, h4, h5⟩ := h
  obtain ⟨par', rk', a1, a2, a3, a4, a5, a6⟩ := ht.ext par rk
  have hx : ∀ x ∈ xs, H x := fun x hx => (h4 x).2 (.inr hx)
  refine ⟨⟨xs ++ ns, par', rk', ?_, List.nodup_append.2 ⟨h2, a4, fun a ha b hb e => a5 b hb (e ▸ hx a ha)⟩, fun hm => ?_, fun x => ?_, fun x hm => ?_⟩, a6, ?_⟩
  · rw [List.map_append, h1, a2]
    congr 1
    exact List.map_congr_left fun x hm => by rw [(a1 x (hx x hm)).1]
  · rcases List.mem_append.1 hm with h | h
    · exact h3 h
    · exact a5 _ h ((h4 root).2 (.inl rfl))
  · show (H x ∨ x ∈ ns) ↔ _
    rw [h4, List.mem_append, or_assoc]
  · rcases List.mem_append.1 hm with h | h
    · obtain ⟨b1, b2, b3⟩ := h5 x h
      rw [(a1 x (hx x h)).1, (a1 x (hx x h)).2, (a1 _ b2).2]
      exact ⟨b1, .inl b2, b3⟩
    · obtain ⟨b1, b2, b3⟩ := a3 x h
      exact ⟨b1, b2, b3⟩
  · rintro y ⟨e, he, hy⟩
    rw [a2] at he
    obtain ⟨x, hxm, rfl⟩ := List.mem_map.1 he
    obtain ⟨_, b2, _⟩ := a3 x hxm
    have : y = x ∨ y = par' x := by simp only [mkE] at hy; omega
    rcases this with rfl | rfl
    · exact .inr hxm
    · exact b2
theorem Trail.ends {C R : Int} {H : Int → Prop} {k : Int} {ns : List Int} {es : List T_global_Edge} (h : Trail C R H k ns es) : ∀ x ∈ ns, ∃ e ∈ es, x = e.From ∨ x = e.To := by
  induction h with
  | stop _ => exact fun x hx => by cases hx
  | @step k p ns es _ _ _ _ ih =>
    intro x hx
    rcases List.mem_cons.1 hx with rfl | hx
    · exact ⟨_, List.mem_cons_self, by simp only [mkE]; omega⟩
    · obtain ⟨e, he, h⟩ := ih x hx
      exact ⟨e, List.mem_cons_of_mem _ he, h⟩
theorem Trail.rng {C R : Int} (hg : GridN C R) {H : Int → Prop} {k : Int} {ns : List Int} {es : List T_global_Edge} (h : Trail C R H k ns es) : ∀ x ∈ ns, 0 ≤ x ∧ x < C * R := by
  induction h with
  | stop _ => exact fun x hx => by cases hx
  | step _ hb _ _ ih =>
    intro x hx
    rcases List.mem_cons.1 hx with rfl | hx
    · exact (hb.rng hg).1
    · exact ih x hx
theorem Tree.few {C R root : Int} {H : Int → Prop} {out : List T_global_Edge} (hg : GridN C R) (h : Tree C R root H out) : out.length ≤ 24 := by
  obtain ⟨xs, par, rk, rfl, h2, _, _, h5⟩ := h
  have := hg.le
  have := few_int (n := 24) h2 fun x hx => by have := ((h5 x hx).1.rng hg).1; omega
  simpa using this
def reg (f : T_floor_Floor) (p : T_legal_Pin) : Int := p.At.Y / 8 * Cc f + p.At.X / 8
def PinsIn (f : T_floor_Floor) (n : T_legal_Net) : Prop := n.Pins.length ≤ 10 ∧ ∀ p ∈ n.Pins, (0 ≤ p.At.X ∧ p.At.X < 4 * f.Sites + 8) ∧ 0 ≤ p.At.Y ∧ p.At.Y < 4 * f.Rows + 8
def WayOf (f : T_floor_Floor) (n : T_legal_Net) (out : List T_global_Edge) : Prop := (n.Pins = [] ∧ out = []) ∨ ∃ root H, Tree (Cc f) (Rr f) root H out ∧ ∀ p ∈ n.Pins, H (reg f p)
section
variable {f : T_floor_Floor} (hf : FlN f) {rm ld ps : List (T_global_Edge × Int)} (h1 : Bd rm) (h2 : Bd ld) (h3 : Bd ps)
include hf h1 h2 h3
theorem way14_ok {r out : List T_global_Edge} {has : List (Int × Bool)} (hk : Ks has) (hl : r.length ≤ 1000) (ho : out.length ≤ 1000) :
    NOk (nlp (P_global_plan_way_L14 r) fuel (out, has, 0)) (fun s => s.1 = out ++ r ∧ Ks s.2 ∧ ∀ k, mhas k s.2 = true ↔ mhas k has = true ∨ ∃ e ∈ r, k = e.From ∨ k = e.To) := by
  refine nok_lp (fun s => (0 ≤ s.2.2 ∧ s.2.2 ≤ r.length) ∧ s.1 = out ++ r.take s.2.2.toNat ∧ Ks s.2.1 ∧ ∀ k, mhas k s.2.1 = true ↔ mhas k has = true ∨ ∃ e ∈ r.take s.2.2.toNat, k = e.From ∨ k = e.To) (fun s => ((r.length : Int) - s.2.2).toNat)
    ⟨⟨by simp, by simp⟩, by simp, hk, fun k => by simp⟩ (by simp only; omega) ?_
  rintro ⟨o, h, y⟩ ⟨⟨y0, y1⟩, i1, i2, i3⟩
  dsimp only at y0 y1 i1 i2 i3
  subst i1
  unfold P_global_plan_way_L14
  dsimp only
  refine nok_ite (fun hlt => ?_) (fun hge => nok_ret ?_)
  · have hy : inb y r.length := ⟨y0, hlt⟩
    refine nok_ck hy (nok_lv (nok_lv (nok_lv (nok_lv (nok_ck (by simp only [apOk, List.length_append, List.length_take, List.length_singleton]; omega) (nok_ar (by unfold I64; omega) (nok_ret ⟨⟨⟨by dsimp only; omega, by dsimp only; omega⟩, ?_, i2.put.put, fun k => ?_⟩, by dsimp only; omega⟩)))))))
    · dsimp only
      rw [take_snoc hy, List.append_assoc]
    · dsimp only
      rw [has_mput, has_mput, i3, take_snoc hy]
      constructor
      · rintro (h | h | h | ⟨e, he, h⟩)
        · exact .inr ⟨_, List.mem_append_right _ List.mem_cons_self, .inr h⟩
        · exact .inr ⟨_, List.mem_append_right _ List.mem_cons_self, .inl h⟩
        · exact .inl h
        · exact .inr ⟨e, List.mem_append_left _ he, h⟩
      · rintro (h | ⟨e, he, h⟩)
        · exact .inr (.inr (.inl h))
        · rcases List.mem_append.1 he with he | he
          · exact .inr (.inr (.inr ⟨e, he, h⟩))
          · rw [List.mem_singleton] at he; subst he
            exact h.elim (fun h => .inr (.inl h)) .inl
  · rw [List.take_of_length_le (by omega)] at *
    exact ⟨rfl, i2, i3⟩
theorem way20_ok {has want : List (Int × Bool)} (hk : Ks want) (hl : has.length ≤ 1000) :
    NOk (nlp (P_global_plan_way_L20 has) fuel (want, [])) (fun s => Ks s ∧ (∀ e ∈ s, e ∈ want) ∧ ∀ k, mhas k s = true ↔ mhas k want = true ∧ ¬ mhas k has = true) := by
  refine nok_lp (fun s => s.2.Nodup ∧ (∀ i ∈ s.2, i < has.length) ∧ Ks s.1 ∧ (∀ e ∈ s.1, e ∈ want) ∧ ∀ k, mhas k s.1 = true ↔ mhas k want = true ∧ ∀ i ∈ s.2, (gt has (i : Int)).1 ≠ k) (fun s => has.length - s.2.length)
    ⟨List.nodup_nil, fun i hi => (by simp at hi), hk, fun e he => he, fun k => by simp⟩ (by simp only; omega) ?_
  rintro ⟨w, sn⟩ ⟨s1, s2, s3, s4, s5⟩
  dsimp only at s1 s2 s3 s4 s5
  unfold P_global_plan_way_L20
  dsimp only
  refine nok_nx (fun hall => nok_ret ⟨s3, s4, fun k => ?_⟩) fun i hi hni => ?_
  · rw [s5]
    refine and_congr Iff.rfl ⟨fun h hh => ?_, fun h i hi e => h (by rw [← e]; exact mhas_at (s2 i hi))⟩
    obtain ⟨i, hi, e⟩ := mhas_idx hh
    exact h i (hall i hi) e
  · obtain ⟨a1, a2⟩ := seen_add s1 s2 hi hni
    refine nok_lv (nok_lv (nok_ret ⟨⟨a1, a2, s3.del, fun e he => s4 e (mem_mdel he), fun k => ?_⟩, seen_dec s1 s2 hi hni⟩))
    dsimp only
    rw [has_mdel s3, s5]
    constructor
    · rintro ⟨a, b, c⟩
      refine ⟨b, fun j hj => ?_⟩
      rcases List.mem_append.1 hj with hj | hj
      · exact c j hj
      · rw [List.mem_singleton] at hj; subst hj; exact fun e => a e.symm
    · rintro ⟨b, c⟩
      exact ⟨fun e => c i (by simp) e.symm, b, fun j hj => c j (List.mem_append_left _ hj)⟩
theorem way_ok {n : T_legal_Net} (hn : PinsIn f n) : NOk (P_global_plan_way f.Rows f.Sites f.Layers f.Blocks f.Walls f.Ports rm ld ps n) (fun out => WayOf f n out) := by
  have hg := hf.grid
  have hgl := hg.le
  obtain ⟨hn1, hn2⟩ := hn
  have hreg : ∀ p ∈ n.Pins, 0 ≤ reg f p ∧ reg f p < Cc f * Rr f := fun p hp => by
    obtain ⟨r, h, e, h3⟩ := Of_ok hf (p := p.At) (hn2 p hp).1 (hn2 p hp).2
    unfold reg; rw [← e]; exact h3
  unfold P_global_plan_way
  refine nok_bd (S := fun s => (n.Pins = [] ∧ s = ([], [])) ∨ ∃ root, (∀ k, mhas k s.1 = true ↔ k = root) ∧ Ks s.1 ∧ (0 ≤ root ∧ root < Cc f * Rr f) ∧ Ks s.2 ∧ AllT s.2 ∧ (∀ k, mhas k s.2 = true → k ≠ root ∧ 0 ≤ k ∧ k < Cc f * Rr f) ∧ ∀ p ∈ n.Pins, reg f p = root ∨ mhas (reg f p) s.2 = true) ?_ ?_
  · refine nok_lp (fun s => (0 ≤ s.2.2 ∧ s.2.2 ≤ n.Pins.length) ∧ ((s.2.2 = 0 ∧ s.1 = [] ∧ s.2.1 = []) ∨ ∃ root, 0 < s.2.2 ∧ (∀ k, mhas k s.1 = true ↔ k = root) ∧ Ks s.1 ∧ AllT s.1 ∧ (0 ≤ root ∧ root < Cc f * Rr f) ∧ Ks s.2.1 ∧ AllT s.2.1 ∧ (∀ k, mhas k s.2.1 = true → k ≠ root ∧ 0 ≤ k ∧ k < Cc f * Rr f) ∧ ∀ p ∈ n.Pins.take s.2.2.toNat, reg f p = root ∨ mhas (reg f p) s.2.1 = true)) (fun s => ((n.Pins.length : Int) - s.2.2).toNat)
      ⟨⟨by simp, by simp⟩, .inl ⟨rfl, rfl, rfl⟩⟩ (by simp only; omega) ?_
    rintro ⟨has, want, y⟩ ⟨⟨y0, y1⟩, hI⟩
    dsimp only at y0 y1 hI
    unfold P_global_plan_way_L4
    dsimp only
    refine nok_ite (fun hlt => ?_) (fun hge => nok_ret ?_)
    · have hy : inb y n.Pins.length := ⟨y0, hlt⟩
      have hpm : gt n.Pins y ∈ n.Pins := gt_mem hy
      refine nok_ck hy (nok_lv (nok_bo (Of_ok hf (p := ⟨(gt n.Pins y).At.X, (gt n.Pins y).At.Y⟩) (hn2 _ hpm).1 (hn2 _ hpm).2) ?_))
      rintro k ⟨hk, hkr⟩
      have hk' : k = reg f (gt n.Pins y) := hk
      refine nok_bd (S := fun s => ∃ root, (∀ k, mhas k s.1 = true ↔ k = root) ∧ Ks s.1 ∧ AllT s.1 ∧ (0 ≤ root ∧ root < Cc f * Rr f) ∧ Ks s.2 ∧ AllT s.2 ∧ (∀ k, mhas k s.2 = true → k ≠ root ∧ 0 ≤ k ∧ k < Cc f * Rr f) ∧ ∀ p ∈ n.Pins.take (y + 1).toNat, reg f p = root ∨ mhas (reg f p) s.2 = true) (nok_ite (fun hy0 => nok_lv (nok_ret ?_)) (fun hy0 => ?_)) fun s hs => nok_ar (by unfold I64; omega) (nok_ret ⟨⟨⟨by dsimp only; omega, by dsimp only; omega⟩, .inr (by obtain ⟨root, h⟩ := hs; exact ⟨root, by dsimp only; omega, h⟩)⟩, by dsimp only; omega⟩)
      · have h0 : has = [] ∧ want = [] := by
          rcases hI with ⟨_, a, b⟩ | ⟨root, h, _⟩
          · exact ⟨a, b⟩
          · omega
        obtain ⟨rfl, rfl⟩ := h0
        refine ⟨k, fun x => ?_, Ks.nil.put, fun e he => ?_, hkr, Ks.nil, fun e he => (by cases he), fun x hx => by simp [mhas, mfind] at hx, fun p hp => ?_⟩
        · rw [has_mput]; simp [mhas, mfind]
        · rcases mem_mput he with rfl | h
          · rfl
          · cases h
        · subst hy0
          rw [take_snoc hy] at hp
          simp only [Int.toNat_zero, List.take_zero, List.nil_append, List.mem_singleton] at hp
          rw [hp]; exact .inl hk'.symm
      · rcases hI with ⟨h, _⟩ | ⟨root, _, a1, a2, a3, a4, a5, a6, a7, a8⟩
        · exact absurd h hy0
        · refine nok_lv (nok_bd (S := fun w => Ks w ∧ AllT w ∧ (∀ k, mhas k w = true → k ≠ root ∧ 0 ≤ k ∧ k < Cc f * Rr f) ∧ ∀ p ∈ n.Pins.take (y + 1).toNat, reg f p = root ∨ mhas (reg f p) w = true) (nok_ite (fun hc => nok_lv (nok_ret ?_)) (fun hc => nok_ret ?_)) fun w hw => nok_ret ⟨root, a1, a2, a3, a4, hw⟩)
          · have hne : k ≠ root := fun e => by
              have := (a3.get k).2 ((a1 k).2 e)
              rw [this] at hc; simp at hc
            refine ⟨a5.put, fun e he => ?_, fun x hx => ?_, fun p hp => ?_⟩
            · rcases mem_mput he with rfl | h
              · rfl
              · exact a6 e h
            · rcases has_mput.1 hx with rfl | h
              · exact ⟨hne, hkr⟩
              · exact a7 x h
            · rcases (mem_take hy).1 hp with h | rfl
              · exact (a8 p h).elim .inl fun h => .inr (has_mput.2 (.inr h))
              · exact .inr (has_mput.2 (.inl hk'.symm))
          · have he : k = root := by
              rw [← a1]
              refine (a3.get k).1 ?_
              simpa using hc
            refine ⟨a5, a6, a7, fun p hp => ?_⟩
            rcases (mem_take hy).1 hp with h | rfl
            · exact a8 p h
            · exact .inl (by rw [← hk', he])
    · rcases hI with ⟨a, b, c⟩ | ⟨root, _, a1, a2, a3, a4, a5, a6, a7, a8⟩
      · refine .inl ⟨List.eq_nil_of_length_eq_zero (by omega), ?_⟩
        rw [b, c]
      · rw [List.take_of_length_le (by omega)] at a8
        exact .inr ⟨root, a1, a2, a4, a5, a6, a7, a8⟩
  rintro ⟨has, want⟩ hs
  dsimp only at hs
  refine nok_bd (S := fun out => WayOf f n out) ?_ fun out h => nok_ret h
  rcases hs with ⟨hp, e⟩ | ⟨root, a1, a2, a4, a5, a6, a7, a8⟩
  · cases e
    refine nok_lp (fun s => s = ([], [], [])) (fun _ => 0) rfl (by simp) ?_
    rintro _ rfl
    unfold P_global_plan_way_L12
    dsimp only
    exact nok_f (by simp) (nok_ret (.inl ⟨hp, rfl⟩))
  · refine nok_lp (fun s => Ks s.2.1 ∧ (∀ k, mhas k s.2.1 = true → 0 ≤ k ∧ k < Cc f * Rr f) ∧ Tree (Cc f) (Rr f) root (fun k => mhas k s.2.1 = true) s.1 ∧ Ks s.2.2 ∧ AllT s.2.2 ∧ (∀ k, mhas k s.2.2 = true → 0 ≤ k ∧ k < Cc f * Rr f) ∧ ∀ p ∈ n.Pins, mhas (reg f p) s.2.1 = true ∨ mhas (reg f p) s.2.2 = true) (fun s => s.2.2.length) ?_ ?_ ?_
    · refine ⟨a2, fun k h => by rw [(a1 k).1 h]; exact a4, ⟨[], fun x => x, fun _ => 0, rfl, List.nodup_nil, by simp, fun x => by simp [a1], fun x hx => by cases hx⟩, a5, a6, fun k h => (a7 k h).2, fun p hp => ?_⟩
      rcases a8 p hp with h | h
      · exact .inl ((a1 _).2 h)
      · exact .inr h
    · have := a5.few hg fun k h => (a7 k h).2
      simp only; omega
    rintro ⟨out, has, want⟩ ⟨b1, b2, b3, b4, b5, b6, b7⟩
    dsimp only at b1 b2 b3 b4 b5 b6 b7
    have hol := b3.few hg
    unfold P_global_plan_way_L12
    dsimp only
    refine nok_ite (fun hlt => ?_) (fun hge => nok_ret (.inr ⟨root, _, b3, fun p hp => ?_⟩))
    · have hb := mhas_at (es := want) (i := 0) (by omega)
      have hroot : mhas root has = true := by
        obtain ⟨xs, par, rk, _, _, _, t4, _⟩ := b3
        exact (t4 root).2 (.inl rfl)
      refine nok_bd (reach_ok hf h1 h2 h3 (want := want) b1 b2 (fun k h => b6 k ((b5.get k).1 h)) hroot ((b5.get _).2 hb)) ?_
      rintro r ⟨k, ns, hk, ht⟩
      obtain ⟨t1, t2, t3⟩ := b3.ext ht
      have hrl : r.length ≤ 1000 := by
        have := t1.few hg
        simp only [List.length_append] at this; omega
      refine nok_bd (way14_ok hf h1 h2 h3 b1 hrl (by omega)) ?_
      rintro ⟨out', has'⟩ ⟨c1, c2, c3⟩
      dsimp only at c1 c2 c3
      subst c1
      have hkeys : ∀ x, mhas x has' = true ↔ mhas x has = true ∨ x ∈ ns := fun x => by
        rw [c3]
        constructor
        · rintro (h | h)
          · exact .inl h
          · exact t3 x h
        · rintro (h | h)
          · exact .inl h
          · exact .inr (ht.ends x h)
      have hrng : ∀ x, mhas x has' = true → 0 ≤ x ∧ x < Cc f * Rr f := fun x hx => by
        rcases (hkeys x).1 hx with h | h
        · exact b2 x h
        · exact ht.rng hg x h
      refine nok_bd (way20_ok hf h1 h2 h3 (has := has') b4 (by have := c2.few hg hrng; omega)) ?_
      rintro w ⟨w1, w2, w3⟩
      refine nok_ret ⟨⟨c2, hrng, t1.congr fun x => (hkeys x).symm, w1, fun e he => b5 e (w2 e he), fun x hx => b6 x ((w3 x).1 hx).1, fun p hp => ?_⟩, ?_⟩
      · dsimp only
        by_cases q : mhas (reg f p) has' = true
        · exact .inl q
        · rcases b7 p hp with h | h
          · exact absurd ((hkeys _).2 (.inl h)) q
          · exact .inr ((w3 _).2 ⟨h, q⟩)
      · dsimp only
        have hkw := (b5.get k).1 hk
        have hkh : mhas k has' = true := (hkeys k).2 t2
        have := nodup_le (l := List.map (fun e : Int × Bool => e.1) w) (m := (List.map (fun e : Int × Bool => e.1) want).erase k) w1 fun x hx => by
          have h := (w3 x).1 (mhas_mem.2 hx)
          exact (List.mem_erase_of_ne fun e => h.2 (by rw [e]; exact hkh)).2 (mhas_mem.1 h.1)
        rw [List.length_erase_of_mem (mhas_mem.1 hkw)] at this
        simp only [List.length_map] at this
        omega
    · rcases b7 p hp with h | h
      · exact h
      · obtain ⟨i, hi, _⟩ := mhas_idx h
        omega
end
end Go.Proofs.YtgmjhlpjlggpiaaDoor.X
namespace Go.Proofs.YtgmjhlpjlggpiaaDoor.X
open Go Go.RowKit
set_option linter.unusedVariables false
set_option linter.unusedSimpArgs false
set_option linter.unusedSectionVars false
def IsRoot (g : List (Int × Int)) (k : Int) : Prop := mhas k g = false ∨ mget k g 0 = k
/-- From k the pointers lead to r in at most n steps. -/
inductive Rt (g : List (Int × Int)) : Nat → Int → Int → Prop
  | here {n : Nat} {k : Int} : IsRoot g k → Rt g n k k
  | step {n : Nat} {k r : Int} : ¬ IsRoot g k → Rt g n (mget k g 0) r → Rt g (n + 1) k r
theorem Rt.root {g : List (Int × Int)} {n : Nat} {k r : Int} (h : Rt g n k r) : IsRoot g r := by
  induction h with
  | here h => exact h
  | step _ _ ih => exact ih
theorem IsRoot.put {g : List (Int × Int)} {r1 r2 k : Int} (h : k ≠ r1) : IsRoot (mput r1 r2 g) k ↔ IsRoot g k := by
  unfold IsRoot
  have : mhas k (mput r1 r2 g) = mhas k g := by
    rw [Bool.eq_iff_iff, has_mput]
    exact ⟨fun e => e.elim (fun e => absurd e h) id, .inr⟩
  rw [this, mget_mput, if_neg h]
theorem Rt.put {g : List (Int × Int)} {n : Nat} {k r r1 r2 : Int} (h : Rt g n k r) (h1 : IsRoot g r1) (h2 : IsRoot g r2) (ne : r1 ≠ r2) : Rt (mput r1 r2 g) (n + 1) k (if r = r1 then r2 else r) := by
  induction h with
  | @here n k hk =>
    by_cases q : k = r1
    · subst q
      rw [if_pos rfl]
      refine .step (fun hr => ?_) ?_
      · rcases hr with hr | hr
        · have := has_mput (k := k) (k' := k) (v := r2) (es := g)
          rw [hr] at this; simp at this
        · rw [mget_mput, if_pos rfl] at hr; exact ne hr.symm
      · rw [mget_mput, if_pos rfl]
        exact .here ((IsRoot.put (Ne.symm ne)).2 h2)
    · rw [if_neg q]
      exact .here ((IsRoot.put q).2 hk)
  | @step n k r hk _ ih =>
    have q : k ≠ r1 := fun e => hk (e ▸ h1)
    refine .step (fun hr => hk ((IsRoot.put q).1 hr)) ?_
    rw [mget_mput, if_neg q]; exact ih
theorem Rt.lp {g : List (Int × Int)} {n : Nat} {k r : Int} (h : Rt g n k r) : ∀ {m : Nat}, n < m → lp (P_global_joins_1_L1 g) m k = some r := by
  induction h with
  | @here n k hk =>
    intro m hm
    obtain ⟨m, rfl⟩ : ∃ j, m = j + 1 := ⟨m - 1, by omega⟩
    have : ((!mhas k g) || decide (mget k g 0 = k)) = true := by
      rcases hk with h | h <;> simp [h]
    simp only [X.lp, P_global_joins_1_L1, lv]
    rw [if_pos this]
  | @step n k r hk _ ih =>
    intro m hm
    obtain ⟨m, rfl⟩ : ∃ j, m = j + 1 := ⟨m - 1, by omega⟩
    have : ¬ ((!mhas k g) || decide (mget k g 0 = k)) = true := fun e => hk (by
      simp only [Bool.or_eq_true, Bool.not_eq_true', decide_eq_true_eq] at e
      exact e)
    simp only [X.lp, P_global_joins_1_L1, lv]
    rw [if_neg this]
    exact ih (by omega)
theorem joins1_ok {g : List (Int × Int)} {n : Nat} {k r : Int} (h : Rt g n k r) (hn : n ≤ 1000) : Ok (P_global_joins_1 k g) (fun x => x = r) := by
  unfold P_global_joins_1
  refine ok_eq (a := r) ?_ rfl
  rw [h.lp (by unfold fuel; omega)]; rfl
/-- The groups after the borders of S. -/
structure UF (par : Int → Int) (S : List Int) (g : List (Int × Int)) (rt : Int → Int) : Prop where
  r : ∀ k, Rt g S.length k (rt k)
  j : ∀ x ∈ S, rt x = rt (par x)
  s : ∀ D : Int → Prop, (∀ x ∈ S, D x ↔ D (par x)) → ∀ a b, rt a = rt b → (D a ↔ D b)
theorem UF.nil {par : Int → Int} : UF par [] [] (fun k => k) := ⟨fun k => .here (.inl rfl), fun x hx => (by cases hx), fun D _ a b e => by rw [show a = b from e]⟩
theorem UF.add {par : Int → Int} {S : List Int} {g : List (Int × Int)} {rt : Int → Int} (h : UF par S g rt) {x a b : Int} (hab : mkE x (par x) = ⟨a, b⟩) (ne : rt a ≠ rt b) : UF par (S ++ [x]) (mput (rt a) (rt b) g) (fun k => if rt k = rt a then rt b else rt k) := by
  have hx : (a = x ∧ b = par x) ∨ (a = par x ∧ b = x) := by
    simp only [mkE, T_global_Edge.mk.injEq] at hab; omega
  refine ⟨fun k => ?_, fun z hz => ?_, fun D hD u v e => ?_⟩
  · rw [List.length_append, List.length_singleton]
    exact (h.r k).put (h.r a).root (h.r b).root ne
  · rcases List.mem_append.1 hz with hz | hz
    · rw [h.j z hz]
    · rw [List.mem_singleton] at hz; subst hz
      rcases hx with ⟨rfl, rfl⟩ | ⟨rfl, rfl⟩
      · rw [if_pos rfl, if_neg (Ne.symm ne)]
      · rw [if_pos rfl, if_neg (Ne.symm ne)]
  · have hs := h.s D fun y hy => hD y (List.mem_append_left _ hy)
    have hxy : D a ↔ D b := by
      have := hD x (by simp)
      rcases hx with ⟨rfl, rfl⟩ | ⟨rfl, rfl⟩
      · exact this
      · exact this.symm
    by_cases q1 : rt u = rt a <;> by_cases q2 : rt v = rt a
    · exact (hs u a q1).trans (hs v a q2).symm
    · rw [if_pos q1, if_neg q2] at e
      exact ((hs u a q1).trans hxy).trans (hs b v e)
    · rw [if_neg q1, if_pos q2] at e
      exact (hs u b e).trans (hxy.symm.trans (hs v a q2).symm)
    · rw [if_neg q1, if_neg q2] at e
      exact hs u v e
/-- What hangs below x. -/
inductive Below (par : Int → Int) (xs : List Int) (x : Int) : Int → Prop
  | here : Below par xs x x
  | up {k : Int} : k ∈ xs → Below par xs x (par k) → Below par xs x k
theorem UF.apart {par : Int → Int} {rk : Int → Nat} {xs S : List Int} {g : List (Int × Int)} {rt : Int → Int} (h : UF par S g rt) (hS : ∀ y ∈ S, y ∈ xs) (hk : ∀ y ∈ xs, rk (par y) < rk y) {x : Int} (hx : x ∈ xs) (hn : x ∉ S) : rt x ≠ rt (par x) := by
  intro e
  have := (h.s (Below par xs x) (fun y hy => ⟨fun hb => ?_, fun hb => .up (hS y hy) hb⟩) x (par x) e).1 .here
  · have hr : ∀ k, Below par xs x k → rk x ≤ rk k := by
      intro k hb
      induction hb with
      | here => exact Nat.le_refl _
      | up hm _ ih => have := hk _ hm; omega
    have h1 := hr _ this
    have h2 := hk x hx
    omega
  · cases hb with
    | here => exact absurd hy hn
    | up _ h => exact h
theorem UF.one {par : Int → Int} {rk : Int → Nat} {xs : List Int} {g : List (Int × Int)} {rt : Int → Int} {root : Int} {H : Int → Prop} (h : UF par xs g rt) (hH : ∀ x, H x ↔ x = root ∨ x ∈ xs) (hk : ∀ y ∈ xs, H (par y) ∧ rk (par y) < rk y) : ∀ x, H x → rt x = rt root := by
  have : ∀ n x, rk x < n → H x → rt x = rt root := by
    intro n
    induction n with
    | zero => intro x hx; omega
    | succ n ih =>
      intro x hx hh
      rcases (hH x).1 hh with rfl | hm
      · rfl
      · rw [h.j x hm]
        exact ih _ (by have := (hk x hm).2; omega) (hk x hm).1
  exact fun x hh => this _ x (Nat.lt_succ_self _) hh
theorem PinsIn.reg {f : T_floor_Floor} (hf : FlN f) {n : T_legal_Net} (hn : PinsIn f n) {p : T_legal_Pin} (hp : p ∈ n.Pins) : Ok (P_global_Of f ⟨p.At.X, p.At.Y⟩) (fun r => r = reg f p) :=
  (Of_ok hf (p := ⟨p.At.X, p.At.Y⟩) (hn.2 p hp).1 (hn.2 p hp).2).mono fun r h => h.1
theorem WayOf.tree {f : T_floor_Floor} {n : T_legal_Net} {out : List T_global_Edge} (h : WayOf f n out) : ∃ root H, Tree (Cc f) (Rr f) root H out ∧ ∀ p ∈ n.Pins, H (reg f p) := by
  rcases h with ⟨h, rfl⟩ | h
  · exact ⟨0, fun x => x = 0, ⟨[], fun x => x, fun _ => 0, rfl, List.nodup_nil, by simp, fun x => by simp, fun x hx => by cases hx⟩, fun p hp => by rw [h] at hp; cases hp⟩
  · exact h
theorem joins_ok {f : T_floor_Floor} (hf : FlN f) {n : T_legal_Net} {way : List T_global_Edge} (hn : PinsIn f n) (hw : WayOf f n way) : Ok (P_global_joins f n way) (fun r => r = 0) := by
  obtain ⟨root, H, ht, hp⟩ := hw.tree
  have hl := ht.few hf.grid
  obtain ⟨xs, par, rk, e, h2, h3, h4, h5⟩ := ht
  have hxl : way.length = xs.length := by rw [e, List.length_map]
  have hgt : ∀ {y : Int}, inb y way.length → gt way y = mkE (gt xs y) (par (gt xs y)) := fun {y} hy => by
    have hy' : inb y xs.length := by rw [← hxl]; exact hy
    rw [gt_get hy, gt_get hy']
    simp [e]
  unfold P_global_joins
  refine ok_bs1 (R := fun g => ∃ rt, UF par xs g rt) ?_ ?_
  · refine ok_lp (fun s => (0 ≤ s.1 ∧ s.1 ≤ way.length) ∧ ∃ rt, UF par (xs.take s.1.toNat) s.2 rt) (fun s => ((way.length : Int) - s.1).toNat) ⟨⟨by simp, by simp⟩, _, by simpa using UF.nil⟩ (by simp only; omega) ?_
    rintro ⟨y, g⟩ ⟨⟨y0, y1⟩, rt, hu⟩
    dsimp only at y0 y1 hu
    unfold P_global_joins_L4
    dsimp only
    refine ok_ite (fun hlt => ?_) (fun hge => ok_some ⟨g, rfl, rt, by rw [List.take_of_length_le (by omega)] at hu; exact hu⟩)
    have hy : inb y way.length := ⟨y0, hlt⟩
    have hy' : inb y xs.length := by rw [← hxl]; exact hy
    have hlen : (xs.take y.toNat).length ≤ 1000 := by rw [List.length_take]; omega
    refine ok_ck hy (ok_lv (ok_bd (joins1_ok (hu.r _) hlen) ?_))
    rintro _ rfl
    refine ok_bd (joins1_ok (hu.r _) hlen) ?_
    rintro _ rfl
    have hxm : gt xs y ∈ xs := gt_mem hy'
    have hnm : gt xs y ∉ xs.take y.toNat := fun hm => by
      have := h2.sublist (List.take_sublist (y + 1).toNat xs)
      rw [take_snoc hy'] at this
      exact (List.nodup_append.1 this).2.2 _ hm _ (by simp) rfl
    have hap := hu.apart (rk := rk) (fun z hz => List.mem_of_mem_take hz) (fun z hz => (h5 z hz).2.2) hxm hnm
    have he := hgt hy
    have hne : rt (gt way y).From ≠ rt (gt way y).To := by
      rw [he]
      simp only [mkE]
      rcases Int.le_total (gt xs y) (par (gt xs y)) with q | q
      · rw [Int.min_eq_left q, Int.max_eq_right q]; exact hap
      · rw [Int.min_eq_right q, Int.max_eq_left q]; exact Ne.symm hap
    refine ok_f hne (ok_lv (ok_ar (by unfold I64; omega) (ok_some ⟨⟨⟨by dsimp only; omega, by dsimp only; omega⟩, (fun k => if rt k = rt (gt way y).From then rt (gt way y).To else rt k), ?_⟩, by dsimp only; omega⟩)))
    dsimp only
    rw [take_snoc hy']
    exact hu.add (x := gt xs y) (by rw [← he]) hne
  rintro g ⟨rt, hu⟩
  have hone := hu.one h4 fun y hy => (h5 y hy).2
  refine ok_bd (R := fun all => all.length ≤ 10 ∧ ∀ x ∈ all, H x) ?_ ?_
  · have hpl := hn.1
    refine ok_lp (fun s => (0 ≤ s.2 ∧ s.2 ≤ n.Pins.length) ∧ (s.1.length : Int) = s.2 ∧ ∀ x ∈ s.1, H x) (fun s => ((n.Pins.length : Int) - s.2).toNat) ⟨⟨by simp, by simp⟩, by simp, fun x hx => by cases hx⟩ (by simp only; omega) ?_
    rintro ⟨all, y⟩ ⟨⟨y0, y1⟩, a1, a2⟩
    dsimp only at y0 y1 a1 a2
    unfold P_global_joins_L13
    dsimp only
    refine ok_ite (fun hlt => ?_) (fun hge => ok_some ⟨by omega, a2⟩)
    have hy : inb y n.Pins.length := ⟨y0, hlt⟩
    refine ok_ck hy (ok_lv (ok_bd (hn.reg hf (gt_mem hy)) ?_))
    rintro _ rfl
    refine ok_lv (ok_ck (by simp only [apOk, List.length_append, List.length_singleton]; omega) (ok_ar (by unfold I64; omega) (ok_some ⟨⟨⟨by dsimp only; omega, by dsimp only; omega⟩, by simp only [List.length_append, List.length_singleton]; omega, fun x hx => ?_⟩, by dsimp only; omega⟩)))
    rcases List.mem_append.1 hx with hx | hx
    · exact a2 x hx
    · rw [List.mem_singleton] at hx; subst hx
      exact hp _ (gt_mem hy)
  rintro all0 ⟨b1, b2⟩
  refine ok_bd (R := fun all => all.length ≤ 34 ∧ ∀ x ∈ all, H x) ?_ ?_
  · refine ok_lp (fun s => (0 ≤ s.2 ∧ s.2 ≤ way.length) ∧ (s.1.length : Int) = all0.length + s.2 ∧ ∀ x ∈ s.1, H x) (fun s => ((way.length : Int) - s.2).toNat) ⟨⟨by simp, by simp⟩, by simp, b2⟩ (by simp only; omega) ?_
    rintro ⟨all, y⟩ ⟨⟨y0, y1⟩, a1, a2⟩
    dsimp only at y0 y1 a1 a2
    unfold P_global_joins_L18
    dsimp only
    refine ok_ite (fun hlt => ?_) (fun hge => ok_some ⟨by omega, a2⟩)
    have hy : inb y way.length := ⟨y0, hlt⟩
    have hy' : inb y xs.length := by rw [← hxl]; exact hy
    refine ok_ck hy (ok_lv (ok_lv (ok_ck (by simp only [apOk, List.length_append, List.length_singleton]; omega) (ok_ar (by unfold I64; omega) (ok_some ⟨⟨⟨by dsimp only; omega, by dsimp only; omega⟩, by simp only [List.length_append, List.length_singleton]; omega, fun x hx => ?_⟩, by dsimp only; omega⟩)))))
    rcases List.mem_append.1 hx with hx | hx
    · exact a2 x hx
    · rw [List.mem_singleton] at hx; subst hx
      rw [hgt hy]
      have hm := gt_mem hy'
      simp only [mkE]
      rcases Int.le_total (gt xs y) (par (gt xs y)) with q | q
      · rw [Int.min_eq_left q]; exact (h4 _).2 (.inr hm)
      · rw [Int.min_eq_right q]; exact (h5 _ hm).2.1
  rintro all ⟨c1, c2⟩
  have hlen : xs.length ≤ 1000 := by omega
  refine ok_bs1 (R := fun _ => True) ?_ fun _ _ => ok_some rfl
  refine ok_lp (fun y => 0 ≤ y ∧ y ≤ all.length) (fun y => ((all.length : Int) - y).toNat) ⟨by omega, by omega⟩ (by omega) ?_
  rintro y ⟨y0, y1⟩
  unfold P_global_joins_L23
  refine ok_ite (fun hlt => ?_) (fun hge => ok_some ⟨(), rfl, trivial⟩)
  have hy : inb y all.length := ⟨y0, hlt⟩
  have hy0 : inb 0 all.length := ⟨by omega, by omega⟩
  refine ok_ck hy (ok_lv (ok_bd (joins1_ok (hu.r _) hlen) ?_))
  rintro _ rfl
  refine ok_ck hy0 (ok_lv (ok_bd (joins1_ok (hu.r _) hlen) ?_))
  rintro _ rfl
  exact ok_f (by rw [hone _ (c2 _ (gt_mem hy)), hone _ (c2 _ (gt_mem hy0))]; simp) (ok_ar (by unfold I64; omega) (ok_some ⟨⟨by omega, by omega⟩, by omega⟩))
/-- A tree's borders: borders of the grid, no two alike. -/
theorem Tree.edges {C R root : Int} {H : Int → Prop} {out : List T_global_Edge} (h : Tree C R root H out) : out.Nodup ∧ ∀ e ∈ out, IsE C R e := by
  obtain ⟨xs, par, rk, rfl, h2, h3, h4, h5⟩ := h
  refine ⟨?_, fun e he => ?_⟩
  · have hin : ∀ x ∈ xs, ∀ y ∈ xs, mkE x (par x) = mkE y (par y) → x = y := fun x hx y hy e => by
      rcases mkE_inj e with ⟨a, _⟩ | ⟨a, b⟩
      · exact a
      · have h1 := (h5 x hx).2.2
        have h2 := (h5 y hy).2.2
        rw [b] at h1; rw [← a] at h2
        omega
    clear h3 h4 h5
    induction xs with
    | nil => exact List.nodup_nil
    | cons a r ih =>
      obtain ⟨g1, g2⟩ := List.nodup_cons.1 h2
      rw [List.map_cons]
      refine List.nodup_cons.2 ⟨fun hm => ?_, ih g2 fun x hx y hy => hin x (List.mem_cons_of_mem _ hx) y (List.mem_cons_of_mem _ hy)⟩
      obtain ⟨y, hy, e⟩ := List.mem_map.1 hm
      have := hin y (List.mem_cons_of_mem _ hy) a List.mem_cons_self e
      exact g1 (this ▸ hy)
  · obtain ⟨x, hx, rfl⟩ := List.mem_map.1 he
    exact (h5 x hx).1
end Go.Proofs.YtgmjhlpjlggpiaaDoor.X
