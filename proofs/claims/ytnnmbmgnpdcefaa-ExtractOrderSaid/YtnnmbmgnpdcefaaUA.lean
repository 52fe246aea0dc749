/- Sums; trees found in graphs; the only solution of their equations, and that it grows with the loads. Plain. -/
import Derived.Test.YtnnmbmgnpdcefaaGA
namespace Go.Proofs.Ytnnmbmgnpdcefaa.X
open Go Go.RowKit
set_option linter.unusedVariables false
set_option linter.unusedSimpArgs false
set_option linter.unusedSectionVars false
/-! sums -/
def lsum {β : Type} (f : β → Int) : List β → Int
  | [] => 0
  | a :: l => f a + lsum f l
theorem lsum_app {β : Type} (f : β → Int) (l m : List β) : lsum f (l ++ m) = lsum f l + lsum f m := by
  induction l with
  | nil => simp [lsum]
  | cons a l ih => rw [List.cons_append, lsum, lsum, ih]; omega
theorem lsum_perm {β : Type} {f : β → Int} {l m : List β} (h : l.Perm m) : lsum f l = lsum f m := by
  induction h with
  | nil => rfl
  | cons a _ ih => rw [lsum, lsum, ih]
  | swap a b l => rw [lsum, lsum, lsum, lsum]; omega
  | trans _ _ h1 h2 => rw [h1, h2]
theorem lsum_map {β γ : Type} (f : γ → Int) (g : β → γ) (l : List β) : lsum f (l.map g) = lsum (fun x => f (g x)) l := by
  induction l with
  | nil => rfl
  | cons a l ih => rw [List.map_cons, lsum, lsum, ih]
theorem lsum_nn {β : Type} {f : β → Int} : ∀ {l : List β}, (∀ x ∈ l, 0 ≤ f x) → 0 ≤ lsum f l ∧ ∀ x ∈ l, f x ≤ lsum f l
  | [], _ => ⟨by simp [lsum], fun x hx => by simp at hx⟩
  | a :: l, h => by
    obtain ⟨h1, h2⟩ := lsum_nn (l := l) fun x hx => h x (List.mem_cons_of_mem _ hx)
    have h0 := h a (by simp)
    rw [lsum]
    refine ⟨by omega, fun x hx => ?_⟩
    rcases List.mem_cons.1 hx with rfl | hx
    · omega
    · have := h2 x hx; omega
theorem lsum_sub {β : Type} (f g : β → Int) (l : List β) : lsum (fun x => f x - g x) l = lsum f l - lsum g l := by
  induction l with
  | nil => rfl
  | cons a l ih => rw [lsum, lsum, lsum, ih]; omega
theorem lsum_congr {β : Type} {f g : β → Int} : ∀ {l : List β}, (∀ x ∈ l, f x = g x) → lsum f l = lsum g l
  | [], _ => rfl
  | a :: l, h => by rw [lsum, lsum, h a (by simp), lsum_congr fun x hx => h x (List.mem_cons_of_mem _ hx)]
def sumN (f : Nat → Int) : Nat → Int
  | 0 => 0
  | n + 1 => sumN f n + f n
theorem sumN_congr {f g : Nat → Int} : ∀ {n : Nat}, (∀ i, i < n → f i = g i) → sumN f n = sumN g n
  | 0, _ => rfl
  | n + 1, h => by rw [sumN, sumN, sumN_congr fun i hi => h i (by omega), h n (by omega)]
theorem sumN_add (f g : Nat → Int) : ∀ n : Nat, sumN (fun i => f i + g i) n = sumN f n + sumN g n
  | 0 => rfl
  | n + 1 => by rw [sumN, sumN, sumN, sumN_add f g n]; omega
theorem sumN_zero : ∀ n : Nat, sumN (fun _ => 0) n = 0
  | 0 => rfl
  | n + 1 => by rw [sumN, sumN_zero n]; rfl
theorem sumN_swap (a : Nat → Nat → Int) (m : Nat) : ∀ n : Nat, sumN (fun i => sumN (fun j => a i j) m) n = sumN (fun j => sumN (fun i => a i j) n) m
  | 0 => by simp only [sumN]; exact (sumN_zero m).symm
  | n + 1 => by simp only [sumN]; rw [sumN_swap a m n, sumN_add]
theorem sumN_le {f g : Nat → Int} : ∀ {n : Nat}, (∀ i, i < n → f i ≤ g i) → sumN f n ≤ sumN g n
  | 0, _ => Int.le_refl _
  | n + 1, h => by
    rw [sumN, sumN]
    have := sumN_le (f := f) (g := g) (n := n) fun i hi => h i (by omega)
    have := h n (by omega)
    omega
theorem sumN_eq {f g : Nat → Int} : ∀ {n : Nat}, (∀ i, i < n → f i ≤ g i) → sumN f n = sumN g n → ∀ i, i < n → f i = g i
  | 0, _, _, i, hi => by omega
  | n + 1, h, e, i, hi => by
    rw [sumN, sumN] at e
    have h1 := sumN_le (f := f) (g := g) (n := n) fun i hi => h i (by omega)
    have h2 := h n (by omega)
    by_cases q : i = n
    · rw [q]; omega
    · exact sumN_eq (n := n) (fun i hi => h i (by omega)) (by omega) i (by omega)
theorem sumN_one {p : Nat → Prop} [DecidablePred p] {k : Nat} : ∀ {n : Nat}, k < n → (∀ i, i < n → (p i ↔ i = k)) → sumN (fun i => if p i then 1 else 0) n = 1
  | 0, hk, _ => by omega
  | n + 1, hk, h => by
    rw [sumN]
    by_cases q : k = n
    · have e : sumN (fun i => if p i then (1 : Int) else 0) n = sumN (fun _ => 0) n := sumN_congr fun i hi => by
        rw [if_neg]; intro hp; have := (h i (by omega)).1 hp; omega
      rw [e, sumN_zero, if_pos ((h n (by omega)).2 q.symm)]; rfl
    · rw [sumN_one (n := n) (by omega) fun i hi => h i (by omega), if_neg fun hp => q ((h n (by omega)).1 hp).symm]; rfl
theorem filter_len {p : Nat → Bool} : ∀ n : Nat, (((List.range n).filter p).length : Int) = sumN (fun j => if p j = true then 1 else 0) n
  | 0 => rfl
  | n + 1 => by
    rw [List.range_succ, List.filter_append, List.length_append, sumN, ← filter_len n]
    cases h : p n <;> simp [h]
theorem filter_sum {p : Nat → Bool} {f : Nat → Int} : ∀ n : Nat, lsum f ((List.range n).filter p) = sumN (fun j => if p j = true then f j else 0) n
  | 0 => rfl
  | n + 1 => by
    rw [List.range_succ, List.filter_append, lsum_app, sumN, ← filter_sum n]
    cases h : p n <;> simp [h, lsum]
/-- As many, none twice, and among them: the same. -/
theorem nodup_le {β : Type} [DecidableEq β] : ∀ {l m : List β}, l.Nodup → (∀ x ∈ l, x ∈ m) → l.length ≤ m.length
  | [], m, _, _ => Nat.zero_le _
  | a :: l, m, hn, hs => by
    obtain ⟨h1, h2⟩ := List.nodup_cons.1 hn
    have hm := hs a (by simp)
    have := nodup_le (l := l) (m := m.erase a) h2 fun x hx => by
      have hxa : x ≠ a := fun e => h1 (e ▸ hx)
      exact (List.mem_erase_of_ne hxa).2 (hs x (List.mem_cons_of_mem _ hx))
    rw [List.length_erase_of_mem hm] at this
    have hpos : 0 < m.length := List.length_pos_of_mem hm
    rw [List.length_cons]; omega
theorem nodup_perm {β : Type} [DecidableEq β] : ∀ {l m : List β}, l.Nodup → (∀ x ∈ l, x ∈ m) → m.length ≤ l.length → l.Perm m
  | [], m, _, _, hl => by
    have : m = [] := List.length_eq_zero_iff.1 (by simpa using hl)
    rw [this]
  | a :: l, m, hn, hs, hl => by
    obtain ⟨h1, h2⟩ := List.nodup_cons.1 hn
    have hm := hs a (by simp)
    have hp := List.perm_cons_erase hm
    have := nodup_perm (l := l) (m := m.erase a) h2 (fun x hx => by
      have hxa : x ≠ a := fun e => h1 (e ▸ hx)
      exact (List.mem_erase_of_ne hxa).2 (hs x (List.mem_cons_of_mem _ hx))) (by
      rw [List.length_erase_of_mem hm]
      rw [List.length_cons] at hl
      omega)
    exact (List.Perm.cons a this).trans hp.symm
/-! steps -/
def oth (s : T_extract_step) (v : T_rules_Spot) : T_rules_Spot := if s.fa = v then s.fb else s.fa
def inc (v : T_rules_Spot) (s : T_extract_step) : Bool := decide (s.fa = v) || decide (s.fb = v)
theorem inc_iff {v : T_rules_Spot} {s : T_extract_step} : inc v s = true ↔ s.fa = v ∨ s.fb = v := by simp [inc]
def resI (s : T_extract_step) : Int := if s.fa.Layer ≠ s.fb.Layer then 5 else if s.fa.Layer < 2 then 4 else 2
def gI (s : T_extract_step) : Int := if s.fa.Layer ≠ s.fb.Layer then 4 else if s.fa.Layer < 2 then 5 else 10
theorem g_res (s : T_extract_step) : gI s * resI s = 20 := by unfold gI resI; split <;> (try split) <;> rfl
theorem g_pos (s : T_extract_step) : 0 < gI s := by unfold gI; split <;> (try split) <;> omega
def Joins (s : T_extract_step) (u v : T_rules_Spot) : Prop := (s.fa = u ∧ s.fb = v) ∨ (s.fa = v ∧ s.fb = u)
theorem Joins.symm {s : T_extract_step} {u v : T_rules_Spot} (h : Joins s u v) : Joins s v u := Or.symm h
theorem Joins.inc1 {s : T_extract_step} {u v : T_rules_Spot} (h : Joins s u v) : inc u s = true := inc_iff.2 (by rcases h with h | h; exact .inl h.1; exact .inr h.2)
theorem Joins.oth {s : T_extract_step} {u v : T_rules_Spot} (h : Joins s u v) (hne : s.fa ≠ s.fb) : X.oth s u = v := by
  unfold X.oth
  rcases h with ⟨h1, h2⟩ | ⟨h1, h2⟩
  · rw [if_pos h1, h2]
  · rw [if_neg (fun e => hne (e.trans h2.symm)), h1]
theorem inc_joins {s : T_extract_step} {v : T_rules_Spot} (h : inc v s = true) : Joins s v (oth s v) := by
  unfold oth
  by_cases q : s.fa = v
  · rw [if_pos q]; exact .inl ⟨q, rfl⟩
  · rw [if_neg q]; exact .inr ⟨rfl, by rcases inc_iff.1 h with h | h; exact absurd h q; exact h⟩
/-- What a search finds: nodes, each but the first from one before it, all that is joined to them. -/
structure Tr (G : List T_extract_step) (n : Nat) (at_ up : Nat → T_rules_Spot) (rs : Nat → Int) : Prop where
  nd : G.Nodup
  ends : ∀ s ∈ G, s.fa ≠ s.fb
  pos : 0 < n
  inj : ∀ i j, i < n → j < n → at_ i = at_ j → i = j
  par : ∀ j, 0 < j → j < n → ∃ k, k < j ∧ at_ k = up j ∧ ∃ s ∈ G, Joins s (up j) (at_ j) ∧ rs j = resI s
  clo : ∀ i, i < n → ∀ s ∈ G, inc (at_ i) s = true → ∃ k, k < n ∧ at_ k = oth s (at_ i)
def deg (G : List T_extract_step) (v : T_rules_Spot) : Int := ((G.filter (inc v)).length : Nat)
section
variable {G : List T_extract_step} {n : Nat} {at_ up : Nat → T_rules_Spot} {rs : Nat → Int}
def kid (at_ up : Nat → T_rules_Spot) (i j : Nat) : Bool := decide (0 < j) && decide (up j = at_ i)
theorem kid_iff {i j : Nat} : kid at_ up i j = true ↔ 0 < j ∧ up j = at_ i := by simp [kid]
theorem Tr.tree (h : Tr G n at_ up rs) (ht : sumN (fun i => deg G (at_ i)) n = 2 * ((n : Int) - 1)) :
    ∃ e : Nat → T_extract_step, (∀ j, 0 < j → j < n → e j ∈ G ∧ Joins (e j) (up j) (at_ j) ∧ rs j = resI (e j)) ∧
      ∀ i, i < n → (G.filter (inc (at_ i))).Perm ((if 0 < i then [e i] else []) ++ ((List.range n).filter (kid at_ up i)).map e) := by
  have hex : ∀ j, ∃ s, 0 < j → j < n → s ∈ G ∧ Joins s (up j) (at_ j) ∧ rs j = resI s := fun j => by
    by_cases q : 0 < j ∧ j < n
    · obtain ⟨k, _, _, s, hs, h1, h2⟩ := h.par j q.1 q.2
      exact ⟨s, fun _ _ => ⟨hs, h1, h2⟩⟩
    · exact ⟨default, fun a b => absurd ⟨a, b⟩ q⟩
  obtain ⟨e, he⟩ := Classical.axiomOfChoice hex
  have hup : ∀ j, 0 < j → j < n → ∀ i, i < n → up j = at_ i → i < j := fun j j0 j1 i i1 hu => by
    obtain ⟨k, hk, hk2, _⟩ := h.par j j0 j1
    have := h.inj i k i1 (by omega) (by rw [hk2, hu])
    omega
  have hsub : ∀ i, i < n → ((if 0 < i then [e i] else []) ++ ((List.range n).filter (kid at_ up i)).map e).Nodup ∧ ∀ s ∈ (if 0 < i then [e i] else []) ++ ((List.range n).filter (kid at_ up i)).map e, s ∈ G.filter (inc (at_ i)) := fun i hi => by
    have hk : ∀ j ∈ (List.range n).filter (kid at_ up i), j < n ∧ 0 < j ∧ up j = at_ i := fun j hj => by
      rw [List.mem_filter, List.mem_range, kid_iff] at hj
      exact ⟨hj.1, hj.2⟩
    have hej : ∀ j, j < n → 0 < j → up j = at_ i → e j ∈ G ∧ Joins (e j) (at_ i) (at_ j) := fun j h1 h2 h3 => by
      obtain ⟨a, b, _⟩ := he j h2 h1
      exact ⟨a, h3 ▸ b⟩
    refine ⟨?_, fun s hs => ?_⟩
    · refine List.nodup_append.2 ⟨by split <;> simp, ?_, fun a ha b hb hab => ?_⟩
      · refine List.pairwise_map.2 (List.Pairwise.imp_of_mem ?_ (List.Pairwise.filter _ List.nodup_range))
        intro j k hj hk' hjk heq
        obtain ⟨j1, j0, ju⟩ := hk j hj
        obtain ⟨k1, k0, ku⟩ := hk k hk'
        obtain ⟨a1, a2⟩ := hej j j1 j0 ju
        obtain ⟨b1, b2⟩ := hej k k1 k0 ku
        have := a2.oth (h.ends _ a1)
        rw [heq, b2.oth (h.ends _ b1)] at this
        exact hjk (h.inj j k j1 k1 this.symm)
      · by_cases q : 0 < i
        · rw [if_pos q, List.mem_singleton] at ha
          obtain ⟨j, hj, rfl⟩ := List.mem_map.1 hb
          obtain ⟨j1, j0, ju⟩ := hk j hj
          obtain ⟨a1, a2, _⟩ := he i q hi
          obtain ⟨b1, b2⟩ := hej j j1 j0 ju
          have h1 := a2.symm.oth (h.ends _ a1)
          rw [← ha, hab, b2.oth (h.ends _ b1)] at h1
          have := hup i q hi j j1 h1.symm
          have := hup j j0 j1 i hi ju
          omega
        · rw [if_neg q] at ha; simp at ha
    · rw [List.mem_filter]
      rcases List.mem_append.1 hs with hs | hs
      · by_cases q : 0 < i
        · rw [if_pos q, List.mem_singleton] at hs
          obtain ⟨a1, a2, _⟩ := he i q hi
          rw [hs]; exact ⟨a1, a2.symm.inc1⟩
        · rw [if_neg q] at hs; simp at hs
      · obtain ⟨j, hj, rfl⟩ := List.mem_map.1 hs
        obtain ⟨j1, j0, ju⟩ := hk j hj
        obtain ⟨b1, b2⟩ := hej j j1 j0 ju
        exact ⟨b1, b2.inc1⟩
  have hle : ∀ i, i < n → (if 0 < i then 1 else 0) + sumN (fun j => if kid at_ up i j = true then 1 else 0) n ≤ deg G (at_ i) := fun i hi => by
    have := nodup_le (hsub i hi).1 (hsub i hi).2
    rw [List.length_append, List.length_map] at this
    have h2 := filter_len (p := kid at_ up i) n
    unfold deg
    rw [← h2]
    split
    · rename_i q; rw [if_pos q] at this; simp only [List.length_singleton] at this; omega
    · rename_i q; rw [if_neg q] at this; simp only [List.length_nil] at this; omega
  have hsum : sumN (fun i => (if 0 < i then 1 else 0) + sumN (fun j => if kid at_ up i j = true then 1 else 0) n) n = 2 * ((n : Int) - 1) := by
    have e1 : sumN (fun i => if 0 < i then (1 : Int) else 0) n = n - 1 := by
      have hp := h.pos
      have : ∀ m : Nat, 0 < m → sumN (fun i => if 0 < i then (1 : Int) else 0) m = m - 1 := by
        intro m
        induction m with
        | zero => intro h0; omega
        | succ m ih =>
          intro _
          rw [sumN]
          by_cases q : 0 < m
          · rw [ih q, if_pos q]; omega
          · rw [if_neg q, show m = 0 by omega]; rfl
      exact this n hp
    have e2 : sumN (fun i => sumN (fun j => if kid at_ up i j = true then (1 : Int) else 0) n) n = n - 1 := by
      rw [sumN_swap, ← e1]
      refine sumN_congr fun j hj => ?_
      by_cases q : 0 < j
      · rw [if_pos q]
        obtain ⟨k, hk, hk2, _⟩ := h.par j q hj
        refine sumN_one (k := k) (by omega) fun i hi => ?_
        rw [kid_iff]
        exact ⟨fun hh => h.inj i k hi (by omega) (by rw [hk2, hh.2]), fun hh => ⟨q, by rw [hh, hk2]⟩⟩
      · rw [if_neg q]
        have hz : sumN (fun i => if kid at_ up i j = true then (1 : Int) else 0) n = sumN (fun _ => 0) n := sumN_congr fun i hi => by
          rw [if_neg]
          rw [kid_iff]
          exact fun hh => q hh.1
        rw [hz, sumN_zero]
    rw [sumN_add, e1, e2]; omega
  have heq := sumN_eq hle (by rw [hsum, ht])
  refine ⟨e, he, fun i hi => (nodup_perm (hsub i hi).1 (hsub i hi).2 ?_).symm⟩
  have h1 := heq i hi
  have h2 := filter_len (p := kid at_ up i) n
  rw [List.length_append, List.length_map]
  unfold deg at h1
  rw [← h2] at h1
  split
  · rename_i q; rw [if_pos q] at h1; simp only [List.length_singleton]; omega
  · rename_i q; rw [if_neg q] at h1; simp only [List.length_nil]; omega
/-- Delays over a tree. -/
structure Sol (n : Nat) (at_ up : Nat → T_rules_Spot) (rs : Nat → Int) (ld : T_rules_Spot → Int) (D : T_rules_Spot → Int) (B : Nat → Int) : Prop where
  root : D (at_ 0) = 0
  step : ∀ j, 0 < j → j < n → D (at_ j) = D (up j) + rs j * B j
  load : ∀ i, i < n → B i = ld (at_ i) + sumN (fun j => if kid at_ up i j = true then B j else 0) n
theorem Sol.lap {ld D : T_rules_Spot → Int} {B : Nat → Int} (h : Tr G n at_ up rs) (ht : sumN (fun i => deg G (at_ i)) n = 2 * ((n : Int) - 1)) (hs : Sol n at_ up rs ld D B) :
    ∀ i, 0 < i → i < n → lsum (fun s => gI s * (D (at_ i) - D (oth s (at_ i)))) (G.filter (inc (at_ i))) = 20 * ld (at_ i) := by
  intro i i0 i1
  obtain ⟨e, he, hp⟩ := h.tree ht
  rw [lsum_perm (hp i i1), if_pos i0, lsum_app, lsum_map, filter_sum, lsum, lsum]
  obtain ⟨a1, a2, a3⟩ := he i i0 i1
  have h1 : gI (e i) * (D (at_ i) - D (oth (e i) (at_ i))) = 20 * B i := by
    rw [a2.symm.oth (h.ends _ a1), hs.step i i0 i1, a3, show D (up i) + resI (e i) * B i - D (up i) = resI (e i) * B i by omega, ← Int.mul_assoc, g_res]
  have h2 : sumN (fun j => if kid at_ up i j = true then gI (e j) * (D (at_ i) - D (oth (e j) (at_ i))) else 0) n = sumN (fun j => -(20 * (if kid at_ up i j = true then B j else 0))) n := sumN_congr fun j hj => by
    by_cases q : kid at_ up i j = true
    · rw [if_pos q, if_pos q]
      obtain ⟨j0, ju⟩ := kid_iff.1 q
      obtain ⟨b1, b2, b3⟩ := he j j0 hj
      rw [ju] at b2
      rw [b2.oth (h.ends _ b1), hs.step j j0 hj, ju, b3, show D (at_ i) - (D (at_ i) + resI (e j) * B j) = -(resI (e j) * B j) by omega, Int.mul_neg, ← Int.mul_assoc, g_res]
    · rw [if_neg q, if_neg q]; rfl
  have h3 : ∀ (f : Nat → Int) (m : Nat), sumN (fun j => -(20 * f j)) m = -(20 * sumN f m) := by
    intro f m
    induction m with
    | zero => rfl
    | succ m ih => rw [sumN, sumN, ih]; omega
  rw [h1, h2, h3]
  have := hs.load i i1
  omega
end
/-- A greatest among the first n, and the first such. -/
theorem first_max (f : Nat → Int) : ∀ n : Nat, 0 < n → ∃ i, i < n ∧ (∀ j, j < n → f j ≤ f i) ∧ ∀ j, j < i → f j < f i
  | 0, h => by omega
  | 1, _ => ⟨0, by omega, fun j hj => by rw [show j = 0 by omega]; exact Int.le_refl _, fun j hj => by omega⟩
  | n + 2, _ => by
    obtain ⟨i, h1, h2, h3⟩ := first_max f (n + 1) (by omega)
    by_cases q : f (n + 1) ≤ f i
    · refine ⟨i, by omega, fun j hj => ?_, h3⟩
      by_cases e : j = n + 1
      · rw [e]; exact q
      · exact h2 j (by omega)
    · refine ⟨n + 1, by omega, fun j hj => ?_, fun j hj => ?_⟩
      · by_cases e : j = n + 1
        · rw [e]; exact Int.le_refl _
        · have := h2 j (by omega); omega
      · have := h2 j (by omega); omega
section
variable {G G' : List T_extract_step} {n n' : Nat} {at_ up at' up' : Nat → T_rules_Spot} {rs rs' : Nat → Int}
/-- Two searches of one graph find the same nodes. -/
theorem Tr.same (h : Tr G n at_ up rs) (h' : Tr G' n' at' up' rs') (hG : ∀ s, s ∈ G → s ∈ G') (h0 : at_ 0 = at' 0) : ∀ i, i < n → ∃ j, j < n' ∧ at' j = at_ i := by
  intro i
  induction i using Nat.strongRecOn with
  | _ i ih =>
    intro hi
    by_cases q : i = 0
    · exact ⟨0, h'.pos, by rw [q, h0]⟩
    · obtain ⟨k, hk, hk2, s, hs, hj, _⟩ := h.par i (by omega) hi
      obtain ⟨j, hj1, hj2⟩ := ih k hk (by omega)
      rw [hk2] at hj2
      rw [← hj2] at hj
      obtain ⟨m, hm, hm2⟩ := h'.clo j hj1 s (hG s hs) hj.inc1
      exact ⟨m, hm, by rw [hm2, hj.oth (h.ends s hs)]⟩
theorem Tr.count (h : Tr G n at_ up rs) (h' : Tr G' n' at' up' rs') (hG : G.Perm G') (h0 : at_ 0 = at' 0) : n = n' ∧ sumN (fun i => deg G (at_ i)) n = sumN (fun i => deg G' (at' i)) n' := by
  have s1 := h.same h' (fun s hs => hG.mem_iff.1 hs) h0
  have s2 := h'.same h (fun s hs => hG.mem_iff.2 hs) h0.symm
  have nd : ∀ {m : Nat} {f : Nat → T_rules_Spot}, (∀ i j, i < m → j < m → f i = f j → i = j) → ((List.range m).map f).Nodup := fun {m f} hi => by
    refine List.pairwise_map.2 (List.Pairwise.imp_of_mem ?_ List.nodup_range)
    intro a b ha hb hab e
    exact hab (hi a b (List.mem_range.1 ha) (List.mem_range.1 hb) e)
  have hp : ((List.range n).map at_).Perm ((List.range n').map at') := by
    have m1 : ∀ x ∈ (List.range n).map at_, x ∈ (List.range n').map at' := fun x hx => by
      obtain ⟨i, hi, rfl⟩ := List.mem_map.1 hx
      obtain ⟨j, hj, e⟩ := s1 i (List.mem_range.1 hi)
      exact List.mem_map.2 ⟨j, List.mem_range.2 hj, e⟩
    have m2 : ∀ x ∈ (List.range n').map at', x ∈ (List.range n).map at_ := fun x hx => by
      obtain ⟨i, hi, rfl⟩ := List.mem_map.1 hx
      obtain ⟨j, hj, e⟩ := s2 i (List.mem_range.1 hi)
      exact List.mem_map.2 ⟨j, List.mem_range.2 hj, e⟩
    exact nodup_perm (nd h.inj) m1 (nodup_le (nd h'.inj) m2)
  have hl := hp.length_eq
  simp only [List.length_map, List.length_range] at hl
  refine ⟨hl, ?_⟩
  have hd : ∀ v, deg G v = deg G' v := fun v => by unfold deg; rw [(hG.filter _).length_eq]
  have sm : ∀ (f : T_rules_Spot → Int) (g : Nat → T_rules_Spot) (m : Nat), sumN (fun i => f (g i)) m = lsum f ((List.range m).map g) := by
    intro f g m
    induction m with
    | zero => rfl
    | succ m ih => rw [sumN, ih, List.range_succ, List.map_append, lsum_app]; simp [lsum]
  rw [sm (deg G) at_ n, sm (deg G') at' n', lsum_perm hp]
  exact lsum_congr fun x _ => hd x
/-- Greater loads make no delay smaller. -/
theorem Sol.mono {ld ld' D D' : T_rules_Spot → Int} {B B' : Nat → Int} (h : Tr G n at_ up rs) (h' : Tr G' n' at' up' rs') (hG : G.Perm G') (h0 : at_ 0 = at' 0)
    (ht : sumN (fun i => deg G (at_ i)) n = 2 * ((n : Int) - 1)) (hs : Sol n at_ up rs ld D B) (hs' : Sol n' at' up' rs' ld' D' B') (hle : ∀ i, i < n → ld (at_ i) ≤ ld' (at_ i)) :
    ∀ i, i < n → D (at_ i) ≤ D' (at_ i) := by
  obtain ⟨hn, hc⟩ := h.count h' hG h0
  have ht' : sumN (fun i => deg G' (at' i)) n' = 2 * ((n' : Int) - 1) := by rw [← hc, ht, hn]
  have sm := h.same h' (fun s hs => hG.mem_iff.1 hs) h0
  obtain ⟨m, hm, hmax, hfirst⟩ := first_max (fun i => D (at_ i) - D' (at_ i)) n h.pos
  suffices hz : D (at_ m) - D' (at_ m) ≤ 0 by
    intro i hi
    have := hmax i hi
    omega
  by_cases q : m = 0
  · rw [q, hs.root, h0, hs'.root]; omega
  apply Classical.byContradiction
  intro hpos
  have m0 : 0 < m := by omega
  obtain ⟨j, hj, ej⟩ := sm m hm
  have j0 : 0 < j := by
    apply Classical.byContradiction
    intro hj0
    have : at_ m = at_ 0 := by rw [← ej, show j = 0 by omega, h0]
    have := h.inj m 0 hm h.pos this
    omega
  have l1 := hs.lap h ht m m0 hm
  have l2 := hs'.lap h' ht' j j0 hj
  rw [ej] at l2
  rw [← lsum_perm (hG.filter (inc (at_ m)))] at l2
  have hdif : lsum (fun s => gI s * (D (at_ m) - D (oth s (at_ m))) - gI s * (D' (at_ m) - D' (oth s (at_ m)))) (G.filter (inc (at_ m))) = 20 * ld (at_ m) - 20 * ld' (at_ m) := by
    rw [lsum_sub, l1, l2]
  have hnn : ∀ s ∈ G.filter (inc (at_ m)), 0 ≤ gI s * (D (at_ m) - D (oth s (at_ m))) - gI s * (D' (at_ m) - D' (oth s (at_ m))) := fun s hs1 => by
    obtain ⟨hsG, hsi⟩ := List.mem_filter.1 hs1
    obtain ⟨k, hk, ek⟩ := h.clo m hm s hsG hsi
    have := hmax k hk
    rw [ek] at this
    rw [← Int.mul_sub]
    exact Int.mul_nonneg (Int.le_of_lt (g_pos s)) (by omega)
  obtain ⟨k, hk, hk2, s, hsG, hsj, _⟩ := h.par m m0 hm
  have hone := (lsum_nn hnn).2 s (List.mem_filter.2 ⟨hsG, hsj.symm.inc1⟩)
  rw [hdif, ← Int.mul_sub] at hone
  have hl := hle m hm
  rw [hsj.symm.oth (h.ends s hsG), ← hk2] at hone
  have hlt := hfirst k hk
  have : 0 < gI s * (D (at_ m) - D (at_ k) - (D' (at_ m) - D' (at_ k))) := Int.mul_pos (g_pos s) (by omega)
  omega
end
end Go.Proofs.Ytnnmbmgnpdcefaa.X
