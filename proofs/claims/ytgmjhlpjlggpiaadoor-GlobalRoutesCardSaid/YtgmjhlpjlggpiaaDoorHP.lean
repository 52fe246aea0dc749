/- Heaps in lists. Plain. -/
/- Comparisons by lists of numbers (cmp.Or over cmp.Compare). Plain. -/
/- The queue of global's search is a heap. Plain. -/
import Derived.Test.YtgmjhlpjlggpiaaDoorYP
import Derived.Test.YtgmjhlpjlggpiaaDoorGA
import Derived.Test.YtgmjhlpjlggpiaaDoorPA
namespace Go.Proofs.YtgmjhlpjlggpiaaDoor.X
open Go Go.RowKit
set_option linter.unusedVariables false
set_option linter.unusedSimpArgs false
set_option linter.unusedSectionVars false
def Par (i c : Int) : Prop := c = 2 * i + 1 ∨ c = 2 * i + 2
def swp {α : Type} [Inhabited α] (xs : List α) (i j : Int) : List α := stt (stt xs i (gt xs j)) j (gt xs i)
section
variable {α : Type} [Inhabited α] {xs : List α} {i j : Int}
theorem swp_length : (swp xs i j).length = xs.length := by unfold swp; rw [stt_length, stt_length]
theorem gt_swp (hi : inb i xs.length) (hj : inb j xs.length) {k : Int} (hk : 0 ≤ k) : gt (swp xs i j) k = if k = j then gt xs i else if k = i then gt xs j else gt xs k := by
  unfold swp
  rw [gt_stt _ _ (by rw [stt_length]; exact hj) hk, gt_stt _ _ hi hk]
theorem set_perm : ∀ {xs : List α} {i : Nat} {x : α} (h : i < xs.length), (xs[i] :: xs.set i x).Perm (x :: xs)
  | y :: ys, 0, x, h => by simpa using List.Perm.swap x y ys
  | y :: ys, i + 1, x, h => by
    have ih := set_perm (xs := ys) (i := i) (x := x) (by simpa using h)
    simp only [List.getElem_cons_succ, List.set_cons_succ]
    exact (List.Perm.swap y _ _).trans ((List.Perm.cons y ih).trans (List.Perm.swap x y ys))
theorem swp_perm (hi : inb i xs.length) (hj : inb j xs.length) : (swp xs i j).Perm xs := by
  have li := inb_lt hi
  have lj := inb_lt hj
  have h1 := set_perm (xs := xs) (i := i.toNat) (x := gt xs j) li
  have l2 : j.toNat < (xs.set i.toNat (gt xs j)).length := by simpa using lj
  have h2 := set_perm (xs := xs.set i.toNat (gt xs j)) (i := j.toNat) (x := gt xs i) l2
  have e : (xs.set i.toNat (gt xs j))[j.toNat] = gt xs j := by
    rw [List.getElem_set]
    split
    · rfl
    · exact (gt_get hj).symm
  rw [e] at h2
  have e2 : xs[i.toNat] = gt xs i := (gt_get hi).symm
  rw [e2] at h1
  exact (h2.trans h1).cons_inv
end
section
variable {α : Type} [Inhabited α] (le : α → α → Prop)
/-- In order from place lo on, among the first n. -/
def HeapF (lo : Int) (xs : List α) (n : Int) : Prop := ∀ i c : Int, lo ≤ i → Par i c → c < n → le (gt xs i) (gt xs c)
/-- On the way up: only place j may be less than what stands over it. -/
structure UpI (xs : List α) (n j : Int) : Prop where
  a : ∀ i c : Int, 0 ≤ i → Par i c → c < n → c ≠ j → le (gt xs i) (gt xs c)
  b : ∀ i c : Int, 0 ≤ i → Par i j → Par j c → c < n → le (gt xs i) (gt xs c)
/-- On the way down: only place i may be greater than what stands under it. -/
structure DownI (lo : Int) (xs : List α) (n i : Int) : Prop where
  a : ∀ p c : Int, lo ≤ p → Par p c → c < n → p ≠ i → le (gt xs p) (gt xs c)
  b : ∀ p c : Int, lo ≤ p → Par p i → Par i c → c < n → le (gt xs p) (gt xs c)
end
section
variable {α : Type} [Inhabited α] {le : α → α → Prop} (tot : ∀ a b, le a b ∨ le b a) (tr : ∀ a b c, le a b → le b c → le a c) {xs : List α} {n i j lo : Int}
theorem UpI.stop0 (h : UpI le xs n 0) : HeapF le 0 xs n := fun i c h0 hp hc => h.a i c h0 hp hc (by unfold Par at hp; omega)
theorem UpI.stop (h : UpI le xs n j) (hi : 0 ≤ i) (hp : Par i j) (hle : le (gt xs i) (gt xs j)) : HeapF le 0 xs n := fun p c h0 hpc hc => by
  by_cases e : c = j
  · subst e
    have : p = i := by unfold Par at hp hpc; omega
    subst this; exact hle
  · exact h.a p c h0 hpc hc e
include tr in
theorem UpI.step (h : UpI le xs n j) (hn : n = xs.length) (hj : inb j xs.length) (hi : 0 ≤ i) (hp : Par i j) (hle : le (gt xs j) (gt xs i)) : UpI le (swp xs i j) n i := by
  have hi' : inb i xs.length := ⟨hi, by unfold Par at hp; obtain ⟨_, h2⟩ := hj; omega⟩
  obtain ⟨j0, j1⟩ := hj
  have hij : i ≠ j := by unfold Par at hp; omega
  have g : ∀ k, 0 ≤ k → gt (swp xs i j) k = if k = j then gt xs i else if k = i then gt xs j else gt xs k := fun k hk => gt_swp hi' ⟨j0, j1⟩ hk
  refine ⟨fun p c h0 hpc hc hci => ?_, fun p c h0 hpi hic hc => ?_⟩
  · have c0 : 0 ≤ c := by unfold Par at hpc; omega
    rw [g p h0, g c c0]
    by_cases e : c = j
    · have : p = i := by unfold Par at hp hpc; omega
      subst this
      rw [if_neg hij, if_pos rfl, if_pos e]; exact hle
    · rw [if_neg e, if_neg hci]
      by_cases e1 : p = j
      · rw [if_pos e1]; subst e1; exact h.b i c hi hp hpc hc
      · rw [if_neg e1]
        by_cases e2 : p = i
        · rw [if_pos e2]; subst e2; exact tr _ _ _ hle (h.a p c h0 hpc hc e)
        · rw [if_neg e2]; exact h.a p c h0 hpc hc e
  · have c0 : 0 ≤ c := by unfold Par at hic; omega
    have pi : p ≠ i ∧ p ≠ j := by unfold Par at hpi hp; omega
    have hpile : le (gt xs p) (gt xs i) := h.a p i h0 hpi (by unfold Par at hp; omega) hij
    rw [g p h0, g c c0, if_neg pi.2, if_neg pi.1]
    by_cases e : c = j
    · rw [if_pos e]; exact hpile
    · rw [if_neg e, if_neg (by unfold Par at hic; omega)]
      exact tr _ _ _ hpile (h.a i c hi hic hc e)
theorem DownI.stop0 (h : DownI le lo xs n i) (hi : n ≤ 2 * i + 1) : HeapF le lo xs n := fun p c h0 hpc hc => h.a p c h0 hpc hc (by unfold Par at hpc; omega)
include tr in
theorem DownI.stop (h : DownI le lo xs n i) (hmin : ∀ c, Par i c → c < n → le (gt xs j) (gt xs c)) (hle : le (gt xs i) (gt xs j)) : HeapF le lo xs n := fun p c h0 hpc hc => by
  by_cases e : p = i
  · subst e; exact tr _ _ _ hle (hmin c hpc hc)
  · exact h.a p c h0 hpc hc e
theorem DownI.step (h : DownI le lo xs n i) (hlo : lo ≤ i) (hl0 : 0 ≤ lo) (hn : n ≤ xs.length) (hj : Par i j) (hjn : j < n) (hmin : ∀ c, Par i c → c < n → le (gt xs j) (gt xs c)) (hle : le (gt xs j) (gt xs i)) : DownI le lo (swp xs i j) n j := by
  have hi' : inb i xs.length := ⟨by omega, by unfold Par at hj; omega⟩
  have hj' : inb j xs.length := ⟨by unfold Par at hj; omega, by omega⟩
  have hij : i ≠ j := by unfold Par at hj; omega
  have g : ∀ k, 0 ≤ k → gt (swp xs i j) k = if k = j then gt xs i else if k = i then gt xs j else gt xs k := fun k hk => gt_swp hi' hj' hk
  refine ⟨fun p c h0 hpc hc hpj => ?_, fun p c h0 hpj hjc hc => ?_⟩
  · have c0 : 0 ≤ c := by unfold Par at hpc; omega
    rw [g p (by omega), g c c0, if_neg hpj]
    by_cases e : p = i
    · rw [if_pos e]; subst e
      by_cases e1 : c = j
      · rw [if_pos e1]; exact hle
      · rw [if_neg e1, if_neg (by unfold Par at hpc; omega)]; exact hmin c hpc hc
    · rw [if_neg e, if_neg (by unfold Par at hpc hj; omega)]
      by_cases e1 : c = i
      · rw [if_pos e1]; subst e1; exact h.b p j h0 hpc hj hjn
      · rw [if_neg e1]; exact h.a p c h0 hpc hc e
  · have c0 : 0 ≤ c := by unfold Par at hjc; omega
    have : p = i := by unfold Par at hpj hj; omega
    subst this
    rw [g p (by omega), g c c0, if_neg hij, if_pos rfl, if_neg (by unfold Par at hjc; omega), if_neg (by unfold Par at hjc hj; omega)]
    exact h.a j c (by unfold Par at hj; omega) hjc hc (Ne.symm hij)
include tr in
/-- The first is the least. -/
theorem HeapF.least (rf : ∀ a, le a a) (h : HeapF le 0 xs n) : ∀ k : Nat, (k : Int) < n → le (gt xs 0) (gt xs (k : Int)) := by
  intro k
  induction k using Nat.strongRecOn with
  | _ k ih =>
    intro hk
    rcases Nat.eq_zero_or_pos k with rfl | hp
    · exact rf _
    · have h1 := ih ((k - 1) / 2) (by omega) (by omega)
      exact tr _ _ _ h1 (h (((k - 1) / 2 : Nat) : Int) k (by omega) (by unfold Par; omega) hk)
end
end Go.Proofs.YtgmjhlpjlggpiaaDoor.X
namespace Go.Proofs.YtgmjhlpjlggpiaaDoor.X
open Go Go.RowKit
set_option linter.unusedVariables false
set_option linter.unusedSimpArgs false
set_option linter.unusedSectionVars false
def cmpI (x y : Int) : Int := if x < y then -1 else if y < x then 1 else 0
def orL : List Int → Int
  | [] => 0
  | x :: r => if x ≠ 0 then x else orL r
theorem compare_cmpI (x y : Int) : P_cmp_Compare_int x y = some (cmpI x y) := by
  unfold P_cmp_Compare_int P_cmp_isNaN_int cmpI
  simp only [bd, ne_eq, not_true_eq_false, if_false]
  split
  · rfl
  · split <;> rfl
theorem or_orL {vals : List Int} (h : vals.length < 1000) : P_cmp_Or_int vals = some (orL vals) := by
  have key : Ok (P_cmp_Or_int vals) (fun r => r = orL vals) := by
    unfold P_cmp_Or_int
    refine ok_bs (R := fun o => match o with | .inl _ => orL vals = 0 | .inr r => r = orL vals) ?_ (fun _ h => ok_some h.symm) (fun r h => ok_some h)
    refine ok_lp (fun i => 0 ≤ i ∧ i ≤ vals.length ∧ orL (vals.drop i.toNat) = orL vals) (fun i => ((vals.length : Int) - i).toNat) ⟨by omega, by omega, by simp⟩ (by omega) ?_
    rintro i ⟨h0, h1, h2⟩
    unfold P_cmp_Or_int_L3
    refine ok_ite (fun hc => ?_) (fun hc => ok_some ?_)
    · have hd : vals.drop i.toNat = gt vals i :: vals.drop (i.toNat + 1) := by
        rw [List.drop_eq_getElem_cons (by omega), gt_get ⟨h0, hc⟩]
      rw [hd] at h2
      simp only [orL] at h2
      refine ok_ck ⟨h0, hc⟩ (ok_lv (ok_ite (fun hx => ok_some ?_) (fun hx => ok_ar (by unfold I64; omega) (ok_some ?_))))
      · rw [if_pos hx] at h2; exact h2
      · rw [if_neg hx] at h2
        refine ⟨⟨by omega, by omega, ?_⟩, by omega⟩
        rw [show (i + 1).toNat = i.toNat + 1 by omega]; exact h2
    · rw [List.drop_of_length_le (by omega)] at h2
      exact h2.symm
  obtain ⟨r, h1, h2⟩ := key
  rw [h1, h2]
def lexL : List Int → List Int → Prop
  | a :: xs, b :: ys => a < b ∨ a = b ∧ lexL xs ys
  | _, _ => False
theorem lexL_irr : ∀ {x : List Int}, ¬ lexL x x
  | [] => fun h => h
  | a :: xs => fun h => by
    rcases h with h | ⟨_, h⟩
    · omega
    · exact lexL_irr h
theorem lexL_tr : ∀ {x y z : List Int}, lexL x y → lexL y z → lexL x z
  | [], _, _, h, _ => absurd h (by simp [lexL])
  | _ :: _, [], _, h, _ => absurd h (by simp [lexL])
  | _ :: _, _ :: _, [], _, h => absurd h (by simp [lexL])
  | a :: xs, b :: ys, c :: cs, h1, h2 => by
    rcases h1 with h1 | ⟨rfl, h1⟩
    · rcases h2 with h2 | ⟨rfl, h2⟩
      · exact .inl (by omega)
      · exact .inl h1
    · rcases h2 with h2 | ⟨rfl, h2⟩
      · exact .inl h2
      · exact .inr ⟨rfl, lexL_tr h1 h2⟩
theorem lexL_tot : ∀ {x y : List Int}, x.length = y.length → ¬ lexL x y → ¬ lexL y x → x = y
  | [], [], _, _, _ => rfl
  | [], _ :: _, h, _, _ => by simp at h
  | _ :: _, [], h, _, _ => by simp at h
  | a :: xs, b :: ys, h, h1, h2 => by
    simp only [lexL, not_or, not_and] at h1 h2
    have e : a = b := by omega
    subst e
    rw [lexL_tot (by simpa using h) (h1.2 rfl) (h2.2 rfl)]
theorem orL_neg (a b : Int) (r : List Int) : orL (cmpI a b :: r) < 0 ↔ a < b ∨ a = b ∧ orL r < 0 := by
  by_cases h1 : a < b
  · have : cmpI a b = -1 := by unfold cmpI; rw [if_pos h1]
    simp only [orL, this]; simp; omega
  · by_cases h2 : b < a
    · have : cmpI a b = 1 := by unfold cmpI; rw [if_neg h1, if_pos h2]
      simp only [orL, this]; simp; omega
    · have : cmpI a b = 0 := by unfold cmpI; rw [if_neg h1, if_neg h2]
      simp only [orL, this]; simp; omega
/-- Not greater, by keys. -/
def leK {α : Type} (key : α → List Int) (a b : α) : Prop := ¬ lexL (key b) (key a)
theorem leK_tot {α : Type} {key : α → List Int} (a b : α) : leK key a b ∨ leK key b a := by
  unfold leK
  by_cases q : lexL (key b) (key a)
  · exact .inr fun h => lexL_irr (lexL_tr q h)
  · exact .inl q
theorem leK_tr {α : Type} {key : α → List Int} {m : Nat} (hl : ∀ a, (key a).length = m) (a b c : α) (h1 : leK key a b) (h2 : leK key b c) : leK key a c := by
  unfold leK at *
  intro h3
  by_cases q : lexL (key b) (key c)
  · exact h1 (lexL_tr q h3)
  · rw [lexL_tot (x := key b) (y := key c) (by rw [hl, hl]) q h2] at h1
    exact h1 h3
theorem leK_rfl {α : Type} {key : α → List Int} (a : α) : leK key a a := lexL_irr
end Go.Proofs.YtgmjhlpjlggpiaaDoor.X
namespace Go.Proofs.YtgmjhlpjlggpiaaDoor.X
open Go Go.RowKit
set_option linter.unusedVariables false
set_option linter.unusedSimpArgs false
set_option linter.unusedSectionVars false
def keyS (x : T_global_step) : List Int := [x.fcost, x.fat, x.ffrom]
abbrev leS := leK keyS
theorem leS_tot : ∀ a b, leS a b ∨ leS b a := leK_tot
theorem leS_tr : ∀ a b c, leS a b → leS b c → leS a c := leK_tr (m := 3) fun _ => rfl
theorem less_ok {q : List T_global_step} {i j : Int} (hi : inb i q.length) (hj : inb j q.length) : Ok (P_global_queue_Less q i j) (fun r => r = true ↔ ¬ leS (gt q j) (gt q i)) := by
  unfold P_global_queue_Less
  refine ok_ck hi (ok_lv (ok_ck hj (ok_lv ?_)))
  rw [compare_cmpI, compare_cmpI, compare_cmpI]
  refine ok_bd_some (ok_bd_some (ok_bd_some ?_))
  rw [or_orL (by simp)]
  refine ok_bd_some (ok_some ?_)
  rw [decide_eq_true_eq, orL_neg, orL_neg, orL_neg]
  unfold leS leK keyS
  simp only [Classical.not_not, lexL, orL, Int.lt_irrefl, and_false, or_false]
theorem swap_ok {q : List T_global_step} {i j : Int} (hi : inb i q.length) (hj : inb j q.length) : Ok (P_global_queue_Swap q i j) (fun r => r = swp q i j) := by
  unfold P_global_queue_Swap
  exact ok_ck hj (ok_lv (ok_ck hi (ok_lv (ok_ck hi (ok_lv (ok_ck (by rw [stt_length]; exact hj) (ok_lv (ok_some rfl))))))))
theorem down_ok {q : List T_global_step} {i n : Int} (hq : q.length ≤ 1000000) (hi : 0 ≤ i ∧ i ≤ 1000000) (hn : 0 ≤ n ∧ n ≤ q.length) (hd : DownI leS i q n i) :
    Ok (P_container_heap_down q i n) (fun r => r.2.Perm q ∧ HeapF leS i r.2 n ∧ ∀ k, n ≤ k → gt r.2 k = gt q k) := by
  unfold P_container_heap_down
  refine ok_bd (R := fun r => r.2.Perm q ∧ HeapF leS i r.2 n ∧ ∀ k, n ≤ k → gt r.2 k = gt q k) ?_ fun r hr => ok_some hr
  refine ok_lp (fun s => i ≤ s.1 ∧ s.1 ≤ n + i ∧ s.2.Perm q ∧ DownI leS i s.2 n s.1 ∧ ∀ k, n ≤ k → gt s.2 k = gt q k) (fun s => (n + i - s.1).toNat) ⟨Int.le_refl _, by simp only; omega, List.Perm.refl _, hd, fun _ _ => rfl⟩ (by simp only; omega) ?_
  rintro ⟨a, s⟩ ⟨h0, h1, hp, hI, hk⟩
  dsimp only at h0 h1 hp hI hk
  have hl : s.length = q.length := hp.length_eq
  unfold P_container_heap_down_L2
  dsimp only
  refine ok_ar (by unfold I64; omega) (ok_ar (by unfold I64; omega) (ok_lv (ok_ite (fun hc => ok_some ?_) (fun hc => ?_))))
  · simp only [Bool.or_eq_true, decide_eq_true_eq] at hc
    exact ⟨hp, hI.stop0 (by omega), hk⟩
  · simp only [Bool.or_eq_true, decide_eq_true_eq, not_or] at hc
    have hj1 : inb (2 * a + 1) s.length := ⟨by omega, by omega⟩
    refine ok_ar (by unfold I64; omega) (ok_bd (R := fun r => r = true ↔ 2 * a + 1 + 1 < n ∧ ¬ leS (gt s (2 * a + 1)) (gt s (2 * a + 1 + 1))) (ok_ite (fun h2 => ?_) (fun h2 => ok_some ?_)) fun r hr => ok_bd (R := fun j => Par a j ∧ j < n ∧ ∀ c, Par a c → c < n → leS (gt s j) (gt s c)) (ok_ite (fun h3 => ok_some ?_) (fun h3 => ok_some ?_)) fun j hj => ?_)
    · have h2 := of_decide_eq_true h2
      refine ok_bd (less_ok ⟨by omega, by omega⟩ hj1) fun r hr => ok_some ?_
      rw [hr]; exact ⟨fun h => ⟨h2, h⟩, fun h => h.2⟩
    · simp only [decide_eq_true_eq] at h2
      simp [h2]
    · obtain ⟨h4, h5⟩ := hr.1 h3
      refine ⟨by unfold Par; omega, h4, fun c hc hcn => ?_⟩
      have : c = 2 * a + 1 ∨ c = 2 * a + 1 + 1 := by unfold Par at hc; omega
      rcases this with rfl | rfl
      · exact (leS_tot _ _).resolve_right h5
      · exact leK_rfl _
    · refine ⟨by unfold Par; omega, by omega, fun c hc hcn => ?_⟩
      have : c = 2 * a + 1 ∨ c = 2 * a + 1 + 1 := by unfold Par at hc; omega
      rcases this with rfl | rfl
      · exact leK_rfl _
      · exact Classical.byContradiction fun h => h3 (hr.2 ⟨hcn, h⟩)
    · obtain ⟨j1, j2, j3⟩ := hj
      have hjb : inb j s.length := ⟨by unfold Par at j1; omega, by omega⟩
      have hab : inb a s.length := ⟨by omega, by unfold Par at j1; omega⟩
      refine ok_bd (less_ok hjb hab) fun r hr => ok_ite (fun h => ok_some ⟨hp, hI.stop leS_tr j3 ?_, hk⟩) (fun h => ?_)
      · have : r = false := by simpa using h
        exact Classical.byContradiction fun h => by have := hr.2 h; simp_all
      · have : r = true := by simpa using h
        have hlt := hr.1 this
        refine ok_bd (swap_ok hab hjb) ?_
        rintro _ rfl
        refine ok_some ⟨⟨by dsimp only; unfold Par at j1; omega, by dsimp only; omega, (swp_perm hab hjb).trans hp, hI.step h0 hi.1 (by omega) j1 j2 j3 ((leS_tot _ _).resolve_right hlt), fun k hk' => ?_⟩, by dsimp only; unfold Par at j1; omega⟩
        dsimp only
        rw [gt_swp hab hjb (by omega), if_neg (by omega), if_neg (by unfold Par at j1; omega)]
        exact hk k hk'
theorem init_ok {q : List T_global_step} (hq : q.length ≤ 1000000) : Ok (P_container_heap_Init q) (fun r => r.Perm q ∧ HeapF leS 0 r r.length) := by
  unfold P_container_heap_Init P_global_queue_Len
  refine ok_bd (R := fun _ => True) (ok_some trivial) fun _ _ => ok_ck (by decide) ?_
  have hd : Int.tdiv (q.length : Int) 2 = (q.length : Int) / 2 := Int.tdiv_eq_ediv_of_nonneg (by omega)
  rw [hd]
  refine ok_ar (by unfold I64; omega) (ok_ar (by unfold I64; omega) (ok_bd (R := fun r => r.Perm q ∧ HeapF leS 0 r r.length) ?_ fun r hr => ok_some hr))
  refine ok_lp (fun s => -1 ≤ s.1 ∧ s.1 < q.length ∧ s.2.Perm q ∧ HeapF leS (s.1 + 1) s.2 q.length) (fun s => (s.1 + 1).toNat) ⟨by simp only; omega, by simp only; omega, List.Perm.refl _, fun i c h0 hp hc => ?_⟩ (by simp only; omega) ?_
  · dsimp only at h0; unfold Par at hp; omega
  rintro ⟨a, s⟩ ⟨h0, h1, hp, hI⟩
  dsimp only at h0 h1 hp hI
  have hl : s.length = q.length := hp.length_eq
  unfold P_container_heap_Init_L2
  dsimp only
  refine ok_ite (fun hc => ?_) (fun hc => ok_some ⟨hp, ?_⟩)
  · refine ok_bd (down_ok (by omega) ⟨hc, by omega⟩ ⟨by omega, by omega⟩ ⟨fun p c h0 hpc hcn hne => hI p c (by omega) hpc hcn, fun p c h0 hpi hic hcn => by unfold Par at hpi; omega⟩) fun r hr => ok_ar (by unfold I64; omega) (ok_some ⟨⟨by dsimp only; omega, by dsimp only; omega, hr.1.trans hp, ?_⟩, by dsimp only; omega⟩)
    dsimp only
    rw [show a - 1 + 1 = a by omega]; exact hr.2.1
  · have : a = -1 := by omega
    subst this
    rw [hl]; exact hI
theorem push_ok {q : List T_global_step} (hq : q.length ≤ 100000) (hh : HeapF leS 0 q q.length) (x : T_global_step) : Ok (P_container_heap_Push q x) (fun r => r.Perm (q ++ [x]) ∧ HeapF leS 0 r r.length) := by
  unfold P_container_heap_Push P_global_queue_Push P_global_queue_Len
  refine ok_bd (R := fun r => r = q ++ [x]) (ok_lv (ok_ck (by simp only [apOk, List.length_append, List.length_singleton]; omega) (ok_some rfl))) ?_
  rintro _ rfl
  refine ok_bd (R := fun _ => True) (ok_some trivial) fun _ _ => ok_ar (by simp only [List.length_append, List.length_singleton]; unfold I64; omega) (ok_bd (R := fun r => r.Perm (q ++ [x]) ∧ HeapF leS 0 r r.length) ?_ fun r hr => ok_some hr)
  unfold P_container_heap_up
  refine ok_bd (R := fun r => r.Perm (q ++ [x]) ∧ HeapF leS 0 r r.length) ?_ fun r hr => ok_some hr
  have hl : ((q ++ [x]).length : Int) = q.length + 1 := by simp
  refine ok_lp (fun s => (0 ≤ s.1 ∧ s.1 ≤ q.length) ∧ s.2.Perm (q ++ [x]) ∧ UpI leS s.2 (q.length + 1) s.1) (fun s => s.1.toNat) ⟨⟨by simp only; omega, by simp only; omega⟩, List.Perm.refl _, ?_⟩ (by simp only; omega) ?_
  · dsimp only
    rw [hl, show (q.length : Int) + 1 - 1 = q.length by omega]
    refine ⟨fun i c h0 hp hc hne => ?_, fun i c h0 hp hpc hc => by unfold Par at hpc; omega⟩
    have : c < q.length := by omega
    have h1 : i < q.length := by unfold Par at hp; omega
    rw [gt_app_l (by omega), gt_app_l (by unfold Par at hp; omega)]
    exact hh i c h0 hp this
  rintro ⟨a, s⟩ ⟨⟨h0, h1⟩, hp, hI⟩
  dsimp only at h0 h1 hp hI
  have hsl : (s.length : Int) = q.length + 1 := by rw [hp.length_eq]; exact hl
  unfold P_container_heap_up_L0
  dsimp only
  refine ok_ar (by unfold I64; omega) (ok_ck (by decide) ?_)
  rcases Int.lt_or_eq_of_le h0 with hpos | rfl
  · have hd : Int.tdiv (a - 1) 2 = (a - 1) / 2 := Int.tdiv_eq_ediv_of_nonneg (by omega)
    rw [hd]
    have hpar : Par ((a - 1) / 2) a := by unfold Par; omega
    refine ok_ar (by unfold I64; omega) ?_
    rw [decide_eq_false (by omega)]
    have ha : inb a s.length := ⟨h0, by omega⟩
    have hb : inb ((a - 1) / 2) s.length := ⟨by omega, by omega⟩
    refine ok_bd (R := fun r => r = true ↔ leS (gt s ((a - 1) / 2)) (gt s a)) (ok_f (by simp) (ok_bd (less_ok ha hb) fun r hr => ok_some ?_)) fun r hr => ok_ite (fun hc => ok_some ⟨hp, ?_⟩) (fun hc => ?_)
    · cases r
      · simp only [Bool.not_false, true_iff]
        exact Classical.byContradiction fun h => by have := hr.2 h; simp at this
      · simp only [Bool.not_true, Bool.false_eq_true, false_iff]; exact hr.1 rfl
    · rw [show (s.length : Int) = q.length + 1 from hsl]
      exact hI.stop (by omega) hpar (hr.1 hc)
    · refine ok_bd (swap_ok hb ha) ?_
      rintro _ rfl
      refine ok_some ⟨⟨⟨by dsimp only; omega, by dsimp only; omega⟩, (swp_perm hb ha).trans hp, hI.step leS_tr hsl.symm ha (by omega) hpar ?_⟩, by dsimp only; omega⟩
      exact (leS_tot _ _).resolve_right fun h => hc (hr.2 h)
  · refine ok_ar (by decide) ?_
    rw [decide_eq_true (by decide)]
    refine ok_bd (R := fun r => r = true) (ok_t rfl (ok_some rfl)) ?_
    rintro _ rfl
    refine ok_t rfl (ok_some ⟨hp, ?_⟩)
    rw [show (s.length : Int) = q.length + 1 from hsl]; exact hI.stop0
theorem pop_ok {q : List T_global_step} (hq : q.length ≤ 1000000) (h1 : 0 < q.length) (hh : HeapF leS 0 q q.length) : Ok (P_container_heap_Pop q) (fun r => (r.1 :: r.2).Perm q ∧ HeapF leS 0 r.2 r.2.length ∧ ∀ y ∈ q, leS r.1 y) := by
  have hmin : ∀ y ∈ q, leS (gt q 0) y := fun y hy => by
    obtain ⟨k, hk, rfl⟩ := List.getElem_of_mem hy
    have := hh.least leS_tr leK_rfl k (by omega)
    have e : gt q ((k : Nat) : Int) = q[k] := by rw [gt_get ⟨by omega, by omega⟩]; simp
    rw [e] at this; exact this
  have b0 : inb (0 : Int) q.length := ⟨by omega, by omega⟩
  have bn : inb ((q.length : Int) - 1) q.length := ⟨by omega, by omega⟩
  unfold P_container_heap_Pop P_global_queue_Len
  refine ok_bd (R := fun _ => True) (ok_some trivial) fun _ _ => ok_ar (by unfold I64; omega) (ok_bd (swap_ok b0 bn) ?_)
  rintro _ rfl
  have sl : (swp q 0 ((q.length : Int) - 1)).length = q.length := swp_length
  have gs : ∀ k, 0 ≤ k → gt (swp q 0 ((q.length : Int) - 1)) k = if k = (q.length : Int) - 1 then gt q 0 else if k = 0 then gt q ((q.length : Int) - 1) else gt q k := fun k hk => gt_swp b0 bn hk
  refine ok_bd (down_ok (by rw [sl]; exact hq) ⟨Int.le_refl _, by omega⟩ ⟨by omega, by rw [sl]; omega⟩ ⟨fun p c h0 hpc hc hne => ?_, fun p c h0 hpi _ _ => by unfold Par at hpi; omega⟩) ?_
  · have hc0 : 0 < c := by unfold Par at hpc; omega
    have hpn : p < c := by unfold Par at hpc; omega
    rw [gs p h0, gs c (by omega), if_neg (by omega), if_neg hne, if_neg (by omega), if_neg (by omega)]
    exact hh p c h0 hpc (by omega)
  rintro ⟨bb, s⟩ ⟨hp, hI, hk⟩
  dsimp only at hp hI hk
  have hsl : s.length = q.length := hp.length_eq.trans sl
  have hlast : gt s ((q.length : Int) - 1) = gt q 0 := by rw [hk _ (Int.le_refl _), gs _ (by omega), if_pos rfl]
  have hsplit : s = s.take ((q.length : Int) - 1).toNat ++ [gt q 0] := by
    have e : ((q.length : Int) - 1).toNat + 1 = s.length := by omega
    conv => lhs; rw [← List.take_of_length_le (l := s) (i := ((q.length : Int) - 1).toNat + 1) (by omega)]
    rw [List.take_succ_eq_append_getElem (by omega), ← hlast, gt_get ⟨by omega, by omega⟩]
  unfold P_global_queue_Pop
  refine ok_bd (R := fun r => r = (gt q 0, s.take ((q.length : Int) - 1).toNat)) ?_ ?_
  · dsimp only
    refine ok_ar (by unfold I64; omega) ?_
    rw [hsl]
    exact ok_ck bn (ok_lv (ok_ar (by unfold I64; omega) (ok_ck ⟨by omega, by omega⟩ (ok_lv (ok_some (by rw [hlast]))))))
  rintro _ rfl
  refine ok_some ⟨?_, ?_, hmin⟩
  · dsimp only
    have : (s.take ((q.length : Int) - 1).toNat ++ [gt q 0]).Perm q := by
      rw [← hsplit]; exact hp.trans (swp_perm b0 bn)
    exact (List.perm_append_comm (l₁ := [gt q 0])).trans this
  · dsimp only
    intro i c h0 hpc hc
    have hl : ((s.take ((q.length : Int) - 1).toNat).length : Int) = (q.length : Int) - 1 := by rw [List.length_take]; omega
    rw [hl] at hc
    have h2 := hI i c h0 hpc hc
    have hi : i < (q.length : Int) - 1 := by unfold Par at hpc; omega
    have g : ∀ k : Int, 0 ≤ k → k < (q.length : Int) - 1 → gt (s.take ((q.length : Int) - 1).toNat) k = gt s k := fun k hk0 hk1 => by
      conv => rhs; rw [hsplit]
      rw [gt_app_l (by omega)]
    rw [g i h0 hi, g c (by unfold Par at hpc; omega) hc]
    exact h2
end Go.Proofs.YtgmjhlpjlggpiaaDoor.X
