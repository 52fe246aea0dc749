/- A region that draws its order but for its last operation, which comes last in each order. Lemmas over any program. -/
import Derived.Test.YtnnmbmgnpdcefaaXR
namespace Go.Proofs.Ytnnmbmgnpdcefaa.X
open Go Go.RowKit
set_option linter.unusedVariables false
set_option linter.unusedSimpArgs false
section
variable {P : Program} {n : Nat} {all : Array Oper} {ps : List PB} {ts : List TB} {ds : List Nat} {F : List (Env → Prop)} {T : List (Env → Assn)} {E0 : Env} {w0 : World} {l : List Assn}
theorem wp_mono3 {P : Program} {o : Oper} {a : Act} {w : World} {K K' : Act → World → Prop} {Q : Exit → Act → World → Prop} (h : ∀ a w, K a w → K' a w) (hh : o.wp P a w K Q) : o.wp P a w K' Q := by
  unfold Oper.wp at *
  generalize (execOp a.eval o).run P w = r at *
  cases r with
  | ok n w' =>
    cases n <;> simp only [Oper.upon] at hh ⊢ <;>
      first
        | exact h _ _ hh
        | exact Rows.mono hh (fun _ _ he => h _ _ he)
        | skip
    exact Calls.mono hh (fun e w'' he => by
      cases e with
      | returned v => exact h _ _ he
      | panicked c => exact he
      | outgrown => exact he)
  | halt x w' =>
    cases x <;> simp only [Oper.upon] at hh ⊢ <;> exact hh
theorem par_anyL (hO : ∀ i, i < all.size → OpC all ps ts ds n i) (hT : ∀ t, t < ts.length → TokC all ps ts t) {m : Nat} {Q : Exit → Act → World → Prop} {ol : Oper} (hm : m + 1 = all.size) (hol : all[m]? = some ol) (hl : ∀ k, k < m → k ∈ (pbAt ps m).anc) (obs : ∀ i o, i < m → all[i]? = some o → Ob P n all ps ts ds F T E0 w0 i o)
    (last : ∀ (ac : Act) (E : Env) (w : World) (D : Nat → Bool), Is ac E n → (∀ k, k < m → D k = true) → D m = false → PInv all ps ts F T E0 w0 l D E w → wpList P all Q [ol] ac w) :
    ∀ (f : Nat) (a : Array Bool) (ac : Act) (w : World) (E : Env), a.size = all.size → cnt a ≤ f → a.getD m false = false → Is ac E n → PInv all ps ts F T E0 w0 l (fun k => a.getD k false) E w →
      wpAny P .any all Q f a ac w := by
  have hready : ∀ (a : Array Bool), a.size = all.size → ∀ i, i ∈ Region.ready .any all a → i < all.size ∧ a.getD i true = false ∧ ∀ j ∈ direct all i, a.getD j false = true := by
    intro a hs i hi
    unfold Region.ready at hi
    simp only [List.mem_filter, List.mem_range, Bool.and_eq_true, Bool.not_eq_true'] at hi
    obtain ⟨h1, h2, h3⟩ := hi
    refine ⟨h1, h2, fun j hj => ?_⟩
    unfold direct at hj
    have ho : all[i]? = some all[i] := by simp [h1]
    rw [ho] at h3 hj
    simp only [List.mem_map, List.mem_filter] at hj
    obtain ⟨e, ⟨he, hb⟩, rfl⟩ := hj
    simp only [Option.map_some, Option.getD_some, Array.all_eq_true_iff_forall_mem, Bool.or_eq_true, Bool.not_eq_true'] at h3
    rcases h3 e (by simpa using he) with h4 | h4
    · rw [hb] at h4; cases h4
    · exact h4
  have hnone : ∀ (a : Array Bool), a.size = all.size → Region.ready .any all a = [] → ∀ k, k < all.size → a.getD k false = true := by
    intro a hs hr k
    induction k using Nat.strongRecOn with
    | _ k ih =>
      intro hk
      cases hv : a.getD k false with
      | true => rfl
      | false =>
        exfalso
        have hm : k ∈ Region.ready .any all a := by
          unfold Region.ready
          simp only [List.mem_filter, List.mem_range, Bool.and_eq_true, Bool.not_eq_true']
          have ho : all[k]? = some all[k] := by simp [hk]
          refine ⟨hk, ?_, ?_⟩
          · have hk' : k < a.size := by omega
            simp only [Array.getD, hk', dite_true] at hv ⊢
            exact hv
          · rw [ho]
            simp only [Option.map_some, Option.getD_some, Array.all_eq_true_iff_forall_mem, Bool.or_eq_true, Bool.not_eq_true']
            intro e he
            cases hb : Region.binds .any e with
            | false => exact .inl rfl
            | true =>
              refine .inr ?_
              have hd : e.on ∈ direct all k := by
                unfold direct; rw [ho]
                simp only [List.mem_map, List.mem_filter]
                exact ⟨e, ⟨by simpa using he, hb⟩, rfl⟩
              have := (hO k hk).lt _ hd
              exact ih _ this (by omega)
        rw [hr] at hm; cases hm
  have hne : ∀ (a : Array Bool), a.size = all.size → a.getD m false = false → Region.ready .any all a ≠ [] := fun a hs ha hr => by
    have := hnone a hs hr m (by omega)
    rw [ha] at this; cases this
  intro f
  induction f with
  | zero =>
    intro a ac w E hs hc hm0 hA hI
    exfalso
    obtain ⟨i, hi⟩ := List.exists_mem_of_ne_nil _ (hne a hs hm0)
    obtain ⟨h1, h2, _⟩ := hready a hs i hi
    have := cnt_set (a := a) (i := i) (by omega) h2
    omega
  | succ f ih =>
    intro a ac w E hs hc hm0 hA hI
    refine ⟨fun hr => absurd hr (hne a hs hm0), fun i hi => ?_⟩
    obtain ⟨h1, h2, h3⟩ := hready a hs i hi
    have ho : all[i]? = some all[i] := by simp [h1]
    have hi0 : a.getD i false = false := by
      have hk' : i < a.size := by omega
      simp only [Array.getD, hk', dite_true] at h2 ⊢
      exact h2
    by_cases him : i = m
    · have hall : ∀ k, k < m → a.getD k false = true := fun k hk => by
        subst him
        rcases (hO i h1).anc k (hl k hk) with h4 | ⟨q, h4, h5⟩
        · exact h3 k h4
        · exact hI.closed q (h3 q h4) k h5
      have h4 := last ac E w _ hA hall hm0 hI
      subst him
      rw [hol] at ho
      have eo : ol = all[i] := Option.some.inj ho
      have hfin : ∀ (a' : Act) (w' : World), wpList P all Q [] a' w' → wpAny P .any all Q f (a.setIfInBounds i true) a' w' := fun a' w' h5 => by
        have hnil : Region.ready .any all (a.setIfInBounds i true) = [] := by
          refine List.eq_nil_iff_forall_not_mem.2 fun j hj => ?_
          obtain ⟨h6, h7, _⟩ := hready _ (by simpa using hs) j hj
          have h8 : (a.setIfInBounds i true).getD j false = true := by
            have := congrFun (show (fun k => (a.setIfInBounds i true).getD k false) = ins (fun k => a.getD k false) i from funext fun k => setG (by omega)) j
            rw [this, ins_iff]
            by_cases hji : j = i
            · exact .inl hji
            · exact .inr (hall j (by omega))
          have hj' : j < (a.setIfInBounds i true).size := by simpa using (by omega : j < a.size)
          simp only [Array.getD, hj', dite_true] at h7 h8
          rw [h7] at h8; cases h8
        have h9 : Q .normal a' w' := by unfold wpList at h5; exact h5
        cases f with
        | zero => exact ⟨hnil, h9⟩
        | succ f => exact ⟨fun _ => h9, fun j hj => by rw [hnil] at hj; cases hj⟩
      unfold wpOp
      rw [hol]
      simp only
      unfold wpList at h4
      split
      · rename_i hw
        rw [if_pos hw] at h4
        rcases h4 with h4 | h4
        · exact .inl (wp_mono3 hfin h4)
        · exact .inr h4
      · rename_i hw
        rw [if_neg hw] at h4
        exact hfin _ _ h4
    have hS := par_step hO hT hI ho hi0 h3 (obs i _ (by omega) ho)
    have go : ∀ (ac' : Act) (E' : Env) (w' : World), Is ac' E' n → PInv all ps ts F T E0 w0 l (ins (fun k => a.getD k false) i) E' w' →
        wpAny P .any all Q f (a.setIfInBounds i true) ac' w' := by
      intro ac' E' w' hA' hI'
      have e : (fun k => (a.setIfInBounds i true).getD k false) = ins (fun k => a.getD k false) i := funext fun k => setG (by omega)
      refine ih _ ac' w' E' (by simpa using hs) ?_ ?_ hA' ?_
      · have := cnt_set (a := a) (i := i) (by omega) h2
        omega
      · have := congrFun e m
        rw [this]
        unfold ins
        have : Nat.beq m i = false := by
          cases h : Nat.beq m i with
          | false => rfl
          | true => exact absurd (Nat.eq_of_beq_eq_true h).symm him
        rw [this]
        exact hm0
      · rw [e]; exact hI'
    have h4 := hS ac hA
    unfold wpOp
    rw [ho]
    simp only
    unfold wpList at h4
    split
    · rename_i hw
      rw [if_pos hw] at h4
      rcases h4 with h4 | ⟨h4, a0, w1, E1, _, h5⟩
      · refine .inl (wp_mono2 ?_ ?_ h4)
        · rintro a' w' ⟨E', hA', hX⟩
          exact go a' E' w' hA' hX
        · intro e a' w'
          refine ⟨fun c hc => ?_, ?_⟩
          · subst hc; rintro ⟨E', hA', hX⟩; simp [X] at hX
          · rintro ⟨E', hA', hX⟩; simp [X] at hX
      · exact absurd h5 (by simp [X])
    · rename_i hw
      rw [if_neg hw] at h4
      obtain ⟨E', hA', hX⟩ := h4
      exact go _ E' w hA' hX
end
section
variable {P : Program} {n : Nat} {R : Env → World → Prop} {st : List It} {E : Env} {w : World} {ops : List Oper} {w0 : World} {l : List Assn}
/-- A region that draws its order, its last operation last. -/
theorem x_parL {id : Nat} (m : Nat) (ol : Oper) (ps : List PB) (ts : List TB) (ds ti tf js : List Nat) (F : List (Env → Prop)) (T : List (Env → Assn)) (hm : P.follows .mixedOrders = true)
    (hB : (parB ops.toArray ps ts ds n && listB ti ((List.range ts.length).filter (present ts (fun _ => false))) && listB tf ((List.range ts.length).filter (present ts (fun k => Nat.blt k m))) && js.all (fun j => Nat.blt j m) && Nat.beq (m + 1) ops.length && (List.range m).all (fun k => memB k (pbAt ps m).anc) && (List.range ts.length).all (fun t => match (tbAt ts t).prod with | none => true | some q => Nat.blt q m) && (List.range ts.length).all (fun t => match (tbAt ts t).cons with | none => true | some q => Nat.blt q m)) = true)
    (hol : ops[m]? = some ol)
    (h0 : St w0 w (ti.map (fun t => Ta ts T t E) ++ l))
    (obs : Obs P n ops.toArray ps ts ds F T E w0 0 (ops.take m))
    (fin : ∀ E' w', (∀ t, memB t ds = false → E' t = E t) → FA ps F E' js → St w0 w' (tf.map (fun t => Ta ts T t E') ++ l) → S P n R (.ops ops.toArray [ol] :: st) E' w') :
    S P n R (.code (.region id ops.toArray true) :: st) E w := by
  intro a hA
  simp only [Bool.and_eq_true] at hB
  obtain ⟨⟨⟨⟨⟨⟨⟨hB, hti⟩, htf⟩, hjs⟩, hml⟩, hanc⟩, hpr⟩, hco⟩ := hB
  have hti := listB_spec hti
  have htf := listB_spec htf
  have hml := Nat.eq_of_beq_eq_true hml
  subst hti
  subst htf
  simp only [parB, Bool.and_eq_true, List.all_eq_true, List.mem_range] at hB
  simp only [List.all_eq_true, Nat.blt_eq] at hjs
  simp only [List.all_eq_true, List.mem_range, memB_iff] at hanc
  simp only [List.all_eq_true, List.mem_range] at hpr hco
  have hO : ∀ i, i < ops.toArray.size → OpC ops.toArray ps ts ds n i := fun i hi => opB_spec (hB.1 i hi)
  have hT : ∀ t, t < ts.length → TokC ops.toArray ps ts t := fun t ht => tokB_spec (hB.2 t ht)
  have hob : ∀ i o, i < m → ops.toArray[i]? = some o → Ob P n ops.toArray ps ts ds F T E w0 i o := fun i o him ho => by
    have := Obs.get obs i o (by rw [List.getElem?_take_of_lt him]; simpa using ho)
    rwa [Nat.zero_add] at this
  have hst : St w0 { w with drawn := w.drawn + 1 } (tk ts.length (fun t => if present ts (fun _ => false) t then Ta ts T t E else emp) ++ l) :=
    ((toks_flt (p := present ts (fun _ => false)) (a := fun t => Ta ts T t E) (List.range ts.length) []).2 h0).drawn _
  have hfalse : (fun k => (Array.replicate ops.toArray.size false).getD k false) = fun _ : Nat => false := by
    funext k
    simp only [Array.getD_eq_getD_getElem?, Array.getElem?_replicate]
    split <;> rfl
  refine wp_region_any hm (par_anyL (l := l) hO hT (by simpa using hml) (by simpa using hol) hanc hob ?_ ops.toArray.size (Array.replicate ops.toArray.size false) a { w with drawn := w.drawn + 1 } E (by simp) (by unfold cnt; exact Nat.le_trans List.countP_le_length (by simp)) (congrFun hfalse m) hA (by
    rw [hfalse]
    exact ⟨fun k hk => absurd hk (by simp), fun t _ => rfl, fun k _ hk => absurd hk (by simp), hst⟩))
  intro ac E' w' D hA' hD hDm hI
  refine fin E' w' (fun t ht => hI.same t fun j hj hd => by
    have hj' : j < ops.toArray.size := by unfold dstAt at hd; cases h1 : ops.toArray[j]? with | none => rw [h1] at hd; simp at hd | some o' => exact (Array.getElem?_eq_some_iff.1 h1).1
    have := ((hO j hj').dst t hd).2.1
    rw [memB_iff.2 this] at ht; cases ht) (FA_of fun j hj => hI.facts j (by have := hjs j hj; simp; omega) (hD j (hjs j hj))) ?_ ac hA'
  have hp : ∀ t, t < ts.length → present ts D t = present ts (fun k => Nat.blt k m) t := fun t ht => by
    have h1 := hpr t ht
    have h2 := hco t ht
    unfold present
    cases hq : (tbAt ts t).prod with
    | none =>
      cases hc : (tbAt ts t).cons with
      | none => rfl
      | some c => rw [hc] at h2; simp only at h2 ⊢; rw [hD c (by simpa [Nat.blt_eq] using h2), h2]
    | some q =>
      rw [hq] at h1
      cases hc : (tbAt ts t).cons with
      | none => simp only at h1 ⊢; rw [hD q (by simpa [Nat.blt_eq] using h1), h1]
      | some c => rw [hc] at h2; simp only at h1 h2 ⊢; rw [hD c (by simpa [Nat.blt_eq] using h2), h2, hD q (by simpa [Nat.blt_eq] using h1), h1]
  have hfi : (List.range ts.length).filter (present ts D) = (List.range ts.length).filter (present ts (fun k => Nat.blt k m)) := List.filter_congr fun t ht => hp t (List.mem_range.1 ht)
  rw [← hfi]
  exact (toks_flt (p := present ts D) (a := fun t => Ta ts T t E') (List.range ts.length) []).1 hI.st
end
end Go.Proofs.Ytnnmbmgnpdcefaa.X
