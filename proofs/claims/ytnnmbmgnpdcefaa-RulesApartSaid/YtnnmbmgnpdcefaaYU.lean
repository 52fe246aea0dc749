/- Maps of slices: the slices are one's own, or are never written again. Lemmas over any program. -/
import Derived.Test.YtnnmbmgnpdcefaaYN
namespace Go.Proofs.Ytnnmbmgnpdcefaa.X
open Go Go.RowKit Go.Instr
set_option linter.unusedVariables false
set_option linter.unusedSimpArgs false
set_option linter.unusedSectionVars false
abbrev nilH : Hd := ⟨none, 0, 0⟩
section
variable {κ α : Type} [DecidableEq κ] {kf : κ → Value} {ei : TypeId} {R : Rp α} {w0 w : World} {l : List Assn} {ρ : Heap} {b : Nat}
variable {β γ : Type}
/-- The keys, with the headers of their slices. -/
def zipK : List (κ × β) → List γ → List (κ × γ)
 | (k, _) :: es, h :: hs => (k, h) :: zipK es hs
 | _, _ => []
theorem zipK_len : ∀ {es : List (κ × β)} {hs : List γ}, hs.length = es.length → (zipK es hs).length = es.length
 | [], [], _ => rfl
 | [], _ :: _, h => by simp at h
 | _ :: _, [], h => by simp at h
 | (k, _) :: es, a :: hs, h => by simp only [zipK, List.length_cons]; rw [zipK_len (by simpa using h)]
theorem zip_none {k : κ} : ∀ {es : List (κ × β)} {hs : List γ}, hs.length = es.length → mfind k es = none → mfind k (zipK es hs) = none
 | [], [], _, _ => rfl
 | [], _ :: _, h, _ => by simp at h
 | _ :: _, [], h, _ => by simp at h
 | (k', xs) :: es, a :: hs, hl, h => by
  simp only [mfind] at h
  by_cases e : k = k'
  ·simp [e] at h
  ·simp only [e, if_false] at h
   simp only [zipK, mfind, e, if_false]
   exact zip_none (by simpa using hl) h
theorem zip_some {k : κ} {xs : β} : ∀ {es : List (κ × β)} {hs : List γ}, hs.length = es.length → mfind k es = some xs → mfind k (zipK es hs) = hs[mpos k es]?
 | [], [], _, h => by simp [mfind] at h
 | [], _ :: _, h, _ => by simp at h
 | _ :: _, [], h, _ => by simp at h
 | (k', ys) :: es, a :: hs, hl, h => by
  simp only [mfind] at h
  by_cases e : k = k'
  ·simp [zipK, mfind, mpos, e]
  ·simp only [e, if_false] at h
   simp only [zipK, mfind, mpos, e, if_false, List.getElem?_cons_succ]
   exact zip_some (by simpa using hl) h
theorem zip_pos {k : κ} : ∀ {es : List (κ × β)} {hs : List γ}, hs.length = es.length → mpos k (zipK es hs) = mpos k es
 | [], [], _ => rfl
 | [], _ :: _, h => by simp at h
 | _ :: _, [], h => by simp at h
 | (k', ys) :: es, a :: hs, hl => by
  by_cases e : k = k'
  ·simp [zipK, mpos, e]
  ·simp only [zipK, mpos, e, if_false]
   rw [zip_pos (by simpa using hl)]
theorem zip_putN {k : κ} {xs : β} {h : γ} : ∀ {es : List (κ × β)} {hs : List γ}, hs.length = es.length → mfind k es = none → mput k h (zipK es hs) = zipK (mput k xs es) (hs ++ [h])
 | [], [], _, _ => rfl
 | [], _ :: _, h, _ => by simp at h
 | _ :: _, [], h, _ => by simp at h
 | (k', ys) :: es, a :: hs, hl, hf => by
  simp only [mfind] at hf
  by_cases e : k = k'
  ·simp [e] at hf
  ·simp only [e, if_false] at hf
   simp only [zipK, mput, e, if_false, List.cons_append]
   rw [zip_putN (by simpa using hl) hf]
theorem zip_putS {k : κ} {xs ys : β} {h : γ} : ∀ {es : List (κ × β)} {hs : List γ}, hs.length = es.length → mfind k es = some ys → mput k h (zipK es hs) = zipK (mput k xs es) (hs.set (mpos k es) h)
 | [], [], _, h => by simp [mfind] at h
 | [], _ :: _, h, _ => by simp at h
 | _ :: _, [], h, _ => by simp at h
 | (k', zs) :: es, a :: hs, hl, hf => by
  simp only [mfind] at hf
  by_cases e : k = k'
  ·simp [zipK, mput, mpos, e]
  ·simp only [e, if_false] at hf
   simp only [zipK, mput, mpos, e, if_false, List.set_cons_succ]
   rw [zip_putS (by simpa using hl) hf]
theorem row_at {k : κ} {xs : β} : ∀ {es : List (κ × β)}, mfind k es = some xs → (es.map (·.2))[mpos k es]? = some xs
 | [], h => by simp [mfind] at h
 | (k', ys) :: es, h => by
  simp only [mfind] at h
  by_cases e : k = k'
  ·simp only [e, if_true, Option.some.injEq] at h
   simp [mpos, e, h]
  ·simp only [e, if_false] at h
   simp only [List.map_cons, mpos, e, if_false, List.getElem?_cons_succ]
   exact row_at h
theorem rows_putS {k : κ} {xs ys : β} : ∀ {es : List (κ × β)}, mfind k es = some ys → (mput k xs es).map (·.2) = (es.map (·.2)).set (mpos k es) xs
 | [], h => by simp [mfind] at h
 | (k', zs) :: es, h => by
  simp only [mfind] at h
  by_cases e : k = k'
  ·simp [mput, mpos, e]
  ·simp only [e, if_false] at h
   simp only [mput, mpos, e, if_false, List.map_cons, List.set_cons_succ]
   rw [rows_putS h]
theorem rows_putN {k : κ} {xs : β} : ∀ {es : List (κ × β)}, mfind k es = none → (mput k xs es).map (·.2) = es.map (·.2) ++ [xs]
 | [], _ => rfl
 | (k', zs) :: es, h => by
  simp only [mfind] at h
  by_cases e : k = k'
  ·simp [e] at h
  ·simp only [e, if_false] at h
   simp only [mput, e, if_false, List.map_cons, List.cons_append]
   rw [rows_putN h]
theorem set_at_self {β : Type} : ∀ {l : List β} {i : Nat} {x : β}, l[i]? = some x → l.set i x = l
 | [], i, x, h => by simp at h
 | a :: l, 0, x, h => by simp only [List.getElem?_cons_zero, Option.some.injEq] at h; subst h; rfl
 | a :: l, i + 1, x, h => by
  simp only [List.getElem?_cons_succ] at h
  rw [List.set_cons_succ, set_at_self h]
/-- A map of slices of one's own. -/
def mapS (ei : TypeId) (R : Rp α) (b : Nat) (kf : κ → Value) (es : List (κ × List α)) : Assn :=
 bunA (fun hs : List Hd => hs.length = es.length) (fun hs => mapA b kf Hd.v (zipK es hs) :: rowsA ei R hs (es.map (·.2)))
/-- The same, the slice at a key taken out; its header is h. -/
def holeS (ei : TypeId) (R : Rp α) (b : Nat) (kf : κ → Value) (es : List (κ × List α)) (k : κ) (h : Hd) : Assn :=
 bunA (fun hs : List Hd => hs.length = es.length ∧ mget k (zipK es hs) nilH = h) (fun hs => mapA b kf Hd.v (zipK es hs) :: rowsA ei R (hs.eraseIdx (mpos k es)) ((es.map (·.2)).eraseIdx (mpos k es)))
theorem mget_some {β : Type} {k : κ} {es : List (κ × β)} {v d : β} (h : mfind k es = some v) : mget k es d = v := by simp [mget, h]
theorem mget_none {β : Type} {k : κ} {es : List (κ × β)} {d : β} (h : mfind k es = none) : mget k es d = d := by simp [mget, h]
/-- What all but one row is, with that row. -/
theorem St.rows_swap {A : Assn} {L L' : List Assn} {r : Assn} (hp : L.Perm (r :: L')) (h : St w0 w (A :: (L ++ l))) : St w0 w (r :: A :: (L' ++ l)) :=
 h.perm ((List.Perm.cons _ (hp.append_right l)).trans (.swap _ _ _))
theorem St.rows_swap' {A : Assn} {L L' : List Assn} {r : Assn} (hp : L.Perm (r :: L')) (h : St w0 w (r :: A :: (L' ++ l))) : St w0 w (A :: (L ++ l)) :=
 h.perm ((List.Perm.cons _ (hp.append_right l)).trans (.swap _ _ _)).symm
theorem St.openS (k : κ) {es : List (κ × List α)} (hS : St w0 w (mapS ei R b kf es :: l)) :
  ∃ A n c cs, (∀ ρ, RepL R ρ (mget k es []) cs) ∧ St w0 w (vec ei R.sz (.slice A n c) n cs :: holeS ei R b kf es k ⟨A, n, c⟩ :: l) := by
 obtain ⟨hs, hl, hS⟩ := St.unbun hS
 cases hf : mfind k es with
 | none =>
  have e1 : (es.map (·.2)).eraseIdx (mpos k es) = es.map (·.2) := by
   rw [mpos_none hf]; exact List.eraseIdx_of_length_le (by simp)
  have e2 : hs.eraseIdx (mpos k es) = hs := by
   rw [mpos_none hf]; exact List.eraseIdx_of_length_le (by omega)
  refine ⟨none, 0, 0, [], fun ρ => by rw [mget_none hf]; rfl, ?_⟩
  have h1 : St w0 w (holeS ei R b kf es k ⟨none, 0, 0⟩ :: l) := St.bun (Φ := fun hs : List Hd => hs.length = es.length ∧ mget k (zipK es hs) nilH = ⟨none, 0, 0⟩) hs ⟨hl, by rw [mget_none (zip_none hl hf)]⟩ (by rw [e1, e2]; exact hS)
  exact St.vec_nil h1 ei R.sz
 | some xs =>
  have hp := mpos_lt hf
  have h1 : hs[mpos k es]? = some (hs[mpos k es]'(by omega)) := List.getElem?_eq_getElem (by omega)
  have hperm := rows_perm (ei := ei) (R := R) h1 (row_at hf)
  obtain ⟨cs, hr, h3⟩ := St.row_in (St.rows_swap hperm hS)
  generalize hs[mpos k es]'(by omega) = hd at h1 h3
  refine ⟨hd.A, hd.n, hd.c, cs, fun ρ => by rw [mget_some hf]; exact hr ρ, ?_⟩
  have h4 : St w0 w ((mapA b kf Hd.v (zipK es hs) :: rowsA ei R (hs.eraseIdx (mpos k es)) ((es.map (·.2)).eraseIdx (mpos k es))) ++ (vec ei R.sz (.slice hd.A hd.n hd.c) hd.n cs :: l)) :=
   h3.perm (List.perm_middle (l₁ := mapA b kf Hd.v (zipK es hs) :: rowsA ei R (hs.eraseIdx (mpos k es)) ((es.map (·.2)).eraseIdx (mpos k es))) (l₂ := l)).symm
  exact (St.bun (Φ := fun hs : List Hd => hs.length = es.length ∧ mget k (zipK es hs) nilH = ⟨hd.A, hd.n, hd.c⟩) (L := fun hs => mapA b kf Hd.v (zipK es hs) :: rowsA ei R (hs.eraseIdx (mpos k es)) ((es.map (·.2)).eraseIdx (mpos k es))) hs ⟨hl, by rw [mget_some ((zip_some hl hf).trans h1)]⟩ h4).perm (.swap _ _ _)
/-- The slice is put back as it was. -/
theorem St.closeS {k : κ} {es : List (κ × List α)} {A : Option Addr} {n c : Nat} {cs : List Value} {z : List α} (hz : z = mget k es []) (hr : ∀ ρ, RepL R ρ z cs)
  (hS : St w0 w (vec ei R.sz (.slice A n c) n cs :: holeS ei R b kf es k ⟨A, n, c⟩ :: l)) : St w0 w (mapS ei R b kf es :: l) := by
 subst hz
 obtain ⟨hs, ⟨hl, hh⟩, h2⟩ := St.unbun (hS.perm (.swap _ _ _))
 refine St.bun (Φ := fun hs : List Hd => hs.length = es.length) (L := fun hs => mapA b kf Hd.v (zipK es hs) :: rowsA ei R hs (es.map (·.2))) hs hl ?_
 cases hf : mfind k es with
 | none =>
  have e1 : (es.map (·.2)).eraseIdx (mpos k es) = es.map (·.2) := by
   rw [mpos_none hf]; exact List.eraseIdx_of_length_le (by simp)
  have e2 : hs.eraseIdx (mpos k es) = hs := by
   rw [mpos_none hf]; exact List.eraseIdx_of_length_le (by omega)
  rw [e1, e2] at h2
  have h3 := h2.perm (List.perm_middle (l₁ := mapA b kf Hd.v (zipK es hs) :: rowsA ei R hs (es.map (·.2))) (l₂ := l))
  exact h3.drop
 | some xs =>
  have h1 : hs[mpos k es]? = some ⟨A, n, c⟩ := by
   have := zip_some hl hf
   have hp := mpos_lt hf
   rw [List.getElem?_eq_getElem (by omega)] at this ⊢
   rw [mget_some this] at hh
   rw [hh]
  have hperm := rows_perm (ei := ei) (R := R) h1 (row_at hf)
  rw [mget_some hf] at hr
  have h3 := h2.perm (List.perm_middle (l₁ := mapA b kf Hd.v (zipK es hs) :: rowsA ei R (hs.eraseIdx (mpos k es)) ((es.map (·.2)).eraseIdx (mpos k es))) (l₂ := l))
  have h4 : St w0 w (rowA ei R ⟨A, n, c⟩ xs :: mapA b kf Hd.v (zipK es hs) :: (rowsA ei R (hs.eraseIdx (mpos k es)) ((es.map (·.2)).eraseIdx (mpos k es)) ++ l)) := St.bun (L := fun cs => [vec ei R.sz (.slice A n c) n cs]) cs hr h3
  exact St.rows_swap' hperm h4
/-- A slice is put in at the key. -/
theorem St.putS {k : κ} {es : List (κ × List α)} {A : Option Addr} {n c : Nat} {cs : List Value} {z : List α} {hs : List Hd} (hl : hs.length = es.length) (hr : ∀ ρ, RepL R ρ z cs)
  (hS : St w0 w (vec ei R.sz (.slice A n c) n cs :: mapA b kf Hd.v (mput k ⟨A, n, c⟩ (zipK es hs)) :: (rowsA ei R (hs.eraseIdx (mpos k es)) ((es.map (·.2)).eraseIdx (mpos k es)) ++ l))) : St w0 w (mapS ei R b kf (mput k z es) :: l) := by
 have h4 : St w0 w (rowA ei R ⟨A, n, c⟩ z :: mapA b kf Hd.v (mput k ⟨A, n, c⟩ (zipK es hs)) :: (rowsA ei R (hs.eraseIdx (mpos k es)) ((es.map (·.2)).eraseIdx (mpos k es)) ++ l)) := St.bun (L := fun cs => [vec ei R.sz (.slice A n c) n cs]) cs hr hS
 cases hf : mfind k es with
 | none =>
  have e1 : (es.map (·.2)).eraseIdx (mpos k es) = es.map (·.2) := by
   rw [mpos_none hf]; exact List.eraseIdx_of_length_le (by simp)
  have e2 : hs.eraseIdx (mpos k es) = hs := by
   rw [mpos_none hf]; exact List.eraseIdx_of_length_le (by omega)
  rw [e1, e2, zip_putN (xs := z) hl hf] at h4
  have hlen : (hs ++ [(⟨A, n, c⟩ : Hd)]).length = (mput k z es).length := by rw [mput_none hf]; simp [hl]
  refine St.bun (Φ := fun hs : List Hd => hs.length = (mput k z es).length) (L := fun hs => mapA b kf Hd.v (zipK (mput k z es) hs) :: rowsA ei R hs ((mput k z es).map (·.2))) (hs ++ [⟨A, n, c⟩]) hlen ?_
  have h1 : (hs ++ [(⟨A, n, c⟩ : Hd)])[hs.length]? = some ⟨A, n, c⟩ := by simp
  have h2 : ((mput k z es).map (·.2))[hs.length]? = some z := by rw [rows_putN hf, hl]; simp
  have hperm := rows_perm (ei := ei) (R := R) h1 h2
  have e3 : (hs ++ [(⟨A, n, c⟩ : Hd)]).eraseIdx hs.length = hs := by
   rw [List.eraseIdx_append_of_length_le (Nat.le_refl _)]; simp
  have e4 : ((mput k z es).map (·.2)).eraseIdx hs.length = es.map (·.2) := by
   rw [rows_putN hf, List.eraseIdx_append_of_length_le (by simp [hl])]; simp [hl]
  rw [e3, e4] at hperm
  exact St.rows_swap' hperm h4
 | some ys =>
  have hp := mpos_lt hf
  rw [zip_putS (xs := z) hl hf] at h4
  have hlen : (hs.set (mpos k es) (⟨A, n, c⟩ : Hd)).length = (mput k z es).length := by rw [mput_some hf]; simp [hl]
  refine St.bun (Φ := fun hs : List Hd => hs.length = (mput k z es).length) (L := fun hs => mapA b kf Hd.v (zipK (mput k z es) hs) :: rowsA ei R hs ((mput k z es).map (·.2))) (hs.set (mpos k es) ⟨A, n, c⟩) hlen ?_
  have h1 : (hs.set (mpos k es) (⟨A, n, c⟩ : Hd))[mpos k es]? = some ⟨A, n, c⟩ := List.getElem?_set_self (by omega)
  have h2 : ((mput k z es).map (·.2))[mpos k es]? = some z := by rw [rows_putS hf]; exact List.getElem?_set_self (by rw [List.length_map]; exact hp)
  have hperm := rows_perm (ei := ei) (R := R) h1 h2
  rw [erase_set, rows_putS hf, erase_set] at hperm
  rw [rows_putS hf]
  exact St.rows_swap' hperm h4
/-- All headers, what they lead to never written again. -/
def RdM (R : Rp α) (ρ : Heap) (es : List (κ × List α)) (hs : List Hd) : Prop := hs.length = es.length ∧ RepL (RpSl R) ρ (es.map (·.2)) (hs.map Hd.v)
theorem RdM.le {ρ ρ' : Heap} {es : List (κ × List α)} {hs : List Hd} (h : RdM R ρ es hs) (hle : Le ρ ρ') : RdM R ρ' es hs := ⟨h.1, h.2.le hle⟩
theorem repSl_at : ∀ {xss : List (List α)} {hs : List Hd} {i : Nat} {xs : List α}, RepL (RpSl R) ρ xss (hs.map Hd.v) → xss[i]? = some xs → ∃ A n c, hs[i]? = some ⟨A, n, c⟩ ∧ RdS R ρ A n c xs
 | [], hs, i, xs, h, hi => by simp at hi
 | y :: xss, hs, i, xs, ⟨c1, c2, e, ⟨A, n, c, e1, h1⟩, h2⟩, hi => by
  subst e1
  cases hs with
  | nil => simp at e
  | cons hd hs =>
   simp only [List.map_cons, List.singleton_append, List.cons.injEq] at e
   obtain ⟨e0, rfl⟩ := e
   obtain ⟨A', n', c'⟩ := hd
   injection e0 with e1 e2 e3
   subst e1 e2 e3
   cases i with
   | zero =>
    simp only [List.getElem?_cons_zero, Option.some.injEq] at hi ⊢
    subst hi
    exact ⟨A', n', c', rfl, h1⟩
   | succ i =>
    simp only [List.getElem?_cons_succ] at hi ⊢
    exact repSl_at h2 hi
theorem RdM.get {es : List (κ × List α)} {hs : List Hd} (h : RdM R ρ es hs) (k : κ) : ∃ A n c, mget k (zipK es hs) nilH = ⟨A, n, c⟩ ∧ RdS R ρ A n c (mget k es []) := by
 cases hf : mfind k es with
 | none => exact ⟨none, 0, 0, by rw [mget_none (zip_none h.1 hf)], by rw [mget_none hf]; exact RdS.nil⟩
 | some xs =>
  obtain ⟨A, n, c, e, hr⟩ := repSl_at h.2 (row_at hf)
  exact ⟨A, n, c, by rw [mget_some ((zip_some h.1 hf).trans e)], by rw [mget_some hf]; exact hr⟩
theorem RdM.has {es : List (κ × List α)} {hs : List Hd} (h : RdM R ρ es hs) (k : κ) : mhas k (zipK es hs) = mhas k es := by
 cases hf : mfind k es with
 | none => simp [mhas, hf, zip_none h.1 hf]
 | some xs =>
  obtain ⟨A, n, c, e, hr⟩ := repSl_at h.2 (row_at hf)
  simp [mhas, hf, (zip_some h.1 hf).trans e]
theorem St.mapS_fz {es : List (κ × List α)} (h : St w0 w (mapS ei R b kf es :: ro ρ :: l)) : ∃ ρ' hs, Le ρ ρ' ∧ RdM R ρ' es hs ∧ St w0 w (mapA b kf Hd.v (zipK es hs) :: ro ρ' :: l) := by
 obtain ⟨hs, hl, hS⟩ := St.unbun h
 have h1 : St w0 w (rowsA ei R hs (es.map (·.2)) ++ (ro ρ :: mapA b kf Hd.v (zipK es hs) :: l)) := hS.perm (perm_in _ _ _ _)
 obtain ⟨ρ1, hle, hr, h2⟩ := St.rows_fz (by simpa using hl) h1
 exact ⟨ρ1, hs, hle, ⟨hl, hr⟩, h2.perm (.swap _ _ _)⟩
end
section
variable {P : Program} {n : Nat} {Rr : Env → World → Prop} {st : List It} {E : Env} {w0 w : World} {l : List Assn} {all : Array Oper} {rest : List Oper} {ty : TypeId} {pos : String} {af : Array Edge} {g : Option (Nat × Bool)} {x y z : Operand}
variable {κ α : Type} [DecidableEq κ] {kf : κ → Value} {ei : TypeId} {R : Rp α} {b : Nat}
theorem o_mkmapS {t : TypeId} {d : Nat} (kf : κ → Value) (ei : TypeId) (R : Rp α) (hS : St w0 w l) (h : ∀ b w', St w0 w' (mapS ei R b kf [] :: l) → S P n Rr (.ops all rest :: st) (E.set d (.map (some b))) w') (hd : Nat.blt d n = true := by rfl) :
  S P n Rr (.ops all (⟨some d, .makeMap t none, ty, pos, af, none⟩ :: rest) :: st) E w :=
 o_mkmap kf Hd.v hS (fun b w' hS' => h b w' (St.bun (Φ := fun hs : List Hd => hs.length = ([] : List (κ × List α)).length) (L := fun hs => mapA b kf Hd.v (zipK [] hs) :: rowsA ei R hs []) [] rfl hS')) hd
theorem at_lookS {t kt et : TypeId} {dd : Option Nat} {k : κ} {es : List (κ × List α)} {A : Option Addr} {m c : Nat} (hm : P.underlying t = some (.map kt et)) (hk : KeyP P kt kf) (hz : ∀ w, (zeroValue et).run P w = .ok (.slice none 0 0) w) (hx : ev E x = .map (some b)) (hy : ev E y = kf k) (hS : St w0 w (holeS ei R b kf es k ⟨A, m, c⟩ :: l)) :
  At P E ⟨dd, .lookup t x y false, ty, pos, af, g⟩ w (.slice A m c) := by
 obtain ⟨hs, ⟨hl, hh⟩, h2⟩ := St.unbun hS
 exact at_look (vf := Hd.v) (d := nilH) hm hk hz hx hy h2 hh.symm
theorem o_mapEntryS {t kt et : TypeId} {d : Nat} {k : κ} {es es' : List (κ × List α)} {A : Option Addr} {m c : Nat} (hm : P.underlying t = some (.map kt et)) (hk : KeyP P kt kf) (hz : ∀ w, (zeroValue et).run P w = .ok (.slice none 0 0) w) (hx : ev E x = .map (some b)) (hy : ev E y = kf k) (hS : St w0 w (holeS ei R b kf es k ⟨A, m, c⟩ :: l)) (he : es' = mput k (mget k es []) es)
  (h : ∀ w', St w0 w' (holeS ei R b kf es' k ⟨A, m, c⟩ :: l) → S P n Rr (.ops all rest :: st) (E.set d (.tuple #[.slice A m c, .int .i64 (mpos k es)])) w') (hd : Nat.blt d n = true := by rfl) :
  S P n Rr (.ops all (⟨some d, .mapEntry t x y, ty, pos, af, none⟩ :: rest) :: st) E w := by
 subst he
 obtain ⟨hs, ⟨hl, hh⟩, h2⟩ := St.unbun hS
 have hpz := zip_pos (k := k) hl
 refine o_mapEntry (vf := Hd.v) (d0 := nilH) hm hk hz hx hy h2 hh.symm rfl (fun w' h3 => ?_) hd
 rw [hpz]
 refine h w' ?_
 cases hf : mfind k es with
 | none =>
  have e1 : (es.map (·.2)).eraseIdx (mpos k es) = es.map (·.2) := by
   rw [mpos_none hf]; exact List.eraseIdx_of_length_le (by simp)
  have e2 : hs.eraseIdx (mpos k es) = hs := by
   rw [mpos_none hf]; exact List.eraseIdx_of_length_le (by omega)
  rw [mget_none hf]
  rw [e1, e2, zip_putN (xs := []) hl hf] at h3
  have hlen : (hs ++ [(⟨A, m, c⟩ : Hd)]).length = (mput k [] es).length := by rw [mput_none hf]; simp [hl]
  have hfd : mfind k (mput k [] es) = some [] := mfind_mput
  have hpos : mpos k (mput k [] es) = hs.length := by rw [mpos_mput, mpos_none hf, hl]
  refine St.bun (Φ := fun hs : List Hd => hs.length = (mput k [] es).length ∧ mget k (zipK (mput k [] es) hs) nilH = ⟨A, m, c⟩) (L := fun hs => mapA b kf Hd.v (zipK (mput k [] es) hs) :: rowsA ei R (hs.eraseIdx (mpos k (mput k [] es))) (((mput k [] es).map (·.2)).eraseIdx (mpos k (mput k [] es)))) (hs ++ [⟨A, m, c⟩]) ⟨hlen, ?_⟩ ?_
  ·rw [mget_some ((zip_some hlen hfd).trans (show _ = some (⟨A, m, c⟩ : Hd) by rw [hpos]; simp))]
  ·have e3 : (hs ++ [(⟨A, m, c⟩ : Hd)]).eraseIdx hs.length = hs := by
    rw [List.eraseIdx_append_of_length_le (Nat.le_refl _)]; simp
   have e4 : ((mput k [] es).map (·.2)).eraseIdx hs.length = es.map (·.2) := by
    rw [rows_putN hf, List.eraseIdx_append_of_length_le (by simp [hl])]; simp [hl]
   rw [hpos, e3, e4]
   exact h3
 | some ys =>
  have hp := mpos_lt hf
  rw [mget_some hf, mput_same hf]
  have hq : hs[mpos k es]? = some ⟨A, m, c⟩ := by
   have := zip_some hl hf
   rw [List.getElem?_eq_getElem (by omega)] at this ⊢
   rw [mget_some this] at hh
   rw [hh]
  rw [zip_putS (xs := ys) hl hf, mput_same hf, set_at_self hq] at h3
  exact St.bun (Φ := fun hs : List Hd => hs.length = es.length ∧ mget k (zipK es hs) nilH = ⟨A, m, c⟩) (L := fun hs => mapA b kf Hd.v (zipK es hs) :: rowsA ei R (hs.eraseIdx (mpos k es)) ((es.map (·.2)).eraseIdx (mpos k es))) hs ⟨hl, hh⟩ h3
theorem o_entryStoreS {t : TypeId} {k : κ} {es es1 es' : List (κ × List α)} {A : Option Addr} {m c : Nat} {cs : List Value} {v v0 : List α} {h0 : Hd} {q : Nat} (hx : ev E x = .map (some b)) (hy : ev E y = .int .i64 (q : Int)) (hz : ev E z = .slice A m c) (hq : q = mpos k es) (h1 : es1 = mput k v0 es) (hr : ∀ ρ, RepL R ρ v cs) (hS : St w0 w (vec ei R.sz (.slice A m c) m cs :: holeS ei R b kf es1 k h0 :: l)) (he : es' = mput k v es1)
  (h : ∀ w', St w0 w' (mapS ei R b kf es' :: l) → S P n Rr (.ops all rest :: st) (E.ins none undef) w') :
  S P n Rr (.ops all (⟨none, .entryStore t x y z, ty, pos, af, none⟩ :: rest) :: st) E w := by
 subst he hq
 have hfd : mfind k es1 = some v0 := by rw [h1]; exact mfind_mput
 have hp : mpos k es1 = mpos k es := by rw [h1]; exact mpos_mput
 obtain ⟨hs, ⟨hl, hh⟩, h2⟩ := St.unbun (hS.perm (.swap _ _ _))
 have hpl := mpos_lt hfd
 have hq : hs[mpos k es1]? = some h0 := by
  have := zip_some hl hfd
  rw [List.getElem?_eq_getElem (by omega)] at this ⊢
  rw [mget_some this] at hh
  rw [hh]
 have hself : mput k h0 (zipK es1 hs) = zipK es1 hs := by rw [zip_putS (xs := v0) hl hfd, mput_same hfd, set_at_self hq]
 refine o_entryStore (k := k) (es := zipK es1 hs) (v0 := h0) (vf := Hd.v) (v := ⟨A, m, c⟩) hx hy hz (by rw [zip_pos hl, hp]) hself.symm h2 rfl (fun w' h3 => h w' ?_)
 exact St.putS hl hr (h3.perm (List.perm_middle (l₁ := mapA b kf Hd.v _ :: rowsA ei R _ _) (l₂ := l)))
end
end Go.Proofs.Ytnnmbmgnpdcefaa.X
