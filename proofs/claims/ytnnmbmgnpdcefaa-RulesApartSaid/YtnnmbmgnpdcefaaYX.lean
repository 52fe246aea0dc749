/- Maps of maps of one's own. Lemmas over any program. -/
import Derived.Test.YtnnmbmgnpdcefaaYO
namespace Go.Proofs.Ytnnmbmgnpdcefaa.X
open Go Go.RowKit Go.Instr
set_option linter.unusedVariables false
set_option linter.unusedSimpArgs false
set_option linter.unusedSectionVars false
section
variable {κ κ₂ β : Type} [DecidableEq κ] [DecidableEq κ₂] {kf : κ → Value} {kf2 : κ₂ → Value} {vf2 : β → Value} {w0 w : World} {l : List Assn} {b : Nat}
/-- The inner maps, one by one. -/
def innA (kf2 : κ₂ → Value) (vf2 : β → Value) : List Nat → List (List (κ₂ × β)) → List Assn
 | b :: bs, e :: es => mapA b kf2 vf2 e :: innA kf2 vf2 bs es
 | _, _ => []
/-- The outer map's entries: the keys, with the inner maps' blocks. -/
abbrev outE (es : List (κ × List (κ₂ × β))) (bs : List Nat) : List (κ × Option Nat) := zipK es (bs.map some)
def mapM (b : Nat) (kf : κ → Value) (kf2 : κ₂ → Value) (vf2 : β → Value) (es : List (κ × List (κ₂ × β))) (bs : List Nat) : Assn :=
 bunA (fun _ : Unit => bs.length = es.length) (fun _ => mapA b kf Value.map (outE es bs) :: innA kf2 vf2 bs (es.map (·.2)))
/-- The same, inner map number i taken out. -/
def holeM (b : Nat) (kf : κ → Value) (kf2 : κ₂ → Value) (vf2 : β → Value) (es : List (κ × List (κ₂ × β))) (bs : List Nat) (i : Nat) : Assn :=
 bunA (fun _ : Unit => bs.length = es.length) (fun _ => mapA b kf Value.map (outE es bs) :: innA kf2 vf2 (bs.eraseIdx i) ((es.map (·.2)).eraseIdx i))
/-- Where the inner map at a key lies. -/
def mb (k : κ) (es : List (κ × List (κ₂ × β))) (bs : List Nat) : Option Nat := mget k (outE es bs) none
theorem perm_mid2 {A r : Assn} {L l : List Assn} : (A :: (L ++ r :: l)).Perm (r :: A :: (L ++ l)) := List.perm_middle (l₁ := A :: L)
theorem inn_perm {h : Nat} {xs : List (κ₂ × β)} : ∀ {hs : List Nat} {xss : List (List (κ₂ × β))} {i : Nat}, hs[i]? = some h → xss[i]? = some xs → (innA kf2 vf2 hs xss).Perm (mapA h kf2 vf2 xs :: innA kf2 vf2 (hs.eraseIdx i) (xss.eraseIdx i))
 | [], _, _, h1, _ => by simp at h1
 | _ :: _, [], _, _, h2 => by simp at h2
 | a :: hs, y :: xss, 0, h1, h2 => by
  simp at h1 h2; subst h1; subst h2; exact List.Perm.refl _
 | a :: hs, y :: xss, i + 1, h1, h2 => by
  have ih := inn_perm (hs := hs) (xss := xss) (i := i) (by simpa using h1) (by simpa using h2)
  exact (List.Perm.cons _ ih).trans (.swap _ _ _)
theorem St.lenM {es : List (κ × List (κ₂ × β))} {bs : List Nat} (hS : St w0 w (mapM b kf kf2 vf2 es bs :: l)) : bs.length = es.length := by
 obtain ⟨_, hl, _⟩ := St.unbun hS; exact hl
theorem St.openM {es : List (κ × List (κ₂ × β))} {bs : List Nat} {i h : Nat} {xs : List (κ₂ × β)} (h1 : bs[i]? = some h) (h2 : (es.map (·.2))[i]? = some xs) (hS : St w0 w (mapM b kf kf2 vf2 es bs :: l)) :
  St w0 w (mapA h kf2 vf2 xs :: holeM b kf kf2 vf2 es bs i :: l) := by
 obtain ⟨u, hl, h3⟩ := St.unbun hS
 have hperm := inn_perm (kf2 := kf2) (vf2 := vf2) h1 h2
 have h4 := St.rows_swap hperm h3
 have h5 : St w0 w ((mapA b kf Value.map (outE es bs) :: innA kf2 vf2 (bs.eraseIdx i) ((es.map (·.2)).eraseIdx i)) ++ (mapA h kf2 vf2 xs :: l)) :=
  h4.perm (List.perm_middle (l₁ := mapA b kf Value.map (outE es bs) :: innA kf2 vf2 (bs.eraseIdx i) ((es.map (·.2)).eraseIdx i)) (l₂ := l)).symm
 exact (St.bun (Φ := fun _ : Unit => bs.length = es.length) (L := fun _ => mapA b kf Value.map (outE es bs) :: innA kf2 vf2 (bs.eraseIdx i) ((es.map (·.2)).eraseIdx i)) u hl h5).perm (.swap _ _ _)
/-- An inner map is put back, changed. -/
theorem St.closeM {es es' : List (κ × List (κ₂ × β))} {bs : List Nat} {i h : Nat} {xs : List (κ₂ × β)} (h1 : bs[i]? = some h) (h2 : (es'.map (·.2))[i]? = some xs) (he : (es'.map (·.2)).eraseIdx i = (es.map (·.2)).eraseIdx i) (hz : outE es' bs = outE es bs) (hn : es'.length = es.length)
  (hS : St w0 w (mapA h kf2 vf2 xs :: holeM b kf kf2 vf2 es bs i :: l)) : St w0 w (mapM b kf kf2 vf2 es' bs :: l) := by
 obtain ⟨u, hl, h3⟩ := St.unbun (hS.perm (.swap _ _ _))
 refine St.bun (Φ := fun _ : Unit => bs.length = es'.length) (L := fun _ => mapA b kf Value.map (outE es' bs) :: innA kf2 vf2 bs (es'.map (·.2))) u (hl.trans hn.symm) ?_
 have hperm := inn_perm (kf2 := kf2) (vf2 := vf2) h1 h2
 rw [he] at hperm
 rw [hz]
 have h4 := h3.perm (List.perm_middle (l₁ := mapA b kf Value.map (outE es bs) :: innA kf2 vf2 (bs.eraseIdx i) ((es.map (·.2)).eraseIdx i)) (l₂ := l))
 exact St.rows_swap' hperm h4
theorem zip_same {γ δ : Type} {k : κ} {v v0 : δ} : ∀ {es : List (κ × δ)} {hs : List γ}, mfind k es = some v0 → zipK (mput k v es) hs = zipK es hs
 | [], hs, h => by simp [mfind] at h
 | (k', v') :: r, [], h => by
  by_cases e : k = k' <;> simp [mput, e, zipK]
 | (k', v') :: r, a :: hs, h => by
  simp only [mfind] at h
  by_cases e : k = k'
  ·simp [mput, e, zipK]
  ·simp only [e, if_false] at h
   simp only [mput, e, if_false, zipK]
   rw [zip_same h]
theorem mhas_some {α : Type} {k : κ} {es : List (κ × α)} (h : mhas k es = true) : ∃ v, mfind k es = some v := by
 unfold mhas at h; exact Option.isSome_iff_exists.1 h
theorem mb_some {k : κ} {es : List (κ × List (κ₂ × β))} {bs : List Nat} (hl : bs.length = es.length) {xs : List (κ₂ × β)} (h : mfind k es = some xs) : ∃ h : mpos k es < bs.length, bs[mpos k es]? = some bs[mpos k es] ∧ mb k es bs = some bs[mpos k es] := by
 have hp := mpos_lt h
 refine ⟨by omega, List.getElem?_eq_getElem (by omega), ?_⟩
 unfold mb
 rw [mget_some ((zip_some (hs := bs.map some) (by simp [hl]) h).trans (by rw [List.getElem?_map, List.getElem?_eq_getElem (by omega)]; rfl))]
theorem mb_none {k : κ} {es : List (κ × List (κ₂ × β))} {bs : List Nat} (hl : bs.length = es.length) (h : mfind k es = none) : mb k es bs = none := by
 unfold mb
 rw [mget_none (zip_none (by simp [hl]) h)]
end
section
variable {P : Program} {n : Nat} {Rr : Env → World → Prop} {st : List It} {E : Env} {w0 w : World} {l : List Assn} {all : Array Oper} {rest : List Oper} {ty t : TypeId} {pos : String} {af : Array Edge} {g : Option (Nat × Bool)} {x y z : Operand} {dd : Option Nat}
variable {κ κ₂ β : Type} [DecidableEq κ] [DecidableEq κ₂] {kf : κ → Value} {kf2 : κ₂ → Value} {vf2 : β → Value} {b : Nat} {es es' : List (κ × List (κ₂ × β))} {bs : List Nat}
theorem o_mkmapM {d : Nat} (kf : κ → Value) (kf2 : κ₂ → Value) (vf2 : β → Value) (hS : St w0 w l) (h : ∀ b w', St w0 w' (mapM b kf kf2 vf2 [] [] :: l) → S P n Rr (.ops all rest :: st) (E.set d (.map (some b))) w') (hd : Nat.blt d n = true := by rfl) :
  S P n Rr (.ops all (⟨some d, .makeMap t none, ty, pos, af, none⟩ :: rest) :: st) E w :=
 o_mkmap kf Value.map hS (fun b w' hS' => h b w' (St.bun (Φ := fun _ : Unit => ([] : List Nat).length = ([] : List (κ × List (κ₂ × β))).length) (L := fun _ => mapA b kf Value.map (outE ([] : List (κ × List (κ₂ × β))) []) :: innA kf2 vf2 [] []) () rfl hS')) hd
theorem at_lookM {kt et : TypeId} {k : κ} (hm : P.underlying t = some (.map kt et)) (hk : KeyP P kt kf) (hz : ∀ w, (zeroValue et).run P w = .ok (.map none) w) (hx : ev E x = .map (some b)) (hy : ev E y = kf k) (hS : St w0 w (mapM b kf kf2 vf2 es bs :: l)) :
  At P E ⟨dd, .lookup t x y false, ty, pos, af, g⟩ w (.map (mb k es bs)) := by
 obtain ⟨u, hl, h2⟩ := St.unbun hS
 exact at_look (vf := Value.map) (d := none) hm hk hz hx hy h2 rfl
theorem at_nilM {kt et : TypeId} {t' : TypeId} {k : κ} {q : Bool} (hm : P.underlying t = some (.map kt et)) (hx : ev E x = .map (mb k es bs)) (hy : ev E y = .map none) (hS : St w0 w (mapM b kf kf2 vf2 es bs :: l)) (hq : q = !mhas k es) :
  At P E ⟨dd, .binOp .eql t x y t', ty, pos, af, g⟩ w (.bool q) := by
 subst hq
 have hl := St.lenM hS
 have e : (mb k es bs).isNone = !mhas k es := by
  cases hf : mfind k es with
  | none => rw [mb_none hl hf]; simp [mhas, hf]
  | some xs => obtain ⟨_, _, e⟩ := mb_some hl hf; rw [e]; simp [mhas, hf]
 have h := run_equal_map_nil (P := P) w t kt et (mb k es bs) hm
 rw [e] at h
 simp [At, execOp, eqGuard, hx, hy, binOp, h, pure, Sem.run]
theorem at_lenM {kt et : TypeId} {k : κ} {m : Nat} (hm : P.underlying t = some (.map kt et)) (hx : ev E x = .map (mb k es bs)) (hS : St w0 w (mapM b kf kf2 vf2 es bs :: l)) (hq : m = (mget k es []).length) :
  At P E ⟨dd, .call { callee := .builtin .len, args := #[x], argTypes := #[t] }, ty, pos, af, g⟩ w (.int .i64 m) := by
 subst hq
 have hl := St.lenM hS
 cases hf : mfind k es with
 | none =>
  rw [mb_none hl hf] at hx
  rw [mget_none hf]
  simp [At, execOp, resolve, invoke, builtin, hx, Builtin.len_, run_underlying hm, goInt, pure, Sem.run]
 | some xs =>
  obtain ⟨hp, h1, e⟩ := mb_some hl hf
  rw [e] at hx
  rw [mget_some hf]
  exact at_lenm hm hx (St.openM h1 (row_at hf) hS)
/-- A new inner map is put in at a key that is new. -/
theorem o_mapsetM {kt et : TypeId} {k : κ} {b2 : Nat} {ys : List (κ₂ × β)} (hm : P.underlying t = some (.map kt et)) (hk : KeyP P kt kf) (hx : ev E x = .map (some b)) (hy : ev E y = kf k) (hz : ev E z = .map (some b2)) (hh : mhas k es = false) (hS : St w0 w (mapA b2 kf2 vf2 ys :: mapM b kf kf2 vf2 es bs :: l)) (he : es' = mput k ys es)
  (h : ∀ bs' w', St w0 w' (mapM b kf kf2 vf2 es' bs' :: l) → S P n Rr (.ops all rest :: st) (E.ins none undef) w') :
  S P n Rr (.ops all (⟨none, .mapUpdate t x y z, ty, pos, af, none⟩ :: rest) :: st) E w := by
 subst he
 obtain ⟨u, hl, h2⟩ := St.unbun (hS.perm (.swap _ _ _))
 have hf : mfind k es = none := by
  unfold mhas at hh; cases hf : mfind k es with
  | none => rfl
  | some v => rw [hf] at hh; cases hh
 refine o_mapset (vf := Value.map) (v := some b2) hm hk hx hy hz h2 rfl (fun w' h3 => h (bs ++ [b2]) w' ?_)
 refine St.bun (Φ := fun _ : Unit => (bs ++ [b2]).length = (mput k ys es).length) (L := fun _ => mapA b kf Value.map (outE (mput k ys es) (bs ++ [b2])) :: innA kf2 vf2 (bs ++ [b2]) ((mput k ys es).map (·.2))) u (by rw [mput_none hf]; simp [hl]) ?_
 have e1 : outE (mput k ys es) (bs ++ [b2]) = mput k (some b2) (outE es bs) := by
  unfold outE
  rw [zip_putN (xs := ys) (h := some b2) (by simp [hl]) hf, List.map_append]
  rfl
 rw [e1]
 have h3' : St w0 w' ((mapA b kf Value.map (mput k (some b2) (outE es bs)) :: innA kf2 vf2 bs (es.map (·.2))) ++ (mapA b2 kf2 vf2 ys :: l)) := h3
 have h4 := h3'.perm List.perm_middle
 have hperm := inn_perm (kf2 := kf2) (vf2 := vf2) (h := b2) (xs := ys) (hs := bs ++ [b2]) (xss := (mput k ys es).map (·.2)) (i := bs.length) (by simp) (by rw [rows_putN hf, hl]; simp)
 rw [rows_putN hf] at hperm ⊢
 have e3 : (bs ++ [b2]).eraseIdx bs.length = bs := by
  rw [List.eraseIdx_append_of_length_le (Nat.le_refl _)]; simp
 have e4 : (es.map (·.2) ++ [ys]).eraseIdx bs.length = es.map (·.2) := by
  rw [List.eraseIdx_append_of_length_le (by simp [hl])]; simp [hl]
 rw [e3, e4] at hperm
 exact St.rows_swap' hperm h4
/-- A write into the inner map at a key. -/
theorem o_setinM {kt et : TypeId} {k : κ} {k2 : κ₂} {v : β} (hm : P.underlying t = some (.map kt et)) (hk : KeyP P kt kf2) (hx : ev E x = .map (mb k es bs)) (hy : ev E y = kf2 k2) (hz : ev E z = vf2 v) (hh : mhas k es = true) (hS : St w0 w (mapM b kf kf2 vf2 es bs :: l)) (he : es' = mput k (mput k2 v (mget k es [])) es)
  (h : ∀ w', St w0 w' (mapM b kf kf2 vf2 es' bs :: l) → S P n Rr (.ops all rest :: st) (E.ins none undef) w') :
  S P n Rr (.ops all (⟨none, .mapUpdate t x y z, ty, pos, af, none⟩ :: rest) :: st) E w := by
 subst he
 obtain ⟨xs, hf⟩ := mhas_some hh
 have hl := St.lenM hS
 obtain ⟨hp, h1, e⟩ := mb_some hl hf
 rw [e] at hx
 rw [mget_some hf] at h
 refine o_mapset (vf := vf2) (v := v) hm hk hx hy hz (St.openM h1 (row_at hf) hS) rfl (fun w' h3 => h w' ?_)
 have hlen := mpos_lt hf
 refine St.closeM h1 (by rw [rows_putS hf]; exact List.getElem?_set_self (by rw [List.length_map]; exact hlen)) (by rw [rows_putS hf, erase_set]) (by unfold outE; rw [zip_same hf]) (mput_some hf) h3
theorem o_rangeM {kt et : TypeId} {d : Nat} (hm : P.underlying t = some (.map kt et)) (hx : ev E x = .map (some b)) (hS : St w0 w (mapM b kf kf2 vf2 es bs :: l))
  (h : ∀ r w', St w0 w' (itA r b es.length [] :: mapM b kf kf2 vf2 es bs :: l) → S P n Rr (.ops all rest :: st) (E.set d (.pointer (some ⟨r, 0, none⟩))) w') (hd : Nat.blt d n = true := by rfl) :
  S P n Rr (.ops all (⟨some d, .range t x, ty, pos, af, none⟩ :: rest) :: st) E w := by
 obtain ⟨u, hl, h2⟩ := St.unbun hS
 have hz : (outE es bs).length = es.length := zipK_len (by simp [hl])
 refine o_range (vf := Value.map) hm hx h2 (fun r w' h' => h r w' ?_) hd
 rw [hz] at h'
 exact (St.bun (Φ := fun _ : Unit => bs.length = es.length) (L := fun _ => mapA b kf Value.map (outE es bs) :: innA kf2 vf2 bs (es.map (·.2))) u hl (h'.perm (List.perm_middle (l₁ := mapA b kf Value.map (outE es bs) :: innA kf2 vf2 bs (es.map (·.2))) (l₂ := l)).symm)).perm (.swap _ _ _)
variable [Inhabited κ]
theorem outE_gt (hl : bs.length = es.length) {i : Nat} (hi : i < es.length) : gt (outE es bs) i = ((gt es i).1, some (gt bs i)) := by
 unfold outE
 rw [zip_gt (by simp [hl]) hi]
 congr 1
 rw [gt_nth (by simp; omega), gt_nth (by omega)]
 simp
theorem St.unM (hS : St w0 w (mapM b kf kf2 vf2 es bs :: l)) : bs.length = es.length ∧ St w0 w (mapA b kf Value.map (outE es bs) :: (innA kf2 vf2 bs (es.map (·.2)) ++ l)) := by
 obtain ⟨u, hl, h2⟩ := St.unbun hS; exact ⟨hl, h2⟩
theorem St.inM (hl : bs.length = es.length) (hS : St w0 w (mapA b kf Value.map (outE es bs) :: (innA kf2 vf2 bs (es.map (·.2)) ++ l))) : St w0 w (mapM b kf kf2 vf2 es bs :: l) :=
 St.bun (Φ := fun _ : Unit => bs.length = es.length) (L := fun _ => mapA b kf Value.map (outE es bs) :: innA kf2 vf2 bs (es.map (·.2))) () hl hS
theorem o_nextM {d : Nat} {r : Nat} {seen : List Nat} (hx : ev E x = .pointer (some ⟨r, 0, none⟩)) (hS : St w0 w (itA r b es.length seen :: mapM b kf kf2 vf2 es bs :: l))
  (h0 : (∀ i, i < es.length → i ∈ seen) → ∀ w', St w0 w' (itA r b es.length seen :: mapM b kf kf2 vf2 es bs :: l) → S P n Rr (.ops all rest :: st) (E.set d (.tuple #[.bool false])) w')
  (h1 : ∀ i : Nat, i < es.length → i ∉ seen → ∀ w', St w0 w' (itA r b es.length (seen ++ [i]) :: mapM b kf kf2 vf2 es bs :: l) → S P n Rr (.ops all rest :: st) (E.set d (.tuple #[.bool true, kf (gt es i).1, .map (some (gt bs i))])) w') (hd : Nat.blt d n = true := by rfl) :
  S P n Rr (.ops all (⟨some d, .next x false, ty, pos, af, none⟩ :: rest) :: st) E w := by
 obtain ⟨hl, h2⟩ := St.unM (hS.perm (.swap _ _ _))
 have hz : (outE es bs).length = es.length := zipK_len (by simp [hl])
 have h3 : St w0 w (itA r b (outE es bs).length seen :: mapA b kf Value.map (outE es bs) :: (innA kf2 vf2 bs (es.map (·.2)) ++ l)) := by
  rw [hz]
  exact h2.perm perm_mid2
 have back : ∀ {w' sn}, St w0 w' (itA r b (outE es bs).length sn :: mapA b kf Value.map (outE es bs) :: (innA kf2 vf2 bs (es.map (·.2)) ++ l)) → St w0 w' (itA r b es.length sn :: mapM b kf kf2 vf2 es bs :: l) := by
  intro w' sn h'
  rw [hz] at h'
  exact (St.inM (l := itA r b es.length sn :: l) hl (h'.perm perm_mid2.symm)).perm (.swap _ _ _)
 refine o_next hx h3 (fun hh w' h' => h0 (by rw [hz] at hh; exact hh) w' (back h')) (fun i hi hn w' h' => ?_) hd
 rw [hz] at hi
 have := h1 i hi hn w' (back h')
 rw [outE_gt hl hi]
 exact this
theorem at_entryM {r : Nat} {seen : List Nat} {i : Nat} {e : κ × List (κ₂ × β)} (hx : ev E x = .pointer (some ⟨r, 0, none⟩)) (hi : i < es.length) (hS : St w0 w (itA r b es.length (seen ++ [i]) :: mapM b kf kf2 vf2 es bs :: l)) (he : e = gt es i) :
  At P E ⟨dd, .entry x, ty, pos, af, g⟩ w (.tuple #[kf e.1, .map (some (gt bs i))]) := by
 subst he
 obtain ⟨hl, h2⟩ := St.unM (hS.perm (.swap _ _ _))
 have hz : (outE es bs).length = es.length := zipK_len (by simp [hl])
 have h3 : St w0 w (itA r b (outE es bs).length (seen ++ [i]) :: mapA b kf Value.map (outE es bs) :: (innA kf2 vf2 bs (es.map (·.2)) ++ l)) := by
  rw [hz]
  exact h2.perm perm_mid2
 have := at_entry (P := P) (E := E) (dd := dd) (ty := ty) (pos := pos) (af := af) (g := g) (vf := Value.map) hx (by rw [hz]; exact hi) h3 rfl
 rw [outE_gt hl hi] at this
 exact this
/-- Inner map number i, taken out. -/
theorem St.atM {i : Nat} {e : κ × List (κ₂ × β)} (hi : i < es.length) (he : e = gt es i) (hS : St w0 w (mapM b kf kf2 vf2 es bs :: l)) : St w0 w (mapA (gt bs i) kf2 vf2 e.2 :: holeM b kf kf2 vf2 es bs i :: l) := by
 subst he
 have hl := St.lenM hS
 exact St.openM (by rw [gt_nth (by omega)]; exact List.getElem?_eq_getElem (by omega)) (by rw [gt_nth hi]; simp [hi]) hS
theorem St.putM {i : Nat} {e : κ × List (κ₂ × β)} (hi : i < es.length) (he : e = gt es i) (hS : St w0 w (mapA (gt bs i) kf2 vf2 e.2 :: holeM b kf kf2 vf2 es bs i :: l)) : St w0 w (mapM b kf kf2 vf2 es bs :: l) := by
 subst he
 obtain ⟨_, hl, _⟩ := St.unbun (hS.perm (.swap _ _ _))
 exact St.closeM (by rw [gt_nth (by omega)]; exact List.getElem?_eq_getElem (by omega)) (by rw [gt_nth hi]; simp [hi]) rfl rfl rfl hS
end
/-! the numbers that have come, in a range -/
theorem rng_len : ∀ (n : Nat) {seen : List Nat}, seen.Nodup → (∀ i ∈ seen, i < n) → seen.length ≤ n
 | 0, [], _, _ => Nat.le_refl _
 | 0, a :: r, _, hb => absurd (hb a (by simp)) (by omega)
 | n + 1, seen, hn, hb => by
  have h1 : (seen.erase n).Nodup := hn.erase n
  have h2 : ∀ i ∈ seen.erase n, i < n := fun i hi => by
   have := hn.mem_erase_iff.1 hi
   have := hb i this.2
   omega
  have := rng_len n h1 h2
  have h3 := List.length_erase (a := n) (l := seen)
  split at h3 <;> omega
theorem rng_add {n : Nat} {seen : List Nat} {i : Nat} (hn : seen.Nodup) (hb : ∀ i ∈ seen, i < n) (hi : i < n) (hni : i ∉ seen) : (seen ++ [i]).Nodup ∧ (∀ j ∈ seen ++ [i], j < n) ∧ (seen ++ [i]).length ≤ n := by
 have h1 : (seen ++ [i]).Nodup := by
  rw [List.nodup_append]
  exact ⟨hn, by simp, fun a ha b hb' => by simp at hb'; subst hb'; exact fun e => hni (e ▸ ha)⟩
 have h2 : ∀ j ∈ seen ++ [i], j < n := fun j hj => by
  rcases List.mem_append.1 hj with h | h
  ·exact hb j h
  ·simp at h; subst h; exact hi
 exact ⟨h1, h2, rng_len n h1 h2⟩
end Go.Proofs.Ytnnmbmgnpdcefaa.X
