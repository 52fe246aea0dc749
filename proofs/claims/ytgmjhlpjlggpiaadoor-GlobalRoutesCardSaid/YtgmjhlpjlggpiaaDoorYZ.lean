/- Maps of one's own out of which entries are taken. Lemmas over any program. -/
import Derived.Test.YtgmjhlpjlggpiaaDoorYX
namespace Go.Proofs.YtgmjhlpjlggpiaaDoor.X
open Go Go.RowKit Go.Instr
set_option linter.unusedVariables false
set_option linter.unusedSimpArgs false
set_option linter.unusedSectionVars false
section
variable {κ α : Type} [DecidableEq κ] {kf : κ → Value} {vf : α → Value}
/-- A map's entries with any births. -/
def entsB (kf : κ → Value) (vf : α → Value) : List (κ × α) → List Nat → List MapEntry
 | (k, v) :: r, b :: bs => ⟨kf k, vf v, b⟩ :: entsB kf vf r bs
 | _, _ => []
def mapD (b : Nat) (kf : κ → Value) (vf : α → Value) (es : List (κ × α)) : Assn :=
 bunA (fun u : List Nat × Nat => u.1.length = es.length) (fun u => [blk b (.map ⟨entsB kf vf es u.1⟩ u.2)])
/-- A map without what lay at a key. -/
def mdel (k : κ) : List (κ × α) → List (κ × α)
 | [] => []
 | (k', v) :: r => if k = k' then r else (k', v) :: mdel k r
def kvOf (L : List MapEntry) : List (Value × Value) := L.map fun e => (e.key, e.val)
theorem kv_entsB : ∀ {es : List (κ × α)} {bs : List Nat} {n : Nat}, bs.length = es.length → kvOf (entsB kf vf es bs) = kvOf (ents kf vf es n)
 | [], [], _, _ => rfl
 | [], _ :: _, _, h => by simp at h
 | _ :: _, [], _, h => by simp at h
 | (k, v) :: r, b :: bs, n, h => by
  simp only [entsB, ents, kvOf, List.map_cons]
  have := kv_entsB (es := r) (bs := bs) (n := n + 1) (by simpa using h)
  simp only [kvOf] at this
  rw [this]
theorem findNow_kv {d : TypeDesc} {k : Value} : ∀ {L L' : List MapEntry} {i : Nat}, kvOf L = kvOf L' → findNow d k L i = findNow d k L' i
 | [], [], _, _ => rfl
 | [], _ :: _, _, h => by simp [kvOf] at h
 | _ :: _, [], _, h => by simp [kvOf] at h
 | e :: L, e' :: L', i, h => by
  simp only [kvOf, List.map_cons, List.cons.injEq, Prod.mk.injEq] at h
  obtain ⟨⟨h1, h2⟩, h3⟩ := h
  simp only [findNow, h1, h2]
  rw [findNow_kv (L := L) (L' := L') (i := i + 1) h3]
theorem findAsking_kv {kt : TypeId} {k : Value} : ∀ {L L' : List MapEntry} {i : Nat}, kvOf L = kvOf L' → findAsking kt k L i = findAsking kt k L' i
 | [], [], _, _ => rfl
 | [], _ :: _, _, h => by simp [kvOf] at h
 | _ :: _, [], _, h => by simp [kvOf] at h
 | e :: L, e' :: L', i, h => by
  simp only [kvOf, List.map_cons, List.cons.injEq, Prod.mk.injEq] at h
  obtain ⟨⟨h1, h2⟩, h3⟩ := h
  simp only [findAsking, h1, h2]
  rw [findAsking_kv (L := L) (L' := L') (i := i + 1) h3]
theorem findKey_kv {kt : TypeId} {k : Value} {L L' : List MapEntry} (h : kvOf L = kvOf L') : findKey kt k L = findKey kt k L' := by
 unfold findKey
 have h1 : ∀ d, findNow d k L 0 = findNow d k L' 0 := fun d => findNow_kv h
 simp only [h1, findAsking_kv h]
theorem entsB_length : ∀ {es : List (κ × α)} {bs : List Nat}, bs.length = es.length → (entsB kf vf es bs).length = es.length
 | [], [], _ => rfl
 | [], _ :: _, h => by simp at h
 | _ :: _, [], h => by simp at h
 | (k, v) :: r, b :: bs, h => by simp [entsB, entsB_length (es := r) (bs := bs) (by simpa using h)]
theorem entsB_none {k : κ} {v : α} {c : Nat} : ∀ {es : List (κ × α)} {bs : List Nat}, bs.length = es.length → mfind k es = none → entsB kf vf (mput k v es) (bs ++ [c]) = entsB kf vf es bs ++ [⟨kf k, vf v, c⟩]
 | [], [], _, _ => by simp [mput, entsB]
 | [], _ :: _, h, _ => by simp at h
 | _ :: _, [], h, _ => by simp at h
 | (k', v') :: r, b :: bs, h, hf => by
  simp only [mfind] at hf
  by_cases e : k = k'
  ·simp [e] at hf
  ·simp only [e, if_false] at hf
   simp only [mput, e, if_false, List.cons_append, entsB]
   rw [entsB_none (es := r) (bs := bs) (by simpa using h) hf]
theorem entsB_some {k : κ} {v v0 : α} : ∀ {es : List (κ × α)} {bs : List Nat}, bs.length = es.length → mfind k es = some v0 → entsB kf vf (mput k v es) bs = (entsB kf vf es bs).modify (mpos k es) fun e => { e with key := kf k, val := vf v }
 | [], _, _, h => by simp [mfind] at h
 | _ :: _, [], h, _ => by simp at h
 | (k', v') :: r, b :: bs, h, hf => by
  simp only [mfind] at hf
  by_cases e : k = k'
  ·simp [mput, e, entsB, mpos]
  ·simp only [e, if_false] at hf
   simp only [mput, e, if_false, entsB, mpos, List.modify_succ_cons]
   rw [entsB_some (es := r) (bs := bs) (by simpa using h) hf]
theorem entsB_key {k : κ} {v0 : α} : ∀ {es : List (κ × α)} {bs : List Nat}, bs.length = es.length → mfind k es = some v0 → ((entsB kf vf es bs)[mpos k es]?).map (·.key) = some (kf k)
 | [], _, _, h => by simp [mfind] at h
 | _ :: _, [], h, _ => by simp at h
 | (k', v') :: r, b :: bs, h, hf => by
  simp only [mfind] at hf
  by_cases e : k = k'
  ·simp [e, entsB, mpos]
  ·simp only [e, if_false] at hf
   simp only [e, if_false, entsB, mpos, List.getElem?_cons_succ]
   exact entsB_key (es := r) (bs := bs) (by simpa using h) hf
theorem entsB_del {k : κ} {v0 : α} : ∀ {es : List (κ × α)} {bs : List Nat}, bs.length = es.length → mfind k es = some v0 → entsB kf vf (mdel k es) (bs.eraseIdx (mpos k es)) = (entsB kf vf es bs).eraseIdx (mpos k es) ∧ (bs.eraseIdx (mpos k es)).length = (mdel k es).length ∧ mpos k es < es.length
 | [], _, _, h => by simp [mfind] at h
 | _ :: _, [], h, _ => by simp at h
 | (k', v') :: r, b :: bs, h, hf => by
  simp only [mfind] at hf
  by_cases e : k = k'
  ·simp only [mdel, e, entsB, mpos, if_true, List.eraseIdx_cons_zero, List.length_cons] at h ⊢
   refine ⟨?_, ?_, ?_⟩ <;> first | trivial | omega
  ·simp only [e, if_false] at hf
   obtain ⟨h1, h2, h3⟩ := entsB_del (es := r) (bs := bs) (by simpa using h) hf
   simp only [mdel, e, if_false, entsB, mpos, List.eraseIdx_cons_succ, List.length_cons]
   exact ⟨by rw [h1], by omega, by omega⟩
theorem mdel_none {k : κ} : ∀ {es : List (κ × α)}, mfind k es = none → mdel k es = es
 | [], _ => rfl
 | (k', v') :: r, hf => by
  simp only [mfind] at hf
  by_cases e : k = k'
  ·simp [e] at hf
  ·simp only [e, if_false] at hf
   simp only [mdel, e, if_false]; rw [mdel_none hf]
end
section
variable {P : Program} {n : Nat} {R : Env → World → Prop} {st : List It} {E : Env} {w0 w : World} {l : List Assn} {all : Array Oper} {rest : List Oper} {ty t : TypeId} {pos : String} {af : Array Edge} {g : Option (Nat × Bool)} {x y z : Operand} {dd : Option Nat}
variable {κ α : Type} [DecidableEq κ] {kf : κ → Value} {vf : α → Value} {b : Nat} {es es' : List (κ × α)} {k : κ} {d v r : α}
theorem St.mapD0 (hS : St w0 w (mapA b kf vf ([] : List (κ × α)) :: l)) : St w0 w (mapD b kf vf ([] : List (κ × α)) :: l) :=
 St.bun (Φ := fun u : List Nat × Nat => u.1.length = ([] : List (κ × α)).length) (L := fun u => [blk b (.map ⟨entsB kf vf ([] : List (κ × α)) u.1⟩ u.2)]) ([], 0) rfl hS
theorem St.mapDE (hS : St w0 w (mapD b kf vf es :: l)) : ∃ bs c, bs.length = es.length ∧ w.heap[b]? = some (.map ⟨entsB kf vf es bs⟩ c) ∧ St w0 w (blk b (.map ⟨entsB kf vf es bs⟩ c) :: l) := by
 obtain ⟨⟨bs, c⟩, h, h2⟩ := St.unbun hS
 exact ⟨bs, c, h, St.block (l := l) h2, h2⟩
theorem St.mapDI {bs : List Nat} {c : Nat} (h : bs.length = es.length) (hS : St w0 w (blk b (.map ⟨entsB kf vf es bs⟩ c) :: l)) : St w0 w (mapD b kf vf es :: l) :=
 St.bun (Φ := fun u : List Nat × Nat => u.1.length = es.length) (L := fun u => [blk b (.map ⟨entsB kf vf es u.1⟩ u.2)]) (bs, c) h hS
theorem findB {kt : TypeId} (hk : KeyP P kt kf) (k : κ) {bs : List Nat} (h : bs.length = es.length) : (findKey kt (kf k) (entsB kf vf es bs)).run P w = .ok ((mfind k es).map fun v => (mpos k es, vf v)) w := by
 rw [findKey_kv (kv_entsB (n := 0) h)]; exact run_findKey hk k es 0
theorem at_lookD {kt et : TypeId} (hm : P.underlying t = some (.map kt et)) (hk : KeyP P kt kf) (hz : ∀ w, (zeroValue et).run P w = .ok (vf d) w) (hx : ev E x = .map (some b)) (hy : ev E y = kf k) (hS : St w0 w (mapD b kf vf es :: l)) (hr : r = mget k es d) :
  At P E ⟨dd, .lookup t x y false, ty, pos, af, g⟩ w (vf r) := by
 subst hr
 obtain ⟨bs, c, hl, hb0, _⟩ := hS.mapDE
 have hb : (getObj b).run P w = .ok (.map ⟨entsB kf vf es bs⟩ c) w := by simp [getObj, Sem.run, hb0]
 have hf := findB (P := P) (w := w) (vf := vf) hk k hl
 have hc := hk.chk (entsB kf vf es bs : List MapEntry).isEmpty k w
 simp only [At, execOp, hx, hy, lookup]
 simp [run_underlying hm, hb, pure, Sem.run] at hf hc ⊢
 unfold mget
 cases h : mfind k es with
 | none => rw [h] at hf; simp [hc, hf, hz, Sem.run]
 | some v => rw [h] at hf; simp [hc, hf, Sem.run]
theorem at_lenD {kt et : TypeId} (hm : P.underlying t = some (.map kt et)) (hx : ev E x = .map (some b)) (hS : St w0 w (mapD b kf vf es :: l)) :
  At P E ⟨dd, .call { callee := .builtin .len, args := #[x], argTypes := #[t] }, ty, pos, af, g⟩ w (.int .i64 es.length) := by
 obtain ⟨bs, c, hl, hb0, _⟩ := hS.mapDE
 have hb : (getObj b).run P w = .ok (.map ⟨entsB kf vf es bs⟩ c) w := by simp [getObj, Sem.run, hb0]
 simp [At, execOp, resolve, invoke, builtin, hx, Builtin.len_, run_underlying hm, hb, goInt, entsB_length hl, pure, Sem.run]
theorem blk_set {o o' : Obj} (hS : St w0 w (blk b o :: l)) : St w0 { w with heap := w.heap.set! b o' } (blk b o' :: l) := by
 have hlt := St.lt hS
 refine St.step hS rfl rfl rfl (by simp) fun F hF hbF hn => ⟨F, ⟨hF.1, ?_⟩, hn, fun b hb => .inl hb, fun b' hb' => by simp; exact hbF b' hb', fun b' hlt' hni => ?_⟩
 ·simp [hp, hlt]
 ·obtain ⟨rfl, _⟩ := hF
  have : ¬ b = b' := fun h => hni (by simp [h])
  simp [this]
theorem o_mapsetD {kt et : TypeId} (hm : P.underlying t = some (.map kt et)) (hk : KeyP P kt kf) (hx : ev E x = .map (some b)) (hy : ev E y = kf k) (hz : ev E z = vf v) (hS : St w0 w (mapD b kf vf es :: l)) (he : es' = mput k v es)
  (h : ∀ w', St w0 w' (mapD b kf vf es' :: l) → S P n R (.ops all rest :: st) (E.ins none undef) w') :
  S P n R (.ops all (⟨none, .mapUpdate t x y z, ty, pos, af, none⟩ :: rest) :: st) E w := by
 subst he
 obtain ⟨bs, c, hl, hb0, hS1⟩ := hS.mapDE
 have hb : (getObj b).run P w = .ok (.map ⟨entsB kf vf es bs⟩ c) w := by simp [getObj, Sem.run, hb0]
 have hf := findB (P := P) (w := w) (vf := vf) hk k hl
 have hc := hk.chk false k w
 cases h' : mfind k es with
 | none =>
  refine o_nil rfl rfl (w' := { w with heap := w.heap.set! b (.map ⟨entsB kf vf (mput k v es) (bs ++ [c])⟩ (c + 1)) }) ?_ (h _ (St.mapDI (by rw [mput_none h']; simp [hl]) (blk_set hS1)))
  simp only [execOp, hx, hy, hz, mapUpdate]
  simp [run_underlying hm, hb, pure, Sem.run] at hf hc ⊢
  rw [h'] at hf; rw [entsB_none hl h']; simp [hc, hf, Sem.run, setObj, hb0, Result.andThen]
 | some v0 =>
  refine o_nil rfl rfl (w' := { w with heap := w.heap.set! b (.map ⟨entsB kf vf (mput k v es) bs⟩ c) }) ?_ (h _ (St.mapDI (by rw [mput_some h']; exact hl) (blk_set hS1)))
  simp only [execOp, hx, hy, hz, mapUpdate]
  have hkey := entsB_key (kf := kf) (vf := vf) hl h'
  simp [run_underlying hm, hb, pure, Sem.run] at hf hc ⊢
  rw [h'] at hf
  rw [entsB_some hl h']
  simp [hc, hf, Sem.run, setObj, keyThatStays, hkey, hk.bits, pure, hb0, Result.andThen]
theorem o_mapdel {kt et : TypeId} {ats1 : TypeId} (hm : P.underlying t = some (.map kt et)) (hk : KeyP P kt kf) (hx : ev E x = .map (some b)) (hy : ev E y = kf k) (hS : St w0 w (mapD b kf vf es :: l)) (he : es' = mdel k es)
  (h : ∀ w', St w0 w' (mapD b kf vf es' :: l) → S P n R (.ops all rest :: st) (E.ins dd (.tuple #[])) w') (hd : fits dd n = true := by rfl) :
  S P n R (.ops all (⟨dd, .call { callee := .builtin .delete, args := #[x, y], argTypes := #[t, ats1] }, ty, pos, af, none⟩ :: rest) :: st) E w := by
 subst he
 obtain ⟨bs, c, hl, hb0, hS1⟩ := hS.mapDE
 have hb : (getObj b).run P w = .ok (.map ⟨entsB kf vf es bs⟩ c) w := by simp [getObj, Sem.run, hb0]
 have hf := findB (P := P) (w := w) (vf := vf) hk k hl
 have hc := hk.chk (entsB kf vf es bs : List MapEntry).isEmpty k w
 cases h' : mfind k es with
 | none =>
  refine o_val rfl hd (v := .tuple #[]) (w' := { w with heap := w.heap.set! b (.map ⟨entsB kf vf es bs⟩ c) }) ?_ (h _ (by rw [mdel_none h']; exact St.mapDI hl (blk_set hS1)))
  simp only [execOp, resolve, invoke, builtin, Builtin.delete_]
  simp [hx, hy, run_underlying hm, hb, pure, Sem.run] at hf hc ⊢
  rw [h'] at hf; simp [hc, hf, Sem.run, setObj, hb0, Result.andThen]
 | some v0 =>
  obtain ⟨d1, d2, d3⟩ := entsB_del (kf := kf) (vf := vf) hl h'
  refine o_val rfl hd (v := .tuple #[]) (w' := { w with heap := w.heap.set! b (.map ⟨entsB kf vf (mdel k es) (bs.eraseIdx (mpos k es))⟩ c) }) ?_ (h _ (St.mapDI d2 (blk_set hS1)))
  simp only [execOp, resolve, invoke, builtin, Builtin.delete_]
  simp [hx, hy, run_underlying hm, hb, pure, Sem.run] at hf hc ⊢
  rw [h'] at hf
  rw [d1]
  simp [hc, hf, Sem.run, setObj, hb0, Result.andThen, Array.eraseIdxIfInBounds, entsB_length hl, d3]
end
end Go.Proofs.YtgmjhlpjlggpiaaDoor.X
