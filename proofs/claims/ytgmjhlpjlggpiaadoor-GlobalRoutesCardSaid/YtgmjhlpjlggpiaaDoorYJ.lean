/- Maps of one's own, whose keys are strings or numbers: made, looked up, written. Lemmas over any program. -/
import Derived.Test.YtgmjhlpjlggpiaaDoorYI
namespace Go.Proofs.YtgmjhlpjlggpiaaDoor.X
open Go Go.RowKit Go.Instr
set_option linter.unusedVariables false
set_option linter.unusedSimpArgs false
set_option linter.unusedSectionVars false
/-- What a hypothesis tells, told otherwise. -/
theorem emk {a b : Prop} (x : a) (h : a = b := by kernel_rfl) : b := Eq.mp h x
theorem sinj {α : Type} {a b : α} (h : some a = some b) : a = b := Option.some.inj h
section
variable {κ α : Type} [DecidableEq κ] {kf : κ → Value} {vf : α → Value}
/-- A map's entries, in the order of their births. -/
def ents (kf : κ → Value) (vf : α → Value) : List (κ × α) → Nat → List MapEntry
 | [], _ => []
 | (k, v) :: r, n => ⟨kf k, vf v, n⟩ :: ents kf vf r (n + 1)
def mapA (b : Nat) (kf : κ → Value) (vf : α → Value) (es : List (κ × α)) : Assn := blk b (.map ⟨ents kf vf es 0⟩ es.length)
def mfind (k : κ) : List (κ × α) → Option α
 | [] => none
 | (k', v) :: r => if k = k' then some v else mfind k r
def mpos (k : κ) : List (κ × α) → Nat
 | [] => 0
 | (k', _) :: r => if k = k' then 0 else mpos k r + 1
/-- What a map holds at a key; d where it holds nothing. -/
def mget (k : κ) (es : List (κ × α)) (d : α) : α := (mfind k es).getD d
def mhas (k : κ) (es : List (κ × α)) : Bool := (mfind k es).isSome
def mput (k : κ) (v : α) : List (κ × α) → List (κ × α)
 | [] => [(k, v)]
 | (k', v') :: r => if k = k' then (k, v) :: r else (k', v') :: mput k v r
structure KeyP (P : Program) (kt : TypeId) (kf : κ → Value) : Prop where
 find : ∀ {α : Type} (vf : α → Value) (k : κ) (es : List (κ × α)) (m : Nat) (w : World), (findKey kt (kf k) (ents kf vf es m)).run P w = .ok ((mfind k es).map fun v => (mpos k es, vf v)) w
 chk : ∀ e a w, (checkKey e 10000 kt (kf a)).run P w = .ok () w
 bits : ∀ a, sameBits 10000 (kf a) (kf a) = true
theorem findNow_ents {d : TypeDesc} (hd : ∀ a b, sameNow d (kf a) (kf b) = some (decide (a = b))) (k : κ) : ∀ (es : List (κ × α)) (n i : Nat), findNow d (kf k) (ents kf vf es n) i = some ((mfind k es).map fun v => (i + mpos k es, vf v))
 | [], _, _ => rfl
 | (k', v) :: r, n, i => by
  simp only [ents, findNow, hd, mfind, mpos]
  by_cases h : k = k'
  ·simp [h]
  ·simp only [h, decide_false, if_false]
   rw [findNow_ents hd k r (n + 1) (i + 1)]
   cases mfind k r with
   | none => rfl
   | some v => simp only [Option.map_some]; congr 3; omega
theorem ents_none {k : κ} {v : α} : ∀ {es : List (κ × α)} {n : Nat}, mfind k es = none → ents kf vf (mput k v es) n = ents kf vf es n ++ [⟨kf k, vf v, n + es.length⟩]
 | [], n, _ => by simp [mput, ents]
 | (k', v') :: r, n, h => by
  simp only [mfind] at h
  by_cases e : k = k'
  ·simp [e] at h
  ·simp only [e, if_false] at h
   simp only [mput, e, if_false, ents, List.cons_append, List.length_cons]
   rw [ents_none h, show n + 1 + r.length = n + (r.length + 1) by omega]
theorem mput_none {k : κ} {v : α} : ∀ {es : List (κ × α)}, mfind k es = none → (mput k v es).length = es.length + 1
 | [], _ => rfl
 | (k', v') :: r, h => by
  simp only [mfind] at h
  by_cases e : k = k'
  ·simp [e] at h
  ·simp only [e, if_false] at h
   simp [mput, e, mput_none h]
theorem mput_some {k : κ} {v v0 : α} : ∀ {es : List (κ × α)}, mfind k es = some v0 → (mput k v es).length = es.length
 | [], h => by simp [mfind] at h
 | (k', v') :: r, h => by
  simp only [mfind] at h
  by_cases e : k = k'
  ·simp [mput, e]
  ·simp only [e, if_false] at h
   simp [mput, e, mput_some h]
theorem ents_some {k : κ} {v v0 : α} : ∀ {es : List (κ × α)} {n : Nat}, mfind k es = some v0 → ents kf vf (mput k v es) n = (ents kf vf es n).modify (mpos k es) fun e => { e with key := kf k, val := vf v }
 | [], n, h => by simp [mfind] at h
 | (k', v') :: r, n, h => by
  simp only [mfind] at h
  by_cases e : k = k'
  ·simp [mput, e, ents, mpos]
  ·simp only [e, if_false] at h
   simp only [mput, e, if_false, ents, mpos, List.modify_succ_cons]
   rw [ents_some h]
theorem ents_key {k : κ} {v0 : α} : ∀ {es : List (κ × α)} {n : Nat}, mfind k es = some v0 → ((ents kf vf es n)[mpos k es]?).map (·.key) = some (kf k)
 | [], n, h => by simp [mfind] at h
 | (k', v') :: r, n, h => by
  simp only [mfind] at h
  by_cases e : k = k'
  ·simp [e, ents, mpos]
  ·simp only [e, if_false] at h
   simp only [e, if_false, ents, mpos, List.getElem?_cons_succ]
   exact ents_key h
end
section
variable {P : Program} {n : Nat} {R : Env → World → Prop} {st : List It} {E : Env} {w0 w : World} {l : List Assn} {all : Array Oper} {rest : List Oper} {ty : TypeId} {pos : String} {af : Array Edge} {g : Option (Nat × Bool)} {x y z : Operand}
theorem bytes_eq (a b : ByteArray) : (a == b) = decide (a = b) := by
 have h : (a == b) = true ↔ a = b := by
  show (a.data == b.data) = true ↔ a = b
  rw [beq_iff_eq]
  exact ⟨fun h => ByteArray.ext h, fun h => by rw [h]⟩
 by_cases e : a = b
 ·rw [decide_eq_true e]; exact h.2 e
 ·rw [decide_eq_false e]; exact Bool.eq_false_iff.2 fun h' => e (h.1 h')
theorem KeyP.of_now {κ : Type} [DecidableEq κ] {kf : κ → Value} {kt : TypeId} (now : ∃ d, P.underlying kt = some d ∧ ∀ a b, sameNow d (kf a) (kf b) = some (decide (a = b))) (chk : ∀ e n a w, (checkKey e (n + 1) kt (kf a)).run P w = .ok () w) (bits : ∀ n a, sameBits n (kf a) (kf a) = true) : KeyP P kt kf := by
 refine ⟨fun vf k es m w => ?_, fun e a w => chk e 9999 a w, fun a => bits 10000 a⟩
 obtain ⟨d, hu, hd⟩ := now
 unfold findKey
 have := findNow_ents (vf := vf) hd k es m 0
 simp only [Nat.zero_add] at this
 simp [run_underlying hu, this, pure, Sem.run]
theorem KeyP.string {kt : TypeId} (h : P.underlying kt = some .string) : KeyP P kt Value.string :=
 .of_now ⟨_, h, fun a b => by simp only [sameNow, bytes_eq]⟩ (fun e n a w => by simp [checkKey, run_underlying h, pure, Sem.run]) (fun n a => by cases n <;> simp [sameBits, bytes_eq])
theorem KeyP.int {kt : TypeId} {k : IntKind} (h : P.underlying kt = some (.int k)) : KeyP P kt (Value.int k) :=
 .of_now ⟨_, h, fun a b => by simp only [sameNow, if_true]; rfl⟩ (fun e n a w => by simp [checkKey, run_underlying h, pure, Sem.run]) (fun n a => by cases n <;> simp [sameBits])
theorem zero1 {t : TypeId} {v : Value} (h : ((P.info? t).bind fun i => i.zero) = some v) : ∀ w, (zeroValue t).run P w = .ok v w := by
 cases hi : P.info? t with
 | none => rw [hi] at h; cases h
 | some i =>
  rw [hi] at h
  simp only [Option.bind_some] at h
  intro w
  simp [zeroValue, typeInfo, hi, h, pure, Sem.run]
theorem o_mkmap {t : TypeId} {d : Nat} {κ α : Type} (kf : κ → Value) (vf : α → Value) (hS : St w0 w l) (h : ∀ b w', St w0 w' (mapA b kf vf [] :: l) → S P n R (.ops all rest :: st) (E.set d (.map (some b))) w') (hd : Nat.blt d n = true := by rfl) :
  S P n R (.ops all (⟨some d, .makeMap t none, ty, pos, af, none⟩ :: rest) :: st) E w := by
 refine o_val rfl hd (v := .map (some w.heap.size)) (w' := w.alloc (.map #[] 0)) ?_ (h _ _ (hS.alloc _))
 simp [execOp, makeMap, newObj, pure, Sem.run]
variable {κ α : Type} [DecidableEq κ] {kf : κ → Value} {vf : α → Value}
theorem run_findKey {kt : TypeId} (hk : KeyP P kt kf) (k : κ) (es : List (κ × α)) (m : Nat) : (findKey kt (kf k) (ents kf vf es m)).run P w = .ok ((mfind k es).map fun v => (mpos k es, vf v)) w := hk.find vf k es m w
theorem St.map {b : Nat} {es : List (κ × α)} (hS : St w0 w (mapA b kf vf es :: l)) : (getObj b).run P w = .ok (.map ⟨ents kf vf es 0⟩ es.length) w := by
 have hb : w.heap[b]? = some (.map ⟨ents kf vf es 0⟩ es.length) := St.block hS
 simp [getObj, Sem.run, hb]
theorem at_look {t kt et : TypeId} {dd : Option Nat} {b : Nat} {k : κ} {es : List (κ × α)} {d : α} {r : α} (hm : P.underlying t = some (.map kt et)) (hk : KeyP P kt kf) (hz : ∀ w, (zeroValue et).run P w = .ok (vf d) w) (hx : ev E x = .map (some b)) (hy : ev E y = kf k) (hS : St w0 w (mapA b kf vf es :: l)) (hr : r = mget k es d) :
  At P E ⟨dd, .lookup t x y false, ty, pos, af, g⟩ w (vf r) := by
 subst hr
 have hb := hS.map (P := P)
 have hf := run_findKey (P := P) (w := w) (vf := vf) hk k es 0
 have hc := hk.chk (ents kf vf es 0 : List MapEntry).isEmpty k w
 simp only [At, execOp, hx, hy, lookup]
 simp [run_underlying hm, hb, pure, Sem.run] at hf hc ⊢
 unfold mget
 cases h : mfind k es with
 | none => rw [h] at hf; simp [hc, hf, hz, Sem.run]
 | some v => rw [h] at hf; simp [hc, hf, Sem.run]
theorem at_look2 {t kt et : TypeId} {dd : Option Nat} {b : Nat} {k : κ} {es : List (κ × α)} {d : α} {r : α} {q : Bool} (hm : P.underlying t = some (.map kt et)) (hk : KeyP P kt kf) (hz : ∀ w, (zeroValue et).run P w = .ok (vf d) w) (hx : ev E x = .map (some b)) (hy : ev E y = kf k) (hS : St w0 w (mapA b kf vf es :: l)) (hr : r = mget k es d) (hq : q = mhas k es) :
  At P E ⟨dd, .lookup t x y true, ty, pos, af, g⟩ w (.tuple #[vf r, .bool q]) := by
 subst hr hq
 have hb := hS.map (P := P)
 have hf := run_findKey (P := P) (w := w) (vf := vf) hk k es 0
 have hc := hk.chk (ents kf vf es 0 : List MapEntry).isEmpty k w
 simp only [At, execOp, hx, hy, lookup]
 simp [run_underlying hm, hb, pure, Sem.run] at hf hc ⊢
 unfold mget mhas
 cases h : mfind k es with
 | none => rw [h] at hf; simp [hc, hf, hz, Sem.run]
 | some v => rw [h] at hf; simp [hc, hf, Sem.run]
theorem o_mapset {t kt et : TypeId} {b : Nat} {k : κ} {es es' : List (κ × α)} {v : α} (hm : P.underlying t = some (.map kt et)) (hk : KeyP P kt kf) (hx : ev E x = .map (some b)) (hy : ev E y = kf k) (hz : ev E z = vf v) (hS : St w0 w (mapA b kf vf es :: l)) (he : es' = mput k v es)
  (h : ∀ w', St w0 w' (mapA b kf vf es' :: l) → S P n R (.ops all rest :: st) (E.ins none undef) w') :
  S P n R (.ops all (⟨none, .mapUpdate t x y z, ty, pos, af, none⟩ :: rest) :: st) E w := by
 subst he
 have hb0 : w.heap[b]? = some (.map ⟨ents kf vf es 0⟩ es.length) := St.block hS
 have hb := hS.map (P := P)
 have hf := run_findKey (P := P) (w := w) (vf := vf) hk k es 0
 have hc := hk.chk false k w
 have hset : ∀ o, St w0 { w with heap := w.heap.set! b o } (blk b o :: l) := by
  intro o
  have hlt := St.lt hS
  refine St.step hS rfl rfl rfl (by simp) fun F hF hbF hn => ⟨F, ⟨hF.1, ?_⟩, hn, fun b hb => .inl hb, fun b' hb' => by simp; exact hbF b' hb', fun b' hlt' hni => ?_⟩
  ·simp [hp, hlt]
  ·obtain ⟨rfl, _⟩ := hF
   have : ¬ b = b' := fun h => hni (by simp [h])
   simp [this]
 refine o_nil rfl rfl (w' := { w with heap := w.heap.set! b (.map ⟨ents kf vf (mput k v es) 0⟩ (mput k v es).length) }) ?_ (h _ (hset _))
 simp only [execOp, hx, hy, hz, mapUpdate]
 simp [run_underlying hm, hb, pure, Sem.run] at hf hc ⊢
 cases h' : mfind k es with
 | none => rw [h'] at hf; rw [ents_none h', mput_none h']; simp [hc, hf, Sem.run, setObj, hb0, Result.andThen]
 | some v0 =>
  rw [h'] at hf
  have hkey := ents_key (kf := kf) (vf := vf) (n := 0) h'
  rw [ents_some h', mput_some h']
  simp [hc, hf, Sem.run, setObj, keyThatStays, hkey, hk.bits, pure, hb0, Result.andThen]
end
end Go.Proofs.YtgmjhlpjlggpiaaDoor.X
