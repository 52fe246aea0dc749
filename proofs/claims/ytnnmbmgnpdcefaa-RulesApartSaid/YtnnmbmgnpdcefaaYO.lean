/- Maps once more: their length; ranges over maps of slices that are never written again; literal slices of functions; the end of a slice of one's own made zero. Lemmas over any program. -/
import Derived.Test.YtnnmbmgnpdcefaaYU
namespace Go.Proofs.Ytnnmbmgnpdcefaa.X
open Go Go.RowKit Go.Instr
set_option linter.unusedVariables false
set_option linter.unusedSimpArgs false
set_option linter.unusedSectionVars false
section
variable {w0 w : World} {l : List Assn} {ρ ρ' : Heap}
theorem ro_back7 {a0 a1 a2 a3 a4 a5 a6 : Assn} (hle : Le ρ ρ') (h : St w0 w (a0 :: a1 :: a2 :: a3 :: a4 :: a5 :: a6 :: ro ρ' :: l)) : St w0 w (a0 :: a1 :: a2 :: a3 :: a4 :: a5 :: a6 :: ro ρ :: l) := ro_back_at (a := [a0, a1, a2, a3, a4, a5, a6]) hle h
end
section
variable {P : Program} {n : Nat} {Rr : Env → World → Prop} {st : List It} {E : Env} {w0 w : World} {l : List Assn} {all : Array Oper} {rest : List Oper} {ty t : TypeId} {pos : String} {af : Array Edge} {g : Option (Nat × Bool)} {x y z : Operand} {dd : Option Nat}
theorem yix_lit {e by_ b m c : Nat} {j : Nat} {k : IntKind} (ht : sliceB P t = some (e, 1, by_)) (hx : ev E x = .slice (some ⟨b, 0, none⟩) m c) (hy : ev E y = .int k j) (hj : j < m) : Yl P E ⟨dd, .indexAddr t x y, ty, pos, af, g⟩ (.pointer (some ⟨b, j, none⟩)) :=
 yl_index_b ht hx hy (Int.natCast_nonneg j) (by omega)
/-- An element of an array's value, that is a struct or an array. -/
theorem yl_ixvA {m sz e : Nat} {k : IntKind} {i : Int} {vs cs : List Value} (ht : arrB P t = some (m, sz, e)) (h1 : aggB P e sz = true) (hx : ev E x = .agg ⟨vs⟩) (hy : ev E y = .int k i) (h : inb i m) (hv : (vs.drop (i.toNat * sz)).take sz = cs) : Yl P E ⟨dd, .index t x y, ty, pos, af, g⟩ (.agg ⟨cs⟩) := fun w => by
 obtain ⟨hu, ⟨inf, hi, rfl⟩, hm⟩ := arrB_spec ht
 obtain ⟨h0, h1'⟩ := h
 obtain ⟨a1, a2⟩ := isAgg_agg h1 w
 have hex : (⟨vs⟩ : Array Value).extract (i.toNat * inf.size) (i.toNat * inf.size + inf.size) = ⟨cs⟩ := by
  rw [← hv]; apply Array.ext'; simp [List.take_drop]
 simp [At, execOp, Instr.index, hx, hy, asIntOf, run_underlying hu, h0, h1', sizeOf, typeInfo, hi, part, a1, hv, pure, Sem.run]
variable {κ α : Type} [DecidableEq κ] {kf : κ → Value} {vf : α → Value}
theorem at_lenm {kt et : TypeId} {b : Nat} {es : List (κ × α)} (hm : P.underlying t = some (.map kt et)) (hx : ev E x = .map (some b)) (hS : St w0 w (mapA b kf vf es :: l)) :
  At P E ⟨dd, .call { callee := .builtin .len, args := #[x], argTypes := #[t] }, ty, pos, af, g⟩ w (.int .i64 es.length) := by
 have hb := hS.map (P := P)
 simp [At, execOp, resolve, invoke, builtin, hx, Builtin.len_, run_underlying hm, hb, goInt, ents_length, pure, Sem.run]
/-- A literal array. -/
theorem yl_buildA {m sz e : Nat} {parts : Array (Nat × Operand)} {zs cs : List Value} (ht : arrB P t = some (m, sz, e)) (hz : zeroB P t = some zs) {ps : List (Nat × Value)} (hp : (parts.toList.map fun p => (p.1, ev E p.2)) = ps)
  (hf : Instr.fill (fun i => some (i * sz, sz)) ⟨zs⟩ ps = some ⟨cs⟩) : Yl P E ⟨dd, .build t parts, ty, pos, af, g⟩ (.agg ⟨cs⟩) := fun w => by
 obtain ⟨hu, ⟨inf, hi, rfl⟩, hm⟩ := arrB_spec ht
 obtain ⟨z, hz1, hz2⟩ := zeroB_spec hz
 have hp' : (parts.map fun (x : Nat × Operand) => match x with | (i, x) => (i, ev E x)).toList = ps := by rw [← hp]; simp
 simp only [At, execOp, Instr.build, Sem.run_bind, hz1, Result.andThen_ok, run_underlying hu, Sem.run_pure]
 have hs : (sizeOf e).run P w = .ok inf.size w := by simp [sizeOf, typeInfo, hi, pure, Sem.run]
 rw [hs, Result.andThen_ok, hp', hz2, hf]
 rfl
/-- A struct of whole numbers, told by a list one to one: what == needs. -/
structure EqI {σ : Type} (P : Program) (t : TypeId) (fl : σ → List Int) (m : Nat) : Prop where
 B : intsB P 9 t = some (true, m)
 g : P.eqGuardType P.depth t = false
 l : ∀ a, (fl a).length = m
 i : ∀ a b, fl a = fl b → a = b
theorem EqI.eq {σ : Type} [DecidableEq σ] {fl : σ → List Int} {m : Nat} (h : EqI P t fl m) (a b : σ) (w : World) : (Op.equal t (.agg ⟨(fl a).map (Value.int .i64)⟩) (.agg ⟨(fl b).map (Value.int .i64)⟩)).run P w = .ok (decide (a = b)) w := by
 have := equal_ints h.B 9991 (fl a) (fl b) w (h.l a) (h.l b)
 simp only [iv, if_true] at this
 rw [Op.equal, Op.maxDepth, this]
 congr 1
 exact decide_eq_decide.2 ⟨h.i a b, fun h => by rw [h]⟩
theorem yneI {σ : Type} [DecidableEq σ] {fl : σ → List Int} {m : Nat} {t2 : TypeId} {a b : σ} {q : Bool} (h : EqI P t fl m) (hx : ev E x = .agg ⟨(fl a).map (Value.int .i64)⟩) (hy : ev E y = .agg ⟨(fl b).map (Value.int .i64)⟩) (hz : q = !decide (a = b)) : Yl P E ⟨dd, .binOp .neq t x y t2, ty, pos, af, g⟩ (.bool q) := fun w => by
 subst hz
 have h1 := run_eqGuard_agg (P := P) w .neq t x y ⟨(fl a).map (Value.int .i64)⟩ ⟨(fl b).map (Value.int .i64)⟩ h.g
 have h2 := run_neq_struct (P := P) w t ⟨(fl a).map (Value.int .i64)⟩ ⟨(fl b).map (Value.int .i64)⟩
 have h3 := h.eq a b w
 rw [Op.equal, Op.maxDepth] at h3
 rw [h3] at h2
 simp [At, execOp, hx, hy, Sem.run_bind, h1, h2, pure, Sem.run]
variable [Inhabited κ] [Inhabited α] {R : Rp α} {ρ : Heap}
theorem zip_gt {β γ : Type} [Inhabited β] [Inhabited γ] {es : List (κ × β)} {hs : List γ} (hl : hs.length = es.length) {i : Nat} (hi : i < es.length) : gt (zipK es hs) i = ((gt es i).1, gt hs i) := by
 have key : ∀ (es : List (κ × β)) (hs : List γ) (i : Nat), hs.length = es.length → (zipK es hs)[i]? = (es[i]?).bind fun e => (hs[i]?).map fun h => (e.1, h) := by
  intro es
  induction es with
  | nil => intro hs i hl; cases hs <;> simp [zipK]
  | cons e es ih =>
   intro hs i hl
   cases hs with
   | nil => simp at hl
   | cons h hs =>
    cases i with
    | zero => simp [zipK]
    | succ i => simpa [zipK] using ih hs i (by simpa using hl)
 have := key es hs i hl
 rw [List.getElem?_eq_getElem (by rw [zipK_len hl]; exact hi), List.getElem?_eq_getElem hi, List.getElem?_eq_getElem (by omega)] at this
 rw [gt_nth (by rw [zipK_len hl]; exact hi), gt_nth hi, gt_nth (by omega)]
 exact Option.some.inj this
theorem RdM.at {es : List (κ × List α)} {hs : List Hd} (h : RdM R ρ es hs) {i : Nat} (hi : i < es.length) : ∃ A n c, gt hs i = ⟨A, n, c⟩ ∧ RdS R ρ A n c (gt es i).2 := by
 obtain ⟨A, n, c, e, hr⟩ := repSl_at (i := i) (xs := (gt es i).2) h.2 (by rw [gt_nth hi]; simp [hi])
 have hl := h.1
 rw [List.getElem?_eq_getElem (by omega), Option.some.injEq] at e
 exact ⟨A, n, c, by rw [gt_nth (by omega), e], hr⟩
variable {b : Nat} {es : List (κ × List α)} {hs : List Hd}
theorem o_rangeF {kt et : TypeId} {d : Nat} (hm : P.underlying t = some (.map kt et)) (hx : ev E x = .map (some b)) (hf : RdM R ρ es hs) (hS : St w0 w (mapA b kf Hd.v (zipK es hs) :: l))
  (h : ∀ r w', St w0 w' (itA r b es.length [] :: mapA b kf Hd.v (zipK es hs) :: l) → S P n Rr (.ops all rest :: st) (E.set d (.pointer (some ⟨r, 0, none⟩))) w') (hd : Nat.blt d n = true := by rfl) :
  S P n Rr (.ops all (⟨some d, .range t x, ty, pos, af, none⟩ :: rest) :: st) E w :=
 o_range hm hx hS (fun r w' h' => h r w' (by rw [zipK_len hf.1] at h'; exact h')) hd
theorem o_nextF {d : Nat} {r : Nat} {seen : List Nat} (hx : ev E x = .pointer (some ⟨r, 0, none⟩)) (hf : RdM R ρ es hs) (hS : St w0 w (itA r b es.length seen :: mapA b kf Hd.v (zipK es hs) :: l))
  (h0 : (∀ i, i < es.length → i ∈ seen) → ∀ w', St w0 w' (itA r b es.length seen :: mapA b kf Hd.v (zipK es hs) :: l) → S P n Rr (.ops all rest :: st) (E.set d (.tuple #[.bool false])) w')
  (h1 : ∀ i : Nat, i < es.length → i ∉ seen → ∀ w', St w0 w' (itA r b es.length (seen ++ [i]) :: mapA b kf Hd.v (zipK es hs) :: l) → S P n Rr (.ops all rest :: st) (E.set d (.tuple #[.bool true, kf (gt es i).1, Hd.v (gt hs i)])) w') (hd : Nat.blt d n = true := by rfl) :
  S P n Rr (.ops all (⟨some d, .next x false, ty, pos, af, none⟩ :: rest) :: st) E w := by
 have hl := zipK_len hf.1
 rw [← hl] at hS
 refine o_next hx hS (fun hh w' h' => h0 (by rw [hl] at hh; exact hh) w' (by rw [hl] at h'; exact h')) (fun i hi hn w' h' => ?_) hd
 rw [hl] at hi h'
 have := h1 i hi hn w' h'
 rw [zip_gt hf.1 hi]
 exact this
theorem at_entryF {r : Nat} {seen : List Nat} {i : Nat} {e : κ × List α} {A : Option Addr} {m c : Nat} (hx : ev E x = .pointer (some ⟨r, 0, none⟩)) (hi : i < es.length) (hf : RdM R ρ es hs) (hh : gt hs i = ⟨A, m, c⟩) (hS : St w0 w (itA r b es.length (seen ++ [i]) :: mapA b kf Hd.v (zipK es hs) :: l)) (he : e = gt es i) :
  At P E ⟨dd, .entry x, ty, pos, af, g⟩ w (.tuple #[kf e.1, .slice A m c]) := by
 subst he
 have hl := zipK_len hf.1
 rw [← hl] at hS
 have := at_entry (P := P) (E := E) (dd := dd) (ty := ty) (pos := pos) (af := af) (g := g) (vf := Hd.v) hx (by rw [hl]; exact hi) hS rfl
 rw [zip_gt hf.1 hi, hh] at this
 exact this
end
section
variable {P : Program} {n : Nat} {Rr : Env → World → Prop} {st : List It} {E : Env} {w0 w : World} {l : List Assn} {all : Array Oper} {rest : List Oper} {ty t e : TypeId} {pos : String} {af : Array Edge} {x y a : Operand}
variable {α : Type} [Inhabited α] {Q : Rp α} {ρ : Heap} {A : Option Addr} {len cap by_ : Nat} {xs zs : List α} {cs : List Value} {lo : Int}
theorem zeroCells_eq {zc : List Value} (hp : 0 < zc.length) (m : Nat) : Builtin.zeroCells ⟨zc⟩ m = ⟨(List.replicate m zc).flatten⟩ := by
 apply Array.ext'
 apply List.ext_getElem
 ·simp [Builtin.zeroCells]
 ·intro j h1 h2
  simp only [Builtin.zeroCells, Array.getElem_toList, Array.getElem_map, Array.getElem_range]
  have hmod : j % zc.length < zc.length := Nat.mod_lt _ hp
  have key : ∀ (m j : Nat) (hj : j < (List.replicate m zc).flatten.length), (List.replicate m zc).flatten[j] = zc[j % zc.length]'(Nat.mod_lt _ hp) := by
   intro m
   induction m with
   | zero => intro j hj; simp at hj
   | succ m ih =>
    intro j hj
    simp only [List.replicate_succ, List.flatten_cons]
    by_cases hlt : j < zc.length
    ·rw [List.getElem_append_left hlt]
     congr 1
     exact (Nat.mod_eq_of_lt hlt).symm
    ·rw [List.getElem_append_right (by omega), ih (j - zc.length) (by simp only [List.replicate_succ, List.flatten_cons, List.length_append] at hj; omega)]
     congr 1
     exact (Nat.mod_eq_sub_mod (by omega)).symm
  rw [key m j h2]
  simp [hmod]
theorem over_end : ∀ (news vs : List Value) (o : Nat), o + news.length = vs.length → over vs o news = vs.take o ++ news
 | [], vs, o, h => by simp only [over, List.append_nil]; rw [List.take_of_length_le]; simp at h; omega
 | v :: r, vs, o, h => by
  simp only [List.length_cons] at h
  simp only [over]
  rw [over_end r (vs.set o v) (o + 1) (by simp; omega)]
  have : (vs.set o v).take (o + 1) = vs.take o ++ [v] := by
   rw [List.take_succ_eq_append_getElem (by simp; omega), List.take_set_of_le (Nat.le_refl _)]
   simp
  rw [this]; simp
/-- The end of a slice, to be made zero. -/
theorem yslc {dd : Option Nat} {g : Option (Nat × Bool)} {kl : IntKind} (ht : sliceB P t = some (e, Q.sz, by_)) (hx : ev E x = .slice A len cap) (ha : ev E a = .int kl lo) (hS : St w0 w (vec e Q.sz (.slice A len cap) len cs :: l)) (h : RepL Q ρ xs cs) (hb : 0 ≤ lo ∧ lo ≤ xs.length) :
  Yl P E ⟨dd, .slice t x (some a) none none, ty, pos, af, g⟩ (.slice (if cap - lo.toNat = 0 then A else A.map (·.add (lo.toNat * Q.sz))) (len - lo.toNat) (cap - lo.toNat)) := by
 have hn := hS.vec_n h
 have hc := hS.vec_cap
 exact ysub_gen (hi := (len : Int)) (some a) none ht hx ⟨_, ha⟩ (by simp) ⟨hb.1, by omega⟩ ⟨rfl, by omega, rfl, by omega⟩
theorem o_clear {z : α} {zc : List Value} (hu : P.underlying t = some (.slice e)) (hz : zeroB P e = some zc) (hx : ev E x = .slice (if cap - lo.toNat = 0 then A else A.map (·.add (lo.toNat * Q.sz))) (len - lo.toNat) (cap - lo.toNat))
  (hQ : Q.ok ρ zc z) (hS : St w0 w (vec e Q.sz (.slice A len cap) len cs :: l)) (hR : RepL Q ρ xs cs) (hb : 0 ≤ lo ∧ lo ≤ xs.length) (hzz : zs = xs.take lo.toNat ++ List.replicate (xs.length - lo.toNat) z)
  (h : ∀ cs' w', RepL Q ρ zs cs' → St w0 w' (vec e Q.sz (.slice A len cap) len cs' :: l) → S P n Rr (.ops all rest :: st) (E.ins none undef) w') :
  S P n Rr (.ops all (⟨none, .call { callee := .builtin .clear, args := #[x], argTypes := #[t] }, ty, pos, af, none⟩ :: rest) :: st) E w := by
 have hn := hS.vec_n hR
 have hlc := hS.vec_cap
 obtain ⟨zv, hz1, hz2⟩ := zeroB_spec hz
 by_cases h0 : len - lo.toNat = 0
 ·have hzx : zs = xs := by rw [hzz, List.take_of_length_le (by omega), show xs.length - lo.toNat = 0 by omega]; simp
  rw [h0] at hx
  refine o_val rfl rfl (v := .tuple #[]) (w' := w) ?_ (h cs w (hzx ▸ hR) hS)
  revert hx
  generalize (if cap - lo.toNat = 0 then A else A.map (·.add (lo.toNat * Q.sz))) = A'
  intro hx
  cases A' <;> simp [execOp, resolve, invoke, builtin, hx, Builtin.clear_, run_underlying hu, pure, Sem.run]
 ·rcases hS.vec_base with ⟨_, _, hz', _⟩ | ⟨g, hg⟩
  ·exact absurd hz' (by omega)
  subst hg
  obtain ⟨cur, hc1, hc2, hc3, hc4, hS2⟩ := hS.vec_open
  rw [if_neg (by omega)] at hx
  have hadd : (⟨g, 0, none⟩ : Addr).add (lo.toNat * Q.sz) = ⟨g, lo.toNat * Q.sz, none⟩ := add0 _ _
  simp only [Option.map_some, hadd] at hx
  have hzl : zc.length = Q.sz := Q.len hQ
  have hzp : 0 < zc.length := by rw [hzl]; exact Q.pos
  have hfl : ((List.replicate (len - lo.toNat) zc).flatten).length = (len - lo.toNat) * Q.sz := by simp [hzl]
  have hb3 : len * Q.sz ≤ cur.length := by rw [hc3]; exact Nat.mul_le_mul_right _ hc1
  have hmul : lo.toNat * Q.sz + (len - lo.toNat) * Q.sz = len * Q.sz := by rw [← Nat.add_mul]; congr 1; omega
  have hrz := RepL.rep (R := Q) (ρ := ρ) hQ (len - lo.toNat)
  have hst := run_storeCells_cells (P := P) g (lo.toNat * Q.sz) (List.replicate (len - lo.toNat) zc).flatten 0 w (fun j hj => by
   have := hS2.cell (i := lo.toNat * Q.sz + 0 + j) (v := cur[lo.toNat * Q.sz + 0 + j]'(by rw [hfl] at hj; omega)) (by simp)
   rw [this]; rfl) (fun j hj => hS2.unfrozen _) hrz.one
  simp only [Nat.add_zero] at hst
  have hS3 := (St.sets (news := (List.replicate (len - lo.toNat) zc).flatten) (o := lo.toNat * Q.sz) hS2).vec_close (n := len) (c := cap) (sz := Q.sz) hc1 hc2 (by rw [over_length, hc3])
  rw [over_take, hc4] at hS3
  refine o_val rfl rfl (v := .tuple #[]) (w' := w.setCells g (lo.toNat * Q.sz) (List.replicate (len - lo.toNat) zc).flatten) ?_ (h _ _ ?_ hS3)
  ·obtain ⟨m, hm⟩ : ∃ m, len - lo.toNat = m + 1 := ⟨len - lo.toNat - 1, by omega⟩
   have hcz := zeroCells_eq (zc := zc) hzp (m + 1)
   rw [hm] at hx hst
   simp only [execOp, resolve, invoke, builtin]
   simp [hx, Builtin.clear_, run_underlying hu, hz1, hz2, hcz, hm, hst, pure, Sem.run]
  ·have p1 := RepL.part 0 lo.toNat hR
   simp only [Nat.zero_mul, List.drop_zero] at p1
   have := p1.app hrz
   rw [hzz, show xs.length - lo.toNat = len - lo.toNat by omega]
   have hcs : over cs (lo.toNat * Q.sz) (List.replicate (len - lo.toNat) zc).flatten = cs.take (lo.toNat * Q.sz) ++ (List.replicate (len - lo.toNat) zc).flatten := by
    have hl1 := hR.len
    exact over_end _ _ _ (by rw [hfl, hl1, hmul, hn])
   rw [hcs]; exact this
end
end Go.Proofs.Ytnnmbmgnpdcefaa.X
