/- The executor: slices made, written out, grown, copied. Lemmas over any program. -/
import Derived.Test.YtnooiajahmichaaXC
namespace Go.Proofs.Ytnooiajahmichaa.X
open Go Go.RowKit
set_option linter.unusedVariables false
set_option linter.unusedSimpArgs false

section
variable {P : Program} {n : Nat} {R : Env → World → Prop} {st : List It} {E : Env} {w : World} {all : Array Oper} {rest : List Oper} {o : Oper}
variable {d : Option Nat} {ty : TypeId} {pos : String} {af : Array Edge} {g : Option (Nat × Bool)} {w0 : World} {l : List Assn}

/-! ### A slice written out -/
theorem foldl_set (f : Array Value → Value × Nat → Array Value) (off : Nat) (hf : ∀ cs p, f cs p = cs.setIfInBounds (off + p.2) p.1) : ∀ (vs : List Value) (k : Nat) (pre zs : List Value), pre.length = off + k → vs.length ≤ zs.length →
    (vs.zipIdx k).foldl f ⟨pre ++ zs⟩ = ⟨pre ++ vs ++ zs.drop vs.length⟩
  | [], k, pre, zs, _, _ => by simp
  | v :: vs, k, pre, zs, hp, hz => by
    cases zs with
    | nil => simp at hz
    | cons z zs =>
      have ih := foldl_set f off hf vs (k + 1) (pre ++ [v]) zs (by simp [hp]; omega) (by simpa using hz)
      simp only [List.zipIdx_cons, List.foldl_cons, hf]
      have e : (Array.setIfInBounds ⟨pre ++ z :: zs⟩ (off + k) v) = ⟨(pre ++ [v]) ++ zs⟩ := by
        rw [← hp]
        simp
      rw [e, ih]
      simp
theorem fill_seq (size : Nat) : ∀ (vs : List Value) (i : Nat) (pre zs : List Value), (∀ v ∈ vs, v.cells.size = size) → pre.length = i * size → zs.length = vs.length * size →
    Instr.fill (fun i => some (i * size, size)) ⟨pre ++ zs⟩ ((vs.zipIdx i).map fun p => (p.2, p.1)) = some ⟨pre ++ vs.flatMap (·.cells.toList)⟩
  | [], i, pre, zs, _, _, hz => by
    have : zs = [] := List.eq_nil_of_length_eq_zero (by simpa using hz)
    subst this
    simp [Instr.fill]
  | v :: vs, i, pre, zs, hv, hp, hz => by
    have hvs := hv v (by simp)
    have hl : size ≤ zs.length := by rw [hz]; simp [Nat.add_mul]
    simp only [List.zipIdx_cons, List.map_cons, Instr.fill]
    rw [if_neg (by simp [hvs, hp]; omega)]
    have hfold := foldl_set (fun cs x => cs.setIfInBounds (i * size + x.2) x.1) (i * size) (fun _ _ => rfl) v.cells.toList 0 pre zs (by simp [hp]) (by simpa [hvs] using hl)
    have e1 : Array.foldl (fun (cs : Array Value) (x : Value × Nat) => cs.setIfInBounds (i * size + x.2) x.1) (⟨pre ++ zs⟩ : Array Value) v.cells.zipIdx = (⟨pre ++ v.cells.toList ++ zs.drop v.cells.toList.length⟩ : Array Value) := by
      rw [← Array.foldl_toList, Array.toList_zipIdx]; exact hfold
    rw [e1]
    have ih := fill_seq size vs (i + 1) (pre ++ v.cells.toList) (zs.drop v.cells.toList.length) (fun u hu => hv u (by simp [hu])) (by simp [hp, hvs, Nat.add_mul]) (by simp [hz, hvs, Nat.add_mul])
    rw [ih]
    simp
theorem o_buildSlice {t e sz by_ : Nat} {m : Nat} {parts : Array (Nat × Operand)} {vs : List Value} {cs z : List Value} (ht : sliceB P t = some (e, sz, by_)) (hz : zeroB P e = some z)
    (hp : (parts.toList.map fun p => (p.1, ev E p.2)) = (vs.zipIdx.map fun p => (p.2, p.1))) (hm : vs.length = m) (hsz : ∀ v ∈ vs, v.cells.size = sz) (hsm : m * sz ≤ 16777216) (hcs : vs.flatMap (·.cells.toList) = cs) (hS : St w0 w l)
    (h : ∀ b w', St w0 w' (cells b e cs :: l) → S P n R (.ops all rest :: st) (E.ins d (.slice (some ⟨b, 0, none⟩) m m)) w') (hd : fits d n = true := by rfl) :
    S P n R (.ops all (⟨d, .buildSlice t m parts, ty, pos, af, none⟩ :: rest) :: st) E w := by
  refine o_val rfl hd (v := .slice (some ⟨w.heap.size, 0, none⟩) m m) (w' := w.alloc (.cells ⟨cs⟩ e)) ?_ (h _ _ (hS.alloc _))
  obtain ⟨hu, inf, hi, rfl, _⟩ := sliceB_spec ht
  obtain ⟨zv, hz1, hz2⟩ := zeroB_spec hz
  have hfill : ∀ zs : Array Value, zs.size = m * inf.size → Instr.fill (fun i => some (i * inf.size, inf.size)) zs (parts.map fun p => (p.1, ev E p.2)).toList = some ⟨cs⟩ := by
    intro zs hzs
    have := fill_seq inf.size vs 0 [] zs.toList hsz (by simp) (by rw [hm]; simpa using hzs)
    rw [show (parts.map fun p => (p.1, ev E p.2)).toList = parts.toList.map fun p => (p.1, ev E p.2) by simp, hp]
    simpa [hcs] using this
  have hn : ¬ (16777216 < m * inf.size) := by omega
  have hparts : (parts.map fun (x : Nat × Operand) => match x with | (i, x) => (i, ev E x)) = parts.map fun p => (p.1, ev E p.2) := rfl
  simp only [execOp]
  rw [hparts]
  by_cases h0 : m * inf.size = 0
  · have hf := hfill ((Array.range (m * inf.size)).map ((#[] : Array Value)[· % 0]!)) (by simp)
    simp only [Instr.buildSlice, Sem.run_bind, run_underlying hu, Result.andThen_ok, sizeOf, typeInfo, Sem.run_pure]
    simp [hi, hn, h0] at hf ⊢
    simp [hf, run_newRow]
  · have hf := hfill ((Array.range (m * inf.size)).map (zv.cells[· % zv.cells.size]!)) (by simp)
    simp only [Instr.buildSlice, Sem.run_bind, run_underlying hu, Result.andThen_ok, sizeOf, typeInfo, Sem.run_pure]
    simp [hi, hn, h0, hz1] at hf ⊢
    simp [hf, run_newRow]

/-! ### make -/
theorem madeCells_one (z : Value) (c : Nat) : madeCells #[z] c = ⟨List.replicate c z⟩ := by
  apply Array.ext'
  apply List.ext_getElem
  · simp [madeCells]
  · intro i h1 h2
    simp [madeCells, Nat.mod_one]
theorem o_make1 {t e by_ : Nat} {x y : Operand} {z : Value} {k k' : IntKind} {c : Int} (ht : sliceB P t = some (e, 1, by_)) (hz : zeroB P e = some [z]) (hx : ev E x = .int k c) (hy : ev E y = .int k' c) (h0 : 0 ≤ c) (hb : (by_ : Int) * c ≤ 281474976710656) (hb1 : 1 ≤ by_) (hS : St w0 w l)
    (h : ∀ b w', St w0 w' (cells b e (List.replicate c.toNat z) :: l) → S P n R (.ops all rest :: st) (E.ins d (.slice (some ⟨b, 0, none⟩) c.toNat c.toNat)) w') (hd : fits d n = true := by rfl) :
    S P n R (.ops all (⟨d, .makeSlice t x y, ty, pos, af, none⟩ :: rest) :: st) E w := by
  obtain ⟨hu, inf, hi, hi1, hi2⟩ := sliceB_spec ht
  refine o_val rfl hd (v := .slice (some ⟨w.heap.size, 0, none⟩) c.toNat c.toNat) (w' := w.alloc (.cells ⟨List.replicate c.toNat z⟩ e)) ?_ (h _ _ (hS.alloc _))
  have hzz : ∃ zv, inf.zero = some zv ∧ zv.cells = #[z] := by
    unfold zeroB at hz
    rw [hi] at hz
    simp only [Option.bind_some] at hz
    cases hq : inf.zero with
    | none => rw [hq] at hz; simp at hz
    | some zv => rw [hq] at hz; simp at hz; exact ⟨zv, rfl, Array.ext' (by simpa using hz)⟩
  obtain ⟨zv, hz1, hz2⟩ := hzz
  have hcm : c ≤ by_ * c := by
    have : 1 * c ≤ (by_ : Int) * c := Int.mul_le_mul_of_nonneg_right (by omega) h0
    omega
  have hr := run_make (P := P) w t e inf zv hu hi hz1 k k' c c h0 (Int.le_refl _) (by rw [hi2]; exact hb) (by omega)
  rw [hi1, hz2, Nat.mul_one, madeCells_one] at hr
  simp [execOp, hx, hy, hr]

/-! ### append -/
/-- What an append leaves: the old block or a new one. -/
theorem run_append_vec (t tt e : TypeId) (i : TypeInfo) (z : Value) (size by_ : Nat) (ht : P.underlying t = some (.slice e)) (hi : P.info? e = some i) (hz : i.zero = some z)
    (hsize : i.size = size) (hby : i.bytes = by_) (hzs : z.cells.size = size) (hsz : 0 < size) {v : Value} {m : Nat} {xs : List Value} (hS : St w0 w (vec e size v m xs :: l))
    (a : Addr) (k c : Nat) (news : List Value) (hl : news.length = k * size) (hnews : ∀ j u, news[j]? = some u → w.cell? (a.add j) = some u) (h1 : ∀ u ∈ news, u.oneCell' = true)
    (h63 : m + k ≤ maxLen) (hbytes : (m + k) * by_ ≤ 140737488355328) :
    ∃ v' w', (Builtin.append_ #[t, t] tt #[v, .slice (some a) k c]).run P w = .ok v' w' ∧ St w0 w' (vec e size v' (m + k) (xs ++ news) :: l) := by
  subst hsize
  subst hby
  have hsmall : m + k ≤ 9223372036854775807 := by simp only [maxLen] at h63; omega
  obtain ⟨F, ⟨hx, hF⟩, hlt⟩ := hS.head
  have hlen : (xs ++ news).length = (m + k) * i.size := by rw [List.length_append, hx, hl, Nat.add_mul]
  have grown : ∀ (old : Nat), St w0 (w.drew.alloc (.cells (xs.toArray ++ news.toArray ++ Builtin.zeroCells z.cells (grownCap w (m + k) old e - (m + k))) e))
        (vec e i.size (.slice (some ⟨w.heap.size, 0, none⟩) (m + k) (grownCap w (m + k) old e)) (m + k) (xs ++ news) :: l) := by
    intro old
    have hge := grownCap_ge w (m + k) old e
    have hcm : grownCap w (m + k) old e ≤ maxLen := grownCap_le_maxLen w (m + k) old e h63
    refine (hS.drop.drew.alloc _).tell fun F hF => ⟨hlen, .inr ⟨_, _, _, rfl, hF.1, hF.2, hge, hcm, ?_, ?_⟩⟩
    · simp only [Array.size_append, List.size_toArray, size_zeroCells, hzs, hx, hl, ← Nat.add_mul]
      congr 1
      omega
    · simp only [Array.toList_append, List.append_assoc]
      rw [← List.append_assoc, ← hlen]
      exact List.take_left
  rcases hF with ⟨rfl, rfl, _⟩ | ⟨g, cap, cur, rfl, rfl, hg, hnc, hcm, hcs, htake⟩
  · have hx0 : xs = [] := List.eq_nil_of_length_eq_zero (by simpa using hx)
    subst hx0
    by_cases hk : k = 0
    · subst hk
      have hn : news = [] := List.eq_nil_of_length_eq_zero (by simpa using hl)
      subst hn
      refine ⟨.slice none 0 0, w, ?_, by simpa using hS⟩
      simp [Builtin.append_, run_underlying ht, sizeOf, typeInfo, hi, Builtin.lenOf, Builtin.firstCells, loadCells, loadCellsFrom]
    · have hr := run_append_nil (P := P) w t tt e i z ht hi hz a k c news hl hnews (by omega) (by omega) (by have hb := hbytes; simp only [Nat.zero_add] at hb; omega)
      have hgr := grown 0
      simp only [Nat.zero_add, List.nil_append, Array.empty_append] at hgr ⊢
      exact ⟨_, _, hr, hgr⟩
  · have hg' : w.heap[g]? = some (.cells cur e (0, 0)) := hg
    by_cases hroom : m + k ≤ cap
    · have hfit : m * i.size + news.length ≤ cur.size := by rw [hl, hcs, ← Nat.add_mul]; exact Nat.mul_le_mul_right _ hroom
      have hr := run_append_room (P := P) w t tt e i ht hi g m cap cur hg' a k c news hl hnews h1 hroom hfit
      refine ⟨_, _, hr, hS.step rfl rfl rfl (by simp [World.setRow]) fun F' hF' hlt' hn' => ?_⟩
      have hF'' : F' = [g] := by
        rcases hF'.2 with ⟨hv, _⟩ | ⟨g', cap', cur', hv, rfl, _⟩
        · cases hv
        · injection hv with hA _ _
          injection hA with hA
          injection hA with hA _ _
          rw [hA]
      subst hF''
      refine ⟨[g], ⟨hlen, .inr ⟨g, cap, _, rfl, rfl, setRow_heap w g cur _ e _ hg', hroom, hcm, ?_, ?_⟩⟩, by simp, by simp, ?_, fun b hb hne => setRow_other w g b _ (by simpa using hne)⟩
      · simp only [List.size_toArray, List.length_append, List.length_take, List.length_drop, Array.length_toList]
        omega
      · rw [htake, ← hlen]
        exact List.take_left
      · intro b hb
        have := hlt' b hb
        simpa [World.setRow] using this
    · have holds : ∀ j u, xs[j]? = some u → w.cell? ((⟨g, 0, none⟩ : Addr).add j) = some u := by
        intro j u hj
        obtain ⟨a', ha', hc⟩ := hS.vec_cell hj
        injection ha' with ha'
        subst ha'
        exact hc
      have hr := run_append_grow (P := P) w t tt e i z ht hi hz ⟨g, 0, none⟩ m cap xs hx holds a k c news hl hnews (by omega) (by omega) (growslice_fits (by omega) hbytes)
      exact ⟨_, _, hr, grown cap⟩

theorem zero_of {e : TypeId} {inf : TypeInfo} {z : List Value} (hi : P.info? e = some inf) (hz : zeroB P e = some z) : ∃ zv, inf.zero = some zv ∧ zv.cells.size = z.length := by
  unfold zeroB at hz
  rw [hi] at hz
  simp only [Option.bind_some] at hz
  cases hq : inf.zero with
  | none => rw [hq] at hz; simp at hz
  | some zv => rw [hq] at hz; simp at hz; exact ⟨zv, rfl, by rw [← hz]; simp⟩

/-- append(s, ..) of cells that lie somewhere. -/
theorem o_append {t e sz by_ : Nat} {x y : Operand} {z : List Value} {v : Value} {m : Nat} {xs : List Value} {a : Addr} {k c : Nat} {news : List Value} (ht : sliceB P t = some (e, sz, by_)) (hz : zeroB P e = some z) (hzl : z.length = sz) (hsz : 0 < sz)
    (hx : ev E x = v) (hy : ev E y = .slice (some a) k c) (hS : St w0 w (vec e sz v m xs :: l)) (hl : news.length = k * sz) (hnews : ∀ j u, news[j]? = some u → w.cell? (a.add j) = some u) (h1 : ∀ u ∈ news, u.oneCell' = true)
    (h63 : m + k ≤ maxLen) (hbytes : (m + k) * by_ ≤ 140737488355328)
    (h : ∀ v' w', St w0 w' (vec e sz v' (m + k) (xs ++ news) :: l) → S P n R (.ops all rest :: st) (E.ins d v') w') (hd : fits d n = true := by rfl) :
    S P n R (.ops all (⟨d, .call { callee := .builtin .append, args := #[x, y], argTypes := #[t, t] }, ty, pos, af, none⟩ :: rest) :: st) E w := by
  obtain ⟨hu, inf, hi, hi1, hi2⟩ := sliceB_spec ht
  obtain ⟨zv, hz1, hz2⟩ := zero_of hi hz
  obtain ⟨v', w', hr, hS'⟩ := run_append_vec (P := P) t ty e inf zv sz by_ hu hi hz1 hi1 hi2 (by rw [hz2, hzl]) hsz hS a k c news hl hnews h1 h63 hbytes
  refine o_val rfl hd (v := v') (w' := w') ?_ (h _ _ hS')
  simp [execOp, resolve, invoke, builtin, hx, hy, hr]

/-- append(s, x): the one element was just written out in a block of its own. -/
theorem o_append1 {t e sz by_ : Nat} {x y : Operand} {z : List Value} {v : Value} {m : Nat} {xs : List Value} {b k c : Nat} {news : List Value} (ht : sliceB P t = some (e, sz, by_)) (hz : zeroB P e = some z) (hzl : z.length = sz) (hsz : 0 < sz)
    (hx : ev E x = v) (hy : ev E y = .slice (some ⟨b, 0, none⟩) k c) (hS : St w0 w (cells b e news :: vec e sz v m xs :: l)) (hl : news.length = k * sz) (h1 : ∀ u ∈ news, u.oneCell' = true)
    (h63 : m + k ≤ maxLen) (hbytes : (m + k) * by_ ≤ 140737488355328)
    (h : ∀ v' w', St w0 w' (vec e sz v' (m + k) (xs ++ news) :: l) → S P n R (.ops all rest :: st) (E.ins d v') w') (hd : fits d n = true := by rfl) :
    S P n R (.ops all (⟨d, .call { callee := .builtin .append, args := #[x, y], argTypes := #[t, t] }, ty, pos, af, none⟩ :: rest) :: st) E w :=
  o_append ht hz hzl hsz hx hy hS.drop hl (fun j u hj => by rw [add0]; exact hS.cell hj) h1 h63 hbytes h hd
end
end Go.Proofs.Ytnooiajahmichaa.X
