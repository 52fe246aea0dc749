/- More operations: strings, bytes, parts of slices, shifts. Lemmas over any program. -/
import Derived.Test.YtnooiajahmichaaXR
import Derived.Lib.ConvBytes
import Derived.Laws.Strings
namespace Go.Proofs.Ytnooiajahmichaa.X
open Go Go.RowKit
set_option linter.unusedVariables false
set_option linter.unusedSimpArgs false
def byteAt (s : ByteArray) (i : Int) : Int := ((s.data.getD i.toNat 0).toNat : Int)
def bytesL (s : ByteArray) : List Int := s.data.toList.map (fun b => (b.toNat : Int))
theorem bytesL_length (s : ByteArray) : (bytesL s).length = s.size := by rw [bytesL, List.length_map]; rfl
theorem rd_bytesL (s : ByteArray) {i : Int} (h0 : 0 ≤ i) (h1 : i < s.size) : rd (bytesL s) i = byteAt s i := by
  have h : i.toNat < s.data.size := by have : s.size = s.data.size := rfl; omega
  have e : (bytesL s)[i.toNat]? = some ((s.data[i.toNat].toNat : Nat) : Int) := by
    simp only [bytesL, List.getElem?_map, Array.getElem?_toList, Array.getElem?_eq_getElem h, Option.map_some]
  simp only [rd, List.getD_eq_getElem?_getD, e, Option.getD_some, byteAt, Array.getD, h, dite_true]
  rfl
theorem says_undef {v : Value} {b : Bool} (h : v = undef) : says v b = false := by subst h; rfl
theorem says_lit {v : Value} {c b r : Bool} (h : v = .bool c) (hr : (c == b) = r) : says v b = r := by subst h; rw [← hr]; cases c <;> cases b <;> rfl
section
variable {P : Program} {n : Nat} {R : Env → World → Prop} {st : List It} {E : Env} {w w0 : World} {all : Array Oper} {rest : List Oper} {l : List Assn} {d : Option Nat} {ty t t' : TypeId} {pos : String} {af : Array Edge} {g : Option (Nat × Bool)}
theorem yl_index_string {x y : Operand} {s : ByteArray} {k : IntKind} {i : Int} (ht : P.underlying t = some .string) (hx : ev E x = .string s) (hy : ev E y = .int k i) (h0 : 0 ≤ i) (h1 : i < s.size) :
    Yl P E ⟨d, .index t x y, ty, pos, af, g⟩ (.int .u8 (byteAt s i)) := fun w => by
  have h : i.toNat < s.size := by omega
  have hd : i.toNat < s.data.size := h
  simp [At, execOp, Instr.index, hx, hy, asIntOf, run_underlying ht, h0, h, pure, Sem.run, byteAt, Array.getD, hd]
  rfl
theorem yl_eql_string {x y : Operand} {a b : ByteArray} (hx : ev E x = .string a) (hy : ev E y = .string b) : Yl P E ⟨d, .binOp .eql t x y t', ty, pos, af, g⟩ (.bool (decide (a = b))) := fun w => by
  have e : (a.toList == b.toList) = decide (a = b) := by
    rw [Bool.eq_iff_iff, beq_iff_eq, decide_eq_true_eq]
    rw [ByteArray.toList_eq, ByteArray.toList_eq]
    exact ⟨fun h => ByteArray.ext (Array.toList_inj.1 h), fun h => by rw [h]⟩
  simp [At, execOp, eqGuard, hx, hy, binOp, Op.stringOp, pure, Sem.run, e]
theorem yl_shl {x y : Operand} {k k' : IntKind} {a b c : Int} (hx : ev E x = .int k a) (hy : ev E y = .int k' b) (h0 : 0 ≤ b) (hc : k.wrap (a * 2 ^ (min b.toNat k.bits)) = c) : Yl P E ⟨d, .binOp .shl t x y t', ty, pos, af, g⟩ (.int k c) := fun w => by
  have h : ¬ b < 0 := by omega
  simp [At, execOp, eqGuard, hx, hy, binOp, Op.shift, h, hc, pure, Sem.run]
theorem yl_andNot {x y : Operand} {k : IntKind} {a b c : Int} (hx : ev E x = .int k a) (hy : ev E y = .int k b) (hc : k.wrap ((BitVec.ofInt k.bits a &&& ~~~ BitVec.ofInt k.bits b).toNat : Int) = c) : Yl P E ⟨d, .binOp .andNot t x y t', ty, pos, af, g⟩ (.int k c) := fun w => by
  subst hc
  simp only [At, execOp, eqGuard, hx, hy, binOp, Op.intBits, ne_eq, not_true_eq_false, if_false]
  rfl
theorem yl_slice_to {x y : Operand} {A : Option Addr} {m c e sz by_ : Nat} {k : IntKind} {i : Int} (ht : sliceB P t = some (e, sz, by_)) (hx : ev E x = .slice A m c) (hy : ev E y = .int k i) (h0 : 0 ≤ i) (h1 : i ≤ c) :
    Yl P E ⟨d, .slice t x none (some y) none, ty, pos, af, g⟩ (.slice A i.toNat c) := fun w => by
  obtain ⟨hu, inf, hi, _, _⟩ := sliceB_spec ht
  have hA : (if c = 0 then A else A.map (·.add (0 * inf.size))) = A := by
    have : (fun a : Addr => a.add (0 * inf.size)) = id := by funext a; simp [Addr.add]
    rw [this]; simp
  simp [At, execOp, hx, hy, Instr.sliceAt, Instr.slice, Instr.sliceBounds, Instr.sliceBound, asIntOf, run_underlying hu, h0, h1, sizeOf, typeInfo, hi, pure, Sem.run]
  intro _
  cases A <;> simp [Addr.add]
theorem q_strip {C : World → Prop} {T : Env → World → Prop} {op : Op} (t : Nat) (b : Bool) (hq : says (E t) b = true) (h : Qt P n C T all (⟨d, op, ty, pos, af, none⟩ :: rest) E) (hg : guardOf all g = some (t, b) := by rfl) (ht : Nat.blt t n = true := by rfl) :
    Qt P n C T all (⟨d, op, ty, pos, af, g⟩ :: rest) E := by
  intro a hA
  have hw := wanted_says (o := ⟨d, op, ty, pos, af, g⟩) hA hg (by simpa [Nat.blt_eq] using ht) hq
  have h1 := h a hA
  unfold wpQuiet at h1 ⊢
  rw [if_pos hw]
  rw [if_pos (by simp [Region.wanted])] at h1
  exact h1
theorem q_pass {C : World → Prop} {T : Env → World → Prop} {op : Op} (d' t : Nat) (b : Bool) (hq : says (E t) b = false) (h : Qt P n C T all rest (E.set d' undef)) (hg : guardOf all g = some (t, b) := by rfl) (ht : Nat.blt t n = true := by rfl) (hdd : d = some d' := by rfl) (hd : Nat.blt d' n = true := by rfl) :
    Qt P n C T all (⟨d, op, ty, pos, af, g⟩ :: rest) E := by
  subst hdd
  intro a hA
  have hw := wanted_says (o := ⟨some d', op, ty, pos, af, g⟩) hA hg (by simpa [Nat.blt_eq] using ht) hq
  unfold wpQuiet
  rw [if_neg (by rw [hw]; simp)]
  exact h _ (hA.put (fits_spec (d := some d') hd) undef)
/-- '[]byte(s)': a new row, never written again. -/
theorem o_bytes {x : Operand} {src dst e : TypeId} {s : ByteArray} {ρ : Heap} {dd : Nat} (hs : P.underlying src = some .string) (hd : P.underlying dst = some (.slice e)) (he : P.underlying e = some (.int .u8)) (hx : ev E x = .string s) (hS : St w0 w (ro ρ :: l))
    (h : ∀ ρ' b c w', Le ρ ρ' → RI ρ' .u8 (some ⟨b, 0, none⟩) (bytesL s) → St w0 w' (ro ρ' :: l) → S P n R (.ops all rest :: st) (E.set dd (.slice (some ⟨b, 0, none⟩) s.size c)) w') (hdd : Nat.blt dd n = true := by rfl) :
    S P n R (.ops all (⟨some dd, .convert src dst x, ty, pos, af, none⟩ :: rest) :: st) E w := by
  have hrun := Lib.run_convert_string_bytes (P := P) w src dst e s hs hd he
  have h1 : St w0 (Lib.bytesWorld w e s) (blk w.heap.size (.cells (Lib.bytesCells w e s) e ((Lib.bytesCells w e s).size, (Lib.bytesCells w e s).size + 1)) :: ro ρ :: l) := by
    refine hS.emp.step rfl rfl rfl (by rw [Lib.bytesWorld_size]; omega) fun F hF hb hn => ⟨[w.heap.size], ⟨rfl, Lib.bytesWorld_at_new w e s⟩, by simp, by simp, by rw [Lib.bytesWorld_size]; simp, fun b hb _ => Lib.bytesWorld_at_old w e s b hb⟩
  obtain ⟨ρ', hle, hb, hS'⟩ := h1.keep
  refine o_val rfl hdd (v := .slice (some ⟨w.heap.size, 0, none⟩) s.size (grownCap w s.size 0 e)) (w' := Lib.bytesWorld w e s) ?_ (h ρ' _ _ _ hle ?_ hS')
  · simp [execOp, hx, hrun, pure, Sem.run]
  · intro j v hj
    refine ⟨_, rfl, ?_⟩
    rw [add0]
    simp only [cellOf, hb]
    have hj' : (Lib.bytesCells w e s)[j]? = some v := by
      simp only [ints, bytesL, List.getElem?_map, Array.getElem?_toList, Option.map_map] at hj
      have hlt : j < s.data.size := by
        rcases Nat.lt_or_ge j s.data.size with h | h
        · exact h
        · rw [Array.getElem?_eq_none h] at hj; cases hj
      rw [Lib.bytesCells, Array.getElem?_append_left (by simpa using hlt), Array.getElem?_map]
      exact hj
    simpa using hj'
end
/-! ### Rows of structs of numbers alone: told as one list of numbers -/
theorem add_add (a : Addr) (m j : Nat) : (a.add m).add j = a.add (m + j) := by
  unfold Addr.add
  by_cases hm : m = 0
  · subst hm; simp
  · by_cases hj : j = 0
    · subst hj; simp
    · simp [hm, hj]; omega
theorem RI.cellN {ρ : Heap} {k : IntKind} {A : Option Addr} {xs : List Int} {w0 w : World} {l : List Assn} (h : RI ρ k A xs) (hS : St w0 w (ro ρ :: l)) {i : Int} (sz off : Nat) (h0 : 0 ≤ i) (h1 : i * sz + off < xs.length) :
    w.cell? (((adr A).add (i.toNat * sz)).add off) = .some (.int k (rd xs (i * sz + off))) := by
  have hs : (0 : Int) ≤ i * sz := Int.mul_nonneg h0 (by omega)
  have e : (i * sz + off).toNat = i.toNat * sz + off := by
    obtain ⟨n, rfl⟩ := Int.eq_ofNat_of_zero_le h0
    simp only [Int.toNat_natCast]
    omega
  rw [add_add, ← e]
  exact hS.ro_cell (RdC.at h (ints_get (by omega) h1)).2
theorem RI.someN {ρ : Heap} {k : IntKind} {A : Option Addr} {xs : List Int} (h : RI ρ k A xs) (h1 : 0 < xs.length) : A = .some (adr A) := (RdC.at h (ints_get (i := 0) (Int.le_refl _) (by omega))).1
theorem St.int_cellN {w0 w : World} {l : List Assn} {b : Nat} {t : TypeId} {k : IntKind} {xs : List Int} (hS : St w0 w (cells b t (ints k xs) :: l)) {i : Int} (sz off : Nat) (h0 : 0 ≤ i) (h1 : i * sz + off < xs.length) : w.cell? ⟨b, i.toNat * sz + off, none⟩ = some (.int k (rd xs (i * sz + off))) := by
  have hs : (0 : Int) ≤ i * sz := Int.mul_nonneg h0 (by omega)
  have e : (i * sz + off).toNat = i.toNat * sz + off := by
    obtain ⟨n, rfl⟩ := Int.eq_ofNat_of_zero_le h0
    simp only [Int.toNat_natCast]
    omega
  rw [← e]
  exact hS.cell (ints_get (by omega) h1)
theorem madeCells_rep (z : Value) (sz c : Nat) (h : 0 < sz) : madeCells ⟨List.replicate sz z⟩ c = ⟨List.replicate c z⟩ := by
  apply Array.ext'
  apply List.ext_getElem
  · simp [madeCells]
  · intro i h1 h2
    have : i % sz < sz := Nat.mod_lt _ h
    simp [madeCells, this]
section
variable {P : Program} {n : Nat} {R : Env → World → Prop} {st : List It} {E : Env} {w w0 : World} {all : Array Oper} {rest : List Oper} {l : List Assn} {d : Option Nat} {ty t : TypeId} {pos : String} {af : Array Edge}
theorem o_makeN {e sz by_ : Nat} {x y : Operand} {z : Value} {zs : List Value} {k k' : IntKind} {c : Int} (ht : sliceB P t = some (e, sz, by_)) (hz : zeroB P e = some zs) (hzs : zs = List.replicate sz z) (hsz : 0 < sz) (hx : ev E x = .int k c) (hy : ev E y = .int k' c) (h0 : 0 ≤ c) (hb : (by_ : Int) * c ≤ 281474976710656) (hb1 : 1 ≤ by_) (hS : St w0 w l)
    (h : ∀ b w', St w0 w' (cells b e (List.replicate (c.toNat * sz) z) :: l) → S P n R (.ops all rest :: st) (E.ins d (.slice (some ⟨b, 0, none⟩) c.toNat c.toNat)) w') (hd : fits d n = true := by rfl) :
    S P n R (.ops all (⟨d, .makeSlice t x y, ty, pos, af, none⟩ :: rest) :: st) E w := by
  subst hzs
  obtain ⟨hu, inf, hi, hi1, hi2⟩ := sliceB_spec ht
  obtain ⟨zv, hz1, hz2⟩ := zero_of hi hz
  have hzc : zv.cells = ⟨List.replicate sz z⟩ := by
    unfold zeroB at hz
    rw [hi] at hz
    simp only [Option.bind_some, hz1, Option.map_some, Option.some.injEq] at hz
    exact Array.ext' (by simpa using hz)
  refine o_val rfl hd (v := .slice (some ⟨w.heap.size, 0, none⟩) c.toNat c.toNat) (w' := w.alloc (.cells ⟨List.replicate (c.toNat * sz) z⟩ e)) ?_ (h _ _ (hS.alloc _))
  have hcm : c ≤ by_ * c := by
    have : 1 * c ≤ (by_ : Int) * c := Int.mul_le_mul_of_nonneg_right (by omega) h0
    omega
  have hr := run_make (P := P) w t e inf zv hu hi hz1 k k' c c h0 (Int.le_refl _) (by rw [hi2]; exact hb) (by omega)
  rw [hi1, hzc, madeCells_rep _ _ _ hsz] at hr
  simp [execOp, hx, hy, hr]
end
theorem add_off (b o k : Nat) : (⟨b, o, none⟩ : Addr).add k = ⟨b, o + k, none⟩ := by unfold Addr.add; split <;> simp_all
section
variable {P : Program} {n : Nat} {R : Env → World → Prop} {st : List It} {E : Env} {w w0 : World} {all : Array Oper} {rest : List Oper} {l : List Assn} {d : Option Nat} {ty t : TypeId} {pos : String} {af : Array Edge} {g : Option (Nat × Bool)}
theorem yl_index_bN {e sz by_ m cp b : Nat} {x y : Operand} {k : IntKind} {i : Int} (ht : sliceB P t = some (e, sz, by_)) (hx : ev E x = .slice (some ⟨b, 0, none⟩) m cp) (hy : ev E y = .int k i) (h0 : 0 ≤ i) (h1 : i < m) :
    Yl P E ⟨d, .indexAddr t x y, ty, pos, af, g⟩ (.pointer (some ⟨b, i.toNat * sz, none⟩)) := by
  rw [← add0]; exact yl_indexAddr ht hx hy h0 h1
theorem yl_fieldN {s : TypeId} {x : Operand} {i off : Nat} {ft : TypeId} {b o : Nat} (hs : fieldAtB P s i = some (off, ft)) (hx : ev E x = .pointer (some ⟨b, o, none⟩)) :
    Yl P E ⟨d, .fieldAddr s x i, ty, pos, af, g⟩ (.pointer (some ⟨b, o + off, none⟩)) := by rw [← add_off]; exact yl_fieldAddr hs hx
theorem toNat_mul_add {i : Int} (sz off : Nat) (h0 : 0 ≤ i) : (i * sz + off).toNat = i.toNat * sz + off := by
  obtain ⟨n, rfl⟩ := Int.eq_ofNat_of_zero_le h0
  have : ((n : Int) * sz + off) = ((n * sz + off : Nat) : Int) := by simp
  rw [this]; rfl
theorem o_storeIN {x y : Operand} {b : Nat} {te : TypeId} {k : IntKind} {i v : Int} {xs : List Int} (sz off : Nat) (ht : oneB P t = true) (hx : ev E x = .pointer (some ⟨b, i.toNat * sz + off, none⟩)) (hy : ev E y = .int k v)
    (h0 : 0 ≤ i) (hi : i * sz + off < xs.length) (hS : St w0 w (cells b te (ints k xs) :: l)) (h : ∀ w', St w0 w' (cells b te (ints k (xs.set (i * sz + off).toNat v)) :: l) → S P n R (.ops all rest :: st) (E.ins d undef) w') (hd : fits d n = true := by rfl) :
    S P n R (.ops all (⟨d, .store t x y, ty, pos, af, none⟩ :: rest) :: st) E w := by
  have hs : (0 : Int) ≤ i * sz := Int.mul_nonneg h0 (by omega)
  exact o_storeI ht (by rw [toNat_mul_add sz off h0]; exact hx) hy (by omega) hi hS h hd
/-- A struct of two numbers. -/
theorem o_storeI2 {x y : Operand} {b : Nat} {te : TypeId} {k : IntKind} {i v0 v1 : Int} {xs : List Int} (ht : aggB P t 2 = true) (hx : ev E x = .pointer (some ⟨b, i.toNat * 2, none⟩)) (hy : ev E y = .agg #[.int k v0, .int k v1])
    (h0 : 0 ≤ i) (hi : i * 2 + 1 < xs.length) (hS : St w0 w (cells b te (ints k xs) :: l)) (h : ∀ w', St w0 w' (cells b te (ints k ((xs.set (i * 2).toNat v0).set (i * 2 + 1).toNat v1)) :: l) → S P n R (.ops all rest :: st) (E.ins d undef) w') (hd : fits d n = true := by rfl) :
    S P n R (.ops all (⟨d, .store t x y, ty, pos, af, none⟩ :: rest) :: st) E w := by
  refine o_storeAgg (news := [.int k v0, .int k v1]) ht hx hy rfl (by simp only [ints_length, List.length_cons, List.length_nil]; omega) hS (fun w' hS' => h w' ?_) hd
  have e0 : (i * 2).toNat = i.toNat * 2 := by omega
  have e1 : (i * 2 + 1).toNat = i.toNat * 2 + 1 := by omega
  rw [e0, e1, ← ints_set, ← ints_set]
  exact hS'
end
theorem two_cells {w : World} {a : Addr} {v0 v1 : Value} (h0 : w.cell? (a.add 0) = some v0) (h1 : w.cell? (a.add 1) = some v1) : ∀ j v, [v0, v1][j]? = some v → w.cell? (a.add j) = some v
  | 0, v, h => by simp at h; subst h; exact h0
  | 1, v, h => by simp at h; subst h; exact h1
  | j + 2, v, h => by simp at h
section
variable {P : Program} {E : Env} {d : Option Nat} {ty t t' : TypeId} {pos : String} {af : Array Edge} {g : Option (Nat × Bool)} {x y : Operand} {a b : Int} {k : IntKind}
theorem yl_min (hx : ev E x = .int k a) (hy : ev E y = .int k b) : Yl P E ⟨d, .call { callee := .builtin .min, args := #[x, y], argTypes := #[t, t'] }, ty, pos, af, g⟩ (.int k (if b < a then b else a)) := fun w => by
  simp only [At, execOp, resolve, invoke, builtin, hx, hy, Builtin.min_, Builtin.min2]
  by_cases h : b < a <;> simp [h, resolve, invoke, builtin, hx, hy, Builtin.min_, Builtin.min2, pure, Sem.run, Int.min_def, Int.max_def] <;> omega
theorem yl_max (hx : ev E x = .int k a) (hy : ev E y = .int k b) : Yl P E ⟨d, .call { callee := .builtin .max, args := #[x, y], argTypes := #[t, t'] }, ty, pos, af, g⟩ (.int k (if a < b then b else a)) := fun w => by
  by_cases h : a < b <;> simp [At, execOp, h, resolve, invoke, builtin, hx, hy, Builtin.max_, Builtin.max2, pure, Sem.run, Int.min_def, Int.max_def] <;> omega
end
end Go.Proofs.Ytnooiajahmichaa.X
