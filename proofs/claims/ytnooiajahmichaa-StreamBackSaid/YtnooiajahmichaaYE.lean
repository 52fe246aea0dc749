/- The executor: strings: parts, and bytes made of them and into them; structs compared. Lemmas over any program. -/
import Derived.Test.YtnooiajahmichaaYD
import Derived.Laws.StructEq
namespace Go.Proofs.Ytnooiajahmichaa.X
open Go Go.RowKit
set_option linter.unusedVariables false
set_option linter.unusedSimpArgs false
section
variable {P : Program} {n : Nat} {R : Env → World → Prop} {st : List It} {E : Env} {w w0 : World} {all : Array Oper} {rest : List Oper} {l : List Assn} {T : Env → World → Prop} {C : World → Prop}
variable {d : Nat} {dd : Option Nat} {op : Op} {ty t t' : TypeId} {pos : String} {af : Array Edge} {g : Option (Nat × Bool)} {v : Value} {x y a b : Operand} {lo hi : Int} {kl kh : IntKind} {s z : ByteArray}
theorem ysub_slh (ht : P.underlying t = some .string) (hx : ev E x = .string s) (ha : ev E a = .int kl lo) (hb' : ev E b = .int kh hi) (hb : 0 ≤ lo ∧ lo ≤ hi ∧ hi ≤ s.size) (hz : z = subS s lo hi) : Yl P E ⟨dd, .slice t x (some a) (some b) none, ty, pos, af, g⟩ (.string z) := fun w => by
  obtain ⟨h0, h1, h2⟩ := hb
  have h02 : 0 ≤ hi := by omega
  have h03 : max hi 0 = hi := by omega
  subst hz
  simp [h02, h03, At, execOp, hx, ha, hb', Instr.sliceAt, Instr.slice, Instr.sliceBounds, Instr.sliceBound, asIntOf, run_underlying ht, pure, Sem.run, h0, h1, h2, subS]
theorem ysub_sh (ht : P.underlying t = some .string) (hx : ev E x = .string s) (hb' : ev E b = .int kh hi) (hb : 0 ≤ (0 : Int) ∧ (0 : Int) ≤ hi ∧ hi ≤ s.size) (hz : z = subS s 0 hi) : Yl P E ⟨dd, .slice t x none (some b) none, ty, pos, af, g⟩ (.string z) := fun w => by
  obtain ⟨h0, h1, h2⟩ := hb
  subst hz
  simp [At, execOp, hx, hb', Instr.sliceAt, Instr.slice, Instr.sliceBounds, Instr.sliceBound, asIntOf, run_underlying ht, pure, Sem.run, h1, h2, subS]
theorem ysub_sl (ht : P.underlying t = some .string) (hx : ev E x = .string s) (ha : ev E a = .int kl lo) (hb : 0 ≤ lo ∧ lo ≤ (s.size : Int) ∧ (s.size : Int) ≤ s.size) (hz : z = subS s lo (s.size : Int)) : Yl P E ⟨dd, .slice t x (some a) none none, ty, pos, af, g⟩ (.string z) := fun w => by
  obtain ⟨h0, h1, h2⟩ := hb
  subst hz
  simp [At, execOp, hx, ha, Instr.sliceAt, Instr.slice, Instr.sliceBounds, Instr.sliceBound, asIntOf, run_underlying ht, pure, Sem.run, h0, h1, subS]
/-- The string of some bytes. -/
def strOf (xs : List Int) : ByteArray := xs.foldl (fun r n => r.push (UInt8.ofNat n.toNat)) ByteArray.empty
theorem loadCells_of {ad : Addr} {vs : List Value} (hc : ∀ j v, vs[j]? = some v → w.cell? (ad.add j) = some v) : (loadCells ad vs.length).run P w = .ok vs.toArray w := run_loadCells_list (P := P) (w := w) ad vs hc
theorem repI_eq {k : IntKind} {ρ : Heap} : ∀ {xs : List Int} {cs : List Value}, RepL (RpI k) ρ xs cs → cs = ints k xs
  | [], cs, h => h
  | x :: xs, cs, ⟨c1, c2, e, h1, h2⟩ => by
    have e1 : c1 = [.int k x] := h1
    rw [e, e1, repI_eq h2]; rfl
theorem at_str {src dst e : TypeId} {A : Option Addr} {len cap : Nat} {xs : List Int} (hs : P.underlying src = some (.slice e)) (he : P.underlying e = some (.int .u8)) (hd : P.underlying dst = some .string) (hx : ev E x = .slice A len cap)
    (hl : len = xs.length) (hc : ∀ j v, (ints .u8 xs)[j]? = some v → ∃ ad, A = some ad ∧ w.cell? (ad.add j) = some v) (hz : z = strOf xs) : At P E ⟨dd, .convert src dst x, ty, pos, af, g⟩ w (.string z) := by
  subst hz; subst hl
  have h1 := run_convert_bytes_string (P := P) w src dst e A xs.length cap hs he hd
  cases A with
  | none =>
    have : xs = [] := by
      cases xs with
      | nil => rfl
      | cons a r => obtain ⟨ad, h, _⟩ := hc 0 _ rfl; cases h
    subst this
    have h2 : (Conv.bytesToString (.slice none ([] : List Int).length cap)).run P w = .ok (.string (strOf [])) w := by
      simp [Conv.bytesToString, strOf, pure, Sem.run]
    simp only [List.length_nil] at h1 h2 hx
    simp [At, execOp, hx, h1, h2, pure, Sem.run]
  | some ad =>
    have h2 := run_bytesToString (P := P) w ad xs.length cap xs (by
      have := loadCells_of (P := P) (w := w) (ad := ad) (vs := ints .u8 xs) (fun j v hj => by obtain ⟨a', ha, h⟩ := hc j v hj; cases ha; exact h)
      rw [ints_length] at this
      exact this)
    simp [At, execOp, hx, h1, h2, pure, Sem.run, strOf]
theorem str_f {ρ : Heap} {A : Option Addr} {len cap : Nat} {xs : List Int} (h : RdS (RpI .u8) ρ A len cap xs) (hS : St w0 w (ro ρ :: l)) : ∀ j v, (ints .u8 xs)[j]? = some v → ∃ ad, A = some ad ∧ w.cell? (ad.add j) = some v := by
  obtain ⟨_, _, cs, h3, h4⟩ := h
  rw [repI_eq h3] at h4
  intro j v hj
  obtain ⟨ad, ha, hc⟩ := h4 j v hj
  exact ⟨ad, ha, hS.ro_cell hc⟩
theorem str_o {ρ : Heap} {e : TypeId} {A : Option Addr} {len cap : Nat} {xs : List Int} {cs : List Value} (hS : St w0 w (vec e (RpI .u8).sz (.slice A len cap) len cs :: l)) (h : RepL (RpI .u8) ρ xs cs) : ∀ j v, (ints .u8 xs)[j]? = some v → ∃ ad, A = some ad ∧ w.cell? (ad.add j) = some v := by
  rw [repI_eq h] at hS
  exact fun j v hj => hS.vec_cell hj
/-- '[]byte(s)': a new row of one's own. -/
theorem o_byt {src dst e : TypeId} {ρ : Heap} {zs : List Int} (hs : P.underlying src = some .string) (hd' : P.underlying dst = some (.slice e)) (he : P.underlying e = some (.int .u8)) (hx : ev E x = .string s) (hz : zs = bytesL s) (hS : St w0 w (ro ρ :: l))
    (h : ∀ ρ' A c w', Le ρ ρ' → RdS (RpI .u8) ρ' A zs.length c zs → St w0 w' (ro ρ' :: l) → S P n R (.ops all rest :: st) (E.set d (.slice A zs.length c)) w') (hd : Nat.blt d n = true := by rfl) :
    S P n R (.ops all (⟨some d, .convert src dst x, ty, pos, af, none⟩ :: rest) :: st) E w := by
  subst hz
  have hrun := Lib.run_convert_string_bytes (P := P) w src dst e s hs hd' he
  have h1 : St w0 (Lib.bytesWorld w e s) (blk w.heap.size (.cells (Lib.bytesCells w e s) e ((Lib.bytesCells w e s).size, (Lib.bytesCells w e s).size + 1)) :: ro ρ :: l) := by
    refine hS.emp.step rfl rfl rfl (by rw [Lib.bytesWorld_size]; omega) fun F hF hb hn => ⟨[w.heap.size], ⟨rfl, Lib.bytesWorld_at_new w e s⟩, by simp, by simp, by rw [Lib.bytesWorld_size]; simp, fun b hb _ => Lib.bytesWorld_at_old w e s b hb⟩
  obtain ⟨ρ', hle, hb, hS'⟩ := h1.keep
  have hcap : s.size ≤ grownCap w s.size 0 e := grownCap_ge w s.size 0 e
  have hl : (bytesL s).length = s.size := bytesL_length s
  refine o_val rfl (by exact hd) (v := .slice (some ⟨w.heap.size, 0, none⟩) s.size (grownCap w s.size 0 e)) (w' := Lib.bytesWorld w e s) (by simp [execOp, hx, hrun, pure, Sem.run]) ?_
  have := h ρ' (some ⟨w.heap.size, 0, none⟩) (grownCap w s.size 0 e) (Lib.bytesWorld w e s) hle ⟨rfl, by omega, ints .u8 (bytesL s), ?_, ?_⟩ hS'
  · rw [hl] at this; exact this
  · generalize bytesL s = bs
    induction bs with
    | nil => rfl
    | cons b bs ih => exact ⟨[_], _, rfl, rfl, ih⟩
  · intro j v hj
    refine ⟨_, rfl, ?_⟩
    rw [add0]
    simp only [cellOf, hb]
    have hj' : (Lib.bytesCells w e s)[j]? = some v := by
      simp only [ints, bytesL, List.getElem?_map, Array.getElem?_toList, Option.map_map] at hj
      have hlt : j < s.data.size := by
        rcases Nat.lt_or_ge j s.data.size with h | h
        · exact h
        · rw [Array.getElem?_eq_none h] at hj; cases hj
      rw [Lib.bytesCells, Array.getElem?_append_left (by simpa using hlt), Array.getElem?_map]
      exact hj
    simpa using hj'
end
end Go.Proofs.Ytnooiajahmichaa.X
