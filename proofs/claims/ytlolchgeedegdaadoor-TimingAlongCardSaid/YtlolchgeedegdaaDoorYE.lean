/- The executor: strings: parts, and bytes made of them and into them; structs compared. Lemmas over any program. -/
import Derived.Test.YtlolchgeedegdaaDoorYD
import Derived.Laws.StructEq
namespace Go.Proofs.YtlolchgeedegdaaDoor.X
open Go Go.RowKit
set_option linter.unusedVariables false
set_option linter.unusedSimpArgs false
section
variable {P : Program} {n : Nat} {R : Env → World → Prop} {st : List It} {E : Env} {w w0 : World} {all : Array Oper} {rest : List Oper} {l : List Assn} {T : Env → World → Prop} {C : World → Prop}
variable {d : Nat} {dd : Option Nat} {op : Op} {ty t t' : TypeId} {pos : String} {af : Array Edge} {g : Option (Nat × Bool)} {v : Value} {x y a b : Operand} {lo hi : Int} {kl kh : IntKind} {s z : ByteArray}
/-- '[]byte(s)': a new row of one's own. -/
theorem o_byt {src dst e : TypeId} {ρ : Heap} {zs : List Int} (hs : P.underlying src = some .string) (hd' : P.underlying dst = some (.slice e)) (he : P.underlying e = some (.int .u8)) (hx : ev E x = .string s) (hz : zs = bytesL s) (hS : St w0 w (ro ρ :: l))
    (h : ∀ ρ' A c w', Le ρ ρ' → RdS (RpI .u8) ρ' A zs.length c zs → St w0 w' (ro ρ' :: l) → S P n R (.ops all rest :: st) (E.set d (.slice A zs.length c)) w') (hd : Nat.blt d n = true := by rfl) :
    S P n R (.ops all (⟨some d, .convert src dst x, ty, pos, af, none⟩ :: rest) :: st) E w := by
  subst hz
  have hrun := Lib.run_convert_string_bytes (P := P) w src dst e s hs hd' he
  have h1 : St w0 (Lib.bytesWorld w e s) (blk w.heap.size (.cells (Lib.bytesCells w e s) e ((Lib.bytesCells w e s).size, (Lib.bytesCells w e s).size + 1)) :: ro ρ :: l) := by
    refine hS.emp.step rfl rfl rfl (by rw [Lib.bytesWorld_size]; omega) fun F hF hb hn => ⟨[w.heap.size], ⟨rfl, Lib.bytesWorld_at_new w e s⟩, by simp, by simp, by rw [Lib.bytesWorld_size]; simp, fun b hb _ => Lib.bytesWorld_at_old w e s b hb⟩
  obtain ⟨ρ', hle, hb, hS'⟩ := h1.keep
  have hcap : s.size ≤ grownCap w s.size 0 e := grownCap_ge w s.size 0 e
  have hl : (bytesL s).length = s.size := bytesL_length s
  refine o_val rfl (by exact hd) (v := .slice (some ⟨w.heap.size, 0, none⟩) s.size (grownCap w s.size 0 e)) (w' := Lib.bytesWorld w e s) (by simp [execOp, hx, hrun, pure, Sem.run]) ?_
  have := h ρ' (some ⟨w.heap.size, 0, none⟩) (grownCap w s.size 0 e) (Lib.bytesWorld w e s) hle ⟨rfl, by omega, ints .u8 (bytesL s), ?_, ?_⟩ hS'
  · rw [hl] at this; exact this
  · generalize bytesL s = bs
    induction bs with
    | nil => rfl
    | cons b bs ih => exact ⟨[_], _, rfl, rfl, ih⟩
  · intro j v hj
    refine ⟨_, rfl, ?_⟩
    rw [add0]
    simp only [cellOf, hb]
    have hj' : (Lib.bytesCells w e s)[j]? = some v := by
      simp only [ints, bytesL, List.getElem?_map, Array.getElem?_toList, Option.map_map] at hj
      have hlt : j < s.data.size := by
        rcases Nat.lt_or_ge j s.data.size with h | h
        · exact h
        · rw [Array.getElem?_eq_none h] at hj; cases hj
      rw [Lib.bytesCells, Array.getElem?_append_left (by simpa using hlt), Array.getElem?_map]
      exact hj
    simpa using hj'
end
end Go.Proofs.YtlolchgeedegdaaDoor.X
