/- A strings.Builder in memory: its block and its buffer, told as what it holds; its methods, over any program that has them. -/
import Derived.Test.YtfkncjfpgflafaaYR
import Derived.Shelf.Strings.Builder1
namespace Go.Proofs.Ytfkncjfpgflafaa.X
open Go Go.RowKit Go.Shelf
set_option linter.unusedVariables false
section
variable {w0 w : World} {l : List Assn} {T e : TypeId} {b : Nat} {s : ByteArray}

/-- A strings.Builder in a block of its own, fresh or used, and its buffer. -/
def bld (T e : TypeId) (b : Nat) (s : ByteArray) : Assn :=
 bunA (fun x : Value × Option Addr × Nat => x.1 = .pointer none ∨ x.1 = .pointer (some ⟨b, 0, none⟩))
  (fun x => [cells b T [x.1, .slice x.2.1 s.size x.2.2], vec e 1 (.slice x.2.1 s.size x.2.2) s.size (Go.byteCells s)])
theorem bld_new (h : St w0 w (cells b T [.pointer none, .slice none 0 0] :: l)) : St w0 w (bld T e b (⟨#[]⟩ : ByteArray) :: l) := by
 refine St.bun (.pointer none, none, 0) (.inl rfl) ?_
 have h1 := (h.vec_nil e 1).perm (.swap _ _ _)
 exact h1
theorem bld_in (p : Value) (A : Option Addr) (c : Nat) (hp : p = .pointer none ∨ p = .pointer (some ⟨b, 0, none⟩))
  (h : St w0 w (cells b T [p, .slice A s.size c] :: vec e 1 (.slice A s.size c) s.size (Go.byteCells s) :: l)) : St w0 w (bld T e b s :: l) :=
 St.bun (p, A, c) hp h
theorem bld_out (h : St w0 w (bld T e b s :: l)) : ∃ p A c, (p = .pointer none ∨ p = .pointer (some ⟨b, 0, none⟩)) ∧
  St w0 w (cells b T [p, .slice A s.size c] :: vec e 1 (.slice A s.size c) s.size (Go.byteCells s) :: l) := by
 obtain ⟨⟨p, A, c⟩, hp, hS⟩ := St.unbun h
 exact ⟨p, A, c, hp, hS⟩
theorem byteCells_append (s t : ByteArray) : Go.byteCells (s ++ t) = Go.byteCells s ++ Go.byteCells t := by
 simp [Go.byteCells, ByteArray.data_append, Array.toList_append]
variable {P : Program} {ρ : Ren}
theorem wpl_ap_str {ops : Array Oper} {rest : List Oper} {o : Oper} {a : Act} {Q : Exit → Act → World → Prop} (hgd : o.guard = none) (sl x : Operand) (t u : TypeId)
  (ho : o.op = .call { callee := .builtin .append, args := #[sl, x], argTypes := #[t, u] })
  (i : TypeInfo) (ht : P.underlying t = some (.slice e)) (hu : P.underlying u = some .string) (hi : P.info? e = some i) (hz : i.zero = some (.int .u8 0)) (hsize : i.size = 1) (hby : i.bytes = 1)
  {A : Option Addr} {m c : Nat} {cs : List Value} (hs : a.eval sl = .slice A m c) {z : ByteArray} (hx : a.eval x = .string z) (hS : St w0 w (vec e 1 (.slice A m c) m cs :: l)) (hb : m + z.size ≤ 140737488355328)
  (h : ∀ A' c' w', St w0 w' (vec e 1 (.slice A' (m + z.size) c') (m + z.size) (cs ++ Go.byteCells z) :: l) → wpList P ops Q rest (a.put o.dst (.slice A' (m + z.size) c')) w') : wpList P ops Q (o :: rest) a w := by
 refine wpList_plain hgd fun K hK => ?_
 obtain ⟨A', c', w', hr, hS'⟩ := run_append_own (P := P) t u o.type e i (.int .u8 0) 1 ht hi hz hsize hby rfl (by decide) hS (.string z) z.size (Go.byteCells z) (Src.ofString w hu z) (by omega) (by omega)
 unfold Oper.wp execOp
 simp only [ho, resolve, invoke, builtin, Sem.run_bind, Sem.run_pure, Result.andThen_ok, List.map_toArray, List.map_cons, List.map_nil, hs, hx, hr]
 exact hK _ _ (h A' c' w' hS')
theorem byteCells_at {j : Nat} {x : UInt8} (h : s.data.toList[j]? = some x) : (Go.byteCells s)[j]? = some (.int .u8 x.toNat) := by simp only [Go.byteCells, List.getElem?_map, h, Option.map_some]
set_option maxHeartbeats 2000000 in
set_option maxRecDepth 100000 in
/-- String, where it holds something: what it holds. -/
theorem bstr (L : Lays.n169 P ρ) (X : Builder.Extra P ρ) (hS : St w0 w (bld (ρ.t 72) (ρ.t 5) b s :: l)) (h0 : 0 < s.size) :
  Calls P (ρ.f 169) #[.pointer (some ⟨b, 0, none⟩)] w fun e w' => e = .returned (.string s) ∧ St w0 w' l := by
 obtain ⟨p, A, cap, hp, hS⟩ := bld_out hS
 have hV := hS.perm (.swap _ _ _)
 have hsz : s.data.toList.length = s.size := Array.length_toList
 have hne : s.data.toList ≠ [] := fun e => by rw [e] at hsz; simp at hsz; omega
 obtain ⟨F, ⟨hl, h1⟩, hlt⟩ := hV.head
 rcases h1 with ⟨_, hz, _⟩ | ⟨g, cap', cur, hv, rfl, hg, hnc, hcm, hcs, htake⟩
 ·omega
 injection hv with hA _ hcc
 subst hA; subst hcc
 have hbk := hS.block
 have c1 : w.drew.cell? ⟨b, 1, none⟩ = some (.slice (some ⟨g, 0, none⟩) s.size cap) := hS.drew.cell rfl
 have hSD : (Builtin.unsafeSliceData_ #[(ρ.t 37)] (ρ.t 127) #[.slice (some ⟨g, 0, none⟩) s.size cap]).run P w.drew = .ok (.pointer (some ⟨g, 0, none⟩)) w.drew :=
  Lib.run_unsafeSliceData_row _ _ _ _ _ _ (by omega)
 have hUS : (Builtin.unsafeString_ #[(ρ.t 127), (ρ.t 3)] (ρ.t 9) #[.pointer (some ⟨g, 0, none⟩), .int .i64 s.size]).run P w.drew = .ok (.string s) (w.drew.freeze ⟨g, 0, none⟩ s.size) := by
  have := Lib.run_unsafeString_row w.drew (ρ.t 127) (ρ.t 3) (ρ.t 9) (ρ.t 5) L.t127 X.cellsByte g cur.size (by have hg' : w.drew.heap[g]? = some (.cells cur (ρ.t 5) (0, 0)) := hg; simp [World.shape?, hg']) s.data.toList hne (by omega) (by unfold maxLen at hcm; omega) ?_
  ·rw [hsz] at this
   rw [show (⟨s.data.toList.toArray⟩ : ByteArray) = s from by cases s; rfl] at this
   exact this
  ·intro j x hx
   obtain ⟨a, ha, hc⟩ := hV.drew.vec_cell (byteCells_at hx)
   cases ha
   exact hc
 have hfin : St w0 (w.drew.freeze ⟨g, 0, none⟩ s.size) l := by
  have hd : St w0 w.drew (vec (ρ.t 5) 1 (.slice (some ⟨g, 0, none⟩) s.size cap) s.size (Go.byteCells s) :: l) := hS.drop.drew
  refine St.drop (A := Go.Proofs.Ytfkncjfpgflafaa.X.emp) (hd.step (B := Go.Proofs.Ytfkncjfpgflafaa.X.emp) (by unfold World.freeze; split <;> rfl) (by unfold World.freeze; split <;> rfl) (by unfold World.freeze; split <;> rfl) (by unfold World.freeze; split <;> simp) fun F hF hb hn => ⟨[], rfl, List.nodup_nil, by simp, by simp, fun k hk hkF => ?_⟩)
  have hgF : g ∈ F := by
   rcases hF.2 with ⟨hv, _⟩ | ⟨g', cap', cur', hv, rfl, _⟩
   ·cases hv
   ·injection hv with hA _ _
    injection hA with hA
    injection hA with hA _ _
    subst hA
    simp
  have hne : g ≠ k := fun e => hkF (e ▸ hgF)
  unfold World.freeze
  split
  ·rfl
  ·simp only [Array.getElem?_modify]
   rw [if_neg hne]
 have mixed := L.mixed
 have t72 := L.t72; have a72 := L.a72; have z72 := L.z72; have v72 := L.v72; have u72 := run_underlying L.t72
 have t70 := L.t70; have a70 := L.a70; have z70 := L.z70; have v70 := L.v70; have u70 := run_underlying L.t70
 have t37 := L.t37; have a37 := L.a37; have z37 := L.z37; have v37 := L.v37; have u37 := run_underlying L.t37
 have t127 := L.t127; have a127 := L.a127; have z127 := L.z127; have v127 := L.v127; have u127 := run_underlying L.t127
 have t3 := L.t3; have a3 := L.a3; have z3 := L.z3; have v3 := L.v3; have u3 := run_underlying L.t3
 have t9 := L.t9; have a9 := L.a9; have z9 := L.z9; have v9 := L.v9; have u9 := run_underlying L.t9
 have t5 := X.t5; have a5 := X.a5; have z5 := X.z5; have v5 := X.v5; have u5 := run_underlying X.t5
 go_enter L.f169, Body.n169_ntmps ρ
 go_wp2
 go_region_o
 all_goals (go_wp2; go_ret; exact ⟨rfl, hfin⟩)
end
end Go.Proofs.Ytfkncjfpgflafaa.X
