/- Parts of a slice of one's own that are written in place. -/
import Derived.Test.YtfkncjfpgflafaaYR
namespace Go.Proofs.Ytfkncjfpgflafaa.X
open Go Go.RowKit
set_option linter.unusedVariables false
set_option linter.unusedSectionVars false
section
variable {P : Program} {n : Nat} {R : Env → World → Prop} {st : List It} {E : Env} {w w0 : World} {all : Array Oper} {rest : List Oper} {l : List Assn} {d : Nat} {ty : TypeId} {pos : String} {af : Array Edge} {g : Option (Nat × Bool)}
end
section
variable {P : Program} {n : Nat} {R : Env → World → Prop} {st : List It} {E : Env} {w w0 : World} {all : Array Oper} {rest : List Oper} {l : List Assn} {dd : Option Nat} {ty t e : TypeId} {pos : String} {af : Array Edge} {g : Option (Nat × Bool)} {x y a b : Operand}
variable {α : Type} [Inhabited α] {Q : Rp α} {ρ : Heap} {A : Option Addr} {len cap by_ : Nat} {xs : List α} {cs : List Value} {lo hi m o i : Int} {k kl kh : IntKind}
theorem adr_add2 (ad : Addr) (j k : Nat) : (ad.add j).add k = ad.add (j + k) := by
 unfold Addr.add
 by_cases hj : j = 0
 ·simp [hj]
 ·by_cases hk : k = 0
  ·simp [hk]
  ·cases ad; simp_all <;> omega
theorem St.vec_cap (hS : St w0 w (vec e Q.sz (.slice A len cap) len cs :: l)) : len ≤ cap := by
 obtain ⟨F, ⟨hx, hF⟩, hlt⟩ := hS.head
 rcases hF with ⟨hv, hn0, _⟩ | ⟨g, cap', cur, hv, rfl, hg, hnc, hcm, hcs, htake⟩
 ·omega
 ·cases hv; exact hnc
theorem yslw (ht : sliceB P t = some (e, Q.sz, by_)) (hx : ev E x = .slice A len cap) (ha : ev E a = .int kl lo) (hb' : ev E b = .int kh hi) (hS : St w0 w (vec e Q.sz (.slice A len cap) len cs :: l)) (h : RepL Q ρ xs cs)
  (hb : inb lo xs.length ∧ lo ≤ hi ∧ hi ≤ xs.length) (hm : m = hi - lo) :
  Yl P E ⟨dd, .slice t x (some a) (some b) none, ty, pos, af, g⟩ (.slice (some ((adr A).add (lo.toNat * Q.sz))) m.toNat (cap - lo.toNat)) := by
 have hn := hS.vec_n h
 have hc := hS.vec_cap
 have hA := hS.vec_some h hb.1
 obtain ⟨⟨h0, h1⟩, h2, h3⟩ := hb
 refine ysub_gen (some a) (some b) ht hx ⟨_, ha⟩ ⟨_, hb'⟩ ⟨h0, h2⟩ ⟨?_, by omega, rfl, by omega⟩
 rw [if_neg (by omega), hA]; rfl
theorem yixw (ht : sliceB P t = some (e, Q.sz, by_)) (hx : ev E x = .slice (some ((adr A).add (o.toNat * Q.sz))) m.toNat cap) (hy : ev E y = .int k i) (hb : 0 ≤ o ∧ inb i m.toNat) :
  Yl P E ⟨dd, .indexAddr t x y, ty, pos, af, g⟩ (.pointer (some ((adr A).add ((o + i).toNat * Q.sz)))) := by
 obtain ⟨h0, h1, h2⟩ := hb
 have q := yl_index_r (P := P) (E := E) (d := dd) (ty := ty) (pos := pos) (af := af) (g := g) ht hx hy rfl h1 h2
 have e1 : (adr (some ((adr A).add (o.toNat * Q.sz)))).add (i.toNat * Q.sz) = (adr A).add ((o + i).toNat * Q.sz) := by
  show ((adr A).add (o.toNat * Q.sz)).add (i.toNat * Q.sz) = _
  rw [adr_add2, ← Nat.add_mul]
  congr 2
  omega
 rwa [e1] at q
end
end Go.Proofs.Ytfkncjfpgflafaa.X
