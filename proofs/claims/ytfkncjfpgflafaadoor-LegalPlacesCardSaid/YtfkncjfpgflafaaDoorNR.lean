/- Sites that are cut out of rooms pass legal.Check. Plain. -/
import Derived.Test.YtfkncjfpgflafaaDoorNQ
namespace Go.Proofs.YtfkncjfpgflafaaDoor.X
open Go Go.RowKit
set_option linter.unusedVariables false
set_option linter.unusedSimpArgs false
theorem Cut.check {f : T_floor_Floor} (hf : FlN f) (hp : f.Ports = []) {n : Nat} {area ord : List Int} {free : List T_legal_room} {out : List T_floor_Site} (la : area.length = n) (nf : n ≤ 30) (ho : Ord n ord) (lo : out.length = n) (hc : Cut f area ord n free out) : Ok (P_legal_Check f area out) (fun r => r = 0) := by
  refine LCheck_ok hf hp (by omega) (by omega) (fun i i0 i1 => ?_) fun i j i0 ij j1 hr => ?_
  · obtain ⟨a, a0, a1, rfl⟩ := ho.sur i i0 (by omega)
    exact hc.each a a0 a1
  · obtain ⟨a, a0, a1, rfl⟩ := ho.sur i i0 (by omega)
    obtain ⟨b, b0, b1, rfl⟩ := ho.sur j (by omega) (by omega)
    by_cases q : a < b
    · exact hc.apart a b a0 q b1 hr
    · by_cases p : b < a
      · exact (hc.apart b a b0 p a1 hr.symm).symm
      · rw [show a = b by omega] at ij; omega
end Go.Proofs.YtfkncjfpgflafaaDoor.X
