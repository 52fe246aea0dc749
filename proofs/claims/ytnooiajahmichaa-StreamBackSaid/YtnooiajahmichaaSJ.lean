/- stream.Decode of bytes that begin as a stream does. Plain. -/
import Derived.Test.YtnooiajahmichaaSI
namespace Go.Proofs.Ytnooiajahmichaa.X
open Go Go.RowKit
set_option linter.unusedVariables false
theorem rget {x : List Int} (hx : Bytes x) (hl : x.length ≤ 100000) {p : Int} {pn : Nat} (hp : p = pn) {m : Int} {mn : Nat} (hm : m = mn) {ov : Bool} (h1 : pn ≤ 1000000) (h2 : mn ≤ 32) : Ok (P_stream_reader_bits (T_stream_reader.mk x p ov) m) (fun r => r.1 = rdB x pn mn ∧ r.2.1 = (pn + mn : Nat)) := by
  subst hp hm
  exact rbits_ok hx (by omega) h2 (by omega)
/-- Where the reader of the pads ends, in bytes. -/
def endB (x : List Int) (o : Nat) : Nat := (8 * o + (8 + 13 * rdB x (8 * o) 8) + (8 + 13 * rdB x (8 * o + (8 + 13 * rdB x (8 * o) 8)) 8) + 7) / 8
/-- A part that fails: it is cut off, or its sum is wrong. -/
def Falls (E : Int → Prop) (x : List Int) (num : Int) (o e : Nat) : Prop := (x.length < e + 2 ∧ E 11) ∨ (e + 2 ≤ x.length ∧ ¬ PartAt x num o e ∧ E 12)
end Go.Proofs.Ytnooiajahmichaa.X
