/- Plain programs: rules that carry what follows into the branches. -/
import Derived.Test.YtnnmbmgnpdcefaaYP
namespace Go.Proofs.Ytnnmbmgnpdcefaa.X
open Go Go.RowKit
set_option linter.unusedVariables false
section
variable {α β γ δ σ : Type} {Q : β → Prop}
theorem ok_bd_some {a : α} {k : α → Option β} (h : Ok (k a) Q) : Ok (bd (some a) k) Q := h
end
end Go.Proofs.Ytnnmbmgnpdcefaa.X
