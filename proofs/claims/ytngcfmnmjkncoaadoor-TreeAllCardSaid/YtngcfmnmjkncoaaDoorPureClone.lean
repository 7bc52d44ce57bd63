/- slices.Clone of texts; no condition. -/
import Derived.Test.YtngcfmnmjkncoaaDoorQV
import Derived.Test.YtngcfmnmjkncoaaDoorQF0
namespace Go.Proofs.YtngcfmnmjkncoaaDoor.PureC
open Go Go.RowKit Go.Proofs.YtngcfmnmjkncoaaDoor.Q Go.Proofs.YtngcfmnmjkncoaaDoor.Pu
set_option linter.unusedVariables false
theorem clone_ (x : List ByteArray) (h : x.length ≤ 1000) : slices_Clone_string_string.f x = some x := by
  unfold slices_Clone_string_string.f nq
  cases x with
  | nil => rfl
  | cons y ys => dsimp only; rw [if_neg (by decide), ap_ (by rw [List.length_nil]; omega)]; rfl
end Go.Proofs.YtngcfmnmjkncoaaDoor.PureC
