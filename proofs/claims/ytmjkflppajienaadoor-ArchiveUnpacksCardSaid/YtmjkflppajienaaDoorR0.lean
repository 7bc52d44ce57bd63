/- What is known of the program's variables: nothing is asked. -/
import Derived.Orders
namespace Go.Proofs.YtmjkflppajienaaDoor.R
open Go
set_option linter.unusedVariables false
/-- What is known of cells that nobody writes. -/
def Known (c : Nat → Nat → Value → Prop) : Prop := True
theorem Known.mono {c c' : Nat → Nat → Value → Prop} (h : ∀ b o v, c b o v → c' b o v) : Known c → Known c' := fun k => k
end Go.Proofs.YtmjkflppajienaaDoor.R
