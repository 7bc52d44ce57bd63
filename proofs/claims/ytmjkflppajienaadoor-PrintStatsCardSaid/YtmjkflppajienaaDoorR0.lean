/- What is known of the program's variables: tables that are as a row lists them, errors that are not nil. -/
import Derived.Orders
namespace Go.Proofs.YtmjkflppajienaaDoor.R
open Go
set_option linter.unusedVariables false
inductive KV where
  | tab (g : Nat) (vs : List Value)
  | err (g : Nat)
def KV.holds (c : Nat → Nat → Option Value → Prop) : KV → Prop
  | .tab g vs => ∀ i, c g i vs[i]?
  | .err g => ∃ t p, ∀ i, c g i [Value.iface t p][i]?
/-- The variables of which something is known. -/
def kvs : List KV := [.tab 3 ((List.range 20).map fun i => Value.int .u64 ((10 ^ i : Nat) : Int))]
/-- What is known of cells that nobody writes. -/
def Known (c : Nat → Nat → Option Value → Prop) : Prop := ∀ k ∈ kvs, k.holds c
theorem Known.mono {c c' : Nat → Nat → Option Value → Prop} (h : ∀ b o v, c b o v → c' b o v) : Known c → Known c' := fun k x hx => by
  have := k x hx
  cases x with
  | tab g vs => exact fun i => h _ _ _ (this i)
  | err g => obtain ⟨t, p, hc⟩ := this; exact ⟨t, p, fun i => h _ _ _ (hc i)⟩
end Go.Proofs.YtmjkflppajienaaDoor.R
