/-
  No cell of these rows narrows 'for every input' (looked for: loops, veiled, ifaces, maps, wideKeys, modest, calm, conditions, laid).
  DERIVED. THE GIVEN ROWS OF THIS SEAT. 3 by the template 'for every input the law returns true; each argument reads behind the call as it read before'; 0 by the template 'total and deterministic' (their statements: YtngcfmnmjkncoaaTotals.lean).
  GIVEN WITH THE SEED: the statements are not yours to turn. If you find one false, say at which input.
  Laid BY PROGRAM, IN A SANDBOX (cutbox-rows.mjs): the forced cells as the released guide's own fill.sh prints them over the translation 1282f85666be6201… (all of the seat's roots in one cut). By AI agents, Wed Nov 11 2026. No macro, syntax, notation, axiom, sorry.
-/
import Derived.Test.YtngcfmnmjkncoaaChecked
import GoSem.Claim
import GoSem.ClaimJoined
import GoSem.ClaimMapViews
import Derived.JoinedTies
import Derived.KernelRfl
namespace Go.Proofs.Ytngcfmnmjkncoaa
/- THE CELL 'sum', in the pinned program and in every row, IS THE sha256 OF THE DUMP (.gsa) THAT YtngcfmnmjkncoaaProg.lean LOADS. Nothing in Lean hashes anything: it is a label: what it is worth is what the hold of that sum in a sandbox is worth. -/
noncomputable def Try.pinned : Pinned := { name := "ytngcfmnmjkncoaa", sum := "1282f85666be6201aa322ee0a8db37c1396b0a4751486a5c8bb6a085ecb94648", checked := Try.checked }
namespace Rows
def none {H : Type} : Left H := { results := [], args := [] }

/-- 'quitclaimlaw11.HunkApplies': WHATEVER THE INPUT: true; the input reads as it did. -/
def hunkAppliesSpec : ChangeSpec := { name := "hunkApplies", fn := fun _ => fun
  | [d1, d2] => { results := [.lit (.bool true)], args := [d1, d2] }
  | _ => none }
def hunkAppliesRow : OpenClaim := { program := "ytngcfmnmjkncoaa", sum := "1282f85666be6201aa322ee0a8db37c1396b0a4751486a5c8bb6a085ecb94648", func := "quitclaim/quitclaimlaw11.HunkApplies", spec := "hunkApplies", inPlace := ["internal/bytealg.IndexByteString", "internal/bytealg.IndexString"], unfollowed := true, recurses := true, named := ["internal/bytealg.MaxLen"], apart := false }
def HunkAppliesSaid : Prop := hunkAppliesRow.holds Try.pinned (OpenSpec.ofChange hunkAppliesSpec)

/-- ITS FALSE NEIGHBOUR: 'it returns false'. Refute it at one input. -/
def hunkAppliesWrong : ChangeSpec := { name := "hunkApplies", fn := fun _ => fun
  | [d1, d2] => { results := [.lit (.bool false)], args := [d1, d2] }
  | _ => none }
def HunkAppliesWrongFalsely : Prop := hunkAppliesRow.holds Try.pinned (OpenSpec.ofChange hunkAppliesWrong)

/-- 'quitclaimlaw11.HunkSwaps': WHATEVER THE INPUT: true; the input reads as it did. -/
def hunkSwapsSpec : ChangeSpec := { name := "hunkSwaps", fn := fun _ => fun
  | [d1, d2, d3] => { results := [.lit (.bool true)], args := [d1, d2, d3] }
  | _ => none }
def hunkSwapsRow : OpenClaim := { program := "ytngcfmnmjkncoaa", sum := "1282f85666be6201aa322ee0a8db37c1396b0a4751486a5c8bb6a085ecb94648", func := "quitclaim/quitclaimlaw11.HunkSwaps", spec := "hunkSwaps", inPlace := ["internal/bytealg.IndexByteString", "internal/bytealg.IndexString"], unfollowed := true, recurses := true, named := ["internal/bytealg.MaxLen"], apart := false }
def HunkSwapsSaid : Prop := hunkSwapsRow.holds Try.pinned (OpenSpec.ofChange hunkSwapsSpec)

/-- ITS FALSE NEIGHBOUR: 'it returns false'. Refute it at one input. -/
def hunkSwapsWrong : ChangeSpec := { name := "hunkSwaps", fn := fun _ => fun
  | [d1, d2, d3] => { results := [.lit (.bool false)], args := [d1, d2, d3] }
  | _ => none }
def HunkSwapsWrongFalsely : Prop := hunkSwapsRow.holds Try.pinned (OpenSpec.ofChange hunkSwapsWrong)

/-- 'quitclaimlaw11.HunkAll': WHATEVER THE INPUT: true; the input reads as it did. -/
def hunkAllSpec : ChangeSpec := { name := "hunkAll", fn := fun _ => fun
  | [d1, d2] => { results := [.lit (.bool true)], args := [d1, d2] }
  | _ => none }
def hunkAllRow : OpenClaim := { program := "ytngcfmnmjkncoaa", sum := "1282f85666be6201aa322ee0a8db37c1396b0a4751486a5c8bb6a085ecb94648", func := "quitclaim/quitclaimlaw11.HunkAll", spec := "hunkAll", inPlace := ["internal/bytealg.IndexByteString", "internal/bytealg.IndexString"], unfollowed := true, recurses := true, named := ["internal/bytealg.MaxLen"], apart := false }
def HunkAllSaid : Prop := hunkAllRow.holds Try.pinned (OpenSpec.ofChange hunkAllSpec)

/-- ITS FALSE NEIGHBOUR: 'it returns false'. Refute it at one input. -/
def hunkAllWrong : ChangeSpec := { name := "hunkAll", fn := fun _ => fun
  | [d1, d2] => { results := [.lit (.bool false)], args := [d1, d2] }
  | _ => none }
def HunkAllWrongFalsely : Prop := hunkAllRow.holds Try.pinned (OpenSpec.ofChange hunkAllWrong)

/- THE SECOND FORM. 'bulk': how many values and letters a reading holds, each counted each time it is reached (what is shared counts as often as it is met; a slice's spare places count too). A statement '..UptoSaid' is the law's where the arguments, and the package variables that the reading takes, are together of bulk at most 1048576: NARROWER than '..Said'. Prove '..Said' where nothing that the law and all that it calls make is longer than what came in: it says more and counts as full. Else prove '..UptoSaid'. A law counts once. -/
mutual
def uptoBulk {H : Type} : DataW H → Nat
  | .lit (.string bytes) => bytes.length + 1
  | .lit _ => 1
  | .nil => 1
  | .ptr d => uptoBulk d + 1
  | .slice elems spare => uptoBulkAll elems + uptoBulkAll spare + 1
  | .agg parts => uptoBulkAll parts + 1
  | .iface _ d => uptoBulk d + 1
  | .map entries => uptoBulkEntries entries + 1
  | .held _ => 1
def uptoBulkAll {H : Type} : List (DataW H) → Nat
  | [] => 0
  | d :: r => uptoBulk d + uptoBulkAll r
def uptoBulkEntries {H : Type} : List (Lit × DataW H) → Nat
  | [] => 0
  | x :: r => uptoBulkEntry x + uptoBulkEntries r
def uptoBulkEntry {H : Type} : Lit × DataW H → Nat
  | (.string bytes, d) => bytes.length + uptoBulk d + 1
  | (_, d) => uptoBulk d + 1
 end
def uptoSmall : (H : Type) → List (DataW H) → Bool := fun _ ds => decide (uptoBulkAll ds ≤ 1048576)
def OpenSpec.upto (s : _root_.Go.ChangeSpec) : _root_.Go.OpenSpec := { _root_.Go.OpenSpec.ofChange s with cond := some uptoSmall }

/-- 'quitclaimlaw11.HunkApplies', WHERE WHAT IT READS IS OF BULK AT MOST 1048576: true; the input reads as it did. -/
def hunkAppliesUptoRow : OpenClaim := { program := "ytngcfmnmjkncoaa", sum := "1282f85666be6201aa322ee0a8db37c1396b0a4751486a5c8bb6a085ecb94648", func := "quitclaim/quitclaimlaw11.HunkApplies", spec := "hunkApplies", inPlace := ["internal/bytealg.IndexByteString", "internal/bytealg.IndexString"], unfollowed := true, recurses := true, named := ["internal/bytealg.MaxLen"], apart := false, narrowed := true }
def HunkAppliesUptoSaid : Prop := hunkAppliesUptoRow.holds Try.pinned (OpenSpec.upto hunkAppliesSpec)

/-- 'quitclaimlaw11.HunkSwaps', WHERE WHAT IT READS IS OF BULK AT MOST 1048576: true; the input reads as it did. -/
def hunkSwapsUptoRow : OpenClaim := { program := "ytngcfmnmjkncoaa", sum := "1282f85666be6201aa322ee0a8db37c1396b0a4751486a5c8bb6a085ecb94648", func := "quitclaim/quitclaimlaw11.HunkSwaps", spec := "hunkSwaps", inPlace := ["internal/bytealg.IndexByteString", "internal/bytealg.IndexString"], unfollowed := true, recurses := true, named := ["internal/bytealg.MaxLen"], apart := false, narrowed := true }
def HunkSwapsUptoSaid : Prop := hunkSwapsUptoRow.holds Try.pinned (OpenSpec.upto hunkSwapsSpec)

/-- 'quitclaimlaw11.HunkAll', WHERE WHAT IT READS IS OF BULK AT MOST 1048576: true; the input reads as it did. -/
def hunkAllUptoRow : OpenClaim := { program := "ytngcfmnmjkncoaa", sum := "1282f85666be6201aa322ee0a8db37c1396b0a4751486a5c8bb6a085ecb94648", func := "quitclaim/quitclaimlaw11.HunkAll", spec := "hunkAll", inPlace := ["internal/bytealg.IndexByteString", "internal/bytealg.IndexString"], unfollowed := true, recurses := true, named := ["internal/bytealg.MaxLen"], apart := false, narrowed := true }
def HunkAllUptoSaid : Prop := hunkAllUptoRow.holds Try.pinned (OpenSpec.upto hunkAllSpec)

end Rows
end Go.Proofs.Ytngcfmnmjkncoaa
