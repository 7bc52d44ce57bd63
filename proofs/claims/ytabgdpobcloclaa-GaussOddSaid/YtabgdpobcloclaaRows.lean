/-
  No cell of these rows narrows 'for every input' (looked for: loops, veiled, ifaces, maps, wideKeys, modest, calm, conditions, laid).
  DERIVED. THE GIVEN ROWS OF THIS SEAT. 7 by the template 'for every input the law returns true; each argument reads behind the call as it read before'; 0 by the template 'total and deterministic' (their statements: YtabgdpobcloclaaTotals.lean).
  GIVEN WITH THE SEED: the statements are not yours to turn. If you find one false, say at which input.
  Laid BY PROGRAM, IN A SANDBOX (cutbox-rows.mjs): the forced cells as the released guide's own fill.sh prints them over the translation f013b7c2201a7b0a… (all of the seat's roots in one cut). By AI agents, Wed Nov 11 2026. No macro, syntax, notation, axiom, sorry.
-/
import Derived.Test.YtabgdpobcloclaaChecked
import GoSem.Claim
import GoSem.ClaimJoined
import GoSem.ClaimMapViews
import Derived.JoinedTies
import Derived.KernelRfl
namespace Go.Proofs.Ytabgdpobcloclaa
/- THE CELL 'sum', in the pinned program and in every row, IS THE sha256 OF THE DUMP (.gsa) THAT YtabgdpobcloclaaProg.lean LOADS. Nothing in Lean hashes anything: it is a label: what it is worth is what the hold of that sum in a sandbox is worth. -/
noncomputable def Try.pinned : Pinned := { name := "ytabgdpobcloclaa", sum := "f013b7c2201a7b0a4ef5177e6bbfcca8cb5e0b0b390a3739db9678026786528c", checked := Try.checked }
namespace Rows
def none {H : Type} : Left H := { results := [], args := [] }

/-- 'quitclaimlaw01.WordTurns': WHATEVER THE INPUT: true; the input reads as it did. -/
def wordTurnsSpec : ChangeSpec := { name := "wordTurns", fn := fun _ => fun
  | [d1, d2] => { results := [.lit (.bool true)], args := [d1, d2] }
  | _ => none }
def wordTurnsRow : OpenClaim := { program := "ytabgdpobcloclaa", sum := "f013b7c2201a7b0a4ef5177e6bbfcca8cb5e0b0b390a3739db9678026786528c", func := "quitclaim/quitclaimlaw01.WordTurns", spec := "wordTurns", apart := false }
def WordTurnsSaid : Prop := wordTurnsRow.holds Try.pinned (OpenSpec.ofChange wordTurnsSpec)

/-- ITS FALSE NEIGHBOUR: 'it returns false'. Refute it at one input. -/
def wordTurnsWrong : ChangeSpec := { name := "wordTurns", fn := fun _ => fun
  | [d1, d2] => { results := [.lit (.bool false)], args := [d1, d2] }
  | _ => none }
def WordTurnsWrongFalsely : Prop := wordTurnsRow.holds Try.pinned (OpenSpec.ofChange wordTurnsWrong)

/-- 'quitclaimlaw01.WordBytes': WHATEVER THE INPUT: true; the input reads as it did. -/
def wordBytesSpec : ChangeSpec := { name := "wordBytes", fn := fun _ => fun
  | [d1, d2] => { results := [.lit (.bool true)], args := [d1, d2] }
  | _ => none }
def wordBytesRow : OpenClaim := { program := "ytabgdpobcloclaa", sum := "f013b7c2201a7b0a4ef5177e6bbfcca8cb5e0b0b390a3739db9678026786528c", func := "quitclaim/quitclaimlaw01.WordBytes", spec := "wordBytes", apart := false }
def WordBytesSaid : Prop := wordBytesRow.holds Try.pinned (OpenSpec.ofChange wordBytesSpec)

/-- ITS FALSE NEIGHBOUR: 'it returns false'. Refute it at one input. -/
def wordBytesWrong : ChangeSpec := { name := "wordBytes", fn := fun _ => fun
  | [d1, d2] => { results := [.lit (.bool false)], args := [d1, d2] }
  | _ => none }
def WordBytesWrongFalsely : Prop := wordBytesRow.holds Try.pinned (OpenSpec.ofChange wordBytesWrong)

/-- 'quitclaimlaw01.WordNumbers': WHATEVER THE INPUT: true; the input reads as it did. -/
def wordNumbersSpec : ChangeSpec := { name := "wordNumbers", fn := fun _ => fun
  | [d1, d2, d3, d4] => { results := [.lit (.bool true)], args := [d1, d2, d3, d4] }
  | _ => none }
def wordNumbersRow : OpenClaim := { program := "ytabgdpobcloclaa", sum := "f013b7c2201a7b0a4ef5177e6bbfcca8cb5e0b0b390a3739db9678026786528c", func := "quitclaim/quitclaimlaw01.WordNumbers", spec := "wordNumbers", apart := false }
def WordNumbersSaid : Prop := wordNumbersRow.holds Try.pinned (OpenSpec.ofChange wordNumbersSpec)

/-- ITS FALSE NEIGHBOUR: 'it returns false'. Refute it at one input. -/
def wordNumbersWrong : ChangeSpec := { name := "wordNumbers", fn := fun _ => fun
  | [d1, d2, d3, d4] => { results := [.lit (.bool false)], args := [d1, d2, d3, d4] }
  | _ => none }
def WordNumbersWrongFalsely : Prop := wordNumbersRow.holds Try.pinned (OpenSpec.ofChange wordNumbersWrong)

/-- 'quitclaimlaw22.GaussSums': WHATEVER THE INPUT: true; the input reads as it did. -/
def gaussSumsSpec : ChangeSpec := { name := "gaussSums", fn := fun _ => fun
  | [d1, d2, d3, d4, d5, d6] => { results := [.lit (.bool true)], args := [d1, d2, d3, d4, d5, d6] }
  | _ => none }
def gaussSumsRow : OpenClaim := { program := "ytabgdpobcloclaa", sum := "f013b7c2201a7b0a4ef5177e6bbfcca8cb5e0b0b390a3739db9678026786528c", func := "quitclaim/quitclaimlaw22.GaussSums", spec := "gaussSums", inPlace := ["math.archTrunc", "math.Float64bits", "math.Float64frombits"], unfollowed := true, recurses := true, apart := false }
def GaussSumsSaid : Prop := gaussSumsRow.holds Try.pinned (OpenSpec.ofChange gaussSumsSpec)

/-- ITS FALSE NEIGHBOUR: 'it returns false'. Refute it at one input. -/
def gaussSumsWrong : ChangeSpec := { name := "gaussSums", fn := fun _ => fun
  | [d1, d2, d3, d4, d5, d6] => { results := [.lit (.bool false)], args := [d1, d2, d3, d4, d5, d6] }
  | _ => none }
def GaussSumsWrongFalsely : Prop := gaussSumsRow.holds Try.pinned (OpenSpec.ofChange gaussSumsWrong)

/-- 'quitclaimlaw22.GaussInverses': WHATEVER THE INPUT: true; the input reads as it did. -/
def gaussInversesSpec : ChangeSpec := { name := "gaussInverses", fn := fun _ => fun
  | [d1, d2, d3, d4] => { results := [.lit (.bool true)], args := [d1, d2, d3, d4] }
  | _ => none }
def gaussInversesRow : OpenClaim := { program := "ytabgdpobcloclaa", sum := "f013b7c2201a7b0a4ef5177e6bbfcca8cb5e0b0b390a3739db9678026786528c", func := "quitclaim/quitclaimlaw22.GaussInverses", spec := "gaussInverses", inPlace := ["math.archTrunc", "math.Float64bits", "math.Float64frombits"], unfollowed := true, recurses := true, apart := false }
def GaussInversesSaid : Prop := gaussInversesRow.holds Try.pinned (OpenSpec.ofChange gaussInversesSpec)

/-- ITS FALSE NEIGHBOUR: 'it returns false'. Refute it at one input. -/
def gaussInversesWrong : ChangeSpec := { name := "gaussInverses", fn := fun _ => fun
  | [d1, d2, d3, d4] => { results := [.lit (.bool false)], args := [d1, d2, d3, d4] }
  | _ => none }
def GaussInversesWrongFalsely : Prop := gaussInversesRow.holds Try.pinned (OpenSpec.ofChange gaussInversesWrong)

/-- 'quitclaimlaw22.GaussOdd': WHATEVER THE INPUT: true; the input reads as it did. -/
def gaussOddSpec : ChangeSpec := { name := "gaussOdd", fn := fun _ => fun
  | [d1, d2, d3] => { results := [.lit (.bool true)], args := [d1, d2, d3] }
  | _ => none }
def gaussOddRow : OpenClaim := { program := "ytabgdpobcloclaa", sum := "f013b7c2201a7b0a4ef5177e6bbfcca8cb5e0b0b390a3739db9678026786528c", func := "quitclaim/quitclaimlaw22.GaussOdd", spec := "gaussOdd", inPlace := ["math.archTrunc", "math.Float64bits", "math.Float64frombits"], unfollowed := true, recurses := true, apart := false }
def GaussOddSaid : Prop := gaussOddRow.holds Try.pinned (OpenSpec.ofChange gaussOddSpec)

/-- ITS FALSE NEIGHBOUR: 'it returns false'. Refute it at one input. -/
def gaussOddWrong : ChangeSpec := { name := "gaussOdd", fn := fun _ => fun
  | [d1, d2, d3] => { results := [.lit (.bool false)], args := [d1, d2, d3] }
  | _ => none }
def GaussOddWrongFalsely : Prop := gaussOddRow.holds Try.pinned (OpenSpec.ofChange gaussOddWrong)

/-- 'quitclaimlaw22.GaussTallies': WHATEVER THE INPUT: true; the input reads as it did. -/
def gaussTalliesSpec : ChangeSpec := { name := "gaussTallies", fn := fun _ => fun
  | [d1, d2, d3] => { results := [.lit (.bool true)], args := [d1, d2, d3] }
  | _ => none }
def gaussTalliesRow : OpenClaim := { program := "ytabgdpobcloclaa", sum := "f013b7c2201a7b0a4ef5177e6bbfcca8cb5e0b0b390a3739db9678026786528c", func := "quitclaim/quitclaimlaw22.GaussTallies", spec := "gaussTallies", inPlace := ["math.archTrunc", "math.Float64bits", "math.Float64frombits"], unfollowed := true, recurses := true, apart := false }
def GaussTalliesSaid : Prop := gaussTalliesRow.holds Try.pinned (OpenSpec.ofChange gaussTalliesSpec)

/-- ITS FALSE NEIGHBOUR: 'it returns false'. Refute it at one input. -/
def gaussTalliesWrong : ChangeSpec := { name := "gaussTallies", fn := fun _ => fun
  | [d1, d2, d3] => { results := [.lit (.bool false)], args := [d1, d2, d3] }
  | _ => none }
def GaussTalliesWrongFalsely : Prop := gaussTalliesRow.holds Try.pinned (OpenSpec.ofChange gaussTalliesWrong)

/- THE SECOND FORM. 'bulk': how many values and letters a reading holds, each counted each time it is reached (what is shared counts as often as it is met; a slice's spare places count too). A statement '..UptoSaid' is the law's where the arguments, and the package variables that the reading takes, are together of bulk at most 1048576: NARROWER than '..Said'. Prove '..Said' where nothing that the law and all that it calls make is longer than what came in: it says more and counts as full. Else prove '..UptoSaid'. A law counts once. -/
mutual
def uptoBulk {H : Type} : DataW H → Nat
  | .lit (.string bytes) => bytes.length + 1
  | .lit _ => 1
  | .nil => 1
  | .ptr d => uptoBulk d + 1
  | .slice elems spare => uptoBulkAll elems + uptoBulkAll spare + 1
  | .agg parts => uptoBulkAll parts + 1
  | .iface _ d => uptoBulk d + 1
  | .map entries => uptoBulkEntries entries + 1
  | .held _ => 1
def uptoBulkAll {H : Type} : List (DataW H) → Nat
  | [] => 0
  | d :: r => uptoBulk d + uptoBulkAll r
def uptoBulkEntries {H : Type} : List (Lit × DataW H) → Nat
  | [] => 0
  | x :: r => uptoBulkEntry x + uptoBulkEntries r
def uptoBulkEntry {H : Type} : Lit × DataW H → Nat
  | (.string bytes, d) => bytes.length + uptoBulk d + 1
  | (_, d) => uptoBulk d + 1
 end
def uptoSmall : (H : Type) → List (DataW H) → Bool := fun _ ds => decide (uptoBulkAll ds ≤ 1048576)
def OpenSpec.upto (s : _root_.Go.ChangeSpec) : _root_.Go.OpenSpec := { _root_.Go.OpenSpec.ofChange s with cond := some uptoSmall }

/-- 'quitclaimlaw01.WordTurns', WHERE WHAT IT READS IS OF BULK AT MOST 1048576: true; the input reads as it did. -/
def wordTurnsUptoRow : OpenClaim := { program := "ytabgdpobcloclaa", sum := "f013b7c2201a7b0a4ef5177e6bbfcca8cb5e0b0b390a3739db9678026786528c", func := "quitclaim/quitclaimlaw01.WordTurns", spec := "wordTurns", apart := false, narrowed := true }
def WordTurnsUptoSaid : Prop := wordTurnsUptoRow.holds Try.pinned (OpenSpec.upto wordTurnsSpec)

/-- 'quitclaimlaw01.WordBytes', WHERE WHAT IT READS IS OF BULK AT MOST 1048576: true; the input reads as it did. -/
def wordBytesUptoRow : OpenClaim := { program := "ytabgdpobcloclaa", sum := "f013b7c2201a7b0a4ef5177e6bbfcca8cb5e0b0b390a3739db9678026786528c", func := "quitclaim/quitclaimlaw01.WordBytes", spec := "wordBytes", apart := false, narrowed := true }
def WordBytesUptoSaid : Prop := wordBytesUptoRow.holds Try.pinned (OpenSpec.upto wordBytesSpec)

/-- 'quitclaimlaw01.WordNumbers', WHERE WHAT IT READS IS OF BULK AT MOST 1048576: true; the input reads as it did. -/
def wordNumbersUptoRow : OpenClaim := { program := "ytabgdpobcloclaa", sum := "f013b7c2201a7b0a4ef5177e6bbfcca8cb5e0b0b390a3739db9678026786528c", func := "quitclaim/quitclaimlaw01.WordNumbers", spec := "wordNumbers", apart := false, narrowed := true }
def WordNumbersUptoSaid : Prop := wordNumbersUptoRow.holds Try.pinned (OpenSpec.upto wordNumbersSpec)

/-- 'quitclaimlaw22.GaussSums', WHERE WHAT IT READS IS OF BULK AT MOST 1048576: true; the input reads as it did. -/
def gaussSumsUptoRow : OpenClaim := { program := "ytabgdpobcloclaa", sum := "f013b7c2201a7b0a4ef5177e6bbfcca8cb5e0b0b390a3739db9678026786528c", func := "quitclaim/quitclaimlaw22.GaussSums", spec := "gaussSums", inPlace := ["math.archTrunc", "math.Float64bits", "math.Float64frombits"], unfollowed := true, recurses := true, apart := false, narrowed := true }
def GaussSumsUptoSaid : Prop := gaussSumsUptoRow.holds Try.pinned (OpenSpec.upto gaussSumsSpec)

/-- 'quitclaimlaw22.GaussInverses', WHERE WHAT IT READS IS OF BULK AT MOST 1048576: true; the input reads as it did. -/
def gaussInversesUptoRow : OpenClaim := { program := "ytabgdpobcloclaa", sum := "f013b7c2201a7b0a4ef5177e6bbfcca8cb5e0b0b390a3739db9678026786528c", func := "quitclaim/quitclaimlaw22.GaussInverses", spec := "gaussInverses", inPlace := ["math.archTrunc", "math.Float64bits", "math.Float64frombits"], unfollowed := true, recurses := true, apart := false, narrowed := true }
def GaussInversesUptoSaid : Prop := gaussInversesUptoRow.holds Try.pinned (OpenSpec.upto gaussInversesSpec)

/-- 'quitclaimlaw22.GaussOdd', WHERE WHAT IT READS IS OF BULK AT MOST 1048576: true; the input reads as it did. -/
def gaussOddUptoRow : OpenClaim := { program := "ytabgdpobcloclaa", sum := "f013b7c2201a7b0a4ef5177e6bbfcca8cb5e0b0b390a3739db9678026786528c", func := "quitclaim/quitclaimlaw22.GaussOdd", spec := "gaussOdd", inPlace := ["math.archTrunc", "math.Float64bits", "math.Float64frombits"], unfollowed := true, recurses := true, apart := false, narrowed := true }
def GaussOddUptoSaid : Prop := gaussOddUptoRow.holds Try.pinned (OpenSpec.upto gaussOddSpec)

/-- 'quitclaimlaw22.GaussTallies', WHERE WHAT IT READS IS OF BULK AT MOST 1048576: true; the input reads as it did. -/
def gaussTalliesUptoRow : OpenClaim := { program := "ytabgdpobcloclaa", sum := "f013b7c2201a7b0a4ef5177e6bbfcca8cb5e0b0b390a3739db9678026786528c", func := "quitclaim/quitclaimlaw22.GaussTallies", spec := "gaussTallies", inPlace := ["math.archTrunc", "math.Float64bits", "math.Float64frombits"], unfollowed := true, recurses := true, apart := false, narrowed := true }
def GaussTalliesUptoSaid : Prop := gaussTalliesUptoRow.holds Try.pinned (OpenSpec.upto gaussTalliesSpec)

end Rows
end Go.Proofs.Ytabgdpobcloclaa
