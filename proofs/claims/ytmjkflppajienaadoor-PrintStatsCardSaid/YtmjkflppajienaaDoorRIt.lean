/- Iterators: what they have in common; no condition but the typed premises. -/
import Derived.Test.YtmjkflppajienaaDoorR3
import Derived.Shelf.Abstract
import Derived.Shelf.RegionOpen
import Derived.WalkKit
import Derived.OwnWalkIn
import Derived.TacticsInMore
import Derived.LoopNIn
import Derived.LoopIn
import Derived.Deep.RegionHeld
import Derived.Lib.Bytealg
namespace Go.Proofs.YtmjkflppajienaaDoor.R
open Go Go.RowKit
set_option linter.unusedVariables false
/-- The pieces of a text between bytes c. -/
def spc (c : UInt8) : Nat → ByteArray → List ByteArray
  | 0, s => [s]
  | n + 1, s => if Lib.indexByte s.data.toList c < 0 then [s] else s.extract 0 (Lib.indexByte s.data.toList c).toNat :: spc c n (s.extract ((Lib.indexByte s.data.toList c).toNat + 1) s.size)
def spl (d s : ByteArray) (z : Int) : Option (List ByteArray) := if z = 0 ∧ s.size ≤ 4611686018427387904 then (match d.data.toList with
  | [c] => some (spc c s.size s)
  | _ => none) else none
/-- The lines of a text, each with its end. -/
def lnc : Nat → ByteArray → List ByteArray
  | 0, _ => []
  | n + 1, s => if s.size = 0 then [] else if Lib.indexByte s.data.toList 10 < 0 then [s] else s.extract 0 ((Lib.indexByte s.data.toList 10).toNat + 1) :: lnc n (s.extract ((Lib.indexByte s.data.toList 10).toNat + 1) s.size)
def lns (s : ByteArray) : Option (List ByteArray) := if s.size ≤ 4611686018427387904 then some (lnc s.size s) else none
theorem idx_lt (l : List UInt8) (c : UInt8) : Lib.indexByte l c < l.length := by
  induction l with
  | nil => unfold Lib.indexByte; simp
  | cons b l ih =>
    unfold Lib.indexByte
    rw [List.length_cons]
    split
    · omega
    · split
      · omega
      · omega
/-- How much is left in a box. -/
def left (B : Nat) (w : World) : Nat := match w.cell? ⟨B, 0, none⟩ with | some (.string s) => s.size | _ => 0
theorem box_cell {W : World} {B : Nat} {v : Value} {t : TypeId} (h : W.heap[B]? = some (.cells #[v] t (0, 0))) : W.cell? ⟨B, 0, none⟩ = some v := by simp [World.cell?, h]
theorem box_frozen {W : World} {B : Nat} {v : Value} {t : TypeId} (h : W.heap[B]? = some (.cells #[v] t (0, 0))) : W.frozen? ⟨B, 0, none⟩ = false := by simp [World.frozen?, h]
theorem setCell_put {W : World} {B : Nat} {u v : Value} {t : TypeId} (h : W.heap[B]? = some (.cells #[u] t (0, 0))) : W.setCell ⟨B, 0, none⟩ v = W.putObj B (.cells #[v] t (0, 0)) := by
  obtain ⟨hlt, hv⟩ := Array.getElem?_eq_some_iff.1 h
  unfold World.setCell World.putObj
  congr 1
  apply Array.ext
  · simp
  · intro k h1 h2
    simp only [Array.getElem_modify]
    by_cases hk : B = k
    · subst hk; simp [hv]
    · rw [if_neg hk, Array.getElem_setIfInBounds_ne _ hk]
theorem rdl_one {w : World} {F : Fz} {cur : Array Value} {v : Value} (h : RdL w F cur.toList [.s v]) : cur = #[v] := by
  obtain ⟨l⟩ := cur
  change RdL w F l [.s v] at h
  cases h with
  | cons h1 h2 h3 => cases h3; cases h2; rfl
end Go.Proofs.YtmjkflppajienaaDoor.R
