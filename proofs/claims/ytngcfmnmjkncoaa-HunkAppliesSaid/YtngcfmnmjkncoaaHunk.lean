/- What this seat's three laws share: a row of strings that came in, as the walks read it; no condition but the typed premises. -/
import Derived.Test.YtngcfmnmjkncoaaRows
import Derived.Test.YtngcfmnmjkncoaaWMore
import Derived.ProofKit
import Derived.OpenShut
import Derived.SliceStrings
namespace Go.Proofs.Ytngcfmnmjkncoaa.Hunk
open Go.ChangeShapes Go.WideShapes Go.ChangeAt Go.RowKit
open Go.Proofs.YtngcfmnmjkncoaaW.PrintWords Go.Proofs.YtngcfmnmjkncoaaW.PrintLast Go.Proofs.YtngcfmnmjkncoaaW.PrintMore
theorem row_strings {H : Type} {enc : TypeId × Value → H} {W : World} {fuel : Nat} {c : Value} {x : DataW H × List MemPlace}
    (hf : DataW.trod enc Try.prog W 0 (fun _ => true) true fuel 22 [c] = some x) :
    ∃ (a : Option Addr) (l : List ByteArray) (cap : Nat), c = .slice a l.length cap ∧ l.length ≤ cap ∧ Kd.C Kd.string W a l.length l := by
  rcases open_strings Try.underlying22 Try.underlying9 (by kernel_rfl) hf with ⟨hcs, _⟩ | ⟨a, len, cap, ss, hcs, _, hl, hm, hz, _, hcell, _⟩
  · simp only [List.cons.injEq, and_true] at hcs
    exact ⟨none, [], 0, hcs, Nat.le_refl _, Kd.C_of_reads (h1 := fun _ => rfl) (d := ByteArray.empty) ⟨rfl, by simp, fun h => by simp at h⟩⟩
  · simp only [List.cons.injEq, and_true] at hcs
    have hz' : ss.length = cap := by simpa using hz
    have e : (ss.take len).length = len := by rw [List.length_take]; omega
    refine ⟨some a, ss.take len, cap, by rw [e]; exact hcs, by omega, Kd.C_of_reads (h1 := fun _ => rfl) (d := ByteArray.empty) ⟨rfl, ?_, fun _ => ⟨a, rfl, fun j hj => ?_⟩⟩⟩
    · unfold maxLen at hm; omega
    · rw [hcell j (by omega), List.getD_eq_getElem?_getD, List.getD_eq_getElem?_getD, List.getElem?_take_of_lt (by omega)]
theorem row_shared {W : World} {a : Option Addr} {l : List ByteArray} {cap : Nat} (hl : l.length ≤ cap) (h : Kd.C Kd.string W a l.length l) :
    Kd.V Kd.string 9 W W.heap.size (fun k => k < W.heap.size) (.slice a l.length cap) l := Kd.V_mk hl (Kd.C_F Kd.heap_string h)
end Go.Proofs.Ytngcfmnmjkncoaa.Hunk
