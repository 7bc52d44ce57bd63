/- What came in, read by its type; no condition but the typed premises. -/
import Derived.Test.YtngcfmnmjkncoaaDoorQO
import Derived.WideShapes
import Derived.ShutString
import Derived.ChangeOld
namespace Go.Proofs.YtngcfmnmjkncoaaDoor.Q
open Go Go.RowKit Go.ChangeShapes Go.WideShapes
open Go.ChangeMaps (open_string shut_string)
set_option linter.unusedVariables false
variable {H : Type} {enc : TypeId × Value → H} {P : Program} {w : World} {held : Bool} {base : Nat}
theorem rdv_string {t : TypeId} {v : Value} {d : DataW H} {p : List MemPlace} (ht : P.underlying t = some .string) (hv : Value.okWide P w .any base t v) (h : DataW.Trod enc P w 0 (fun _ => true) held t v d p) : ∃ l, RdS w (FA w) (fun _ => .free) v (vs l) := by
  obtain ⟨s, rfl, rfl, rfl, y⟩ := open_string ht hv h
  exact ⟨s, .p (.s _)⟩
theorem rdv_strings {t e : TypeId} {v : Value} {d : DataW H} {p : List MemPlace} (ht : P.underlying t = some (.slice e)) (he : P.underlying e = some .string) (hc : P.cellsOf e = 1) (hv : Value.okWide P w .any base t v) (h : DataW.Trod enc P w 0 (fun _ => true) held t v d p) :
    ∃ l, RdS w (FA w) (fun _ => .free) v (.p (.sl 1 ByteArray eS l)) := by
  obtain ⟨a, len, cap, rfl⟩ := okWide_slice ht hv
  obtain ⟨fuel, hf⟩ := h
  obtain ⟨l, hl, _⟩ := rd_strings (c := .slice a len cap) ht he hc (by simpa [Value.cells] using hf)
  exact ⟨l, .p hl⟩
end Go.Proofs.YtngcfmnmjkncoaaDoor.Q
