/- What came in, as the walks read it; no condition but the typed premises. -/
import Derived.Test.YtngcfmnmjkncoaaDoorQN
import Derived.SliceStrings
import Derived.OpenShut
namespace Go.Proofs.YtngcfmnmjkncoaaDoor.Q
open Go Go.RowKit Go.ChangeShapes
set_option linter.unusedVariables false

/-- All that lies there. -/
abbrev FA (w : World) : Fz := fun b _ => b < w.heap.size
theorem cell_lt {w : World} {a : Addr} {v : Value} (h : w.cell? a = some v) : a.spot = none ∧ a.block < w.heap.size := by
  unfold World.cell? at h
  split at h
  · rename_i c e d hb
    refine ⟨?_, (Array.getElem?_eq_some_iff.1 hb).1⟩
    cases hs : a.spot with
    | none => rfl
    | some s => rw [hs] at h; simp at h
  · cases h
theorem Rd.row {w : World} {F : Fz} {α : Type} {enc : α → PV} {n cap : Nat} {xs : List α} {a : Addr} {vs : List Value} (hn : ∀ x ∈ xs.map enc, x.cells.length = n) (hc : xs.length ≤ cap) (ha : 0 < cap → a.spot = none)
    (hr : RdL w F vs ((xs.map enc).flatMap PV.cells)) (hv : ∀ j v, vs[j]? = some v → w.cell? (a.add j) = some v) (hF : 0 < xs.length → ∀ o, F a.block o) : Rd w F (.slice (some a) xs.length cap) (.sl n α enc xs) := by
  by_cases h0 : 0 < cap
  · obtain ⟨b, off, sp⟩ := a
    obtain rfl : sp = none := ha h0
    refine .sl hn hc (RdC.of_vals hr (fun j v hj => ?_) fun j hj => hF ?_ _)
    · have := hv j v hj
      rwa [Addr.add_lit] at this
    · cases xs with
      | nil => simp at hj
      | cons x xs => simp
  · obtain rfl : cap = 0 := by omega
    obtain rfl : xs = [] := List.length_eq_zero_iff.1 (by omega)
    exact .emp _ _ _ _
theorem flat_one {α : Type} {enc : α → PV} (h : ∀ x, (enc x).cells = [enc x]) : ∀ xs : List α, (xs.map enc).flatMap PV.cells = xs.map enc
  | [] => rfl
  | x :: xs => by rw [List.map_cons, List.flatMap_cons, h, flat_one h xs]; rfl
theorem RdL.scal {w : World} {F : Fz} {α : Type} {v : α → Value} (h : ∀ x, (v x).oneCell' = true) : ∀ xs : List α, RdL w F (xs.map v) (xs.map fun x => .s (v x))
  | [] => .nil
  | x :: xs => .cons (h x) (.s _) (RdL.scal h xs)

variable {H : Type} {enc : TypeId × Value → H} {P : Program} {w : World} {held : Bool} {fuel : Nat} {x : DataW H × List MemPlace} {c : Value}
theorem rd_strings {t e : TypeId} (ht : P.underlying t = some (.slice e)) (he : P.underlying e = some .string) (hc : P.cellsOf e = 1) (h : DataW.trod enc P w 0 (fun _ => true) held fuel t [c] = some x) :
    ∃ l : List ByteArray, Rd w (FA w) c (.sl 1 ByteArray eS l) ∧ c.oneCell' = true ∧ l.length ≤ maxLen ∧ ∀ s ∈ l, s.size ≤ maxLen := by
  rcases open_strings ht he hc h with ⟨hcs, _⟩ | ⟨a, len, cap, ss, hcs, _, hl, hm, hz, _, hcell, hsz⟩
  · simp only [List.cons.injEq, and_true] at hcs
    subst hcs
    exact ⟨[], .nil _ _ _, rfl, by simp, by simp⟩
  · simp only [List.cons.injEq, and_true] at hcs
    subst hcs
    have hz' : ss.length = cap := by simpa using hz
    have e : (ss.take len).length = len := by rw [List.length_take]; omega
    refine ⟨ss.take len, ?_, rfl, by omega, fun s hs => hsz s (List.mem_of_mem_take hs)⟩
    have hcc : ∀ j (v : Value), ((ss.take len).map Value.string)[j]? = some v → w.cell? (a.add j) = some v := fun j v hj => by
      rw [List.getElem?_map] at hj
      obtain ⟨s, hs, rfl⟩ := Option.map_eq_some_iff.1 hj
      have hjl := (List.getElem?_eq_some_iff.1 hs).1
      rw [hcell j (by omega)]
      have := List.mem_of_getElem? hs
      rw [List.getElem?_take_of_lt (by omega)] at hs
      rw [List.getD_eq_getElem?_getD, hs]; rfl
    have key : Rd w (FA w) (.slice (some a) (ss.take len).length cap) (.sl 1 ByteArray eS (ss.take len)) := by
      refine .row (vs := (ss.take len).map Value.string) (fun x hx => ?_) (by omega) (fun h0 => ?_) ?_ hcc (fun h0 o => ?_)
      · obtain ⟨s, _, rfl⟩ := List.mem_map.1 hx; rfl
      · have := hcell 0 (by omega)
        exact (cell_lt (a := a) (by simpa [Addr.add] using this)).1
      · rw [flat_one (fun _ => rfl)]; exact RdL.scal (fun _ => rfl) _
      · have := hcell 0 (by omega)
        exact (cell_lt (a := a) (by simpa [Addr.add] using this)).2
    rwa [e] at key
end Go.Proofs.YtngcfmnmjkncoaaDoor.Q
