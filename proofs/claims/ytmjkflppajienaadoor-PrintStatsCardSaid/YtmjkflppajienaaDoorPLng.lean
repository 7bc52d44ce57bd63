/- Operations that may be asked about; no condition but the typed premises. -/
import Derived.Test.YtmjkflppajienaaDoorPOp
namespace Go.Proofs.YtmjkflppajienaaDoor.R.Pu
open Go Go.RowKit
set_option linter.unusedVariables false
set_option linter.unusedSimpArgs false

/-! ### few -/
structure Sh1 (o : Op) : Prop where
  p : o.2.1.size ≤ 300
  t : o.2.2.1.size ≤ 300
  a : o.2.2.2.2.1.length ≤ 40
  b : o.2.2.2.2.2.1.length ≤ 40
  c : ∀ s ∈ o.2.2.2.2.1, s.size ≤ 300
  d : ∀ s ∈ o.2.2.2.2.2.1, s.size ≤ 300
def big (l : List ByteArray) : Bool := l.any fun s => decide (300 < s.size)
def lng (o : Op) : Bool := bif decide (300 < o.2.1.size) || decide (300 < o.2.2.1.size) || decide (40 < o.2.2.2.2.1.length) || decide (40 < o.2.2.2.2.2.1.length) then true else [o.2.2.2.2.1, o.2.2.2.2.2.1].any big
theorem long_ev (o : Op) : quitclaimref13_Long.f o = some (lng o) := by
  refine quitclaimref13_Long.in _ ?_
  have e : ∀ n k : Nat, decide ((n : Int) > (k : Int)) = decide (k < n) := fun n k => by rw [decide_eq_decide]; omega
  rw [show (300 : Int) = ((300 : Nat) : Int) from rfl, show (40 : Int) = ((40 : Nat) : Int) from rfl, e, e, e, e]
  unfold lng
  cases hc : decide (300 < o.2.1.size) || decide (300 < o.2.2.1.size) || decide (40 < o.2.2.2.2.1.length) || decide (40 < o.2.2.2.2.2.1.length) with
  | true => rfl
  | false =>
    simp only [Bool.or_eq_false_iff, decide_eq_false_iff_not] at hc
    rw [if_neg (by decide)]
    refine (wh_list [o.2.2.2.2.1, o.2.2.2.2.2.1] (fun i (_ : Unit) => (([o.2.2.2.2.1, o.2.2.2.2.2.1], (([o.2.2.2.2.1, o.2.2.2.2.2.1] : List (List ByteArray)).length : Int), i, ()), o, ())) (fun _ _ => True) (fun y _ => y.any big) (fun _ r _ => ?_) (fun i _ r hi _ hr => ?_) () trivial).trans rfl
    · simp (disch := omega) only [decide_eq_true_eq, if_neg]
      rfl
    · simp (disch := omega) only [decide_eq_true_eq, if_pos, ix_, Option.bind_some]
      have hz : [o.2.2.2.2.1, o.2.2.2.2.2.1][i].length ≤ 40 := by
        have hm := List.getElem_mem hi
        rcases List.mem_cons.1 hm with h | h
        · rw [h]; omega
        · rw [List.mem_singleton] at h; rw [h]; omega
      generalize [o.2.2.2.2.1, o.2.2.2.2.2.1][i] = x at *
      refine (wh_list x (fun j (_ : Unit) => (([o.2.2.2.2.1, o.2.2.2.2.2.1], (([o.2.2.2.2.1, o.2.2.2.2.2.1] : List (List ByteArray)).length : Int), (i : Int), x, (x.length : Int), j, ()), o, ())) (fun _ _ => True) (fun y _ => big y || ([o.2.2.2.2.1, o.2.2.2.2.2.1].drop (i + 1)).any big) (fun _ r' _ => ?_) (fun j _ r' hj _ hr' => ?_) () trivial).trans rfl
      · simp (disch := omega) only [decide_eq_true_eq, if_neg]
        rw [wS (show i < 9223372036854775807 by have h2 : i < 2 := hi; omega)]
        exact hr () trivial
      · simp (disch := omega) only [decide_eq_true_eq, if_pos, ix_, Option.bind_some, wS]
        have hb : big (x[j] :: x.drop (j + 1)) = (decide (300 < x[j].size) || big (x.drop (j + 1))) := List.any_cons
        rw [hb]
        by_cases h3 : 300 < x[j].size
        · rw [if_pos (by omega), decide_eq_true h3]; rfl
        · rw [if_neg (by omega), decide_eq_false h3, Bool.false_or]
          exact hr' () trivial
theorem sh_of {o : Op} (h : lng o = false) : Sh1 o := by
  unfold lng at h
  cases hc : decide (300 < o.2.1.size) || decide (300 < o.2.2.1.size) || decide (40 < o.2.2.2.2.1.length) || decide (40 < o.2.2.2.2.2.1.length) with
  | true => rw [hc] at h; cases h
  | false =>
    rw [hc] at h
    simp only [Bool.or_eq_false_iff, decide_eq_false_iff_not] at hc
    simp only [cond_false, List.any_cons, List.any_nil, Bool.or_false, Bool.or_eq_false_iff] at h
    have k : ∀ l : List ByteArray, big l = false → ∀ s ∈ l, s.size ≤ 300 := fun l hl s hs => by
      have := List.any_eq_false.1 hl s hs
      simpa using this
    exact ⟨by omega, by omega, by omega, by omega, k _ h.1, k _ h.2⟩
end Go.Proofs.YtmjkflppajienaaDoor.R.Pu
