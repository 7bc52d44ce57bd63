/- Contracts told otherwise, of functions that are handed a row first; no condition but the typed premises. -/
import Derived.Test.YtngcfmnmjkncoaaQR
namespace Go.Proofs.Ytngcfmnmjkncoaa.Q
open Go Go.RowKit
set_option linter.unusedVariables false
set_option linter.unusedSimpArgs false

/-- A row of texts, as it lies there. -/
theorem rd_row1 {w : World} {F : Fz} {u : Value} {xs : List ByteArray} (h : Rd w F u (.sl 1 ByteArray eS xs)) (hF : ∀ b o, F b o → b < w.heap.size) :
    (∃ a c, u = .slice a 0 c ∧ xs = []) ∨ (∃ b o c, u = .slice (some ⟨b, o, none⟩) xs.length c ∧ xs.length ≤ c ∧ b < w.heap.size ∧ ∀ (j : Nat) x, xs[j]? = some x → w.cell? ⟨b, o + j, none⟩ = some (.string x)) := by
  cases h with
  | nil => exact .inl ⟨_, _, rfl, rfl⟩
  | emp => exact .inl ⟨_, _, rfl, rfl⟩
  | @sl b o c _ _ _ _ hn hc hr =>
    by_cases h0 : xs = []
    · subst h0; exact .inl ⟨_, _, rfl, rfl⟩
    · rw [flat_one (fun _ => rfl)] at hr
      have hcell : ∀ (xs : List ByteArray) (o : Nat), RdC w F b o (xs.map eS) → ∀ (j : Nat) x, xs[j]? = some x → w.cell? ⟨b, o + j, none⟩ = some (.string x) ∧ F b (o + j) := by
        intro xs
        induction xs with
        | nil => intro o _ j x hx; simp at hx
        | cons y ys ih =>
          intro o hr j x hx
          cases hr with
          | cons hF' hv h1 h hs =>
            cases j with
            | zero => simp at hx; subst hx; cases h; exact ⟨hv, hF'⟩
            | succ j =>
              have := ih (o + 1) hs j x (by simpa using hx)
              rwa [show o + 1 + j = o + (j + 1) by omega] at this
      refine .inr ⟨b, o, c, rfl, hc, ?_, fun j x hx => (hcell xs o hr j x hx).1⟩
      cases xs with
      | nil => exact absurd rfl h0
      | cons y ys => exact hF b _ (hcell _ o hr 0 y rfl).2

/-- A function of a row and of scalars, by what the machine answers. -/
theorem PF_sl {P : Program} {f n : Nat} {α : Type} {enc : α → PV} {xs : List α} {args : List Value} {v : Value}
    (hC : ∀ w F u, Rd w F u (.sl n α enc xs) → (∀ b o, F b o → b < w.heap.size) → Calls P f (u :: args).toArray w fun e w' => e = .returned v ∧ Below w.heap.size w w') : PF P f (.p (.sl n α enc xs) :: args.map fun v => .p (.s v)) (.p (.s v)) := by
  intro vs w F m hvs hsim
  cases hvs with
  | @cons u _ vs _ h1 hvs =>
    cases h1 with
    | p h1 =>
      have hargs : vs = args := by
        clear hC
        revert vs
        induction args with
        | nil => intro vs hvs; cases hvs; rfl
        | cons a as ih =>
          intro vs hvs
          cases hvs with
          | cons h1 h2 => rw [rd_s h1, ih h2]
      subst hargs
      refine (hC w F u h1 hsim.fl).mono ?_
      rintro e w' ⟨rfl, hb⟩
      have hno : ∀ i, m i = .free := fun i => hsim.dom i (Nat.zero_le _)
      refine ⟨v, _, [], F, m, rfl, ⟨rfl, rfl⟩, .p (.s v), ?_, ?_⟩
      · exact ⟨fun b o hF => Nat.lt_of_lt_of_le (hsim.fl b o hF) hb.size, fun i b hi => by rw [hno i] at hi; simp [Pl.blk] at hi, hsim.fr, hsim.inj, hsim.dom, fun i t cs hi => by simp at hi, fun i hi => by simp at hi, fun i b r ts ss hi => by simp at hi, fun k i b hi => by simp at hi⟩
      · exact ⟨hb.os, hb.tape, hb.output, hb.size, fun b o hF => ⟨hF, cell_of_heap (hb.block b (hsim.fl b o hF))⟩, fun b hbb _ => hb.block b hbb, fun i b o hh _ => ⟨i, hh⟩, fun b o hF => .inl hF⟩
end Go.Proofs.Ytngcfmnmjkncoaa.Q
