/- Contracts told otherwise: from what the machine answers to what the walks ask, and back; no condition but the typed premises. -/
import Derived.Test.YtmjkflppajienaaDoorRY
namespace Go.Proofs.YtmjkflppajienaaDoor.R
open Go Go.RowKit
set_option linter.unusedVariables false
variable {P : Program} {f : Nat}

theorem Sim.nil {bs : Nat → Nat} {w : World} {F : Fz} {m : Mp} (fl : ∀ b o, F b o → b < w.heap.size) (kn : Known fun b o v => F b o ∧ w.cell? ⟨b, o, none⟩ = v) (hno : ∀ i, m i = .free) : Sim bs w F m [] :=
  ⟨fl, fun i b h => by rw [hno i] at h; simp [Pl.blk] at h, fun i b o _ h => by rw [hno i] at h; exact h, fun i k b h => by rw [hno i] at h; simp [Pl.blk] at h, fun i _ => hno i, fun i o h => by simp at h, fun i h => by simp at h, fun k i h => by simp at h, kn⟩
theorem RdSL.scal {w : World} {F : Fz} {m : Mp} : ∀ {args vs : List Value}, RdSL w F m vs (args.map fun v => .p (.s v)) → vs = args
  | [], _, h => by cases h; rfl
  | a :: as, _, h => by
    cases h with
    | cons h1 h2 => rw [rd_s h1, RdSL.scal h2]
theorem PF_back {w w' : World} {F : Fz} {m : Mp} {bs : Nat → Nat} (hsim : Sim bs w F m []) (hb : Below w.heap.size w w') : Sim bs w' F m [] ∧ Gr w F m w' F m :=
  have hno : ∀ i, m i = .free := fun i => hsim.dom i (Nat.zero_le _)
  have k : Ext w F w' F := fun b o hF => ⟨hF, cell_of_heap (hb.block b (hsim.fl b o hF))⟩
  ⟨.nil (fun b o hF => Nat.lt_of_lt_of_le (hsim.fl b o hF) hb.size) (k.kn hsim.kn) hno, ⟨hb.os, hb.tape, hb.output, hb.size, k, fun b hbb _ => hb.block b hbb, fun i b o hh _ => ⟨i, hh⟩, fun b o hF => .inl hF⟩⟩
/-- A function of scalars, by what the machine answers. -/
theorem PF_of {args : List Value} {v : Value} (hC : ∀ w, Calls P f args.toArray w fun e w' => e = .returned v ∧ Below w.heap.size w w') : PF P f (args.map fun v => .p (.s v)) (.p (.s v)) := by
  intro bs vs w F m hvs hsim
  obtain rfl := RdSL.scal hvs
  refine (hC w).mono ?_
  rintro e w' ⟨rfl, hb⟩
  obtain ⟨h1, h2⟩ := PF_back hsim hb
  exact ⟨v, _, [], F, m, rfl, ⟨rfl, rfl⟩, .p (.s v), h1, h2⟩
/-- The like, by what is known of the program's variables. -/
theorem PF_kn {args : List Value} {v : Value} (hC : ∀ w, Known (fun b o v => w.cell? ⟨b, o, none⟩ = v) → Calls P f args.toArray w fun e w' => e = .returned v ∧ Below w.heap.size w w') : PF P f (args.map fun v => .p (.s v)) (.p (.s v)) := by
  intro bs vs w F m hvs hsim
  obtain rfl := RdSL.scal hvs
  refine (hC w (hsim.kn.mono fun _ _ _ h => h.2)).mono ?_
  rintro e w' ⟨rfl, hb⟩
  obtain ⟨h1, h2⟩ := PF_back hsim hb
  exact ⟨v, _, [], F, m, rfl, ⟨rfl, rfl⟩, .p (.s v), h1, h2⟩
theorem PF_eq {args : List Value} {v : Value} (hC : ∀ w, Calls P f args.toArray w fun e w' => e = .returned v ∧ w' = w) : PF P f (args.map fun v => .p (.s v)) (.p (.s v)) :=
  PF_of fun w => (hC w).mono fun e w' ⟨he, hw⟩ => ⟨he, hw ▸ Below.refl _ _⟩
/-- A function of a row and of scalars, by what the machine answers. -/
theorem PF_sl {n : Nat} {τ : Ty} {xs : List τ.den} {args : List Value} {v : Value}
    (hC : ∀ w F u, Rd w F u (.sl n τ xs) → (∀ b o, F b o → b < w.heap.size) → Calls P f (u :: args).toArray w fun e w' => e = .returned v ∧ Below w.heap.size w w') : PF P f (.p (.sl n τ xs) :: args.map fun v => .p (.s v)) (.p (.s v)) := by
  intro bs vs w F m hvs hsim
  cases hvs with
  | cons h1 hvs =>
    cases h1 with
    | p h1 =>
      obtain rfl := RdSL.scal hvs
      refine (hC w F _ h1 hsim.fl).mono ?_
      rintro e w' ⟨rfl, hb⟩
      obtain ⟨h1, h2⟩ := PF_back hsim hb
      exact ⟨v, _, [], F, m, rfl, ⟨rfl, rfl⟩, .p (.s v), h1, h2⟩
theorem flat_one {α : Type} {enc : α → PV} (h : ∀ x, (enc x).cells = [enc x]) : ∀ xs : List α, (xs.map enc).flatMap PV.cells = xs.map enc
  | [] => rfl
  | x :: xs => by rw [List.map_cons, List.flatMap_cons, h, flat_one h xs]; rfl
/-- A row of texts, as it lies there. -/
theorem rd_row1 {w : World} {F : Fz} {u : Value} {xs : List ByteArray} (h : Rd w F u (.sl 1 .s xs)) (hF : ∀ b o, F b o → b < w.heap.size) :
    (∃ a c, u = .slice a 0 c ∧ xs = []) ∨ (∃ b o c, u = .slice (some ⟨b, o, none⟩) xs.length c ∧ xs.length ≤ c ∧ b < w.heap.size ∧ ∀ (j : Nat) x, xs[j]? = some x → w.cell? ⟨b, o + j, none⟩ = some (.string x)) := by
  cases h with
  | nil => exact .inl ⟨_, _, rfl, rfl⟩
  | emp => exact .inl ⟨_, _, rfl, rfl⟩
  | @sl b o c _ _ _ hn hc hr =>
    by_cases h0 : xs = []
    · subst h0; exact .inl ⟨_, _, rfl, rfl⟩
    · rw [flat_one (fun _ => rfl)] at hr
      have hcell : ∀ (xs : List ByteArray) (o : Nat), RdC w F b o (xs.map Ty.s.enc) → ∀ (j : Nat) x, xs[j]? = some x → w.cell? ⟨b, o + j, none⟩ = some (.string x) ∧ F b (o + j) := by
        intro xs
        induction xs with
        | nil => intro o _ j x hx; simp at hx
        | cons y ys ih =>
          intro o hr j x hx
          cases hr with
          | cons hF' hv h1 h hs =>
            cases j with
            | zero => simp at hx; subst hx; cases h; exact ⟨hv, hF'⟩
            | succ j =>
              have := ih (o + 1) hs j x (by simpa using hx)
              rwa [show o + 1 + j = o + (j + 1) by omega] at this
      refine .inr ⟨b, o, c, rfl, hc, ?_, fun j x hx => (hcell xs o hr j x hx).1⟩
      cases xs with
      | nil => exact absurd rfl h0
      | cons y ys => exact hF b _ (hcell _ o hr 0 y rfl).2
/-- What a walk of a law comes to, for its row. -/
theorem PF.calls {args : List SV} {v : Value} (hF : PF P f args (.p (.s v))) {vs : List Value} {w : World} {F : Fz} (hf : ∀ b o, F b o → b < w.heap.size) (kn : Known fun b o v => F b o ∧ w.cell? ⟨b, o, none⟩ = v) (hr : RdSL w F (fun _ => .free) vs args) :
    Calls P f vs.toArray w fun e w' => e = .returned v ∧ Below w.heap.size w w' :=
  (hF (fun _ => 0) vs w F _ hr (.nil hf kn fun _ => rfl)).mono
    fun e w' ⟨v', s, h', F', m', he, ⟨hs, _⟩, hrd, _, hg⟩ => by
      subst hs
      rw [he, rd_s hrd]
      exact ⟨rfl, ⟨hg.os, hg.tape, hg.output, hg.size, fun b hb => hg.block b hb fun i => by simp [Pl.blk]⟩⟩
/-- A function of pure data, among those that are given. -/
theorem CF_of {ain : Shs} {out : Sh} {x : ain.ty.den} {r : out.ty.den} (h : PF P f (ain.mk x) (out.mk r)) : CF P ⟨f, ain, [], out, [], []⟩ x r := by
  intro bs vs w F m hvs hs
  refine (h bs vs w F m hvs hs).mono ?_
  rintro e w' ⟨v, s', h', F', m', he, ⟨h1, h2⟩, h3⟩
  exact ⟨v, s', h', F', m', he, ⟨h1, by rw [h2]; rfl⟩, h3⟩
theorem CF.pf' {ain : Shs} {out : Sh} {x : ain.ty.den} {r : out.ty.den} (h : CF P ⟨f, ain, [], out, [], []⟩ x r) (hi : out.ids = []) : PF P f (ain.mk x) (out.mk r) := h.pf (by simp [Inst.pureI, hi])
/-- One given function behind another. -/
def orG (a b : Giv) : Giv := fun I => match a I with
  | some g => some g
  | none => b I
theorem orG_ok {a b : Giv} (ha : GOk P a) (hb : GOk P b) : GOk P (orG a b) := fun I g h => by
  unfold orG at h
  split at h
  · rename_i g' hg
    obtain rfl := Option.some.inj h
    exact ha I _ hg
  · exact hb I g h
def noG : Giv := fun _ => none
theorem noG_ok : GOk P noG := fun I g h => by cases h
end Go.Proofs.YtmjkflppajienaaDoor.R
