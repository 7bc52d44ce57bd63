/- Scopes: what may be jumped to; no condition but the typed premises. -/
import Derived.Test.YtmjkflppajienaaDoorRB
import Derived.Scope
namespace Go.Proofs.YtmjkflppajienaaDoor.R
open Go Go.RowKit
set_option linter.unusedVariables false
/-- As Q; by a goto: as J says. -/
def Exit.jumps (J : Nat → Act → World → Prop) (Q : Exit → Act → World → Prop) : Exit → Act → World → Prop
  | .goto l, a, w => J l a w
  | e, a, w => Q e a w
theorem wp_scope_gotos {P : Program} {c : Code} {Q : Exit → Act → World → Prop} {a : Act} {w : World} (J : Nat → Nat → Act → World → Prop)
    (first : c.wp P (Exit.jumps (fun l a w => ∃ n, J n l a w) Q) a w)
    (pass : ∀ n l a w, J n l a w → ∃ rest, findLabel c l = some rest ∧ rest.wp P (Exit.jumps (fun l' a' w' => ∃ m, m < n ∧ J m l' a' w') Q) a w) : (Code.scope c).wp P Q a w := by
  intro b k cs
  have key : ∀ n l a w, J n l a w → ∃ rest, findLabel c l = some rest ∧ ∃ e a' w', Q e a' w' ∧ Arrives P (lone (b.at a (.code rest :: .inScope c :: k)) cs w) b k cs e a' w' := by
    intro n
    induction n using Nat.strongRecOn with
    | _ n ih =>
      intro l a w hJ
      obtain ⟨rest, hf, hp⟩ := pass n l a w hJ
      refine ⟨rest, hf, ?_⟩
      obtain ⟨e, a₁, w₁, hq, harr⟩ := hp b (.inScope c :: k) cs
      cases e with
      | normal => exact ⟨.normal, a₁, w₁, hq, Steps.trans harr (.one step_inScope)⟩
      | exit id => exact ⟨.exit id, a₁, w₁, hq, fun k' hk => harr k' (by simp [exitTo, hk])⟩
      | goto l' =>
        obtain ⟨m, hm, hJ'⟩ := hq
        obtain ⟨rest', hf', e₂, a₂, w₂, hq₂, harr₂⟩ := ih m hm l' a₁ w₁ hJ'
        have hg : gotoIn l' (.inScope c :: k) = some (.code rest' :: .inScope c :: k) := by simp [gotoIn, hf']
        exact ⟨e₂, a₂, w₂, hq₂, .of_steps (harr _ hg) harr₂⟩
      | ret => exact ⟨_, a₁, w₁, hq, harr⟩
      | panic ch => exact ⟨_, a₁, w₁, hq, harr⟩
      | outgrown => exact ⟨_, a₁, w₁, hq, harr⟩
  obtain ⟨e, a₁, w₁, hq, harr⟩ := first b (.inScope c :: k) cs
  cases e with
  | normal => exact ⟨.normal, a₁, w₁, hq, .head step_scope (Steps.trans harr (.one step_inScope))⟩
  | exit id => exact ⟨.exit id, a₁, w₁, hq, fun k' hk => .head step_scope (harr k' (by simp [exitTo, hk]))⟩
  | goto l' =>
    obtain ⟨n, hJ'⟩ := hq
    obtain ⟨rest', hf', e₂, a₂, w₂, hq₂, harr₂⟩ := key n l' a₁ w₁ hJ'
    have hg : gotoIn l' (.inScope c :: k) = some (.code rest' :: .inScope c :: k) := by simp [gotoIn, hf']
    exact ⟨e₂, a₂, w₂, hq₂, .of_steps (.head step_scope (harr _ hg)) harr₂⟩
  | ret => exact ⟨_, a₁, w₁, hq, .of_steps (.one step_scope) harr⟩
  | panic ch => exact ⟨_, a₁, w₁, hq, .of_steps (.one step_scope) harr⟩
  | outgrown => exact ⟨_, a₁, w₁, hq, .of_steps (.one step_scope) harr⟩

/-- As Q; by a goto: as J says. -/
def Jp (J : Nat → Env → List Ob → Prop) (Q : QB) : QB
  | .goto l, E, h => J l E h
  | x, E, h => Q x E h
theorem W_scope {P : Program} {nt : Nat} {c : Code} {E : Env} {h : List Ob} {Q : QB} (J : Nat → Nat → Env → List Ob → Prop)
    (first : W P nt c E h (Jp (fun l E h => ∃ n, J n l E h) Q))
    (pass : ∀ n l E h, J n l E h → ∃ rest, findLabel c l = some rest ∧ W P nt rest E h (Jp (fun l' E' h' => ∃ m, m < n ∧ J m l' E' h') Q)) : W P nt (.scope c) E h Q := by
  refine ⟨fun {bs} a w F m hr => ?_, fun hp => by simp [plain] at hp⟩
  refine wp_scope_gotos (fun n l a' w' => ∃ E' h' F' m', J n l E' h' ∧ Rel bs nt w' F' m' E' h' a' ∧ Gr w F m w' F' m') (wp_mono (first.out a w F m hr) ?_) ?_
  · rintro e a'' w'' ⟨E'', h'', F'', m'', hQ, hr'', hg'⟩
    cases e with
    | goto l => obtain ⟨n, hJ⟩ := hQ; exact ⟨n, E'', h'', F'', m'', hJ, hr'', hg'⟩
    | _ => exact ⟨E'', h'', F'', m'', hQ, hr'', hg'⟩
  · rintro n l a' w' ⟨E', h', F', m', hJ, hr', hg⟩
    obtain ⟨rest, hf, hW⟩ := pass n l E' h' hJ
    refine ⟨rest, hf, wp_mono (hW.out a' w' F' m' hr') ?_⟩
    rintro e a'' w'' ⟨E'', h'', F'', m'', hQ, hr'', hg'⟩
    cases e with
    | goto l => obtain ⟨k, hk, hJ⟩ := hQ; exact ⟨k, hk, E'', h'', F'', m'', hJ, hr'', hg.trans hg'⟩
    | _ => exact ⟨E'', h'', F'', m'', hQ, hr'', hg.trans hg'⟩
theorem W_goto {P : Program} {nt l : Nat} {E : Env} {h : List Ob} {Q : QB} (hQ : Q (.goto l) E h) : W P nt (.goto l) E h Q :=
  ⟨fun {bs} a w F m hr => wp_goto ⟨E, h, F, m, hQ, hr, Gr.refl _ _ _⟩, fun {bs} hp hn l n a w F m hr => wpIn_goto ⟨E, h, F, m, hQ, hr, Gr.refl _ _ _⟩⟩
end Go.Proofs.YtmjkflppajienaaDoor.R
