/- A region that draws its order, told by what has been carried out: every set of operations that may have been carried out has its own store; no condition but the typed premises. -/
import Derived.Test.YtngcfmnmjkncoaaDoorQF1
namespace Go.Proofs.YtngcfmnmjkncoaaDoor.Q
open Go Go.RowKit
set_option linter.unusedVariables false
set_option linter.unusedSimpArgs false

section
variable {P : Program} {nt : Nat} {ops : Array Oper} {Q : QB} {E : Env} {h : List Ob}

theorem oper_mono {o : Oper} {a : Act} {w : World} {K K' : Act → World → Prop} {R R' : Exit → Act → World → Prop} (hK : ∀ a w, K a w → K' a w) (hR : ∀ x a w, x ≠ .normal → R x a w → R' x a w) (hh : o.wp P a w K R) : o.wp P a w K' R' := by
  unfold Oper.wp at *
  generalize (execOp a.eval o).run P w = r at *
  cases r with
  | ok n w' =>
    cases n <;> simp only [Oper.upon] at hh ⊢ <;> first
      | exact hK _ _ hh
      | exact Calls.mono hh (fun e w'' he => by
          cases e
          · exact hK _ _ he
          · exact hR _ _ _ (by intro z; cases z) he
          · obtain ⟨a, w, hh⟩ := he; exact ⟨a, w, hR _ _ _ (by intro z; cases z) hh⟩)
      | exact Rows.mono hh (fun _ _ he => hK _ _ he)
  | halt x w' => cases x <;> simp only [Oper.upon] at hh ⊢ <;> exact hR _ _ _ (by intro z; cases z) hh

/-- Behind these operations, in whatever order: k at most are left. -/
def IW (P : Program) (nt : Nat) (ops : Array Oper) (Q : QB) (k : Nat) (listed : Array Bool) (E : Env) (h : List Ob) : Prop :=
  ∀ a w F m, Rel nt w F m E h a → ∀ R : Exit → Act → World → Prop, (∀ x a' w', Post nt Q w F m x a' w' → R x a' w') → wpAny P .any ops R k listed a w
/-- One operation that may come up now. -/
def IS (P : Program) (nt : Nat) (ops : Array Oper) (Q : QB) (k : Nat) (listed : Array Bool) (E : Env) (h : List Ob) (j : Nat) : Prop :=
  ∃ o, ops[j]? = some o ∧ o.guard = none ∧ WL P nt #[o] 0 E h fun x E' h' => x = .normal ∧ IW P nt ops Q k (listed.setIfInBounds j true) E' h'
theorem id_ {listed : Array Bool} {k : Nat} (hr : Region.ready .any ops listed = []) (hq : Q .normal E h) : IW P nt ops Q k listed E h := fun a w F m hrel R hR =>
  wpAny_done hr (hR _ _ _ ⟨E, h, F, m, hq, hrel, Gr.refl _ _ _⟩) k
theorem im_ {listed : Array Bool} {k : Nat} {js : List Nat} (hr : Region.ready .any ops listed = js) (hne : js ≠ []) (hs : ∀ j ∈ js, IS P nt ops Q k listed E h j) : IW P nt ops Q (k + 1) listed E h := fun a w F m hrel R hR =>
  wpAny_all hr hne fun j hj => by
    obtain ⟨o, ho, hg, hW⟩ := hs j hj
    have h1 := hW.out a w F m hrel
    have h2 := wpOps_mono (Q' := fun x a' w' => x = .normal ∧ wpAny P .any ops R k (listed.setIfInBounds j true) a' w') (fun x a' w' ⟨E', h', F', m', ⟨hx, hI⟩, hrel', hgr⟩ => ⟨hx, hI a' w' F' m' hrel' R fun x a'' w'' ⟨E2, h2, F2, m2, q1, q2, q3⟩ => hR _ _ _ ⟨E2, h2, F2, m2, q1, q2, hgr.trans q3⟩⟩) _ _ _ h1
    have e : (#[o] : Array Oper).size - 0 = 1 := rfl
    rw [e] at h2
    simp only [List.range', wpOps] at h2
    have e2 : (#[o] : Array Oper)[0]? = some o := rfl
    rw [e2] at h2
    simp only [Region.wanted, hg, if_true] at h2
    unfold wpOp
    rw [ho]
    simp only [Region.wanted, hg, if_true]
    rcases h2 with h2 | ⟨_, a', w', hx, _⟩
    · exact .inl (oper_mono (fun a w hk => hk.2) (fun x a w hx hk => absurd hk.1 hx) h2)
    · cases hx
theorem ia_ {listed : Array Bool} {k : Nat} : ∀ j ∈ ([] : List Nat), IS P nt ops Q k listed E h j := fun j hj => by cases hj
theorem ic_ {listed : Array Bool} {k j : Nat} {js : List Nat} (h1 : IS P nt ops Q k listed E h j) (h2 : ∀ j ∈ js, IS P nt ops Q k listed E h j) : ∀ i ∈ j :: js, IS P nt ops Q k listed E h i := fun i hi => by
  rcases List.mem_cons.1 hi with rfl | hi
  · exact h1
  · exact h2 i hi
theorem is_ {listed l' : Array Bool} {k j : Nat} {o : Oper} (ho : ops[j]? = some o) (hg : o.guard = none) (hl : listed.setIfInBounds j true = l') (hW : WL P nt #[o] 0 E h fun x E' h' => x = .normal ∧ IW P nt ops Q k l' E' h') : IS P nt ops Q k listed E h j :=
  ⟨o, ho, hg, by rw [hl]; exact hW⟩
theorem ih_ {k k' : Nat} {l l' : Array Bool} {E' : Env} {h' : List Ob} (h1 : IW P nt ops Q k l E h) (h2 : IW P nt ops Q k l E h → IW P nt ops Q k' l' E' h') : IW P nt ops Q k' l' E' h' := h2 h1
theorem iE {k : Nat} {l : Array Bool} {E' : Env} (he : E' = E) (h1 : IW P nt ops Q k l E h) : IW P nt ops Q k l E' h := he ▸ h1
/-- The region, none of it carried out yet. -/
theorem qI (hm : P.follows .mixedOrders = true) {id n : Nat} {l0 : Array Bool} (hn : ops.size = n) (hl : Array.replicate n false = l0) (hI : IW P nt ops Q n l0 E h) : W P nt (.region id ops true) E h Q := by
  subst hn hl
  have key : ∀ a w F m, Rel nt w F m E h a → wpAny P .any ops (Post nt Q w F m) ops.size (Array.replicate ops.size false) a w.drew := fun a w F m hr => by
    have hr' : Rel nt w.drew F m E h a := ⟨hr.size, hr.defers.same fun i D h1 h2 h3 _ => ⟨h1, h2, rfl⟩, fun t tg s ht => (hr.env t tg s ht).imp (fun z => ⟨z.1, (Qt.drew w F).rds hr.sim z.2⟩) _root_.id, (Qt.drew w F).sim hr.sim⟩
    exact hI a w.drew F m hr' _ fun x a' w' ⟨E2, h2, F2, m2, q1, q2, q3⟩ => ⟨E2, h2, F2, m2, q1, q2, ((Qt.drew w F).gr hr.sim).trans q3⟩
  exact ⟨fun a w F m hr => wp_region_any hm (key a w F m hr), fun hp hn l n a w F m hr => wpIn_region_draw fun t => by
      simp only [Region.schedule, hm, Bool.true_or, if_true]
      exact wpOps_in (plain_ops hp) hn.post _ _ _ (wpAny_sound ops.size t _ a _ (key a w F m hr))⟩
end
end Go.Proofs.YtngcfmnmjkncoaaDoor.Q
