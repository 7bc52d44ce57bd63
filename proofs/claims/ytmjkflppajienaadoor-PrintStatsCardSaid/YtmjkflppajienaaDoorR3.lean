/- A range over a function, its rounds told by a list; no condition but the typed premises. -/
import Derived.Test.YtmjkflppajienaaDoorR2
namespace Go.Proofs.YtmjkflppajienaaDoor.R
open Go Go.RowKit
set_option linter.unusedVariables false
set_option linter.unusedSimpArgs false

/-- What an iterator hands to the rounds: a list, and how its elements are told (beside each, how many are still to come). -/
structure ItR where
  κ : Ty
  xs : Option (List κ.den)
  len : Nat
  arg : κ.den → Nat → List PV
abbrev ItF := Nat → List (Nat × List PV) → Option ItR
def ItOk (P : Program) (it : ItF) : Prop := ∀ f cs I, it f cs = some I → (∀ x n, (I.arg x n).length = I.len) ∧ ∀ xs, I.xs = some xs → ItC P f cs I.κ xs I.arg
/-- One round for each. -/
def rng {α σ β : Type} (F : (σ → Option β) → α → Nat → σ → Option β) (z : σ → Option β) : List α → σ → Option β
  | [], v => z v
  | x :: xs, v => F (rng F z xs) x xs.length v

/-- The numbers of variables. -/
def osOf : List SV → Option (List Nat)
  | [] => some []
  | .ptr o 0 :: l => match osOf l with
    | some os => some (o :: os)
    | none => none
  | _ => none
theorem osOf_eq : ∀ {l : List SV} {os : List Nat}, osOf l = some os → l = os.map fun o => .ptr o 0
  | [], os, h => by simp only [osOf, Option.some.injEq] at h; subst h; rfl
  | s :: l, os, h => by
    unfold osOf at h
    split at h
    · rename_i heq; cases heq
    · rename_i o l' heq
      split at h
      · rename_i os' hos
        obtain rfl := Option.some.inj h
        simp only [List.cons.injEq] at heq
        obtain ⟨rfl, rfl⟩ := heq
        rw [osOf_eq hos]
        rfl
      · cases h
    · cases h
def evens : List Nat → List Nat
  | t :: _ :: l => t :: evens l
  | _ => []
/-- Do they tell of none of these? -/
def apart (os : List Nat) (h : List Ob) : Bool := h.all fun o => o.ids.all (fun j => !memb os j) && (match o with | .pin i => !memb os i | _ => true)
theorem apart_of {os : List Nat} {h : List Ob} (e : apart os h = true) : ∀ o ∈ h, (∀ j ∈ o.ids, j ∉ os) ∧ ∀ i, o = .pin i → i ∉ os := fun o ho => by
  have := List.all_eq_true.1 e o ho
  simp only [Bool.and_eq_true] at this
  refine ⟨fun j hj hm => ?_, fun i hi hm => ?_⟩
  · have h2 := List.all_eq_true.1 this.1 j hj
    rw [memb_iff.2 hm] at h2
    cases h2
  · subst hi
    have h2 := this.2
    simp only [memb_iff.2 hm] at h2
    cases h2
theorem dist_nodup : ∀ {l : List Nat}, dist l = true → l.Nodup := fun {l} h => by
  rw [List.nodup_iff_pairwise_ne, List.pairwise_iff_getElem]
  intro i j hi hj hlt he
  have := dist_inj h (List.getElem?_eq_getElem hi) ((List.getElem?_eq_getElem hj).trans (congrArg some he.symm))
  omega

section
variable {P : Program} {nt : Nat}
/-- A state's things taken by their shapes, its store forgotten. -/
theorem W_tidy {c : Code} {E : Env} {h : List Ob} {Q : QB} {σ : HSh} (hlo : σ.all (OSh.low σ.length) = true) (hW : W P nt c E h fun x E' h' => ∃ y, σ.get h' = some y ∧ noMark (h'.drop σ.length) = true ∧ Q x [] (σ.mk y)) : W P nt c E h Q := by
  have key : ∀ {bs : Nat → Nat} w F m e a' w', Post bs nt (fun x E' h' => ∃ y, σ.get h' = some y ∧ noMark (h'.drop σ.length) = true ∧ Q x [] (σ.mk y)) w F m e a' w' → Post bs nt Q w F m e a' w' := by
    rintro bs w F m e a' w' ⟨E', h', F', m', ⟨y, h1, h2, h3⟩, hr, hg⟩
    have hr2 := hr.shape (es := []) (x := ()) rfl h1 rfl hlo h2
    exact ⟨[], σ.mk y, F', _, h3, hr2, hg.os, hg.tape, hg.output, hg.size, hg.ext, hg.block, fun i b o hh hb => by
      by_cases hi : i < σ.length
      · rw [cutM_lt hi] at hh; exact hg.own i b o hh hb
      · rw [cutM_ge hi] at hh; exact hh.elim, hg.fl⟩
  exact ⟨fun a w F m hr => wp_mono (hW.out a w F m hr) fun _ _ _ => key w F m _ _ _, fun hp hn l n a w F m hr => wpIn_mono (hW.inn hp (fun E h ⟨y, _, _, hq⟩ => hn _ _ hq) l n a w F m hr) fun _ _ _ => key w F m _ _ _⟩
theorem HSh.pin_any : ∀ {σ : HSh} {x y : σ.ty.den} {k i : Nat}, (σ.mk x)[k]? = some (.pin i) → (σ.mk y)[k]? = some (.pin i)
  | [], x, y, k, i, h => h
  | s :: σ, x, y, 0, i, h => by
    have h1 : s.mk (Prod.fst (α := s.ty.den) (β := (HSh.ty σ).den) x) = .pin i := by simpa [HSh.mk] using h
    have h2 : s.mk (Prod.fst (α := s.ty.den) (β := (HSh.ty σ).den) y) = .pin i := by cases s <;> simp [OSh.mk] at h1 ⊢ <;> exact h1
    simpa [HSh.mk] using h2
  | s :: σ, x, y, k + 1, i, h => by
    have h1 : (HSh.mk σ (Prod.snd (α := s.ty.den) (β := (HSh.ty σ).den) x))[k]? = some (.pin i) := by simpa [HSh.mk] using h
    have h2 := HSh.pin_any (y := Prod.snd (α := s.ty.den) (β := (HSh.ty σ).den) y) h1
    simpa [HSh.mk] using h2
theorem keep_mk {h0 : List Ob} {σ : HSh} {y0 y : σ.ty.den} (hg : σ.get h0 = some y0) (hl : σ.length = h0.length) (hlo : σ.all (OSh.low σ.length) = true) : Keep h0 (σ.mk y ++ pins 0 h0) := by
  have hlen : (σ.mk y).length = h0.length := by rw [HSh.mk_length, hl]
  refine ⟨by rw [List.length_append]; omega, fun o ho => List.mem_append.2 (.inr ho), fun i o hi ho => ?_, fun k i hk h1 => ?_⟩
  · rw [List.getElem?_append_left (by omega)] at ho
    have ho' : (σ.mk y)[i]? = some o := ho
    have : ∀ {σ : HSh} {y : σ.ty.den} {i : Nat} {o : Ob}, (σ.mk y)[i]? = some o → ∃ (s : OSh) (z : s.ty.den), s ∈ σ ∧ o = s.mk z := by
      intro σ
      induction σ with
      | nil => intro y i o h; simp [HSh.mk] at h
      | cons s σ ih =>
        intro y i o h
        cases i with
        | zero => exact ⟨s, Prod.fst (α := s.ty.den) (β := (HSh.ty σ).den) y, by simp, by simpa [HSh.mk] using h.symm⟩
        | succ i =>
          obtain ⟨s', z, h1, h2⟩ := ih (y := Prod.snd (α := s.ty.den) (β := (HSh.ty σ).den) y) (i := i) (o := o) (by simpa [HSh.mk] using h)
          exact ⟨s', z, List.mem_cons_of_mem _ h1, h2⟩
    obtain ⟨s, z, h1, rfl⟩ := this ho'
    rw [← hl]
    exact OSh.low_mk (List.all_eq_true.1 hlo s h1)
  · rw [List.getElem?_append_left (by omega)] at h1
    obtain ⟨s, u, z, g1, g2, g3, _⟩ := HSh.mk_at hg (HSh.pin_any (y := y0) h1)
    rw [g1, OSh.pin_of g2 g3.symm]
theorem pins_mk {h0 : List Ob} {σ : HSh} {y0 : σ.ty.den} (hg : σ.get h0 = some y0) (hl : σ.length = h0.length) (z : (pinS 0 σ).ty.den) : (pinS 0 σ).mk z = pins 0 h0 := by
  rw [pinS_mk (y := y0), pins_same hg hl]
theorem low_pin {σ : HSh} (h : σ.all (OSh.low σ.length) = true) : (σ ++ pinS 0 σ).all (OSh.low (σ ++ pinS 0 σ).length) = true := by
  rw [List.all_append, Bool.and_eq_true]
  refine ⟨List.all_eq_true.2 fun s hs => OSh.low_le (by rw [List.length_append]; omega) (List.all_eq_true.1 h s hs), pinS_low (by rw [List.length_append]; omega)⟩
theorem HSh.get_app : ∀ {σ : HSh} {h h' : List Ob} {x : σ.ty.den}, σ.get h = some x → σ.get (h ++ h') = some x
  | [], _, _, _, e => e
  | o :: os, h, h', x, e => by
    obtain ⟨u, h2, rfl, g1, g2⟩ := hCons_of e
    exact hCons_mk g1 (HSh.get_app g2)
/-- What stands behind a round. -/
def stay {β : Type} (σ : HSh) (h : List Ob) (K : σ.ty.den → Option β) : Option β := match σ.get h, (pinS 0 σ).get (h.drop σ.length) with
  | some v, some _ => bif noMark (h.drop (σ ++ pinS 0 σ).length) then K v else none
  | _, _ => none
theorem stay_of {β : Type} {σ : HSh} {h : List Ob} {K : σ.ty.den → Option β} {r : β} (hr : stay σ h K = some r) : ∃ v z, (HSh.get (σ ++ pinS 0 σ) h = some (hApp σ (pinS 0 σ) v z)) ∧ noMark (h.drop (σ ++ pinS 0 σ).length) = true ∧ K v = some r := by
  unfold stay at hr
  split at hr
  · rename_i v z h1 h2
    obtain ⟨h3, h4⟩ := bif_some hr
    exact ⟨v, z, hApp_get h1 h2, h3, h4⟩
  · cases hr
end
end Go.Proofs.YtmjkflppajienaaDoor.R
