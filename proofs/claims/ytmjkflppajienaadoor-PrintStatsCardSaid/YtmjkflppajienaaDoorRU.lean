/- Shapes of a state: what is typed in it, taken out and put back; no condition but the typed premises. -/
import Derived.Test.YtmjkflppajienaaDoorRT
import Derived.Test.YtmjkflppajienaaDoorRJ
namespace Go.Proofs.YtmjkflppajienaaDoor.R
open Go Go.RowKit
set_option linter.unusedVariables false
set_option linter.unusedSimpArgs false
variable {bs : Nat → Nat}

/-! ### The shape of a store -/
abbrev ESh := List (Nat × Sh)
def ESh.ty : ESh → Ty
  | [] => .un
  | (_, s) :: es => .pr s.ty (ESh.ty es)
def ESh.mk : (es : ESh) → es.ty.den → Env
  | [], _ => []
  | (t, s) :: es, x => (t, [], s.mk (Prod.fst (α := s.ty.den) (β := (ESh.ty es).den) x)) :: ESh.mk es (Prod.snd (α := s.ty.den) (β := (ESh.ty es).den) x)
def eOne {α : Type} (t : Nat) (f : SV → Option α) (E : Env) : Option α := match E.get t with
  | some ([], s) => f s
  | _ => none
def ePr {α β : Type} (f : Env → Option α) (g : Env → Option β) (E : Env) : Option (α × β) := match f E with
  | some x => match g E with
    | some y => some (x, y)
    | none => none
  | none => none
def ESh.get : (es : ESh) → Env → Option es.ty.den
  | [] => fun _ => some ()
  | (t, s) :: es => ePr (eOne t s.get) (ESh.get es)
theorem eOne_of {α : Type} {t : Nat} {f : SV → Option α} {E : Env} {x : α} (h : eOne t f E = some x) : ∃ s, E.get t = some ([], s) ∧ f s = some x := by
  unfold eOne at h
  split at h
  · rename_i s hs; exact ⟨s, hs, h⟩
  · cases h
theorem ePr_of {α β : Type} {f : Env → Option α} {g : Env → Option β} {E : Env} {x : α × β} (h : ePr f g E = some x) : f E = some x.1 ∧ g E = some x.2 := by
  unfold ePr at h
  split at h
  · rename_i a ha
    split at h
    · rename_i b hb; obtain rfl := Option.some.inj h; exact ⟨ha, hb⟩
    · cases h
  · cases h
theorem ESh.mk_get {E : Env} : ∀ {es : ESh} {x : es.ty.den} {t : Nat} {tg : Tg} {s : SV}, es.get E = some x → (es.mk x).get t = some (tg, s) → tg = [] ∧ ∃ (sh : Sh) (s0 : SV) (y : sh.ty.den), E.get t = some ([], s0) ∧ sh.get s0 = some y ∧ s = sh.mk y
  | [], x, t, tg, s, _, h => by cases h
  | (u, sh) :: es, x, t, tg, s, hg, h => by
    obtain ⟨h1, h2⟩ := ePr_of hg
    simp only [ESh.mk, Env.get] at h
    cases hb : Nat.beq u t with
    | true =>
      rw [hb] at h
      simp only [cond_true, Option.some.injEq, Prod.mk.injEq] at h
      obtain ⟨rfl, rfl⟩ := h
      obtain rfl := Nat.eq_of_beq_eq_true hb
      obtain ⟨s0, g1, g2⟩ := eOne_of h1
      exact ⟨rfl, sh, s0, _, g1, g2, rfl⟩
    | false => rw [hb] at h; exact ESh.mk_get h2 h

/-! ### The shape of what is owned -/
inductive OSh where
  | cells (t : Nat) (ss : Shs)
  | typed (t : Nat) (τ : Ty)
  | row (t n : Nat) (τ : Ty)
  | map (κ τ : Ty)
  | tail
  | mark
  | pin (i : Nat)
def OSh.ty : OSh → Ty
  | .cells _ ss => ss.ty
  | .typed _ τ => τ
  | .row _ n τ => .sl n τ
  | .map κ τ => .mp κ τ
  | .tail => .un
  | .mark => .un
  | .pin _ => .un
def OSh.mk : (o : OSh) → o.ty.den → Ob
  | .cells t ss, x => .cells t (ss.mk x)
  | .typed t τ, x => .cells t ((τ.enc x).cells.map .p)
  | .row t n τ, x => .row t n τ x
  | .map κ τ, x => .map κ τ x
  | .tail, _ => .tail
  | .mark, _ => .mark
  | .pin i, _ => .pin i
def oCells (t : Nat) : Ob → Option (List SV)
  | .cells t' cs => bif Nat.beq t t' then some cs else none
  | _ => none
def oTyped (t : Nat) (τ : Ty) : Ob → Option τ.den
  | .cells t' cs => bif Nat.beq t t' then (match purL cs with | some ps => dAll (τ.dec ps) | none => none) else none
  | _ => none
def oRow (t n : Nat) (τ : Ty) : Ob → Option (List τ.den)
  | .row t' n' τ' xs => if h : τ' = τ then (bif beq2 t n t' n' then some (cst (fun t => List t.den) h xs) else none) else none
  | _ => none
def oMap (κ τ : Ty) : Ob → Option (List (κ.den × τ.den))
  | .map κ' τ' l => if h : κ' = κ then (if h' : τ' = τ then some (cst (fun t => List (t.den × τ.den)) h (cst (fun t => List (κ'.den × t.den)) h' l)) else none) else none
  | _ => none
def oTail : Ob → Option Unit
  | .tail => some ()
  | _ => none
def oMark : Ob → Option Unit
  | .mark => some ()
  | _ => none
def oPin (i : Nat) : Ob → Option Unit
  | .pin i' => bif Nat.beq i i' then some () else none
  | _ => none
def obindO {α β : Type} (f : Ob → Option α) (g : α → Option β) (v : Ob) : Option β := match f v with
  | some x => g x
  | none => none
def OSh.get : (o : OSh) → Ob → Option o.ty.den
  | .cells t ss => obindO (oCells t) ss.get
  | .typed t τ => oTyped t τ
  | .row t n τ => oRow t n τ
  | .map κ τ => oMap κ τ
  | .tail => oTail
  | .mark => oMark
  | .pin i => oPin i
theorem obindO_of {α β : Type} {f : Ob → Option α} {g : α → Option β} {u : Ob} {y : β} (h : obindO f g u = some y) : ∃ x, f u = some x ∧ g x = some y := by
  unfold obindO at h
  split at h
  · rename_i x hx; exact ⟨x, hx, h⟩
  · cases h

section
variable {w : World} {F : Fz} {m : Mp}
theorem OSh.get_rd : ∀ {s : OSh} {u : Ob} {x : s.ty.den} {X : Obj}, s.get u = some x → RdO w F m X u → RdO w F m X (s.mk x)
  | .cells t ss, u, x, X, h, hr => by
    obtain ⟨cs, h1, h2⟩ := obindO_of h
    unfold oCells at h1
    split at h1
    · obtain ⟨g1, g2⟩ := bif_some h1
      obtain rfl := Nat.eq_of_beq_eq_true g1
      obtain rfl := Option.some.inj g2
      cases hr with | cells hl h1 => exact .cells (Shs.get_rd h2 hl) h1
    · cases h1
  | .typed t τ, u, x, X, h, hr => by
    have h : oTyped t τ u = some x := h
    unfold oTyped at h
    split at h
    · obtain ⟨g1, g2⟩ := bif_some h
      obtain rfl := Nat.eq_of_beq_eq_true g1
      split at g2
      · rename_i ps hps
        cases hr with | cells hl h1 => exact .cells (dAll_rd g2 (purL_rd hps h1 hl)).toS h1
      · cases g2
    · cases h
  | .row t n τ, u, x, X, h, hr => by
    have h : oRow t n τ u = some x := h
    unfold oRow at h
    split at h
    · split at h
      · rename_i ht
        subst ht
        obtain ⟨g1, g2⟩ := bif_some h
        obtain ⟨rfl, rfl⟩ := beq2_eq g1
        obtain rfl := Option.some.inj g2
        exact hr
      · cases h
    · cases h
  | .map κ τ, u, x, X, h, hr => by
    have h : oMap κ τ u = some x := h
    unfold oMap at h
    split at h
    · split at h
      · rename_i hk
        split at h
        · rename_i ht
          subst hk ht
          obtain rfl := Option.some.inj h
          exact hr
        · cases h
      · cases h
    · cases h
  | .tail, u, x, X, h, hr => by
    have h : oTail u = some x := h
    unfold oTail at h
    split at h
    · cases hr
    · cases h
  | .mark, u, x, X, h, hr => by
    have h : oMark u = some x := h
    unfold oMark at h
    split at h
    · cases hr
    · cases h
  | .pin i, u, x, X, h, hr => by
    have h : oPin i u = some x := h
    unfold oPin at h
    split at h
    · cases hr
    · cases h
end
/-- What a shape has, it had. -/
theorem OSh.isO {s : OSh} {u : Ob} {x : s.ty.den} (h : s.get u = some x) : (s.mk x).isO = u.isO := by
  cases s with
  | cells t ss => obtain ⟨cs, h1, _⟩ := obindO_of h; unfold oCells at h1; split at h1; rfl; cases h1
  | typed t τ => have h : oTyped t τ u = some x := h; unfold oTyped at h; split at h; rfl; cases h
  | row t n τ => have h : oRow t n τ u = some x := h; unfold oRow at h; split at h; rfl; cases h
  | map κ τ => have h : oMap κ τ u = some x := h; unfold oMap at h; split at h; rfl; cases h
  | tail => have h : oTail u = some x := h; unfold oTail at h; split at h; rfl; cases h
  | mark => have h : oMark u = some x := h; unfold oMark at h; split at h; rfl; cases h
  | pin i => have h : oPin i u = some x := h; unfold oPin at h; split at h; rfl; cases h
theorem OSh.tail_of {s : OSh} {u : Ob} {x : s.ty.den} (h : s.get u = some x) (e : s.mk x = .tail) : u = .tail := by
  cases s <;> simp only [OSh.mk, reduceCtorEq] at e
  have h : oTail u = some x := h
  unfold oTail at h; split at h; rfl; cases h
theorem OSh.pin_of {s : OSh} {u : Ob} {x : s.ty.den} {i : Nat} (h : s.get u = some x) (e : s.mk x = .pin i) : u = .pin i := by
  cases s <;> simp only [OSh.mk, reduceCtorEq] at e
  have h : oPin _ u = some x := h
  unfold oPin at h; split at h
  · obtain ⟨g1, g2⟩ := bif_some h
    obtain rfl := Nat.eq_of_beq_eq_true g1
    rw [e]
  · cases h
theorem OSh.mark_of {s : OSh} {x : s.ty.den} (h : s.get .mark = some x) : s.mk x = .mark := by
  cases s with
  | mark => rfl
  | cells t ss => exact absurd (show (none : Option ss.ty.den) = some x from h) (by simp)
  | _ => cases h
abbrev HSh := List OSh
def HSh.ty : HSh → Ty
  | [] => .un
  | o :: os => .pr o.ty (HSh.ty os)
def HSh.mk : (os : HSh) → os.ty.den → List Ob
  | [], _ => []
  | o :: os, x => o.mk (Prod.fst (α := o.ty.den) (β := (HSh.ty os).den) x) :: HSh.mk os (Prod.snd (α := o.ty.den) (β := (HSh.ty os).den) x)
def hCons {α β : Type} (f : Ob → Option α) (g : List Ob → Option β) : List Ob → Option (α × β)
  | o :: h => match f o with
    | some x => match g h with
      | some y => some (x, y)
      | none => none
    | none => none
  | [] => none
def HSh.get : (os : HSh) → List Ob → Option os.ty.den
  | [] => fun _ => some ()
  | o :: os => hCons o.get (HSh.get os)
theorem hCons_of {α β : Type} {f : Ob → Option α} {g : List Ob → Option β} {h : List Ob} {x : α × β} (e : hCons f g h = some x) : ∃ o h', h = o :: h' ∧ f o = some x.1 ∧ g h' = some x.2 := by
  unfold hCons at e
  split at e
  · split at e
    · rename_i a ha
      split at e
      · rename_i b hb; obtain rfl := Option.some.inj e; exact ⟨_, _, rfl, ha, hb⟩
      · cases e
    · cases e
  · cases e
theorem hCons_mk {α β : Type} {f : Ob → Option α} {g : List Ob → Option β} {o : Ob} {h : List Ob} {x : α} {y : β} (h1 : f o = some x) (h2 : g h = some y) : hCons f g (o :: h) = some (x, y) := by simp only [hCons, h1, h2]
theorem HSh.mk_length : ∀ {os : HSh} {x : os.ty.den}, (os.mk x).length = os.length
  | [], _ => rfl
  | o :: os, x => by simp [HSh.mk, HSh.mk_length]
/-- The things of a shape, and those behind it. -/
theorem HSh.get_len : ∀ {os : HSh} {h : List Ob} {x : os.ty.den}, os.get h = some x → os.length ≤ h.length
  | [], h, x, _ => Nat.zero_le _
  | o :: os, h, x, e => by
    obtain ⟨o', h', rfl, h1, h2⟩ := hCons_of e
    have := HSh.get_len h2
    simp; omega
theorem HSh.mk_at : ∀ {os : HSh} {h : List Ob} {x : os.ty.den} {i : Nat} {o : Ob}, os.get h = some x → (os.mk x)[i]? = some o → ∃ (s : OSh) (u : Ob) (y : s.ty.den), h[i]? = some u ∧ s.get u = some y ∧ o = s.mk y ∧ s ∈ os
  | [], h, x, i, o, _, e => by simp [HSh.mk] at e
  | s :: os, h, x, i, o, e, hi => by
    obtain ⟨o', h', rfl, h1, h2⟩ := hCons_of e
    cases i with
    | zero => simp [HSh.mk] at hi; subst hi; exact ⟨s, o', _, rfl, h1, rfl, by simp⟩
    | succ i =>
      simp [HSh.mk] at hi
      obtain ⟨s', u, y, g1, g2, g3, g4⟩ := HSh.mk_at h2 hi
      exact ⟨s', u, y, by simpa using g1, g2, g3, by simp [g4]⟩
theorem HSh.mark_at : ∀ {os : HSh} {h : List Ob} {x : os.ty.den} {i : Nat}, os.get h = some x → i < os.length → h[i]? = some .mark → (os.mk x)[i]? = some .mark
  | [], h, x, i, _, hl, _ => by simp at hl
  | s :: os, h, x, i, e, hl, hi => by
    obtain ⟨o', h', rfl, h1, h2⟩ := hCons_of e
    cases i with
    | zero => simp at hi; subst hi; simp [HSh.mk, OSh.mark_of h1]
    | succ i => simp at hi hl; simpa [HSh.mk] using HSh.mark_at h2 hl hi

/-! ### What a shape hangs on -/
mutual
def Sh.ids : Sh → List Nat
  | .p _ | .k _ => []
  | .own _ _ _ j => [j]
  | .bf _ j => [j]
  | .ptr o _ | .np o _ => [o]
  | .mo o => [o]
  | .row _ o => [o]
  | .agg ss | .tup ss | .fn _ ss => ss.ids
def Shs.ids : Shs → List Nat
  | .nil => []
  | .cons s ss => s.ids ++ ss.ids
end
mutual
theorem Sh.mk_ids : ∀ {s : Sh} {x : s.ty.den}, (s.mk x).ids = s.ids
  | .p t, x => rfl
  | .own e n t j, x => rfl
  | .bf e j, x => rfl
  | .ptr o d, x => rfl
  | .np o d, x => rfl
  | .mo o, x => rfl
  | .row e o, x => rfl
  | .k c, x => rfl
  | .agg ss, x => Shs.mk_ids
  | .tup ss, x => Shs.mk_ids
  | .fn f ss, x => Shs.mk_ids
theorem Shs.mk_ids : ∀ {ss : Shs} {x : ss.ty.den}, SV.idsL (ss.mk x) = ss.ids
  | .nil, x => rfl
  | .cons s ss, x => by rw [Shs.mk, SV.idsL, Sh.mk_ids, Shs.mk_ids, Shs.ids]
end
def lowL (n : Nat) : List Nat → Bool
  | [] => true
  | i :: is => Nat.blt i n && lowL n is
theorem lowL_mem {n : Nat} : ∀ {is : List Nat}, lowL n is = true → ∀ i ∈ is, i < n
  | [], _, i, h => by simp at h
  | j :: is, hl, i, h => by
    simp only [lowL, Bool.and_eq_true] at hl
    rcases List.mem_cons.1 h with rfl | h
    · exact of_blt hl.1
    · exact lowL_mem hl.2 i h
def OSh.low (n : Nat) : OSh → Bool
  | .cells _ ss => lowL n ss.ids
  | .pin i => Nat.blt i n
  | _ => true
theorem ids_pure : ∀ qs : List PV, SV.idsL (qs.map .p) = []
  | [] => rfl
  | q :: qs => by simp [SV.idsL, SV.ids, ids_pure qs]
theorem OSh.low_mk {n : Nat} {s : OSh} {x : s.ty.den} (h : s.low n = true) : (s.mk x).low n := by
  cases s with
  | cells t ss => exact ⟨fun i hi => lowL_mem h i (by rw [← Shs.mk_ids (x := x)]; exact hi), fun i e => by cases e⟩
  | typed t τ => exact ⟨fun i hi => by simp only [OSh.mk, Ob.ids, ids_pure] at hi; simp at hi, fun i e => by cases e⟩
  | pin i => exact ⟨fun i hi => by simp [OSh.mk, Ob.ids] at hi, fun j e => by cases e; exact of_blt h⟩
  | _ => exact ⟨fun i hi => by simp [OSh.mk, Ob.ids] at hi, fun i e => by cases e⟩
def lowES (n : Nat) : ESh → Bool
  | [] => true
  | (_, s) :: es => lowL n s.ids && lowES n es
theorem lowES_get {n : Nat} : ∀ {es : ESh} {x : es.ty.den} {t : Nat} {tg : Tg} {s : SV}, lowES n es = true → (es.mk x).get t = some (tg, s) → ∀ i ∈ s.ids, i < n
  | [], x, t, tg, s, _, h => by cases h
  | (u, sh) :: es, x, t, tg, s, hl, h => by
    simp only [lowES, Bool.and_eq_true] at hl
    simp only [ESh.mk, Env.get] at h
    cases hb : Nat.beq u t with
    | true => rw [hb] at h; simp only [cond_true, Option.some.injEq, Prod.mk.injEq] at h; obtain ⟨rfl, rfl⟩ := h; rw [Sh.mk_ids]; exact lowL_mem hl.1
    | false => rw [hb] at h; exact lowES_get hl.2 h
def noMark : List Ob → Bool
  | [] => true
  | .mark :: _ => false
  | _ :: h => noMark h
theorem noMark_get : ∀ {h : List Ob} {i : Nat}, noMark h = true → h[i]? ≠ some .mark
  | [], i, _, h => by simp at h
  | o :: h, 0, hn, hh => by simp at hh; subst hh; simp [noMark] at hn
  | o :: h, i + 1, hn, hh => noMark_get (h := h) (i := i) (by cases o <;> first | exact hn | cases hn) (by simpa using hh)

/-! ### The state taken by its shape -/
structure StS where
  es : ESh
  hs : HSh
/-- What is typed, and beside it what is owned, if anything is. -/
def tyP (a : Ty) : HSh → Ty
  | [] => a
  | h :: hs => .pr a (HSh.ty (h :: hs))
def StS.ty (σ : StS) : Ty := tyP σ.es.ty σ.hs
def StS.ok (σ : StS) : Bool := lowES σ.hs.length σ.es && σ.hs.all (OSh.low σ.hs.length)
def xE : (a : Ty) → (hs : HSh) → (tyP a hs).den → a.den
  | _, [], x => x
  | a, h :: hs, x => Prod.fst (α := a.den) (β := (HSh.ty (h :: hs)).den) x
def xH : (a : Ty) → (hs : HSh) → (tyP a hs).den → hs.ty.den
  | _, [], x => ()
  | a, h :: hs, x => Prod.snd (α := a.den) (β := (HSh.ty (h :: hs)).den) x
def xP : (a : Ty) → (hs : HSh) → a.den → hs.ty.den → (tyP a hs).den
  | _, [], x, _ => x
  | _, _ :: _, x, y => (x, y)
theorem xE_P : ∀ {a : Ty} {hs : HSh} {x : a.den} {y : hs.ty.den}, xE a hs (xP a hs x y) = x
  | _, [], _, _ => rfl
  | _, _ :: _, _, _ => rfl
theorem xH_P : ∀ {a : Ty} {hs : HSh} {x : a.den} {y : hs.ty.den}, xH a hs (xP a hs x y) = y
  | _, [], _, _ => rfl
  | _, _ :: _, _, _ => rfl
def StS.env (σ : StS) (x : σ.ty.den) : Env := σ.es.mk (xE σ.es.ty σ.hs x)
def StS.heap (σ : StS) (x : σ.ty.den) : List Ob := σ.hs.mk (xH σ.es.ty σ.hs x)
def StS.get (σ : StS) (E : Env) (h : List Ob) : Option σ.ty.den := bif σ.ok && noMark (h.drop σ.hs.length) then
    match σ.es.get E with
    | some x => match σ.hs.get h with
      | some y => some (xP σ.es.ty σ.hs x y)
      | none => none
    | none => none
  else none

theorem Sim.shape {w : World} {F : Fz} {m : Mp} {h : List Ob} (sim : Sim bs w F m h) {hs : HSh} {y : hs.ty.den} (hh : hs.get h = some y) (h2 : hs.all (OSh.low hs.length) = true) : Sim bs w F (cutM hs.length m) (hs.mk y) := by
  have low : ∀ (i : Nat) (o : Ob), (hs.mk y)[i]? = some o → o.low hs.length := fun i o hi => by
    obtain ⟨s, u, z, _, _, rfl, g4⟩ := HSh.mk_at hh hi
    exact OSh.low_mk (List.all_eq_true.1 h2 s g4)
  have lt : ∀ {i : Nat} {o : Ob}, (hs.mk y)[i]? = some o → i < hs.length := fun hi => by have := (List.getElem?_eq_some_iff.1 hi).1; rwa [HSh.mk_length] at this
  refine ⟨sim.fl, fun i b hi => ?_, fun i b o hF hh => ?_, fun i k b hi hk => ?_, fun i hi => ?_, fun i o hi ho => ?_, fun i hi b => ?_, fun k i hi => ?_, sim.kn⟩
  · by_cases hin : i < hs.length
    · rw [cutM_lt hin] at hi; exact sim.lt i b hi
    · simp [cutM_ge hin, Pl.blk] at hi
  · by_cases hin : i < hs.length
    · rw [cutM_lt hin] at hh; exact sim.fr i b o hF hh
    · rw [cutM_ge hin] at hh; exact hh
  · by_cases hin : i < hs.length
    · by_cases hkn : k < hs.length
      · rw [cutM_lt hin] at hi; rw [cutM_lt hkn] at hk; exact sim.inj i k b hi hk
      · simp [cutM_ge hkn, Pl.blk] at hk
    · simp [cutM_ge hin, Pl.blk] at hi
  · rw [HSh.mk_length] at hi
    exact cutM_ge (by omega)
  · obtain ⟨s, u, z, g1, g2, rfl, g4⟩ := HSh.mk_at hh hi
    obtain ⟨b, X, k1, k2, k3⟩ := sim.obj i u g1 (by rw [← OSh.isO g2]; exact ho)
    exact ⟨b, X, (cutM_lt (lt hi)).trans k1, k2, (OSh.get_rd g2 k3).keep (Ext.refl _ _) fun j hj _ => ⟨cutM_lt ((low i _ hi).1 j hj), fun _ _ _ => rfl⟩⟩
  · obtain ⟨s, u, z, g1, g2, g3, g4⟩ := HSh.mk_at hh hi
    rw [cutM_lt (lt hi)]
    exact sim.tl i (by rw [g1, OSh.tail_of g2 g3.symm]) b
  · obtain ⟨s, u, z, g1, g2, g3, g4⟩ := HSh.mk_at hh hi
    refine (cutM_lt ((low k _ hi).2 i rfl)).trans (sim.pn k i (by rw [g1, OSh.pin_of g2 g3.symm]))
theorem Rel.shape {nt : Nat} {w : World} {F : Fz} {m : Mp} {E : Env} {h : List Ob} {a : Act} (hr : Rel bs nt w F m E h a) {es : ESh} {hs : HSh} {x : es.ty.den} {y : hs.ty.den} (he : es.get E = some x) (hh : hs.get h = some y)
    (h1 : lowES hs.length es = true) (h2 : hs.all (OSh.low hs.length) = true) (h3 : noMark (h.drop hs.length) = true) : Rel bs nt w F (cutM hs.length m) (es.mk x) (hs.mk y) a := by
  refine ⟨hr.size, hr.defers.same fun i D g1 g2 g3 _ => ?_, fun t tg s ht => ?_, hr.sim.shape hh h2⟩
  · by_cases hin : i < hs.length
    · exact ⟨HSh.mark_at hh hin g1, (cutM_lt hin).trans g2, rfl⟩
    · exact absurd (by rw [List.getElem?_drop, show hs.length + (i - hs.length) = i by omega]; exact g1) (noMark_get (i := i - hs.length) h3)
  · obtain ⟨rfl, sh, s0, z, g1, g2, rfl⟩ := ESh.mk_get he ht
    refine .inl ⟨Tags.nil _, RdS.cut (lowES_get h1 ht) ?_⟩
    exact Sh.get_rd g2 (hr.rd t [] s0 g1 (Tags.nil a))

/-! ### One shape behind another -/
def hApp : (a b : HSh) → a.ty.den → b.ty.den → (HSh.ty (a ++ b)).den
  | [], _, _, y => y
  | o :: os, b, x, y => (Prod.fst (α := o.ty.den) (β := (HSh.ty os).den) x, hApp os b (Prod.snd (α := o.ty.den) (β := (HSh.ty os).den) x) y)
theorem hApp_get : ∀ {a b : HSh} {h : List Ob} {x : a.ty.den} {y : b.ty.den}, a.get h = some x → b.get (h.drop a.length) = some y → HSh.get (a ++ b) h = some (hApp a b x y)
  | [], b, h, x, y, _, h2 => h2
  | o :: os, b, h, x, y, h1, h2 => by
    obtain ⟨o', h', rfl, g1, g2⟩ := hCons_of h1
    have := hApp_get (b := b) (y := y) g2 (by simpa using h2)
    exact hCons_mk g1 this
theorem hApp_mk : ∀ {a b : HSh} {x : a.ty.den} {y : b.ty.den}, HSh.mk (a ++ b) (hApp a b x y) = a.mk x ++ b.mk y
  | [], b, x, y => rfl
  | o :: os, b, x, y => by
    show _ :: HSh.mk (os ++ b) (hApp os b _ y) = _ :: (HSh.mk os _ ++ b.mk y)
    rw [hApp_mk]
    rfl
def OSh.isOS : OSh → Bool
  | .cells _ _ | .typed _ _ | .row _ _ _ | .map _ _ => true
  | _ => false
theorem OSh.isOS_mk {s : OSh} {x : s.ty.den} : (s.mk x).isO = s.isOS := by cases s <;> rfl

theorem Gr.uncut {w w' : World} {F F' : Fz} {m m' : Mp} {n : Nat} (hg : Gr w F (cutM n m) w' F' m') : Gr w F m w' F' m' :=
  ⟨hg.os, hg.tape, hg.output, hg.size, hg.ext, fun b hb hm => hg.block b hb fun i => by
      by_cases hin : i < n
      · rw [cutM_lt hin]; exact hm i
      · simp [cutM_ge hin, Pl.blk], fun i b o hh hb => by
      obtain ⟨k, hk⟩ := hg.own i b o hh hb
      by_cases hkn : k < n
      · rw [cutM_lt hkn] at hk; exact ⟨k, hk⟩
      · rw [cutM_ge hkn] at hk; exact hk.elim, fun b o hF => by
      rcases hg.fl b o hF with h1 | h1 | ⟨k, hk⟩
      · exact .inl h1
      · exact .inr (.inl h1)
      · by_cases hkn : k < n
        · rw [cutM_lt hkn] at hk; exact .inr (.inr ⟨k, hk⟩)
        · rw [cutM_ge hkn] at hk; exact hk.elim⟩

theorem W_shape {P : Program} {nt : Nat} {c : Code} {E : Env} {h : List Ob} {Q : QB} {σ : StS} {x : σ.ty.den} (hx : σ.get E h = some x) (hW : W P nt c (σ.env x) (σ.heap x) Q) : W P nt c E h Q := by
  unfold StS.get at hx
  obtain ⟨h1, h2⟩ := bif_some hx
  simp only [Bool.and_eq_true, StS.ok] at h1
  split at h2
  · rename_i a ha
    split at h2
    · rename_i b hb
      obtain rfl := Option.some.inj h2
      simp only [StS.env, StS.heap, xE_P, xH_P] at hW
      exact ⟨fun ac w F m hr => wp_mono (hW.out ac w F _ (hr.shape ha hb h1.1.1 h1.1.2 h1.2)) fun e a' w' ⟨E', h', F', m', hQ, hr', hg⟩ => ⟨E', h', F', m', hQ, hr', hg.uncut⟩,
        fun hp hn l n ac w F m hr => wpIn_mono (hW.inn hp hn l n ac w F _ (hr.shape ha hb h1.1.1 h1.1.2 h1.2)) fun e a' w' ⟨E', h', F', m', hQ, hr', hg⟩ => ⟨E', h', F', m', hQ, hr', hg.uncut⟩⟩
    · cases h2
  · cases h2
end Go.Proofs.YtmjkflppajienaaDoor.R
