/- Calls of functions that are handed what their caller owns: the callee's things are some of the caller's, under other numbers; no condition but the typed premises. -/
import Derived.Test.YtmjkflppajienaaDoorRU
import Derived.Test.YtmjkflppajienaaDoorRL
namespace Go.Proofs.YtmjkflppajienaaDoor.R
open Go Go.RowKit
set_option linter.unusedVariables false
set_option linter.unusedSimpArgs false
variable {bs : Nat → Nat}

/-! ### Other numbers -/
mutual
def SV.ren (g : Nat → Nat) : SV → SV
  | .p q => .p q
  | .own e n τ xs j => .own e n τ xs (g j)
  | .ptr o d => .ptr (g o) d
  | .row e len o => .row e len (g o)
  | .padr cs => .padr cs
  | .agg cs => .agg (SV.renL g cs)
  | .tup cs => .tup (SV.renL g cs)
  | .fn f cs => .fn f (SV.renL g cs)
  | .rw e n len j => .rw e n len (g j)
  | .np o d => .np (g o) d
  | .bf e xs j => .bf e xs (g j)
  | .mo o => .mo (g o)
  | .rp o n i d => .rp (g o) n i d
  | .any => .any
def SV.renL (g : Nat → Nat) : List SV → List SV
  | [] => []
  | s :: ss => SV.ren g s :: SV.renL g ss
end
def Ob.ren (g : Nat → Nat) : Ob → Ob
  | .cells t cs => .cells t (SV.renL g cs)
  | o => o

mutual
/-- Told in the caller's numbers: told in the callee's. -/
theorem RdS.ren1 {w : World} {F : Fz} {m m' : Mp} {g : Nat → Nat} : ∀ {s : SV} {v : Value}, (∀ j ∈ s.ids, m' j = m (g j)) → RdS w F m v (s.ren g) → RdS w F m' v s
  | .p q, v, hj, h => by simp only [SV.ren] at h; cases h with | p h => exact .p h
  | .own e n τ xs j, v, hj, h => by
    have e := hj j (by simp [SV.ids])
    simp only [SV.ren] at h
    cases h with
    | own0 hm => exact .own0 (e.trans hm)
    | owne ad hm => exact .owne ad (e.trans hm)
    | ownx hn hr hm => exact .ownx hn hr (e.trans hm)
    | own hn hr hm hb hc hcm hs => exact .own hn hr (e.trans hm) hb hc hcm hs
  | .ptr o d, v, hj, h => by
    have e := hj o (by simp [SV.ids])
    simp only [SV.ren] at h
    cases h with | ptr hm => exact .ptr (e.trans hm)
  | .row e' len o, v, hj, h => by
    have e := hj o (by simp [SV.ids])
    simp only [SV.ren] at h
    cases h with | row hm => exact .row (e.trans hm)
  | .padr cs, v, hj, h => by simp only [SV.ren] at h; cases h with | padr hr => exact .padr hr
  | .agg cs, v, hj, h => by
    simp only [SV.ren] at h
    cases h with | agg h1 h => exact .agg h1 (RdSL.ren1 (fun j hi => hj j (by simpa [SV.ids] using hi)) h)
  | .tup cs, v, hj, h => by
    simp only [SV.ren] at h
    cases h with | tup h => exact .tup (RdSL.ren1 (fun j hi => hj j (by simpa [SV.ids] using hi)) h)
  | .fn f cs, v, hj, h => by
    simp only [SV.ren] at h
    cases h with | fn h => exact .fn (RdSL.ren1 (fun j hi => hj j (by simpa [SV.ids] using hi)) h)
  | .rw e' n len j, v, hj, h => by
    have e := hj j (by simp [SV.ids])
    simp only [SV.ren] at h
    cases h with | rw hm hb hc hcm hs => exact .rw (e.trans hm) hb hc hcm hs
  | .np o d, v, hj, h => by
    have e := hj o (by simp [SV.ids])
    simp only [SV.ren] at h
    cases h with
    | np0 => exact .np0
    | np1 hm => exact .np1 (e.trans hm)
  | .bf e' xs j, v, hj, h => by
    have e := hj j (by simp [SV.ids])
    simp only [SV.ren] at h
    cases h with
    | bf0 hm => exact .bf0 (e.trans hm)
    | bf hr hm hb hc hcm hs => exact .bf hr (e.trans hm) hb hc hcm hs
  | .mo o, v, hj, h => by
    have e := hj o (by simp [SV.ids])
    simp only [SV.ren] at h
    cases h with | mo hm => exact .mo (e.trans hm)
  | .rp o _ _ _, v, hj, h => by
    have e := hj o (by simp [SV.ids])
    simp only [SV.ren] at h
    cases h with | rp hm => exact .rp (e.trans hm)
  | .any, v, hj, h => .any v
theorem RdSL.ren1 {w : World} {F : Fz} {m m' : Mp} {g : Nat → Nat} : ∀ {ss : List SV} {vs : List Value}, (∀ j ∈ SV.idsL ss, m' j = m (g j)) → RdSL w F m vs (SV.renL g ss) → RdSL w F m' vs ss
  | [], vs, hj, h => by simp only [SV.renL] at h; cases h; exact .nil
  | s :: ss, vs, hj, h => by
    simp only [SV.renL] at h
    cases h with | cons h hs => exact .cons (RdS.ren1 (fun j hi => hj j (by simp [SV.idsL, hi])) h) (RdSL.ren1 (fun j hi => hj j (by simp [SV.idsL, hi])) hs)
end
mutual
/-- And the other way. -/
theorem RdS.ren2 {w : World} {F : Fz} {m m' : Mp} {g : Nat → Nat} : ∀ {s : SV} {v : Value}, (∀ j ∈ s.ids, m (g j) = m' j) → RdS w F m' v s → RdS w F m v (s.ren g)
  | .p q, v, hj, h => by cases h with | p h => exact .p h
  | .own e n τ xs j, v, hj, h => by
    have e := hj j (by simp [SV.ids])
    simp only [SV.ren]
    cases h with
    | own0 hm => exact .own0 (e.trans hm)
    | owne ad hm => exact .owne ad (e.trans hm)
    | ownx hn hr hm => exact .ownx hn hr (e.trans hm)
    | own hn hr hm hb hc hcm hs => exact .own hn hr (e.trans hm) hb hc hcm hs
  | .ptr o d, v, hj, h => by
    have e := hj o (by simp [SV.ids])
    cases h with | ptr hm => exact .ptr (e.trans hm)
  | .row e' len o, v, hj, h => by
    have e := hj o (by simp [SV.ids])
    cases h with | row hm => exact .row (e.trans hm)
  | .padr cs, v, hj, h => by cases h with | padr hr => exact .padr hr
  | .agg cs, v, hj, h => by
    cases h with | agg h1 h => exact .agg h1 (RdSL.ren2 (fun j hi => hj j (by simpa [SV.ids] using hi)) h)
  | .tup cs, v, hj, h => by
    cases h with | tup h => exact .tup (RdSL.ren2 (fun j hi => hj j (by simpa [SV.ids] using hi)) h)
  | .fn f cs, v, hj, h => by
    cases h with | fn h => exact .fn (RdSL.ren2 (fun j hi => hj j (by simpa [SV.ids] using hi)) h)
  | .rw e' n len j, v, hj, h => by
    have e := hj j (by simp [SV.ids])
    cases h with | rw hm hb hc hcm hs => exact .rw (e.trans hm) hb hc hcm hs
  | .np o d, v, hj, h => by
    have e := hj o (by simp [SV.ids])
    cases h with
    | np0 => exact .np0
    | np1 hm => exact .np1 (e.trans hm)
  | .bf e' xs j, v, hj, h => by
    have e := hj j (by simp [SV.ids])
    simp only [SV.ren]
    cases h with
    | bf0 hm => exact .bf0 (e.trans hm)
    | bf hr hm hb hc hcm hs => exact .bf hr (e.trans hm) hb hc hcm hs
  | .mo o, v, hj, h => by
    have e := hj o (by simp [SV.ids])
    cases h with | mo hm => exact .mo (e.trans hm)
  | .rp o _ _ _, v, hj, h => by
    have e := hj o (by simp [SV.ids])
    cases h with | rp hm => exact .rp (e.trans hm)
  | .any, v, hj, h => .any v
theorem RdSL.ren2 {w : World} {F : Fz} {m m' : Mp} {g : Nat → Nat} : ∀ {ss : List SV} {vs : List Value}, (∀ j ∈ SV.idsL ss, m (g j) = m' j) → RdSL w F m' vs ss → RdSL w F m vs (SV.renL g ss)
  | [], vs, hj, h => by cases h; exact .nil
  | s :: ss, vs, hj, h => by
    cases h with | cons h hs => exact .cons (RdS.ren2 (fun j hi => hj j (by simp [SV.idsL, hi])) h) (RdSL.ren2 (fun j hi => hj j (by simp [SV.idsL, hi])) hs)
end

/-! ### The spare cells of several things forgotten -/
mutual
def stp (f : Nat → Bool) : SV → SV
  | .own e n τ xs k => bif f k then .p (.sl n τ xs) else .own e n τ xs k
  | .agg cs => .agg (stpL f cs)
  | .tup cs => .tup (stpL f cs)
  | .fn g cs => .fn g (stpL f cs)
  | .rw e n len k => bif f k then .any else .rw e n len k
  | .bf e xs k => bif f k then .p (.sl 1 .u xs) else .bf e xs k
  | s => s
def stpL (f : Nat → Bool) : List SV → List SV
  | [] => []
  | s :: ss => stp f s :: stpL f ss
end
def stpE (f : Nat → Bool) : Env → Env
  | [] => []
  | (t, tg, s) :: E => (t, tg, stp f s) :: stpE f E
def stpOb (f : Nat → Bool) : Ob → Ob
  | .cells t cs => .cells t (stpL f cs)
  | o => o
mutual
theorem RdS.stp {w w' : World} {F F' : Fz} {m m' : Mp} {f : Nat → Bool} (k : Ext w F w' F') (hs : ∀ i, f i = false → m i ≠ .free → Same w m w' m' i) (hj : ∀ i b, f i = true → m i ≠ .obj b) {v : Value} {s : SV} : RdS w F m v s → RdS w' F' m' v (stp f s)
  | .p h => .p (h.ext k)
  | .own0 (j := i) hm => by
    simp only [R.stp]
    cases hb : f i with
    | true => exact .p (.nil _ _)
    | false => exact .own0 ((hs i hb (by rw [hm]; intro h; cases h)).1.trans hm)
  | .owne (j := i) ad hm => by
    simp only [R.stp]
    cases hb : f i with
    | true => exact .p (.emp _ _ _)
    | false => exact .owne ad ((hs i hb (by rw [hm]; intro h; cases h)).1.trans hm)
  | .ownx (j := i) hn hr hm => by
    simp only [R.stp]
    cases hb : f i with
    | true => exact .p (.sl hn (Nat.le_refl _) (hr.ext k))
    | false => exact .ownx hn (hr.ext k) ((hs i hb (by rw [hm]; intro h; cases h)).1.trans hm)
  | .own (j := i) hn hr hm hb' hc hcm hsz => by
    simp only [R.stp]
    cases hb : f i with
    | true => exact .p (.sl hn hc (hr.ext k))
    | false =>
      have h1 := hs i hb (by rw [hm]; intro h; cases h)
      exact .own hn (hr.ext k) (h1.1.trans hm) ((h1.2 _ _ hm).trans hb') hc hcm hsz
  | .ptr (o := i) hm => .ptr ((hs i (by cases hb : f i with | true => exact absurd hm (hj i _ hb) | false => rfl) (by rw [hm]; intro h; cases h)).1.trans hm)
  | .row (o := i) hm => .row ((hs i (by cases hb : f i with | true => exact absurd hm (hj i _ hb) | false => rfl) (by rw [hm]; intro h; cases h)).1.trans hm)
  | .padr hr => .padr (hr.ext k)
  | .agg h1 h => .agg h1 (RdSL.stp k hs hj h)
  | .tup h => .tup (RdSL.stp k hs hj h)
  | .fn h => .fn (RdSL.stp k hs hj h)
  | .np0 => .np0
  | .np1 (o := i) hm => .np1 ((hs i (by cases hb : f i with | true => exact absurd hm (hj i _ hb) | false => rfl) (by rw [hm]; intro h; cases h)).1.trans hm)
  | .mo (o := i) hm => by
    have hf : f i = false := by cases hb : f i with | false => rfl | true => exact absurd hm (hj i _ hb)
    exact .mo ((hs i hf (by rw [hm]; intro h; cases h)).1.trans hm)
  | .rp (o := i) hm => by
    have hf : f i = false := by cases hb : f i with | false => rfl | true => exact absurd hm (hj i _ hb)
    exact .rp ((hs i hf (by rw [hm]; intro h; cases h)).1.trans hm)
  | .any v => .any v
  | .bf0 (j := i) hm => by
    simp only [R.stp]
    cases hb : f i with
    | true => exact .p (.nil _ _)
    | false => exact .bf0 ((hs i hb (by rw [hm]; intro h; cases h)).1.trans hm)
  | .bf (j := i) hr hm hb' hc hcm hsz => by
    simp only [R.stp]
    cases hb : f i with
    | true => exact .p (.sl (fun x hx => by obtain ⟨y, _, rfl⟩ := List.mem_map.1 hx; rfl) hc (hr.ext k))
    | false =>
      have h1 := hs i hb (by rw [hm]; intro h; cases h)
      exact .bf (hr.ext k) (h1.1.trans hm) ((h1.2 _ _ hm).trans hb') hc hcm hsz
  | .rw (j := i) hm hb' hc hcm hsz => by
    simp only [R.stp]
    cases hb : f i with
    | true => exact .any _
    | false =>
      have h1 := hs i hb (by rw [hm]; intro h; cases h)
      exact .rw (h1.1.trans hm) ((h1.2 _ _ hm).trans hb') hc hcm hsz
theorem RdSL.stp {w w' : World} {F F' : Fz} {m m' : Mp} {f : Nat → Bool} (k : Ext w F w' F') (hs : ∀ i, f i = false → m i ≠ .free → Same w m w' m' i) (hj : ∀ i b, f i = true → m i ≠ .obj b) {vs : List Value} {ss : List SV} : RdSL w F m vs ss → RdSL w' F' m' vs (stpL f ss)
  | .nil => .nil
  | .cons h ht => .cons (RdS.stp k hs hj h) (RdSL.stp k hs hj ht)
end
theorem stpE_get {f : Nat → Bool} : ∀ {E : Env} {t : Nat} {tg : Tg} {s : SV}, (stpE f E).get t = some (tg, s) → ∃ s', E.get t = some (tg, s') ∧ s = stp f s'
  | [], t, tg, s, h => by simp [stpE, Env.get] at h
  | (u, tg', s') :: E, t, tg, s, h => by
    simp only [stpE, Env.get] at h ⊢
    cases hb : Nat.beq u t with
    | true => rw [hb] at h; simp only [cond_true, Option.some.injEq, Prod.mk.injEq] at h ⊢; exact ⟨s', ⟨h.1, rfl⟩, h.2.symm⟩
    | false => rw [hb] at h; exact stpE_get h

/-! ### Which of the caller's things -/
theorem RdO.stp {w w' : World} {F F' : Fz} {m m' : Mp} {f : Nat → Bool} (k : Ext w F w' F') (hs : ∀ i, f i = false → m i ≠ .free → Same w m w' m' i) (hj : ∀ i b, f i = true → m i ≠ .obj b) {x : Obj} {o : Ob} (h : RdO w F m x o) : RdO w' F' m' x (stpOb f o) := by
  cases h with
  | cells h h1 => exact .cells (h.stp k hs hj) h1
  | row h hn => exact .row (h.ext k) hn
  | map h hb => exact .map (h.ext k) hb
theorem RdO.ren1 {w : World} {F : Fz} {m m' : Mp} {g : Nat → Nat} {x : Obj} {o : Ob} (hj : ∀ j ∈ o.ids, m' j = m (g j)) (h : RdO w F m x (o.ren g)) : RdO w F m' x o := by
  cases o with
  | cells t cs => cases h with | cells h h1 => exact .cells (h.ren1 hj) h1
  | row t n τ xs => cases h with | row h hn => exact .row h hn
  | map κ τ l => cases h with | map h hb => exact .map h hb
  | tail => cases h
  | mark => cases h
  | pin i => cases h
theorem RdO.ren2 {w : World} {F : Fz} {m m' : Mp} {g : Nat → Nat} {x : Obj} {o : Ob} (hj : ∀ j ∈ o.ids, m (g j) = m' j) (h : RdO w F m' x o) : RdO w F m x (o.ren g) := by
  cases h with
  | cells h h1 => exact .cells (h.ren2 hj) h1
  | row h hn => exact .row h hn
  | map h hb => exact .map h hb
theorem isO_ren {g : Nat → Nat} {o : Ob} : (o.ren g).isO = o.isO := by cases o <;> rfl
theorem isO_stp {f : Nat → Bool} {o : Ob} : (stpOb f o).isO = o.isO := by cases o <;> rfl
def idx : List Nat → Nat → Option Nat
  | [], _ => none
  | a :: l, k => bif Nat.beq a k then some 0 else (idx l k).map (· + 1)
theorem idx_some : ∀ {l : List Nat} {k i : Nat}, idx l k = some i → l[i]? = some k
  | [], k, i, h => by simp [idx] at h
  | a :: l, k, i, h => by
    simp only [idx] at h
    cases hb : Nat.beq a k with
    | true => rw [hb] at h; simp only [cond_true, Option.some.injEq] at h; subst h; simp [Nat.eq_of_beq_eq_true hb]
    | false =>
      rw [hb] at h
      simp only [cond_false, Option.map_eq_some_iff] at h
      obtain ⟨j, h1, rfl⟩ := h
      simpa using idx_some h1
theorem idx_none : ∀ {l : List Nat} {k : Nat}, idx l k = none → k ∉ l
  | [], k, h => by simp
  | a :: l, k, h => by
    simp only [idx] at h
    cases hb : Nat.beq a k with
    | true => rw [hb] at h; simp at h
    | false =>
      rw [hb] at h
      simp only [cond_false, Option.map_eq_none_iff] at h
      have := idx_none h
      simp only [List.mem_cons, not_or]
      exact ⟨by rintro rfl; simp [Nat.beq_refl] at hb, this⟩
/-- Each is there once. -/
def dist : List Nat → Bool
  | [] => true
  | a :: l => (match idx l a with | none => true | some _ => false) && dist l
theorem dist_inj : ∀ {l : List Nat}, dist l = true → ∀ {i k a : Nat}, l[i]? = some a → l[k]? = some a → i = k
  | [], _, i, k, a, h, _ => by simp at h
  | b :: l, hd, i, k, a, h, h' => by
    simp only [dist, Bool.and_eq_true] at hd
    have hb : b ∉ l := by
      cases hx : idx l b with
      | none => exact idx_none hx
      | some j => rw [hx] at hd; exact absurd hd.1 (by simp)
    cases i with
    | zero =>
      cases k with
      | zero => rfl
      | succ k => simp at h h'; subst h; exact absurd (List.mem_of_getElem? h') hb
    | succ i =>
      cases k with
      | zero => simp at h h'; subst h'; exact absurd (List.mem_of_getElem? h) hb
      | succ k => simp at h h'; rw [dist_inj hd.2 h h']
theorem dist_idx {l : List Nat} (hd : dist l = true) {i k : Nat} (h : l[i]? = some k) : idx l k = some i := by
  cases hx : idx l k with
  | none => exact absurd (List.mem_of_getElem? h) (idx_none hx)
  | some j => rw [dist_inj hd (idx_some hx) h]

/-- The blocks in which a callee's things stand, told beside them. -/
def pins : Nat → List Ob → List Ob
  | _, [] => []
  | i, o :: h => bif o.isO then .pin i :: pins (i + 1) h else pins (i + 1) h
def npin : List Ob → Nat
  | [] => 0
  | o :: h => bif o.isO then npin h + 1 else npin h
theorem pins_length : ∀ {h : List Ob} {i : Nat}, (pins i h).length = npin h
  | [], i => rfl
  | o :: h, i => by cases hb : o.isO <;> simp [pins, npin, hb, pins_length]
theorem pins_mem {o : Ob} : ∀ {h : List Ob} {i : Nat}, o ∈ pins i h → ∃ k x, h[k]? = some x ∧ x.isO = true ∧ o = .pin (i + k)
  | [], i, hm => by simp [pins] at hm
  | x :: h, i, hm => by
    have rec' : o ∈ pins (i + 1) h → ∃ k y, (x :: h)[k]? = some y ∧ y.isO = true ∧ o = .pin (i + k) := fun hm => by
      obtain ⟨k, y, h1, h2, h3⟩ := pins_mem hm
      exact ⟨k + 1, y, by simpa using h1, h2, by rw [h3, Nat.add_assoc, Nat.add_comm 1]⟩
    cases hb : x.isO with
    | true =>
      simp only [pins, hb, cond_true, List.mem_cons] at hm
      rcases hm with rfl | hm
      · exact ⟨0, x, by simp, hb, by simp⟩
      · exact rec' hm
    | false => simp only [pins, hb, cond_false] at hm; exact rec' hm
theorem pins_has : ∀ {h : List Ob} {i k : Nat} {x : Ob}, h[k]? = some x → x.isO = true → .pin (i + k) ∈ pins i h
  | [], i, k, x, hk, _ => by simp at hk
  | y :: h, i, 0, x, hk, hx => by simp at hk; subst hk; simp [pins, hx]
  | y :: h, i, k + 1, x, hk, hx => by
    have := pins_has (i := i + 1) (show h[k]? = some x by simpa using hk) hx
    rw [show i + 1 + k = i + (k + 1) by omega] at this
    cases hb : y.isO <;> simp [pins, hb, this]

/-- A function that is handed things of its caller's: what it answers, what becomes of them, and what it makes for its caller. -/
def PG (P : Program) (f : Nat) (args : List SV) (hs : List Ob) (s : SV) (hs' hx : List Ob) : Prop := PC P f args (hs ++ pins 0 hs) fun s' h' => s' = s ∧ h' = hs' ++ pins 0 hs ++ hx

/-- Things and spare cells alone, that tell of no others than those of these numbers. -/
def obOk1 (ok : Nat → Bool) : Ob → Bool
  | .cells _ cs => (SV.idsL cs).all ok
  | .row _ _ _ _ => true
  | .map _ _ _ => true
  | .tail => true
  | _ => false
def obOk (ok : Nat → Bool) : List Ob → Bool
  | [] => true
  | o :: h => obOk1 ok o && obOk ok h
theorem obOk1_spec {ok : Nat → Bool} {o : Ob} (h : obOk1 ok o = true) : (o.isO = true ∧ ∀ j ∈ o.ids, ok j = true) ∨ o = .tail := by
  cases o with
  | cells t cs => exact .inl ⟨rfl, fun j hj => List.all_eq_true.1 h j hj⟩
  | row t n τ xs => exact .inl ⟨rfl, fun j hj => by simp [Ob.ids] at hj⟩
  | map κ τ l => exact .inl ⟨rfl, fun j hj => by simp [Ob.ids] at hj⟩
  | tail => exact .inr rfl
  | mark => cases h
  | pin i => cases h
theorem obOk_get {ok : Nat → Bool} : ∀ {h : List Ob} {i : Nat} {o : Ob}, obOk ok h = true → h[i]? = some o → (o.isO = true ∧ ∀ j ∈ o.ids, ok j = true) ∨ o = .tail
  | [], i, o, _, h => by simp at h
  | x :: h, 0, o, hl, hh => by simp only [obOk, Bool.and_eq_true] at hl; simp at hh; subst hh; exact obOk1_spec hl.1
  | x :: h, i + 1, o, hl, hh => by simp only [obOk, Bool.and_eq_true] at hl; exact obOk_get hl.2 (by simpa using hh)

def rho (l : List Nat) (i : Nat) : Nat := l.getD i 0
/-- Behind the call the callee's new things stand behind the caller's. -/
def rho2 (l : List Nat) (hs : List Ob) (n : Nat) (i : Nat) : Nat := bif Nat.blt i hs.length then l.getD i 0 else n + (i - (hs.length + npin hs))
/-- The caller's spare cells that the callee has in hand. -/
def tails : List Nat → List Ob → Nat → Bool
  | a :: l, .tail :: hs, k => Nat.beq a k || tails l hs k
  | _ :: l, _ :: hs, k => tails l hs k
  | _, _, _ => false
def plugO (l : List Nat) (f : Nat → Bool) (g : Nat → Nat) (hs' : List Ob) : Nat → List Ob → List Ob
  | _, [] => []
  | k, o :: h => (match idx l k with | some i => (hs'.getD i .tail).ren g | none => stpOb f o) :: plugO l f g hs' (k + 1) h
theorem plug_length {l : List Nat} {f : Nat → Bool} {g : Nat → Nat} {hs' : List Ob} : ∀ {h : List Ob} {k : Nat}, (plugO l f g hs' k h).length = h.length
  | [], k => rfl
  | o :: h, k => by simp [plugO, plug_length]
theorem plug_get {l : List Nat} {f : Nat → Bool} {g : Nat → Nat} {hs' : List Ob} : ∀ {h : List Ob} {k i : Nat}, (plugO l f g hs' k h)[i]? = h[i]?.map fun o => match idx l (k + i) with | some i => (hs'.getD i .tail).ren g | none => stpOb f o
  | [], k, i => by simp [plugO]
  | o :: h, k, 0 => by simp [plugO]
  | o :: h, k, i + 1 => by
    simp only [plugO, List.getElem?_cons_succ]
    rw [plug_get, show k + 1 + i = k + (i + 1) by omega]
def getL (h : List Ob) : List Nat → Option (List Ob)
  | [] => some []
  | a :: l => match h[a]?, getL h l with | some o, some os => some (o :: os) | _, _ => none
theorem getL_get {h : List Ob} : ∀ {l : List Nat} {os : List Ob}, getL h l = some os → os.length = l.length ∧ ∀ (i a : Nat), l[i]? = some a → h[a]? = os[i]?
  | [], os, hg => by simp only [getL, Option.some.injEq] at hg; subst hg; exact ⟨rfl, fun i a h => by simp at h⟩
  | b :: l, os, hg => by
    simp only [getL] at hg
    split at hg
    · rename_i o os' h1 h2
      simp only [Option.some.injEq] at hg
      subst hg
      obtain ⟨g1, g2⟩ := getL_get h2
      refine ⟨by simp [g1], fun i a ha => ?_⟩
      cases i with
      | zero => simp at ha; subst ha; simpa using h1
      | succ i => simpa using g2 i a (by simpa using ha)
    · cases hg
theorem tails_spec : ∀ {l : List Nat} {hs : List Ob}, l.length = hs.length → ∀ k, tails l hs k = true ↔ ∃ i : Nat, l[i]? = some k ∧ hs[i]? = some Ob.tail
  | [], [], _, k => by simp [tails]
  | a :: l, o :: hs, hl, k => by
    have ih := tails_spec (l := l) (hs := hs) (by simpa using hl) k
    have key : (∃ i : Nat, (a :: l)[i]? = some k ∧ (o :: hs)[i]? = some Ob.tail) ↔ (a = k ∧ o = Ob.tail) ∨ ∃ i : Nat, l[i]? = some k ∧ hs[i]? = some Ob.tail := by
      constructor
      · rintro ⟨i, h1, h2⟩
        cases i with
        | zero => simp at h1 h2; exact .inl ⟨h1, h2⟩
        | succ i => exact .inr ⟨i, by simpa using h1, by simpa using h2⟩
      · rintro (⟨rfl, rfl⟩ | ⟨i, h1, h2⟩)
        · exact ⟨0, by simp, by simp⟩
        · exact ⟨i + 1, by simpa using h1, by simpa using h2⟩
    rw [key, ← ih]
    cases o with
    | tail =>
      simp only [tails, Bool.or_eq_true]
      constructor
      · rintro (h | h)
        · exact .inl ⟨Nat.eq_of_beq_eq_true h, by simp⟩
        · exact .inr h
      · rintro (⟨rfl, _⟩ | h)
        · exact .inl (Nat.beq_refl _)
        · exact .inr h
    | _ => simp [tails]

def chkG (l : List Nat) (args : List SV) (hs : List Ob) (s : SV) (hs' hx h : List Ob) : Bool :=
  dist l && l.all (fun a => Nat.blt a h.length) && Nat.beq l.length hs.length && Nat.beq hs'.length hs.length &&
  (SV.idsL args).all (fun j => Nat.blt j hs.length) && obOk (fun j => Nat.blt j hs.length) hs &&
  s.ids.all (fun j => Nat.blt j hs.length || (Nat.ble (hs.length + npin hs) j && Nat.blt j (hs.length + npin hs + hx.length))) &&
  obOk (fun j => Nat.blt j hs.length || (Nat.ble (hs.length + npin hs) j && Nat.blt j (hs.length + npin hs + hx.length))) hs' &&
  obOk (fun j => Nat.blt j hs.length || (Nat.ble (hs.length + npin hs) j && Nat.blt j (hs.length + npin hs + hx.length))) hx
section
variable {P : Program} {T : Tab} {nt : Nat} {E E1 : Env} {h h1 : List Ob} {Q : QB} {o : Oper} {ops : Array Oper} {i : Nat}

theorem Rel.plug {w w' : World} {F F' : Fz} {m m' : Mp} {a : Act} {l : List Nat} {args : List SV} {hs hs' hx : List Ob} {s : SV} {bs bs0 : Nat → Nat} (hr : Rel bs0 nt w F m E h a) (hc : chkG l args hs s hs' hx h = true) (hh : getL h l = some (hs.map (Ob.ren (rho l))))
    (hbs : ∀ (i : Nat) (x : Ob), hs[i]? = some x → x.isO = true → m (rho l i) = .obj (bs i))
    (hg : Gr w F (fun i => if i < hs.length then m (rho l i) else .free) w' F' m') (hsm : Sim bs w' F' m' (hs' ++ pins 0 hs ++ hx)) {v : Value} (hv : RdS w' F' m' v s) {d : Option Nat} (hd : dstOk nt E [] d = true) :
    ∃ M, Rel bs0 nt w' F' M ((stpE (tails l hs) E).putO d [] (s.ren (rho2 l hs h.length))) (plugO l (tails l hs) (rho2 l hs h.length) hs' 0 h ++ hx.map (Ob.ren (rho2 l hs h.length))) (a.put d v) ∧ Gr w F m w' F' M := by
  simp only [chkG, Bool.and_eq_true] at hc
  obtain ⟨⟨⟨⟨⟨⟨⟨⟨c1, c2⟩, c3⟩, c4⟩, c5⟩, c6⟩, c7⟩, c8⟩, c9⟩ := hc
  have sim := hr.sim
  have c3 := Nat.eq_of_beq_eq_true c3
  have c4 := Nat.eq_of_beq_eq_true c4
  obtain ⟨_, hget⟩ := getL_get hh
  have hlt : ∀ (i k : Nat), l[i]? = some k → i < hs.length ∧ k < h.length := fun i k hk => ⟨by have := (List.getElem?_eq_some_iff.1 hk).1; omega, of_blt (List.all_eq_true.1 c2 k (List.mem_of_getElem? hk))⟩
  have hrho : ∀ (i k : Nat), l[i]? = some k → rho l i = k := fun i k hk => by simp [rho, List.getD, hk]
  have hex : ∀ (i : Nat), i < hs.length → l[i]? = some (rho l i) := fun i hi => by
    have : i < l.length := by omega
    simp [rho, List.getD, this]
  -- what stands there for the caller
  have hkind : ∀ (i k : Nat), l[i]? = some k → (∃ x, hs[i]? = some x ∧ x.isO = true ∧ h[k]? = some (x.ren (rho l))) ∨ (hs[i]? = some .tail ∧ h[k]? = some .tail) := fun i k hk => by
    have h1 := hget i k hk
    rw [List.getElem?_map] at h1
    have hi := (hlt i k hk).1
    have h2 : hs[i]? = some hs[i] := List.getElem?_eq_getElem hi
    rcases obOk_get c6 h2 with ⟨h3, _⟩ | h3
    · left; exact ⟨_, h2, h3, by rw [h1, h2]; rfl⟩
    · right; rw [h3] at h2; exact ⟨h2, by rw [h1, h2]; rfl⟩
  have hN : (hs' ++ pins 0 hs).length = hs.length + npin hs := by rw [List.length_append, pins_length, c4]
  -- the callee's things behind the call
  have get1 : ∀ (i : Nat) (o : Ob), i < hs.length → hs'[i]? = some o → (hs' ++ pins 0 hs ++ hx)[i]? = some o := fun i o hi ho => by
    rw [List.append_assoc, List.getElem?_append_left (by omega)]; exact ho
  have get3 : ∀ (i : Nat) (o : Ob), hx[i]? = some o → (hs' ++ pins 0 hs ++ hx)[hs.length + npin hs + i]? = some o := fun i o ho => by
    rw [List.getElem?_append_right (by omega), hN, Nat.add_sub_cancel_left]; exact ho
  have hpin : ∀ (i : Nat) (x : Ob), hs[i]? = some x → x.isO = true → m' i = .obj (bs i) := fun i x hi hx => by
    have := pins_has (i := 0) hi hx
    rw [Nat.zero_add] at this
    obtain ⟨k, hk⟩ := List.mem_iff_getElem?.1 this
    refine hsm.pn (hs.length + k) i ?_
    have hkl := (List.getElem?_eq_some_iff.1 hk).1
    rw [List.getElem?_append_left (by rw [List.length_append]; omega), List.getElem?_append_right (by omega), c4, Nat.add_sub_cancel_left]
    exact hk
  obtain ⟨M, hM⟩ : ∃ M : Mp, M = fun k => match idx l k with | some i => m' i | none => if k < h.length then m k else m' (hs.length + npin hs + (k - h.length)) := ⟨_, rfl⟩
  have M1 : ∀ (i k : Nat), l[i]? = some k → M k = m' i := fun i k hk => by rw [hM]; simp only; rw [dist_idx c1 hk]
  have M2 : ∀ k, idx l k = none → k < h.length → M k = m k := fun k hk hl => by rw [hM]; simp only; rw [hk]; simp [hl]
  have M3 : ∀ k, M (h.length + k) = m' (hs.length + npin hs + k) := fun k => by
    rw [hM]; simp only
    cases hx' : idx l (h.length + k) with
    | some i => have := (hlt i _ (idx_some hx')).2; omega
    | none => simp; intro hh; omega
  have hren : ∀ j, (Nat.blt j hs.length || (Nat.ble (hs.length + npin hs) j && Nat.blt j (hs.length + npin hs + hx.length))) = true → M (rho2 l hs h.length j) = m' j := fun j hj => by
    simp only [Bool.or_eq_true, Bool.and_eq_true] at hj
    rcases hj with hj | ⟨hj, _⟩
    · have h1 := of_blt hj
      have e : rho2 l hs h.length j = rho l j := by unfold rho2; rw [hj]; rfl
      rw [e]; exact M1 j _ (hex j h1)
    · have h1 := Nat.le_of_ble_eq_true hj
      have h2 : Nat.blt j hs.length = false := by
        cases hb : Nat.blt j hs.length with
        | false => rfl
        | true => have := of_blt hb; omega
      unfold rho2
      rw [h2, cond_false, M3]
      congr 1; omega
  -- a thing that the callee has not in hand is as it was
  have hapart : ∀ k b, idx l k = none → (m k).blk = some b → ∀ i, ((fun i => if i < hs.length then m (rho l i) else Pl.free) i).blk ≠ some b := fun k b hk hb i hi => by
    try simp only at hi
    split at hi
    · rename_i hin
      have := sim.inj k (rho l i) b hb hi
      exact absurd (List.mem_of_getElem? (this ▸ hex i hin)) (idx_none hk)
    · simp [Pl.blk] at hi
  have hblk : ∀ k b, idx l k = none → (m k).blk = some b → w'.heap[b]? = w.heap[b]? := fun k b hk hb => hg.block b (sim.lt k b hb) (hapart k b hk hb)
  have hsame : ∀ k, tails l hs k = false → m k ≠ .free → Same w m w' M k := fun k hk hf => by
    cases hx' : idx l k with
    | some i =>
      have hi := idx_some hx'
      rcases hkind i k hi with ⟨x, h2, hx, h3⟩ | ⟨h2, h3⟩
      · have hb := hbs i x h2 hx
        rw [hrho i k hi] at hb
        exact ⟨by rw [M1 i k hi, hpin i x h2 hx, hb], fun b lo hbt => by rw [hb] at hbt; cases hbt⟩
      · have := (tails_spec c3 k).2 ⟨i, hi, h2⟩
        rw [this] at hk; cases hk
    | none =>
      by_cases hl : k < h.length
      · exact ⟨M2 k hx' hl, fun b lo hb => hblk k b hx' (by simp [hb, Pl.blk])⟩
      · exact absurd (sim.dom k (by omega)) hf
  have hnob : ∀ k b, tails l hs k = true → m k ≠ .obj b := fun k b hk => by
    obtain ⟨i, h1, h2⟩ := (tails_spec c3 k).1 hk
    rcases hkind i k h1 with ⟨x, h3, hx, _⟩ | ⟨_, h4⟩
    · rw [h2] at h3; cases h3; cases hx
    · exact sim.tl k h4 b
  have hgone : ∀ i o b, (m' i).has b o → b < w.heap.size → ∃ k, k ∈ l ∧ (m k).has b o := fun i o b hh hb => by
    obtain ⟨i2, h2⟩ := hg.own i b o hh hb
    try simp only at h2
    split at h2
    · rename_i hin; exact ⟨_, List.mem_of_getElem? (hex i2 hin), h2⟩
    · exact h2.elim
  have hMcases : ∀ (k : Nat), (∃ i : Nat, M k = m' i ∧ (l[i]? = some k ∨ ∃ q, k = h.length + q ∧ i = hs.length + npin hs + q)) ∨ (idx l k = none ∧ k < h.length ∧ M k = m k) := fun k => by
    cases hx' : idx l k with
    | some i => exact .inl ⟨i, M1 i k (idx_some hx'), .inl (idx_some hx')⟩
    | none =>
      by_cases hl : k < h.length
      · exact .inr ⟨rfl, hl, M2 k hx' hl⟩
      · obtain ⟨q, rfl⟩ : ∃ q, k = h.length + q := ⟨k - h.length, by omega⟩
        exact .inl ⟨_, M3 q, .inr ⟨q, rfl, rfl⟩⟩
  have hgr : Gr w F m w' F' M := by
    refine ⟨hg.os, hg.tape, hg.output, hg.size, hg.ext, fun b hb hm => hg.block b hb fun i hi => ?_, fun k b o hh hb => ?_, fun b o hF => ?_⟩
    · try simp only at hi
      split at hi
      · exact hm _ hi
      · simp [Pl.blk] at hi
    · rcases hMcases k with ⟨i, hi, _⟩ | ⟨_, _, hk⟩
      · rw [hi] at hh; obtain ⟨k2, _, h3⟩ := hgone i o b hh hb; exact ⟨k2, h3⟩
      · rw [hk] at hh; exact ⟨k, hh⟩
    · rcases hg.fl b o hF with h1 | h1 | ⟨i, h1⟩
      · exact .inl h1
      · exact .inr (.inl h1)
      · skip
        split at h1
        · exact .inr (.inr ⟨_, h1⟩)
        · exact h1.elim
  have hgetn : ∀ (k : Nat) (o : Ob), (plugO l (tails l hs) (rho2 l hs h.length) hs' 0 h ++ hx.map (Ob.ren (rho2 l hs h.length)))[k]? = some o →
      (∃ (i : Nat) (o' : Ob), l[i]? = some k ∧ hs'[i]? = some o' ∧ o = o'.ren (rho2 l hs h.length)) ∨ (∃ o', idx l k = none ∧ h[k]? = some o' ∧ o = stpOb (tails l hs) o') ∨ (∃ (q : Nat) (o' : Ob), k = h.length + q ∧ hx[q]? = some o' ∧ o = o'.ren (rho2 l hs h.length)) := fun k o ho => by
    by_cases hl : k < h.length
    · rw [List.getElem?_append_left (by rw [plug_length]; exact hl), plug_get, Nat.zero_add, List.getElem?_eq_getElem hl] at ho
      simp only [Option.map_some, Option.some.injEq] at ho
      cases hx' : idx l k with
      | some i =>
        rw [hx'] at ho
        have hi := (hlt i k (idx_some hx')).1
        have h2 : hs'[i]? = some hs'[i] := List.getElem?_eq_getElem (by omega)
        exact .inl ⟨i, _, idx_some hx', h2, by rw [← ho]; simp [List.getD, h2]⟩
      | none => rw [hx'] at ho; exact .inr (.inl ⟨_, rfl, List.getElem?_eq_getElem hl, ho.symm⟩)
    · obtain ⟨q, rfl⟩ : ∃ q, k = h.length + q := ⟨k - h.length, by omega⟩
      rw [List.getElem?_append_right (by rw [plug_length]; omega), plug_length, Nat.add_sub_cancel_left, List.getElem?_map] at ho
      obtain ⟨o', h1, h2⟩ := Option.map_eq_some_iff.1 ho
      exact .inr (.inr ⟨q, o', rfl, h1, h2.symm⟩)
  have hsim : Sim bs0 w' F' M (plugO l (tails l hs) (rho2 l hs h.length) hs' 0 h ++ hx.map (Ob.ren (rho2 l hs h.length))) := by
    refine ⟨hsm.fl, fun k b hk => ?_, fun k b o hF hh => ?_, fun k k' b hk hk' => ?_, fun k hk => ?_, fun k o hk ho => ?_, fun k hk b => ?_, fun k i hk => ?_, hsm.kn⟩
    · rcases hMcases k with ⟨i, hi, _⟩ | ⟨_, _, h1⟩
      · rw [hi] at hk; exact hsm.lt i b hk
      · rw [h1] at hk; exact Nat.lt_of_lt_of_le (sim.lt k b hk) hg.size
    · rcases hMcases k with ⟨i, hi, _⟩ | ⟨h0, _, h1⟩
      · rw [hi] at hh; exact hsm.fr i b o hF hh
      · rw [h1] at hh
        rcases hg.fl b o hF with h2 | h2 | ⟨i, h2⟩
        · exact sim.fr k b o h2 hh
        · have := sim.lt k b (Pl.has_blk hh); omega
        · exact hapart k b h0 (Pl.has_blk hh) i (Pl.has_blk h2)
    · have mixed : ∀ (k k' b i : Nat), (m' i).blk = some b → idx l k' = none → (m k').blk = some b → False := fun k k' b i h1 h2 h3 => by
        obtain ⟨o, ho⟩ := Pl.blk_has h1
        obtain ⟨k2, h4, h5⟩ := hgone i o b ho (sim.lt k' b h3)
        have := sim.inj k' k2 b h3 (Pl.has_blk h5)
        exact idx_none h2 (this ▸ h4)
      rcases hMcases k with ⟨i, hi, hii⟩ | ⟨h0, _, h1⟩
      · rcases hMcases k' with ⟨i', hi', hii'⟩ | ⟨h0', _, h1'⟩
        · rw [hi] at hk
          rw [hi'] at hk'
          obtain rfl := hsm.inj i i' b hk hk'
          rcases hii with h2 | ⟨q, rfl, h2⟩
          · rcases hii' with h3 | ⟨q', rfl, h3⟩
            · rw [h2] at h3; exact Option.some.inj h3
            · have := (hlt i k h2).1; omega
          · rcases hii' with h3 | ⟨q', rfl, h3⟩
            · have := (hlt i k' h3).1; omega
            · omega
        · rw [hi] at hk; rw [h1'] at hk'; exact (mixed k k' b i hk h0' hk').elim
      · rcases hMcases k' with ⟨i', hi', hii'⟩ | ⟨h0', _, h1'⟩
        · rw [hi'] at hk'; rw [h1] at hk; exact (mixed k' k b i' hk' h0 hk).elim
        · rw [h1] at hk; rw [h1'] at hk'; exact sim.inj k k' b hk hk'
    · rw [List.length_append, plug_length, List.length_map] at hk
      obtain ⟨q, rfl⟩ : ∃ q, k = h.length + q := ⟨k - h.length, by omega⟩
      rw [M3]
      exact hsm.dom _ (by rw [List.length_append, hN]; omega)
    · rcases hgetn k _ hk with ⟨i, o', h1, h2, rfl⟩ | ⟨o', h1, h2, rfl⟩ | ⟨q, o', rfl, h2, rfl⟩
      · rcases obOk_get c8 h2 with ⟨h3, h4⟩ | rfl
        · obtain ⟨b, x, g1, g2, g3⟩ := hsm.obj i _ (get1 i _ (hlt i k h1).1 h2) h3
          exact ⟨b, x, by rw [M1 i k h1]; exact g1, g2, g3.ren2 fun j hj => hren j (h4 j hj)⟩
        · cases ho
      · rw [isO_stp] at ho
        obtain ⟨b, x, g1, g2, g3⟩ := sim.obj k _ h2 ho
        exact ⟨b, x, by rw [M2 k h1 (List.getElem?_eq_some_iff.1 h2).1]; exact g1, (hblk k b h1 (by simp [g1, Pl.blk])).trans g2, g3.stp hg.ext hsame hnob⟩
      · rcases obOk_get c9 h2 with ⟨h3, h4⟩ | rfl
        · obtain ⟨b, x, g1, g2, g3⟩ := hsm.obj _ _ (get3 q _ h2) h3
          exact ⟨b, x, by rw [M3]; exact g1, g2, g3.ren2 fun j hj => hren j (h4 j hj)⟩
        · cases ho
    · rcases hgetn k _ hk with ⟨i, o', h1, h2, h3⟩ | ⟨o', h1, h2, h3⟩ | ⟨q, o', rfl, h2, h3⟩
      · rcases obOk_get c8 h2 with ⟨h4, _⟩ | rfl
        · rw [← isO_ren (g := rho2 l hs h.length), ← h3] at h4; cases h4
        · rw [M1 i k h1]; exact hsm.tl i (get1 i _ (hlt i k h1).1 h2) b
      · cases o' <;> simp only [stpOb, reduceCtorEq] at h3
        rw [M2 k h1 (List.getElem?_eq_some_iff.1 h2).1]; exact sim.tl k h2 b
      · rcases obOk_get c9 h2 with ⟨h4, _⟩ | rfl
        · rw [← isO_ren (g := rho2 l hs h.length), ← h3] at h4; cases h4
        · rw [M3]; exact hsm.tl _ (get3 q _ h2) b
    · rcases hgetn k _ hk with ⟨i', o', h1, h2, h3⟩ | ⟨o', h1, h2, h3⟩ | ⟨q, o', rfl, h2, h3⟩
      · rcases obOk_get c8 h2 with ⟨h4, _⟩ | rfl
        · rw [← isO_ren (g := rho2 l hs h.length), ← h3] at h4; cases h4
        · cases h3
      · cases o' <;> simp only [stpOb, reduceCtorEq, Ob.pin.injEq] at h3
        obtain rfl := h3
        have hp := sim.pn k _ h2
        have ht : tails l hs i = false := by
          cases hb : tails l hs i with
          | false => rfl
          | true => exact absurd hp (hnob i _ hb)
        exact (hsame _ ht (by rw [hp]; intro h; cases h)).1.trans hp
      · rcases obOk_get c9 h2 with ⟨h4, _⟩ | rfl
        · rw [← isO_ren (g := rho2 l hs h.length), ← h3] at h4; cases h4
        · cases h3
  have hvr : RdS w' F' M v (s.ren (rho2 l hs h.length)) := hv.ren2 fun j hj => hren j (List.all_eq_true.1 c7 j hj)
  have hdf : Dfr w' M (plugO l (tails l hs) (rho2 l hs h.length) hs' 0 h ++ hx.map (Ob.ren (rho2 l hs h.length))) a.defers := hr.defers.same fun k D h1 h2 h3 _ => by
    have hkl := (List.getElem?_eq_some_iff.1 h1).1
    have hno : idx l k = none := by
      cases hx' : idx l k with
      | none => rfl
      | some i =>
        rcases hkind i k (idx_some hx') with ⟨x, _, hx, h5⟩ | ⟨_, h5⟩
        · rw [h5] at h1; rw [← isO_ren (g := rho l), Option.some.inj h1] at hx; cases hx
        · rw [h5] at h1; cases h1
    refine ⟨?_, (M2 k hno hkl).trans h2, hblk k D hno (by simp [h2, Pl.blk])⟩
    rw [List.getElem?_append_left (by rw [plug_length]; exact hkl), plug_get, Nat.zero_add, h1, Option.map_some, hno]
    rfl
  refine ⟨M, ⟨by cases d <;> simp [Act.put, hr.size], by cases d <;> exact hdf, fun t tg s' ht => ?_, hsim⟩, hgr⟩
  cases d with
  | none =>
    simp only [Env.putO] at ht
    obtain ⟨s0, g1, rfl⟩ := stpE_get ht
    exact (hr.env t tg s0 g1).imp (fun h => ⟨h.1, h.2.stp hg.ext hsame hnob⟩) id
  | some d =>
    simp only [dstOk, Bool.and_eq_true] at hd
    obtain ⟨⟨hd1, hd2⟩, hd3⟩ := hd
    have hdlt : d < nt := of_blt hd1
    simp only [Env.putO, Env.get] at ht
    cases hb : Nat.beq d t with
    | true =>
      rw [hb] at ht
      simp only [cond_true, Option.some.injEq, Prod.mk.injEq] at ht
      obtain ⟨rfl, rfl⟩ := ht
      obtain rfl := Nat.eq_of_beq_eq_true hb
      exact .inl ⟨Tags.nil _, by rw [put_getD_same (by rw [hr.size]; exact hdlt)]; exact hvr⟩
    | false =>
      rw [hb] at ht
      simp only [cond_false] at ht
      have hne : t ≠ d := by rintro rfl; simp [Nat.beq_refl] at hb
      obtain ⟨s0, g1, rfl⟩ := stpE_get ht
      rw [put_getD hne, tags_put (Env.free_get hd2 g1)]
      exact (hr.env t tg s0 g1).imp (fun h => ⟨h.1, h.2.stp hg.ext hsame hnob⟩) id

/-- What a callee finds. -/
theorem Sim.sub {w : World} {F : Fz} {m : Mp} {l : List Nat} {args : List SV} {hs hs' hx : List Ob} {s : SV} {bs bs0 : Nat → Nat} (sim : Sim bs0 w F m h) (hc : chkG l args hs s hs' hx h = true) (hh : getL h l = some (hs.map (Ob.ren (rho l))))
    (hbs : ∀ (i : Nat) (x : Ob), hs[i]? = some x → x.isO = true → m (rho l i) = .obj (bs i)) : Sim bs w F (fun i => if i < hs.length then m (rho l i) else .free) (hs ++ pins 0 hs) := by
  simp only [chkG, Bool.and_eq_true] at hc
  obtain ⟨⟨⟨⟨⟨⟨⟨⟨c1, c2⟩, c3⟩, c4⟩, c5⟩, c6⟩, c7⟩, c8⟩, c9⟩ := hc
  have c3 := Nat.eq_of_beq_eq_true c3
  obtain ⟨_, hget⟩ := getL_get hh
  have hex : ∀ (i : Nat), i < hs.length → l[i]? = some (rho l i) := fun i hi => by
    have : i < l.length := by omega
    simp [rho, List.getD, this]
  have hat : ∀ (i : Nat) (o : Ob), hs[i]? = some o → h[rho l i]? = some (o.ren (rho l)) := fun i o ho => by
    have hi := (List.getElem?_eq_some_iff.1 ho).1
    rw [hget i _ (hex i hi), List.getElem?_map, ho]; rfl
  have inv : ∀ {i b}, ((fun i => if i < hs.length then m (rho l i) else Pl.free) i).blk = some b → i < hs.length ∧ (m (rho l i)).blk = some b := fun {i b} hi => by
    try simp only at hi
    split at hi
    · rename_i hin; exact ⟨hin, hi⟩
    · simp [Pl.blk] at hi
  have pinmem : ∀ (k : Nat) (o : Ob), (hs ++ pins 0 hs)[k]? = some o → (k < hs.length ∧ hs[k]? = some o) ∨ o ∈ pins 0 hs := fun k o hk => by
    by_cases hl : k < hs.length
    · rw [List.getElem?_append_left hl] at hk; exact .inl ⟨hl, hk⟩
    · rw [List.getElem?_append_right (by omega)] at hk; exact .inr (List.mem_of_getElem? hk)
  refine ⟨sim.fl, fun i b hi => sim.lt _ b (inv hi).2, fun i b o hF hh' => ?_, fun i k b hi hk => ?_, fun i hi => ?_, fun i o hi ho => ?_, fun i hi b => ?_, fun k i hk => ?_, sim.kn⟩
  · try simp only at hh'
    split at hh'
    · exact sim.fr _ b o hF hh'
    · exact hh'
  · obtain ⟨h1, h2⟩ := inv hi
    obtain ⟨h3, h4⟩ := inv hk
    have := sim.inj _ _ b h2 h4
    exact dist_inj c1 (hex i h1) (this ▸ hex k h3)
  · rw [List.length_append] at hi
    rw [if_neg (by omega)]
  · rcases pinmem i _ hi with ⟨h1, h2⟩ | h2
    · rcases obOk_get c6 h2 with ⟨h3, h4⟩ | h3
      · obtain ⟨b, x, g1, g2, g3⟩ := sim.obj _ _ (hat i _ h2) (by rw [isO_ren]; exact h3)
        exact ⟨b, x, by simp only [h1, if_true]; exact g1, g2, g3.ren1 fun j hj => by simp only [of_blt (h4 j hj), if_true]⟩
      · subst h3; cases ho
    · obtain ⟨k, x, _, _, h3⟩ := pins_mem h2; subst h3; cases ho
  · rcases pinmem i _ hi with ⟨h1, h2⟩ | h2
    · simp only [h1, if_true]; exact sim.tl _ (hat i _ h2) b
    · obtain ⟨k, x, _, _, h3⟩ := pins_mem h2; cases h3
  · rcases pinmem k _ hk with ⟨h1, h2⟩ | h2
    · rcases obOk_get c6 h2 with ⟨h3, _⟩ | h3
      · cases h3
      · cases h3
    · obtain ⟨k', x, h3, hx, h4⟩ := pins_mem h2
      simp only [Nat.zero_add, Ob.pin.injEq] at h4
      obtain rfl := h4
      have hlt := (List.getElem?_eq_some_iff.1 h3).1
      simp only [hlt, if_true]
      exact hbs _ x h3 hx

/-- A call of a function that is handed what the caller owns. -/
theorem xgO {c : Call} {x : Operand} {f : Nat} {args caps : List SV} {hs hs' hx : List Ob} {s : SV} {fn : Func} (l : List Nat) (hF : PG P f args hs s hs' hx) (hf : P.funcs[f]? = some fn) (hop : o.op = .call c) (hc : c.callee = .value x) (hb : fn.body.isSome = true)
    (hx' : calS E [] x = some (f, caps)) (hnm : (fn.name == "runtime.NumGoroutine") = false) (ha : (lookL E [] c.args.toList).map (fun ss => argsS T c.argTypes.toList (ss ++ caps)) = some (SV.renL (rho l) args)) (hh : getL h l = some (hs.map (Ob.ren (rho l))))
    (hck : chkG l args hs s hs' hx h = true) (hd : dstOk nt E [] o.dst = true) (hE : (stpE (tails l hs) E).putO o.dst [] (s.ren (rho2 l hs h.length)) = E1) (hh1 : plugO l (tails l hs) (rho2 l hs h.length) hs' 0 h ++ hx.map (Ob.ren (rho2 l hs h.length)) = h1) : OSt P nt o E h fun E' h' => E' = E1 ∧ h' = h1 := by
  obtain ⟨body, hbody⟩ := Option.isSome_iff_exists.1 hb
  intro bs0 a w F m hr N Q hN
  have sim := hr.sim
  obtain ⟨ss, hss, has⟩ := Option.map_eq_some_iff.1 ha
  obtain ⟨vs, h1', h2⟩ := call_run (m := m) hop hc hx' hss hf hbody hnm (hr.opd (Tags.nil a) o)
  have hck' := hck
  simp only [chkG, Bool.and_eq_true] at hck'
  obtain ⟨⟨⟨⟨⟨⟨⟨⟨c1, c2⟩, c3⟩, c4⟩, c5⟩, c6⟩, c7⟩, c8⟩, c9⟩ := hck'
  have c3 := Nat.eq_of_beq_eq_true c3
  obtain ⟨_, hget⟩ := getL_get hh
  obtain ⟨bs, hbs⟩ : ∃ bs : Nat → Nat, ∀ (i : Nat) (x : Ob), hs[i]? = some x → x.isO = true → m (rho l i) = .obj (bs i) := by
    refine ⟨fun i => match m (rho l i) with | .obj b => b | _ => 0, fun i x hi hx => ?_⟩
    have hil := (List.getElem?_eq_some_iff.1 hi).1
    have e : l[i]? = some (rho l i) := by
      have : i < l.length := by omega
      simp [rho, List.getD, this]
    have h3 := hget i _ e
    rw [List.getElem?_map, hi] at h3
    obtain ⟨b, X, g1, _⟩ := sim.obj _ _ h3 (by rw [isO_ren]; exact hx)
    simp only [g1]
  have hargs : RdSL w F (fun i => if i < hs.length then m (rho l i) else .free) vs args := by
    refine RdSL.ren1 (m := m) (g := rho l) (fun j hj => ?_) (has ▸ argsS_rd h2)
    have := of_blt (List.all_eq_true.1 c5 j hj)
    simp only [this, if_true]
  unfold Oper.wp
  rw [h1']
  refine (hF bs vs w F _ hargs (sim.sub hck hh hbs)).mono fun e' w' ⟨v, s', h', F', m', he, ⟨hs1, hh'⟩, hrd, hsim', hgr⟩ => ?_
  subst he hs1 hh'
  obtain ⟨M, r1, r2⟩ := hr.plug hck hh hbs hgr hsim' hrd hd
  subst hE hh1
  exact hN _ _ _ _ _ _ ⟨rfl, rfl⟩ r1 r2

theorem OSt.mono {K K' : Env → List Ob → Prop} (h0 : OSt P nt o E h K) (hk : ∀ E h, K E h → K' E h) : OSt P nt o E h K' := fun a w F m hr N Q hN => h0 a w F m hr N Q fun a' w' E' h' F' m' hK => hN a' w' E' h' F' m' (hk _ _ hK)
theorem xg {c : Call} {x : Operand} {f : Nat} {args caps : List SV} {hs hs' hx : List Ob} {s : SV} {fn : Func} (l : List Nat) (hF : PG P f args hs s hs' hx) (hf : P.funcs[f]? = some fn) (ho : ops[i]? = some o) (hop : o.op = .call c) (hc : c.callee = .value x) (hg : o.guard = none) (hb : fn.body.isSome = true)
    (hx' : calS E [] x = some (f, caps)) (hnm : (fn.name == "runtime.NumGoroutine") = false) (ha : (lookL E [] c.args.toList).map (fun ss => argsS T c.argTypes.toList (ss ++ caps)) = some (SV.renL (rho l) args)) (hh : getL h l = some (hs.map (Ob.ren (rho l))))
    (hck : chkG l args hs s hs' hx h = true) (hd : dstOk nt E [] o.dst = true) (hE : (stpE (tails l hs) E).putO o.dst [] (s.ren (rho2 l hs h.length)) = E1) (hh1 : plugO l (tails l hs) (rho2 l hs h.length) hs' 0 h ++ hx.map (Ob.ren (rho2 l hs h.length)) = h1)
    (hW : WL P nt ops (i + 1) E1 h1 Q) : WL P nt ops i E h Q :=
  WL_op ho hg (OSt.mono (xgO l hF hf hop hc hb hx' hnm ha hh hck hd hE hh1) fun E' h' ⟨e1, e2⟩ => by subst e1 e2; exact hW)

/-! ### Operations under a test that turn what is owned -/
/-- Do these tests hold? -/
def tagB (E : Env) : Tg → Option Bool
  | [] => some true
  | (u, b) :: tg => match E.get u with
    | some (tg', .p (.s (.bool t))) => bif Tg.le tg' tg then (match tagB E tg with
      | some r => some (bif b then t && r else !t && r)
      | none => none) else none
    | _ => none
theorem tagB_iff {w : World} {F : Fz} {m : Mp} {a : Act} {bs : Nat → Nat} (hr : Rel bs nt w F m E h a) : ∀ {A : Tg} {t : Bool}, tagB E A = some t → (Tags a A ↔ t = true)
  | [], t, ht => by simp only [tagB, Option.some.injEq] at ht; subst ht; exact ⟨fun _ => rfl, fun _ => Tags.nil a⟩
  | (u, b) :: tg, t, ht => by
    simp only [tagB] at ht
    split at ht
    · rename_i tg' v hu
      cases hle : Tg.le tg' tg with
      | false => rw [hle] at ht; cases ht
      | true =>
        rw [hle] at ht
        simp only [cond_true] at ht
        split at ht
        · rename_i r hr2
          simp only [Option.some.injEq] at ht
          subst ht
          have ih := tagB_iff hr hr2
          have key : Tags a tg → a.tmps.getD u undef = .bool v := fun hT => by
            rcases hr.env u tg' _ hu with h1 | ⟨h1, _⟩
            · exact rd_s h1.2
            · exact absurd (Tg.le_tags hT hle) h1
          constructor
          · intro hT
            have h1 : Tags a tg := fun x hx => hT x (List.mem_cons_of_mem _ hx)
            have h2 := hT (u, b) List.mem_cons_self
            simp only at h2
            rw [key h1] at h2
            have hv : v = b := by simpa using h2
            have hr3 := ih.1 h1
            subst hv hr3
            cases v <;> rfl
          · intro ht x hx
            have h3 : r = true ∧ v = b := by cases b <;> cases v <;> cases r <;> simp_all
            have h1 := ih.2 h3.1
            rcases List.mem_cons.1 hx with rfl | hx
            · rw [key h1, h3.2]
            · exact h1 x hx
        · cases ht
    · cases ht
/-- Where these tests hold. -/
def relax (A : Tg) (E : Env) : Env := E.map fun x => bif Tg.le x.2.1 A then (x.1, [], x.2.2) else x
theorem relax_get {A : Tg} : ∀ {E : Env} {t : Nat} {tg : Tg} {s : SV}, (relax A E).get t = some (tg, s) → (tg = [] ∧ ∃ tg', Tg.le tg' A = true ∧ E.get t = some (tg', s)) ∨ E.get t = some (tg, s)
  | [], t, tg, s, hg => by simp [relax, Env.get] at hg
  | (u, tu, su) :: E, t, tg, s, hg => by
    have hg' : Env.get ((bif Tg.le tu A then (u, [], su) else (u, tu, su)) :: relax A E) t = some (tg, s) := hg
    cases hb : Nat.beq u t with
    | true =>
      cases hle : Tg.le tu A with
      | true =>
        rw [hle] at hg'
        simp only [cond_true, Env.get, hb, Option.some.injEq, Prod.mk.injEq] at hg'
        obtain ⟨rfl, rfl⟩ := hg'
        exact .inl ⟨rfl, tu, hle, by simp only [Env.get, hb, cond_true]⟩
      | false =>
        rw [hle] at hg'
        simp only [cond_false, Env.get, hb, cond_true, Option.some.injEq, Prod.mk.injEq] at hg'
        obtain ⟨rfl, rfl⟩ := hg'
        exact .inr (by simp only [Env.get, hb, cond_true])
    | false =>
      have h2 : (relax A E).get t = some (tg, s) := by
        cases hle : Tg.le tu A with
        | true => rw [hle] at hg'; simpa only [cond_true, Env.get, hb, cond_false] using hg'
        | false => rw [hle] at hg'; simpa only [cond_false, Env.get, hb] using hg'
      rcases relax_get h2 with ⟨h3, tg', h4, h5⟩ | h3
      · exact .inl ⟨h3, tg', h4, by simp only [Env.get, hb, cond_false]; exact h5⟩
      · exact .inr (by simp only [Env.get, hb, cond_false]; exact h3)
theorem Rel.relax {w : World} {F : Fz} {m : Mp} {a : Act} {bs : Nat → Nat} {A : Tg} (hr : Rel bs nt w F m E h a) (hA : Tags a A) : Rel bs nt w F m (relax A E) h a :=
  ⟨hr.size, hr.defers, fun t tg s ht => by
    rcases relax_get ht with ⟨rfl, tg', h1, h2⟩ | h1
    · exact .inl ⟨Tags.nil a, hr.rd t tg' s h2 (Tg.le_tags hA h1)⟩
    · exact hr.env t tg s h1, hr.sim⟩
theorem WL_guard {j u : Nat} {b t : Bool} {tg : Tg} {su : SV} (ho : ops[i]? = some o) (hg : o.guard = some (j, b)) (hj : (ops[j]?).bind (·.dst) = some u) (hu : E.get u = some (tg, su)) (ht : tagB E ((u, b) :: tg) = some t) (hd : dstOk nt E ((u, b) :: tg) o.dst = true)
    (h1 : t = true → OSt P nt o (relax ((u, b) :: tg) E) h fun E' h' => WL P nt ops (i + 1) E' h' Q) {sb : SV} (h2 : t = false → WL P nt ops (i + 1) (E.putO o.dst ((u, b) :: tg) sb) h Q) : WL P nt ops i E h Q := by
  refine ⟨fun a w F m hr => ?_⟩
  have hlt := (Array.getElem?_eq_some_iff.1 ho).1
  rw [show ops.size - i = (ops.size - (i + 1)) + 1 by omega, List.range'_succ]
  simp only [wpOps, ho]
  have hiff := tagB_iff hr ht
  cases t with
  | true =>
    have hT := hiff.2 rfl
    rw [if_pos (by simp [Region.wanted, hg, (yielded_some hj).2 ((hr.wanted hu).2 hT)])]
    refine .inl (h1 rfl a w F m (hr.relax hT) _ _ fun a' w' E' h' F' m' hK hr' hg' => ?_)
    exact wpOps_mono (fun x a'' w'' ⟨E'', h'', F'', m'', hQ, hrel, hgg⟩ => ⟨E'', h'', F'', m'', hQ, hrel, hg'.trans hgg⟩) _ _ _ (WL.out hK a' w' F' m' hr')
  | false =>
    have hT : ¬ Tags a ((u, b) :: tg) := fun h => by cases hiff.1 h
    rw [if_neg (by simp only [Region.wanted, hg, beq_iff_eq]; exact fun h => hT ((hr.wanted hu).1 ((yielded_some hj).1 h)))]
    exact WL.out (h2 rfl) _ w F m (hr.passed hd hT)

end

/-! ### Typed calls -/
def pinS : Nat → HSh → HSh
  | _, [] => []
  | i, o :: os => bif o.isOS then .pin i :: pinS (i + 1) os else pinS (i + 1) os
theorem pinS_mk : ∀ {os : HSh} {i : Nat} {z : (pinS i os).ty.den} {y : os.ty.den}, (pinS i os).mk z = pins i (os.mk y)
  | [], i, z, y => rfl
  | o :: os, i, z, y => by
    have e : (o.mk (Prod.fst (α := o.ty.den) (β := (HSh.ty os).den) y)).isO = o.isOS := OSh.isOS_mk
    simp only [HSh.mk, pins, e]
    revert z
    simp only [pinS]
    cases hb : o.isOS with
    | true => intro z; exact congrArg (Ob.pin i :: ·) (pinS_mk (os := os))
    | false => intro z; exact pinS_mk (os := os)
theorem pins_same : ∀ {os : HSh} {h : List Ob} {y : os.ty.den} {i : Nat}, os.get h = some y → os.length = h.length → pins i (os.mk y) = pins i h
  | [], h, y, i, _, hl => by
    have : h = [] := List.eq_nil_of_length_eq_zero (by simpa using hl.symm)
    subst this; rfl
  | o :: os, h, y, i, hg, hl => by
    obtain ⟨o', h', rfl, g1, g2⟩ := hCons_of hg
    have e := OSh.isO g1
    simp only [HSh.mk, pins, e]
    rw [pins_same g2 (by simpa using hl)]
theorem pinS_get : ∀ {os : HSh} {h : List Ob} {y : os.ty.den} {i : Nat}, os.get h = some y → os.length = h.length → ∃ z, (pinS i os).get (pins i h) = some z
  | [], h, y, i, _, hl => by
    have : h = [] := List.eq_nil_of_length_eq_zero (by simpa using hl.symm)
    subst this; exact ⟨(), rfl⟩
  | o :: os, h, y, i, hg, hl => by
    obtain ⟨o', h', rfl, g1, g2⟩ := hCons_of hg
    have e : o'.isO = o.isOS := by rw [← OSh.isO g1, OSh.isOS_mk]
    obtain ⟨z, hz⟩ := pinS_get (i := i + 1) g2 (by simpa using hl)
    simp only [pins, e, pinS]
    cases hb : o.isOS with
    | true =>
      refine ⟨((), z), ?_⟩
      have : OSh.get (.pin i) (Ob.pin i) = some () := by show oPin i (Ob.pin i) = some (); simp [oPin, Nat.beq_refl]
      exact hCons_mk this hz
    | false => exact ⟨z, hz⟩
theorem pinS_low : ∀ {os : HSh} {i n : Nat}, i + os.length ≤ n → (pinS i os).all (OSh.low n) = true
  | [], i, n, _ => rfl
  | o :: os, i, n, h => by
    have ih := pinS_low (os := os) (i := i + 1) (n := n) (by simp at h; omega)
    simp only [pinS]
    cases hb : o.isOS with
    | true => simp only [cond_true, List.all_cons, ih, Bool.and_true, OSh.low]; rw [Nat.blt_eq]; simp at h; omega
    | false => exact ih
theorem OSh.low_le {n k : Nat} (h : n ≤ k) {o : OSh} (ho : o.low n = true) : o.low k = true := by
  have key : ∀ is : List Nat, lowL n is = true → lowL k is = true := fun is => by
    induction is with
    | nil => exact id
    | cons i is ih =>
      simp only [lowL, Bool.and_eq_true]
      exact fun ⟨h1, h2⟩ => ⟨by rw [Nat.blt_eq]; have := of_blt h1; omega, ih h2⟩
  cases o with
  | cells t ss => exact key _ ho
  | pin i => show Nat.blt i k = true; rw [Nat.blt_eq]; have := of_blt ho; omega
  | _ => rfl
/-- A contract of shapes serves what has the shapes. -/
theorem PG.weak {P : Program} {f : Nat} {ain : Shs} {hin : HSh} {x : ain.ty.den} {y : hin.ty.den} {args : List SV} {s : SV} {h hs' hx : List Ob} (hF : PG P f (ain.mk x) (hin.mk y) s hs' hx) (hx' : ain.get args = some x) (hy : hin.get h = some y) (hl : hin.length = h.length)
    (h1 : lowL hin.length ain.ids = true) (h2 : hin.all (OSh.low hin.length) = true) : PG P f args h s hs' hx := by
  intro bs vs w F m hvs hsim
  obtain ⟨z, hz⟩ := pinS_get (i := 0) hy hl
  have hg : HSh.get (hin ++ pinS 0 hin) (h ++ pins 0 h) = some (hApp hin (pinS 0 hin) y z) := by
    have e : ∀ {os : HSh} {h g : List Ob} {y : os.ty.den}, os.get h = some y → os.get (h ++ g) = some y := by
      intro os
      induction os with
      | nil => intro h g y hy; exact hy
      | cons o os ih =>
        intro h g y hy
        obtain ⟨o', h', rfl, g1, g2⟩ := hCons_of hy
        exact hCons_mk g1 (ih g2)
    exact hApp_get (e hy) (by rw [hl, List.drop_left]; exact hz)
  have hall : (hin ++ pinS 0 hin).all (OSh.low (hin ++ pinS 0 hin).length) = true := by
    rw [List.all_append, Bool.and_eq_true]
    refine ⟨List.all_eq_true.2 fun o ho => OSh.low_le (by simp) (List.all_eq_true.1 h2 o ho), pinS_low (by simp)⟩
  have hsim' := hsim.shape hg hall
  rw [hApp_mk, pinS_mk (y := y)] at hsim'
  have hvs' : RdSL w F (cutM (hin ++ pinS 0 hin).length m) vs (ain.mk x) := (Shs.get_rd hx' hvs).keep (Ext.refl _ _) fun j hj _ => ⟨cutM_lt (by
    rw [Shs.mk_ids] at hj
    have := lowL_mem h1 j hj
    simp; omega), fun _ _ _ => rfl⟩
  refine (hF bs vs w F _ hvs' hsim').mono ?_
  rintro e w' ⟨v, s', h', F', m', he, ⟨hs1, hh'⟩, hr, hsm, hg'⟩
  refine ⟨v, s', h', F', m', he, ⟨hs1, ?_⟩, hr, hsm, hg'.uncut⟩
  rw [hh', pins_same hy hl]
/-- What a function leaves, taken by shapes. -/
theorem PC.reshape {P : Program} {f : Nat} {args : List SV} {h : List Ob} {R R' : SV → List Ob → Prop} (hP : PC P f args h R)
    (hR : ∀ s h', R s h' → ∃ (S : Sh) (y : S.ty.den) (F : HSh) (z : F.ty.den), S.get s = some y ∧ F.get h' = some z ∧ lowL F.length S.ids = true ∧ F.all (OSh.low F.length) = true ∧ R' (S.mk y) (F.mk z)) : PC P f args h R' := by
  intro bs vs w F m hvs hsim
  refine (hP bs vs w F m hvs hsim).mono ?_
  rintro e w' ⟨v, s, h', F', m', he, hr, hrd, hs', hg⟩
  obtain ⟨S, y, Fs, z, g1, g2, g3, g4, g5⟩ := hR s h' hr
  exact ⟨v, S.mk y, Fs.mk z, F', cutM Fs.length m', he, g5, RdS.cut (fun i hi => by rw [Sh.mk_ids] at hi; exact lowL_mem g3 i hi) (Sh.get_rd g1 hrd), hs'.shape g2 g4, hg.cut⟩

/-! ### The callee's numbers -/
def inv (l : List Nat) (j : Nat) : Nat := match idx l j with
  | some i => i
  | none => 0
theorem rho_inv {l : List Nat} {j : Nat} (h : (idx l j).isSome = true) : rho l (inv l j) = j := by
  obtain ⟨i, hi⟩ := Option.isSome_iff_exists.1 h
  have := idx_some hi
  simp [rho, inv, hi, List.getD, this]
mutual
theorem SV.ren_ren {f g : Nat → Nat} : ∀ {s : SV}, (∀ j ∈ s.ids, g (f j) = j) → (s.ren f).ren g = s
  | .p _, _ => rfl
  | .own e n τ xs j, h => by simp only [SV.ren, h j (by simp [SV.ids])]
  | .ptr o d, h => by simp only [SV.ren, h o (by simp [SV.ids])]
  | .row e len o, h => by simp only [SV.ren, h o (by simp [SV.ids])]
  | .padr _, _ => rfl
  | .agg cs, h => by simp only [SV.ren]; rw [SV.renL_renL fun j hj => h j (by simpa [SV.ids] using hj)]
  | .tup cs, h => by simp only [SV.ren]; rw [SV.renL_renL fun j hj => h j (by simpa [SV.ids] using hj)]
  | .fn _ cs, h => by simp only [SV.ren]; rw [SV.renL_renL fun j hj => h j (by simpa [SV.ids] using hj)]
  | .rw e n len j, h => by simp only [SV.ren, h j (by simp [SV.ids])]
  | .np o d, h => by simp only [SV.ren, h o (by simp [SV.ids])]
  | .bf e xs j, h => by simp only [SV.ren, h j (by simp [SV.ids])]
  | .mo o, h => by simp only [SV.ren, h o (by simp [SV.ids])]
  | .rp o _ _ _, h => by simp only [SV.ren, h o (by simp [SV.ids])]
  | .any, _ => rfl
theorem SV.renL_renL {f g : Nat → Nat} : ∀ {ss : List SV}, (∀ j ∈ SV.idsL ss, g (f j) = j) → SV.renL g (SV.renL f ss) = ss
  | [], _ => rfl
  | s :: ss, h => by simp only [SV.renL]; rw [SV.ren_ren fun j hj => h j (by simp [SV.idsL, hj]), SV.renL_renL fun j hj => h j (by simp [SV.idsL, hj])]
end
theorem Ob.ren_ren {f g : Nat → Nat} {o : Ob} (h : ∀ j ∈ o.ids, g (f j) = j) : (o.ren f).ren g = o := by
  cases o with
  | cells t cs => simp only [Ob.ren]; rw [SV.renL_renL h]
  | _ => rfl
def addN (l : List Nat) (j : Nat) : List Nat := bif l.any (Nat.beq j) then l else l ++ [j]
/-- The things that are reached from some. -/
def reach (h : List Ob) : Nat → List Nat → List Nat
  | 0, l => l
  | n + 1, l => reach h n (l.foldl (fun acc i => match h[i]? with
    | some o => o.ids.foldl addN acc
    | none => acc) l)
end Go.Proofs.YtmjkflppajienaaDoor.R
