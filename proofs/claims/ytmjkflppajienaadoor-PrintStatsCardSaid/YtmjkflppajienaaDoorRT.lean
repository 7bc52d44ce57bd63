/- Typed things: what is told, taken as a thing of a coded type; shapes of what is told; no condition but the typed premises. -/
import Derived.Test.YtmjkflppajienaaDoorRD
namespace Go.Proofs.YtmjkflppajienaaDoor.R
open Go Go.RowKit
set_option linter.unusedVariables false
set_option linter.unusedSimpArgs false

def Ty.isAg : Ty → Bool
  | .un | .pr _ _ | .ar _ _ => true
  | _ => false
def dI (k : IntKind) : PV → Option Int
  | .s (.int k' x) => if k' = k then some x else none
  | _ => none
def dB : PV → Option Bool
  | .s (.bool x) => some x
  | _ => none
def dS : PV → Option ByteArray
  | .s (.string x) => some x
  | _ => none
def dF : PV → Option Nat
  | .s (.float .f64 x) => some x
  | _ => none
def dC : PV → Option (Nat × Nat)
  | .s (.complex .f64 x y) => some (x, y)
  | _ => none
def cst {t t' : Ty} (f : Ty → Type) (h : t' = t) (x : f t') : f t := h ▸ x
def dSl (n : Nat) (t : Ty) : PV → Option (List t.den)
  | .sl n' t' xs => if h : t' = t then (bif Nat.beq n' n then some (cst (fun t => List t.den) h xs) else none) else none
  | .s (.slice none 0 0) => some []
  | _ => none
def dPt (t : Ty) : PV → Option (Option t.den)
  | .pt t' x => if h : t' = t then some (cst (fun t => Option t.den) h x) else none
  | .s (.pointer none) => some none
  | _ => none
def dMp (a bt : Ty) : PV → Option (List (a.den × bt.den))
  | .mp a' b' m => if h : a' = a then (if h' : b' = bt then some (cst (fun t => List (t.den × bt.den)) h (cst (fun t => List (a'.den × t.den)) h' m)) else none) else none
  | .s (.map none) => some []
  | _ => none
def dEr : PV → Option Bool
  | .er x => some x
  | .s .nilIface => some false
  | _ => none
def dV {α : Type} (f : List PV → Option (α × List PV)) : (n : Nat) → List PV → Option (Vec α n × List PV)
  | 0, r => some ((), r)
  | n + 1, r => match f r with
    | some (x, r) => match dV f n r with
      | some (v, r) => some ((x, v), r)
      | none => none
    | none => none
def dOne {α : Type} (f : PV → Option α) : List PV → Option (α × List PV)
  | q :: r => match f q with
    | some x => some (x, r)
    | none => none
  | [] => none
def dPr {α β : Type} (f : List PV → Option (α × List PV)) (g : List PV → Option (β × List PV)) (r : List PV) : Option ((α × β) × List PV) := match f r with
  | some (x, r) => match g r with
    | some (y, r) => some ((x, y), r)
    | none => none
  | none => none
/-- The first cells of a row, taken as a thing of a coded type, and the rest. -/
def Ty.dec : (t : Ty) → List PV → Option (t.den × List PV)
  | .i k => dOne (dI k)
  | .b => dOne dB
  | .s => dOne dS
  | .f => dOne dF
  | .c => dOne dC
  | .u => fun _ => none
  | .sl n t => dOne (dSl n t)
  | .un => fun r => some ((), r)
  | .pr g h => dPr g.dec h.dec
  | .ar n t => dV t.dec n
  | .pt t => dOne (dPt t)
  | .mp g h => dOne (dMp g h)
  | .er => dOne dEr
def dAll {t : Ty} : Option (t.den × List PV) → Option t.den
  | some (x, []) => some x
  | _ => none
/-- Pure data, taken as a thing of a coded type. -/
def Ty.get (t : Ty) (q : PV) : Option t.den := bif t.isAg then
    match q with
    | .agg cs => dAll (t.dec cs)
    | .s (.agg vs) => bif ones vs.toList then dAll (t.dec (vs.toList.map .s)) else none
    | _ => none
  else dAll (t.dec [q])

section
variable {w : World} {F : Fz}

theorem RdL.split : ∀ {cs ds : List PV} {vs : List Value}, RdL w F vs (cs ++ ds) → ∃ v1 v2, vs = v1 ++ v2 ∧ RdL w F v1 cs ∧ RdL w F v2 ds
  | [], ds, vs, h => ⟨[], vs, rfl, .nil, h⟩
  | c :: cs, ds, _, .cons h1 h hs => by
    obtain ⟨v1, v2, rfl, g1, g2⟩ := RdL.split hs
    exact ⟨_ :: v1, v2, rfl, .cons h1 h g1, g2⟩

/-- What is said of a way to take cells. -/
def DecOk {α : Type} (w : World) (F : Fz) (f : List PV → Option (α × List PV)) (e : α → List PV) : Prop :=
  ∀ (qs r : List PV) (x : α) (vs : List Value), f qs = some (x, r) → RdL w F vs qs → ∃ v1 v2, vs = v1 ++ v2 ∧ RdL w F v1 (e x) ∧ RdL w F v2 r

theorem dV_ok {α : Type} {f : List PV → Option (α × List PV)} {e : α → List PV} (hf : DecOk w F f e) : ∀ n : Nat, DecOk w F (dV f n) (Vec.flat e n)
  | 0 => by
    intro qs r x vs h hr
    obtain rfl : qs = r := congrArg Prod.snd (Option.some.inj h)
    exact ⟨[], vs, rfl, .nil, hr⟩
  | n + 1 => by
    intro qs r x vs h hr
    simp only [dV] at h
    split at h
    · rename_i y r1 h1
      split at h
      · rename_i v r2 h2
        simp only [Option.some.injEq, Prod.mk.injEq] at h
        obtain ⟨rfl, rfl⟩ := h
        obtain ⟨a1, a2, rfl, g1, g2⟩ := hf _ _ _ _ h1 hr
        obtain ⟨b1, b2, rfl, k1, k2⟩ := dV_ok hf n _ _ _ _ h2 g2
        exact ⟨a1 ++ b1, b2, by simp, g1.append k1, k2⟩
      · cases h
    · cases h

theorem dI_ok {k : IntKind} {q : PV} {x : Int} (h : dI k q = some x) : q = .s (.int k x) := by
  unfold dI at h
  split at h
  · split at h
    · rename_i hk; simp only [Option.some.injEq] at h; subst h hk; rfl
    · cases h
  · cases h
theorem dB_ok {q : PV} {x : Bool} (h : dB q = some x) : q = .s (.bool x) := by
  unfold dB at h; split at h
  · simp only [Option.some.injEq] at h; subst h; rfl
  · cases h
theorem dS_ok {q : PV} {x : ByteArray} (h : dS q = some x) : q = .s (.string x) := by
  unfold dS at h; split at h
  · simp only [Option.some.injEq] at h; subst h; rfl
  · cases h
theorem dF_ok {q : PV} {x : Nat} (h : dF q = some x) : q = .s (.float .f64 x) := by
  unfold dF at h; split at h
  · simp only [Option.some.injEq] at h; subst h; rfl
  · cases h
theorem dC_ok {q : PV} {x : Nat × Nat} (h : dC q = some x) : q = .s (.complex .f64 x.1 x.2) := by
  unfold dC at h; split at h
  · simp only [Option.some.injEq] at h; subst h; rfl
  · cases h
theorem dSl_rd {n : Nat} {t : Ty} {q : PV} {x : List t.den} {v : Value} (h : dSl n t q = some x) (hr : Rd w F v q) : Rd w F v (.sl n t x) := by
  unfold dSl at h; split at h
  · split at h
    · rename_i ht
      subst ht
      cases hb : Nat.beq _ n with
      | false => rw [hb] at h; simp at h
      | true =>
        rw [hb] at h
        simp only [cond_true, Option.some.injEq] at h
        obtain rfl := Nat.eq_of_beq_eq_true hb
        subst h
        exact hr
    · cases h
  · simp only [Option.some.injEq] at h; subst h; cases hr; exact .nil _ _
  · cases h
theorem dPt_rd {t : Ty} {q : PV} {x : Option t.den} {v : Value} (h : dPt t q = some x) (hr : Rd w F v q) : Rd w F v (.pt t x) := by
  unfold dPt at h; split at h
  · split at h
    · rename_i ht; subst ht; simp only [Option.some.injEq] at h; subst h; exact hr
    · cases h
  · simp only [Option.some.injEq] at h; subst h; cases hr; exact .pt0 _
  · cases h
theorem dMp_rd {a bt : Ty} {q : PV} {x : List (a.den × bt.den)} {v : Value} (h : dMp a bt q = some x) (hr : Rd w F v q) : Rd w F v (.mp a bt x) := by
  unfold dMp at h; split at h
  · split at h
    · rename_i ha
      split at h
      · rename_i hb; subst ha hb; simp only [Option.some.injEq] at h; subst h; exact hr
      · cases h
    · cases h
  · simp only [Option.some.injEq] at h; subst h; cases hr; exact .mp0 _ _
  · cases h

theorem dEr_rd {q : PV} {x : Bool} {v : Value} (h : dEr q = some x) (hr : Rd w F v q) : Rd w F v (.er x) := by
  unfold dEr at h; split at h
  · simp only [Option.some.injEq] at h; subst h; exact hr
  · simp only [Option.some.injEq] at h; subst h; cases hr; exact .er0
  · cases h

theorem dOne_ok {α : Type} {f : PV → Option α} {e : α → PV} (hf : ∀ q x v, f q = some x → Rd w F v q → Rd w F v (e x)) : DecOk w F (dOne f) (fun x => [e x]) := by
  intro qs r x vs h hr
  cases qs with
  | nil => simp [dOne] at h
  | cons q qs =>
    simp only [dOne] at h
    split at h
    · rename_i y hy
      simp only [Option.some.injEq, Prod.mk.injEq] at h
      obtain ⟨rfl, rfl⟩ := h
      cases hr with | cons h1 h hs => exact ⟨[_], _, rfl, .cons h1 (hf _ _ _ hy h) .nil, hs⟩
    · cases h
theorem dPr_ok {α β : Type} {f : List PV → Option (α × List PV)} {g : List PV → Option (β × List PV)} {e : α → List PV} {e' : β → List PV} (hf : DecOk w F f e) (hg : DecOk w F g e') : DecOk w F (dPr f g) (fun x => e x.1 ++ e' x.2) := by
  intro qs r x vs h hr
  unfold dPr at h
  split at h
  · rename_i y r1 h1
    split at h
    · rename_i v r2 h2
      simp only [Option.some.injEq, Prod.mk.injEq] at h
      obtain ⟨rfl, rfl⟩ := h
      obtain ⟨a1, a2, rfl, g1, g2⟩ := hf _ _ _ _ h1 hr
      obtain ⟨b1, b2, rfl, k1, k2⟩ := hg _ _ _ _ h2 g2
      exact ⟨a1 ++ b1, b2, by simp, g1.append k1, k2⟩
    · cases h
  · cases h
theorem dec_ok : ∀ t : Ty, DecOk w F t.dec (fun x => (t.enc x).cells)
  | .i k => dOne_ok (e := fun x => .s (.int k x)) fun q x v h hr => by rw [dI_ok h] at hr; exact hr
  | .b => dOne_ok (e := fun x => .s (.bool x)) fun q x v h hr => by rw [dB_ok h] at hr; exact hr
  | .s => dOne_ok (e := fun x => .s (.string x)) fun q x v h hr => by rw [dS_ok h] at hr; exact hr
  | .f => dOne_ok (e := fun x => .s (.float .f64 x)) fun q x v h hr => by rw [dF_ok h] at hr; exact hr
  | .c => dOne_ok (e := fun (x : Nat × Nat) => .s (.complex .f64 x.1 x.2)) fun q x v h hr => by rw [dC_ok h] at hr; exact hr
  | .u => fun qs r x vs h hr => by cases h
  | .sl n t => dOne_ok (e := fun x => .sl n t x) fun q x v h hr => dSl_rd h hr
  | .un => fun qs r x vs h hr => by
    obtain rfl : qs = r := congrArg Prod.snd (Option.some.inj h)
    exact ⟨[], vs, rfl, .nil, hr⟩
  | .pr g h => dPr_ok (dec_ok g) (dec_ok h)
  | .ar n t => dV_ok (dec_ok t) n
  | .pt t => dOne_ok (e := fun x => .pt t x) fun q x v h hr => dPt_rd h hr
  | .mp g h => dOne_ok (e := fun x => .mp g h x) fun q x v h hr => dMp_rd h hr
  | .er => dOne_ok (e := fun x => .er x) fun q x v h hr => dEr_rd h hr

theorem dAll_rd {t : Ty} {cs : List PV} {x : t.den} {vs : List Value} (h : dAll (t.dec cs) = some x) (hr : RdL w F vs cs) : RdL w F vs (t.enc x).cells := by
  unfold dAll at h
  split at h
  · rename_i y hy
    simp only [Option.some.injEq] at h
    subst h
    obtain ⟨v1, v2, rfl, g1, g2⟩ := dec_ok t _ _ _ _ hy hr
    cases g2
    simpa using g1
  · cases h

theorem enc_agg : ∀ {t : Ty} {x : t.den}, t.isAg = true → t.enc x = .agg (t.enc x).cells
  | .un, x, _ => rfl
  | .pr _ _, x, _ => rfl
  | .ar _ _, x, _ => rfl
theorem enc_one : ∀ {t : Ty} {x : t.den}, t.isAg = false → (t.enc x).cells = [t.enc x]
  | .i _, x, _ => rfl
  | .b, x, _ => rfl
  | .s, x, _ => rfl
  | .f, x, _ => rfl
  | .c, x, _ => rfl
  | .u, x, _ => rfl
  | .sl _ _, x, _ => rfl
  | .pt _, x, _ => rfl
  | .mp _ _, x, _ => rfl
  | .er, x, _ => rfl

theorem dOne_one {α : Type} {f : PV → Option α} {q : PV} {x : α} {v : Value} (hf : ∀ x, f q = some x → v.oneCell' = true) (h : dOne f [q] = some (x, [])) : v.oneCell' = true := by
  simp only [dOne] at h
  split at h
  · rename_i y hy; exact hf y hy
  · cases h
theorem dAll_of {t : Ty} {o : Option (t.den × List PV)} {x : t.den} (h : dAll o = some x) : o = some (x, []) := by
  unfold dAll at h
  split at h
  · simp only [Option.some.injEq] at h; subst h; rfl
  · cases h
theorem dec_one {q : PV} {v : Value} (hr : Rd w F v q) : ∀ {t : Ty} {x : t.den}, t.isAg = false → dAll (t.dec [q]) = some x → v.oneCell' = true
  | .i k, x, _, h => dOne_one (fun x h => by rw [dI_ok h] at hr; cases hr; rfl) (dAll_of h)
  | .b, x, _, h => dOne_one (fun x h => by rw [dB_ok h] at hr; cases hr; rfl) (dAll_of h)
  | .s, x, _, h => dOne_one (fun x h => by rw [dS_ok h] at hr; cases hr; rfl) (dAll_of h)
  | .f, x, _, h => dOne_one (fun x h => by rw [dF_ok h] at hr; cases hr; rfl) (dAll_of h)
  | .c, x, _, h => dOne_one (fun x h => by rw [dC_ok h] at hr; cases hr; rfl) (dAll_of h)
  | .u, x, _, h => by cases h
  | .sl n t, x, _, h => dOne_one (fun x h => by have := dSl_rd h hr; cases this <;> rfl) (dAll_of h)
  | .pt t, x, _, h => dOne_one (fun x h => by have := dPt_rd h hr; cases this <;> rfl) (dAll_of h)
  | .mp g k, x, _, h => dOne_one (fun x h => by have := dMp_rd h hr; cases this <;> rfl) (dAll_of h)
  | .er, x, _, h => dOne_one (fun x h => by have := dEr_rd h hr; cases this <;> rfl) (dAll_of h)

theorem get_rd {t : Ty} {q : PV} {x : t.den} {v : Value} (h : t.get q = some x) (hr : Rd w F v q) : Rd w F v (t.enc x) := by
  unfold Ty.get at h
  cases ha : t.isAg with
  | true =>
    rw [ha] at h
    simp only [cond_true] at h
    rw [enc_agg ha]
    split at h
    · cases hr with | agg hl => exact .agg (dAll_rd h hl)
    · rename_i vs
      cases ho : ones vs.toList with
      | true =>
        rw [ho] at h
        cases hr
        have := Rd.agg (dAll_rd h (ones_rd (w := w) (F := F) ho))
        simpa using this
      | false => rw [ho] at h; simp at h
    · cases h
  | false =>
    rw [ha] at h
    simp only [cond_false] at h
    have := dAll_rd h (.cons (dec_one hr ha h) hr .nil)
    rw [enc_one ha] at this
    cases this with | cons _ hh _ => exact hh
end

/-! ### Shapes -/
mutual
/-- The shape of what is told: what is typed is left out. -/
inductive Sh where
  | p (t : Ty)
  | own (e n : Nat) (t : Ty) (j : Nat)
  | bf (e j : Nat)
  | ptr (o off : Nat)
  | np (o off : Nat)
  | mo (o : Nat)
  | row (e o : Nat)
  | k (c : Nat)
  | agg (ss : Shs)
  | tup (ss : Shs)
  | fn (f : Nat) (ss : Shs)
inductive Shs where
  | nil
  | cons (s : Sh) (ss : Shs)
end
mutual
def Sh.ty : Sh → Ty
  | .p t => t
  | .own _ n t _ => .sl n t
  | .bf _ _ => .sl 1 .u
  | .ptr _ _ | .np _ _ | .mo _ | .k _ => .un
  | .row _ _ => .f
  | .agg ss | .tup ss | .fn _ ss => ss.ty
def Shs.ty : Shs → Ty
  | .nil => .un
  | .cons s ss => .pr s.ty ss.ty
end
/-- Constants that are no typed things. -/
def kv : Nat → Value
  | 0 => .pointer none
  | 1 => .nilFunc
  | 2 => .nilIface
  | 3 => .slice none 0 0
  | _ => .map none
def kOk (c : Nat) : Value → Bool
  | .pointer none => Nat.beq c 0
  | .nilFunc => Nat.beq c 1
  | .nilIface => Nat.beq c 2
  | .slice none 0 0 => Nat.beq c 3
  | .map none => Nat.ble 4 c
  | _ => false
theorem kOk_eq {c : Nat} {v : Value} (h : kOk c v = true) : kv c = v := by
  unfold kOk at h
  split at h
  · obtain rfl := Nat.eq_of_beq_eq_true h; rfl
  · obtain rfl := Nat.eq_of_beq_eq_true h; rfl
  · obtain rfl := Nat.eq_of_beq_eq_true h; rfl
  · obtain rfl := Nat.eq_of_beq_eq_true h; rfl
  · have := Nat.le_of_ble_eq_true h
    match c, this with
    | c + 4, _ => rfl
  · cases h
mutual
def Sh.mk : (s : Sh) → s.ty.den → SV
  | .p t, x => .p (t.enc x)
  | .own e n t j, x => .own e n t x j
  | .bf e j, x => .bf e x j
  | .ptr o d, _ => .ptr o d
  | .np o d, _ => .np o d
  | .mo o, _ => .mo o
  | .row e o, x => .row e x o
  | .k c, _ => .p (.s (kv c))
  | .agg ss, x => .agg (ss.mk x)
  | .tup ss, x => .tup (ss.mk x)
  | .fn f ss, x => .fn f (ss.mk x)
def Shs.mk : (ss : Shs) → ss.ty.den → List SV
  | .nil, _ => []
  | .cons s ss, x => s.mk (Prod.fst (α := s.ty.den) (β := ss.ty.den) x) :: ss.mk (Prod.snd (α := s.ty.den) (β := ss.ty.den) x)
end
def beq2 (a b c d : Nat) : Bool := Nat.beq a c && Nat.beq b d
theorem beq2_eq {a b c d : Nat} (h : beq2 a b c d = true) : a = c ∧ b = d := by
  simp only [beq2, Bool.and_eq_true] at h
  exact ⟨Nat.eq_of_beq_eq_true h.1, Nat.eq_of_beq_eq_true h.2⟩
theorem bif_some {α : Type} {c : Bool} {x : Option α} {y : α} (h : (bif c then x else none) = some y) : c = true ∧ x = some y := by
  cases c with
  | true => exact ⟨rfl, h⟩
  | false => cases h
def gP (t : Ty) (v : SV) : Option t.den := match pur v with
  | some q => t.get q
  | none => none
def gOwn (e n : Nat) (t : Ty) (j : Nat) : SV → Option (List t.den)
  | .own e' n' t' xs j' => if h : t' = t then (bif beq2 e j e' j' && Nat.beq n n' then some (cst (fun t => List t.den) h xs) else none) else none
  | _ => none
def gBf (e j : Nat) : SV → Option (List UInt8)
  | .bf e' xs j' => bif beq2 e j e' j' then some xs else none
  | _ => none
def gPtr (o d : Nat) : SV → Option Unit
  | .ptr o' d' => bif beq2 o d o' d' then some () else none
  | _ => none
def gNp (o d : Nat) : SV → Option Unit
  | .np o' d' => bif beq2 o d o' d' then some () else none
  | _ => none
def gMo (o : Nat) : SV → Option Unit
  | .mo o' => bif Nat.beq o o' then some () else none
  | _ => none
def gRow (e o : Nat) : SV → Option Nat
  | .row e' x o' => bif beq2 e o e' o' then some x else none
  | _ => none
def gK (c : Nat) : SV → Option Unit
  | .p (.s v) => bif kOk c v then some () else none
  | _ => none
def gAgg : SV → Option (List SV)
  | .agg vs => some vs
  | _ => none
def gTup : SV → Option (List SV)
  | .tup vs => some vs
  | _ => none
def gFn (f : Nat) : SV → Option (List SV)
  | .fn f' vs => bif Nat.beq f f' then some vs else none
  | _ => none
def gCons {α β : Type} (f : SV → Option α) (g : List SV → Option β) : List SV → Option (α × β)
  | v :: vs => match f v with
    | some x => match g vs with
      | some y => some (x, y)
      | none => none
    | none => none
  | [] => none
def gNil : List SV → Option Unit
  | [] => some ()
  | _ => none
def obind {α β : Type} (f : SV → Option α) (g : α → Option β) (v : SV) : Option β := match f v with
  | some x => g x
  | none => none
mutual
/-- What is typed in what is told, if it has the shape. -/
def Sh.get : (s : Sh) → SV → Option s.ty.den
  | .p t => gP t
  | .own e n t j => gOwn e n t j
  | .bf e j => gBf e j
  | .ptr o d => gPtr o d
  | .np o d => gNp o d
  | .mo o => gMo o
  | .row e o => gRow e o
  | .k c => gK c
  | .agg ss => obind gAgg ss.get
  | .tup ss => obind gTup ss.get
  | .fn f ss => obind (gFn f) ss.get
def Shs.get : (ss : Shs) → List SV → Option ss.ty.den
  | .nil => gNil
  | .cons s ss => gCons s.get ss.get
end
section
variable {w : World} {F : Fz} {m : Mp} {v : Value} {u : SV}
theorem gP_rd {t : Ty} {x : t.den} (h : gP t u = some x) (hr : RdS w F m v u) : RdS w F m v (.p (t.enc x)) := by
  unfold gP at h
  split at h
  · rename_i q hq; exact .p (get_rd h (pur_rd hq hr))
  · cases h
theorem gOwn_rd {e n j : Nat} {t : Ty} {x : List t.den} (h : gOwn e n t j u = some x) (hr : RdS w F m v u) : RdS w F m v (.own e n t x j) := by
  unfold gOwn at h
  split at h
  · split at h
    · rename_i ht
      subst ht
      obtain ⟨h1, h2⟩ := bif_some h
      simp only [Bool.and_eq_true] at h1
      obtain ⟨rfl, rfl⟩ := beq2_eq h1.1
      obtain rfl := Nat.eq_of_beq_eq_true h1.2
      obtain rfl := Option.some.inj h2
      exact hr
    · cases h
  · cases h
theorem gBf_rd {e j : Nat} {x : List UInt8} (h : gBf e j u = some x) (hr : RdS w F m v u) : RdS w F m v (.bf e x j) := by
  unfold gBf at h
  split at h
  · obtain ⟨h1, h2⟩ := bif_some h
    obtain ⟨rfl, rfl⟩ := beq2_eq h1
    obtain rfl := Option.some.inj h2
    exact hr
  · cases h
theorem gPtr_rd {o d : Nat} {x : Unit} (h : gPtr o d u = some x) (hr : RdS w F m v u) : RdS w F m v (.ptr o d) := by
  unfold gPtr at h
  split at h
  · obtain ⟨h1, h2⟩ := bif_some h
    obtain ⟨rfl, rfl⟩ := beq2_eq h1
    exact hr
  · cases h
theorem gNp_rd {o d : Nat} {x : Unit} (h : gNp o d u = some x) (hr : RdS w F m v u) : RdS w F m v (.np o d) := by
  unfold gNp at h
  split at h
  · obtain ⟨h1, h2⟩ := bif_some h
    obtain ⟨rfl, rfl⟩ := beq2_eq h1
    exact hr
  · cases h
theorem gMo_rd {o : Nat} {x : Unit} (h : gMo o u = some x) (hr : RdS w F m v u) : RdS w F m v (.mo o) := by
  unfold gMo at h
  split at h
  · obtain ⟨h1, h2⟩ := bif_some h
    obtain rfl := Nat.eq_of_beq_eq_true h1
    exact hr
  · cases h
theorem gRow_rd {e o : Nat} {x : Nat} (h : gRow e o u = some x) (hr : RdS w F m v u) : RdS w F m v (.row e x o) := by
  unfold gRow at h
  split at h
  · obtain ⟨h1, h2⟩ := bif_some h
    obtain ⟨rfl, rfl⟩ := beq2_eq h1
    obtain rfl := Option.some.inj h2
    exact hr
  · cases h
theorem gK_rd {c : Nat} {x : Unit} (h : gK c u = some x) (hr : RdS w F m v u) : RdS w F m v (.p (.s (kv c))) := by
  unfold gK at h
  split at h
  · obtain ⟨h1, h2⟩ := bif_some h
    rw [kOk_eq h1]
    exact hr
  · cases h
theorem obind_of {α β : Type} {f : SV → Option α} {g : α → Option β} {y : β} (h : obind f g u = some y) : ∃ x, f u = some x ∧ g x = some y := by
  unfold obind at h
  split at h
  · rename_i x hx; exact ⟨x, hx, h⟩
  · cases h
theorem gAgg_of {vs : List SV} (h : gAgg u = some vs) : u = .agg vs := by
  unfold gAgg at h; split at h
  · rw [Option.some.inj h]
  · cases h
theorem gTup_of {vs : List SV} (h : gTup u = some vs) : u = .tup vs := by
  unfold gTup at h; split at h
  · rw [Option.some.inj h]
  · cases h
theorem gFn_of {f : Nat} {vs : List SV} (h : gFn f u = some vs) : u = .fn f vs := by
  unfold gFn at h; split at h
  · obtain ⟨h1, h2⟩ := bif_some h
    rw [Nat.eq_of_beq_eq_true h1, Option.some.inj h2]
  · cases h
theorem gCons_of {α β : Type} {f : SV → Option α} {g : List SV → Option β} {us : List SV} {x : α × β} (h : gCons f g us = some x) : ∃ u us', us = u :: us' ∧ f u = some x.1 ∧ g us' = some x.2 := by
  unfold gCons at h
  split at h
  · split at h
    · rename_i a ha
      split at h
      · rename_i b hb; obtain rfl := Option.some.inj h; exact ⟨_, _, rfl, ha, hb⟩
      · cases h
    · cases h
  · cases h
end
mutual
theorem Sh.get_rd {w : World} {F : Fz} {m : Mp} : ∀ {s : Sh} {v : Value} {u : SV} {x : s.ty.den}, s.get u = some x → RdS w F m v u → RdS w F m v (s.mk x)
  | .p t, v, u, x, h, hr => gP_rd h hr
  | .own e n t j, v, u, x, h, hr => gOwn_rd h hr
  | .bf e j, v, u, x, h, hr => gBf_rd h hr
  | .ptr o d, v, u, x, h, hr => gPtr_rd h hr
  | .np o d, v, u, x, h, hr => gNp_rd h hr
  | .mo o, v, u, x, h, hr => gMo_rd h hr
  | .row e o, v, u, x, h, hr => gRow_rd h hr
  | .k c, v, u, x, h, hr => gK_rd h hr
  | .agg ss, v, u, x, h, hr => by
    obtain ⟨vs, h1, h2⟩ := obind_of h
    obtain rfl := gAgg_of h1
    cases hr with | agg h1 hl => exact .agg h1 (Shs.get_rd h2 hl)
  | .tup ss, v, u, x, h, hr => by
    obtain ⟨vs, h1, h2⟩ := obind_of h
    obtain rfl := gTup_of h1
    cases hr with | tup hl => exact .tup (Shs.get_rd h2 hl)
  | .fn f ss, v, u, x, h, hr => by
    obtain ⟨vs, h1, h2⟩ := obind_of h
    obtain rfl := gFn_of h1
    cases hr with | fn hl => exact .fn (Shs.get_rd h2 hl)
theorem Shs.get_rd {w : World} {F : Fz} {m : Mp} : ∀ {ss : Shs} {vs : List Value} {us : List SV} {x : ss.ty.den}, ss.get us = some x → RdSL w F m vs us → RdSL w F m vs (ss.mk x)
  | .nil, vs, us, x, h, hr => by
    cases us with
    | nil => cases hr; exact .nil
    | cons u us => cases h
  | .cons s ss, vs, us, x, h, hr => by
    obtain ⟨u, us', rfl, h1, h2⟩ := gCons_of h
    cases hr with | cons g1 g2 => exact .cons (Sh.get_rd h1 g1) (Shs.get_rd h2 g2)
end
end Go.Proofs.YtmjkflppajienaaDoor.R
