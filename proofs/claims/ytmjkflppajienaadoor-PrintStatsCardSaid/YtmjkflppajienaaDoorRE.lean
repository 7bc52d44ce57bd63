/- One function that tells what an operation yields, and that the machine yields it; no condition but the typed premises. -/
import Derived.Test.YtmjkflppajienaaDoorRD
namespace Go.Proofs.YtmjkflppajienaaDoor.R
open Go Go.RowKit
set_option linter.unusedVariables false
set_option linter.unusedSimpArgs false

/-! ### Reading cells -/
def ldP (i : TI) (cs : List PV) : Option SV :=
  bif i.k.agg then (bif Nat.ble i.size cs.length then some (.p (.agg (cs.take i.size))) else none) else match cs with
    | c :: _ => some (.p c)
    | [] => none
def ldS (i : TI) (cs : List SV) : Option SV :=
  bif i.k.agg then (bif Nat.ble i.size cs.length then some (mkAgg (cs.take i.size)) else none) else match cs with
    | c :: _ => some c
    | [] => none

section
variable {P : Program} {T : Tab} {w : World} {F : Fz} {m : Mp}

theorem run_loadVar_cells {t : Nat} {i : TI} (hi : TIok P t i) {b off : Nat} {vs : List Value} (hc : ∀ j v, vs[j]? = some v → w.cell? ⟨b, off + j, none⟩ = some v) :
    (i.k.agg = true → i.size ≤ vs.length → (loadVar t ⟨b, off, none⟩).run P w = .ok (.agg (vs.take i.size).toArray) w) ∧
    (i.k.agg = false → ∀ v, vs[0]? = some v → (loadVar t ⟨b, off, none⟩).run P w = .ok v w) := by
  constructor
  · intro ha hl
    have hld : (loadCells ⟨b, off, none⟩ i.size).run P w = .ok (vs.take i.size).toArray w := by
      have := run_loadCells_list (P := P) w ⟨b, off, none⟩ (vs.take i.size) (fun j v hj => by
        rw [Addr.add_lit]
        rw [List.getElem?_take] at hj
        split at hj
        · exact hc j v hj
        · cases hj)
      rwa [List.length_take, Nat.min_eq_left hl] at this
    simp only [loadVar, Sem.run_bind, hi.run_isAgg, Result.andThen_ok, ha, if_true, hi.run_size, hld, Sem.run_pure]
  · intro ha v hv
    have h0 := hc 0 v hv
    simp only [Nat.add_zero] at h0
    simp [loadVar, hi.run_isAgg, ha, h0]

theorem ldP_run {t : Nat} {i : TI} (hi : TIok P t i) {b off : Nat} {cs : List PV} {s : SV} (hr : RdC w F b off cs) (h : ldP i cs = some s) :
    ∃ v, (loadVar t ⟨b, off, none⟩).run P w = .ok v w ∧ RdS w F m v s := by
  obtain ⟨vs, h1, h2, h3⟩ := hr.vals
  obtain ⟨g1, g2⟩ := run_loadVar_cells (w := w) hi h2
  unfold ldP at h
  cases ha : i.k.agg with
  | true =>
    rw [ha] at h
    cases hb : Nat.ble i.size cs.length with
    | false => rw [hb] at h; simp at h
    | true =>
      rw [hb] at h
      simp only [cond_true, Option.some.injEq] at h
      subst h
      have hle := Nat.le_of_ble_eq_true hb
      exact ⟨_, g1 ha (by omega), .p (.agg (h3.take i.size))⟩
  | false =>
    rw [ha] at h
    cases h3 with
    | nil => simp at h
    | cons h1 hv hs => simp only [cond_false, Option.some.injEq] at h; subst h; exact ⟨_, g2 ha _ (by simp), .p hv⟩

theorem ldS_run {t : Nat} {i : TI} (hi : TIok P t i) {b off e : Nat} {cur : Array Value} {cs : List SV} {s : SV} (hb : w.heap[b]? = some (.cells cur e (0, 0))) (hr : RdSL w F m cur.toList cs) (h1 : ∀ v ∈ cur.toList, v.oneCell' = true)
    (h : ldS i (cs.drop off) = some s) : ∃ v, (loadVar t ⟨b, off, none⟩).run P w = .ok v w ∧ RdS w F m v s := by
  have hd := hr.drop off
  obtain ⟨g1, g2⟩ := run_loadVar_cells (w := w) (vs := cur.toList.drop off) (b := b) (off := off) hi (fun j v hj => by
    rw [cell_of_row w b (off + j) cur e (0, 0) hb]
    rw [List.getElem?_drop] at hj
    simpa using hj)
  unfold ldS at h
  cases ha : i.k.agg with
  | true =>
    rw [ha] at h
    cases hle : Nat.ble i.size (cs.drop off).length with
    | false => rw [hle] at h; simp at h
    | true =>
      rw [hle] at h
      simp only [cond_true, Option.some.injEq] at h
      subst h
      have hle := Nat.le_of_ble_eq_true hle
      have hlen := hd.length
      exact ⟨_, g1 ha (by omega), mkAgg_rd (fun v hv => h1 v (List.mem_of_mem_drop (List.mem_of_mem_take hv))) (hd.take i.size)⟩
  | false =>
    rw [ha] at h
    simp only [cond_false] at h
    split at h
    · rename_i c rest hc
      simp only [Option.some.injEq] at h
      subst h
      obtain ⟨v, hv, hrv⟩ := hd.get (j := 0) (s := c) (by rw [hc]; rfl)
      exact ⟨v, g2 ha v hv, hrv⟩
    · cases h

theorem run_part {t : Nat} {i : TI} (hi : TIok P t i) {vs : List Value} {off : Nat} :
    (i.k.agg = true → (part t vs.toArray off).run P w = .ok (.agg ((vs.drop off).take i.size).toArray) w) ∧
    (i.k.agg = false → ∀ v, (vs.drop off)[0]? = some v → (part t vs.toArray off).run P w = .ok v w) := by
  constructor
  · intro ha
    simp only [part, Sem.run_bind, hi.run_isAgg, Result.andThen_ok, ha, if_true, hi.run_size, Sem.run_pure, List.extract_toArray, List.extract_eq_take_drop]
    congr 3
    rw [Nat.add_sub_cancel_left]
  · intro ha v hv
    simp only [List.getElem?_drop, Nat.add_zero] at hv
    simp [part, hi.run_isAgg, ha, hv]

/-- A part of an aggregate. -/
def partS (i : TI) (off : Nat) : SV → Option SV
  | .p (.agg qs) => ldP i (qs.drop off)
  | .agg cs => ldS i (cs.drop off)
  | _ => none

theorem partS_run {t : Nat} {i : TI} (hi : TIok P t i) {off : Nat} {v : Value} {s r : SV} (hr : RdS w F m v s) (h : partS i off s = some r) :
    ∃ vs u, v = .agg vs ∧ (part t vs off).run P w = .ok u w ∧ RdS w F m u r := by
  cases hr with
  | p hp =>
    cases hp with
    | @agg vs cs hl =>
      simp only [partS] at h
      obtain ⟨g1, g2⟩ := run_part (P := P) (w := w) hi (vs := vs) (off := off)
      have hd := hl.drop off
      refine ⟨vs.toArray, ?_⟩
      unfold ldP at h
      cases ha : i.k.agg with
      | true =>
        rw [ha] at h
        cases hb : Nat.ble i.size (cs.drop off).length with
        | false => rw [hb] at h; simp at h
        | true => rw [hb] at h; simp only [cond_true, Option.some.injEq] at h; subst h; exact ⟨_, rfl, g1 ha, .p (.agg (hd.take i.size))⟩
      | false =>
        rw [ha] at h
        simp only [cond_false] at h
        split at h
        · rename_i c rest hc
          simp only [Option.some.injEq] at h
          subst h
          obtain ⟨v, hv, hrv⟩ := (RdL.toS (m := m) hd).get (j := 0) (s := .p c) (by rw [hc]; rfl)
          exact ⟨v, rfl, g2 ha v hv, hrv⟩
        · cases h
    | s v => simp [partS] at h
    | nil n => simp [partS] at h
    | emp a n => simp [partS] at h
    | sl hn hc hr => simp [partS] at h
    | pt0 => simp [partS] at h
    | pt hr => simp [partS] at h
    | mp0 => simp [partS] at h
    | er0 => simp [partS] at h
    | er1 t v => simp [partS] at h
    | mp hF hb hn hr => simp [partS] at h
  | @agg vs cs h1 hl =>
    simp only [partS] at h
    obtain ⟨g1, g2⟩ := run_part (P := P) (w := w) hi (vs := vs) (off := off)
    have hd := hl.drop off
    refine ⟨vs.toArray, ?_⟩
    unfold ldS at h
    cases ha : i.k.agg with
    | true =>
      rw [ha] at h
      cases hb : Nat.ble i.size (cs.drop off).length with
      | false => rw [hb] at h; simp at h
      | true => rw [hb] at h; simp only [cond_true, Option.some.injEq] at h; subst h; exact ⟨_, rfl, g1 ha, mkAgg_rd (fun v hv => h1 v (List.mem_of_mem_drop (List.mem_of_mem_take hv))) (hd.take i.size)⟩
    | false =>
      rw [ha] at h
      simp only [cond_false] at h
      split at h
      · rename_i c rest hc
        simp only [Option.some.injEq] at h
        subst h
        obtain ⟨v, hv, hrv⟩ := hd.get (j := 0) (s := c) (by rw [hc]; rfl)
        exact ⟨v, rfl, g2 ha v hv, hrv⟩
      · cases h
  | own0 hm => simp [partS] at h
  | owne a hm => simp [partS] at h
  | ownx hn hr hm => simp [partS] at h
  | own hn hr hm hb hc hcm hs => simp [partS] at h
  | ptr hm => simp [partS] at h
  | row hm => simp [partS] at h
  | padr hr => simp [partS] at h
  | tup hl => simp [partS] at h
  | fn hl => simp [partS] at h
  | rw hm hb hc hcm hs => simp [partS] at h
  | np0 => simp [partS] at h
  | np1 hm => simp [partS] at h
  | bf0 hm => simp [partS] at h
  | bf hr hm hb hc hcm hs => simp [partS] at h
  | mo hm => simp [partS] at h
  | rp hm => simp [partS] at h
  | any v => simp [partS] at h
end

/-! ### What an operation yields -/
def kOf (T : Tab) (t : Nat) : TK := match T t with | some i => i.k | none => .ot

def lookL (E : Env) (A : Tg) : List Operand → Option (List SV)
  | [] => some []
  | x :: xs => match look E A x, lookL E A xs with | some s, some ss => some (s :: ss) | _, _ => none

/-- A field: where it lies, and its type. -/
def fieldS (T : Tab) (s f : Nat) : Option (Nat × TI × Nat) := match kOf T s with
  | .st fs => match fs[f]? with
    | some (off, t) => match T t with | some i => bif Nat.beq i.size 0 then none else some (off, i, t) | none => none
    | none => none
  | _ => none

def partsS (E : Env) (A : Tg) (T : Tab) : List (Nat × Operand) → Option (List (Nat × List SV))
  | [] => some []
  | (i, x) :: ps => match look E A x with
    | some s => match scells s, partsS E A T ps with | some cs, some r => some ((i, cs) :: r) | _, _ => none
    | none => none

def placesS (T : Tab) : List (Nat × Nat) → Option (List (Nat × Nat))
  | [] => some []
  | (off, t) :: fs => match T t, placesS T fs with | some i, some r => some ((off, i.size) :: r) | _, _ => none

def buildV (E : Env) (A : Tg) (T : Tab) (t : Nat) (parts : List (Nat × Operand)) : Option SV := match T t with
  | some i => match partsS E A T parts with
    | some ps => match i.k with
      | .st fs => match placesS T fs with
        | some pl => match fillS (pl[·]?) (i.zero.map .p) ps with
          | some cs => some (coS (some i) (mkAgg cs))
          | none => none
        | none => none
      | .ar _ e => match T e with
        | some ei => match fillS (fun j => some (j * ei.size, ei.size)) (i.zero.map .p) ps with
          | some cs => some (coS (some i) (mkAgg cs))
          | none => none
        | none => none
      | _ => none
    | none => none
  | none => none

/-- Pure data that fills just its cells. -/
def PV.ok1 : PV → Bool
  | .s v => v.oneCell'
  | _ => true

/-- The parts of a slice literal: one behind the other, each of n cells. -/
def elemsV (E : Env) (A : Tg) (ei : TI) : Nat → List (Nat × Operand) → Option (List PV)
  | _, [] => some []
  | k, (i, x) :: ps => bif Nat.beq i k then (match look E A x with
    | some s => match pur s, elemsV E A ei (k + 1) ps with
      | some q, some r => bif Nat.beq (coP (some ei) q).cells.length ei.size && (coP (some ei) q).ok1 then some (coP (some ei) q :: r) else none
      | _, _ => none
    | none => none) else none

def litV (E : Env) (A : Tg) (T : Tab) (t len : Nat) (parts : List (Nat × Operand)) : Option (Nat × Nat × List PV) := match kOf T t with
  | .sl e => match T e with
    | some ei => bif Nat.beq parts.length len && Nat.blt 0 ei.size && Nat.ble (len * ei.size) 16777216 then (match elemsV E A ei 0 parts with
      | some xs => some (e, ei.size, xs)
      | none => none) else none
    | none => none
  | _ => none

def lenV (T : Tab) (t : Nat) (s : SV) : Option Int := match kOf T t, s with
  | .sl _, .p (.sl _ _ xs) => some xs.length
  | .sl _, .own _ _ _ xs _ => some xs.length
  | .sl _, .bf _ xs _ => some xs.length
  | .str, .p (.s (.string b)) => some b.size
  | .ar n _, _ => some n
  | _, _ => none

def callV (T : Tab) (b : Builtin) (ts : List Nat) (ss : List SV) : Option SV := match b, ts, ss with
  | .len, [t], [s] => match lenV T t s with | some n => some (.p (.s (.int .i64 n))) | none => none
  | .max, _, [.p (.s (.int k a)), .p (.s (.int _ b))] => some (.p (.s (.int k (if b > a then b else a))))
  | .min, _, [.p (.s (.int k a)), .p (.s (.int _ b))] => some (.p (.s (.int k (if b < a then b else a))))
  | _, _, _ => none

def convV (T : Tab) (src dst : Nat) (s : SV) : Option SV := match kOf T src, kOf T dst, s with
  | .int _, .int k, .p (.s (.int _ n)) => some (.p (.s (.int k (k.wrap n))))
  | .str, .str, .p (.s (.string b)) => some (.p (.s (.string b)))
  | _, _, _ => none

def pickV (E : Env) (A : Tg) (u : Nat) (a b : Operand) (t : Bool) : Option SV :=
  match a, b with
  | .const (.bool true), b => match look E ((u, false) :: A) b with
    | some (.p (.s (.bool y))) => some (.p (.s (.bool (t || y))))
    | _ => none
  | a, .const (.bool false) => match look E ((u, true) :: A) a with
    | some (.p (.s (.bool x))) => some (.p (.s (.bool (t && x))))
    | _ => none
  | a, b => match look E ((u, true) :: A) a, look E ((u, false) :: A) b with
    | some (.p (.s (.bool x))), some (.p (.s (.bool y))) => some (.p (.s (.bool (bif t then x else y))))
    | _, _ => none

/-- What is moved, told by its type; a nil slice in a temporary stays one outright. -/
def mvS (T : Tab) (t : Nat) : Operand → SV → SV
  | .tmp _, .p (.s (.slice none 0 0)) => .p (.s (.slice none 0 0))
  | _, s => coS (T t) s
theorem mvS_rd {w : World} {F : Fz} {m : Mp} {T : Tab} {t : Nat} {v : Value} {x : Operand} {s : SV} (h : RdS w F m v s) : RdS w F m v (mvS T t x s) := by
  unfold mvS
  split
  · exact h
  · exact coS_rd h
/-- What an operation yields, where it is pure data or an address, and cannot panic. -/
def evOp (T : Tab) (E : Env) (A : Tg) (h : List Ob) (o : Oper) : Option SV :=
  match o.op with
  | .move x | .assign x => match look E A x with | some s => some (mvS T o.type x s) | none => none
  | .pick (.tmp u) a b => match look E A (.tmp u) with
    | some (.p (.s (.bool t))) => pickV E A u a b t
    | _ => none
  | .binOp op xt x y _ => match look E A x, look E A y with
    | some (.p (.s u)), some (.p (.s v)) => match binV T op xt u v with | some r => some (.p (.s r)) | none => none
    | _, _ => none
  | .unOp op _ x => match look E A x with
    | some (.p (.s u)) => match unV op u with | some r => some (.p (.s r)) | none => none
    | _ => none
  | .convert src dst x => match look E A x with | some s => convV T src dst s | none => none
  | .extract x i => match look E A x with | some (.tup ss) => ss[i]? | _ => none
  | .fieldAddr s x f => match fieldS T s f with
    | some (off, _, _) => match look E A x with
      | some (.padr cs) => some (.padr (cs.drop off))
      | some (.ptr o d) => some (.ptr o (d + off))
      | _ => none
    | none => none
  | .field s x f => match fieldS T s f with
    | some (off, i, _) => match look E A x with | some v => partS i off v | none => none
    | none => none
  | .load t x => match T t with
    | some i => match look E A x with
      | some (.padr cs) => ldP i cs
      | some (.ptr o d) => match h[o]? with | some (.cells _ cs) => ldS i (cs.drop d) | _ => none
      | _ => none
    | none => none
  | .build t parts => buildV E A T t parts.toList
  | .call c => match c.callee with
    | .builtin b => match lookL E A c.args.toList with | some ss => callV T b c.argTypes.toList ss | none => none
    | _ => none
  | .makeFunc (.func f) fs cs => match fs.toList with
    | [] => match lookL E A cs.toList with | some ss => some (.fn f ss) | none => none
    | _ => none
  | .nilCheck x => match look E A x with
    | some (.ptr o d) => some (.ptr o d)
    | some (.padr cs) => some (.padr cs)
    | _ => none
  | _ => none
end Go.Proofs.YtmjkflppajienaaDoor.R
