/- What may fail in the Lean functions, and the rules that lean on its not having failed; no condition but the typed premises. -/
import Derived.Test.YtngcfmnmjkncoaaDoorQK
namespace Go.Proofs.YtngcfmnmjkncoaaDoor.Q
open Go Go.RowKit
set_option linter.unusedVariables false
set_option linter.unusedSimpArgs false

/-! ### Words of the Lean functions -/
abbrev vi (x : Int) : SV := .p (.s (.int .i64 x))
abbrev v8 (x : Int) : SV := .p (.s (.int .u8 x))
abbrev vb (x : Bool) : SV := .p (.s (.bool x))
abbrev vs (x : ByteArray) : SV := .p (.s (.string x))
def eI (k : IntKind) (x : Int) : PV := .s (.int k x)
def eB (x : Bool) : PV := .s (.bool x)
def eS (x : ByteArray) : PV := .s (.string x)
def eL {α : Type} (n : Nat) (e : α → PV) (l : List α) : PV := .sl n α e l
abbrev w64 (x : Int) : Int := IntKind.i64.wrap x
/-- The byte of a text; none out of bounds. -/
def bx (b : ByteArray) (i : Int) : Option Int := if 0 ≤ i ∧ i < (b.size : Int) then some (bt b i) else none
/-- An element; none out of bounds. -/
def ix {α : Type} (l : List α) (i : Int) : Option α := if 0 ≤ i then l[i.toNat]? else none
/-- A piece; none out of bounds. -/
def cut {α : Type} (l : List α) (lo hi : Int) : Option (List α) := if 0 ≤ lo ∧ lo ≤ hi ∧ hi ≤ (l.length : Int) then some ((l.take hi.toNat).drop lo.toNat) else none
def sub (b : ByteArray) (lo hi : Int) : Option ByteArray := if 0 ≤ lo ∧ lo ≤ hi ∧ hi ≤ (b.size : Int) then some (b.extract lo.toNat hi.toNat) else none
/-- The sum of two texts; none beyond what a length can be. -/
def cat (a b : ByteArray) : Option ByteArray := if a.size + b.size ≤ 9223372036854775807 then some (a ++ b) else none
/-- A row made longer; none beyond what memory bears. -/
def app {α : Type} (bytes : Nat) (l m : List α) : Option (List α) := if (l.length + m.length) * bytes ≤ 140737488355328 then some (l ++ m) else none
def dv (k : IntKind) (a b : Int) : Option Int := if b = 0 then none else some (k.wrap (a.tdiv b))
def md (a b : Int) : Option Int := if b = 0 then none else some (a.tmod b)
def shl (k : IntKind) (a n : Int) : Option Int := if 0 ≤ n then some (k.wrap (a * 2 ^ (min n.toNat k.bits))) else none
def shr (k : IntKind) (a n : Int) : Option Int := if 0 ≤ n then some (a.fdiv (2 ^ (min n.toNat k.bits))) else none
/-- Asked only where the test holds. -/
def gd {α : Type} [Inhabited α] (t : Bool) (x : Option α) : Option α := if t = true then x else some default
/-- What follows, under a name. -/
def jn {α β : Type} (f : α) (g : α → Option β) : Option β := g f

theorem gd1 {α : Type} [Inhabited α] {t : Bool} {x : Option α} {r : α} (h : gd t x = some r) (ht : t = true) : x = some r := by unfold gd at h; rwa [if_pos ht] at h
theorem gd0 {α : Type} [Inhabited α] {t : Bool} {x : Option α} {r : α} (h : gd (!t) x = some r) (ht : t = false) : x = some r := by unfold gd at h; rwa [if_pos (by rw [ht]; rfl)] at h
theorem jn_of {α β : Type} {f : α} {g : α → Option β} {r : β} (h : jn f g = some r) : ∃ j, j = f ∧ g j = some r := ⟨f, rfl, h⟩
theorem bd {α β : Type} {x : Option α} {f : α → Option β} {r : β} (h : x.bind f = some r) : ∃ y, x = some y ∧ f y = some r := Option.bind_eq_some_iff.1 h

section
variable {P : Program} {T : Tab} {nt : Nat} {E E1 E2 : Env} {A : Tg} {h h1 : List Ob} {B : QB} {ks : List Fr} {Q : QB} {o : Oper} {s : SV}

/-- The operations from number i on, n of them, the store left as it is reckoned. -/
theorem qm (hT : TOk P T) {ops : Array Oper} {i k : Nat} (n : Nat) (hr : (evRun T nt ops h n i E).isSome = true) (hk : i + n = k) (hn : Nat.ble k ops.size = true) (hW : WL P nt ops k ((evRun T nt ops h n i E).getD []) h Q) : WL P nt ops i E h Q := by
  obtain ⟨E1, hE⟩ := Option.isSome_iff_exists.1 hr
  rw [hE] at hW
  exact qn hT n hE hk hn hW

theorem zb (hT : TOk P T) (k : IntKind) {t : Nat} {a c : Operand} {b : ByteArray} {i x : Int} (hx : bx b i = some x) (ho : o.op = .index t a c) (hk : kOf T t = .str) (ha : look E A a = some (vs b)) (hc : look E A c = some (.p (.s (.int k i)))) : Yld P o E A h (v8 x) := by
  unfold bx at hx
  split at hx
  · rename_i hb; simp only [Option.some.injEq] at hx; subst hx; exact y_byte hT ho hk ha hc hb.1 hb.2
  · cases hx
theorem zi (hT : TOk P T) (k : IntKind) {t e n : Nat} {a c : Operand} {α : Type} {enc : α → PV} {l : List α} {i : Int} {x : α} {ei : TI} {sa : SV} (hx : ix l i = some x) (ho : o.op = .indexAddr t a c) (hk : kOf T t = .sl e) (he : T e = some ei) (hn : ei.size = n) (ha : look E A a = some sa) (hq : pur sa = some (.sl n α enc l)) (hc : look E A c = some (.p (.s (.int k i)))) :
    Yld P o E A h (.padr (enc x).cells) := by
  unfold ix at hx
  split at hx
  · rename_i hb; exact (y_index hT ho hk he hn ha hq hc hb hx).toYld
  · cases hx
theorem zt (hT : TOk P T) {t e n : Nat} {a : Operand} {lo hi : Option Operand} {α : Type} {enc : α → PV} {l x : List α} {i j : Int} {ei : TI} {sa : SV} (hx : cut l i j = some x) (ho : o.op = .slice t a lo hi none) (hk : kOf T t = .sl e) (he : T e = some ei) (hn : ei.size = n) (ha : look E A a = some sa) (hq : pur sa = some (.sl n α enc l))
    (hl : Bd E A 0 lo i) (hh : Bd E A l.length hi j) : Yld P o E A h (.p (.sl n α enc x)) := by
  unfold cut at hx
  split at hx
  · rename_i hb; simp only [Option.some.injEq] at hx; subst hx; exact y_cut hT ho hk he hn ha hq hl hh hb.1 hb.2.1 hb.2.2
  · cases hx
theorem zu (hT : TOk P T) {t : Nat} {a : Operand} {lo hi : Option Operand} {b x : ByteArray} {i j : Int} (hx : sub b i j = some x) (ho : o.op = .slice t a lo hi none) (hk : kOf T t = .str) (ha : look E A a = some (vs b)) (hl : Bd E A 0 lo i) (hh : Bd E A b.size hi j) : Yld P o E A h (vs x) := by
  unfold sub at hx
  split at hx
  · rename_i hb; simp only [Option.some.injEq] at hx; subst hx; exact y_substr hT ho hk ha hl hh hb.1 hb.2.1 hb.2.2
  · cases hx
theorem za {t u : Nat} {a c : Operand} {b d x : ByteArray} (hx : cat b d = some x) (ho : o.op = .binOp .add t a c u) (ha : look E A a = some (vs b)) (hc : look E A c = some (vs d)) : Yld P o E A h (vs x) := by
  unfold cat at hx
  split at hx
  · rename_i hb; simp only [Option.some.injEq] at hx; subst hx; exact y_concat ho ha hc hb
  · cases hx
theorem zq (hT : TOk P T) {k : IntKind} {t u : Nat} {a c : Operand} {i j x : Int} (hx : dv k i j = some x) (ho : o.op = .binOp .quo t a c u) (ha : look E A a = some (.p (.s (.int k i)))) (hc : look E A c = some (.p (.s (.int k j)))) : Yld P o E A h (.p (.s (.int k x))) := by
  unfold dv at hx
  split at hx
  · cases hx
  · rename_i hb; simp only [Option.some.injEq] at hx; subst hx; exact (y_bin hT ho ha hc (by simp [binV, intV, hb])).toYld
theorem zm (hT : TOk P T) {k : IntKind} {t u : Nat} {a c : Operand} {i j x : Int} (hx : md i j = some x) (ho : o.op = .binOp .rem t a c u) (ha : look E A a = some (.p (.s (.int k i)))) (hc : look E A c = some (.p (.s (.int k j)))) : Yld P o E A h (.p (.s (.int k x))) := by
  unfold md at hx
  split at hx
  · cases hx
  · rename_i hb; simp only [Option.some.injEq] at hx; subst hx; exact (y_bin hT ho ha hc (by simp [binV, intV, hb])).toYld
theorem zl {k k' : IntKind} {t u : Nat} {a c : Operand} {i j x : Int} (hx : shl k i j = some x) (ho : o.op = .binOp .shl t a c u) (ha : look E A a = some (.p (.s (.int k i)))) (hc : look E A c = some (.p (.s (.int k' j)))) : Yld P o E A h (.p (.s (.int k x))) := by
  unfold shl at hx
  split at hx
  · rename_i hb; simp only [Option.some.injEq] at hx; subst hx; exact (y_shift ho ha hc hb).1 rfl
  · cases hx
theorem zr {k k' : IntKind} {t u : Nat} {a c : Operand} {i j x : Int} (hx : shr k i j = some x) (ho : o.op = .binOp .shr t a c u) (ha : look E A a = some (.p (.s (.int k i)))) (hc : look E A c = some (.p (.s (.int k' j)))) : Yld P o E A h (.p (.s (.int k x))) := by
  unfold shr at hx
  split at hx
  · rename_i hb; simp only [Option.some.injEq] at hx; subst hx; exact (y_shift ho ha hc hb).2 rfl
  · cases hx
/-- A call of a function of pure data. -/
theorem zc {c : Call} {x : Operand} {f : Nat} {args : List SV} {fn : Func} {caps : List SV} (hF : PF P f args s) (hf : P.funcs[f]? = some fn) (ho : o.op = .call c) (hc : c.callee = .value x) (hx : calS E A x = some (f, caps)) (hb : fn.body.isSome = true) (hnm : (fn.name == "runtime.NumGoroutine") = false)
    (ha : (lookL E A c.args.toList).map (fun ss => argsS T c.argTypes.toList (ss ++ caps)) = some args) (hi : SV.idsL args = []) (hs : s.ids = []) : Yld P o E A h s := by
  obtain ⟨body, hbody⟩ := Option.isSome_iff_exists.1 hb
  obtain ⟨ss, h1, h2⟩ := Option.map_eq_some_iff.1 ha
  exact y_pcall ho hc hx h1 hf hbody hnm h2 hi hs hF
/-- A slice literal. -/
theorem ze (hT : TOk P T) {t len e n : Nat} {parts : Array (Nat × Operand)} {α : Type} (enc : α → PV) (xs : List α) (ho : o.op = .buildSlice t len parts) (hr : litV E A T t len parts.toList = some (e, n, xs.map enc)) : Yld P o E A h (.p (.sl n α enc xs)) :=
  y_lit hT ho hr enc xs rfl

/-- What the call has come to own behind a number is forgotten, where nothing tells of it. -/
def lowL (n : Nat) : List Nat → Bool
  | [] => true
  | i :: is => Nat.blt i n && lowL n is
def lowE (n : Nat) : Env → Bool
  | [] => true
  | (_, _, s) :: E => lowL n s.ids && lowE n E
def lowO (n : Nat) : List Ob → Bool
  | [] => true
  | .cells _ cs :: h => lowL n (SV.idsL cs) && lowO n h
  | .tail :: h => lowO n h
  | .mark :: h => lowO n h
  | .rcd _ _ _ ss :: h => lowL n (SV.idsL ss) && lowO n h
  | .pin i _ :: h => Nat.blt i n && lowO n h
def noMark : List Ob → Bool
  | [] => true
  | .mark :: _ => false
  | _ :: h => noMark h
def gcO (n : Nat) (h : List Ob) : Bool := lowO n (h.take n) && noMark (h.drop n)
theorem noMark_get : ∀ {h : List Ob} {i : Nat}, noMark h = true → h[i]? ≠ some .mark
  | [], i, _, h => by simp at h
  | .mark :: h, i, hn, hh => by simp [noMark] at hn
  | .cells _ _ :: h, 0, hn, hh => by simp at hh
  | .tail :: h, 0, hn, hh => by simp at hh
  | .rcd _ _ _ _ :: h, 0, hn, hh => by simp at hh
  | .pin _ _ :: h, 0, hn, hh => by simp at hh
  | .cells _ _ :: h, i + 1, hn, hh => noMark_get (h := h) (by simpa [noMark] using hn) (by simpa using hh)
  | .tail :: h, i + 1, hn, hh => noMark_get (h := h) (by simpa [noMark] using hn) (by simpa using hh)
  | .rcd _ _ _ _ :: h, i + 1, hn, hh => noMark_get (h := h) (by simpa [noMark] using hn) (by simpa using hh)
  | .pin _ _ :: h, i + 1, hn, hh => noMark_get (h := h) (by simpa [noMark] using hn) (by simpa using hh)
theorem lowL_mem {n : Nat} : ∀ {is : List Nat}, lowL n is = true → ∀ i ∈ is, i < n
  | [], _, i, h => by simp at h
  | j :: is, hl, i, h => by
    simp only [lowL, Bool.and_eq_true] at hl
    rcases List.mem_cons.1 h with rfl | h
    · exact of_blt hl.1
    · exact lowL_mem hl.2 i h
theorem lowE_get {n : Nat} : ∀ {E : Env} {t : Nat} {tg : Tg} {s : SV}, lowE n E = true → E.get t = some (tg, s) → ∀ i ∈ s.ids, i < n
  | [], t, tg, s, _, h => by simp [Env.get] at h
  | (u, tg', s') :: E, t, tg, s, hl, h => by
    simp only [lowE, Bool.and_eq_true] at hl
    simp only [Env.get] at h
    cases hb : Nat.beq u t with
    | true => rw [hb] at h; simp only [cond_true, Option.some.injEq, Prod.mk.injEq] at h; obtain ⟨rfl, rfl⟩ := h; exact lowL_mem hl.1
    | false => rw [hb] at h; exact lowE_get hl.2 h
theorem lowO_get {n t : Nat} : ∀ {h : List Ob} {i : Nat} {cs : List SV}, lowO n h = true → h[i]? = some (.cells t cs) → ∀ j ∈ SV.idsL cs, j < n
  | [], i, cs, _, h => by simp at h
  | .cells _ c :: h, 0, cs, hl, hh => by simp only [lowO, Bool.and_eq_true] at hl; simp at hh; obtain ⟨rfl, rfl⟩ := hh; exact lowL_mem hl.1
  | .tail :: h, 0, cs, hl, hh => by simp at hh
  | .mark :: h, 0, cs, hl, hh => by simp at hh
  | .rcd _ _ _ _ :: h, 0, cs, hl, hh => by simp at hh
  | .pin _ _ :: h, 0, cs, hl, hh => by simp at hh
  | .cells _ c :: h, i + 1, cs, hl, hh => by simp only [lowO, Bool.and_eq_true] at hl; exact lowO_get hl.2 (by simpa using hh)
  | .tail :: h, i + 1, cs, hl, hh => by simp only [lowO] at hl; exact lowO_get hl (by simpa using hh)
  | .mark :: h, i + 1, cs, hl, hh => by simp only [lowO] at hl; exact lowO_get hl (by simpa using hh)
  | .rcd _ _ _ _ :: h, i + 1, cs, hl, hh => by simp only [lowO, Bool.and_eq_true] at hl; exact lowO_get hl.2 (by simpa using hh)
  | .pin _ _ :: h, i + 1, cs, hl, hh => by simp only [lowO, Bool.and_eq_true] at hl; exact lowO_get hl.2 (by simpa using hh)
theorem lowO_rec {n b : Nat} {r : Loop} {ts : List Nat} {ss : List SV} : ∀ {h : List Ob} {i : Nat}, lowO n h = true → h[i]? = some (.rcd b r ts ss) → ∀ j ∈ SV.idsL ss, j < n
  | [], i, _, h => by simp at h
  | .cells _ c :: h, 0, hl, hh => by simp at hh
  | .tail :: h, 0, hl, hh => by simp at hh
  | .mark :: h, 0, hl, hh => by simp at hh
  | .rcd _ _ _ _ :: h, 0, hl, hh => by simp only [lowO, Bool.and_eq_true] at hl; simp at hh; obtain ⟨rfl, rfl, rfl, rfl⟩ := hh; exact lowL_mem hl.1
  | .pin _ _ :: h, 0, hl, hh => by simp at hh
  | .cells _ c :: h, i + 1, hl, hh => by simp only [lowO, Bool.and_eq_true] at hl; exact lowO_rec hl.2 (by simpa using hh)
  | .tail :: h, i + 1, hl, hh => by simp only [lowO] at hl; exact lowO_rec hl (by simpa using hh)
  | .mark :: h, i + 1, hl, hh => by simp only [lowO] at hl; exact lowO_rec hl (by simpa using hh)
  | .rcd _ _ _ _ :: h, i + 1, hl, hh => by simp only [lowO, Bool.and_eq_true] at hl; exact lowO_rec hl.2 (by simpa using hh)
  | .pin _ _ :: h, i + 1, hl, hh => by simp only [lowO, Bool.and_eq_true] at hl; exact lowO_rec hl.2 (by simpa using hh)
theorem lowO_pin {n a b : Nat} : ∀ {h : List Ob} {i : Nat}, lowO n h = true → h[i]? = some (.pin a b) → a < n
  | [], i, _, h => by simp at h
  | .cells _ c :: h, 0, hl, hh => by simp at hh
  | .tail :: h, 0, hl, hh => by simp at hh
  | .mark :: h, 0, hl, hh => by simp at hh
  | .rcd _ _ _ _ :: h, 0, hl, hh => by simp at hh
  | .pin _ _ :: h, 0, hl, hh => by simp only [lowO, Bool.and_eq_true] at hl; simp at hh; obtain ⟨rfl, rfl⟩ := hh; exact of_blt hl.1
  | .cells _ c :: h, i + 1, hl, hh => by simp only [lowO, Bool.and_eq_true] at hl; exact lowO_pin hl.2 (by simpa using hh)
  | .tail :: h, i + 1, hl, hh => by simp only [lowO] at hl; exact lowO_pin hl (by simpa using hh)
  | .mark :: h, i + 1, hl, hh => by simp only [lowO] at hl; exact lowO_pin hl (by simpa using hh)
  | .rcd _ _ _ _ :: h, i + 1, hl, hh => by simp only [lowO, Bool.and_eq_true] at hl; exact lowO_pin hl.2 (by simpa using hh)
  | .pin _ _ :: h, i + 1, hl, hh => by simp only [lowO, Bool.and_eq_true] at hl; exact lowO_pin hl.2 (by simpa using hh)

theorem Rel.gc {w : World} {F : Fz} {m : Mp} {a : Act} (n : Nat) (hr : Rel nt w F m E h a) (hE : lowE n E = true) (hO : gcO n h = true) : Rel nt w F (fun i => if i < n then m i else .free) E (h.take n) a := by
  have keep : ∀ {v s}, (∀ i ∈ s.ids, i < n) → RdS w F m v s → RdS w F (fun i => if i < n then m i else .free) v s := fun hi h => h.keep (Ext.refl _ _) fun j hj _ => ⟨by simp [hi j hj], fun _ _ _ => rfl⟩
  have keepL : ∀ {vs ss}, (∀ i ∈ SV.idsL ss, i < n) → RdSL w F m vs ss → RdSL w F (fun i => if i < n then m i else .free) vs ss := fun hi h => h.keep (Ext.refl _ _) fun j hj _ => ⟨by simp [hi j hj], fun _ _ _ => rfl⟩
  have hs' := hr.sim
  simp only [gcO, Bool.and_eq_true] at hO
  obtain ⟨hO, hM⟩ := hO
  have hdf : Dfr w (fun i => if i < n then m i else .free) (h.take n) a.defers := hr.defers.same fun i D h1 h2 h3 _ => by
    by_cases hin : i < n
    · exact ⟨by rw [List.getElem?_take_of_lt hin]; exact h1, by simp only [hin, if_true]; exact h2, rfl⟩
    · exact absurd (by rw [List.getElem?_drop, show n + (i - n) = i by omega]; exact h1) (noMark_get (i := i - n) hM)
  refine ⟨hr.size, hdf, fun t tg s ht => (hr.env t tg s ht).imp (fun h => ⟨h.1, keep (lowE_get hE ht) h.2⟩) id, ⟨hs'.fl, fun i b hi => ?_, fun i b o hF hh => ?_, fun i k b hi hk => ?_, fun i hi => ?_, fun i t cs hi => ?_, fun i hi b => ?_, fun i b r ts ss hi => ?_, fun k i b hi => ?_⟩⟩
  rotate_left 7
  · have hi' := hi
    rw [List.getElem?_take] at hi
    split at hi
    · have hin := lowO_pin hO hi'
      simp only [hin, if_true]
      exact hs'.pn k i b hi
    · cases hi
  · by_cases hin : i < n
    · simp only [hin, if_true] at hi; exact hs'.lt i b hi
    · simp [hin, Pl.blk] at hi
  · by_cases hin : i < n
    · simp only [hin, if_true] at hh; exact hs'.fr i b o hF hh
    · simp only [hin, if_false] at hh; exact hh
  · by_cases hin : i < n
    · by_cases hkn : k < n
      · simp only [hin, hkn, if_true] at hi hk; exact hs'.inj i k b hi hk
      · simp [hkn, Pl.blk] at hk
    · simp [hin, Pl.blk] at hi
  · by_cases hin : i < n
    · simp only [hin, if_true]
      refine hs'.dom i ?_
      simp at hi
      omega
    · simp [hin]
  · have hi' := hi
    rw [List.getElem?_take] at hi
    split at hi
    · rename_i hin
      obtain ⟨b, cur, g1, g2, g3, g4⟩ := hs'.ob i t cs hi
      exact ⟨b, cur, by simp [hin, g1], g2, keepL (lowO_get hO hi') g3, g4⟩
    · cases hi
  · rw [List.getElem?_take] at hi
    split at hi
    · rename_i hin; simp only [hin, if_true]; exact hs'.tl i hi b
    · cases hi
  · have hi' := hi
    rw [List.getElem?_take] at hi
    split at hi
    · rename_i hin
      obtain ⟨g1, g2, g3⟩ := hs'.rc i b r ts ss hi
      exact ⟨by simp [hin, g1], g2, keepL (lowO_rec hO hi') g3⟩
    · cases hi

theorem Gr.gc {w w' : World} {F F' : Fz} {m m' : Mp} {n : Nat} (hg : Gr w F (fun i => if i < n then m i else .free) w' F' m') : Gr w F m w' F' m' :=
  ⟨hg.os, hg.tape, hg.output, hg.size, hg.ext, fun b hb hm => hg.block b hb fun i => by
      by_cases hin : i < n
      · simp only [hin, if_true]; exact hm i
      · simp [hin, Pl.blk], fun i b o hh hb => by
      obtain ⟨k, hk⟩ := hg.own i b o hh hb
      by_cases hkn : k < n
      · simp only [hkn, if_true] at hk; exact ⟨k, hk⟩
      · simp only [hkn, if_false] at hk; exact hk.elim, fun b o hF => by
      rcases hg.fl b o hF with h1 | h1 | ⟨k, hk⟩
      · exact .inl h1
      · exact .inr (.inl h1)
      · by_cases hkn : k < n
        · simp only [hkn, if_true] at hk; exact .inr (.inr ⟨k, hk⟩)
        · simp only [hkn, if_false] at hk; exact hk.elim⟩

theorem WL_gc {ops : Array Oper} {i : Nat} (n : Nat) (hE : lowE n E = true) (hO : gcO n h = true) (hh : h.take n = h1) (hW : WL P nt ops i E h1 Q) : WL P nt ops i E h Q := by
  subst hh
  exact ⟨fun a w F m hr => wpOps_mono (fun x a' w' ⟨E', h', F', m', hQ, hr', hg⟩ => ⟨E', h', F', m', hQ, hr', hg.gc⟩) _ _ _ (hW.out a w F _ (hr.gc n hE hO))⟩

/-- The end of a region: what is kept of the store, and of what is owned. -/
theorem qz (hT : TOk P T) {ops : Array Oper} {i : Nat} (n : Nat) (L : List Nat) (g : Nat) (hr : evReg T nt ops h n i L E = some E2) (hk : i + n = ops.size) (hE : lowE g E2 = true) (hO : gcO g h = true) (hh : h.take g = h1) (hq : Q .normal E2 h1) : WL P nt ops i E h Q := by
  obtain ⟨E1, g1, g2⟩ := evReg_run hr
  refine WL_head (evRun_head hT g1) (by rw [hk]; simp) ?_
  exact WL_keep L g2 (WL_gc g hE hO hh (WL_nil (by rw [hk]; simp) hq))

/-! ### What the call owns -/
theorem xn (hT : TOk P T) {ops : Array Oper} {i d j e : Nat} {ei : TI} {α : Type} (enc : α → PV) (he : T e = some ei) (ho : ops[i]? = some o) (hop : o.op = .assign (.const (.slice none 0 0)) ∨ o.op = .move (.const (.slice none 0 0))) (hg : o.guard = none) (hd : o.dst = some d)
    (hok : dstOk nt E [] (some d) = true) (hj : h.length = j) (hW : WL P nt ops (i + 1) ((d, [], SV.own e ei.size α enc [] j) :: E) (h ++ [.tail]) Q) : WL P nt ops i E h Q :=
  WL_nilOwn hT enc hW ho hg hop hd he hok hj rfl rfl
theorem xb {ops : Array Oper} {i d j t : Nat} {x : Operand} {cs : List SV} (ho : ops[i]? = some o) (hop : o.op = .box t x) (hg : o.guard = none) (hd : o.dst = some d) (hc : ((look E [] x).bind fun s => scells (coS (T t) s)) = some cs)
    (hok : dstOk nt E [] (some d) = true) (hj : h.length = j) (hW : WL P nt ops (i + 1) ((d, [], SV.ptr j 0) :: E) (h ++ [.cells t cs]) Q) : WL P nt ops i E h Q := by
  obtain ⟨s, h1, h2⟩ := Option.bind_eq_some_iff.1 hc
  exact WL_box hW ho hg hop hd h1 h2 hok hj rfl rfl
theorem xa (hT : TOk P T) {ops : Array Oper} {i d j t : Nat} {ti : TI} (ho : ops[i]? = some o) (hop : o.op = .alloc t) (hg : o.guard = none) (hd : o.dst = some d) (ht : T t = some ti)
    (hok : dstOk nt E [] (some d) = true) (hj : h.length = j) (hW : WL P nt ops (i + 1) ((d, [], SV.ptr j 0) :: E) (h ++ [.cells t (ti.zero.map .p)]) Q) : WL P nt ops i E h Q :=
  WL_alloc hT hW ho hg hop hd ht hok hj rfl rfl
theorem xl (hT : TOk P T) {ops : Array Oper} {i d j t e n len : Nat} {α : Type} (enc : α → PV) (xs : List α) {parts : Array (Nat × Operand)} (ho : ops[i]? = some o) (hop : o.op = .buildSlice t len parts) (hg : o.guard = none) (hd : o.dst = some d)
    (hl : litV E [] T t len parts.toList = some (e, n, xs.map enc)) (hok : dstOk nt E [] (some d) = true) (hj : h.length = j) (hW : WL P nt ops (i + 1) ((d, [], SV.own e n α enc xs j) :: E) (h ++ [.tail]) Q) : WL P nt ops i E h Q :=
  WL_litOwn hT enc xs hW ho hg hop hd hl rfl hok hj rfl rfl
theorem xx (hT : TOk P T) {ops : Array Oper} {i d j t e n : Nat} {x y z : Operand} {sx : SV} {α : Type} {enc : α → PV} {l r : List α} {ei : TI} (k k' : IntKind) {hi : Int} (hx : cut l 0 hi = some r) (ho : ops[i]? = some o) (hop : o.op = .slice t x none (some y) (some z)) (hg : o.guard = none) (hd : o.dst = some d)
    (hk : kOf T t = .sl e) (he : T e = some ei) (hn : ei.size = n) (ha : look E [] x = some sx) (hq : pur sx = some (.sl n α enc l)) (hy : look E [] y = some (.p (.s (.int k hi)))) (hz : look E [] z = some (.p (.s (.int k' hi))))
    (hok : dstOk nt E [] (some d) = true) (hj : h.length = j) (hW : WL P nt ops (i + 1) ((d, [], SV.own e n α enc r j) :: E) (h ++ [.tail]) Q) : WL P nt ops i E h Q := by
  unfold cut at hx
  split at hx
  · rename_i hb
    simp only [Option.some.injEq, Int.toNat_zero, List.drop_zero] at hx
    subst hx
    exact WL_exact hT hW ho hg hop hd hk he hn ha hq hy hz hok hj rfl rfl hb.2.1 hb.2.2
  · cases hx
theorem xs (hT : TOk P T) {ops : Array Oper} {i t b off u : Nat} {x y : Operand} {cs vs : List SV} {ti : TI} (ho : ops[i]? = some o) (hop : o.op = .store t x y) (hg : o.guard = none) (hd : o.dst = none) (ht : T t = some ti) (hx : look E [] x = some (.ptr b off))
    (hc : ((look E [] y).bind fun s => scells (coS (some ti) s)) = some vs) (hl : Nat.beq vs.length ti.size = true) (hob : h[b]? = some (.cells u cs)) (hle : Nat.ble (off + vs.length) cs.length = true)
    (hh : h.set b (.cells u (cs.take off ++ vs ++ cs.drop (off + vs.length))) = h1) (hW : WL P nt ops (i + 1) E h1 Q) : WL P nt ops i E h Q := by
  obtain ⟨s, g1, g2⟩ := Option.bind_eq_some_iff.1 hc
  exact WL_store hT hW ho hg hop hd ht hx g1 g2 hl hob hle hh
theorem xp (hT : TOk P T) {ops : Array Oper} {i j d e bytes : Nat} {c : Call} {x y : Operand} {t u e' : Nat} {ei : TI} {α : Type} {enc : α → PV} {l m r : List α} {sy : SV} (hx : app bytes l m = some r) (ho : ops[i]? = some o) (hop : o.op = .call c) (hg : o.guard = none) (hc : c.callee = .builtin .append) (ha : c.args.toList = [x, y]) (hts : c.argTypes.toList = [t, u]) (hd : o.dst = some d)
    (hk : kOf T t = .sl e) (hk' : kOf T u = .sl e') (he : T e = some ei) (hok : dstOk nt E [] (some d) = true) (hlx : look E [] x = some (.own e ei.size α enc l j)) (hly : look E [] y = some sy) (hq : pur sy = some (.sl ei.size α enc m))
    (hj : Nat.blt j h.length = true) (hb0 : Nat.blt 0 ei.bytes = true) (hby : ei.bytes = bytes) (hW : WL P nt ops (i + 1) ((d, [], SV.own e ei.size α enc r j) :: stripE j E) (stripO j h) Q) : WL P nt ops i E h Q := by
  unfold app at hx
  split at hx
  · rename_i hb
    simp only [Option.some.injEq] at hx
    subst hx hby
    exact WL_append hT hW ho hg hop hc ha hts hd hk hk' he hok hlx hly hq hj hb0 rfl rfl hb
  · cases hx
end
end Go.Proofs.YtngcfmnmjkncoaaDoor.Q
namespace Go.Proofs.YtngcfmnmjkncoaaDoor.Q
open Go Go.RowKit
mutual
/-- The spare cells forgotten, wherever they are. -/
def fg : SV → SV
  | .own _ n α enc xs _ => .p (.sl n α enc xs)
  | .bf _ xs _ => .p (.sl 1 UInt8 eU xs)
  | .agg cs => match purL cs with | some ps => .p (.agg ps) | none => .agg cs
  | .tup ss => .tup (fgL ss)
  | s => s
def fgL : List SV → List SV
  | [] => []
  | s :: ss => fg s :: fgL ss
end
mutual
theorem fg_rd {w : World} {F : Fz} {m : Mp} : ∀ {s : SV} {v : Value}, RdS w F m v s → RdS w F m v (fg s)
  | .own _ _ _ _ _ _, _, h => .p (pur_rd (by rfl) h)
  | .agg cs, _, .agg h1 hl => by
    simp only [fg]
    split
    · rename_i ps hps; exact .p (.agg (purL_rd hps h1 hl))
    · exact .agg h1 hl
  | .tup ss, _, .tup hl => by simp only [fg]; exact .tup (fgL_rd hl)
  | .p _, v, h => h
  | .ptr _ _, v, h => h
  | .row _ _ _, v, h => h
  | .padr _, v, h => h
  | .fn _ _, v, h => h
  | .rw _ _ _ _, v, h => h
  | .np _ _, v, h => h
  | .bf _ _ _, _, h => .p (pur_rd (by rfl) h)
  | .any, v, h => h
theorem fgL_rd {w : World} {F : Fz} {m : Mp} : ∀ {ss : List SV} {vs : List Value}, RdSL w F m vs ss → RdSL w F m vs (fgL ss)
  | [], _, .nil => .nil
  | s :: ss, _, .cons h hs => .cons (fg_rd h) (fgL_rd hs)
end
/-- A function of pure data, out of a walk of its body. -/
theorem PF_mk {P : Program} {T : Tab} (hT : TOk P T) {f : Nat} {fn : Func} {body : Code} {args : List SV} {s : SV} (hf : P.funcs[f]? = some fn) (hb : fn.body = some body) (hn : Nat.ble args.length fn.ntmps = true) (hi : s.ids = [])
    (hW : W P fn.ntmps body (argE 0 args) [] (K P fn.ntmps (Fin T fn.results.toList (fun s' _ => fg s' = s) 0) [])) : PF P f args s := by
  refine (PC_of_W hT hf hb hn (W_conseq hW fun x E h hq => by simpa [K] using hq)).cut ?_
  rintro s' h' rfl
  exact ⟨0, fg s', ⟨rfl, by simp⟩, fun _ _ _ _ h => fg_rd h, by rw [hi]; simp, by simp⟩
end Go.Proofs.YtngcfmnmjkncoaaDoor.Q
