/- What may fail in the Lean functions, and the rules that lean on its not having failed; no condition but the typed premises. -/
import Derived.Test.YtmjkflppajienaaDoorRU
namespace Go.Proofs.YtmjkflppajienaaDoor.R
open Go Go.RowKit
set_option linter.unusedVariables false
set_option linter.unusedSimpArgs false

/-! ### Words of the Lean functions -/
abbrev vi (x : Int) : SV := .p (.s (.int .i64 x))
abbrev v8 (x : Int) : SV := .p (.s (.int .u8 x))
abbrev vb (x : Bool) : SV := .p (.s (.bool x))
abbrev vs (x : ByteArray) : SV := .p (.s (.string x))
abbrev w64 (x : Int) : Int := IntKind.i64.wrap x
/-- The byte of a text; none out of bounds. -/
def bx (b : ByteArray) (i : Int) : Option Int := if 0 ≤ i ∧ i < (b.size : Int) then some (bt b i) else none
/-- An element; none out of bounds. -/
def ix {α : Type} (l : List α) (i : Int) : Option α := if 0 ≤ i then l[i.toNat]? else none
/-- A piece; none out of bounds. -/
def cut {α : Type} (l : List α) (lo hi : Int) : Option (List α) := if 0 ≤ lo ∧ lo ≤ hi ∧ hi ≤ (l.length : Int) then some ((l.take hi.toNat).drop lo.toNat) else none
def sub (b : ByteArray) (lo hi : Int) : Option ByteArray := if 0 ≤ lo ∧ lo ≤ hi ∧ hi ≤ (b.size : Int) then some (b.extract lo.toNat hi.toNat) else none
/-- The sum of two texts; none beyond what a length can be. -/
def cat (a b : ByteArray) : Option ByteArray := if a.size + b.size ≤ 9223372036854775807 then some (a ++ b) else none
/-- A row made longer; none beyond what memory bears. -/
def app {α : Type} (bytes : Nat) (l m : List α) : Option (List α) := if (l.length + m.length) * bytes ≤ 140737488355328 then some (l ++ m) else none
def dv (k : IntKind) (a b : Int) : Option Int := if b = 0 then none else some (k.wrap (a.tdiv b))
def md (a b : Int) : Option Int := if b = 0 then none else some (a.tmod b)
def shl (k : IntKind) (a n : Int) : Option Int := if 0 ≤ n then some (k.wrap (a * 2 ^ (min n.toNat k.bits))) else none
def shr (k : IntKind) (a n : Int) : Option Int := if 0 ≤ n then some (a.fdiv (2 ^ (min n.toNat k.bits))) else none
/-- Asked only where the test holds. -/
def gd {α : Type} [Inhabited α] (t : Bool) (x : Option α) : Option α := if t = true then x else some default
/-- What follows, under a name. -/
def jn {α β : Type} (f : α) (g : α → Option β) : Option β := g f

theorem gd1 {α : Type} [Inhabited α] {t : Bool} {x : Option α} {r : α} (h : gd t x = some r) (ht : t = true) : x = some r := by unfold gd at h; rwa [if_pos ht] at h
theorem gd0 {α : Type} [Inhabited α] {t : Bool} {x : Option α} {r : α} (h : gd (!t) x = some r) (ht : t = false) : x = some r := by unfold gd at h; rwa [if_pos (by rw [ht]; rfl)] at h
theorem jn_of {α β : Type} {f : α} {g : α → Option β} {r : β} (h : jn f g = some r) : ∃ j, j = f ∧ g j = some r := ⟨f, rfl, h⟩
theorem bd {α β : Type} {x : Option α} {f : α → Option β} {r : β} (h : x.bind f = some r) : ∃ y, x = some y ∧ f y = some r := Option.bind_eq_some_iff.1 h

section
variable {P : Program} {T : Tab} {nt : Nat} {E E1 E2 : Env} {A : Tg} {h h1 : List Ob} {Q : QB} {o : Oper} {s : SV}

theorem zb (hT : TOk P T) (k : IntKind) {t : Nat} {a c : Operand} {b : ByteArray} {i x : Int} (hx : bx b i = some x) (ho : o.op = .index t a c) (hk : kOf T t = .str) (ha : look E A a = some (vs b)) (hc : look E A c = some (.p (.s (.int k i)))) : Yld P o E A h (v8 x) := by
  unfold bx at hx
  split at hx
  · rename_i hb; simp only [Option.some.injEq] at hx; subst hx; exact y_byte hT ho hk ha hc hb.1 hb.2
  · cases hx
theorem zi (hT : TOk P T) (k : IntKind) {t e n : Nat} {a c : Operand} {τ : Ty} {l : List τ.den} {i : Int} {x : τ.den} {ei : TI} {sa : SV} (hx : ix l i = some x) (ho : o.op = .indexAddr t a c) (hk : kOf T t = .sl e) (he : T e = some ei) (hn : ei.size = n) (ha : look E A a = some sa) (hq : pur sa = some (.sl n τ l)) (hc : look E A c = some (.p (.s (.int k i)))) :
    Yld P o E A h (.padr (τ.enc x).cells) := by
  unfold ix at hx
  split at hx
  · rename_i hb; exact (y_index hT ho hk he hn ha hq hc hb hx).toYld
  · cases hx
theorem zt (hT : TOk P T) {t e n : Nat} {a : Operand} {lo hi : Option Operand} {τ : Ty} {l x : List τ.den} {i j : Int} {ei : TI} {sa : SV} (hx : cut l i j = some x) (ho : o.op = .slice t a lo hi none) (hk : kOf T t = .sl e) (he : T e = some ei) (hn : ei.size = n) (ha : look E A a = some sa) (hq : pur sa = some (.sl n τ l))
    (hl : Bd E A 0 lo i) (hh : Bd E A l.length hi j) : Yld P o E A h (.p (.sl n τ x)) := by
  unfold cut at hx
  split at hx
  · rename_i hb; simp only [Option.some.injEq] at hx; subst hx; exact y_cut hT ho hk he hn ha hq hl hh hb.1 hb.2.1 hb.2.2
  · cases hx
theorem zu (hT : TOk P T) {t : Nat} {a : Operand} {lo hi : Option Operand} {b x : ByteArray} {i j : Int} (hx : sub b i j = some x) (ho : o.op = .slice t a lo hi none) (hk : kOf T t = .str) (ha : look E A a = some (vs b)) (hl : Bd E A 0 lo i) (hh : Bd E A b.size hi j) : Yld P o E A h (vs x) := by
  unfold sub at hx
  split at hx
  · rename_i hb; simp only [Option.some.injEq] at hx; subst hx; exact y_substr hT ho hk ha hl hh hb.1 hb.2.1 hb.2.2
  · cases hx
theorem za {t u : Nat} {a c : Operand} {b d x : ByteArray} (hx : cat b d = some x) (ho : o.op = .binOp .add t a c u) (ha : look E A a = some (vs b)) (hc : look E A c = some (vs d)) : Yld P o E A h (vs x) := by
  unfold cat at hx
  split at hx
  · rename_i hb; simp only [Option.some.injEq] at hx; subst hx; exact y_concat ho ha hc hb
  · cases hx
theorem zq (hT : TOk P T) {k : IntKind} {t u : Nat} {a c : Operand} {i j x : Int} (hx : dv k i j = some x) (ho : o.op = .binOp .quo t a c u) (ha : look E A a = some (.p (.s (.int k i)))) (hc : look E A c = some (.p (.s (.int k j)))) : Yld P o E A h (.p (.s (.int k x))) := by
  unfold dv at hx
  split at hx
  · cases hx
  · rename_i hb; simp only [Option.some.injEq] at hx; subst hx; exact (y_bin hT ho ha hc (by simp [binV, intV, hb])).toYld
theorem zm (hT : TOk P T) {k : IntKind} {t u : Nat} {a c : Operand} {i j x : Int} (hx : md i j = some x) (ho : o.op = .binOp .rem t a c u) (ha : look E A a = some (.p (.s (.int k i)))) (hc : look E A c = some (.p (.s (.int k j)))) : Yld P o E A h (.p (.s (.int k x))) := by
  unfold md at hx
  split at hx
  · cases hx
  · rename_i hb; simp only [Option.some.injEq] at hx; subst hx; exact (y_bin hT ho ha hc (by simp [binV, intV, hb])).toYld
theorem zl {k k' : IntKind} {t u : Nat} {a c : Operand} {i j x : Int} (hx : shl k i j = some x) (ho : o.op = .binOp .shl t a c u) (ha : look E A a = some (.p (.s (.int k i)))) (hc : look E A c = some (.p (.s (.int k' j)))) : Yld P o E A h (.p (.s (.int k x))) := by
  unfold shl at hx
  split at hx
  · rename_i hb; simp only [Option.some.injEq] at hx; subst hx; exact (y_shift ho ha hc hb).1 rfl
  · cases hx
theorem zr {k k' : IntKind} {t u : Nat} {a c : Operand} {i j x : Int} (hx : shr k i j = some x) (ho : o.op = .binOp .shr t a c u) (ha : look E A a = some (.p (.s (.int k i)))) (hc : look E A c = some (.p (.s (.int k' j)))) : Yld P o E A h (.p (.s (.int k x))) := by
  unfold shr at hx
  split at hx
  · rename_i hb; simp only [Option.some.injEq] at hx; subst hx; exact (y_shift ho ha hc hb).2 rfl
  · cases hx
/-- A call of a function of pure data. -/
theorem zc {c : Call} {x : Operand} {f : Nat} {args : List SV} {fn : Func} {caps : List SV} (hF : PF P f args s) (hf : P.funcs[f]? = some fn) (ho : o.op = .call c) (hc : c.callee = .value x) (hx : calS E A x = some (f, caps)) (hb : fn.body.isSome = true) (hnm : (fn.name == "runtime.NumGoroutine") = false)
    (ha : (lookL E A c.args.toList).map (fun ss => argsS T c.argTypes.toList (ss ++ caps)) = some args) (hi : SV.idsL args = []) (hs : s.ids = []) : Yld P o E A h s := by
  obtain ⟨body, hbody⟩ := Option.isSome_iff_exists.1 hb
  obtain ⟨ss, h1, h2⟩ := Option.map_eq_some_iff.1 ha
  exact y_pcall ho hc hx h1 hf hbody hnm h2 hi hs hF
/-- A slice literal. -/
theorem ze (hT : TOk P T) {t len e n : Nat} {parts : Array (Nat × Operand)} (τ : Ty) (xs : List τ.den) (ho : o.op = .buildSlice t len parts) (hr : litV E A T t len parts.toList = some (e, n, xs.map τ.enc)) : Yld P o E A h (.p (.sl n τ xs)) :=
  y_lit hT ho hr τ xs rfl
end

mutual
/-- The spare cells forgotten, wherever they are. -/
def fg : SV → SV
  | .own _ n τ xs _ => .p (.sl n τ xs)
  | .bf _ xs _ => .p (.sl 1 .u xs)
  | .agg cs => match purL cs with | some ps => .p (.agg ps) | none => .agg cs
  | .tup ss => .tup (fgL ss)
  | s => s
def fgL : List SV → List SV
  | [] => []
  | s :: ss => fg s :: fgL ss
end
mutual
theorem fg_rd {w : World} {F : Fz} {m : Mp} : ∀ {s : SV} {v : Value}, RdS w F m v s → RdS w F m v (fg s)
  | .own _ _ _ _ _, _, h => .p (pur_rd (by rfl) h)
  | .agg cs, _, .agg h1 hl => by
    simp only [fg]
    split
    · rename_i ps hps; exact .p (.agg (purL_rd hps h1 hl))
    · exact .agg h1 hl
  | .tup ss, _, .tup hl => by simp only [fg]; exact .tup (fgL_rd hl)
  | .p _, v, h => h
  | .ptr _ _, v, h => h
  | .row _ _ _, v, h => h
  | .padr _, v, h => h
  | .fn _ _, v, h => h
  | .rw _ _ _ _, v, h => h
  | .np _ _, v, h => h
  | .bf _ _ _, _, h => .p (pur_rd (by rfl) h)
  | .mo _, v, h => h
  | .rp _ _ _ _, v, h => h
  | .any, v, h => h
theorem fgL_rd {w : World} {F : Fz} {m : Mp} : ∀ {ss : List SV} {vs : List Value}, RdSL w F m vs ss → RdSL w F m vs (fgL ss)
  | [], _, .nil => .nil
  | s :: ss, _, .cons h hs => .cons (fg_rd h) (fgL_rd hs)
end
end Go.Proofs.YtmjkflppajienaaDoor.R
