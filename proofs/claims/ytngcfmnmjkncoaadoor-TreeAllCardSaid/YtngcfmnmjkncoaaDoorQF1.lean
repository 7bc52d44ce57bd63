/- Arrays by constant places, floats and complex numbers, and functions of scalars whose contract is told otherwise; no condition but the typed premises. -/
import Derived.Test.YtngcfmnmjkncoaaDoorQP
import Derived.Laws.Cover3
import Derived.Laws.StructEq
namespace Go.Proofs.YtngcfmnmjkncoaaDoor.Q
open Go Go.RowKit
set_option linter.unusedVariables false
set_option linter.unusedSimpArgs false

/-- An array of scalars. -/
def eAc {α : Type} (e : α → PV) (z : α) (l : List α) : Nat → Nat → List PV
  | 0, _ => []
  | n + 1, i => e (l.getD i z) :: eAc e z l n (i + 1)
def eA (n : Nat) (e : Int → PV) (l : List Int) : PV := .agg (eAc e 0 l n 0)
abbrev vC (x : Nat × Nat) : Value := .complex .f64 x.1 x.2
abbrev vF (x : Nat) : Value := .float .f64 x
def eF (x : Nat) : PV := .s (vF x)
def eC (x : Nat × Nat) : PV := .s (vC x)
def feq (x y : Nat) : Bool := FloatKind.f64.format.order x y == some .eq
def ceq (x y : Nat × Nat) : Bool := feq x.1 y.1 && feq x.2 y.2

section
variable {P : Program} {T : Tab} {nt : Nat} {E E1 : Env} {A : Tg} {h hp h1 : List Ob} {o : Oper} {ops : Array Oper} {Q : QB} {i d : Nat}

theorem zA (hT : TOk P T) {t n e b off : Nat} {x y : Operand} {k : IntKind} {iv : Int} {ei : TI} (ho : o.op = .indexAddr t x y) (hk : kOf T t = .ar n e) (he : T e = some ei) (hx : look E A x = some (.ptr b off)) (hy : look E A y = some (.p (.s (.int k iv)))) (h0 : 0 ≤ iv) (h1 : iv < (n : Int)) :
    Yld P o E A hp (.ptr b (off + iv.toNat * ei.size)) := by
  refine .of_still fun a w F m hs hO => ?_
  have ex := hO.rd (by simp [ho, Op.operands]) hx
  have ey := rd_s (hO.rd (by simp [ho, Op.operands]) hy)
  obtain ⟨ti, hti, htk⟩ := kOf_ti (T := T) (t := t) (by rw [hk]; simp)
  have hu := (hT t ti hti).array (htk.trans hk)
  obtain ⟨inf, hi1, hi2, _⟩ := (hT e ei he).info
  generalize hv : a.eval x = v at ex
  cases ex with
  | ptr hm =>
    refine ⟨_, ?_, .ptr hm⟩
    simp [execOp, ho, hv, ey, Instr.indexAt, Instr.sureAddr, asIntOf, run_underlying hu, h0, h1, sizeOf, typeInfo, hi1, hi2, Addr.add_lit]
/-- A place that is told by cases. -/
theorem zAk (hT : TOk P T) {t n e b off c : Nat} {x y : Operand} {k : IntKind} {iv : Int} {ei : TI} (ho : o.op = .indexAddr t x y) (hk : kOf T t = .ar n e) (he : T e = some ei) (hx : look E A x = some (.ptr b off)) (hy : look E A y = some (.p (.s (.int k iv)))) (hc : iv = (c : Int)) (h1 : Nat.blt c n = true) :
    Yld P o E A hp (.ptr b (off + c * ei.size)) := by
  subst hc
  exact zA hT ho hk he hx hy (by omega) (by have := of_blt h1; omega)
theorem zX {c : Call} {x y : Operand} {a b : Nat} (ho : o.op = .call c) (hc : c.callee = .builtin .complex) (ha : c.args.toList = [x, y]) (hx : look E A x = some (.p (.s (vF a)))) (hy : look E A y = some (.p (.s (vF b)))) : Yld P o E A hp (.p (.s (vC (a, b)))) := by
  refine .of_still fun ac w F m hs hO => ⟨vC (a, b), ?_, .p (.s _)⟩
  have hm : ∀ z ∈ c.args.toList, z ∈ o.op.operands := fun z hz => by rw [ho]; exact Array.mem_append.2 (.inr (Array.mem_toList_iff.1 hz))
  have ex := rd_s (hO.rd (hm x (by rw [ha]; simp)) hx)
  have ey := rd_s (hO.rd (hm y (by rw [ha]; simp)) hy)
  have e2 : c.args.map ac.eval = #[vF a, vF b] := Array.ext' (by rw [Array.toList_map, ha]; simp [ex, ey])
  simp [execOp, ho, resolve, hc, invoke, builtin, e2, run_complex, vC, vF]
theorem zXe {x y : Operand} {t u : Nat} {a b : Nat × Nat} (ho : o.op = .binOp .eql t x y u) (hx : look E A x = some (.p (.s (vC a)))) (hy : look E A y = some (.p (.s (vC b)))) : Yld P o E A hp (vb (ceq a b)) := by
  refine .of_still fun ac w F m hs hO => ⟨.bool (ceq a b), ?_, .p (.s _)⟩
  have ex := rd_s (hO.rd (by simp [ho, Op.operands]) hx)
  have ey := rd_s (hO.rd (by simp [ho, Op.operands]) hy)
  have hg : ∀ v u : Operand, (eqGuard .eql t v u (.complex .f64 a.1 a.2) (.complex .f64 b.1 b.2)).run P w = .ok () w := fun v u => by simp [eqGuard]
  have hb := run_eql_complex (P := P) w t .f64 a.1 a.2 b.1 b.2
  simp only [execOp, ho, ex, ey, vC, Sem.run_bind, hg, hb, Result.andThen_ok, Sem.run_pure]
  rfl
theorem zXn {x y : Operand} {t u : Nat} {a b : Nat × Nat} (ho : o.op = .binOp .neq t x y u) (hx : look E A x = some (.p (.s (vC a)))) (hy : look E A y = some (.p (.s (vC b)))) : Yld P o E A hp (vb (!ceq a b)) := by
  refine .of_still fun ac w F m hs hO => ⟨.bool (!ceq a b), ?_, .p (.s _)⟩
  have ex := rd_s (hO.rd (by simp [ho, Op.operands]) hx)
  have ey := rd_s (hO.rd (by simp [ho, Op.operands]) hy)
  have hg : ∀ v u : Operand, (eqGuard .neq t v u (.complex .f64 a.1 a.2) (.complex .f64 b.1 b.2)).run P w = .ok () w := fun v u => by simp [eqGuard]
  have hb := run_neq_complex (P := P) w t .f64 a.1 a.2 b.1 b.2
  simp only [execOp, ho, ex, ey, vC, Sem.run_bind, hg, hb, Result.andThen_ok, Sem.run_pure]
  rfl
theorem zXf {x : Operand} {src dst : Nat} {k : IntKind} {n : Int} (ho : o.op = .convert src dst x) (hs : (P.underlying src).isSome = true) (hd : P.underlying dst = some (.float .f64)) (hx : look E A x = some (.p (.s (.int k n)))) : Yld P o E A hp (.p (.s (vF (floatOfInt .f64 n)))) := by
  refine .of_still fun ac w F m hs' hO => ⟨vF (floatOfInt .f64 n), ?_, .p (.s _)⟩
  have ex := rd_s (hO.rd (by simp [ho, Op.operands]) hx)
  simp [execOp, ho, ex, vF, run_convert_int_float w src dst k .f64 n hs hd]
end

/-! ### equality of arrays of whole numbers -/
def arl (l : List Int) : Nat → Nat → List Int
  | 0, _ => []
  | n + 1, i => l.getD i 0 :: arl l n (i + 1)
def aeq (n : Nat) (l m : List Int) : Bool := decide (arl l n 0 = arl m n 0)
def purI (k : IntKind) : List PV → Option (List Int)
  | [] => some []
  | .s (.int k' z) :: ps => if k' = k then (purI k ps).map (z :: ·) else none
  | _ => none
theorem purI_rd {w : World} {F : Fz} {k : IntKind} : ∀ {ps : List PV} {vs : List Value} {zs : List Int}, purI k ps = some zs → RdL w F vs ps → vs = zs.map (Value.int k)
  | [], _, zs, h, .nil => by simp only [purI, Option.some.injEq] at h; subst h; rfl
  | p :: ps, _, zs, h, .cons h1 hv hs => by
    unfold purI at h
    split at h
    · rename_i hh; cases hh
    · rename_i k' z ps' hh
      cases hh
      split at h
      · rename_i hk
        subst hk
        obtain ⟨ys, h2, rfl⟩ := Option.map_eq_some_iff.1 h
        cases hv
        rw [purI_rd h2 hs]
        rfl
      · cases h
    · cases h
theorem all_range_eqI : ∀ (xs ys : List Int), xs.length = ys.length → ((List.range xs.length).all fun i => xs.getD i 0 == ys.getD i 0) = (xs == ys)
  | [], [], _ => rfl
  | x :: xs, y :: ys, h => by
    have ih := all_range_eqI xs ys (by simpa using h)
    rw [List.length_cons, List.range_succ_eq_map, List.all_cons, List.all_map]
    simp only [List.getD_cons_zero, Function.comp_def, List.getD_cons_succ, ih]
    simp [List.cons_beq_cons]
  | [], _ :: _, h => by simp at h
  | _ :: _, [], h => by simp at h
theorem run_equalIn_ints {P : Program} (w : World) (d : Nat) (t e : TypeId) (n : Nat) (k : IntKind) (ht : P.underlying t = some (.array n e)) (he : P.underlying e = some (.int k)) (hsz : ∀ w, (sizeOf e).run P w = .ok 1 w)
    (xs ys : List Int) (hx : xs.length = n) (hy : ys.length = n) : (Op.equalIn (d + 2) t (.agg (xs.map (Value.int k)).toArray) (.agg (ys.map (Value.int k)).toArray)).run P w = .ok (xs == ys) w := by
  rw [← all_range_eqI xs ys (hx.trans hy.symm), hx, List.range_eq_range', Op.equalIn]
  simp only [Sem.run_bind, run_underlying ht, Result.andThen_ok, hsz, Std.Legacy.Range.forIn_eq_forIn_range', Std.Legacy.Range.size, Nat.sub_zero, Nat.add_sub_cancel, Nat.div_one]
  have hl : ∀ i ∈ List.range' 0 n 1, i < n := fun i hi => by simpa using (List.mem_range'_1.1 hi).2
  generalize List.range' 0 n 1 = l at hl ⊢
  induction l with
  | nil => simp
  | cons i l ih =>
    have hi : i < n := hl i (by simp)
    have px : (part e (xs.map (Value.int k)).toArray (i * 1)).run P w = .ok (.int k (xs.getD i 0)) w := by
      simp [part, isAgg, run_underlying he, List.getD, List.getElem?_eq_getElem (show i < xs.length by omega)]
    have py : (part e (ys.map (Value.int k)).toArray (i * 1)).run P w = .ok (.int k (ys.getD i 0)) w := by
      simp [part, isAgg, run_underlying he, List.getD, List.getElem?_eq_getElem (show i < ys.length by omega)]
    have pe : (Op.equalIn (d + 1) e (.int k (xs.getD i 0)) (.int k (ys.getD i 0))).run P w = .ok (xs.getD i 0 == ys.getD i 0) w := run_equalIn_int w d e k k _ _ he
    simp only [List.forIn_cons, Sem.run_bind, px, py, pe, Result.andThen_ok, List.all_cons]
    cases hb : (xs.getD i 0 == ys.getD i 0)
    · simp
    · simp only [Bool.not_true, Bool.false_eq_true, if_false, Sem.run_pure, Result.andThen_ok, Bool.true_and]
      exact ih fun j hj => hl j (by simp [hj])
section
variable {P : Program} {T : Tab} {E : Env} {A : Tg} {hp : List Ob} {o : Oper}
theorem zEq (hT : TOk P T) {op : BinOp} (hop : op = .eql ∨ op = .neq) {x y : Operand} {t u n e : Nat} {k : IntKind} {q1 q2 : List PV} {xs ys : List Int} (ho : o.op = .binOp op t x y u) (hk : kOf T t = .ar n e) (hke : kOf T e = .int k) (hm : P.eqGuardType P.depth t = false)
    (hx : (look E A x).map (coS (T t)) = some (.p (.agg q1))) (hy : (look E A y).map (coS (T t)) = some (.p (.agg q2))) (h1 : purI k q1 = some xs) (h2 : purI k q2 = some ys) (hl1 : Nat.beq xs.length n = true) (hl2 : Nat.beq ys.length n = true) (hz : (T e).map (·.size) = some 1) :
    Yld P o E A hp (vb (bif op == .eql then decide (xs = ys) else !decide (xs = ys))) := by
  refine .of_still fun ac w F m hs hO => ?_
  obtain ⟨s1, e1, g1⟩ := Option.map_eq_some_iff.1 hx
  obtain ⟨s2, e2, g2⟩ := Option.map_eq_some_iff.1 hy
  have ex := coS_rd (i := T t) (hO.rd (by simp [ho, Op.operands]) e1)
  have ey := coS_rd (i := T t) (hO.rd (by simp [ho, Op.operands]) e2)
  rw [g1] at ex
  rw [g2] at ey
  obtain ⟨ti, hti, htk⟩ := kOf_ti (T := T) (t := t) (by rw [hk]; simp)
  have hu := (hT t ti hti).array (htk.trans hk)
  obtain ⟨tj, htj, htjk⟩ := kOf_ti (T := T) (t := e) (by rw [hke]; simp)
  have hue := (hT e tj htj).int (htjk.trans hke)
  obtain ⟨inf, hi1, hi2, _⟩ := (hT e tj htj).info
  rw [htj] at hz
  simp only [Option.map_some, Option.some.injEq] at hz
  have hsz : ∀ w, (sizeOf e).run P w = .ok 1 w := fun w => by simp [sizeOf, typeInfo, hi1, hi2, hz]
  generalize hv1 : ac.eval x = v1 at ex
  generalize hv2 : ac.eval y = v2 at ey
  cases ex with
  | p ex =>
    cases ex with
    | agg l1 =>
      cases ey with
      | p ey =>
        cases ey with
        | agg l2 =>
          rw [purI_rd h1 l1] at hv1
          rw [purI_rd h2 l2] at hv2
          have hq := run_equalIn_ints (P := P) w 9998 t e n k hu hue hsz xs ys (Nat.eq_of_beq_eq_true hl1) (Nat.eq_of_beq_eq_true hl2)
          have hg := run_eqGuard_agg (P := P) w op t x y (xs.map (Value.int k)).toArray (ys.map (Value.int k)).toArray hm
          have hd : (xs == ys) = decide (xs = ys) := by rw [Bool.eq_iff_iff]; simp
          rcases hop with rfl | rfl
          · have hb := run_eql_struct (P := P) w t (xs.map (Value.int k)).toArray (ys.map (Value.int k)).toArray
            rw [hq, Result.andThen_ok, hd] at hb
            refine ⟨.bool (decide (xs = ys)), ?_, .p (.s _)⟩
            simp only [execOp, ho, hv1, hv2, Sem.run_bind, hg, hb, Result.andThen_ok, Sem.run_pure]
          · have hb := run_neq_struct (P := P) w t (xs.map (Value.int k)).toArray (ys.map (Value.int k)).toArray
            rw [hq, Result.andThen_ok, hd] at hb
            refine ⟨.bool (!decide (xs = ys)), ?_, .p (.s _)⟩
            simp only [execOp, ho, hv1, hv2, Sem.run_bind, hg, hb, Result.andThen_ok, Sem.run_pure]
theorem zEe (hT : TOk P T) {x y : Operand} {t u n e : Nat} {k : IntKind} {q1 q2 : List PV} {xs ys : List Int} (ho : o.op = .binOp .eql t x y u) (hk : kOf T t = .ar n e) (hke : kOf T e = .int k) (hm : P.eqGuardType P.depth t = false)
    (hx : (look E A x).map (coS (T t)) = some (.p (.agg q1))) (hy : (look E A y).map (coS (T t)) = some (.p (.agg q2))) (h1 : purI k q1 = some xs) (h2 : purI k q2 = some ys) (hl1 : Nat.beq xs.length n = true) (hl2 : Nat.beq ys.length n = true) (hz : (T e).map (·.size) = some 1) :
    Yld P o E A hp (vb (decide (xs = ys))) := zEq hT (.inl rfl) ho hk hke hm hx hy h1 h2 hl1 hl2 hz
theorem zEn (hT : TOk P T) {x y : Operand} {t u n e : Nat} {k : IntKind} {q1 q2 : List PV} {xs ys : List Int} (ho : o.op = .binOp .neq t x y u) (hk : kOf T t = .ar n e) (hke : kOf T e = .int k) (hm : P.eqGuardType P.depth t = false)
    (hx : (look E A x).map (coS (T t)) = some (.p (.agg q1))) (hy : (look E A y).map (coS (T t)) = some (.p (.agg q2))) (h1 : purI k q1 = some xs) (h2 : purI k q2 = some ys) (hl1 : Nat.beq xs.length n = true) (hl2 : Nat.beq ys.length n = true) (hz : (T e).map (·.size) = some 1) :
    Yld P o E A hp (vb (!decide (xs = ys))) := zEq hT (.inr rfl) ho hk hke hm hx hy h1 h2 hl1 hl2 hz
end

/-- A function of scalars, by what the machine answers. -/
theorem PF_scal {P : Program} {f : Nat} {args : List Value} {v : Value}
    (hC : ∀ w, Calls P f args.toArray w fun e w' => e = .returned v ∧ Below w.heap.size w w') : PF P f (args.map fun v => .p (.s v)) (.p (.s v)) := by
  intro vs w F m hvs hsim
  have hargs : vs = args := by
    clear hC
    revert vs
    induction args with
    | nil => intro vs hvs; cases hvs; rfl
    | cons a az ih =>
      intro vs hvs
      cases hvs with
      | cons h1 h2 => rw [rd_s h1, ih _ h2]
  subst hargs
  refine (hC w).mono ?_
  rintro e w' ⟨rfl, hb⟩
  have hno : ∀ i, m i = .free := fun i => hsim.dom i (Nat.zero_le _)
  refine ⟨v, _, [], F, m, rfl, ⟨rfl, rfl⟩, .p (.s v), ?_, ?_⟩
  · exact ⟨fun b o hF => Nat.lt_of_lt_of_le (hsim.fl b o hF) hb.size, fun i b hi => by rw [hno i] at hi; simp [Pl.blk] at hi, hsim.fr, hsim.inj, hsim.dom, fun i t cs hi => by simp at hi, fun i hi => by simp at hi, fun i b r ts ss hi => by simp at hi, fun k i b hi => by simp at hi⟩
  · exact ⟨hb.os, hb.tape, hb.output, hb.size, fun b o hF => ⟨hF, cell_of_heap (hb.block b (hsim.fl b o hF))⟩, fun b hbb _ => hb.block b hbb, fun i b o hh _ => ⟨i, hh⟩, fun b o hF => .inl hF⟩
end Go.Proofs.YtngcfmnmjkncoaaDoor.Q
