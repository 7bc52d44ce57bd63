/- More operations: a slice held against nil, x[:j:j], arrays by their places, arrays held against one another, complex numbers; no condition but the typed premises. -/
import Derived.Test.YtmjkflppajienaaDoorRM
import Derived.Laws.Cover3
import Derived.Laws.StructEq
namespace Go.Proofs.YtmjkflppajienaaDoor.R
open Go Go.RowKit
set_option linter.unusedVariables false
set_option linter.unusedSimpArgs false

/-- What follows on whether a slice is nil: of an empty one it is not known. -/
noncomputable def nq {α β : Type} (l : List α) (f : Bool → Option β) : Option β := match l with
  | [] => @ite _ (f true = f false) (Classical.propDecidable _) (f true) none
  | _ :: _ => f false
theorem nq_of {α β : Type} {l : List α} {f : Bool → Option β} {r : β} (h : nq l f = some r) (b : Bool) (hb : b = true → l = []) : f b = some r := by
  unfold nq at h
  split at h
  · split at h
    · rename_i he
      cases b
      · rw [← he]; exact h
      · exact h
    · cases h
  · cases b
    · exact h
    · simp at hb
section
variable {P : Program} {T : Tab} {nt : Nat} {E : Env} {A : Tg} {h h1 : List Ob} {Q : QB} {o : Oper} {s : SV} {ops : Array Oper} {i d : Nat}
theorem run_equalIn_nil1 (d : Nat) (t e : TypeId) (w : World) (h : P.underlying t = some (.slice e)) : (Op.equalIn (d + 1) t (.slice none 0 0) (.slice none 0 0)).run P w = .ok true w := by
  simp [Op.equalIn, run_underlying h]
theorem run_equalIn_nil2 (d : Nat) (t e : TypeId) (a : Addr) (n c : Nat) (w : World) (h : P.underlying t = some (.slice e)) : (Op.equalIn (d + 1) t (.slice (some a) n c) (.slice none 0 0)).run P w = .ok false w := by
  simp [Op.equalIn, run_underlying h]
theorem xq (hT : TOk P T) {t u e n : Nat} {x : Operand} {sx : SV} {τ : Ty} {l : List τ.den} (ho : ops[i]? = some o) (hop : o.op = .binOp .eql t x (.const (.slice none 0 0)) u) (hg : o.guard = none) (hd : o.dst = some d)
    (hk : kOf T t = .sl e) (hx : look E [] x = some sx) (hq : pur sx = some (.sl n τ l)) (hok : dstOk nt E [] (some d) = true) (hW : ∀ b : Bool, (b = true → l = []) → WL P nt ops (i + 1) ((d, [], vb b) :: E) h Q) : WL P nt ops i E h Q := by
  refine WL_op ho hg fun a w F m hr N Q hN => ?_
  obtain ⟨ti, hti, htk⟩ := kOf_ti (T := T) (t := t) (by rw [hk]; simp)
  have hu := (hT t ti hti).slice (htk.trans hk)
  have ex := pur_rd hq ((hr.opd (Tags.nil a) o).rd (by simp [hop, Op.operands]) hx)
  have fin : ∀ b : Bool, (b = true → l = []) → (execOp a.eval o).run P w = .ok (.value (.bool b)) w → o.wp P a w N Q := by
    intro b hb hrun
    unfold Oper.wp
    rw [hrun]
    exact hN _ _ _ _ _ _ (hW b hb) (by have := hr.put (d := some d) (tg := []) (s := vb b) (v := .bool b) hok (Tags.nil a) (Qt.refl w F) (.p (.s _)); rw [hd]; exact this) (Gr.refl _ _ _)
  have ec : a.eval (.const (.slice none 0 0)) = .slice none 0 0 := rfl
  generalize hv : a.eval x = v at ex
  cases ex with
  | nil =>
    have he : (Op.equal t (.slice none 0 0) (.slice none 0 0)).run P w = .ok true w := run_equalIn_nil1 9999 t e w hu
    exact fin true (fun _ => rfl) (by simp [execOp, hop, hv, ec, eqGuard, binOp, he])
  | emp ad =>
    have he := run_equalIn_nil2 (P := P) 9999 t e ad 0 0 w hu
    exact fin false (by simp) (by
      have he' : (Op.equal t (.slice (some ad) 0 0) (.slice none 0 0)).run P w = .ok false w := he
      simp [execOp, hop, hv, ec, eqGuard, binOp, he'])
  | @sl b off cap _ _ _ hn hc hr' =>
    have he := run_equalIn_nil2 (P := P) 9999 t e ⟨b, off, none⟩ l.length cap w hu
    exact fin false (by simp) (by
      have he' : (Op.equal t (.slice (some ⟨b, off, none⟩) l.length cap) (.slice none 0 0)).run P w = .ok false w := he
      simp [execOp, hop, hv, ec, eqGuard, binOp, he'])

/-- x[:h:h], nothing of its spare cells told. -/
theorem zt3 (hT : TOk P T) {t e n : Nat} {x y z : Operand} {sx : SV} {τ : Ty} {l r : List τ.den} {ei : TI} (k k' : IntKind) {hi : Int} (hx : cut l 0 hi = some r) (hop : o.op = .slice t x none (some y) (some z))
    (hk : kOf T t = .sl e) (he : T e = some ei) (hn : ei.size = n) (ha : look E A x = some sx) (hq : pur sx = some (.sl n τ l)) (hy : look E A y = some (.p (.s (.int k hi)))) (hz : look E A z = some (.p (.s (.int k' hi)))) : Yld P o E A h (.p (.sl n τ r)) := by
  subst hn
  unfold cut at hx
  split at hx
  · rename_i hb
    simp only [Option.some.injEq, Int.toNat_zero, List.drop_zero] at hx
    subst hx
    obtain ⟨_, h0, h2⟩ := hb
    refine .of_still fun a w F m hs hO => ?_
    have ex := pur_rd hq (hO.rd (by simp [hop, Op.operands]) ha)
    have ey := rd_s (hO.rd (by simp [hop, Op.operands]) hy)
    have ez := rd_s (hO.rd (by simp [hop, Op.operands]) hz)
    obtain ⟨ti, hti, htk⟩ := kOf_ti (T := T) (t := t) (by rw [hk]; simp)
    have hu := (hT t ti hti).slice (htk.trans hk)
    obtain ⟨inf, hi1, hi2, _⟩ := (hT e ei he).info
    generalize hv : a.eval x = v at ex
    have run : ∀ (ad : Option Addr) (cap : Nat), l.length ≤ cap → (execOp a.eval o).run P w = .ok (.value (.slice (if hi.toNat = 0 then ad else ad.map (·.add 0)) hi.toNat hi.toNat)) w ∨ v ≠ .slice ad l.length cap := by
      intro ad cap hc
      by_cases hvv : v = .slice ad l.length cap
      · left
        subst hvv
        have g2 : hi ≤ (cap : Int) := by omega
        have g3 : hi ≤ ((hi.toNat : Nat) : Int) := by omega
        have g5 : ¬ max hi 0 < hi := by omega
        simp [execOp, hop, hv, ey, ez, Instr.sliceAt, Instr.slice, Instr.sliceBounds, Instr.sliceBound, asIntOf, run_underlying hu, h0, g2, g3, g5, sizeOf, typeInfo, hi1, hi2]
      · exact .inr hvv
    cases ex with
    | nil nn =>
      have r := (run none 0 (by simp)).resolve_right (by simp)
      have e1 : hi.toNat = 0 := by simp at h2; omega
      rw [e1] at r
      rw [e1]
      exact ⟨_, r, .p (.nil _ _)⟩
    | emp ad nn =>
      have r := (run (some ad) 0 (by simp)).resolve_right (by simp)
      have e1 : hi.toNat = 0 := by simp at h2; omega
      rw [e1] at r
      rw [e1]
      exact ⟨_, r, .p (.emp _ _ _)⟩
    | @sl b off cap _ _ _ hn hc hr' =>
      have r := (run (some ⟨b, off, none⟩) cap hc).resolve_right (by simp)
      have e3 : (if hi.toNat = 0 then some (⟨b, off, none⟩ : Addr) else (some (⟨b, off, none⟩ : Addr)).map (·.add 0)) = some ⟨b, off, none⟩ := by split <;> simp [Addr.add]
      rw [e3] at r
      refine ⟨_, r, .p ?_⟩
      have := rd_cut hn hc hr' (l := 0) (h := hi.toNat) (Nat.zero_le _) (by omega) hi.toNat (by omega) off (.inl (by simp))
      simpa using this
  · cases hx

end

abbrev vC (x : Nat × Nat) : Value := .complex .f64 x.1 x.2
abbrev vF (x : Nat) : Value := .float .f64 x
def feq (x y : Nat) : Bool := FloatKind.f64.format.order x y == some .eq
def ceq (x y : Nat × Nat) : Bool := feq x.1 y.1 && feq x.2 y.2
section
variable {P : Program} {T : Tab} {nt : Nat} {E E1 : Env} {A : Tg} {h hp h1 : List Ob} {o : Oper} {ops : Array Oper} {Q : QB} {i d : Nat}
theorem zA (hT : TOk P T) {t n e b off : Nat} {x y : Operand} {k : IntKind} {iv : Int} {ei : TI} (ho : o.op = .indexAddr t x y) (hk : kOf T t = .ar n e) (he : T e = some ei) (hx : look E A x = some (.ptr b off)) (hy : look E A y = some (.p (.s (.int k iv)))) (h0 : 0 ≤ iv) (h1 : iv < (n : Int)) :
    Yld P o E A hp (.ptr b (off + iv.toNat * ei.size)) := by
  refine .of_still fun a w F m hs hO => ?_
  have ex := hO.rd (by simp [ho, Op.operands]) hx
  have ey := rd_s (hO.rd (by simp [ho, Op.operands]) hy)
  obtain ⟨ti, hti, htk⟩ := kOf_ti (T := T) (t := t) (by rw [hk]; simp)
  have hu := (hT t ti hti).array (htk.trans hk)
  obtain ⟨inf, hi1, hi2, _⟩ := (hT e ei he).info
  generalize hv : a.eval x = v at ex
  cases ex with
  | ptr hm =>
    refine ⟨_, ?_, .ptr hm⟩
    simp [execOp, ho, hv, ey, Instr.indexAt, Instr.sureAddr, asIntOf, run_underlying hu, h0, h1, sizeOf, typeInfo, hi1, hi2, Addr.add_lit]
theorem zX {c : Call} {x y : Operand} {a b : Nat} (ho : o.op = .call c) (hc : c.callee = .builtin .complex) (ha : c.args.toList = [x, y]) (hx : look E A x = some (.p (.s (vF a)))) (hy : look E A y = some (.p (.s (vF b)))) : Yld P o E A hp (.p (.s (vC (a, b)))) := by
  refine .of_still fun ac w F m hs hO => ⟨vC (a, b), ?_, .p (.s _)⟩
  have hm : ∀ z ∈ c.args.toList, z ∈ o.op.operands := fun z hz => by rw [ho]; exact Array.mem_append.2 (.inr (Array.mem_toList_iff.1 hz))
  have ex := rd_s (hO.rd (hm x (by rw [ha]; simp)) hx)
  have ey := rd_s (hO.rd (hm y (by rw [ha]; simp)) hy)
  have e2 : c.args.map ac.eval = #[vF a, vF b] := Array.ext' (by rw [Array.toList_map, ha]; simp [ex, ey])
  simp [execOp, ho, resolve, hc, invoke, builtin, e2, run_complex, vC, vF]
theorem zXe {x y : Operand} {t u : Nat} {a b : Nat × Nat} (ho : o.op = .binOp .eql t x y u) (hx : look E A x = some (.p (.s (vC a)))) (hy : look E A y = some (.p (.s (vC b)))) : Yld P o E A hp (vb (ceq a b)) := by
  refine .of_still fun ac w F m hs hO => ⟨.bool (ceq a b), ?_, .p (.s _)⟩
  have ex := rd_s (hO.rd (by simp [ho, Op.operands]) hx)
  have ey := rd_s (hO.rd (by simp [ho, Op.operands]) hy)
  have hg : ∀ v u : Operand, (eqGuard .eql t v u (.complex .f64 a.1 a.2) (.complex .f64 b.1 b.2)).run P w = .ok () w := fun v u => by simp [eqGuard]
  have hb := run_eql_complex (P := P) w t .f64 a.1 a.2 b.1 b.2
  simp only [execOp, ho, ex, ey, vC, Sem.run_bind, hg, hb, Result.andThen_ok, Sem.run_pure]
  rfl
theorem zXn {x y : Operand} {t u : Nat} {a b : Nat × Nat} (ho : o.op = .binOp .neq t x y u) (hx : look E A x = some (.p (.s (vC a)))) (hy : look E A y = some (.p (.s (vC b)))) : Yld P o E A hp (vb (!ceq a b)) := by
  refine .of_still fun ac w F m hs hO => ⟨.bool (!ceq a b), ?_, .p (.s _)⟩
  have ex := rd_s (hO.rd (by simp [ho, Op.operands]) hx)
  have ey := rd_s (hO.rd (by simp [ho, Op.operands]) hy)
  have hg : ∀ v u : Operand, (eqGuard .neq t v u (.complex .f64 a.1 a.2) (.complex .f64 b.1 b.2)).run P w = .ok () w := fun v u => by simp [eqGuard]
  have hb := run_neq_complex (P := P) w t .f64 a.1 a.2 b.1 b.2
  simp only [execOp, ho, ex, ey, vC, Sem.run_bind, hg, hb, Result.andThen_ok, Sem.run_pure]
  rfl
theorem zXf {x : Operand} {src dst : Nat} {k : IntKind} {n : Int} (ho : o.op = .convert src dst x) (hs : (P.underlying src).isSome = true) (hd : P.underlying dst = some (.float .f64)) (hx : look E A x = some (.p (.s (.int k n)))) : Yld P o E A hp (.p (.s (vF (floatOfInt .f64 n)))) := by
  refine .of_still fun ac w F m hs' hO => ⟨vF (floatOfInt .f64 n), ?_, .p (.s _)⟩
  have ex := rd_s (hO.rd (by simp [ho, Op.operands]) hx)
  simp [execOp, ho, ex, vF, run_convert_int_float w src dst k .f64 n hs hd]
end

def purI (k : IntKind) : List PV → Option (List Int)
  | [] => some []
  | .s (.int k' z) :: ps => if k' = k then (purI k ps).map (z :: ·) else none
  | _ => none
theorem purI_rd {w : World} {F : Fz} {k : IntKind} : ∀ {ps : List PV} {vs : List Value} {zs : List Int}, purI k ps = some zs → RdL w F vs ps → vs = zs.map (Value.int k)
  | [], _, zs, h, .nil => by simp only [purI, Option.some.injEq] at h; subst h; rfl
  | p :: ps, _, zs, h, .cons h1 hv hs => by
    unfold purI at h
    split at h
    · rename_i hh; cases hh
    · rename_i k' z ps' hh
      cases hh
      split at h
      · rename_i hk
        subst hk
        obtain ⟨ys, h2, rfl⟩ := Option.map_eq_some_iff.1 h
        cases hv
        rw [purI_rd h2 hs]
        rfl
      · cases h
    · cases h
theorem all_range_eqI : ∀ (xs ys : List Int), xs.length = ys.length → ((List.range xs.length).all fun i => xs.getD i 0 == ys.getD i 0) = (xs == ys)
  | [], [], _ => rfl
  | x :: xs, y :: ys, h => by
    have ih := all_range_eqI xs ys (by simpa using h)
    rw [List.length_cons, List.range_succ_eq_map, List.all_cons, List.all_map]
    simp only [List.getD_cons_zero, Function.comp_def, List.getD_cons_succ, ih]
    simp [List.cons_beq_cons]
  | [], _ :: _, h => by simp at h
  | _ :: _, [], h => by simp at h
theorem run_equalIn_ints {P : Program} (w : World) (d : Nat) (t e : TypeId) (n : Nat) (k : IntKind) (ht : P.underlying t = some (.array n e)) (he : P.underlying e = some (.int k)) (hsz : ∀ w, (sizeOf e).run P w = .ok 1 w)
    (xs ys : List Int) (hx : xs.length = n) (hy : ys.length = n) : (Op.equalIn (d + 2) t (.agg (xs.map (Value.int k)).toArray) (.agg (ys.map (Value.int k)).toArray)).run P w = .ok (xs == ys) w := by
  rw [← all_range_eqI xs ys (hx.trans hy.symm), hx, List.range_eq_range', Op.equalIn]
  simp only [Sem.run_bind, run_underlying ht, Result.andThen_ok, hsz, Std.Legacy.Range.forIn_eq_forIn_range', Std.Legacy.Range.size, Nat.sub_zero, Nat.add_sub_cancel, Nat.div_one]
  have hl : ∀ i ∈ List.range' 0 n 1, i < n := fun i hi => by simpa using (List.mem_range'_1.1 hi).2
  generalize List.range' 0 n 1 = l at hl ⊢
  induction l with
  | nil => simp
  | cons i l ih =>
    have hi : i < n := hl i (by simp)
    have px : (part e (xs.map (Value.int k)).toArray (i * 1)).run P w = .ok (.int k (xs.getD i 0)) w := by
      simp [part, isAgg, run_underlying he, List.getD, List.getElem?_eq_getElem (show i < xs.length by omega)]
    have py : (part e (ys.map (Value.int k)).toArray (i * 1)).run P w = .ok (.int k (ys.getD i 0)) w := by
      simp [part, isAgg, run_underlying he, List.getD, List.getElem?_eq_getElem (show i < ys.length by omega)]
    have pe : (Op.equalIn (d + 1) e (.int k (xs.getD i 0)) (.int k (ys.getD i 0))).run P w = .ok (xs.getD i 0 == ys.getD i 0) w := run_equalIn_int w d e k k _ _ he
    simp only [List.forIn_cons, Sem.run_bind, px, py, pe, Result.andThen_ok, List.all_cons]
    cases hb : (xs.getD i 0 == ys.getD i 0)
    · simp
    · simp only [Bool.not_true, Bool.false_eq_true, if_false, Sem.run_pure, Result.andThen_ok, Bool.true_and]
      exact ih fun j hj => hl j (by simp [hj])
section
variable {P : Program} {T : Tab} {E : Env} {A : Tg} {hp : List Ob} {o : Oper}
theorem zEq (hT : TOk P T) {op : BinOp} (hop : op = .eql ∨ op = .neq) {x y : Operand} {t u n e : Nat} {k : IntKind} {q1 q2 : List PV} {xs ys : List Int} (ho : o.op = .binOp op t x y u) (hk : kOf T t = .ar n e) (hke : kOf T e = .int k) (hm : P.eqGuardType P.depth t = false)
    (hx : (look E A x).map (coS (T t)) = some (.p (.agg q1))) (hy : (look E A y).map (coS (T t)) = some (.p (.agg q2))) (h1 : purI k q1 = some xs) (h2 : purI k q2 = some ys) (hl1 : Nat.beq xs.length n = true) (hl2 : Nat.beq ys.length n = true) (hz : (T e).map (·.size) = some 1) :
    Yld P o E A hp (vb (bif op == .eql then decide (xs = ys) else !decide (xs = ys))) := by
  refine .of_still fun ac w F m hs hO => ?_
  obtain ⟨s1, e1, g1⟩ := Option.map_eq_some_iff.1 hx
  obtain ⟨s2, e2, g2⟩ := Option.map_eq_some_iff.1 hy
  have ex := coS_rd (i := T t) (hO.rd (by simp [ho, Op.operands]) e1)
  have ey := coS_rd (i := T t) (hO.rd (by simp [ho, Op.operands]) e2)
  rw [g1] at ex
  rw [g2] at ey
  obtain ⟨ti, hti, htk⟩ := kOf_ti (T := T) (t := t) (by rw [hk]; simp)
  have hu := (hT t ti hti).array (htk.trans hk)
  obtain ⟨tj, htj, htjk⟩ := kOf_ti (T := T) (t := e) (by rw [hke]; simp)
  have hue := (hT e tj htj).int (htjk.trans hke)
  obtain ⟨inf, hi1, hi2, _⟩ := (hT e tj htj).info
  rw [htj] at hz
  simp only [Option.map_some, Option.some.injEq] at hz
  have hsz : ∀ w, (sizeOf e).run P w = .ok 1 w := fun w => by simp [sizeOf, typeInfo, hi1, hi2, hz]
  generalize hv1 : ac.eval x = v1 at ex
  generalize hv2 : ac.eval y = v2 at ey
  cases ex with
  | p ex =>
    cases ex with
    | agg l1 =>
      cases ey with
      | p ey =>
        cases ey with
        | agg l2 =>
          rw [purI_rd h1 l1] at hv1
          rw [purI_rd h2 l2] at hv2
          have hq := run_equalIn_ints (P := P) w 9998 t e n k hu hue hsz xs ys (Nat.eq_of_beq_eq_true hl1) (Nat.eq_of_beq_eq_true hl2)
          have hg := run_eqGuard_agg (P := P) w op t x y (xs.map (Value.int k)).toArray (ys.map (Value.int k)).toArray hm
          have hd : (xs == ys) = decide (xs = ys) := by rw [Bool.eq_iff_iff]; simp
          rcases hop with rfl | rfl
          · have hb := run_eql_struct (P := P) w t (xs.map (Value.int k)).toArray (ys.map (Value.int k)).toArray
            rw [hq, Result.andThen_ok, hd] at hb
            refine ⟨.bool (decide (xs = ys)), ?_, .p (.s _)⟩
            simp only [execOp, ho, hv1, hv2, Sem.run_bind, hg, hb, Result.andThen_ok, Sem.run_pure]
          · have hb := run_neq_struct (P := P) w t (xs.map (Value.int k)).toArray (ys.map (Value.int k)).toArray
            rw [hq, Result.andThen_ok, hd] at hb
            refine ⟨.bool (!decide (xs = ys)), ?_, .p (.s _)⟩
            simp only [execOp, ho, hv1, hv2, Sem.run_bind, hg, hb, Result.andThen_ok, Sem.run_pure]
end

/-! ### Arrays held against one another, typed -/
def vlist {α : Type} : (n : Nat) → Vec α n → List α
  | 0, _ => []
  | n + 1, v => Prod.fst (α := α) (β := Vec α n) v :: vlist n (Prod.snd (α := α) (β := Vec α n) v)
theorem vlist_length {α : Type} : ∀ (n : Nat) (v : Vec α n), (vlist n v).length = n
  | 0, _ => rfl
  | n + 1, v => by simp [vlist, vlist_length n]
theorem vlist_inj {α : Type} : ∀ (n : Nat) {u v : Vec α n}, vlist n u = vlist n v → u = v
  | 0, _, _, _ => rfl
  | n + 1, (x, u), (y, v), h => by
    simp only [vlist, List.cons.injEq] at h
    obtain ⟨rfl, h⟩ := h
    rw [vlist_inj n h]
/-- Are two things of a type the same? -/
noncomputable def teq (t : Ty) (x y : t.den) : Bool := @decide (x = y) (Classical.propDecidable _)
theorem teq_iff {t : Ty} {x y : t.den} : teq t x y = true ↔ x = y := by simp [teq]
theorem flat_ints {k : IntKind} : ∀ (n : Nat) (v : Vec Int n), Vec.flat (fun y => ((Ty.i k).enc y).cells) n v = (vlist n v).map fun z => PV.s (.int k z)
  | 0, _ => rfl
  | n + 1, v => by simp only [Vec.flat, vlist, List.map_cons, flat_ints n]; rfl
theorem purI_ints {k : IntKind} : ∀ zs : List Int, purI k (zs.map fun z => PV.s (.int k z)) = some zs
  | [] => rfl
  | z :: zs => by simp [purI, purI_ints zs]
end Go.Proofs.YtmjkflppajienaaDoor.R
