/- What the one function tells of an operation is what the machine yields; no condition but the typed premises. -/
import Derived.Test.YtmjkflppajienaaDoorRE
namespace Go.Proofs.YtmjkflppajienaaDoor.R
open Go Go.RowKit
set_option linter.unusedVariables false
set_option linter.unusedSimpArgs false

section
variable {P : Program} {T : Tab} {E : Env} {A : Tg} {hp : List Ob} {o : Oper} {s : SV}

theorem kOf_ti {t : Nat} (hk : kOf T t ≠ .ot) : ∃ i, T t = some i ∧ i.k = kOf T t := by
  unfold kOf at *
  split at hk
  · rename_i i hi; exact ⟨i, hi, by simp [hi]⟩
  · exact absurd rfl hk

theorem y_move (hT : TOk P T) {x : Operand} (ho : o.op = .move x ∨ o.op = .assign x) {s : SV} (hx : look E A x = some s) : YldS P o E A hp (mvS T o.type x s) := by
  refine fun a w F m hs hO => ⟨a.eval x, ?_, mvS_rd (hO.rd (by rcases ho with h | h <;> simp [h, Op.operands]) hx)⟩
  rcases ho with h | h <;> simp [execOp, h]

theorem y_bin (hT : TOk P T) {op : BinOp} {xt yt : Nat} {x y : Operand} {u v r : Value} (ho : o.op = .binOp op xt x y yt) (hx : look E A x = some (.p (.s u))) (hy : look E A y = some (.p (.s v)))
    (hr : binV T op xt u v = some r) : YldS P o E A hp (.p (.s r)) := by
  refine fun a w F m hs hO => ⟨r, ?_, .p (.s r)⟩
  have ex := rd_s (hO.rd (by simp [ho, Op.operands]) hx)
  have ey := rd_s (hO.rd (by simp [ho, Op.operands]) hy)
  have := binV_run hT x y hr w
  simp only [execOp, ho, ex, ey, Sem.run_bind]
  rw [Sem.run_bind] at this
  simp [this]

theorem y_un {op : UnOp} {xt : Nat} {x : Operand} {u r : Value} (ho : o.op = .unOp op xt x) (hx : look E A x = some (.p (.s u))) (hr : unV op u = some r) : YldS P o E A hp (.p (.s r)) := by
  refine fun a w F m hs hO => ⟨r, ?_, .p (.s r)⟩
  have ex := rd_s (hO.rd (by simp [ho, Op.operands]) hx)
  simp [execOp, ho, ex, unV_run (P := P) hr w]

theorem run_pick {ac : Act} {c a b : Operand} {t : Bool} {w : World} (ho : o.op = .pick c a b) (hc : ac.eval c = .bool t) : (execOp ac.eval o).run P w = .ok (.value (if t then ac.eval a else ac.eval b)) w := by
  simp only [execOp, ho, hc, asBool, Sem.run_bind, Sem.run_pure, Result.andThen_ok]

theorem y_pick {u : Nat} {a b : Operand} {t : Bool} (ho : o.op = .pick (.tmp u) a b) (hc : look E A (.tmp u) = some (.p (.s (.bool t)))) (hr : pickV E A u a b t = some s) : YldS P o E A hp s := by
  refine fun ac w F m hs hO => ?_
  have ec := rd_s (hO.rd (by simp [ho, Op.operands]) hc)
  have eu : ac.tmps.getD u undef = .bool t := ec
  have ha : ∀ s, t = true → look E ((u, true) :: A) a = some s → RdS w F m (ac.eval a) s := fun s ht hl =>
    hO.op a (by simp [ho, Op.operands]) [(u, true)] s (by intro x hx; simp at hx; subst hx; rw [eu, ht]) hl
  have hb : ∀ s, t = false → look E ((u, false) :: A) b = some s → RdS w F m (ac.eval b) s := fun s ht hl =>
    hO.op b (by simp [ho, Op.operands]) [(u, false)] s (by intro x hx; simp at hx; subst hx; rw [eu, ht]) hl
  unfold pickV at hr
  split at hr
  · split at hr
    · rename_i y hl
      simp only [Option.some.injEq] at hr
      subst hr
      refine ⟨.bool (t || y), ?_, .p (.s _)⟩
      rw [run_pick ho ec]
      cases t
      · simp [rd_s (hb _ rfl hl)]
      · simp [Act.eval]
    · cases hr
  · split at hr
    · rename_i x hl
      simp only [Option.some.injEq] at hr
      subst hr
      refine ⟨.bool (t && x), ?_, .p (.s _)⟩
      rw [run_pick ho ec]
      cases t
      · simp [Act.eval]
      · simp [rd_s (ha _ rfl hl)]
    · cases hr
  · split at hr
    · rename_i x y hl1 hl2
      simp only [Option.some.injEq] at hr
      subst hr
      refine ⟨.bool (bif t then x else y), ?_, .p (.s _)⟩
      rw [run_pick ho ec]
      cases t
      · simp [rd_s (hb _ rfl hl2)]
      · simp [rd_s (ha _ rfl hl1)]
    · cases hr

theorem y_conv (hT : TOk P T) {src dst : Nat} {x : Operand} {s' : SV} (ho : o.op = .convert src dst x) (hx : look E A x = some s') (hr : convV T src dst s' = some s) : YldS P o E A hp s := by
  refine fun a w F m hs hO => ?_
  have ex := hO.rd (by simp [ho, Op.operands]) hx
  unfold convV at hr
  split at hr
  · rename_i ks k ks' n hks hk
    simp only [Option.some.injEq] at hr
    subst hr
    obtain ⟨is, his, hisk⟩ := kOf_ti (T := T) (t := src) (by rw [hks]; simp)
    have hd0 := (hT src is his).int (hisk.trans hks)
    obtain ⟨i, hi, hik⟩ := kOf_ti (T := T) (t := dst) (by rw [hk]; simp)
    have hd := (hT dst i hi).int (hik.trans hk)
    have e := rd_s ex
    refine ⟨_, ?_, .p (.s _)⟩
    simp [execOp, ho, e, convert, run_underlying hd, run_underlying hd0, Conv.intToInt]
  · rename_i b hk1 hk2
    simp only [Option.some.injEq] at hr
    subst hr
    obtain ⟨i, hi, hik⟩ := kOf_ti (T := T) (t := dst) (by rw [hk2]; simp)
    obtain ⟨j, hj, hjk⟩ := kOf_ti (T := T) (t := src) (by rw [hk1]; simp)
    have hd := (hT dst i hi).string (hik.trans hk2)
    have hs := (hT src j hj).string (hjk.trans hk1)
    have e := rd_s ex
    refine ⟨_, ?_, .p (.s _)⟩
    simp [execOp, ho, e, convert, run_underlying hd, run_underlying hs]
  · cases hr

theorem y_extract {x : Operand} {ix : Nat} {ss : List SV} (ho : o.op = .extract x ix) (hx : look E A x = some (.tup ss)) (hr : ss[ix]? = some s) : YldS P o E A hp s := by
  refine fun a w F m hs hO => ?_
  have ex := hO.rd (by simp [ho, Op.operands]) hx
  generalize hv : a.eval x = v at ex
  cases ex with
  | tup hl =>
    obtain ⟨u, h1, h2⟩ := hl.get hr
    exact ⟨u, by simp [execOp, ho, hv, Instr.extract, h1], h2⟩

theorem fieldS_ok (hT : TOk P T) {t f off ft : Nat} {i : TI} (h : fieldS T t f = some (off, i, ft)) : ∃ Fs fd, P.underlying t = some (.struct Fs) ∧ Fs[f]? = some fd ∧ fd.offset = off ∧ fd.type = ft ∧ TIok P ft i ∧ i.size ≠ 0 := by
  unfold fieldS at h
  split at h
  · rename_i fs hk
    obtain ⟨ti, hti, hik⟩ := kOf_ti (T := T) (t := t) (by rw [hk]; simp)
    obtain ⟨Fs, h1, h2⟩ := (hT t ti hti).struct (hik.trans hk)
    split at h
    · rename_i o' t' hf
      split at h
      · rename_i j hj
        cases hb : Nat.beq j.size 0 with
        | true => rw [hb] at h; simp at h
        | false =>
          rw [hb] at h
          simp only [cond_false, Option.some.injEq, Prod.mk.injEq] at h
          obtain ⟨rfl, rfl, rfl⟩ := h
          rw [← h2, List.getElem?_map, Option.map_eq_some_iff] at hf
          obtain ⟨fd, h3, h4⟩ := hf
          simp only [Prod.mk.injEq] at h4
          refine ⟨Fs, fd, h1, by simpa using h3, h4.1, h4.2, hT _ _ hj, fun e => by rw [e] at hb; simp at hb⟩
      · cases h
    · cases h
  · cases h

theorem y_fieldAddr (hT : TOk P T) {t f off ft : Nat} {i : TI} {x : Operand} (ho : o.op = .fieldAddr t x f) (hf : fieldS T t f = some (off, i, ft)) :
    (∀ cs, look E A x = some (.padr cs) → YldS P o E A hp (.padr (cs.drop off))) ∧ (∀ b d, look E A x = some (.ptr b d) → YldS P o E A hp (.ptr b (d + off))) := by
  obtain ⟨Fs, fd, h1, h2, h3, h4, h5, h6⟩ := fieldS_ok hT hf
  obtain ⟨inf, hi1, hi2, _⟩ := h5.info
  have run : ∀ (w : World) (b d : Nat), (Instr.fieldAt t (.pointer (some ⟨b, d, none⟩)) f).run P w = .ok (.pointer (some ⟨b, d + off, none⟩)) w := by
    intro w b d
    simp [Instr.fieldAt, run_underlying h1, h2, Instr.sureAddr, fieldPlace, sizeOf, typeInfo, h4, hi1, hi2, h6, h3, Addr.add_lit]
  constructor
  · intro cs hx
    refine fun a w F m hs hO => ?_
    have ex := hO.rd (by simp [ho, Op.operands]) hx
    generalize hv : a.eval x = v at ex
    cases ex with
    | padr hr => exact ⟨_, by simp [execOp, ho, hv, run], .padr (hr.drop off)⟩
  · intro b d hx
    refine fun a w F m hs hO => ?_
    have ex := hO.rd (by simp [ho, Op.operands]) hx
    generalize hv : a.eval x = v at ex
    cases ex with
    | ptr hm => exact ⟨_, by simp [execOp, ho, hv, run], .ptr hm⟩

theorem y_field (hT : TOk P T) {t f off ft : Nat} {i : TI} {x : Operand} {v : SV} (ho : o.op = .field t x f) (hf : fieldS T t f = some (off, i, ft)) (hx : look E A x = some v) (hr : partS i off v = some s) : YldS P o E A hp s := by
  obtain ⟨Fs, fd, h1, h2, h3, h4, h5, h6⟩ := fieldS_ok hT hf
  refine fun a w F m hs hO => ?_
  have ex := hO.rd (by simp [ho, Op.operands]) hx
  obtain ⟨vs, u, e, hp, hu⟩ := partS_run (P := P) h5 ex hr
  refine ⟨u, ?_, hu⟩
  subst h4
  simp [execOp, ho, e, Instr.field, run_underlying h1, h2, asAgg, h3, hp]

theorem y_load (hT : TOk P T) {t : Nat} {i : TI} {x : Operand} (ho : o.op = .load t x) (hi : T t = some i) :
    (∀ cs, look E A x = some (.padr cs) → ldP i cs = some s → YldS P o E A hp s) ∧ (∀ b d u cs, look E A x = some (.ptr b d) → hp[b]? = some (.cells u cs) → ldS i (cs.drop d) = some s → YldS P o E A hp s) := by
  have hti := hT t i hi
  constructor
  · intro cs hx hr
    refine fun a w F m hs hO => ?_
    have ex := hO.rd (by simp [ho, Op.operands]) hx
    generalize hv : a.eval x = v at ex
    cases ex with
    | padr hc =>
      obtain ⟨u, h1, h2⟩ := ldP_run (m := m) hti hc hr
      exact ⟨u, by simp [execOp, ho, hv, Instr.loadAt, Instr.sureAddr, h1], h2⟩
  · intro b d u cs hx hb hr
    refine fun a w F m hs hO => ?_
    have ex := hO.rd (by simp [ho, Op.operands]) hx
    generalize hv : a.eval x = v at ex
    cases ex with
    | ptr hm =>
      obtain ⟨b', cur, g1, g2, g3, g4⟩ := hs.ob b u cs hb
      rw [hm] at g1
      simp only [Pl.obj.injEq] at g1
      subst g1
      obtain ⟨u, h1, h2⟩ := ldS_run hti g2 g3 g4 hr
      exact ⟨u, by simp [execOp, ho, hv, Instr.loadAt, Instr.sureAddr, h1], h2⟩

theorem lookL_rd {a : Act} {w : World} {F : Fz} {m : Mp} : ∀ {xs : List Operand} {ss : List SV}, lookL E A xs = some ss → (∀ x ∈ xs, ∀ s, look E A x = some s → RdS w F m (a.eval x) s) → RdSL w F m (xs.map a.eval) ss
  | [], ss, h, _ => by simp only [lookL, Option.some.injEq] at h; subst h; exact .nil
  | x :: xs, ss, h, hO => by
    simp only [lookL] at h
    split at h
    · rename_i s r h1 h2
      simp only [Option.some.injEq] at h
      subst h
      exact .cons (hO x (by simp) s h1) (lookL_rd h2 fun y hy => hO y (by simp [hy]))
    · cases h

theorem y_func {f : Nat} {fs cs : Array Operand} {ss : List SV} (ho : o.op = .makeFunc (.func f) fs cs) (hf : fs.toList = []) (hc : lookL E A cs.toList = some ss) : YldS P o E A hp (.fn f ss) := by
  refine fun a w F m hs hO => ?_
  have hmem : ∀ x ∈ cs.toList, x ∈ o.op.operands := fun x hx => by
    rw [ho]; exact Array.mem_append.2 (.inr (Array.mem_toList_iff.1 hx))
  have hl := lookL_rd (a := a) (w := w) (F := F) (m := m) hc fun x hx s hs => hO.rd (hmem x hx) hs
  have e : fs = #[] := by cases fs; simp at hf; simp [hf]
  refine ⟨.func (.func f) #[] (cs.map a.eval), by simp [execOp, ho, e, Instr.makeFunc], ?_⟩
  have e2 : cs.map a.eval = (cs.toList.map a.eval).toArray := Array.ext' (by rw [Array.toList_map])
  rw [e2]
  exact .fn hl

theorem y_nilCheck {x : Operand} (ho : o.op = .nilCheck x) (hx : (∃ b d, s = .ptr b d) ∨ ∃ cs, s = .padr cs) (hl : look E A x = some s) : YldS P o E A hp s := by
  refine fun a w F m hs hO => ?_
  have ex := hO.rd (by simp [ho, Op.operands]) hl
  generalize hv : a.eval x = v at ex
  have ex' := ex
  rcases hx with ⟨b, d, rfl⟩ | ⟨cs, rfl⟩
  · cases ex' with | ptr hm => exact ⟨_, by simp [execOp, ho, hv], ex⟩
  · cases ex' with | padr hm => exact ⟨_, by simp [execOp, ho, hv], ex⟩

theorem lenV_run (hT : TOk P T) {t ty : Nat} {v : Value} {s : SV} {n : Int} {w : World} {F : Fz} {m : Mp} (hr : RdS w F m v s) (h : lenV T t s = some n) : (Builtin.len_ #[t] ty #[v]).run P w = .ok (.int .i64 n) w := by
  unfold lenV at h
  split at h
  · rename_i e n' τ xs hk
    simp only [Option.some.injEq] at h
    subst h
    obtain ⟨i, hi, hik⟩ := kOf_ti (T := T) (t := t) (by rw [hk]; simp)
    have hu := (hT t i hi).slice (hik.trans hk)
    cases hr with
    | p hp =>
      cases hp with
      | nil n τ => simp [Builtin.len_, run_underlying hu, goInt]
      | emp a n τ => simp [Builtin.len_, run_underlying hu, goInt]
      | sl hn hc hr => simp [Builtin.len_, run_underlying hu, goInt]
  · rename_i e e' n' τ xs j hk
    simp only [Option.some.injEq] at h
    subst h
    obtain ⟨i, hi, hik⟩ := kOf_ti (T := T) (t := t) (by rw [hk]; simp)
    have hu := (hT t i hi).slice (hik.trans hk)
    cases hr <;> simp [Builtin.len_, run_underlying hu, goInt]
  · rename_i e e' xs j hk
    simp only [Option.some.injEq] at h
    subst h
    obtain ⟨i, hi, hik⟩ := kOf_ti (T := T) (t := t) (by rw [hk]; simp)
    have hu := (hT t i hi).slice (hik.trans hk)
    cases hr <;> simp [Builtin.len_, run_underlying hu, goInt]
  · rename_i b hk
    simp only [Option.some.injEq] at h
    subst h
    obtain ⟨i, hi, hik⟩ := kOf_ti (T := T) (t := t) (by rw [hk]; simp)
    have hu := (hT t i hi).string (hik.trans hk)
    have e := rd_s hr
    subst e
    simp [Builtin.len_, run_underlying hu, goInt]
  · rename_i n' e hk
    simp only [Option.some.injEq] at h
    subst h
    obtain ⟨i, hi, hik⟩ := kOf_ti (T := T) (t := t) (by rw [hk]; simp)
    have hu := (hT t i hi).array (hik.trans hk)
    simp [Builtin.len_, run_underlying hu, goInt]
  · cases h

theorem y_call (hT : TOk P T) {c : Call} {b : Builtin} {ss : List SV} (ho : o.op = .call c) (hc : c.callee = .builtin b) (hl : lookL E A c.args.toList = some ss) (hr : callV T b c.argTypes.toList ss = some s) : YldS P o E A hp s := by
  refine fun a w F m hs hO => ?_
  have hmem : ∀ x ∈ c.args.toList, x ∈ o.op.operands := fun x hx => by
    rw [ho]; exact Array.mem_append.2 (.inr (Array.mem_toList_iff.1 hx))
  have hl := lookL_rd (a := a) (w := w) (F := F) (m := m) hl fun x hx s hs => hO.rd (hmem x hx) hs
  have e2 : c.args.map a.eval = (c.args.toList.map a.eval).toArray := Array.ext' (by rw [Array.toList_map])
  generalize c.args.toList.map a.eval = vs at hl e2
  unfold callV at hr
  split at hr
  · rename_i t s' hts _
    split at hr
    · rename_i n hn
      simp only [Option.some.injEq] at hr
      subst hr
      cases hl with
      | cons hv hl =>
        cases hl
        rename_i v
        have hat : c.argTypes = #[t] := by cases hca : c.argTypes; simp [hca] at hts; simp [hts]
        have := lenV_run (ty := o.type) hT hv hn
        refine ⟨_, ?_, .p (.s _)⟩
        simp [execOp, ho, resolve, hc, invoke, builtin, e2, hat, this]
    · cases hr
  · rename_i k x k' y _
    simp only [Option.some.injEq] at hr
    subst hr
    cases hl with
    | cons hv hl =>
      cases hl with
      | cons hu hl =>
        cases hl
        have e3 := rd_s hv
        have e4 := rd_s hu
        subst e3 e4
        refine ⟨_, ?_, .p (.s _)⟩
        simp only [execOp, ho, resolve, hc, invoke, builtin, e2, Sem.run_bind, Sem.run_pure, Result.andThen_ok, run_max_int2]
  · rename_i k x k' y _
    simp only [Option.some.injEq] at hr
    subst hr
    cases hl with
    | cons hv hl =>
      cases hl with
      | cons hu hl =>
        cases hl
        have e3 := rd_s hv
        have e4 := rd_s hu
        subst e3 e4
        refine ⟨_, ?_, .p (.s _)⟩
        simp only [execOp, ho, resolve, hc, invoke, builtin, e2, Sem.run_bind, Sem.run_pure, Result.andThen_ok, run_min_int2]
  · cases hr
end
end Go.Proofs.YtmjkflppajienaaDoor.R
