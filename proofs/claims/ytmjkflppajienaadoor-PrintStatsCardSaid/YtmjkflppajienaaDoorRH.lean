/- Operations that may panic, where they don't; calls; what a function answers; no condition but the typed premises. -/
import Derived.Test.YtmjkflppajienaaDoorRG
import Derived.Laws.Shifts
namespace Go.Proofs.YtmjkflppajienaaDoor.R
open Go Go.RowKit
set_option linter.unusedVariables false
set_option linter.unusedSimpArgs false
variable {bs : Nat → Nat}

/-- The byte of a text at a place. -/
def bt (s : ByteArray) (i : Int) : Int := ((s.data.toList.getD i.toNat 0).toNat : Int)

theorem flat_drop {n : Nat} : ∀ {xs : List PV} {i : Nat} {q : PV}, (∀ x ∈ xs, x.cells.length = n) → xs[i]? = some q → ∃ rest, (xs.flatMap PV.cells).drop (i * n) = q.cells ++ rest
  | [], i, q, hn, h => by simp at h
  | x :: xs, 0, q, hn, h => by simp at h; subst h; exact ⟨xs.flatMap PV.cells, by simp⟩
  | x :: xs, i + 1, q, hn, h => by
    simp at h
    obtain ⟨rest, hr⟩ := flat_drop (n := n) (fun y hy => hn y (by simp [hy])) h
    refine ⟨rest, ?_⟩
    have hx := hn x (by simp)
    rw [List.flatMap_cons, Nat.succ_mul, Nat.add_comm, ← List.drop_drop, ← hx, List.drop_left, hx]
    exact hr

theorem RdC.elem {w : World} {F : Fz} {b off n : Nat} {xs : List PV} (hn : ∀ x ∈ xs, x.cells.length = n) (h : RdC w F b off (xs.flatMap PV.cells)) {i : Nat} {q : PV} (hi : xs[i]? = some q) : RdC w F b (off + i * n) q.cells := by
  obtain ⟨rest, hr⟩ := flat_drop hn hi
  have h1 := h.drop (i * n)
  rw [hr] at h1
  have h2 := h1.take q.cells.length
  simpa using h2

theorem flat_take {n : Nat} : ∀ {xs : List PV} {i : Nat}, (∀ x ∈ xs, x.cells.length = n) → i ≤ xs.length → (xs.take i).flatMap PV.cells = (xs.flatMap PV.cells).take (i * n)
  | xs, 0, hn, h => by simp
  | [], i + 1, hn, h => by simp at h
  | x :: xs, i + 1, hn, h => by
    have hx := hn x (by simp)
    rw [List.take_succ_cons, List.flatMap_cons, List.flatMap_cons, flat_take (n := n) (fun y hy => hn y (by simp [hy])) (by simpa using h), Nat.succ_mul, Nat.add_comm (i * n), List.take_append, hx, List.take_of_length_le (l := x.cells) (by omega), Nat.add_sub_cancel_left]
theorem flat_dropn {n : Nat} : ∀ {xs : List PV} {i : Nat}, (∀ x ∈ xs, x.cells.length = n) → (xs.drop i).flatMap PV.cells = (xs.flatMap PV.cells).drop (i * n)
  | xs, 0, hn => by simp
  | [], i + 1, hn => by simp
  | x :: xs, i + 1, hn => by
    have hx := hn x (by simp)
    rw [List.drop_succ_cons, List.flatMap_cons, flat_dropn (n := n) (fun y hy => hn y (by simp [hy])), Nat.succ_mul, Nat.add_comm (i * n), ← List.drop_drop, ← hx, List.drop_left, hx]

section
variable {P : Program} {T : Tab} {E : Env} {A : Tg} {hp : List Ob} {o : Oper} {s : SV}

/-- The address of an element. -/
theorem y_index (hT : TOk P T) {t e n : Nat} {x ix : Operand} {sx : SV} {τ : Ty} {xs : List τ.den} {k : IntKind} {i : Int} {ei : TI} (ho : o.op = .indexAddr t x ix) (hk : kOf T t = .sl e) (he : T e = some ei) (hn : ei.size = n)
    (hx : look E A x = some sx) (hq : pur sx = some (.sl n τ xs)) (hi : look E A ix = some (.p (.s (.int k i)))) (h0 : 0 ≤ i) {q : τ.den} (h1 : xs[i.toNat]? = some q) : YldS P o E A hp (.padr (τ.enc q).cells) := by
  subst hn
  refine fun a w F m hs hO => ?_
  have ex := pur_rd hq (hO.rd (by simp [ho, Op.operands]) hx)
  have ei' := rd_s (hO.rd (by simp [ho, Op.operands]) hi)
  obtain ⟨ti, hti, htk⟩ := kOf_ti (T := T) (t := t) (by rw [hk]; simp)
  have hu := (hT t ti hti).slice (htk.trans hk)
  obtain ⟨inf, hi1, hi2, _⟩ := (hT e ei he).info
  generalize hv : a.eval x = v at ex
  have hlt := (List.getElem?_eq_some_iff.1 h1).1
  cases ex with
  | nil => simp at hlt
  | emp => simp at hlt
  | sl hn hc hr =>
    refine ⟨_, ?_, .padr (hr.elem hn (by rw [List.getElem?_map, h1]; rfl))⟩
    have hlt' : i < (xs.length : Int) := by omega
    simp [execOp, ho, hv, ei', Instr.indexAt, asIntOf, run_underlying hu, h0, hlt', sizeOf, typeInfo, hi1, hi2, Addr.add_lit]

/-- An element of an array that lies frozen. -/
theorem y_indexArr (hT : TOk P T) {t e n : Nat} {x ix : Operand} {cs : List PV} {k : IntKind} {i : Int} {ei : TI} (ho : o.op = .indexAddr t x ix) (hk : kOf T t = .ar n e) (he : T e = some ei)
    (hi : look E A ix = some (.p (.s (.int k i)))) (h0 : 0 ≤ i) (h1 : i < n) :
    (∀ cs, look E A x = some (.padr cs) → Yld P o E A hp (.padr (cs.drop (i.toNat * ei.size)))) ∧ (∀ b d, look E A x = some (.ptr b d) → Yld P o E A hp (.ptr b (d + i.toNat * ei.size))) := by
  obtain ⟨ti, hti, htk⟩ := kOf_ti (T := T) (t := t) (by rw [hk]; simp)
  have hu := (hT t ti hti).array (htk.trans hk)
  obtain ⟨inf, hi1, hi2, _⟩ := (hT e ei he).info
  have run : ∀ (w : World) (b d : Nat), (Instr.indexAt t (.pointer (some ⟨b, d, none⟩)) (.int k i)).run P w = .ok (.pointer (some ⟨b, d + i.toNat * ei.size, none⟩)) w := by
    intro w b d
    simp [Instr.indexAt, asIntOf, run_underlying hu, Instr.sureAddr, h0, h1, sizeOf, typeInfo, hi1, hi2, Addr.add_lit]
  constructor
  · intro cs hx
    refine .of_still fun a w F m hs hO => ?_
    have ex := hO.rd (by simp [ho, Op.operands]) hx
    have ei' := rd_s (hO.rd (by simp [ho, Op.operands]) hi)
    generalize hv : a.eval x = v at ex
    cases ex with
    | padr hr => exact ⟨_, by simp [execOp, ho, hv, ei', run], .padr (hr.drop _)⟩
  · intro b d hx
    refine .of_still fun a w F m hs hO => ?_
    have ex := hO.rd (by simp [ho, Op.operands]) hx
    have ei' := rd_s (hO.rd (by simp [ho, Op.operands]) hi)
    generalize hv : a.eval x = v at ex
    cases ex with
    | ptr hm => exact ⟨_, by simp [execOp, ho, hv, ei', run], .ptr hm⟩

/-- A byte of a text. -/
theorem y_byte (hT : TOk P T) {t : Nat} {x ix : Operand} {b : ByteArray} {k : IntKind} {i : Int} (ho : o.op = .index t x ix) (hk : kOf T t = .str)
    (hx : look E A x = some (.p (.s (.string b)))) (hi : look E A ix = some (.p (.s (.int k i)))) (h0 : 0 ≤ i) (h1 : i < (b.size : Int)) : Yld P o E A hp (.p (.s (.int .u8 (bt b i)))) := by
  refine .of_still fun a w F m hs hO => ?_
  have ex := rd_s (hO.rd (by simp [ho, Op.operands]) hx)
  have ei' := rd_s (hO.rd (by simp [ho, Op.operands]) hi)
  obtain ⟨ti, hti, htk⟩ := kOf_ti (T := T) (t := t) (by rw [hk]; simp)
  have hu := (hT t ti hti).string (htk.trans hk)
  refine ⟨_, ?_, .p (.s _)⟩
  have hlt : i.toNat < b.size := by omega
  have e1 : b[i.toNat]? = some b[i.toNat] := ByteArray.getElem?_lt' b _ hlt
  have e2 : bt b i = (b[i.toNat].toNat : Int) := by
    unfold bt
    have : b.data.toList[i.toNat]? = some b[i.toNat] := by
      rw [List.getElem?_eq_getElem (by simpa using hlt)]; rfl
    simp [List.getD, this]
  simp [execOp, ho, ex, ei', Instr.index, asIntOf, run_underlying hu, h0, e1, e2]

/-- A bound of a piece: left out, or told. -/
def Bd (E : Env) (A : Tg) (d : Int) (y : Option Operand) (l : Int) : Prop := match y with
  | none => l = d
  | some y => ∃ k, look E A y = some (.p (.s (.int k l)))

/-- A piece of a text. -/
theorem y_substr (hT : TOk P T) {t : Nat} {x : Operand} {lo hi : Option Operand} {b : ByteArray} {l h : Int} (ho : o.op = .slice t x lo hi none) (hk : kOf T t = .str) (hx : look E A x = some (.p (.s (.string b))))
    (hl : Bd E A 0 lo l) (hh : Bd E A b.size hi h)
    (h0 : 0 ≤ l) (h1 : l ≤ h) (h2 : h ≤ (b.size : Int)) : Yld P o E A hp (.p (.s (.string (b.extract l.toNat h.toNat)))) := by
  refine .of_still fun a w F m hs hO => ?_
  have ex := rd_s (hO.rd (by simp [ho, Op.operands]) hx)
  obtain ⟨ti, hti, htk⟩ := kOf_ti (T := T) (t := t) (by rw [hk]; simp)
  have hu := (hT t ti hti).string (htk.trans hk)
  refine ⟨_, ?_, .p (.s _)⟩
  have g0 : 0 ≤ h := by omega
  have g1 : l ≤ ((h.toNat : Nat) : Int) := by omega
  have g2 : h ≤ (b.size : Int) := h2
  have g3 : l ≤ (b.size : Int) := by omega
  have g4 : l.toNat ≤ h.toNat := by omega
  have g5 : ¬ max h 0 < l := by omega
  cases lo with
  | none =>
    obtain rfl : l = 0 := hl
    cases hi with
    | none => obtain rfl : h = (b.size : Int) := hh; simp [execOp, ho, ex, Instr.sliceAt, Instr.slice, Instr.sliceBounds, run_underlying hu]
    | some y =>
      obtain ⟨k, hy⟩ := hh
      have ey := rd_s (hO.rd (by simp [ho, Op.operands]) hy)
      simp [execOp, ho, ex, ey, Instr.sliceAt, Instr.slice, Instr.sliceBounds, Instr.sliceBound, asIntOf, run_underlying hu, g0, g2]
  | some z =>
    obtain ⟨k', hz⟩ := hl
    have ez := rd_s (hO.rd (by simp [ho, Op.operands]) hz)
    cases hi with
    | none => obtain rfl : h = (b.size : Int) := hh; simp [execOp, ho, ex, ez, Instr.sliceAt, Instr.slice, Instr.sliceBounds, Instr.sliceBound, asIntOf, run_underlying hu, h0, g3]
    | some y =>
      obtain ⟨k, hy⟩ := hh
      have ey := rd_s (hO.rd (by simp [ho, Op.operands]) hy)
      simp [execOp, ho, ex, ey, ez, Instr.sliceAt, Instr.slice, Instr.sliceBounds, Instr.sliceBound, asIntOf, run_underlying hu, h0, g0, g1, g2, g5]

theorem rd_cut {w : World} {F : Fz} {b off n cap l h : Nat} {τ : Ty} {xs : List τ.den} (hn : ∀ x ∈ xs.map τ.enc, x.cells.length = n) (hc : xs.length ≤ cap) (hr : RdC w F b off ((xs.map τ.enc).flatMap PV.cells)) (hl : l ≤ h) (hh : h ≤ xs.length) (c : Nat) (hcc : h - l ≤ c) :
    ∀ off', (off' = off + l * n ∨ h = l) → Rd w F (.slice (some ⟨b, off', none⟩) (h - l) c) (.sl n τ ((xs.take h).drop l)) := by
  intro off' ho
  have hlen : ((xs.take h).drop l).length = h - l := by simp; omega
  have hmap : ((xs.take h).drop l).map τ.enc = ((xs.map τ.enc).take h).drop l := by rw [List.map_drop, List.map_take]
  have hn' : ∀ x ∈ ((xs.take h).drop l).map τ.enc, x.cells.length = n := fun x hx => hn x (by rw [hmap] at hx; exact List.mem_of_mem_take (List.mem_of_mem_drop hx))
  rw [← hlen]
  refine .sl hn' (by omega) ?_
  rw [hmap]
  rcases ho with rfl | rfl
  · rw [flat_dropn (n := n) (fun x hx => hn x (List.mem_of_mem_take hx)), flat_take hn (by simpa using hh)]
    exact (hr.take (h * n)).drop (l * n)
  · have : (((xs.map τ.enc).take h).drop h) = [] := by simp
    rw [this]
    exact .nil b off'

/-- A piece of a slice. -/
theorem y_cut (hT : TOk P T) {t e n : Nat} {x : Operand} {lo hi : Option Operand} {sx : SV} {τ : Ty} {xs : List τ.den} {ei : TI} {l h : Int} (ho : o.op = .slice t x lo hi none) (hk : kOf T t = .sl e) (he : T e = some ei) (hn : ei.size = n)
    (hx : look E A x = some sx) (hq : pur sx = some (.sl n τ xs))
    (hl : Bd E A 0 lo l) (hh : Bd E A xs.length hi h)
    (h0 : 0 ≤ l) (h1 : l ≤ h) (h2 : h ≤ (xs.length : Int)) : Yld P o E A hp (.p (.sl n τ ((xs.take h.toNat).drop l.toNat))) := by
  subst hn
  refine .of_still fun a w F m hs hO => ?_
  have ex := pur_rd hq (hO.rd (by simp [ho, Op.operands]) hx)
  obtain ⟨ti, hti, htk⟩ := kOf_ti (T := T) (t := t) (by rw [hk]; simp)
  have hu := (hT t ti hti).slice (htk.trans hk)
  obtain ⟨inf, hi1, hi2, _⟩ := (hT e ei he).info
  generalize hv : a.eval x = v at ex
  -- what the machine does, whatever the address
  have run : ∀ (ad : Option Addr) (cap : Nat), xs.length ≤ cap → (Instr.sliceAt t (.slice ad xs.length cap) (lo.map a.eval) (hi.map a.eval) none).run P w =
      .ok (.slice (if cap = l.toNat then ad else ad.map (·.add (l.toNat * ei.size))) (h.toNat - l.toNat) (cap - l.toNat)) w := by
    intro ad cap hc
    have g0 : 0 ≤ h := by omega
    have g1 : l ≤ ((h.toNat : Nat) : Int) := by omega
    have g2 : h ≤ (cap : Int) := by omega
    have g3 : l ≤ (xs.length : Int) := by omega
    have g5 : ¬ max h 0 < l := by omega
    cases lo with
    | none =>
      obtain rfl : l = 0 := hl
      cases hi with
      | none => obtain rfl : h = (xs.length : Int) := hh; simp [Instr.sliceAt, Instr.slice, Instr.sliceBounds, run_underlying hu, sizeOf, typeInfo, hi1, hi2]
      | some y =>
        obtain ⟨k, hy⟩ := hh
        have ey := rd_s (hO.rd (by simp [ho, Op.operands]) hy)
        simp [ey, Instr.sliceAt, Instr.slice, Instr.sliceBounds, Instr.sliceBound, asIntOf, run_underlying hu, g0, g2, sizeOf, typeInfo, hi1, hi2]
    | some z =>
      obtain ⟨k', hz⟩ := hl
      have ez := rd_s (hO.rd (by simp [ho, Op.operands]) hz)
      cases hi with
      | none => obtain rfl : h = (xs.length : Int) := hh; simp [ez, Instr.sliceAt, Instr.slice, Instr.sliceBounds, Instr.sliceBound, asIntOf, run_underlying hu, h0, g3, sizeOf, typeInfo, hi1, hi2]
      | some y =>
        obtain ⟨k, hy⟩ := hh
        have ey := rd_s (hO.rd (by simp [ho, Op.operands]) hy)
        simp [ey, ez, Instr.sliceAt, Instr.slice, Instr.sliceBounds, Instr.sliceBound, asIntOf, run_underlying hu, h0, g0, g1, g2, g5, sizeOf, typeInfo, hi1, hi2]
  cases ex with
  | nil nn =>
    have r := run none 0 (by simp)
    have e1 : l.toNat = 0 := by simp at h2; omega
    have e2 : h.toNat = 0 := by simp at h2; omega
    rw [e1, e2] at r
    simp at r
    refine ⟨.slice none 0 0, by simp [execOp, ho, hv, r], ?_⟩
    rw [e1, e2]
    exact .p (.nil _ _)
  | emp ad nn =>
    have r := run (some ad) 0 (by simp)
    have e1 : l.toNat = 0 := by simp at h2; omega
    have e2 : h.toNat = 0 := by simp at h2; omega
    rw [e1, e2] at r
    simp at r
    refine ⟨.slice (some ad) 0 0, by simp [execOp, ho, hv, r], ?_⟩
    rw [e1, e2]
    exact .p (.emp _ _ _)
  | @sl b off cap _ _ _ hn hc hr =>
    have r := run (some ⟨b, off, none⟩) cap hc
    refine ⟨_, by simp only [execOp, ho, hv, Sem.run_bind, Option.map_none]; rw [r]; rfl, .p ?_⟩
    have hcut := rd_cut hn hc hr (l := l.toNat) (h := h.toNat) (by omega) (by omega) (cap - l.toNat) (by omega)
    by_cases hm : cap = l.toNat
    · rw [if_pos hm]; exact hcut off (.inr (by omega))
    · rw [if_neg hm]; simp only [Option.map_some, Addr.add_lit]; exact hcut _ (.inl rfl)

/-- The sum of two texts. -/
theorem y_concat {xt yt : Nat} {x y : Operand} {b c : ByteArray} (ho : o.op = .binOp .add xt x y yt) (hx : look E A x = some (.p (.s (.string b)))) (hy : look E A y = some (.p (.s (.string c))))
    (hle : b.size + c.size ≤ 9223372036854775807) : Yld P o E A hp (.p (.s (.string (b ++ c)))) := by
  refine .of_still fun a w F m hs hO => ?_
  have ex := rd_s (hO.rd (by simp [ho, Op.operands]) hx)
  have ey := rd_s (hO.rd (by simp [ho, Op.operands]) hy)
  refine ⟨_, ?_, .p (.s _)⟩
  simp [execOp, ho, ex, ey, eqGuard, binOp, run_string_add_sum w b c hle]

/-- A shift. -/
theorem y_shift {op : BinOp} {xt yt : Nat} {x y : Operand} {k k' : IntKind} {u v : Int} (ho : o.op = .binOp op xt x y yt) (hx : look E A x = some (.p (.s (.int k u)))) (hy : look E A y = some (.p (.s (.int k' v)))) (h0 : 0 ≤ v) :
    (op = .shl → Yld P o E A hp (.p (.s (.int k (k.wrap (u * 2 ^ (min v.toNat k.bits))))))) ∧ (op = .shr → Yld P o E A hp (.p (.s (.int k (u.fdiv (2 ^ (min v.toNat k.bits))))))) := by
  have hn : ¬ v < 0 := by omega
  constructor
  · rintro rfl
    refine .of_still fun a w F m hs hO => ?_
    have ex := rd_s (hO.rd (by simp [ho, Op.operands]) hx)
    have ey := rd_s (hO.rd (by simp [ho, Op.operands]) hy)
    exact ⟨_, by simp [execOp, ho, ex, ey, eqGuard, binOp, Op.shift, hn], .p (.s _)⟩
  · rintro rfl
    refine .of_still fun a w F m hs hO => ?_
    have ex := rd_s (hO.rd (by simp [ho, Op.operands]) hx)
    have ey := rd_s (hO.rd (by simp [ho, Op.operands]) hy)
    exact ⟨_, by simp [execOp, ho, ex, ey, eqGuard, binOp, Op.shift, hn], .p (.s _)⟩
end

/-! ### Functions -/
/-- A function that, from these arguments and these things of its caller's, answers as R says. -/
def PC (P : Program) (f : Nat) (args : List SV) (h : List Ob) (R : SV → List Ob → Prop) : Prop :=
  ∀ (bs : Nat → Nat) vs w F m, RdSL w F m vs args → Sim bs w F m h → Calls P f vs.toArray w (fun e w' => ∃ v s h' F' m', e = .returned v ∧ R s h' ∧ RdS w' F' m' v s ∧ Sim bs w' F' m' h' ∧ Gr w F m w' F' m')
/-- A function of pure data. -/
def PF (P : Program) (f : Nat) (args : List SV) (s : SV) : Prop := PC P f args [] fun s' h' => s' = s ∧ h' = []

mutual
theorem RdS.move {w : World} {F : Fz} {m m' : Mp} {v : Value} : ∀ {s : SV}, s.ids = [] → RdS w F m v s → RdS w F m' v s
  | s, hi, h => h.keep (Ext.refl w F) (by rw [hi]; simp)
end
theorem RdSL.move {w : World} {F : Fz} {m m' : Mp} {vs : List Value} {ss : List SV} (hi : SV.idsL ss = []) (h : RdSL w F m vs ss) : RdSL w F m' vs ss := h.keep (Ext.refl w F) (by rw [hi]; simp)

/-- An argument told by its type, its spare cells forgotten. -/
def argS (t : Option TI) : SV → SV
  | .p (.s (.slice none 0 0)) => .p (.s (.slice none 0 0))
  | s => match pur s with
    | some q => .p (coP t q)
    | none => s
def argsS (T : Tab) : List Nat → List SV → List SV
  | t :: ts, s :: ss => argS (T t) s :: argsS T ts ss
  | _, ss => ss
theorem argS_rd {w : World} {F : Fz} {m : Mp} {v : Value} {t : Option TI} {s : SV} (h : RdS w F m v s) : RdS w F m v (argS t s) := by
  unfold argS
  split
  · exact h
  · split
    · rename_i q hq; exact .p (coP_rd (pur_rd hq h))
    · exact h
theorem argsS_rd {w : World} {F : Fz} {m : Mp} {T : Tab} : ∀ {ts : List Nat} {vs : List Value} {ss : List SV}, RdSL w F m vs ss → RdSL w F m vs (argsS T ts ss)
  | [], vs, ss, h => by cases ss <;> simpa [argsS] using h
  | t :: ts, _, _, .nil => .nil
  | t :: ts, _, _, .cons h hs => .cons (argS_rd h) (argsS_rd hs)

/-- What a call is asked: the function, told outright or held, and what it has captured. -/
def calS (E : Env) (A : Tg) (x : Operand) : Option (Nat × List SV) := match look E A x with
  | some (.fn f cs) => some (f, cs)
  | _ => none

section
variable {P : Program} {T : Tab} {E : Env} {A : Tg} {hp : List Ob} {o : Oper} {s : SV}

/-- A call of a function that has a body: the machine goes into it. -/
theorem call_run {c : Call} {x : Operand} {f : Nat} {caps ss : List SV} {fn : Func} {body : Code} (ho : o.op = .call c) (hc : c.callee = .value x) (hx : calS E A x = some (f, caps)) (hl : lookL E A c.args.toList = some ss)
    (hf : P.funcs[f]? = some fn) (hb : fn.body = some body) (hnm : (fn.name == "runtime.NumGoroutine") = false) {a : Act} {w : World} {F : Fz} {m : Mp} (hO : Opd E A o a w F m) :
    ∃ vs : List Value, (execOp a.eval o).run P w = .ok (.enter f vs.toArray) w ∧ RdSL w F m vs (ss ++ caps) := by
  have hmem : ∀ x ∈ c.args.toList, x ∈ o.op.operands := fun x hx => by
    rw [ho]; exact Array.mem_append.2 (.inr (Array.mem_toList_iff.1 hx))
  have hl := lookL_rd (a := a) (w := w) (F := F) (m := m) hl fun x hx s hs => hO.rd (hmem x hx) hs
  have e2 : c.args.map a.eval = (c.args.toList.map a.eval).toArray := Array.ext' (by rw [Array.toList_map])
  unfold calS at hx
  split at hx
  · rename_i f' cs hlk
    simp only [Option.some.injEq, Prod.mk.injEq] at hx
    obtain ⟨rfl, rfl⟩ := hx
    have ex := hO.rd (x := x) (by rw [ho]; simp [Op.operands, Call.operands, hc]) hlk
    generalize hv : a.eval x = v at ex
    cases ex with
    | @fn _ cvs _ hcs =>
      refine ⟨c.args.toList.map a.eval ++ cvs, ?_, hl.append hcs⟩
      have hnm' : ¬ fn.name = "runtime.NumGoroutine" := by simpa using hnm
      simp [execOp, ho, resolve, hc, hv, Deferred.ofValue, invoke, callFunc, hf, hb, hnm', e2]
  · cases hx

theorem y_pcall {c : Call} {x : Operand} {f : Nat} {caps ss args : List SV} {fn : Func} {body : Code} (ho : o.op = .call c) (hc : c.callee = .value x) (hx : calS E A x = some (f, caps)) (hl : lookL E A c.args.toList = some ss)
    (hf : P.funcs[f]? = some fn) (hb : fn.body = some body) (hnm : (fn.name == "runtime.NumGoroutine") = false) (ha : argsS T c.argTypes.toList (ss ++ caps) = args) (hi : SV.idsL args = []) (hs : s.ids = [])
    (hF : PF P f args s) : Yld P o E A hp s := by
  intro a w F m hsim hO K Q hK
  obtain ⟨vs, h1, h2⟩ := call_run ho hc hx hl hf hb hnm hO
  have h3 : RdSL w F (fun _ => .free) vs args := RdSL.move hi (ha ▸ argsS_rd h2)
  have h4 : Sim (fun _ => 0) w F (fun _ => .free) [] := ⟨hsim.fl, fun i b h => by simp [Pl.blk] at h, fun i b o _ h => h.elim, fun i k b h => by simp [Pl.blk] at h, fun _ _ => rfl, fun i o h => by simp at h, fun i h => by simp at h, fun k i h => by simp at h, hsim.kn⟩
  unfold Oper.wp
  rw [h1]
  refine (hF _ vs w F _ h3 h4).mono fun e w' ⟨v, s', h', F', m', he, ⟨hs', hh'⟩, hr, hsim', hg⟩ => ?_
  subst he hs' hh'
  refine hK v w' F' (RdS.move hs hr) ⟨hg.os, hg.tape, hg.output, hg.size, fun b o h => (hg.ext b o h).1, fun b hb => hg.block b hb fun i => by simp [Pl.blk], fun b o h => ?_⟩
  rcases hg.fl b o h with h5 | h5 | ⟨k, h5⟩
  · exact .inl h5
  · exact .inr ⟨h5, hsim'.fl b o h⟩
  · exact h5.elim
end
end Go.Proofs.YtmjkflppajienaaDoor.R
