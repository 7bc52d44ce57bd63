/- A region that draws the order of its operations: a walk in their own order serves every order; no condition but the typed premises. -/
import Derived.Test.YtmjkflppajienaaDoorRL
namespace Go.Proofs.YtmjkflppajienaaDoor.R
open Go Go.RowKit
set_option linter.unusedVariables false
set_option linter.unusedSimpArgs false
variable {bs : Nat → Nat}

/-- Is operation i among those that this one waits for? -/
def waits (o : Oper) (i : Nat) : Bool := o.after.toList.any fun e => Region.binds .any e && Nat.beq e.on i
/-- May the operations from 0 to n come in any order that their edges allow? -/
def pairOk (ops : Array Oper) (j : Nat) (oj : Oper) (i : Nat) (oi : Oper) : Bool := match oi.dst with
  | none => true
  | some d => (match oj.dst with | some d' => !Nat.beq d d' | none => true) && (bif (oj.looksAt ops).any (Nat.beq d) then Nat.blt i j && waits oj i else true)
def guardOk (j : Nat) (o : Oper) : Bool := match o.guard with
  | none => true
  | some (g, _) => Nat.blt g j && waits o g
def anyOk (ops : Array Oper) (n : Nat) : Bool :=
  (List.range n).all fun j => match ops[j]? with
    | none => false
    | some oj => guardOk j oj && (List.range n).all fun i => match ops[i]? with
      | none => false
      | some oi => Nat.beq i j || pairOk ops j oj i oi
def fwdOk (ops : Array Oper) : Bool := (List.range ops.size).all fun j => match ops[j]? with
  | none => false
  | some o => o.after.toList.all fun e => !Region.binds .any e || Nat.blt e.on j
/-- What comes behind number n comes last, one by one. -/
def tailOk (ops : Array Oper) (n : Nat) : Bool := (List.range (ops.size - n)).all fun t => match ops[n + t]? with
  | none => false
  | some o => bif Nat.beq t 0 then (List.range n).all fun i => waits o i || (List.range n).any fun j => Nat.blt i j && (match ops[j]? with | some oj => waits oj i | none => false) else waits o (n + t - 1)
def plainE : Env → Bool
  | [] => true
  | (_, tg, _) :: E => (match tg with | [] => true | _ => false) && plainE E
theorem plainE_get : ∀ {E : Env} {t : Nat} {tg : Tg} {s : SV}, plainE E = true → E.get t = some (tg, s) → tg = []
  | [], t, tg, s, _, h => by simp [Env.get] at h
  | (u, tg', s') :: E, t, tg, s, hp, h => by
    simp only [plainE, Bool.and_eq_true] at hp
    simp only [Env.get] at h
    cases hb : Nat.beq u t with
    | true =>
      rw [hb] at h
      simp only [cond_true, Option.some.injEq, Prod.mk.injEq] at h
      obtain ⟨rfl, rfl⟩ := h
      cases tg' with
      | nil => rfl
      | cons x l => simp at hp
    | false => rw [hb] at h; exact plainE_get hp.2 h

theorem waits_spec {o : Oper} {i : Nat} (h : waits o i = true) : ∃ e ∈ o.after, Region.binds .any e = true ∧ e.on = i := by
  unfold waits at h
  obtain ⟨e, he, h2⟩ := List.any_eq_true.1 h
  simp only [Bool.and_eq_true] at h2
  exact ⟨e, Array.mem_toList_iff.1 he, h2.1, Nat.eq_of_beq_eq_true h2.2⟩

section
variable {P : Program} {T : Tab} {nt : Nat} {ops : Array Oper} {h : List Ob} {E E1 : Env} {n : Nat}

/-- What a row of operations yields, by number. -/
structure Its (P : Program) (nt : Nat) (ops : Array Oper) (h : List Ob) (n : Nat) (E E1 : Env) (Es : Nat → Env) (it : Nat → Tg × SV) : Prop where
  first : Es 0 = E
  last : Es n = E1
  op : ∀ k, k < n → ∃ o, ops[k]? = some o ∧ Es (k + 1) = (Es k).putO o.dst (it k).1 (it k).2 ∧ dstOk nt (Es k) (it k).1 o.dst = true ∧ Yld P o (Es k) (it k).1 h (it k).2 ∧
    ((o.guard = none ∧ (it k).1 = []) ∨ ∃ j u b tg su, o.guard = some (j, b) ∧ (ops[j]?).bind (·.dst) = some u ∧ (Es k).get u = some (tg, su) ∧ (it k).1 = (u, b) :: tg)

theorem Head.its {i : Nat} (hd : Head P nt ops h i n E E1) : ∃ (Es : Nat → Env) (it : Nat → Tg × SV), Es i = E ∧ Es n = E1 ∧ ∀ k, i ≤ k → k < n → ∃ o, ops[k]? = some o ∧ Es (k + 1) = (Es k).putO o.dst (it k).1 (it k).2 ∧ dstOk nt (Es k) (it k).1 o.dst = true ∧ Yld P o (Es k) (it k).1 h (it k).2 ∧
    ((o.guard = none ∧ (it k).1 = []) ∨ ∃ j u b tg su, o.guard = some (j, b) ∧ (ops[j]?).bind (·.dst) = some u ∧ (Es k).get u = some (tg, su) ∧ (it k).1 = (u, b) :: tg) := by
  induction hd with
  | nil n E => exact ⟨fun _ => E, fun _ => ([], .tup []), rfl, rfl, fun k h1 h2 => by omega⟩
  | @plain i n E E' o s ho hg hd hy hr ih =>
    obtain ⟨Es, it, h1, h2, h3⟩ := ih
    have hle := hr.le
    refine ⟨fun k => if k = i then E else Es k, fun k => if k = i then ([], s) else it k, by simp, by simp [show n ≠ i by omega, h2], fun k hk hkn => ?_⟩
    by_cases hki : k = i
    · subst hki
      exact ⟨o, ho, by simp [h1], by simpa using hd, by simpa using hy, .inl ⟨hg, by simp⟩⟩
    · obtain ⟨o', g1, g2, g3, g4, g5⟩ := h3 k (by omega) hkn
      exact ⟨o', g1, by simp [hki, show k + 1 ≠ i by omega, g2], by simpa [hki] using g3, by simpa [hki] using g4, by simpa [hki] using g5⟩
  | @guarded i n E E' o s j u b tg su ho hg hj hu hd hy hr ih =>
    obtain ⟨Es, it, h1, h2, h3⟩ := ih
    have hle := hr.le
    refine ⟨fun k => if k = i then E else Es k, fun k => if k = i then ((u, b) :: tg, s) else it k, by simp, by simp [show n ≠ i by omega, h2], fun k hk hkn => ?_⟩
    by_cases hki : k = i
    · subst hki
      exact ⟨o, ho, by simp [h1], by simpa using hd, by simpa using hy, .inr ⟨j, u, b, tg, su, hg, hj, by simpa using hu, by simp⟩⟩
    · obtain ⟨o', g1, g2, g3, g4, g5⟩ := h3 k (by omega) hkn
      exact ⟨o', g1, by simp [hki, show k + 1 ≠ i by omega, g2], by simpa [hki] using g3, by simpa [hki] using g4, by simpa [hki] using g5⟩

theorem Head.its0 (hd : Head P nt ops h 0 n E E1) : ∃ Es it, Its P nt ops h n E E1 Es it := by
  obtain ⟨Es, it, h1, h2, h3⟩ := hd.its
  exact ⟨Es, it, h1, h2, fun k hk => h3 k (Nat.zero_le _) hk⟩

variable {Es : Nat → Env} {it : Nat → Tg × SV}

theorem Its.dst_ne (I : Its P nt ops h n E E1 Es it) (ha : anyOk ops n = true) {i j : Nat} (hi : i < n) (hj : j < n) (hij : i ≠ j) {oi oj : Oper} (hoi : ops[i]? = some oi) (hoj : ops[j]? = some oj) {d : Nat} (hd : oi.dst = some d) : oj.dst ≠ some d := by
  have h1 := List.all_eq_true.1 ha j (List.mem_range.2 hj)
  simp only [hoj, Bool.and_eq_true] at h1
  have h2 := List.all_eq_true.1 h1.2 i (List.mem_range.2 hi)
  simp only [hoi, beq_ne hij, Bool.false_or, pairOk, hd, Bool.and_eq_true] at h2
  intro he
  rw [he] at h2
  simp [Nat.beq_refl] at h2

theorem Its.look_lt (I : Its P nt ops h n E E1 Es it) (ha : anyOk ops n = true) {i j : Nat} (hi : i < n) (hj : j < n) (hij : i ≠ j) {oi oj : Oper} (hoi : ops[i]? = some oi) (hoj : ops[j]? = some oj) {d : Nat} (hd : oi.dst = some d) (hl : d ∈ oj.looksAt ops) : i < j ∧ waits oj i = true := by
  have h1 := List.all_eq_true.1 ha j (List.mem_range.2 hj)
  simp only [hoj, Bool.and_eq_true] at h1
  have h2 := List.all_eq_true.1 h1.2 i (List.mem_range.2 hi)
  simp only [hoi, beq_ne hij, Bool.false_or, pairOk, hd, Bool.and_eq_true] at h2
  have h3 : (oj.looksAt ops).any (Nat.beq d) = true := List.any_eq_true.2 ⟨d, hl, Nat.beq_refl d⟩
  rw [h3] at h2
  simp only [cond_true, Bool.and_eq_true] at h2
  exact ⟨of_blt h2.2.1, h2.2.2⟩

/-- An entry of the store behind k operations: an item's, or one of the first store's. -/
theorem Its.get (I : Its P nt ops h n E E1 Es it) : ∀ {k : Nat}, k ≤ n → ∀ {t : Nat} {x : Tg × SV}, (Es k).get t = some x → (∃ i o, i < k ∧ ops[i]? = some o ∧ o.dst = some t ∧ x = it i) ∨ (E.get t = some x ∧ ∀ i o, i < k → ops[i]? = some o → o.dst ≠ some t)
  | 0, _, t, x, hx => .inr ⟨by rw [I.first] at hx; exact hx, fun i o h => by omega⟩
  | k + 1, hk, t, x, hx => by
    obtain ⟨o, g1, g2, _⟩ := I.op k (by omega)
    rw [g2] at hx
    cases hd : o.dst with
    | none =>
      rw [hd] at hx
      rcases I.get (by omega) hx with ⟨i, oi, h1, h2, h3, h4⟩ | ⟨h1, h2⟩
      · exact .inl ⟨i, oi, by omega, h2, h3, h4⟩
      · refine .inr ⟨h1, fun i oi hi hoi => ?_⟩
        by_cases hik : i = k
        · subst hik; rw [g1] at hoi; cases hoi; rw [hd]; simp
        · exact h2 i oi (by omega) hoi
    | some d =>
      rw [hd] at hx
      simp only [Env.putO, Env.get] at hx
      cases hb : Nat.beq d t with
      | true =>
        rw [hb] at hx
        simp only [cond_true, Option.some.injEq] at hx
        exact .inl ⟨k, o, by omega, g1, by rw [hd, Nat.eq_of_beq_eq_true hb], hx.symm⟩
      | false =>
        rw [hb] at hx
        rcases I.get (by omega) hx with ⟨i, oi, h1, h2, h3, h4⟩ | ⟨h1, h2⟩
        · exact .inl ⟨i, oi, by omega, h2, h3, h4⟩
        · refine .inr ⟨h1, fun i oi hi hoi => ?_⟩
          by_cases hik : i = k
          · subst hik; rw [g1] at hoi; cases hoi; rw [hd]; intro he; simp only [Option.some.injEq] at he; subst he; simp [Nat.beq_refl] at hb
          · exact h2 i oi (by omega) hoi

/-- The tests of an item are of operations ahead of it. -/
theorem Its.tag (I : Its P nt ops h n E E1 Es it) (ha : anyOk ops n = true) : ∀ (k : Nat), k < n → ∀ x ∈ (it k).1, ∃ i oi, i < k ∧ ops[i]? = some oi ∧ oi.dst = some x.1 := by
  intro k
  induction k using Nat.strongRecOn with
  | _ k ih =>
    intro hk x hx
    obtain ⟨o, g1, g2, g3, g4, g5⟩ := I.op k hk
    rcases g5 with ⟨_, htg⟩ | ⟨jg, u, b, tg, su, hg, hu, hge, htg⟩
    · rw [htg] at hx; simp at hx
    · have hgl : Nat.blt jg k = true ∧ waits o jg = true := by
        have h1 := List.all_eq_true.1 ha k (List.mem_range.2 hk)
        simp only [g1, Bool.and_eq_true, guardOk, hg] at h1
        exact h1.1
      have hlt := of_blt hgl.1
      obtain ⟨og, hog, hogd⟩ := Option.bind_eq_some_iff.1 hu
      rw [htg] at hx
      rcases List.mem_cons.1 hx with rfl | hx
      · exact ⟨jg, og, hlt, hog, hogd⟩
      · have hitg : it jg = (tg, su) := by
          rcases I.get (by omega) hge with ⟨i, oi, h1, h2, h3, h4⟩ | ⟨_, h2⟩
          · by_cases hij : i = jg
            · subst hij; exact h4.symm
            · exact absurd hogd (I.dst_ne ha (by omega) (by omega) hij h2 hog h3)
          · exact absurd hogd (h2 jg og hlt hog)
        obtain ⟨i, oi, h1, h2, h3⟩ := ih jg hlt (by omega) x (by rw [hitg]; exact hx)
        exact ⟨i, oi, by omega, h2, h3⟩

/-- The state when some of the operations have been carried out. -/
structure Mid (P : Program) (nt : Nat) (ops : Array Oper) (h : List Ob) (n : Nat) (E : Env) (it : Nat → Tg × SV) (w0 : World) (F0 : Fz) (m : Mp) (listed : Array Bool) (a : Act) (w : World) (F : Fz) : Prop where
  size : a.tmps.size = nt
  defers : Dfr w m h a.defers
  qt : Qt w0 F0 w F
  lsize : listed.size = ops.size
  closed : ∀ j oj, ops[j]? = some oj → listed.getD j false = true → ∀ e ∈ oj.after, Region.binds .any e = true → listed.getD e.on false = true
  tail : ∀ t, n ≤ t → listed.getD t false = false
  done : ∀ i oi d, i < n → ops[i]? = some oi → listed.getD i false = true → oi.dst = some d → (Tags a (it i).1 ∧ RdS w F m (a.tmps.getD d undef) (it i).2) ∨ (¬ Tags a (it i).1 ∧ a.tmps.getD d undef = undef)
  tags : ∀ i oi, i < n → ops[i]? = some oi → listed.getD i false = true → ∀ x ∈ (it i).1, ∃ j oj, j < n ∧ ops[j]? = some oj ∧ listed.getD j false = true ∧ oj.dst = some x.1
  old : ∀ t, (∀ i oi, i < n → ops[i]? = some oi → listed.getD i false = true → oi.dst ≠ some t) → ∀ tg s, E.get t = some (tg, s) → RdS w F m (a.tmps.getD t undef) s

theorem getD_bools {listed : Array Bool} {j : Nat} (hj : j < listed.size) : listed.getD j true = listed.getD j false := by simp [hj]

theorem listed_ready {listed : Array Bool} {j : Nat} (hs : listed.size = ops.size) (hj : j ∈ Region.ready .any ops listed) : listed.getD j false = false ∧ ∃ o, ops[j]? = some o ∧ ∀ e ∈ o.after, Region.binds .any e = true → listed.getD e.on false = true := by
  obtain ⟨h1, o, ho, h2⟩ := mem_ready.1 hj
  have hlt := (Array.getElem?_eq_some_iff.1 ho).1
  exact ⟨by rw [← getD_bools (by omega)]; exact h1, o, ho, h2⟩

theorem mem_looks {o : Oper} {t : Nat} (h : Operand.tmp t ∈ o.op.operands) : t ∈ o.looksAt ops := by
  unfold Oper.looksAt
  refine List.mem_append.2 (.inl ?_)
  exact List.mem_filterMap.2 ⟨.tmp t, Array.mem_toList_iff.2 h, rfl⟩

theorem mem_looks_guard {o : Oper} {g u : Nat} {b : Bool} (h : o.guard = some (g, b)) (hu : (ops[g]?).bind (·.dst) = some u) : u ∈ o.looksAt ops := by
  unfold Oper.looksAt
  refine List.mem_append.2 (.inr ?_)
  simp [h, hu]

/-- What becomes of the state behind one operation of the head. -/
theorem Mid.after (I : Its P nt ops h n E E1 Es it) (ha : anyOk ops n = true) {w0 : World} {F0 : Fz} {m : Mp} {listed : Array Bool} {a : Act} {w : World} {F : Fz} (M : Mid P nt ops h n E it w0 F0 m listed a w F)
    {j : Nat} (hj : j ∈ Region.ready .any ops listed) (hjn : j < n) {o : Oper} (ho : ops[j]? = some o) (sim : Sim bs w F m h) {v : Value} {w' : World} {F' : Fz} (hq : Qt w F w' F') (hv : (Tags a (it j).1 ∧ RdS w' F' m v (it j).2) ∨ (¬ Tags a (it j).1 ∧ v = undef)) (htg : ∀ x ∈ (it j).1, ∃ i oi, i < n ∧ ops[i]? = some oi ∧ listed.getD i false = true ∧ oi.dst = some x.1) :
    Mid P nt ops h n E it w0 F0 m (listed.setIfInBounds j true) (a.put o.dst v) w' F' := by
  obtain ⟨hun, o', ho', hall⟩ := listed_ready M.lsize hj
  rw [ho] at ho'; cases ho'
  obtain ⟨o', g1, g2, g3, g4, g5⟩ := I.op j hjn
  rw [ho] at g1; cases g1
  have hjlt : j < listed.size := by rw [M.lsize]; exact (Array.getElem?_eq_some_iff.1 ho).1
  have hset : ∀ i, (listed.setIfInBounds j true).getD i false = true → i = j ∨ listed.getD i false = true := fun i hi => by
    by_cases hij : j = i
    · exact .inl hij.symm
    · rw [getD_set_ne false hij] at hi; exact .inr hi
  have hsame : ∀ t, o.dst ≠ some t → (a.put o.dst v).tmps.getD t undef = a.tmps.getD t undef := fun t ht => by
    cases hd : o.dst with
    | none => rfl
    | some d => exact put_getD (fun e => ht (by rw [hd, e]))
  have hput : ∀ d, o.dst = some d → (a.put o.dst v).tmps.getD d undef = v := fun d hd => by
    rw [hd]
    rw [hd] at g3
    simp only [dstOk, Bool.and_eq_true] at g3
    exact put_getD_same (by rw [M.size]; exact of_blt g3.1.1)
  have htags : ∀ tg : Tg, (∀ x ∈ tg, ∃ i oi, i < n ∧ ops[i]? = some oi ∧ listed.getD i false = true ∧ oi.dst = some x.1) → (Tags (a.put o.dst v) tg ↔ Tags a tg) := by
    intro tg htg
    have key : ∀ x ∈ tg, (a.put o.dst v).tmps.getD x.1 undef = a.tmps.getD x.1 undef := fun x hx => by
      obtain ⟨i, oi, h1, h2, h3, h4⟩ := htg x hx
      refine hsame x.1 fun hd => ?_
      have hij : i ≠ j := by rintro rfl; rw [hun] at h3; cases h3
      exact I.dst_ne ha h1 hjn hij h2 ho h4 hd
    exact ⟨fun hT x hx => by rw [← key x hx]; exact hT x hx, fun hT x hx => by rw [key x hx]; exact hT x hx⟩
  refine ⟨by cases o.dst <;> simp [Act.put, M.size], (by
    have := M.defers.same (w' := w') (m' := m) (h' := h) fun i D h1 h2 h3 _ => ⟨h1, h2, hq.block D h3⟩
    cases o.dst <;> exact this), M.qt.trans hq, by simp [M.lsize], fun i oi hoi hl e he hb => ?_, fun t ht => ?_, fun i oi d hi hoi hl hd => ?_, fun i oi hi hoi hl x hx => ?_, fun t ht tg s hg => ?_⟩
  · rcases hset i hl with rfl | hl
    · rw [ho] at hoi; cases hoi; exact getD_set_true (hall e he hb)
    · exact getD_set_true (M.closed i oi hoi hl e he hb)
  · rw [getD_set_ne false (by omega)]; exact M.tail t ht
  · rcases hset i hl with rfl | hl'
    · rw [ho] at hoi; cases hoi
      rw [hput d hd, htags _ htg]
      exact hv
    · have hij : i ≠ j := by rintro rfl; rw [hun] at hl'; cases hl'
      rw [hsame d (I.dst_ne ha hi hjn hij hoi ho hd), htags _ (M.tags i oi hi hoi hl')]
      exact (M.done i oi d hi hoi hl' hd).imp (fun z => ⟨z.1, hq.rds sim z.2⟩) id
  · rcases hset i hl with rfl | hl
    · obtain ⟨i', oi', h1, h2, h3, h4⟩ := htg x hx
      exact ⟨i', oi', h1, h2, getD_set_true h3, h4⟩
    · obtain ⟨i', oi', h1, h2, h3, h4⟩ := M.tags i oi hi hoi hl x hx
      exact ⟨i', oi', h1, h2, getD_set_true h3, h4⟩
  · have hd : o.dst ≠ some t := ht j o hjn ho (by
      have : (listed.setIfInBounds j true)[j]? = some true := by simp [hjlt]
      simp [this])
    rw [hsame t hd]
    exact hq.rds sim (M.old t (fun i oi hi hoi hl => ht i oi hi hoi (getD_set_true hl)) tg s hg)

/-- One operation of the head, whenever it comes up. -/
theorem Mid.step (I : Its P nt ops h n E E1 Es it) (ha : anyOk ops n = true) (hE : plainE E = true) {w0 : World} {F0 : Fz} {m : Mp} (hs0 : Sim bs w0 F0 m h) {listed : Array Bool} {a : Act} {w : World} {F : Fz} (M : Mid P nt ops h n E it w0 F0 m listed a w F)
    {j : Nat} (hj : j ∈ Region.ready .any ops listed) (hjn : j < n) {K : Act → World → Prop} {Q : Exit → Act → World → Prop} (hK : ∀ a' w' F', Mid P nt ops h n E it w0 F0 m (listed.setIfInBounds j true) a' w' F' → Qt w F w' F' → (∀ oj, ops[j]? = some oj → ∃ v, a' = a.put oj.dst v) → K a' w') : wpOp P ops Q j K a w := by
  obtain ⟨hun, o, ho, hall⟩ := listed_ready M.lsize hj
  obtain ⟨o', g1, g2, g3, g4, g5⟩ := I.op j hjn
  rw [ho] at g1; cases g1
  have sim := M.qt.sim hs0
  have hjlt : j < listed.size := by rw [M.lsize]; exact (Array.getElem?_eq_some_iff.1 ho).1
  have hwait : ∀ i, waits o i = true → listed.getD i false = true := fun i hw => by
    obtain ⟨e, he, hb, rfl⟩ := waits_spec hw
    exact hall e he hb
  -- an entry that the operation looks at is as it is told
  have entry : ∀ t, t ∈ o.looksAt ops → ∀ tg s, (Es j).get t = some (tg, s) → (Tags a tg ∧ RdS w F m (a.tmps.getD t undef) s) ∨ (¬ Tags a tg ∧ a.tmps.getD t undef = undef) := by
    intro t ht tg s hg
    rcases I.get (by omega) hg with ⟨i, oi, h1, h2, h3, h4⟩ | ⟨h1, h2⟩
    · have hw := I.look_lt ha (by omega) hjn (by omega) h2 ho h3 ht
      have hd := M.done i oi t (by omega) h2 (hwait i hw.2) h3
      rw [← h4] at hd
      exact hd
    · have htg := plainE_get hE h1
      subst htg
      refine .inl ⟨Tags.nil a, M.old t (fun i oi hi hoi hl hd => ?_) _ _ h1⟩
      by_cases hij : i = j
      · subst hij; rw [hun] at hl; cases hl
      · exact h2 i oi (I.look_lt ha hi hjn hij hoi ho hd ht).1 hoi hd
  have after := fun (v : Value) (w' : World) (F' : Fz) (hq : Qt w F w' F') hv htg => M.after I ha hj hjn ho sim (v := v) hq hv htg
  have opd : Tags a (it j).1 → (∀ x ∈ (it j).1, ∀ s, look (Es j) (it j).1 (.tmp x.1) = some s → RdS w F m (a.tmps.getD x.1 undef) s) → Opd (Es j) (it j).1 o a w F m := by
    intro hT hgd
    refine ⟨hT, fun x hx B s hB hl => ?_, hgd⟩
    cases x with
    | tmp t =>
      simp only [look] at hl
      split at hl
      · rename_i tg s' hg
        cases hb : Tg.le tg (B ++ (it j).1) with
        | false => rw [hb] at hl; simp at hl
        | true =>
          rw [hb] at hl
          simp only [cond_true, Option.some.injEq] at hl
          subst hl
          have hTg : Tags a tg := Tg.le_tags (fun y hy => by rcases List.mem_append.1 hy with h | h; exact hB y h; exact hT y h) hb
          rcases entry t (mem_looks hx) tg s' hg with h1 | h1
          · exact h1.2
          · exact absurd hTg h1.1
      · cases hl
    | const v => simp only [look, Option.some.injEq] at hl; subst hl; exact .p (.s v)
    | func f => simp only [look, Option.some.injEq] at hl; subst hl; exact .fn (vs := []) .nil
    | global g => simp [look] at hl
  unfold wpOp
  simp only [ho]
  rcases g5 with ⟨hg, htg⟩ | ⟨jg, u, b, tg, su, hg, hu, hge, htg⟩
  · rw [if_pos (by simp [Region.wanted, hg])]
    have hT : Tags a (it j).1 := by rw [htg]; exact Tags.nil a
    exact .inl (g4 a w F m sim.E (opd hT (by rw [htg]; simp)) _ _ fun v w' F' hv hq => hK _ w' F' (after v w' F' hq (.inl ⟨hT, hv⟩) (by rw [htg]; simp)) hq fun oj hoj => by rw [ho] at hoj; cases hoj; exact ⟨_, rfl⟩)
  · have hgu := mem_looks_guard hg hu
    have hentry := entry u hgu tg su hge
    -- the guard's own operation has been carried out
    have hgl : Nat.blt jg j = true ∧ waits o jg = true := by
      have h1 := List.all_eq_true.1 ha j (List.mem_range.2 hjn)
      simp only [ho, Bool.and_eq_true, guardOk, hg] at h1
      exact h1.1
    obtain ⟨og, hog, hogd⟩ := Option.bind_eq_some_iff.1 hu
    have hjgn : jg < n := by have := of_blt hgl.1; omega
    have hlg := hwait jg hgl.2
    have hitg : it jg = (tg, su) := by
      rcases I.get (by omega) hge with ⟨i, oi, h1, h2, h3, h4⟩ | ⟨_, h2⟩
      · by_cases hij : i = jg
        · subst hij; exact h4.symm
        · exact absurd hogd (I.dst_ne ha (by omega) hjgn hij h2 hog h3)
      · exact absurd hogd (h2 jg og (of_blt hgl.1) hog)
    have htags : ∀ x ∈ (it j).1, ∃ i oi, i < n ∧ ops[i]? = some oi ∧ listed.getD i false = true ∧ oi.dst = some x.1 := by
      rw [htg]
      intro x hx
      rcases List.mem_cons.1 hx with rfl | hx
      · exact ⟨jg, og, hjgn, hog, hlg, hogd⟩
      · exact M.tags jg og hjgn hog hlg x (by rw [hitg]; exact hx)
    by_cases hw : a.tmps.getD u undef = .bool b
    · rw [if_pos (by simp [Region.wanted, hg, (yielded_some hu).2 hw])]
      have hTg : Tags a tg ∧ RdS w F m (a.tmps.getD u undef) su := by
        rcases hentry with h1 | ⟨_, h2⟩
        · exact h1
        · rw [h2] at hw; exact absurd hw (undef_ne_bool b)
      have hT : Tags a (it j).1 := by
        rw [htg]
        intro x hx
        rcases List.mem_cons.1 hx with rfl | hx
        · exact hw
        · exact hTg.1 x hx
      refine .inl (g4 a w F m sim.E (opd hT fun x hx s hl => ?_) _ _ fun v w' F' hv hq => hK _ w' F' (after v w' F' hq (.inl ⟨hT, hv⟩) htags) hq fun oj hoj => by rw [ho] at hoj; cases hoj; exact ⟨_, rfl⟩)
      simp only [look] at hl
      split at hl
      · rename_i tg' s' hg'
        cases hb : Tg.le tg' (it j).1 with
        | false => rw [hb] at hl; simp at hl
        | true =>
          rw [hb] at hl
          simp only [cond_true, Option.some.injEq] at hl
          subst hl
          have hTg' : Tags a tg' := Tg.le_tags hT hb
          obtain ⟨i, oi, h1, h2, h3, h4⟩ := htags x hx
          rcases I.get (by omega) hg' with ⟨i', oi', k1, k2, k3, k4⟩ | ⟨k1, k2⟩
          · by_cases hii : i = i'
            · subst hii
              rw [h2] at k2; cases k2
              rcases M.done i oi x.1 h1 h2 h3 h4 with h5 | h5
              · rw [← k4] at h5; exact h5.2
              · rw [← k4] at h5; exact absurd hTg' h5.1
            · exact absurd k3 (I.dst_ne ha h1 (by omega) hii h2 k2 h4)
          · obtain ⟨i2, oi2, h6, h7, h8⟩ := I.tag ha j hjn x hx
            exact absurd h8 (k2 i2 oi2 h6 h7)
      · cases hl
    · have hT : ¬ Tags a (it j).1 := by rw [htg]; intro hT; exact hw (hT (u, b) (by simp))
      rw [if_neg (by simp only [Region.wanted, hg, beq_iff_eq]; exact fun z => hw ((yielded_some hu).1 z))]
      exact hK _ w F (after undef w F (Qt.refl w F) (.inr ⟨hT, rfl⟩) htags) (Qt.refl w F) fun oj hoj => by rw [ho] at hoj; cases hoj; exact ⟨_, rfl⟩

theorem getD_replicate (k j : Nat) : (Array.replicate k false).getD j false = false := by
  simp [Array.getElem?_replicate]
  split <;> rfl

/-- All of the head has been carried out. -/
theorem Mid.fin (I : Its P nt ops h n E E1 Es it) (hE : plainE E = true) {w0 : World} {F0 : Fz} {m : Mp} {listed : Array Bool} {a : Act} {w : World} {F : Fz} (M : Mid P nt ops h n E it w0 F0 m listed a w F) (hall : ∀ i, i < n → listed.getD i false = true) (hs0 : Sim bs w0 F0 m h) : Rel bs nt w F m E1 h a ∧ Qt w0 F0 w F := by
  refine ⟨⟨M.size, M.defers, fun t tg s ht => ?_, M.qt.sim hs0⟩, M.qt⟩
  rw [← I.last] at ht
  rcases I.get (Nat.le_refl _) ht with ⟨i, oi, h1, h2, h3, h4⟩ | ⟨h1, h2⟩
  · have hd := M.done i oi t h1 h2 (hall i h1) h3
    rw [← h4] at hd
    exact hd
  · have htg := plainE_get hE h1
    subst htg
    exact .inl ⟨Tags.nil a, M.old t (fun i oi hi hoi _ => h2 i oi hi hoi) [] s h1⟩

/-- The whole head, in whatever order, and the rest behind it, one by one. -/
theorem Mid.allI (I : Its P nt ops h n E E1 Es it) (Inv : Array Bool → Act → World → Fz → Prop) (ha : anyOk ops n = true) (hE : plainE E = true) (hf : fwdOk ops = true) (ht : tailOk ops n = true) (hn : n ≤ ops.size) {w0 : World} {F0 : Fz} {m : Mp} (hs0 : Sim bs w0 F0 m h) {Q : Exit → Act → World → Prop}
    (hS : ∀ listed a w F j, Mid P nt ops h n E it w0 F0 m listed a w F → Inv listed a w F → j ∈ Region.ready .any ops listed → j < n → ∀ K : Act → World → Prop, (∀ a' w' F', Mid P nt ops h n E it w0 F0 m (listed.setIfInBounds j true) a' w' F' → Inv (listed.setIfInBounds j true) a' w' F' → K a' w') → wpOp P ops Q j K a w)
    (hK : ∀ listed a w F, (∀ i, i < n → listed.getD i false = true) → Inv listed a w F → Rel bs nt w F m E1 h a → Qt w0 F0 w F → wpOps P ops Q (List.range' n (ops.size - n)) a w) : ∀ (fuel : Nat) (listed : Array Bool) (a : Act) (w : World) (F : Fz), Mid P nt ops h n E it w0 F0 m listed a w F → Inv listed a w F →
    (((List.range n).filter fun i => !listed.getD i false).length + (ops.size - n) ≤ fuel) → wpAny P .any ops Q fuel listed a w := by
  have fwd : ∀ j o, ops[j]? = some o → ∀ e ∈ o.after, Region.binds .any e = true → e.on < j := by
    intro j o ho e he hb
    have hlt := (Array.getElem?_eq_some_iff.1 ho).1
    have h1 := List.all_eq_true.1 hf j (List.mem_range.2 hlt)
    simp only [ho] at h1
    have h2 := List.all_eq_true.1 h1 e (Array.mem_toList_iff.2 he)
    rw [hb] at h2
    exact of_blt (by simpa using h2)
  -- the tail: one by one
  have tail : ∀ (d t : Nat), ops.size - t = d → n ≤ t → ∀ (fuel : Nat) (listed : Array Bool) (a : Act) (w : World), listed.size = ops.size → (∀ i, i < t → listed.getD i false = true) → (∀ i, t ≤ i → listed.getD i false = false) → d ≤ fuel →
      wpOps P ops Q (List.range' t d) a w → wpAny P .any ops Q fuel listed a w := by
    intro d
    induction d with
    | zero =>
      intro t hd hnt fuel listed a w hs h1 h2 hfu hq
      have hnone : Region.ready .any ops listed = [] := by
        refine List.eq_nil_iff_forall_not_mem.2 fun i hi => ?_
        obtain ⟨g1, o, g2, _⟩ := listed_ready hs hi
        have := (Array.getElem?_eq_some_iff.1 g2).1
        rw [h1 i (by omega)] at g1
        cases g1
      cases fuel with
      | zero => exact ⟨hnone, hq⟩
      | succ fuel => exact ⟨fun _ => hq, fun i hi => by rw [hnone] at hi; cases hi⟩
    | succ d ih =>
      intro t hd hnt fuel listed a w hs h1 h2 hfu hq
      obtain ⟨fuel, rfl⟩ : ∃ f, fuel = f + 1 := ⟨fuel - 1, by omega⟩
      have hlt : t < ops.size := by omega
      have hot : ops[t]? = some ops[t] := by simp [hlt]
      have hrt : t ∈ Region.ready .any ops listed := mem_ready.2 ⟨by rw [getD_bools (by omega)]; exact h2 t (Nat.le_refl _), ops[t], hot, fun e he hb => h1 e.on (fwd t _ hot e he hb)⟩
      refine ⟨fun hnil => (by rw [hnil] at hrt; cases hrt), fun i hi => ?_⟩
      obtain ⟨g1, o, g2, g3⟩ := listed_ready hs hi
      have hit : i = t := by
        by_cases hti : i < t
        · rw [h1 i hti] at g1; cases g1
        · by_cases hte : i = t
          · exact hte
          · exfalso
            have hil := (Array.getElem?_eq_some_iff.1 g2).1
            have h3 := List.all_eq_true.1 ht (i - n) (List.mem_range.2 (by omega))
            rw [show n + (i - n) = i by omega] at h3
            simp only [g2, beq_ne (show i - n ≠ 0 by omega), cond_false] at h3
            obtain ⟨e, he, hb, hon⟩ := waits_spec h3
            have h4 := g3 e he hb
            rw [hon, h2 (i - 1) (by omega)] at h4
            cases h4
      subst hit
      rw [List.range'_succ, wpOps_cons] at hq
      refine wpOp_mono (fun a' w' hq' => ih (i + 1) (by omega) (by omega) fuel _ a' w' (by simp [hs]) (fun k hk => ?_) (fun k hk => ?_) (by omega) hq') hq
      · by_cases hki : i = k
        · subst hki
          have : (listed.setIfInBounds i true)[i]? = some true := by simp [show i < listed.size by omega]
          simp [this]
        · rw [getD_set_ne false hki]; exact h1 k (by omega)
      · rw [getD_set_ne false (by omega)]; exact h2 k (by omega)
  intro fuel
  induction fuel with
  | zero =>
    intro listed a w F M hI hfu
    have hall : ∀ i, i < n → listed.getD i false = true := fun i hi => by
      cases hl : listed.getD i false with
      | true => rfl
      | false =>
        have : i ∈ (List.range n).filter fun i => !listed.getD i false := List.mem_filter.2 ⟨List.mem_range.2 hi, by rw [hl]; rfl⟩
        have := List.length_pos_of_mem this
        omega
    obtain ⟨r, q⟩ := Mid.fin I hE M hall hs0
    exact tail (ops.size - n) n rfl (Nat.le_refl _) 0 listed a w M.lsize hall (fun i hi => M.tail i hi) (by omega) (hK listed a w F hall hI r q)
  | succ fuel ih =>
    intro listed a w F M hI hfu
    by_cases hall : ∀ i, i < n → listed.getD i false = true
    · exact tail (ops.size - n) n rfl (Nat.le_refl _) (fuel + 1) listed a w M.lsize hall (fun i hi => M.tail i hi) (by omega) (by obtain ⟨r, q⟩ := Mid.fin I hE M hall hs0; exact hK listed a w F hall hI r q)
    · -- the first that is left is ready; none of the tail is
      obtain ⟨i0, h0, h1⟩ : ∃ i, i < n ∧ listed.getD i false = false := by
        by_cases hex : ∃ i, i < n ∧ listed.getD i false = false
        · exact hex
        · exact absurd (fun i hi => by cases hl : listed.getD i false with | true => rfl | false => exact absurd ⟨i, hi, hl⟩ hex) hall
      obtain ⟨i1, h2, h3, h4⟩ : ∃ i, i < n ∧ listed.getD i false = false ∧ ∀ k, k < i → listed.getD k false = true := by
        induction i0 using Nat.strongRecOn with
        | _ i0 ih0 =>
          by_cases hk : ∃ k, k < i0 ∧ listed.getD k false = false
          · obtain ⟨k, hk1, hk2⟩ := hk; exact ih0 k hk1 (by omega) hk2
          · exact ⟨i0, h0, h1, fun k hk' => by cases hl : listed.getD k false with | true => rfl | false => exact absurd ⟨k, hk', hl⟩ hk⟩
      have ho1 : ops[i1]? = some ops[i1] := by simp [show i1 < ops.size by omega]
      have hr1 : i1 ∈ Region.ready .any ops listed := mem_ready.2 ⟨by rw [getD_bools (by rw [M.lsize]; omega)]; exact h3, ops[i1], ho1, fun e he hb => h4 e.on (fwd i1 _ ho1 e he hb)⟩
      -- an operation of the tail waits, through others, for each of the head
      have notail : ∀ t, n ≤ t → t ∉ Region.ready .any ops listed := by
        intro t htn hr
        obtain ⟨g1, o, g2, g3⟩ := listed_ready M.lsize hr
        have htl := (Array.getElem?_eq_some_iff.1 g2).1
        have h5 := List.all_eq_true.1 ht (t - n) (List.mem_range.2 (by omega))
        rw [show n + (t - n) = t by omega] at h5
        simp only [g2] at h5
        by_cases htn' : t = n
        · subst htn'
          simp only [Nat.sub_self, Nat.beq_refl, cond_true] at h5
          have key : ∀ (d i : Nat), t - i = d → i < t → listed.getD i false = false → False := by
            intro d
            induction d using Nat.strongRecOn with
            | _ d ihd =>
              intro i hdi hit hun
              have h6 := List.all_eq_true.1 h5 i (List.mem_range.2 hit)
              simp only [Bool.or_eq_true] at h6
              rcases h6 with h6 | h6
              · obtain ⟨e, he, hb, hon⟩ := waits_spec h6
                have h7 := g3 e he hb
                rw [hon, hun] at h7
                cases h7
              · obtain ⟨j, hj, h7⟩ := List.any_eq_true.1 h6
                simp only [Bool.and_eq_true] at h7
                have hij := of_blt h7.1
                have hjt := List.mem_range.1 hj
                cases hoj : ops[j]? with
                | none => rw [hoj] at h7; simp at h7
                | some oj =>
                  rw [hoj] at h7
                  obtain ⟨e, he, hb, hon⟩ := waits_spec h7.2
                  cases hl : listed.getD j false with
                  | true =>
                    have h8 := M.closed j oj hoj hl e he hb
                    rw [hon, hun] at h8
                    cases h8
                  | false => exact ihd (t - j) (by omega) j rfl hjt hl
          exact key _ i1 rfl h2 h3
        · simp only [beq_ne (show t - n ≠ 0 by omega), cond_false] at h5
          obtain ⟨e, he, hb, hon⟩ := waits_spec h5
          have h7 := g3 e he hb
          rw [hon, M.tail (t - 1) (by omega)] at h7
          cases h7
      refine ⟨fun hnil => (by rw [hnil] at hr1; cases hr1), fun i hi => ?_⟩
      have hin : i < n := by
        by_cases hin : i < n
        · exact hin
        · exact absurd hi (notail i (by omega))
      refine hS listed a w F i M hI hi hin _ fun a' w' F' M' hI' => ih _ a' w' F' M' hI' ?_
      obtain ⟨g1, o, g2, g3⟩ := listed_ready M.lsize hi
      have hil : i < listed.size := by rw [M.lsize]; omega
      -- one fewer is left
      have hcount : ((List.range n).filter fun k => !(listed.setIfInBounds i true).getD k false).length + 1 ≤ ((List.range n).filter fun k => !listed.getD k false).length := by
        have e : ((List.range n).filter fun k => !(listed.setIfInBounds i true).getD k false) = ((List.range n).filter fun k => !listed.getD k false).filter (fun k => !Nat.beq k i) := by
          rw [List.filter_filter]
          refine List.filter_congr fun k hk => ?_
          by_cases hki : i = k
          · subst hki
            have : (listed.setIfInBounds i true)[i]? = some true := by simp [hil]
            simp [this, Nat.beq_refl]
          · rw [getD_set_ne false hki, beq_ne (fun z => hki z.symm)]; simp
        rw [e]
        have hmem : i ∈ (List.range n).filter fun k => !listed.getD k false := List.mem_filter.2 ⟨List.mem_range.2 hin, by rw [g1]; rfl⟩
        exact List.length_filter_lt_length_iff_exists.2 ⟨i, hmem, by simp [Nat.beq_refl]⟩
      omega

theorem Mid.all (I : Its P nt ops h n E E1 Es it) (ha : anyOk ops n = true) (hE : plainE E = true) (hf : fwdOk ops = true) (ht : tailOk ops n = true) (hn : n ≤ ops.size) {w0 : World} {F0 : Fz} {m : Mp} (hs0 : Sim bs w0 F0 m h) {Q : Exit → Act → World → Prop}
    (hK : ∀ a w F, Rel bs nt w F m E1 h a → Qt w0 F0 w F → wpOps P ops Q (List.range' n (ops.size - n)) a w) (fuel : Nat) (listed : Array Bool) (a : Act) (w : World) (F : Fz) (M : Mid P nt ops h n E it w0 F0 m listed a w F)
    (hfu : ((List.range n).filter fun i => !listed.getD i false).length + (ops.size - n) ≤ fuel) : wpAny P .any ops Q fuel listed a w :=
  Mid.allI I (fun _ _ _ _ => True) ha hE hf ht hn hs0 (fun listed a w F j M _ hj hjn K hKK => M.step I ha hE hs0 hj hjn fun a' w' F' M' _ _ => hKK a' w' F' M' trivial) (fun listed a w F _ _ hr hq => hK a w F hr hq) fuel listed a w F M trivial hfu

/-- A region that draws its order. -/
theorem W_draw (hm : P.follows .mixedOrders = true) {id : Nat} {Q : Exit → Env → List Ob → Prop} (hd : Head P nt ops h 0 n E E1) (hn : Nat.ble n ops.size = true) (ha : anyOk ops n = true) (hE : plainE E = true) (hf : fwdOk ops = true) (ht : tailOk ops n = true)
    (hW : WL P nt ops n E1 h Q) : W P nt (.region id ops true) E h Q := by
  obtain ⟨Es, it, I⟩ := hd.its0
  have hn := Nat.le_of_ble_eq_true hn
  have key : ∀ {bs : Nat → Nat} a w F m, Rel bs nt w F m E h a → wpAny P .any ops (Post bs nt Q w F m) ops.size (Array.replicate ops.size false) a w.drew := fun {bs} a w F m hr => ?_
  · exact ⟨fun a w F m hr => wp_region_any hm (key a w F m hr), fun hp hn l n a w F m hr => wpIn_region_draw fun t => by
      simp only [Region.schedule, hm, Bool.true_or, if_true]
      exact wpOps_in (plain_ops hp) hn.post _ _ _ (wpAny_sound ops.size t _ a _ (key a w F m hr))⟩
  have hr' : Rel bs nt w.drew F m E h a := ⟨hr.size, hr.defers.same fun i D h1 h2 h3 _ => ⟨h1, h2, rfl⟩, fun t tg s ht => (hr.env t tg s ht).imp (fun z => ⟨z.1, (Qt.drew w F).rds hr.sim z.2⟩) _root_.id, (Qt.drew w F).sim hr.sim⟩
  refine Mid.all (F0 := F) (m := m) I ha hE hf ht hn hr'.sim (fun a' w' F' hrel hq => ?_) ops.size _ a w.drew F
    ⟨hr.size, hr'.defers, Qt.refl _ _, by simp, fun j oj hoj hl => ?_, fun t ht => ?_, fun i oi d hi hoi hl => ?_, fun i oi hi hoi hl => ?_, fun t ht tg s hg => ?_⟩ ?_
  · exact wpOps_mono (fun x a'' w'' ⟨E'', h'', F'', m'', hQ, hrel', hg⟩ => ⟨E'', h'', F'', m'', hQ, hrel', (((Qt.drew w F).trans hq).gr hr.sim).trans hg⟩) _ _ _ (hW.out a' w' F' m hrel)
  · rw [getD_replicate] at hl; cases hl
  · exact getD_replicate _ _
  · rw [getD_replicate] at hl; cases hl
  · rw [getD_replicate] at hl; cases hl
  · have htg := plainE_get hE hg
    subst htg
    exact hr'.rd t [] s hg (Tags.nil a)
  · have : ((List.range n).filter fun i => !(Array.replicate ops.size false).getD i false).length ≤ n := by
      have := List.length_filter_le (fun i => !(Array.replicate ops.size false).getD i false) (List.range n)
      simpa using this
    omega

/-- The head from number i on, and what is asked behind it. -/
def HW (P : Program) (nt : Nat) (ops : Array Oper) (h : List Ob) (n : Nat) (Q : QB) (i : Nat) (E : Env) : Prop := ∃ E1, Head P nt ops h i n E E1 ∧ WL P nt ops n E1 h Q
theorem qd (hm : P.follows .mixedOrders = true) {id : Nat} {Q : QB} (n : Nat) (hn : Nat.ble n ops.size = true) (ha : anyOk ops n = true) (hE : plainE E = true) (hf : fwdOk ops = true) (ht : tailOk ops n = true) (hW : HW P nt ops h n Q 0 E) : W P nt (.region id ops true) E h Q :=
  let ⟨E1, h1, h2⟩ := hW
  W_draw hm h1 hn ha hE hf ht h2
theorem dn {Q : QB} (hW : WL P nt ops n E h Q) : HW P nt ops h n Q n E := ⟨E, .nil n E, hW⟩
theorem dm (hT : TOk P T) {Q : QB} {i k : Nat} (c : Nat) (hr : (evRun T nt ops h c i E).isSome = true) (hk : i + c = k) (hW : HW P nt ops h n Q k ((evRun T nt ops h c i E).getD [])) : HW P nt ops h n Q i E := by
  obtain ⟨E2, h2⟩ := Option.isSome_iff_exists.1 hr
  obtain ⟨E1, h3, h4⟩ := hW
  rw [h2] at h3
  subst hk
  exact ⟨E1, (evRun_head hT h2).trans h3, h4⟩
theorem dy {Q : QB} {i : Nat} {o : Oper} {s : SV} {E2 : Env} (ho : ops[i]? = some o) (hy : Yld P o E [] h s) (hg : o.guard = none) (hd : dstOk nt E [] o.dst = true) (hE : E.putO o.dst [] s = E2) (hW : HW P nt ops h n Q (i + 1) E2) : HW P nt ops h n Q i E := by
  subst hE
  obtain ⟨E1, h3, h4⟩ := hW
  exact ⟨E1, .plain ho hg hd hy h3, h4⟩
theorem dyg {Q : QB} {i : Nat} {o : Oper} {s : SV} {E2 : Env} {j u : Nat} {b : Bool} {tg : Tg} (ho : ops[i]? = some o) (hy : Yld P o E ((u, b) :: tg) h s) (hg : o.guard = some (j, b)) (hj : (ops[j]?).bind (·.dst) = some u)
    (hug : (E.get u).map Prod.fst = some tg) (hd : dstOk nt E ((u, b) :: tg) o.dst = true) (hE : E.putO o.dst ((u, b) :: tg) s = E2) (hW : HW P nt ops h n Q (i + 1) E2) : HW P nt ops h n Q i E := by
  subst hE
  obtain ⟨⟨tg', su⟩, hu, rfl⟩ := Option.map_eq_some_iff.1 hug
  obtain ⟨E1, h3, h4⟩ := hW
  exact ⟨E1, .guarded ho hg hj hu hd hy h3, h4⟩
end
end Go.Proofs.YtmjkflppajienaaDoor.R
