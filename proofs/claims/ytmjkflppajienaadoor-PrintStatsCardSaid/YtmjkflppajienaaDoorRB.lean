/- Rules for a row of operations: those that yield pure data and leave alone what was, told by a function that runs them; no condition but the typed premises. -/
import Derived.Test.YtmjkflppajienaaDoorRA
namespace Go.Proofs.YtmjkflppajienaaDoor.R
open Go Go.RowKit
set_option linter.unusedVariables false
set_option linter.unusedSimpArgs false
variable {bs : Nat → Nat}

/-- The world has grown, and nothing that was is turned. -/
structure Qt (w : World) (F : Fz) (w' : World) (F' : Fz) : Prop where
  os : w'.os = w.os
  tape : w'.tape = w.tape
  output : w'.output = w.output
  size : w.heap.size ≤ w'.heap.size
  ext : ∀ b o, F b o → F' b o
  block : ∀ b, b < w.heap.size → w'.heap[b]? = w.heap[b]?
  fl : ∀ b o, F' b o → F b o ∨ (w.heap.size ≤ b ∧ b < w'.heap.size)

theorem Qt.refl (w : World) (F : Fz) : Qt w F w F := ⟨rfl, rfl, rfl, Nat.le_refl _, fun _ _ h => h, fun _ _ => rfl, fun _ _ h => .inl h⟩

theorem cell_of_heap {w w' : World} {b o : Nat} (h : w'.heap[b]? = w.heap[b]?) : peek w' b o = peek w b o := by simp [peek, mapAt, World.cell?, h]

theorem Qt.toExt {w w' : World} {F F' : Fz} {m : Mp} {h : List Ob} (hs : Sim bs w F m h) (k : Qt w F w' F') : Ext w F w' F' :=
  fun b o hF => ⟨k.ext b o hF, cell_of_heap (k.block b (hs.fl b o hF))⟩

theorem Qt.same {w w' : World} {F F' : Fz} {m : Mp} {h : List Ob} (hs : Sim bs w F m h) (k : Qt w F w' F') (j : Nat) : Same w m w' m j :=
  ⟨rfl, fun b lo hj => k.block b (hs.lt j b (by simp [hj, Pl.blk]))⟩

theorem Qt.rds {w w' : World} {F F' : Fz} {m : Mp} {h : List Ob} (hs : Sim bs w F m h) (k : Qt w F w' F') {v : Value} {s : SV} (hr : RdS w F m v s) : RdS w' F' m v s :=
  hr.keep (k.toExt hs) (fun j _ _ => k.same hs j)

theorem Qt.sim {w w' : World} {F F' : Fz} {m : Mp} {h : List Ob} (hs : Sim bs w F m h) (k : Qt w F w' F') : Sim bs w' F' m h := by
  refine ⟨fun b o hF => ?_, fun i b hi => Nat.lt_of_lt_of_le (hs.lt i b hi) k.size, fun i b o hF hh => ?_, hs.inj, hs.dom, fun i o hi ho => ?_, hs.tl, hs.pn, (k.toExt hs).kn hs.kn⟩
  · rcases k.fl b o hF with h1 | h1
    · exact Nat.lt_of_lt_of_le (hs.fl b o h1) k.size
    · exact h1.2
  · rcases k.fl b o hF with h1 | h1
    · exact hs.fr i b o h1 hh
    · have := hs.lt i b (Pl.has_blk hh); omega
  · obtain ⟨b, x, h1, h2, h3⟩ := hs.obj i o hi ho
    exact ⟨b, x, h1, (k.block b (hs.lt i b (by simp [h1, Pl.blk]))).trans h2, h3.keep (k.toExt hs) (fun j _ _ => k.same hs j)⟩

theorem Qt.gr {w w' : World} {F F' : Fz} {m : Mp} {h : List Ob} (hs : Sim bs w F m h) (k : Qt w F w' F') : Gr w F m w' F' m :=
  ⟨k.os, k.tape, k.output, k.size, k.toExt hs, fun b hb _ => k.block b hb, fun i b o hi _ => ⟨i, hi⟩, fun b o hF => by
    rcases k.fl b o hF with h | h
    · exact .inl h
    · exact .inr (.inl h.1)⟩

theorem Qt.trans {w w' w'' : World} {F F' F'' : Fz} (h : Qt w F w' F') (k : Qt w' F' w'' F'') : Qt w F w'' F'' :=
  ⟨k.os.trans h.os, k.tape.trans h.tape, k.output.trans h.output, Nat.le_trans h.size k.size, fun b o hF => k.ext b o (h.ext b o hF),
    fun b hb => (k.block b (Nat.lt_of_lt_of_le hb h.size)).trans (h.block b hb), fun b o hF => by
      rcases k.fl b o hF with h1 | h1
      · rcases h.fl b o h1 with h2 | h2
        · exact .inl h2
        · exact .inr ⟨h2.1, Nat.lt_of_lt_of_le h2.2 k.size⟩
      · exact .inr ⟨Nat.le_trans h.size h1.1, h1.2⟩⟩

/-- A draw. -/
theorem Qt.drew (w : World) (F : Fz) : Qt w F w.drew F := ⟨rfl, rfl, rfl, Nat.le_refl _, fun _ _ h => h, fun _ _ => rfl, fun _ _ h => .inl h⟩

/-- A new block, all of it frozen. -/
theorem Qt.alloc (w : World) (F : Fz) (o : Obj) : Qt w F (w.alloc o) (fun b i => F b i ∨ b = w.heap.size) :=
  ⟨rfl, rfl, rfl, by simp, fun _ _ h => .inl h, fun b hb => Below.heap_alloc w o b hb, fun b i h => by
    rcases h with h | rfl
    · exact .inl h
    · exact .inr ⟨Nat.le_refl _, by simp⟩⟩

/-- The operands are as they are told to be. -/
structure Opd (E : Env) (A : Tg) (o : Oper) (a : Act) (w : World) (F : Fz) (m : Mp) : Prop where
  tags : Tags a A
  op : ∀ x ∈ o.op.operands, ∀ B s, Tags a B → look E (B ++ A) x = some s → RdS w F m (a.eval x) s
  gd : ∀ x ∈ A, ∀ s, look E A (.tmp x.1) = some s → RdS w F m (a.tmps.getD x.1 undef) s

theorem Opd.rd {E : Env} {A : Tg} {o : Oper} {a : Act} {w : World} {F : Fz} {m : Mp} (hO : Opd E A o a w F m) {x : Operand} {s : SV} (hx : x ∈ o.op.operands) (hs : look E A x = some s) : RdS w F m (a.eval x) s :=
  hO.op x hx [] s (Tags.nil a) hs

/-- The operation yields what reads as s, and nothing that was is turned. -/
def Yld (P : Program) (o : Oper) (E : Env) (A : Tg) (h : List Ob) (s : SV) : Prop :=
  ∀ a w F m, SimE w F m h → Opd E A o a w F m → ∀ (K : Act → World → Prop) (Q : Exit → Act → World → Prop),
    (∀ v w' F', RdS w' F' m v s → Qt w F w' F' → K (a.put o.dst v) w') → o.wp P a w K Q

theorem Yld.of_run {P : Program} {o : Oper} {E : Env} {A : Tg} {h : List Ob} {s : SV}
    (hr : ∀ a w F m, SimE w F m h → Opd E A o a w F m → ∃ v w' F', (execOp a.eval o).run P w = .ok (.value v) w' ∧ RdS w' F' m v s ∧ Qt w F w' F') : Yld P o E A h s := by
  intro a w F m hs hO K Q hK
  obtain ⟨v, w', F', h1, h2, h3⟩ := hr a w F m hs hO
  unfold Oper.wp
  rw [h1]
  exact hK v w' F' h2 h3

/-- Under a test an operation need only yield where it holds. -/
theorem Yld.under {P : Program} {o : Oper} {E : Env} {A : Tg} {h : List Ob} {s : SV} {u : Nat} {b t : Bool} (hu : look E A (.tmp u) = some (.p (.s (.bool t)))) (hm : (u, b) ∈ A) (hy : t = b → Yld P o E A h s) : Yld P o E A h s := by
  intro a w F m hs hO K Q hK
  refine hy ?_ a w F m hs hO K Q hK
  have h1 := rd_s (hO.gd (u, b) hm _ hu)
  have h2 := hO.tags (u, b) hm
  rw [h1] at h2
  simpa using h2

/-- The like, where the world stays. -/
theorem Yld.of_still {P : Program} {o : Oper} {E : Env} {A : Tg} {h : List Ob} {s : SV}
    (hr : ∀ a w F m, SimE w F m h → Opd E A o a w F m → ∃ v, (execOp a.eval o).run P w = .ok (.value v) w ∧ RdS w F m v s) : Yld P o E A h s :=
  .of_run fun a w F m hs hO => let ⟨v, h1, h2⟩ := hr a w F m hs hO; ⟨v, w, F, h1, h2, Qt.refl w F⟩

/-- The operation yields what reads as s, and the world stays. -/
def YldS (P : Program) (o : Oper) (E : Env) (A : Tg) (h : List Ob) (s : SV) : Prop :=
  ∀ a w F m, SimE w F m h → Opd E A o a w F m → ∃ v, (execOp a.eval o).run P w = .ok (.value v) w ∧ RdS w F m v s
theorem YldS.toYld {P : Program} {o : Oper} {E : Env} {A : Tg} {h : List Ob} {s : SV} (hy : YldS P o E A h s) : Yld P o E A h s := .of_still hy

/-- The store behind an operation. -/
def Env.putO (E : Env) (d : Option Nat) (tg : Tg) (s : SV) : Env := match d with
  | some d => (d, tg, s) :: E
  | none => E

def Tg.free (d : Nat) (tg : Tg) : Bool := tg.all fun x => !Nat.beq x.1 d

def dstOk (nt : Nat) (E : Env) (tg : Tg) : Option Nat → Bool
  | none => true
  | some d => Nat.blt d nt && Env.free d E && Tg.free d tg

theorem of_blt {i j : Nat} (h : Nat.blt i j = true) : i < j := by simpa [Nat.blt_eq] using h

theorem Env.free_get {d : Nat} : ∀ {E : Env}, Env.free d E = true → ∀ {t : Nat} {tg : Tg} {s : SV}, E.get t = some (tg, s) → Tg.free d tg = true
  | [], _, t, tg, s, h => by simp [Env.get] at h
  | (u, tg', s') :: E, hf, t, tg, s, h => by
    simp only [Env.free, Bool.and_eq_true] at hf
    simp only [Env.get] at h
    cases hb : Nat.beq u t with
    | true => rw [hb] at h; simp only [cond_true, Option.some.injEq, Prod.mk.injEq] at h; obtain ⟨rfl, rfl⟩ := h; exact hf.1
    | false => rw [hb] at h; exact Env.free_get hf.2 h

theorem put_getD {a : Act} {d t : Nat} {v : Value} (hne : t ≠ d) : (a.put (some d) v).tmps.getD t undef = a.tmps.getD t undef := by
  simp only [Act.put, Array.getD_eq_getD_getElem?]
  rw [Array.getElem?_setIfInBounds_ne (fun h => hne h.symm)]

theorem put_getD_same {a : Act} {d : Nat} {v : Value} (hd : d < a.tmps.size) : (a.put (some d) v).tmps.getD d undef = v := by
  simp only [Act.put, Array.getD_eq_getD_getElem?]
  simp [hd]

theorem tags_put {a : Act} {d : Nat} {v : Value} {tg : Tg} (hf : Tg.free d tg = true) : Tags (a.put (some d) v) tg ↔ Tags a tg := by
  unfold Tags
  constructor
  · intro h x hx
    have := h x hx
    rwa [put_getD] at this
    rintro rfl
    have := List.all_eq_true.1 hf x hx
    simp [Nat.beq_refl] at this
  · intro h x hx
    rw [put_getD]
    · exact h x hx
    · rintro rfl
      have := List.all_eq_true.1 hf x hx
      simp [Nat.beq_refl] at this

/-- A row of operations from number i to number n, told by what each yields. -/
inductive Head (P : Program) (nt : Nat) (ops : Array Oper) (h : List Ob) : Nat → Nat → Env → Env → Prop
  | nil (n : Nat) (E : Env) : Head P nt ops h n n E E
  | plain {i n : Nat} {E E' : Env} {o : Oper} {s : SV} (ho : ops[i]? = some o) (hg : o.guard = none) (hd : dstOk nt E [] o.dst = true) (hy : Yld P o E [] h s)
      (hr : Head P nt ops h (i + 1) n (E.putO o.dst [] s) E') : Head P nt ops h i n E E'
  | guarded {i n : Nat} {E E' : Env} {o : Oper} {s : SV} {j u : Nat} {b : Bool} {tg : Tg} {su : SV} (ho : ops[i]? = some o) (hg : o.guard = some (j, b)) (hj : (ops[j]?).bind (·.dst) = some u)
      (hu : E.get u = some (tg, su)) (hd : dstOk nt E ((u, b) :: tg) o.dst = true) (hy : Yld P o E ((u, b) :: tg) h s)
      (hr : Head P nt ops h (i + 1) n (E.putO o.dst ((u, b) :: tg) s) E') : Head P nt ops h i n E E'

section
variable {P : Program} {nt : Nat} {ops : Array Oper} {h : List Ob} {E : Env}

theorem Head.trans {i n k : Nat} {E E' E'' : Env} (h1 : Head P nt ops h i n E E') (h2 : Head P nt ops h n k E' E'') : Head P nt ops h i k E E'' := by
  induction h1 with
  | nil => exact h2
  | plain ho hg hd hy hr ih => exact .plain ho hg hd hy (ih h2)
  | guarded ho hg hj hu hd hy hr ih => exact .guarded ho hg hj hu hd hy (ih h2)

theorem Head.le {i n : Nat} {E E' : Env} (h1 : Head P nt ops h i n E E') : i ≤ n := by
  induction h1 with
  | nil => exact Nat.le_refl _
  | plain ho hg hd hy hr ih => omega
  | guarded ho hg hj hu hd hy hr ih => omega

theorem Head.lt {i n : Nat} {E E' : Env} (h1 : Head P nt ops h i n E E') (hn : n ≤ ops.size ∨ True) : i = n ∨ i < ops.size := by
  cases h1 with
  | nil => exact .inl rfl
  | plain ho hg hd hy hr => exact .inr (Array.getElem?_eq_some_iff.1 ho).1
  | guarded ho hg hj hu hd hy hr => exact .inr (Array.getElem?_eq_some_iff.1 ho).1

/-- The state behind an operation that was carried out. -/
theorem Rel.put {w w' : World} {F F' : Fz} {m : Mp} {a : Act} {d : Option Nat} {tg : Tg} {s : SV} {v : Value} (hr : Rel bs nt w F m E h a) (hd : dstOk nt E tg d = true) (hT : Tags a tg)
    (k : Qt w F w' F') (hv : RdS w' F' m v s) : Rel bs nt w' F' m (E.putO d tg s) h (a.put d v) := by
  cases d with
  | none =>
    refine ⟨hr.size, hr.defers.same fun i D h1 h2 h3 _ => ⟨h1, h2, k.block D h3⟩, fun t tg s ht => ?_, k.sim hr.sim⟩
    exact (hr.env t tg s ht).imp (fun h => ⟨h.1, k.rds hr.sim h.2⟩) id
  | some d =>
    simp only [dstOk, Bool.and_eq_true] at hd
    obtain ⟨⟨hd1, hd2⟩, hd3⟩ := hd
    have hlt : d < nt := of_blt hd1
    refine ⟨by simp [Act.put, hr.size], hr.defers.same fun i D h1 h2 h3 _ => ⟨h1, h2, k.block D h3⟩, fun t tg' s' ht => ?_, k.sim hr.sim⟩
    simp only [Env.putO, Env.get] at ht
    cases hb : Nat.beq d t with
    | true =>
      rw [hb] at ht
      simp only [cond_true, Option.some.injEq, Prod.mk.injEq] at ht
      obtain ⟨rfl, rfl⟩ := ht
      obtain rfl := Nat.eq_of_beq_eq_true hb
      exact .inl ⟨(tags_put hd3).2 hT, by rw [put_getD_same (by rw [hr.size]; exact hlt)]; exact hv⟩
    | false =>
      rw [hb] at ht
      simp only [cond_false] at ht
      have hne : t ≠ d := by rintro rfl; simp [Nat.beq_refl] at hb
      rw [put_getD hne, tags_put (Env.free_get hd2 ht)]
      exact (hr.env t tg' s' ht).imp (fun h => ⟨h.1, k.rds hr.sim h.2⟩) id

/-- The state behind an operation that was passed by. -/
theorem Rel.passed {w : World} {F : Fz} {m : Mp} {a : Act} {d : Option Nat} {tg : Tg} {s : SV} (hr : Rel bs nt w F m E h a) (hd : dstOk nt E tg d = true) (hT : ¬ Tags a tg) :
    Rel bs nt w F m (E.putO d tg s) h (a.put d undef) := by
  cases d with
  | none => exact hr
  | some d =>
    simp only [dstOk, Bool.and_eq_true] at hd
    obtain ⟨⟨hd1, hd2⟩, hd3⟩ := hd
    have hlt : d < nt := of_blt hd1
    refine ⟨by simp [Act.put, hr.size], hr.defers, fun t tg' s' ht => ?_, hr.sim⟩
    simp only [Env.putO, Env.get] at ht
    cases hb : Nat.beq d t with
    | true =>
      rw [hb] at ht
      simp only [cond_true, Option.some.injEq, Prod.mk.injEq] at ht
      obtain ⟨rfl, rfl⟩ := ht
      obtain rfl := Nat.eq_of_beq_eq_true hb
      exact .inr ⟨fun h => hT ((tags_put hd3).1 h), put_getD_same (by rw [hr.size]; exact hlt)⟩
    | false =>
      rw [hb] at ht
      simp only [cond_false] at ht
      have hne : t ≠ d := by rintro rfl; simp [Nat.beq_refl] at hb
      rw [put_getD hne, tags_put (Env.free_get hd2 ht)]
      exact hr.env t tg' s' ht

theorem Rel.opd {w : World} {F : Fz} {m : Mp} {a : Act} {A : Tg} (hr : Rel bs nt w F m E h a) (hA : Tags a A) (o : Oper) : Opd E A o a w F m :=
  ⟨hA, fun x _ B s hB hs => look_rd hr.rd (fun y hy => by rcases List.mem_append.1 hy with h | h; exact hB y h; exact hA y h) hs, fun x _ s hs => look_rd hr.rd hA hs⟩

theorem yielded_some {a : Act} {j u : Nat} {b : Bool} (hj : (ops[j]?).bind (·.dst) = some u) : yielded ops a.tmps j = some b ↔ a.tmps.getD u undef = .bool b := by
  unfold yielded
  rw [hj]
  simp only [Option.bind_some, Array.getD_eq_getD_getElem?]
  cases a.tmps[u]? with
  | none => simp [undef]
  | some v => cases v <;> simp

/-- The tests of a guarded operation that is wanted. -/
theorem Rel.wanted {w : World} {F : Fz} {m : Mp} {a : Act} (hr : Rel bs nt w F m E h a) {u : Nat} {b : Bool} {tg : Tg} {su : SV} (hu : E.get u = some (tg, su)) : a.tmps.getD u undef = .bool b ↔ Tags a ((u, b) :: tg) := by
  constructor
  · intro he
    rcases hr.env u tg su hu with h1 | ⟨_, h2⟩
    · intro x hx
      rcases List.mem_cons.1 hx with rfl | hx
      · exact he
      · exact h1.1 x hx
    · rw [h2] at he; exact absurd he (undef_ne_bool b)
  · intro hT; exact hT (u, b) (by simp)

/-- The row in its own order. -/
theorem Head.wps {Q : Exit → Act → World → Prop} {rest : List Nat} {i n : Nat} {E E' : Env} (hd : Head P nt ops h i n E E') : ∀ {a : Act} {w : World} {F : Fz} {m : Mp}, Rel bs nt w F m E h a →
    (∀ a' w' F', Rel bs nt w' F' m E' h a' → Qt w F w' F' → wpOps P ops Q rest a' w') → wpOps P ops Q (List.range' i (n - i) ++ rest) a w := by
  induction hd with
  | nil n E => intro a w F m hr hk; simp only [Nat.sub_self, List.range'_zero, List.nil_append]; exact hk a w F hr (Qt.refl w F)
  | @plain i n E E' o s ho hg hd hy hr ih =>
    intro a w F m hrel hk
    have hle := hr.le
    rw [show n - i = (n - (i + 1)) + 1 by omega, List.range'_succ, List.cons_append]
    simp only [wpOps, ho]
    rw [if_pos (by simp [Region.wanted, hg])]
    exact .inl (hy a w F m hrel.sim.E (hrel.opd (Tags.nil a) o) _ _ fun v w' F' hv hq => ih (hrel.put hd (Tags.nil a) hq hv) fun a' w'' F'' hr'' hq'' => hk a' w'' F'' hr'' (hq.trans hq''))
  | @guarded i n E E' o s j u b tg su ho hg hj hu hd hy hr ih =>
    intro a w F m hrel hk
    have hle := hr.le
    rw [show n - i = (n - (i + 1)) + 1 by omega, List.range'_succ, List.cons_append]
    simp only [wpOps, ho]
    by_cases hw : a.tmps.getD u undef = .bool b
    · have hT := (hrel.wanted hu).1 hw
      rw [if_pos (by simp [Region.wanted, hg, (yielded_some hj).2 hw])]
      exact .inl (hy a w F m hrel.sim.E (hrel.opd hT o) _ _ fun v w' F' hv hq => ih (hrel.put hd hT hq hv) fun a' w'' F'' hr'' hq'' => hk a' w'' F'' hr'' (hq.trans hq''))
    · have hT : ¬ Tags a ((u, b) :: tg) := fun h => hw ((hrel.wanted hu).2 h)
      rw [if_neg (by simp only [Region.wanted, hg, beq_iff_eq]; exact fun h => hw ((yielded_some hj).1 h))]
      exact ih (hrel.passed hd hT) hk

/-- The operations from number i on, in their own order. -/
structure WL (P : Program) (nt : Nat) (ops : Array Oper) (i : Nat) (E : Env) (h : List Ob) (Q : Exit → Env → List Ob → Prop) : Prop where
  out : ∀ {bs : Nat → Nat} a w F m, Rel bs nt w F m E h a → wpOps P ops (fun x a' w' => ∃ E' h' F' m', Q x E' h' ∧ Rel bs nt w' F' m' E' h' a' ∧ Gr w F m w' F' m') (List.range' i (ops.size - i)) a w

theorem wpOps_mono {Q Q' : Exit → Act → World → Prop} (hQ : ∀ x a w, Q x a w → Q' x a w) : ∀ (l : List Nat) (a : Act) (w : World), wpOps P ops Q l a w → wpOps P ops Q' l a w
  | [], a, w, h => hQ _ _ _ h
  | i :: rest, a, w, h => by
    simp only [wpOps] at h ⊢
    split
    · rename_i ho; simp only [ho] at h; exact wpOps_mono hQ rest a w h
    · rename_i o ho
      simp only [ho] at h
      split
      · rename_i hw
        rw [if_pos hw] at h
        rcases h with h | ⟨h1, a', w', h2⟩
        · left
          unfold Oper.wp at *
          generalize (execOp a.eval o).run P w = r at *
          cases r with
          | ok n w' =>
            cases n <;> simp only [Oper.upon] at h ⊢ <;> first
              | exact wpOps_mono hQ rest _ _ h
              | exact Calls.mono h (fun e w'' he => by
                  cases e
                  · exact wpOps_mono hQ rest _ _ he
                  · exact hQ _ _ _ he
                  · obtain ⟨a, w, hh⟩ := he; exact ⟨a, w, hQ _ _ _ hh⟩)
              | exact Rows.mono h (fun _ _ he => wpOps_mono hQ rest _ _ he)
          | halt x w' => cases x <;> simp only [Oper.upon] at h ⊢ <;> exact hQ _ _ _ h
        · right; exact ⟨h1, a', w', hQ _ _ _ h2⟩
      · rename_i hw
        rw [if_neg hw] at h
        exact wpOps_mono hQ rest _ _ h

/-- What holds of the operations in a function's own activation holds in a round of a range over a function. -/
theorem wpOps_in {l r : Nat} (hp : ∀ (i : Nat) (o : Oper), ops[i]? = some o → opPlain o = true) {Q : Exit → Act → World → Prop} (hQ : ∀ a w, ¬ Q .outgrown a w) : ∀ (is : List Nat) (a : Act) (w : World), wpOps P ops Q is a w → wpOpsIn (Fence.wide.inRound l) r P ops Q is a w
  | [], a, w, h => h
  | i :: rest, a, w, h => by
    simp only [wpOps, wpOpsIn] at h ⊢
    split
    · rename_i ho; simp only [ho] at h; exact wpOps_in hp hQ rest a w h
    · rename_i o ho
      simp only [ho] at h
      split
      · rename_i hw
        rw [if_pos hw] at h
        rcases h with h | ⟨h1, a', w', h2⟩
        · refine ⟨fun _ _ => trivial, ?_⟩
          rw [show o.semAt (Fence.wide.inRound l).round a.eval = execOp a.eval o from Oper.semAt_eq _ _ _ (fun c hc => by have := hp i o ho; rw [opPlain, hc] at this; cases this)]
          unfold Oper.wp at h
          generalize (execOp a.eval o).run P w = x at *
          cases x with
          | ok n w' =>
            cases n <;> simp only [Oper.upon, Oper.uponIn] at h ⊢ <;> first
              | exact wpOps_in hp hQ rest _ _ h
              | exact ⟨fun hd => by simp [Fence.wide] at hd, CallsIn.inRound l (callsIn_wide.2 (Calls.mono h (fun e w'' he => by
                  cases e
                  · exact wpOps_in hp hQ rest _ _ he
                  · exact he
                  · exact he)))⟩
              | exact ⟨fun hd => by simp [Fence.wide] at hd, fun c cs _ => let ⟨v, w2, g1, g2⟩ := h c cs; ⟨v, w2, wpOps_in hp hQ rest _ _ g1, (StepsIn.of_steps g2).mono fun m _ => fenced_wide P m⟩⟩
              | exact h.elim
          | halt x w' => cases x <;> simp only [Oper.upon, Oper.uponIn] at h ⊢ <;> exact h
        · exact absurd h2 (hQ _ _)
      · rename_i hw
        rw [if_neg hw] at h
        exact ⟨fun _ _ => trivial, wpOps_in hp hQ rest _ _ h⟩

theorem NoOut.post {Q : QB} (hn : NoOut Q) {w : World} {F : Fz} {m : Mp} (a : Act) (w' : World) : ¬ Post bs nt Q w F m .outgrown a w' := fun ⟨E, h, _, _, hQ, _⟩ => hn E h hQ
theorem plain_ops {id : Nat} {d : Bool} (hp : plain (.region id ops d) = true) : ∀ (i : Nat) (o : Oper), ops[i]? = some o → opPlain o = true := fun i o ho =>
  List.all_eq_true.1 hp o (Array.mem_toList_iff.2 (Array.mem_of_getElem? ho))

theorem W_region {id : Nat} {Q : QB} (hW : WL P nt ops 0 E h Q) : W P nt (.region id ops false) E h Q :=
  ⟨fun a w F m hr => wp_region (by have := hW.out a w F m hr; rwa [Nat.sub_zero, ← List.range_eq_range'] at this),
   fun hp hn l n a w F m hr => wpIn_region (wpOps_in (plain_ops hp) hn.post _ _ _ (by have := hW.out a w F m hr; rwa [Nat.sub_zero, ← List.range_eq_range'] at this))⟩

theorem WL_head {i n : Nat} {E' : Env} {Q : Exit → Env → List Ob → Prop} (hd : Head P nt ops h i n E E') (hn : Nat.ble n ops.size = true) (hW : WL P nt ops n E' h Q) : WL P nt ops i E h Q := by
  refine ⟨fun a w F m hr => ?_⟩
  have hle := hd.le
  have hn := Nat.le_of_ble_eq_true hn
  have e : List.range' i (ops.size - i) = List.range' i (n - i) ++ List.range' n (ops.size - n) := by
    have h1 := List.range'_append (s := i) (m := n - i) (n := ops.size - n) (step := 1)
    rw [show i + 1 * (n - i) = n by omega, show n - i + (ops.size - n) = ops.size - i by omega] at h1
    exact h1.symm
  rw [e]
  refine hd.wps hr fun a' w' F' hr' hq => ?_
  exact wpOps_mono (fun x a'' w'' ⟨E'', h'', F'', m'', hQ, hrel, hg⟩ => ⟨E'', h'', F'', m'', hQ, hrel, (hq.gr hr.sim).trans hg⟩) _ _ _ (hW.out a' w' F' m hr')

theorem WL_nil {i : Nat} {Q : Exit → Env → List Ob → Prop} (hi : Nat.ble ops.size i = true) (hQ : Q .normal E h) : WL P nt ops i E h Q := by
  refine ⟨fun a w F m hr => ?_⟩
  have hi := Nat.le_of_ble_eq_true hi
  rw [show ops.size - i = 0 by omega]
  exact ⟨E, h, F, m, hQ, hr, Gr.refl _ _ _⟩

/-- An operation that turns what the call owns. -/
def OSt (P : Program) (nt : Nat) (o : Oper) (E : Env) (h : List Ob) (K : Env → List Ob → Prop) : Prop :=
  ∀ {bs : Nat → Nat} a w F m, Rel bs nt w F m E h a → ∀ (N : Act → World → Prop) (Q : Exit → Act → World → Prop), (∀ a' w' E' h' F' m', K E' h' → Rel bs nt w' F' m' E' h' a' → Gr w F m w' F' m' → N a' w') → o.wp P a w N Q

theorem WL_op {i : Nat} {o : Oper} {Q : Exit → Env → List Ob → Prop} (ho : ops[i]? = some o) (hg : o.guard = none) (hs : OSt P nt o E h fun E' h' => WL P nt ops (i + 1) E' h' Q) : WL P nt ops i E h Q := by
  refine ⟨fun a w F m hr => ?_⟩
  have hlt := (Array.getElem?_eq_some_iff.1 ho).1
  rw [show ops.size - i = (ops.size - (i + 1)) + 1 by omega, List.range'_succ]
  simp only [wpOps, ho]
  rw [if_pos (by simp [Region.wanted, hg])]
  refine .inl (hs a w F m hr _ _ fun a' w' E' h' F' m' hK hr' hg' => ?_)
  exact wpOps_mono (fun x a'' w'' ⟨E'', h'', F'', m'', hQ, hrel, hgg⟩ => ⟨E'', h'', F'', m'', hQ, hrel, hg'.trans hgg⟩) _ _ _ (WL.out hK a' w' F' m' hr')

end
end Go.Proofs.YtmjkflppajienaaDoor.R
