/- Struct and slice literals; the one function is right; regions that draw their order; no condition but the typed premises. -/
import Derived.Test.YtmjkflppajienaaDoorRF
namespace Go.Proofs.YtmjkflppajienaaDoor.R
open Go Go.RowKit
set_option linter.unusedVariables false
set_option linter.unusedSimpArgs false

section
variable {P : Program} {T : Tab} {E : Env} {A : Tg} {hp : List Ob} {o : Oper} {s : SV}

theorem partsS_rd {a : Act} {w : World} {F : Fz} {m : Mp} : ∀ {ps : List (Nat × Operand)} {sp : List (Nat × List SV)}, partsS E A T ps = some sp → (∀ x ∈ ps.map (·.2), ∀ s, look E A x = some s → RdS w F m (a.eval x) s) →
    Prt w F m (ps.map fun x => (x.1, a.eval x.2)) sp
  | [], sp, h, _ => by simp only [partsS, Option.some.injEq] at h; subst h; exact .nil
  | (i, x) :: ps, sp, h, hO => by
    simp only [partsS] at h
    split at h
    · rename_i s hs
      split at h
      · rename_i cs r h1 h2
        simp only [Option.some.injEq] at h
        subst h
        obtain ⟨g1, g2⟩ := scells_rd h1 (hO x (by simp) s hs)
        exact .cons g1 g2 (partsS_rd h2 fun y hy => hO y (by simp at hy ⊢; exact .inr hy))
      · cases h
    · cases h

theorem zero_rd {w : World} {F : Fz} {m : Mp} : ∀ {zs : List PV}, zs.all zok = true → RdSL w F m (zs.map zv) (zs.map .p) ∧ (∀ v ∈ zs.map zv, v.oneCell' = true)
  | [], _ => ⟨.nil, by simp⟩
  | z :: zs, h => by
    simp only [List.all_cons, Bool.and_eq_true] at h
    obtain ⟨g1, g2⟩ := zero_rd (w := w) (F := F) (m := m) h.2
    have hz : Rd w F (zv z) z ∧ (zv z).oneCell' = true := by
      cases z with
      | s v => exact ⟨.s v, h.1⟩
      | sl n τ xs =>
        cases xs with
        | nil => exact ⟨.nil n τ, rfl⟩
        | cons x xs => simp [zok] at h
      | pt τ x =>
        cases x with
        | none => exact ⟨.pt0 τ, rfl⟩
        | some x => simp [zok] at h
      | mp κ τ l =>
        cases l with
        | nil => exact ⟨.mp0 κ τ, rfl⟩
        | cons x xs => simp [zok] at h
      | er x =>
        cases x with
        | false => exact ⟨.er0, rfl⟩
        | true => simp [zok] at h
      | agg cs => simp [zok] at h
    refine ⟨.cons (.p hz.1) g1, ?_⟩
    intro v hv
    simp only [List.map_cons, List.mem_cons] at hv
    rcases hv with rfl | hv
    · exact hz.2
    · exact g2 v hv

theorem places_ok (hT : TOk P T) : ∀ {Fs : List Field} {pl : List (Nat × Nat)}, placesS T (Fs.map fun f => (f.offset, f.type)) = some pl → Fs.mapM (fun f => (P.info? f.type).map fun i => (f.offset, i.size)) = some pl
  | [], pl, h => by simp only [List.map_nil, placesS, Option.some.injEq] at h; subst h; rfl
  | f :: Fs, pl, h => by
    simp only [List.map_cons, placesS] at h
    split at h
    · rename_i i r h1 h2
      simp only [Option.some.injEq] at h
      subst h
      obtain ⟨x, hx, h3, _⟩ := (hT _ _ h1).info
      simp [List.mapM_cons, places_ok hT h2, hx, h3]
    · cases h

theorem y_build (hT : TOk P T) {t : Nat} {parts : Array (Nat × Operand)} (ho : o.op = .build t parts) (hr : buildV E A T t parts.toList = some s) : YldS P o E A hp s := by
  refine fun a w F m hs hO => ?_
  have hmem : ∀ x ∈ parts.toList.map (·.2), x ∈ o.op.operands := fun x hx => by rw [ho]; simpa [Op.operands] using hx
  have hev : (parts.map fun (i, x) => (i, a.eval x)).toList = parts.toList.map fun x => (x.1, a.eval x.2) := by rw [Array.toList_map]
  unfold buildV at hr
  split at hr
  · rename_i i hi
    have hti := hT t i hi
    obtain ⟨x, z, hx, hx1, hx2, hz, hzc⟩ := hti.zeros
    have hz0 := zero_rd (w := w) (F := F) (m := m) hti.zok
    split at hr
    · rename_i ps hps
      have hprt := partsS_rd (a := a) (w := w) (F := F) (m := m) hps fun x hx s hs => hO.rd (hmem x hx) hs
      have fin : ∀ {place : Nat → Option (Nat × Nat)} {cs : List SV}, fillS place (i.zero.map .p) ps = some cs → (∀ r, Instr.fill place z.cells (parts.map fun (i, x) => (i, a.eval x)).toList = some r → P.built t (parts.map fun (i, x) => (i, a.eval x)).toList = some r) →
          ∃ v, (execOp a.eval o).run P w = .ok (.value v) w ∧ RdS w F m v (coS (some i) (mkAgg cs)) := by
        intro place cs hf hb
        obtain ⟨r, g1, g2, g3⟩ := fill_rd (cur := z.cells) hf (by rw [hzc]; exact hz0.1) (by rw [hzc]; exact hz0.2) hprt
        rw [← hev] at g1
        refine ⟨.agg r, ?_, coS_rd (by have := mkAgg_rd g3 g2; simpa using this)⟩
        have := run_build (P := P) w t (parts.map fun (i, x) => (i, a.eval x)) r (hb r g1)
        simp [execOp, ho, this]
      split at hr
      · rename_i fs hk
        obtain ⟨Fs, hu, hfs⟩ := hti.struct hk
        split at hr
        · rename_i pl hpl
          split at hr
          · rename_i cs hcs
            simp only [Option.some.injEq] at hr
            subst hr
            refine fin hcs fun r hr => ?_
            have hpm := places_ok hT (by rw [hfs]; exact hpl)
            unfold Program.built
            simp only [hx, hu, hz, hpm]
            simpa using hr
          · cases hr
        · cases hr
      · rename_i n e hk
        have hu := hti.array hk
        split at hr
        · rename_i ei hei
          obtain ⟨y, hy, hy1, _⟩ := (hT e ei hei).info
          split at hr
          · rename_i cs hcs
            simp only [Option.some.injEq] at hr
            subst hr
            refine fin hcs fun r hr => ?_
            unfold Program.built
            simp only [hx, hu, hz, hy, hy1]
            exact hr
          · cases hr
        · cases hr
      · cases hr
    · cases hr
  · cases hr

theorem cells_rd {w : World} {F : Fz} {v : Value} {q : PV} (h : Rd w F v q) (hk : q.ok1 = true) : RdL w F v.cells.toList q.cells ∧ v.cells.size = q.cells.length := by
  cases h with
  | s v => simp only [PV.ok1] at hk; rw [cells_one hk]; exact ⟨.cons hk (.s v) .nil, rfl⟩
  | nil n τ => exact ⟨.cons rfl (.nil n τ) .nil, rfl⟩
  | emp a n τ => exact ⟨.cons rfl (.emp a n τ) .nil, rfl⟩
  | sl hn hc hr => exact ⟨.cons rfl (.sl hn hc hr) .nil, rfl⟩
  | pt0 τ => exact ⟨.cons rfl (.pt0 τ) .nil, rfl⟩
  | pt hr => exact ⟨.cons rfl (.pt hr) .nil, rfl⟩
  | mp0 κ τ => exact ⟨.cons rfl (.mp0 κ τ) .nil, rfl⟩
  | er0 => exact ⟨.cons rfl .er0 .nil, rfl⟩
  | er1 t v => exact ⟨.cons rfl (.er1 t v) .nil, rfl⟩
  | mp hF hb hn hr => exact ⟨.cons rfl (.mp hF hb hn hr) .nil, rfl⟩
  | agg hl => exact ⟨by simpa [Value.cells, PV.cells] using hl, by simpa [Value.cells, PV.cells] using hl.length⟩

theorem elemsV_rd {a : Act} {w : World} {F : Fz} {m : Mp} {ei : TI} : ∀ {ps : List (Nat × Operand)} {k : Nat} {xs : List PV}, elemsV E A ei k ps = some xs → (∀ x ∈ ps.map (·.2), ∀ s, look E A x = some s → RdS w F m (a.eval x) s) →
    ∃ vs : List Value, ps.map (fun x => (x.1, a.eval x.2)) = (vs.zipIdx k).map (fun x => (x.2, x.1)) ∧ vs.length = xs.length ∧ (∀ v ∈ vs, v.cells.size = ei.size) ∧ RdL w F (vs.flatMap fun v => v.cells.toList) (xs.flatMap PV.cells) ∧ (∀ x ∈ xs, x.cells.length = ei.size)
  | [], k, xs, h, _ => by simp only [elemsV, Option.some.injEq] at h; subst h; exact ⟨[], rfl, rfl, by simp, .nil, by simp⟩
  | (i, x) :: ps, k, xs, h, hO => by
    simp only [elemsV] at h
    cases hb : Nat.beq i k with
    | false => rw [hb] at h; simp at h
    | true =>
      rw [hb] at h
      simp only [cond_true] at h
      obtain rfl := Nat.eq_of_beq_eq_true hb
      split at h
      · rename_i s hs
        split at h
        · rename_i q r h1 h2
          cases hc : Nat.beq (coP (some ei) q).cells.length ei.size && (coP (some ei) q).ok1 with
          | false => rw [hc] at h; simp at h
          | true =>
            rw [hc] at h
            simp only [cond_true, Option.some.injEq] at h
            subst h
            simp only [Bool.and_eq_true] at hc
            have e1 := Nat.eq_of_beq_eq_true hc.1
            obtain ⟨vs, g1, g2, g3, g4, g5⟩ := elemsV_rd (a := a) (w := w) (F := F) (m := m) h2 fun y hy => hO y (by simp at hy ⊢; exact .inr hy)
            obtain ⟨c1, c2⟩ := cells_rd (coP_rd (i := some ei) (pur_rd h1 (hO x (by simp) s hs))) hc.2
            refine ⟨a.eval x :: vs, by simp [List.zipIdx_cons, g1], by simp [g2], ?_, by simpa using c1.append g4, ?_⟩
            · intro v hv
              rcases List.mem_cons.1 hv with rfl | hv
              · rw [c2, e1]
              · exact g3 v hv
            · intro y hy
              rcases List.mem_cons.1 hy with rfl | hy
              · exact e1
              · exact g5 y hy
        · cases h
      · cases h

/-- A slice literal: a new block of just its cells. -/
theorem lit_run (hT : TOk P T) {t len e n : Nat} {xs : List PV} {parts : Array (Nat × Operand)} (ho : o.op = .buildSlice t len parts) (hr : litV E A T t len parts.toList = some (e, n, xs)) {a : Act} {w : World} {F : Fz} {m : Mp} (hO : Opd E A o a w F m) :
    ∃ cells : Array Value, (execOp a.eval o).run P w = .ok (.value (.slice (some ⟨w.heap.size, 0, none⟩) xs.length xs.length)) (w.alloc (.cells cells e)) ∧ RdL w F cells.toList (xs.flatMap PV.cells) ∧ cells.size = xs.length * n ∧
      (∀ x ∈ xs, x.cells.length = n) ∧ xs.length ≤ 16777216 := by
  have hmem : ∀ x ∈ parts.toList.map (·.2), x ∈ o.op.operands := fun x hx => by rw [ho]; simpa [Op.operands] using hx
  have hev : (parts.map fun (i, x) => (i, a.eval x)).toList = parts.toList.map fun x => (x.1, a.eval x.2) := by rw [Array.toList_map]
  unfold litV at hr
  split at hr
  · rename_i e' hk
    split at hr
    · rename_i ei hei
      cases hb : Nat.beq parts.toList.length len && Nat.blt 0 ei.size && Nat.ble (len * ei.size) 16777216 with
      | false => rw [hb] at hr; simp at hr
      | true =>
        rw [hb] at hr
        simp only [cond_true] at hr
        simp only [Bool.and_eq_true] at hb
        have b1 := Nat.eq_of_beq_eq_true hb.1.1
        have b2 : 0 < ei.size := of_blt hb.1.2
        have b3 : len * ei.size ≤ 16777216 := Nat.le_of_ble_eq_true hb.2
        split at hr
        · rename_i xs' hxs
          simp only [Option.some.injEq, Prod.mk.injEq] at hr
          obtain ⟨rfl, rfl, rfl⟩ := hr
          obtain ⟨vs, g1, g2, g3, g4, g5⟩ := elemsV_rd (a := a) (w := w) (F := F) (m := m) hxs fun x hx s hs => hO.rd (hmem x hx) hs
          obtain ⟨ti, hti, htk⟩ := kOf_ti (T := T) (t := t) (by rw [hk]; simp)
          have hu := (hT t ti hti).slice (htk.trans hk)
          obtain ⟨x, z, hx, hx1, hx2, hz, hzc⟩ := (hT e' ei hei).zeros
          have hlen : len = vs.length := by
            have := congrArg List.length g1
            simp at this
            simp at b1
            omega
          have hlx : xs'.length = len := by omega
          have hfl : (vs.flatMap fun v => v.cells.toList).length = vs.length * ei.size := by
            have : ∀ l : List Value, (∀ v ∈ l, v.cells.size = ei.size) → (l.flatMap fun v => v.cells.toList).length = l.length * ei.size := by
              intro l
              induction l with
              | nil => intro _; simp
              | cons v l ih =>
                intro h
                rw [List.flatMap_cons, List.length_append, ih (fun u hu => h u (by simp [hu])), List.length_cons, Nat.succ_mul]
                have := h v (by simp)
                simp [this]; omega
            exact this vs g3
          refine ⟨(vs.flatMap fun v => v.cells.toList).toArray, ?_, by simpa using g4, by simp only [List.size_toArray, hfl]; rw [hlx, hlen], g5, ?_⟩
          · by_cases h0 : len = 0
            · have hv0 : vs = [] := List.eq_nil_of_length_eq_zero (by omega)
              have hp0 : parts = #[] := by
                have : parts.toList = [] := List.eq_nil_of_length_eq_zero (by omega)
                exact Array.toList_eq_nil_iff.1 this
              subst hv0
              subst hp0
              have hx0 : xs' = [] := List.eq_nil_of_length_eq_zero (by omega)
              subst hx0
              subst h0
              simp [execOp, ho, Instr.buildSlice, run_underlying hu, sizeOf, typeInfo, hx, newRow, Instr.fill, Array.range_zero']
            · have hpos : ¬ len * x.size = 0 := by
                rw [hx1]
                exact fun h => by rcases Nat.mul_eq_zero.1 h with h | h <;> omega
              have hfill := Great.fill_whole (s := x.size) (by omega) vs ((Array.range (len * x.size)).map (z.cells[· % z.cells.size]!)) (by intro v hv; rw [g3 v hv, hx1]) (by simp [hlen])
              rw [← g1] at hfill
              have hsm : ¬ len * x.size > 2 ^ 24 := by rw [hx1]; omega
              simp [execOp, ho, Instr.buildSlice, run_underlying hu, sizeOf, typeInfo, zeroValue, hx, hz, hsm, hpos, hfill, newRow, hlx]
          · have : len * 1 ≤ len * ei.size := Nat.mul_le_mul_left _ b2
            omega
        · cases hr
    · cases hr
  · cases hr

theorem Ext.alloc {w : World} {F : Fz} (hf : ∀ b o, F b o → b < w.heap.size) (o : Obj) : Ext w F (w.alloc o) (fun b i => F b i ∨ b = w.heap.size) :=
  fun b i h => ⟨.inl h, cell_of_heap (Below.heap_alloc w o b (hf b i h))⟩

/-- A new block of cells reads as they do. -/
theorem RdC.new {w : World} {F : Fz} (hf : ∀ b o, F b o → b < w.heap.size) {cells : Array Value} {e : Nat} {qs : List PV} (h : RdL w F cells.toList qs) :
    RdC (w.alloc (.cells cells e)) (fun b i => F b i ∨ b = w.heap.size) w.heap.size 0 qs := by
  refine RdC.of_vals (h.ext (Ext.alloc hf _)) (fun j v hj => ?_) fun j _ => .inr rfl
  rw [Nat.zero_add, World.cell?_alloc_new]
  simpa using hj

theorem y_lit (hT : TOk P T) {t len e n : Nat} {qs : List PV} {parts : Array (Nat × Operand)} (ho : o.op = .buildSlice t len parts) (hr : litV E A T t len parts.toList = some (e, n, qs)) (τ : Ty) (xs : List τ.den) (hx : xs.map τ.enc = qs) : Yld P o E A hp (.p (.sl n τ xs)) := by
  refine .of_run fun a w F m hs hO => ?_
  subst hx
  obtain ⟨cells, h1, h2, h3, h4, h5⟩ := lit_run hT ho hr hO
  rw [List.length_map] at h1
  exact ⟨_, _, _, h1, .p (.sl h4 (Nat.le_refl _) (RdC.new hs.fl h2)), Qt.alloc w F _⟩

theorem evOp_yldS (hT : TOk P T) (h : evOp T E A hp o = some s) : YldS P o E A hp s := by
  unfold evOp at h
  split at h
  · rename_i x ho; split at h
    · rename_i s' hs; simp only [Option.some.injEq] at h; subst h; exact y_move hT (.inl ho) hs
    · cases h
  · rename_i x ho; split at h
    · rename_i s' hs; simp only [Option.some.injEq] at h; subst h; exact y_move hT (.inr ho) hs
    · cases h
  · rename_i u a b ho; split at h
    · rename_i t ht; exact y_pick ho ht h
    · cases h
  · rename_i op xt x y yt ho; split at h
    · rename_i u v hu hv; split at h
      · rename_i r hr; simp only [Option.some.injEq] at h; subst h; exact y_bin hT ho hu hv hr
      · cases h
    · cases h
  · rename_i op xt x ho; split at h
    · rename_i u hu; split at h
      · rename_i r hr; simp only [Option.some.injEq] at h; subst h; exact y_un ho hu hr
      · cases h
    · cases h
  · rename_i src dst x ho; split at h
    · rename_i s' hs; exact y_conv hT ho hs h
    · cases h
  · rename_i x i ho; split at h
    · rename_i ss hs; exact y_extract ho hs h
    · cases h
  · rename_i t x f ho; split at h
    · rename_i off i ft hf; split at h
      · rename_i cs hs; simp only [Option.some.injEq] at h; subst h; exact (y_fieldAddr hT ho hf).1 cs hs
      · rename_i b d hs; simp only [Option.some.injEq] at h; subst h; exact (y_fieldAddr hT ho hf).2 b d hs
      · cases h
    · cases h
  · rename_i t x f ho; split at h
    · rename_i off i ft hf; split at h
      · rename_i v hs; exact y_field hT ho hf hs h
      · cases h
    · cases h
  · rename_i t x ho; split at h
    · rename_i i hi; split at h
      · rename_i cs hs; exact (y_load hT ho hi).1 cs hs h
      · rename_i b d hs; split at h
        · rename_i cs hcs; exact (y_load hT ho hi).2 b d _ cs hs hcs h
        · cases h
      · cases h
    · cases h
  · rename_i t parts ho; exact y_build hT ho h
  · rename_i c ho; split at h
    · rename_i b hc; split at h
      · rename_i ss hs; exact y_call hT ho hc hs h
      · cases h
    · cases h
  · rename_i f fs cs ho; split at h
    · rename_i hf; split at h
      · rename_i ss hs; simp only [Option.some.injEq] at h; subst h; exact y_func ho hf hs
      · cases h
    · cases h
  · rename_i x ho; split at h
    · rename_i b d hs; simp only [Option.some.injEq] at h; subst h; exact y_nilCheck ho (.inl ⟨b, d, rfl⟩) hs
    · rename_i cs hs; simp only [Option.some.injEq] at h; subst h; exact y_nilCheck ho (.inr ⟨cs, rfl⟩) hs
    · cases h
  · cases h
theorem evOp_yld (hT : TOk P T) (h : evOp T E A hp o = some s) : Yld P o E A hp s := (evOp_yldS hT h).toYld
end

/-! ### Runs of operations -/
/-- The store behind the operations from number i on, k of them. -/
def evRun (T : Tab) (nt : Nat) (ops : Array Oper) (h : List Ob) : Nat → Nat → Env → Option Env
  | 0, _, E => some E
  | k + 1, i, E => match ops[i]? with
    | none => none
    | some o => match o.guard with
      | none => match evOp T E [] h o with
        | some s => bif dstOk nt E [] o.dst then evRun T nt ops h k (i + 1) (E.putO o.dst [] s) else none
        | none => none
      | some (j, b) => match (ops[j]?).bind (·.dst) with
        | none => none
        | some u => match E.get u with
          | none => none
          | some (tg, _) => match evOp T E ((u, b) :: tg) h o with
            | some s => bif dstOk nt E ((u, b) :: tg) o.dst then evRun T nt ops h k (i + 1) (E.putO o.dst ((u, b) :: tg) s) else none
            | none => none

theorem evRun_head {P : Program} {T : Tab} (hT : TOk P T) {nt : Nat} {ops : Array Oper} {h : List Ob} : ∀ {k i : Nat} {E E' : Env}, evRun T nt ops h k i E = some E' → Head P nt ops h i (i + k) E E'
  | 0, i, E, E', he => by simp only [evRun, Option.some.injEq] at he; subst he; exact .nil i E
  | k + 1, i, E, E', he => by
    simp only [evRun] at he
    split at he
    · cases he
    · rename_i o ho
      split at he
      · rename_i hg
        split at he
        · rename_i s hs
          cases hd : dstOk nt E [] o.dst with
          | false => rw [hd] at he; simp at he
          | true =>
            rw [hd] at he
            have := evRun_head hT he
            rw [show i + 1 + k = i + (k + 1) by omega] at this
            exact .plain ho hg hd (evOp_yld hT hs) this
        · cases he
      · rename_i j b hg
        split at he
        · cases he
        · rename_i u hu
          split at he
          · cases he
          · rename_i tg su hsu
            split at he
            · rename_i s hs
              cases hd : dstOk nt E ((u, b) :: tg) o.dst with
              | false => rw [hd] at he; simp at he
              | true =>
                rw [hd] at he
                have := evRun_head hT he
                rw [show i + 1 + k = i + (k + 1) by omega] at this
                exact .guarded ho hg hu hsu hd (evOp_yld hT hs) this
            · cases he
end Go.Proofs.YtmjkflppajienaaDoor.R
