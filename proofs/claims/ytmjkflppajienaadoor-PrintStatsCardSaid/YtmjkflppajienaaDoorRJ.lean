/- New things that the call owns, and stores into them; the walk of a function; no condition but the typed premises. -/
import Derived.Test.YtmjkflppajienaaDoorRI
import Derived.RangeFuncLeaves
import Derived.RangeFuncRecord
namespace Go.Proofs.YtmjkflppajienaaDoor.R
open Go Go.RowKit
set_option linter.unusedVariables false
set_option linter.unusedSimpArgs false
variable {bs : Nat → Nat}

/-- What becomes of memory where a new thing is made. -/
structure Nw (w : World) (F : Fz) (w' : World) (F' : Fz) (p : Pl) : Prop where
  os : w'.os = w.os
  tape : w'.tape = w.tape
  output : w'.output = w.output
  size : w.heap.size ≤ w'.heap.size
  ext : ∀ b o, F b o → F' b o
  block : ∀ b, b < w.heap.size → w'.heap[b]? = w.heap[b]?
  fl : ∀ b o, F' b o → F b o ∨ (w.heap.size ≤ b ∧ b < w'.heap.size)
  pl : ∀ b, p.blk = some b → w.heap.size ≤ b ∧ b < w'.heap.size
  fr : ∀ b o, F' b o → ¬ p.has b o

section
variable {nt : Nat} {E : Env} {h : List Ob}

theorem Rel.new {w w' : World} {F F' : Fz} {m : Mp} {a : Act} {j d : Nat} {p : Pl} {s : SV} {v : Value} {ob : Ob} (hr : Rel bs nt w F m E h a) (hj : h.length = j) (hd : dstOk nt E [] (some d) = true)
    (k : Nw w F w' F' p) (hob : match ob with
      | .tail => ∀ b, p ≠ .obj b
      | .mark => False
      | .pin _ => False
      | ob => ∃ b x, p = .obj b ∧ w'.heap[b]? = some x ∧ RdO w' F' (upd m j p) x ob)
    (hv : RdS w' F' (upd m j p) v s) :
    Rel bs nt w' F' (upd m j p) ((d, [], s) :: E) (h ++ [ob]) (a.put (some d) v) ∧ Gr w F m w' F' (upd m j p) := by
  subst hj
  simp only [dstOk, Bool.and_eq_true] at hd
  obtain ⟨⟨hd1, hd2⟩, hd3⟩ := hd
  have hdlt : d < nt := of_blt hd1
  have sim := hr.sim
  have hfree : m h.length = .free := sim.dom _ (Nat.le_refl _)
  have hext : Ext w F w' F' := fun b o hF => ⟨k.ext b o hF, cell_of_heap (k.block b (sim.fl b o hF))⟩
  have hsame : ∀ i, m i ≠ .free → Same w m w' (upd m h.length p) i := fun i hi => by
    have hne : i ≠ h.length := by rintro rfl; exact hi hfree
    exact ⟨upd_other hne, fun b lo hb => k.block b (sim.lt i b (by simp [hb, Pl.blk]))⟩
  have hdf : Dfr w' (upd m h.length p) (h ++ [ob]) (a.put (some d) v).defers := hr.defers.same fun i D h1 h2 h3 _ => by
    have hlt := (List.getElem?_eq_some_iff.1 h1).1
    exact ⟨by rw [List.getElem?_append_left hlt]; exact h1, (upd_other (by omega)).trans h2, k.block D h3⟩
  refine ⟨⟨by simp [Act.put, hr.size], hdf, fun t tg' s' ht => ?_, ?_⟩, ⟨k.os, k.tape, k.output, k.size, hext, fun b hb hm => k.block b hb, fun i b o hh hb => ?_, fun b o hF => ?_⟩⟩
  · simp only [Env.get] at ht
    cases hb : Nat.beq d t with
    | true =>
      rw [hb] at ht
      simp only [cond_true, Option.some.injEq, Prod.mk.injEq] at ht
      obtain ⟨rfl, rfl⟩ := ht
      obtain rfl := Nat.eq_of_beq_eq_true hb
      exact .inl ⟨Tags.nil _, by rw [put_getD_same (by rw [hr.size]; exact hdlt)]; exact hv⟩
    | false =>
      rw [hb] at ht
      simp only [cond_false] at ht
      have hne : t ≠ d := by rintro rfl; simp [Nat.beq_refl] at hb
      rw [put_getD hne, tags_put (Env.free_get hd2 ht)]
      exact (hr.env t tg' s' ht).imp (fun h => ⟨h.1, h.2.keep hext fun i _ hi => hsame i hi⟩) id
  · refine ⟨fun b o hF => ?_, fun i b hi => ?_, fun i b o hF hh => ?_, fun i i' b hi hi' => ?_, fun i hi => ?_, fun i o hi ho => ?_, fun i hi b => ?_, fun k i hi => ?_, hext.kn sim.kn⟩
    · rcases k.fl b o hF with h1 | h1
      · exact Nat.lt_of_lt_of_le (sim.fl b o h1) k.size
      · exact h1.2
    · by_cases hij : i = h.length
      · subst hij
        rw [upd_same] at hi
        exact (k.pl b hi).2
      · rw [upd_other hij] at hi
        exact Nat.lt_of_lt_of_le (sim.lt i b hi) k.size
    · by_cases hij : i = h.length
      · subst hij
        rw [upd_same] at hh
        exact k.fr b o hF hh
      · rw [upd_other hij] at hh
        rcases k.fl b o hF with h1 | h1
        · exact sim.fr i b o h1 hh
        · have := sim.lt i b (Pl.has_blk hh); omega
    · by_cases hij : i = h.length
      · by_cases hij' : i' = h.length
        · rw [hij, hij']
        · subst hij
          rw [upd_same] at hi
          rw [upd_other hij'] at hi'
          have := sim.lt i' b hi'
          have := k.pl b hi
          omega
      · by_cases hij' : i' = h.length
        · subst hij'
          rw [upd_same] at hi'
          rw [upd_other hij] at hi
          have := sim.lt i b hi
          have := k.pl b hi'
          omega
        · rw [upd_other hij] at hi
          rw [upd_other hij'] at hi'
          exact sim.inj i i' b hi hi'
    · simp at hi
      rw [upd_other (by omega)]
      exact sim.dom i (by omega)
    · by_cases hij : i = h.length
      · subst hij
        rw [List.getElem?_concat_length] at hi
        simp only [Option.some.injEq] at hi
        subst hi
        have hob' : ∃ b x, p = .obj b ∧ w'.heap[b]? = some x ∧ RdO w' F' (upd m h.length p) x ob := by cases ob <;> simp [Ob.isO] at ho <;> exact hob
        obtain ⟨b, x, g1, g2, g3⟩ := hob'
        exact ⟨b, x, by rw [upd_same]; exact g1, g2, g3⟩
      · have hlt := (List.getElem?_eq_some_iff.1 hi).1
        simp at hlt
        rw [List.getElem?_append_left (by omega)] at hi
        obtain ⟨b, x, g1, g2, g3⟩ := sim.obj i o hi ho
        exact ⟨b, x, by rw [upd_other hij]; exact g1, (k.block b (sim.lt i b (by simp [g1, Pl.blk]))).trans g2, g3.keep hext fun i _ hi => hsame i hi⟩
    · by_cases hij : i = h.length
      · subst hij
        rw [List.getElem?_concat_length] at hi
        simp only [Option.some.injEq] at hi
        subst hi
        rw [upd_same]
        exact hob b
      · have hlt := (List.getElem?_eq_some_iff.1 hi).1
        simp at hlt
        rw [List.getElem?_append_left (by omega)] at hi
        rw [upd_other hij]
        exact sim.tl i hi b
    · by_cases hk : k = h.length
      · subst hk
        rw [List.getElem?_concat_length] at hi
        simp only [Option.some.injEq] at hi
        subst hi
        exact hob.elim
      · have hlt := (List.getElem?_eq_some_iff.1 hi).1
        simp at hlt
        rw [List.getElem?_append_left (by omega)] at hi
        have h1 := sim.pn k i hi
        rw [upd_other (by rintro rfl; rw [hfree] at h1; cases h1)]
        exact h1
  · by_cases hij : i = h.length
    · subst hij
      rw [upd_same] at hh
      have := k.pl b (Pl.has_blk hh)
      omega
    · rw [upd_other hij] at hh; exact ⟨i, hh⟩
  · rcases k.fl b o hF with h1 | h1
    · exact .inl h1
    · exact .inr (.inl h1.1)
end

theorem Nw.refl (w : World) (F : Fz) : Nw w F w F .no := ⟨rfl, rfl, rfl, Nat.le_refl _, fun _ _ h => h, fun _ _ => rfl, fun _ _ h => .inl h, fun b h => by simp [Pl.blk] at h, fun b o _ h => h⟩

/-- A new block of the call's own. -/
theorem Nw.alloc {w : World} {F : Fz} (hf : ∀ b o, F b o → b < w.heap.size) (o : Obj) : Nw w F (w.alloc o) F (.obj w.heap.size) :=
  ⟨rfl, rfl, rfl, by simp, fun _ _ h => h, fun b hb => Below.heap_alloc w o b hb, fun _ _ h => .inl h, fun b h => by simp only [Pl.blk, Option.some.injEq] at h; subst h; exact ⟨Nat.le_refl _, by simp⟩,
    fun b i hF hh => by have := hf b i hF; have e : w.heap.size = b := hh; omega⟩

section
variable {P : Program} {T : Tab} {nt i d j : Nat} {ops : Array Oper} {E E1 : Env} {h h1 : List Ob} {Q : Exit → Env → List Ob → Prop} {o : Oper}

/-- A nil slice, as one that the call owns. -/
theorem WL_nilOwn (hT : TOk P T) {e : Nat} {ei : TI} (τ : Ty) (hW : WL P nt ops (i + 1) E1 h1 Q) (hoi : ops[i]? = some o) (hg : o.guard = none) (ho : o.op = .assign (.const (.slice none 0 0)) ∨ o.op = .move (.const (.slice none 0 0))) (hd : o.dst = some d)
    (he : T e = some ei) (hok : dstOk nt E [] (some d) = true) (hj : h.length = j) (hE : (d, [], SV.own e ei.size τ [] j) :: E = E1) (hh : h ++ [.tail] = h1) : WL P nt ops i E h Q := by
  refine WL_op hoi hg fun a w F m hr N Q hN => ?_
  subst hE hh
  obtain ⟨r1, r2⟩ := hr.new (ob := .tail) (v := .slice none 0 0) hj hok (Nw.refl w F) (fun b h => by cases h) (s := .own e ei.size τ [] j) (.own0 upd_same)
  unfold Oper.wp
  have hrun : (execOp a.eval o).run P w = .ok (.value (.slice none 0 0)) w := by rcases ho with ho | ho <;> simp [execOp, ho, Act.eval]
  rw [hrun]
  simp only [Oper.upon, hd]
  exact hN _ _ _ _ _ _ hW r1 r2

/-- A variable of its own, with a value. -/
theorem WL_box {t : Nat} {x : Operand} {s : SV} {cs : List SV} (hW : WL P nt ops (i + 1) E1 h1 Q) (hoi : ops[i]? = some o) (hg : o.guard = none) (ho : o.op = .box t x) (hd : o.dst = some d)
    (hx : look E [] x = some s) (hc : scells (coS (T t) s) = some cs) (hok : dstOk nt E [] (some d) = true) (hj : h.length = j) (hE : (d, [], SV.ptr j 0) :: E = E1) (hh : h ++ [.cells t cs] = h1) : WL P nt ops i E h Q := by
  refine WL_op hoi hg fun a w F m hr N Q hN => ?_
  subst hE hh
  have rx := (hr.opd (Tags.nil a) o).rd (by simp [ho, Op.operands]) hx
  obtain ⟨g1, g2⟩ := scells_rd hc (coS_rd (i := T t) rx)
  have sim := hr.sim
  have hfree : m j = .free := sim.dom _ (by omega)
  have hext : Ext w F (w.alloc (.cells (a.eval x).cells t)) F := fun b o hF => ⟨hF, cell_of_heap (Below.heap_alloc w _ b (sim.fl b o hF))⟩
  obtain ⟨r1, r2⟩ := hr.new (ob := .cells t cs) (v := .pointer (some ⟨w.heap.size, 0, none⟩)) hj hok (Nw.alloc sim.fl (.cells (a.eval x).cells t))
    ⟨w.heap.size, _, rfl, heap_alloc_new w _, .cells (g1.keep hext fun i _ hi => ⟨upd_other (by rintro rfl; exact hi hfree), fun b lo hb => Below.heap_alloc w _ b (sim.lt i b (by simp [hb, Pl.blk]))⟩) g2⟩
    (s := .ptr j 0) (.ptr upd_same)
  unfold Oper.wp
  have hrun : (execOp a.eval o).run P w = .ok (.value (.pointer (some ⟨w.heap.size, 0, none⟩))) (w.alloc (.cells (a.eval x).cells t)) := by simp [execOp, ho, Instr.box, newVar, newRow]
  rw [hrun]
  simp only [Oper.upon, hd]
  exact hN _ _ _ _ _ _ hW r1 r2

/-- A variable of its own, zero. -/
theorem WL_alloc (hT : TOk P T) {t : Nat} {ti : TI} (hW : WL P nt ops (i + 1) E1 h1 Q) (hoi : ops[i]? = some o) (hg : o.guard = none) (ho : o.op = .alloc t) (hd : o.dst = some d)
    (ht : T t = some ti) (hok : dstOk nt E [] (some d) = true) (hj : h.length = j) (hE : (d, [], SV.ptr j 0) :: E = E1) (hh : h ++ [.cells t (ti.zero.map .p)] = h1) : WL P nt ops i E h Q := by
  refine WL_op hoi hg fun a w F m hr N Q hN => ?_
  subst hE hh
  have sim := hr.sim
  have hti := hT t ti ht
  obtain ⟨inf, z, hi, hi1, hi2, hz, hzc⟩ := hti.zeros
  obtain ⟨g1, g2⟩ := zero_rd (w := w.alloc (.cells z.cells t)) (F := F) (m := upd m j (.obj w.heap.size)) hti.zok
  obtain ⟨r1, r2⟩ := hr.new (ob := .cells t (ti.zero.map .p)) (v := .pointer (some ⟨w.heap.size, 0, none⟩)) hj hok (Nw.alloc sim.fl (.cells z.cells t))
    ⟨w.heap.size, _, rfl, heap_alloc_new w _, .cells (by rw [hzc]; exact g1) (by rw [hzc]; exact g2)⟩ (s := .ptr j 0) (.ptr upd_same)
  unfold Oper.wp
  have hrun : (execOp a.eval o).run P w = .ok (.value (.pointer (some ⟨w.heap.size, 0, none⟩))) (w.alloc (.cells z.cells t)) := by simp [execOp, ho, Instr.alloc, zeroValue, typeInfo, hi, hz, newVar, newRow]
  rw [hrun]
  simp only [Oper.upon, hd]
  exact hN _ _ _ _ _ _ hW r1 r2

/-- A slice literal, as a slice that the call owns. -/
theorem WL_litOwn (hT : TOk P T) {t e n len : Nat} {qs : List PV} (τ : Ty) (xs : List τ.den) {parts : Array (Nat × Operand)} (hW : WL P nt ops (i + 1) E1 h1 Q) (hoi : ops[i]? = some o) (hg : o.guard = none) (ho : o.op = .buildSlice t len parts) (hd : o.dst = some d)
    (hl : litV E [] T t len parts.toList = some (e, n, qs)) (hx : xs.map τ.enc = qs) (hok : dstOk nt E [] (some d) = true) (hj : h.length = j) (hE : (d, [], SV.own e n τ xs j) :: E = E1) (hh : h ++ [.tail] = h1) : WL P nt ops i E h Q := by
  refine WL_op hoi hg fun a w F m hr N Q hN => ?_
  subst hE hh
  have sim := hr.sim
  subst hx
  obtain ⟨cells, c1, c2, c3, c4, c5⟩ := lit_run hT ho hl (hr.opd (Tags.nil a) o)
  rw [List.length_map] at c1 c3 c5
  have hlen : ((xs.map τ.enc).flatMap PV.cells).length = xs.length * n := by rw [flat_length c4, List.length_map]
  have hext : Ext w F (w.alloc (.cells cells e)) (fun b i => F b i ∨ (b = w.heap.size ∧ i < xs.length * n)) := fun b o hF => ⟨.inl hF, cell_of_heap (Below.heap_alloc w _ b (sim.fl b o hF))⟩
  obtain ⟨r1, r2⟩ := hr.new (ob := .tail) (F' := fun b i => F b i ∨ (b = w.heap.size ∧ i < xs.length * n)) (p := .tail w.heap.size (xs.length * n)) (v := .slice (some ⟨w.heap.size, 0, none⟩) xs.length xs.length) hj hok
    (w' := w.alloc (.cells cells e)) ⟨rfl, rfl, rfl, by simp, fun _ _ h => .inl h, fun b hb => Below.heap_alloc w _ b hb, fun b o hF => by
        rcases hF with h | ⟨rfl, _⟩
        · exact .inl h
        · exact .inr ⟨Nat.le_refl _, by simp⟩, fun b hb => by simp only [Pl.blk, Option.some.injEq] at hb; subst hb; exact ⟨Nat.le_refl _, by simp⟩, fun b o hF hh => by
        obtain ⟨rfl, hh⟩ := hh
        rcases hF with h | ⟨_, h⟩
        · exact absurd (sim.fl _ _ h) (Nat.lt_irrefl _)
        · omega⟩ (fun b h => by cases h) (s := .own e n τ xs j) (.own c4 (by
          refine RdC.of_vals (c2.ext hext) (fun k u hk => ?_) fun k hk => .inr ⟨rfl, by rw [hlen] at hk; omega⟩
          rw [Nat.zero_add, World.cell?_alloc_new]
          simpa using hk) upd_same (heap_alloc_new w _) (Nat.le_refl _) (by simp only [maxLen]; omega) c3)
  unfold Oper.wp
  rw [c1]
  simp only [Oper.upon, hd]
  exact hN _ _ _ _ _ _ hW r1 r2

/-- A slice with no spare cells told apart: x[:h:h], as one that the call owns. -/
theorem WL_exact (hT : TOk P T) {t e n : Nat} {x y z : Operand} {sx : SV} {τ : Ty} {xs : List τ.den} {ei : TI} {k k' : IntKind} {hi : Int} (hW : WL P nt ops (i + 1) E1 h1 Q) (hoi : ops[i]? = some o) (hg : o.guard = none) (ho : o.op = .slice t x none (some y) (some z)) (hd : o.dst = some d)
    (hk : kOf T t = .sl e) (he : T e = some ei) (hn : ei.size = n) (hx : look E [] x = some sx) (hq : pur sx = some (.sl n τ xs)) (hy : look E [] y = some (.p (.s (.int k hi)))) (hz : look E [] z = some (.p (.s (.int k' hi))))
    (hok : dstOk nt E [] (some d) = true) (hj : h.length = j) (hE : (d, [], SV.own e n τ (xs.take hi.toNat) j) :: E = E1) (hh : h ++ [.tail] = h1) (h0 : 0 ≤ hi) (h2 : hi ≤ (xs.length : Int)) : WL P nt ops i E h Q := by
  refine WL_op hoi hg fun a w F m hr N Q hN => ?_
  subst hE hh hn
  have sim := hr.sim
  have hO := hr.opd (Tags.nil a) o
  have ex := pur_rd hq (hO.rd (by simp [ho, Op.operands]) hx)
  have ey := rd_s (hO.rd (by simp [ho, Op.operands]) hy)
  have ez := rd_s (hO.rd (by simp [ho, Op.operands]) hz)
  obtain ⟨ti, hti, htk⟩ := kOf_ti (T := T) (t := t) (by rw [hk]; simp)
  have hu := (hT t ti hti).slice (htk.trans hk)
  obtain ⟨inf, hi1, hi2, _⟩ := (hT e ei he).info
  have fin : ∀ v, (execOp a.eval o).run P w = .ok (.value v) w → RdS w F (upd m j .no) v (.own e ei.size τ (xs.take hi.toNat) j) → o.wp P a w N Q := by
    intro v hrun hv
    obtain ⟨r1, r2⟩ := hr.new (ob := .tail) (v := v) hj hok (Nw.refl w F) (fun b h => by cases h) hv
    unfold Oper.wp
    rw [hrun]
    simp only [Oper.upon, hd]
    exact hN _ _ _ _ _ _ hW r1 r2
  generalize hv : a.eval x = v at ex
  have run : ∀ (ad : Option Addr) (cap : Nat), xs.length ≤ cap → (execOp a.eval o).run P w = .ok (.value (.slice (if hi.toNat = 0 then ad else ad.map (·.add 0)) hi.toNat hi.toNat)) w ∨ v ≠ .slice ad xs.length cap := by
    intro ad cap hc
    by_cases hvv : v = .slice ad xs.length cap
    · left
      subst hvv
      have g2 : hi ≤ (cap : Int) := by omega
      have g3 : hi ≤ ((hi.toNat : Nat) : Int) := by omega
      have g5 : ¬ max hi 0 < hi := by omega
      simp [execOp, ho, hv, ey, ez, Instr.sliceAt, Instr.slice, Instr.sliceBounds, Instr.sliceBound, asIntOf, run_underlying hu, h0, g2, g3, g5, sizeOf, typeInfo, hi1, hi2]
    · exact .inr hvv
  cases ex with
  | nil nn =>
    have r := (run none 0 (by simp)).resolve_right (by simp)
    have e1 : hi.toNat = 0 := by simp at h2; omega
    rw [e1] at r
    refine fin _ r ?_
    rw [e1]
    exact .own0 upd_same
  | emp ad nn =>
    have r := (run (some ad) 0 (by simp)).resolve_right (by simp)
    have e1 : hi.toNat = 0 := by simp at h2; omega
    rw [e1] at r
    refine fin _ r ?_
    rw [e1]
    exact .owne _ upd_same
  | @sl b off cap _ _ _ hn hc hr' =>
    have r := (run (some ⟨b, off, none⟩) cap hc).resolve_right (by simp)
    have e3 : (if hi.toNat = 0 then some (⟨b, off, none⟩ : Addr) else (some (⟨b, off, none⟩ : Addr)).map (·.add 0)) = some ⟨b, off, none⟩ := by split <;> simp [Addr.add]
    rw [e3] at r
    refine fin _ r ?_
    have hlen : (xs.take hi.toNat).length = hi.toNat := by simp; omega
    have := RdS.ownx (w := w) (F := F) (m := upd m j .no) (e := e) (n := ei.size) (j := j) (b := b) (off := off) (τ := τ) (xs := xs.take hi.toNat) (fun x hx => hn x (by rw [List.map_take] at hx; exact List.mem_of_mem_take hx)) (by
      rw [List.map_take, flat_take hn (by simp; omega)]; exact hr'.take _) upd_same
    rwa [hlen] at this

/-- Cells of a block turned: what is frozen elsewhere is as it was. -/
theorem peek_setRow {w : World} {bl b o e : Nat} {cur cur' : Array Value} (hb : w.heap[bl]? = some (.cells cur e (0, 0))) (hne : b = bl → b ≠ bl) : peek (w.setRow bl cur') b o = peek w b o := by
  have hne : b ≠ bl := fun h => hne h h
  exact peek_row hb (cell_setRow_other w bl _ _ hne)

/-- The state behind a store. -/
theorem Rel.store {w : World} {F : Fz} {m : Mp} {a : Act} {b off e : Nat} {cs vs : List SV} {us : List Value} {o : Option Nat} (hr : Rel bs nt w F m E h a) (hob : h[b]? = some (.cells e cs)) (hv : RdSL w F m us vs) (h1 : ∀ u ∈ us, u.oneCell' = true) (hle : off + vs.length ≤ cs.length) :
    ∃ bl cur, m b = .obj bl ∧ w.heap[bl]? = some (.cells cur e (0, 0)) ∧ off + us.length ≤ cur.size ∧
      Rel bs nt (w.setRow bl (cur.toList.take off ++ us ++ cur.toList.drop (off + us.length)).toArray) F m E (h.set b (.cells e (cs.take off ++ vs ++ cs.drop (off + vs.length)))) a ∧
      Gr w F m (w.setRow bl (cur.toList.take off ++ us ++ cur.toList.drop (off + us.length)).toArray) F m := by
  have sim := hr.sim
  obtain ⟨bl, cur, g1, g2, g3, g4⟩ := sim.ob b e cs hob
  have hlu := hv.length
  have hlc := g3.length
  simp at hlc
  have ext : Ext w F (w.setRow bl (cur.toList.take off ++ us ++ cur.toList.drop (off + us.length)).toArray) F := fun b' o hF => ⟨hF, peek_setRow g2 fun _ => by
    rintro rfl; exact sim.fr b _ o hF (by rw [g1]; rfl)⟩
  have hsame : ∀ i, Same w m (w.setRow bl (cur.toList.take off ++ us ++ cur.toList.drop (off + us.length)).toArray) m i := fun i => ⟨rfl, fun b' lo hb => setRow_other w bl b' _ (by
    rintro rfl
    have := sim.inj i b b' (by simp [hb, Pl.blk]) (by simp [g1, Pl.blk])
    subst this
    rw [g1] at hb
    cases hb)⟩
  have hdf : Dfr (w.setRow bl (cur.toList.take off ++ us ++ cur.toList.drop (off + us.length)).toArray) m (h.set b (.cells e (cs.take off ++ vs ++ cs.drop (off + vs.length)))) a.defers := hr.defers.same fun i D h1 h2 h3 _ => by
    have hib : i ≠ b := by rintro rfl; rw [h1] at hob; cases hob
    exact ⟨by rw [List.getElem?_set_ne (fun h => hib h.symm)]; exact h1, h2, setRow_other w bl D _ (by rintro rfl; exact hib (sim.inj i b D (by simp [h2, Pl.blk]) (by simp [g1, Pl.blk])))⟩
  refine ⟨bl, cur, g1, g2, by omega, ⟨hr.size, hdf, fun t tg s ht => (hr.env t tg s ht).imp (fun h => ⟨h.1, h.2.keep ext fun i _ _ => hsame i⟩) id, ?_⟩, ?_⟩
  · refine ⟨fun b' o hF => by simpa using sim.fl b' o hF, fun i b' hi => by simpa using sim.lt i b' hi, sim.fr, sim.inj, fun i hi => sim.dom i (by simpa using hi), fun i o hi ho => ?_, fun i hi b' => ?_, fun k i hi => ?_, ext.kn sim.kn⟩
    rotate_left 2
    · by_cases hkb : k = b
      · subst hkb
        have hlt := (List.getElem?_eq_some_iff.1 hob).1
        rw [List.getElem?_set_self hlt] at hi
        simp at hi
      · rw [List.getElem?_set_ne (fun h => hkb h.symm)] at hi
        exact sim.pn k i hi
    · by_cases hib : i = b
      · subst hib
        have hlt := (List.getElem?_eq_some_iff.1 hob).1
        rw [List.getElem?_set_self hlt] at hi
        simp only [Option.some.injEq] at hi
        subst hi
        refine ⟨bl, _, g1, setRow_heap w bl cur _ e _ g2, .cells ?_ ?_⟩
        · rw [← hlu]
          exact (((g3.keep ext fun i _ _ => hsame i).take off).append (hv.keep ext fun i _ _ => hsame i)).append ((g3.keep ext fun i _ _ => hsame i).drop _)
        · intro u hu
          simp only [List.mem_append] at hu
          rcases hu with (hu | hu) | hu
          · exact g4 u (List.mem_of_mem_take hu)
          · exact h1 u hu
          · exact g4 u (List.mem_of_mem_drop hu)
      · rw [List.getElem?_set_ne (fun h => hib h.symm)] at hi
        obtain ⟨b2, x2, k1, k2, k3⟩ := sim.obj i o hi ho
        refine ⟨b2, x2, k1, ?_, k3.keep ext fun i _ _ => hsame i⟩
        rw [setRow_other w bl b2 _ (by rintro rfl; exact hib (sim.inj i b b2 (by simp [k1, Pl.blk]) (by simp [g1, Pl.blk])))]
        exact k2
    · by_cases hib : i = b
      · subst hib
        have hlt := (List.getElem?_eq_some_iff.1 hob).1
        rw [List.getElem?_set_self hlt] at hi
        simp at hi
      · rw [List.getElem?_set_ne (fun h => hib h.symm)] at hi
        exact sim.tl i hi b'
  · exact ⟨rfl, rfl, rfl, by simp, ext, fun b' hb hm => setRow_other w bl b' _ (by rintro rfl; exact hm b (by simp [g1, Pl.blk])), fun i b' o hi _ => ⟨i, hi⟩, fun b' o hF => .inl hF⟩

/-- A store into what the call owns. -/
theorem WL_store (hT : TOk P T) {t b off u : Nat} {x y : Operand} {s : SV} {cs vs : List SV} {ti : TI} (hW : WL P nt ops (i + 1) E h1 Q) (hoi : ops[i]? = some o) (hg : o.guard = none) (ho : o.op = .store t x y) (hd : o.dst = none)
    (ht : T t = some ti) (hx : look E [] x = some (.ptr b off)) (hy : look E [] y = some s) (hc : scells (coS (some ti) s) = some vs) (hl : Nat.beq vs.length ti.size = true) (hob : h[b]? = some (.cells u cs)) (hle : Nat.ble (off + vs.length) cs.length = true)
    (hh : h.set b (.cells u (cs.take off ++ vs ++ cs.drop (off + vs.length))) = h1) : WL P nt ops i E h Q := by
  refine WL_op hoi hg fun a w F m hr N Q hN => ?_
  subst hh
  have hO := hr.opd (Tags.nil a) o
  have ex := hO.rd (by simp [ho, Op.operands]) hx
  have ey := coS_rd (i := some ti) (hO.rd (by simp [ho, Op.operands]) hy)
  obtain ⟨v1, v2⟩ := scells_rd hc ey
  obtain ⟨bl, cur, g1, g2, g3, g4, g5⟩ := hr.store (o := none) hob v1 v2 (Nat.le_of_ble_eq_true hle)
  obtain ⟨inf, hi1, hi2, _⟩ := (hT t ti ht).info
  have e1 := Nat.eq_of_beq_eq_true hl
  have hsz : (a.eval y).cells.size = inf.size := by have := v1.length; simp at this; omega
  generalize hv : a.eval x = v at ex
  cases ex with
  | @ptr _ _ bb hm =>
    rw [hm] at g1
    simp only [Pl.obj.injEq] at g1
    subst g1
    have hst := run_storeCells_at P bb off u (a.eval y).cells.toList 0 cur w g2 (by simpa using g3) v2
    unfold Oper.wp
    have hrun : (execOp a.eval o).run P w = .ok .skip (w.setRow bb (cur.toList.take off ++ (a.eval y).cells.toList ++ cur.toList.drop (off + (a.eval y).cells.toList.length)).toArray) := by
      simp only [Nat.add_zero] at hst
      simp only [execOp, ho, hv, Instr.storeAt, Instr.sureAddr, Sem.run_bind, Sem.run_pure, Result.andThen_ok, storeVar, sizeOf, typeInfo, run_program, hi1]
      rw [if_neg (by simpa using hsz)]
      rw [hst]
      rfl
    rw [hrun]
    simp only [Oper.upon, hd]
    exact hN _ _ _ _ _ _ hW g4 g5
end

/-! ### The walk of a function -/
def argE : Nat → List SV → Env
  | _, [] => []
  | i, s :: ss => (i, [], s) :: argE (i + 1) ss

/-- What a function hands back. -/
def res1 (T : Tab) (E : Env) (h : List Ob) : ResultVar → Option SV
  | .tmp t => look E [] (.tmp t)
  | .cell x t => match T t, look E [] (.tmp x) with
    | some i, some (.ptr o d) => match h[o]? with | some (.cells _ cs) => ldS i (cs.drop d) | _ => none
    | _, _ => none
def resL (T : Tab) (E : Env) (h : List Ob) : List ResultVar → Option (List SV)
  | [] => some []
  | r :: rs => match res1 T E h r, resL T E h rs with | some s, some ss => some (s :: ss) | _, _ => none
def resS (T : Tab) (E : Env) (h : List Ob) (rs : List ResultVar) : Option SV := match resL T E h rs with
  | some [s] => some s
  | some ss => some (.tup ss)
  | none => none

/-- At the end of a function: it hands back s, and what it owned is forgotten but for the things of its caller's. -/
def Fin (T : Tab) (rs : List ResultVar) (R : SV → List Ob → Prop) (keep : Nat) : Exit → Env → List Ob → Prop
  | .normal, E, h | .ret, E, h => ∃ s, resS T E h rs = some s ∧ R s h
  | _, _, _ => False

section
variable {P : Program} {T : Tab}

theorem res1_rd (hT : TOk P T) {nt : Nat} {w : World} {F : Fz} {m : Mp} {E : Env} {h : List Ob} {a : Act} (hr : Rel bs nt w F m E h a) (g : ResultVar → Sem Value) (g1t : ∀ t, g (.tmp t) = pure (a.tmps.getD t undef)) (g1c : ∀ x t, g (.cell x t) = (do loadVar t (← asAddr (a.tmps.getD x undef)))) {r : ResultVar} {s : SV} (hs : res1 T E h r = some s) :
    ∃ v, (g r).run P w = .ok v w ∧ RdS w F m v s := by
  cases r with
  | tmp t => simp only [res1] at hs; exact ⟨_, by rw [g1t]; rfl, look_rd hr.rd (Tags.nil a) (x := .tmp t) hs⟩
  | cell x t =>
    simp only [res1] at hs
    split at hs
    · rename_i i o d hi hl
      split at hs
      · rename_i cs hcs
        have ex := look_rd hr.rd (Tags.nil a) (x := .tmp x) hl
        obtain ⟨b, cur, g1, g2, g3, g4⟩ := hr.sim.ob o _ cs hcs
        obtain ⟨v, h1, h2⟩ := ldS_run (hT t i hi) g2 g3 g4 hs
        have ev : a.eval (.tmp x) = a.tmps.getD x undef := rfl
        rw [ev] at ex
        generalize hu : a.tmps.getD x undef = u at ex
        cases ex with
        | ptr hm =>
          rw [hm] at g1
          simp only [Pl.obj.injEq] at g1
          subst g1
          exact ⟨v, by simp only [g1c, hu, asAddr, Sem.run_bind, Sem.run_pure, Result.andThen_ok, h1], h2⟩
      · cases hs
    · cases hs

theorem resL_rd (hT : TOk P T) {nt : Nat} {w : World} {F : Fz} {m : Mp} {E : Env} {h : List Ob} {a : Act} (hr : Rel bs nt w F m E h a) (g : ResultVar → Sem Value) (g1t : ∀ t, g (.tmp t) = pure (a.tmps.getD t undef)) (g1c : ∀ x t, g (.cell x t) = (do loadVar t (← asAddr (a.tmps.getD x undef)))) : ∀ {rs : List ResultVar} {ss : List SV}, resL T E h rs = some ss →
    ∃ vs, (rs.mapM g : Sem (List Value)).run P w = .ok vs w ∧ RdSL w F m vs ss
  | [], ss, hs => by simp only [resL, Option.some.injEq] at hs; subst hs; exact ⟨[], rfl, .nil⟩
  | r :: rs, ss, hs => by
    simp only [resL] at hs
    split at hs
    · rename_i s ss' h1 h2
      simp only [Option.some.injEq] at hs
      subst hs
      obtain ⟨v, g1, g2⟩ := res1_rd hT hr g g1t g1c h1
      obtain ⟨vs, g3, g4⟩ := resL_rd hT hr g g1t g1c h2
      refine ⟨v :: vs, ?_, .cons g2 g4⟩
      rw [List.mapM_cons]
      simp only [Sem.run_bind]
      rw [g1]
      simp only [Result.andThen_ok, Sem.run_bind]
      rw [g3]
      rfl
    · cases hs

theorem resS_rd (hT : TOk P T) {nt : Nat} {w : World} {F : Fz} {m : Mp} {E : Env} {h : List Ob} {a : Act} (hr : Rel bs nt w F m E h a) {fn : Func} {s : SV} (hs : resS T E h fn.results.toList = some s) :
    ∃ v, (results fn a.tmps).run P w = .ok v w ∧ RdS w F m v s := by
  unfold resS at hs
  have key : ∀ {ss : List SV}, resL T E h fn.results.toList = some ss → ∃ vs : List Value, (results fn a.tmps).run P w = .ok (if h : vs.toArray.size = 1 then vs.toArray[0] else .tuple vs.toArray) w ∧ RdSL w F m vs ss := by
    intro ss h1
    unfold results
    rw [Array.mapM_eq_mapM_toList]
    simp only [Sem.run_bind, Sem.run_map]
    obtain ⟨vs, g1, g2⟩ := resL_rd hT hr (fun | .tmp t => pure (a.tmps.getD t undef) | .cell x t => do loadVar t (← asAddr (a.tmps.getD x undef))) (fun _ => rfl) (fun _ _ => rfl) h1
    refine ⟨vs, ?_, g2⟩
    erw [g1]
    rfl
  split at hs
  · rename_i s' h1
    simp only [Option.some.injEq] at hs
    subst hs
    obtain ⟨vs, g1, g2⟩ := key h1
    cases g2 with
    | cons hv hs => cases hs; exact ⟨_, g1, hv⟩
  · rename_i ss hne h1
    simp only [Option.some.injEq] at hs
    subst hs
    obtain ⟨vs, g1, g2⟩ := key h1
    refine ⟨.tuple vs.toArray, ?_, .tup g2⟩
    rw [g1, dif_neg]
    intro hl
    have := g2.length
    simp at hl
    rw [hl] at this
    match ss, this with
    | [s], _ => exact hne s rfl
  · cases hs

theorem argE_get : ∀ {ss : List SV} {i t : Nat} {tg : Tg} {s : SV}, (argE i ss).get t = some (tg, s) → i ≤ t ∧ tg = [] ∧ ss[t - i]? = some s
  | [], i, t, tg, s, h => by simp [argE, Env.get] at h
  | s' :: ss, i, t, tg, s, h => by
    simp only [argE, Env.get] at h
    cases hb : Nat.beq i t with
    | true =>
      rw [hb] at h
      simp only [cond_true, Option.some.injEq, Prod.mk.injEq] at h
      obtain ⟨rfl, rfl⟩ := h
      obtain rfl := Nat.eq_of_beq_eq_true hb
      simp
    | false =>
      rw [hb] at h
      obtain ⟨h1, h2, h3⟩ := argE_get h
      refine ⟨by omega, h2, ?_⟩
      rw [show t - i = (t - (i + 1)) + 1 by omega]
      simpa using h3

/-- On a function's way out a mark is taken. -/
theorem Rel.take {nt : Nat} {w : World} {F : Fz} {m : Mp} {E : Env} {h : List Ob} {t : Array Value} {d : Deferred} {ds : List Deferred} (hr : Rel bs nt w F m E h { tmps := t, defers := d :: ds }) :
    ∃ D, d.target = .collected D ∧ (Instr.takeDeferred D).run P w = .ok [] (w.putObj D (.deferred none)) ∧ Rel bs nt (w.putObj D (.deferred none)) F m E h { tmps := t, defers := ds } ∧ Gr w F m (w.putObj D (.deferred none)) F m := by
  obtain ⟨i, D, h1, h2, h3, h4⟩ := hr.defers.at_ d (by simp)
  have sim := hr.sim
  have hoth : ∀ b, b ≠ D → (w.putObj D (.deferred none)).heap[b]? = w.heap[b]? := fun b hb => World.putObj_heap_other hb
  have hF : ∀ b o, F b o → b ≠ D := fun b o hF hb => by
    subst hb
    exact sim.fr i b o hF (by rw [h2]; rfl)
  have ext : Ext w F (w.putObj D (.deferred none)) F := fun b o hf => ⟨hf, cell_of_heap (hoth b (hF b o hf))⟩
  have hsame : ∀ k, Same w m (w.putObj D (.deferred none)) m k := fun k => ⟨rfl, fun b lo hb => hoth b (by
    rintro rfl
    obtain rfl := sim.inj k i b (by simp [hb, Pl.blk]) (by simp [h2, Pl.blk])
    rw [h2] at hb; cases hb)⟩
  refine ⟨D, by rw [h3], run_takeDeferred h4, ⟨hr.size, ⟨(List.nodup_cons.1 hr.defers.nd).2, fun d' hd' => ?_⟩, fun t tg s ht => (hr.env t tg s ht).imp (fun h => ⟨h.1, h.2.keep ext fun i _ _ => hsame i⟩) id, ?_⟩, ?_⟩
  · obtain ⟨i', D', g1, g2, g3, g4⟩ := hr.defers.at_ d' (List.mem_cons_of_mem _ hd')
    refine ⟨i', D', g1, g2, g3, (hoth D' ?_).trans g4⟩
    rintro rfl
    exact (List.nodup_cons.1 hr.defers.nd).1 (by rw [h3, ← g3]; exact hd')
  · refine ⟨fun b o hf => by simpa using sim.fl b o hf, fun k b hb => by simpa using sim.lt k b hb, sim.fr, sim.inj, sim.dom, fun k o hk ho => ?_, sim.tl, sim.pn, ext.kn sim.kn⟩
    obtain ⟨b2, x2, k1, k2, k3⟩ := sim.obj k o hk ho
    refine ⟨b2, x2, k1, ?_, k3.keep ext fun i _ _ => hsame i⟩
    rw [hoth b2 (by
      rintro rfl
      obtain rfl := sim.inj k i b2 (by simp [k1, Pl.blk]) (by simp [h2, Pl.blk])
      rw [h1] at hk
      simp only [Option.some.injEq] at hk
      subst hk
      cases ho)]
    exact k2
  · exact ⟨rfl, rfl, rfl, by simp, ext, fun b hb hm => hoth b (by rintro rfl; exact hm i (by simp [h2, Pl.blk])), fun i b o hi _ => ⟨i, hi⟩, fun b o hf => .inl hf⟩

theorem Rel.leave (hT : TOk P T) {fn : Func} {E : Env} {h : List Ob} {m : Mp} {F : Fz} {s : SV} {R : SV → List Ob → Prop} (h1 : resS T E h fn.results.toList = some s) (h2 : R s h) {w0 : World} {F0 : Fz} {m0 : Mp} {t : Array Value} :
    ∀ (ds : List Deferred) (w : World), Rel bs fn.ntmps w F m E h { tmps := t, defers := ds } → Gr w0 F0 m0 w F m →
      LeavesInM Fence.wide 0 P fn t (fun e w' => ∃ v s h' F' m', e = .returned v ∧ R s h' ∧ RdS w' F' m' v s ∧ Sim bs w' F' m' h' ∧ Gr w0 F0 m0 w' F' m') ds .returning w
  | [], w, hr, hg => by
    obtain ⟨v, g1, g2⟩ := resS_rd hT hr h1
    exact ⟨v, g1, v, s, h, F, m, rfl, h2, g2, hr.sim, hg⟩
  | d :: ds, w, hr, hg => by
    obtain ⟨D, k1, k2, k3, k4⟩ := hr.take (P := P)
    exact ⟨by simp, .inl ⟨D, _, k1, k2, Rel.leave hT h1 h2 ds _ k3 (hg.trans k4)⟩⟩

/-- A function whose body, from its arguments on, ends with what is asked. -/
theorem PC_of_W (hT : TOk P T) {f : Nat} {fn : Func} {body : Code} {args : List SV} {h : List Ob} {R : SV → List Ob → Prop} (hf : P.funcs[f]? = some fn) (hb : fn.body = some body) (hn : Nat.ble args.length fn.ntmps = true)
    (hW : W P fn.ntmps body (argE 0 args) h (Fin T fn.results.toList R 0)) : PC P f args h R := by
  intro bs vs w F m hvs hsim
  have hlen := hvs.length
  have hn := Nat.le_of_ble_eq_true hn
  refine callsIn_wide.1 (callsIn_of_wp_marks (n := 0) hf hb trivial (wpIn_wide.2 (wp_mono (hW.out _ w F m ⟨?_, Dfr.nil, fun t tg s ht => ?_, hsim⟩) ?_)))
  · simp; omega
  · obtain ⟨_, rfl, h3⟩ := argE_get ht
    obtain ⟨v, g1, g2⟩ := hvs.get h3
    refine .inl ⟨Tags.nil _, ?_⟩
    have hlt := (List.getElem?_eq_some_iff.1 g1).1
    have : (vs.toArray ++ Array.replicate (fn.ntmps - vs.toArray.size) undef).getD t undef = v := by
      rw [Array.getD_eq_getD_getElem?, Array.getElem?_append_left (by simpa using hlt)]
      simp at g1
      simp [g1]
    rw [this]
    exact g2
  · rintro e a' w' ⟨E', h', F', m', hQ, hr', hg⟩
    cases e with
    | normal =>
      obtain ⟨s, h1, h2⟩ := hQ
      exact Rel.leave hT h1 h2 a'.defers w' hr' hg
    | ret =>
      obtain ⟨s, h1, h2⟩ := hQ
      exact Rel.leave hT h1 h2 a'.defers w' hr' hg
    | _ => exact hQ.elim

/-- What a thing hangs on. -/
def Ob.low (n : Nat) (o : Ob) : Prop := (∀ i ∈ o.ids, i < n) ∧ ∀ i, o = .pin i → i < n
def cutM (n : Nat) (m : Mp) : Mp := fun i => if i < n then m i else .free
theorem cutM_lt {n i : Nat} {m : Mp} (h : i < n) : cutM n m i = m i := by simp [cutM, h]
theorem cutM_ge {n i : Nat} {m : Mp} (h : ¬ i < n) : cutM n m i = .free := by simp [cutM, h]
theorem RdS.cut {w : World} {F : Fz} {m : Mp} {n : Nat} {v : Value} {s : SV} (hi : ∀ i ∈ s.ids, i < n) (h : RdS w F m v s) : RdS w F (cutM n m) v s := h.keep (Ext.refl _ _) fun j hj _ => ⟨cutM_lt (hi j hj), fun _ _ _ => rfl⟩
theorem Sim.cut {w : World} {F : Fz} {m : Mp} {h : List Ob} (n : Nat) (hs : Sim bs w F m h) (hl : ∀ i o, i < n → h[i]? = some o → o.low n) : Sim bs w F (cutM n m) (h.take n) := by
  have get : ∀ {i : Nat} {o : Ob}, (h.take n)[i]? = some o → i < n ∧ h[i]? = some o := fun {i o} hi => by
    rw [List.getElem?_take] at hi
    split at hi
    · rename_i hin; exact ⟨hin, hi⟩
    · cases hi
  refine ⟨hs.fl, fun i b hi => ?_, fun i b o hF hh => ?_, fun i k b hi hk => ?_, fun i hi => ?_, fun i o hi ho => ?_, fun i hi b => ?_, fun k i hi => ?_, hs.kn⟩
  · by_cases hin : i < n
    · rw [cutM_lt hin] at hi; exact hs.lt i b hi
    · simp [cutM_ge hin, Pl.blk] at hi
  · by_cases hin : i < n
    · rw [cutM_lt hin] at hh; exact hs.fr i b o hF hh
    · rw [cutM_ge hin] at hh; exact hh
  · by_cases hin : i < n
    · by_cases hkn : k < n
      · rw [cutM_lt hin] at hi; rw [cutM_lt hkn] at hk; exact hs.inj i k b hi hk
      · simp [cutM_ge hkn, Pl.blk] at hk
    · simp [cutM_ge hin, Pl.blk] at hi
  · by_cases hin : i < n
    · rw [cutM_lt hin]
      refine hs.dom i ?_
      simp at hi
      omega
    · exact cutM_ge hin
  · obtain ⟨hin, hi⟩ := get hi
    obtain ⟨b, x, g1, g2, g3⟩ := hs.obj i o hi ho
    exact ⟨b, x, (cutM_lt hin).trans g1, g2, g3.keep (Ext.refl _ _) fun j hj _ => ⟨cutM_lt ((hl i o hin hi).1 j hj), fun _ _ _ => rfl⟩⟩
  · obtain ⟨hin, hi⟩ := get hi
    rw [cutM_lt hin]; exact hs.tl i hi b
  · obtain ⟨hin, hi⟩ := get hi
    exact (cutM_lt ((hl k _ hin hi).2 i rfl)).trans (hs.pn k i hi)
theorem Gr.cut {w w' : World} {F F' : Fz} {m m' : Mp} {n : Nat} (hg : Gr w F m w' F' m') : Gr w F m w' F' (cutM n m') := by
  refine ⟨hg.os, hg.tape, hg.output, hg.size, hg.ext, hg.block, fun i b o hh hb => ?_, hg.fl⟩
  by_cases hin : i < n
  · rw [cutM_lt hin] at hh; exact hg.own i b o hh hb
  · rw [cutM_ge hin] at hh; exact hh.elim

/-- The things behind number n are forgotten. -/
theorem PC.cut {f : Nat} {args : List SV} {h : List Ob} {R R' : SV → List Ob → Prop} (hP : PC P f args h R) (hR : ∀ s h', R s h' → ∃ n s', R' s' (h'.take n) ∧ (∀ w F m v, RdS w F m v s → RdS w F m v s') ∧ (∀ i ∈ s'.ids, i < n) ∧ (∀ i o, i < n → h'[i]? = some o → o.low n)) : PC P f args h R' := by
  intro bs vs w F m hvs hsim
  refine (hP bs vs w F m hvs hsim).mono ?_
  rintro e w' ⟨v, s, h', F', m', he, hr, hrd, hs', hg⟩
  obtain ⟨n, s', h1, h2, h3, h4⟩ := hR s h' hr
  exact ⟨v, s', h'.take n, F', cutM n m', he, h1, RdS.cut h3 (h2 _ _ _ _ hrd), hs'.cut n h4, hg.cut⟩

/-- A function of pure data: all that it owned is forgotten. -/
theorem PF_of_W (hT : TOk P T) {f : Nat} {fn : Func} {body : Code} {args : List SV} {s : SV} (hf : P.funcs[f]? = some fn) (hb : fn.body = some body) (hn : Nat.ble args.length fn.ntmps = true) (hi : s.ids = [])
    (hW : W P fn.ntmps body (argE 0 args) [] (Fin T fn.results.toList (fun s' _ => s' = s ∨ ∃ q, pur s' = some q ∧ s = .p q) 0)) : PF P f args s := by
  refine (PC_of_W hT hf hb hn hW).cut ?_
  rintro s' h' (rfl | ⟨q, hq, rfl⟩)
  · exact ⟨0, s', ⟨rfl, by simp⟩, fun _ _ _ _ h => h, by rw [hi]; simp, fun i o h => absurd h (Nat.not_lt_zero _)⟩
  · exact ⟨0, .p q, ⟨rfl, by simp⟩, fun _ _ _ _ h => .p (pur_rd hq h), by simp [SV.ids], fun i o h => absurd h (Nat.not_lt_zero _)⟩
end
end Go.Proofs.YtmjkflppajienaaDoor.R
