/- strings.Builder, as a row of bytes behind a pointer; no condition but the typed premises. -/
import Derived.Test.YtngcfmnmjkncoaaQS
import Derived.Lib.AppendStr
import Derived.Shelf.Strings.Builder1
namespace Go.Proofs.Ytngcfmnmjkncoaa.Q
open Go Go.RowKit
set_option linter.unusedVariables false
set_option linter.unusedSimpArgs false

theorem strCells_rd {w : World} {F : Fz} (s : ByteArray) : RdL w F (Lib.strCells s) ((s.data.toList.map eU).flatMap PV.cells) := by
  have key : ∀ l : List UInt8, RdL w F (l.map fun b => Value.int .u8 b.toNat) ((l.map eU).flatMap PV.cells) := by
    intro l
    induction l with
    | nil => exact .nil
    | cons b l ih => rw [List.map_cons, List.map_cons, List.flatMap_cons]; exact .cons rfl (.s _) ih
  exact key s.data.toList
theorem bf_mk {w : World} {F : Fz} {m : Mp} {e j b cap n : Nat} {cur : Array Value} {xs : List UInt8} (hn : xs.length = n) (hr : RdC w F b 0 ((xs.map eU).flatMap PV.cells)) (hm : m j = .tail b n) (hb : w.heap[b]? = some (.cells cur e (0, 0))) (hc : n ≤ cap) (hcm : cap ≤ maxLen) (hs : cur.size = cap) :
    RdS w F m (.slice (some ⟨b, 0, none⟩) n cap) (.bf e xs j) := by subst hn; exact .bf hr hm hb hc hcm hs
theorem flat_eU : ∀ xs : List UInt8, ((xs.map eU).flatMap PV.cells).length = xs.length
  | [] => rfl
  | x :: xs => by rw [List.map_cons, List.flatMap_cons, List.length_append, flat_eU xs, List.length_cons, Nat.add_comm]; rfl

section
variable {P : Program} {T : Tab} {nt : Nat} {E E1 : Env} {h h1 : List Ob} {Q : QB} {o : Oper} {i d : Nat} {ops : Array Oper}

/-- What append of a text does to a row of bytes. -/
theorem append_tk_bf (hT : TOk P T) {t u ty e : Nat} {ei : TI} (ht : P.underlying t = some (.slice e)) (hu : P.underlying u = some .string) (he : T e = some ei) (hs1 : ei.size = 1) {w : World} {F : Fz} {m : Mp} (sim : Sim w F m h) {v : Value} {xs : List UInt8} {j : Nat} {s : ByteArray}
    (hv : RdS w F m v (.bf e xs j)) (hb0 : 0 < ei.bytes) (hb : (xs.length + s.size) * ei.bytes ≤ 140737488355328) :
    ∃ v' w' F' p, (Builtin.append_ #[t, u] ty #[v, .string s]).run P w = .ok v' w' ∧ Tk w F m j w' F' p ∧ RdS w' F' (upd m j p) v' (.bf e (xs ++ s.data.toList) j) := by
  obtain ⟨inf, z, hi, hi1, hi2, hz, hzc⟩ := (hT e ei he).zeros
  have hsl : s.data.toList.length = s.size := Array.length_toList
  have hmax : xs.length + s.size ≤ 140737488355328 := by
    have : (xs.length + s.size) * 1 ≤ (xs.length + s.size) * ei.bytes := Nat.mul_le_mul_left _ hb0
    omega
  have hscl : (Lib.strCells s).length = s.size := Lib.strCells_length s
  have hlen : (xs ++ s.data.toList).length = xs.length + s.size := by rw [List.length_append, hsl]
  have hscr : ∀ (w : World) (F : Fz), RdL w F (Lib.strCells s) ((s.data.toList.map eU).flatMap PV.cells) := fun w F => strCells_rd s
  have hzs : z.cells.size = 1 := by
    have := congrArg List.length hzc
    have h2 := Nat.eq_of_beq_eq_true (hT e ei he).zl
    simp at this
    omega
  -- it grows into a new block
  have grow : ∀ (cap : Nat) (olds : List Value), RdL w F olds ((xs.map eU).flatMap PV.cells) →
      (Builtin.append_ #[t, u] ty #[v, .string s]).run P w = .ok (.slice (some ⟨w.heap.size, 0, none⟩) (xs.length + s.size) (grownCap w (xs.length + s.size) cap e))
        (w.drew.alloc (.cells (olds.toArray ++ (Lib.strCells s).toArray ++ Builtin.zeroCells z.cells (grownCap w (xs.length + s.size) cap e - (xs.length + s.size))) e)) →
      ∃ v' w' F' p, (Builtin.append_ #[t, u] ty #[v, .string s]).run P w = .ok v' w' ∧ Tk w F m j w' F' p ∧ RdS w' F' (upd m j p) v' (.bf e (xs ++ s.data.toList) j) := by
    intro cap olds holds hrun
    have hol : olds.length = xs.length := by rw [holds.length, flat_eU]
    have hge := grownCap_ge w (xs.length + s.size) cap e
    have hcm : grownCap w (xs.length + s.size) cap e ≤ maxLen := grownCap_le_maxLen w _ cap e (by simp only [maxLen]; omega)
    have ext : Ext w F (w.drew.alloc (.cells (olds.toArray ++ (Lib.strCells s).toArray ++ Builtin.zeroCells z.cells (grownCap w (xs.length + s.size) cap e - (xs.length + s.size))) e))
        (fun b i => F b i ∨ (b = w.heap.size ∧ i < xs.length + s.size)) := fun b i h => ⟨.inl h, cell_of_heap (Below.heap_alloc w.drew _ b (sim.fl b i h))⟩
    refine ⟨_, _, fun b i => F b i ∨ (b = w.heap.size ∧ i < xs.length + s.size), .tail w.heap.size (xs.length + s.size), hrun,
      ⟨rfl, rfl, rfl, by simp, ext, fun b hb _ => Below.heap_alloc w.drew _ b hb, fun b o hF => ?_, fun b o hh => ?_, fun b o hF hh => ?_, fun b h => by cases h⟩, ?_⟩
    · rcases hF with h | ⟨rfl, h⟩
      · exact .inl h
      · exact .inr (.inl ⟨Nat.le_refl _, by simp⟩)
    · obtain ⟨rfl, _⟩ := hh
      exact .inl ⟨Nat.le_refl _, by simp⟩
    · obtain ⟨rfl, hh⟩ := hh
      rcases hF with h | ⟨_, h⟩
      · exact absurd (sim.fl _ _ h) (Nat.lt_irrefl _)
      · omega
    · refine bf_mk hlen ?_ upd_same (heap_alloc_new w.drew _) hge hcm ?_
      · rw [List.map_append, List.flatMap_append]
        refine RdC.of_vals (vs := olds ++ Lib.strCells s) ((holds.append (hscr _ _)).ext ext) (fun k x hk => ?_) fun k hk => .inr ⟨rfl, ?_⟩
        · rw [Nat.zero_add, show w.heap.size = w.drew.heap.size from rfl, World.cell?_alloc_new]
          have hlt := (List.getElem?_eq_some_iff.1 hk).1
          rw [Array.getElem?_append_left (by simpa using hlt)]
          simpa using hk
        · rw [List.length_append, flat_eU, flat_eU, hsl] at hk
          omega
      · simp only [Array.size_append, List.size_toArray, size_zeroCells, hol, hscl, hzs]
        omega
  cases hv with
  | bf0 hm =>
    by_cases h0 : s.size = 0
    · have hn : s.data.toList = [] := List.eq_nil_of_length_eq_zero (by omega)
      rw [hn, List.append_nil]
      have hf := Lib.run_firstCells_string (P := P) w 1 s
      have hsc : Lib.strCells s = [] := List.eq_nil_of_length_eq_zero (by omega)
      rw [h0, hsc] at hf
      refine ⟨.slice none 0 0, w, F, m j, ?_, ⟨rfl, rfl, rfl, Nat.le_refl _, Ext.refl w F, fun _ _ _ => rfl, fun b o h => .inl h, fun b o h => .inr h, fun b o hF => sim.fr j b o hF, fun b h => by rw [hm] at h; cases h⟩, .bf0 (by rw [upd_same]; exact hm)⟩
      simp [Builtin.append_, run_underlying ht, run_underlying hu, sizeOf, typeInfo, hi, hi1, hs1, Builtin.lenOf, h0, hf]
    · refine grow 0 [] .nil ?_
      have hr := run_append_nil_string (P := P) w t u ty e inf z ht hu hi hz s (by omega) (by omega) (by rw [hi2]; simp only [List.length_nil, Nat.zero_add] at hb; omega)
      have e1 : (s.data.map fun b => Value.int .u8 b.toNat) = (Lib.strCells s).toArray := by
        apply Array.ext'
        simp [Lib.strCells]
      rw [e1] at hr
      simpa using hr
  | @bf _ _ b cap cur _ hr hm hb' hc hcm hsz =>
    obtain ⟨olds, g1, g2, g3⟩ := hr.vals
    have hol : olds.length = xs.length := by rw [g1, flat_eU]
    by_cases hroom : xs.length + s.size ≤ cap
    · have hrun := Lib.run_append_room_string (P := P) w t u ty e inf ht hu hi (by rw [hi1]; exact hs1) b xs.length cap cur hb' s hroom (by omega)
      have hFo : ∀ o, F b o → o < xs.length := fun o hF => by
        have := sim.fr j b o hF
        rw [hm] at this
        exact Nat.lt_of_not_le fun h => this ⟨rfl, h⟩
      have hold : ∀ o, o < xs.length → (cur.toList.take xs.length ++ Lib.strCells s ++ cur.toList.drop (xs.length + s.size)).toArray[o]? = cur[o]? := by
        intro o ho
        rw [List.getElem?_toArray, List.append_assoc, List.getElem?_append_left (by simp; omega), List.getElem?_take_of_lt ho]
        simp
      have ext : Ext w F (w.setRow b (cur.toList.take xs.length ++ Lib.strCells s ++ cur.toList.drop (xs.length + s.size)).toArray)
          (fun b' i => F b' i ∨ (b' = b ∧ xs.length ≤ i ∧ i < xs.length + s.size)) := fun b' i h => ⟨.inl h, by
        by_cases hbb : b' = b
        · subst hbb
          rw [cell_setRow_same w b' i cur _ e (0, 0) hb', hold i (hFo i h), cell_of_row w b' i cur e (0, 0) hb']
        · exact cell_setRow_other w b _ _ hbb⟩
      refine ⟨_, _, fun b' i => F b' i ∨ (b' = b ∧ xs.length ≤ i ∧ i < xs.length + s.size), .tail b (xs.length + s.size), hrun,
        ⟨rfl, rfl, rfl, by simp, ext, fun b' hb _ => setRow_other w b b' _ (by rintro rfl; simp [hm, Pl.blk] at *), fun b' o hF => ?_, fun b' o hh => ?_, fun b' o hF hh => ?_, fun b h => by cases h⟩, ?_⟩
      · rcases hF with h | ⟨rfl, h, _⟩
        · exact .inl h
        · rw [hm]; exact .inr (.inr ⟨rfl, h⟩)
      · obtain ⟨rfl, hh⟩ := hh
        rw [hm]
        exact .inr ⟨rfl, by omega⟩
      · obtain ⟨rfl, hh⟩ := hh
        rcases hF with h | ⟨_, _, h⟩
        · have := hFo o h; omega
        · omega
      · refine bf_mk hlen ?_ upd_same (setRow_heap w b cur _ e _ hb') hroom hcm ?_
        · rw [List.map_append, List.flatMap_append]
          refine RdC.append ?_ ?_
          · exact hr.ext ext
          · rw [Nat.zero_add, flat_eU]
            refine RdC.of_vals (vs := Lib.strCells s) ((hscr _ _).ext ext) (fun k x hk => ?_) fun k hk => .inr ⟨rfl, by omega, ?_⟩
            · rw [cell_setRow_same w b _ cur _ e (0, 0) hb', List.getElem?_toArray]
              have hlt := (List.getElem?_eq_some_iff.1 hk).1
              have htl : (cur.toList.take xs.length).length = xs.length := by simp; omega
              rw [List.append_assoc, List.getElem?_append_right (by omega), htl, Nat.add_sub_cancel_left, List.getElem?_append_left hlt]
              exact hk
            · rw [flat_eU, hsl] at hk
              omega
        · simp only [List.size_toArray, List.length_append, List.length_take, List.length_drop, Array.length_toList, hscl]
          omega
    · refine grow cap olds g3 ?_
      exact Lib.run_append_grow_string (P := P) w t u ty e inf z ht hu hi hz _ xs.length cap olds (by rw [hol, hi1, hs1, Nat.mul_one]) (fun k x hk => by rw [Addr.add_lit]; exact g2 k x hk) s (by omega) (by omega)
        (growslice_fits (by omega) (by rw [hi2]; exact hb))

/-- A text behind bytes; none beyond what memory bears. -/
def bcat (xs : List UInt8) (s : ByteArray) : Option (List UInt8) := if xs.length + s.size ≤ 140737488355328 then some (xs ++ s.data.toList) else none
theorem xpb (hT : TOk P T) {j e : Nat} {c : Call} {x y : Operand} {t u : Nat} {ei : TI} {xs r : List UInt8} {s : ByteArray} (hx : bcat xs s = some r) (ho : ops[i]? = some o) (hop : o.op = .call c) (hg : o.guard = none) (hc : c.callee = .builtin .append) (ha : c.args.toList = [x, y]) (hts : c.argTypes.toList = [t, u]) (hd : o.dst = some d)
    (hk : kOf T t = .sl e) (hk' : kOf T u = .str) (he : T e = some ei) (hs1 : Nat.beq ei.size 1 = true) (hb1 : Nat.beq ei.bytes 1 = true) (hok : dstOk nt E [] (some d) = true) (hlx : look E [] x = some (.bf e xs j)) (hly : look E [] y = some (vs s))
    (hj : Nat.blt j h.length = true) (hW : WL P nt ops (i + 1) ((d, [], SV.bf e r j) :: stripE j E) (stripO j h) Q) : WL P nt ops i E h Q := by
  unfold bcat at hx
  split at hx
  case isFalse => cases hx
  rename_i hb
  simp only [Option.some.injEq] at hx
  subst hx
  have hs1 := Nat.eq_of_beq_eq_true hs1
  have hb1 := Nat.eq_of_beq_eq_true hb1
  refine WL_op ho hg fun a w F m hr N Q hN => ?_
  have hO := hr.opd (Tags.nil a) o
  obtain ⟨ti, hti, htk⟩ := kOf_ti (T := T) (t := t) (by rw [hk]; simp)
  have ht := (hT t ti hti).slice (htk.trans hk)
  obtain ⟨ui, hui, huk⟩ := kOf_ti (T := T) (t := u) (by rw [hk']; simp)
  have hu := (hT u ui hui).string (huk.trans hk')
  have hmx : x ∈ o.op.operands := by rw [hop]; exact Array.mem_append.2 (.inr (Array.mem_toList_iff.1 (by rw [ha]; simp)))
  have hmy : y ∈ o.op.operands := by rw [hop]; exact Array.mem_append.2 (.inr (Array.mem_toList_iff.1 (by rw [ha]; simp)))
  have rx := hO.rd hmx hlx
  have ry := rd_s (hO.rd hmy hly)
  obtain ⟨v', w', F', p, g1, g2, g3⟩ := append_tk_bf hT ht hu he hs1 (ty := o.type) hr.sim (s := s) rx (by omega) (by rw [hb1, Nat.mul_one]; exact hb)
  have hargs : c.args = #[x, y] := by cases hca : c.args; simp [hca] at ha; simp [ha]
  have hat : c.argTypes = #[t, u] := by cases hca : c.argTypes; simp [hca] at hts; simp [hts]
  have hno : ∀ b, m j ≠ .obj b := by
    intro b hbo
    revert rx
    generalize a.eval x = vx
    intro rx
    cases rx with
    | bf0 hm => rw [hm] at hbo; cases hbo
    | bf hr hm => rw [hm] at hbo; cases hbo
  obtain ⟨r1, r2⟩ := hr.retok hno (of_blt hj) hok g2 g3
  unfold Oper.wp
  have hrun : (execOp a.eval o).run P w = .ok (.value v') w' := by simp [execOp, hop, resolve, hc, invoke, builtin, hargs, hat, ry, g1]
  rw [hrun]
  simp only [Oper.upon, hd]
  exact hN _ _ _ _ _ _ hW r1 r2

/-- The things that are owned, told anew. -/
theorem W_at {c : Code} {h' : List Ob} (hh : h = h') (hW : W P nt c E h' Q) : W P nt c E h Q := hh ▸ hW

/-! ### A builder of its own -/
/-- Room for a row's spare cells, told beside the rest. -/
theorem Rel.addTail {w : World} {F : Fz} {m : Mp} {a : Act} {j : Nat} (hr : Rel nt w F m E h a) (hj : h.length = j) : Rel nt w F (upd m j .no) E (h ++ [.tail]) a ∧ Gr w F m w F (upd m j .no) := by
  subst hj
  have sim := hr.sim
  have hfree : m h.length = .free := sim.dom _ (Nat.le_refl _)
  have hsame : ∀ i, m i ≠ .free → Same w m w (upd m h.length .no) i := fun i hi => ⟨upd_other (by rintro rfl; exact hi hfree), fun _ _ _ => rfl⟩
  have hoth : ∀ {i b}, (upd m h.length .no i).blk = some b → (m i).blk = some b := fun {i b} hi => by
    by_cases hij : i = h.length
    · subst hij; rw [upd_same] at hi; simp [Pl.blk] at hi
    · rwa [upd_other hij] at hi
  refine ⟨⟨hr.size, hr.defers.same fun i D h1 h2 h3 _ => ?_, fun t tg s ht => (hr.env t tg s ht).imp (fun h => ⟨h.1, h.2.keep (Ext.refl _ _) fun i _ hi => hsame i hi⟩) id, ?_⟩, ⟨rfl, rfl, rfl, Nat.le_refl _, Ext.refl _ _, fun _ _ _ => rfl, fun i b o hh _ => ?_, fun b o hF => .inl hF⟩⟩
  · have hlt := (List.getElem?_eq_some_iff.1 h1).1
    exact ⟨by rw [List.getElem?_append_left hlt]; exact h1, (upd_other (by omega)).trans h2, rfl⟩
  · refine ⟨sim.fl, fun i b hi => sim.lt i b (hoth hi), fun i b o hF hh => ?_, fun i k b hi hk => sim.inj i k b (hoth hi) (hoth hk), fun i hi => ?_, fun i t cs hi => ?_, fun i hi b => ?_, fun i b r ts ss hi => ?_, fun k i b hi => ?_⟩
    · by_cases hij : i = h.length
      · subst hij; rw [upd_same] at hh; exact hh
      · rw [upd_other hij] at hh; exact sim.fr i b o hF hh
    · simp at hi; rw [upd_other (by omega)]; exact sim.dom i (by omega)
    · have hlt := (List.getElem?_eq_some_iff.1 hi).1
      simp at hlt
      by_cases hij : i = h.length
      · subst hij; rw [List.getElem?_concat_length] at hi; cases hi
      · rw [List.getElem?_append_left (by omega)] at hi
        obtain ⟨b, cur, g1, g2, g3, g4⟩ := sim.ob i t cs hi
        exact ⟨b, cur, (upd_other hij).trans g1, g2, g3.keep (Ext.refl _ _) fun i _ hi => hsame i hi, g4⟩
    · by_cases hij : i = h.length
      · subst hij; rw [upd_same]; exact fun h => by cases h
      · have hlt := (List.getElem?_eq_some_iff.1 hi).1
        simp at hlt
        rw [List.getElem?_append_left (by omega)] at hi
        rw [upd_other hij]; exact sim.tl i hi b
    · have hlt := (List.getElem?_eq_some_iff.1 hi).1
      simp at hlt
      by_cases hij : i = h.length
      · subst hij; rw [List.getElem?_concat_length] at hi; cases hi
      · rw [List.getElem?_append_left (by omega)] at hi
        obtain ⟨g1, g2, g3⟩ := sim.rc i b r ts ss hi
        exact ⟨(upd_other hij).trans g1, g2, g3.keep (Ext.refl _ _) fun i _ hi => hsame i hi⟩
    · have hlt := (List.getElem?_eq_some_iff.1 hi).1
      simp at hlt
      by_cases hij : k = h.length
      · subst hij; rw [List.getElem?_concat_length] at hi; cases hi
      · rw [List.getElem?_append_left (by omega)] at hi
        have h1 := sim.pn k i b hi
        exact (upd_other (by rintro rfl; rw [hfree] at h1; cases h1)).trans h1
  · by_cases hij : i = h.length
    · subst hij; rw [upd_same] at hh; exact hh.elim
    · rw [upd_other hij] at hh; exact ⟨i, hh⟩

/-- var b strings.Builder. -/
theorem xB (hT : TOk P T) {t e j k : Nat} {ti : TI} {n : Nat} {α : Type} {enc : α → PV} (ho : ops[i]? = some o) (hop : o.op = .alloc t) (hg : o.guard = none) (hd : o.dst = some d) (ht : T t = some ti) (hz : ti.zero = [.s (.pointer none), .sl n α enc []])
    (hok : dstOk nt E [] (some d) = true) (hj : h.length = j) (hk : j + 1 = k) (hW : WL P nt ops (i + 1) ((d, [], SV.ptr k 0) :: E) (h ++ [.tail, .cells t [.np k 0, .bf e [] j]]) Q) : WL P nt ops i E h Q := by
  subst hj hk
  refine WL_op ho hg fun a w F m hr N Q hN => ?_
  have hti := hT t ti ht
  obtain ⟨inf, z, hi, hi1, hi2, hz', hzc⟩ := hti.zeros
  rw [hz] at hzc
  obtain ⟨q1, q2⟩ := hr.addTail rfl
  obtain ⟨r1, r2⟩ := q1.new (ob := .cells t [.np (h.length + 1) 0, .bf e [] h.length]) (v := .pointer (some ⟨w.heap.size, 0, none⟩)) (j := h.length + 1) (d := d) (by simp) hok (Nw.alloc q1.sim.fl (.cells z.cells t))
    ⟨w.heap.size, z.cells, rfl, heap_alloc_new w _, by
      rw [hzc]
      exact .cons .np0 (.cons (.bf0 (by rw [upd_other (by omega), upd_same])) .nil), by rw [hzc]; intro v hv; simp [zv] at hv; rcases hv with rfl | rfl <;> rfl⟩ (s := .ptr (h.length + 1) 0) (.ptr upd_same)
  unfold Oper.wp
  have hrun : (execOp a.eval o).run P w = .ok (.value (.pointer (some ⟨w.heap.size, 0, none⟩))) (w.alloc (.cells z.cells t)) := by simp [execOp, hop, Instr.alloc, zeroValue, typeInfo, hi, hz', newVar, newRow]
  rw [hrun]
  simp only [Oper.upon, hd]
  refine hN _ _ _ _ _ _ hW ?_ (q2.trans r2)
  simpa using r1
end
end Go.Proofs.Ytngcfmnmjkncoaa.Q
