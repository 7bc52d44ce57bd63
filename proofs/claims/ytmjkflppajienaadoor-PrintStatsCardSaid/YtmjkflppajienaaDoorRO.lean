/- Variables made, and stores, as steps from state to state; no condition but the typed premises. -/
import Derived.Test.YtmjkflppajienaaDoorRN
import Derived.Test.YtmjkflppajienaaDoorRW
namespace Go.Proofs.YtmjkflppajienaaDoor.R
open Go Go.RowKit
set_option linter.unusedVariables false
set_option linter.unusedSimpArgs false
section
variable {P : Program} {T : Tab} {nt : Nat} {E : Env} {h : List Ob} {o : Oper} {d : Nat}
theorem OSt_box {t : Nat} {x : Operand} {s : SV} {cs : List SV} (ho : o.op = .box t x) (hd : o.dst = some d) (hx : look E [] x = some s) (hc : scells (coS (T t) s) = some cs) (hok : dstOk nt E [] (some d) = true) : OSt P nt o E h fun E' h' => E' = (d, [], SV.ptr h.length 0) :: E ∧ h' = h ++ [.cells t cs] := by
  intro _ a w F m hr N Q hN
  have rx := (hr.opd (Tags.nil a) o).rd (by simp [ho, Op.operands]) hx
  obtain ⟨g1, g2⟩ := scells_rd hc (coS_rd (i := T t) rx)
  have sim := hr.sim
  have hfree : m h.length = .free := sim.dom _ (Nat.le_refl _)
  have hext : Ext w F (w.alloc (.cells (a.eval x).cells t)) F := fun b o hF => ⟨hF, cell_of_heap (Below.heap_alloc w _ b (sim.fl b o hF))⟩
  obtain ⟨r1, r2⟩ := hr.new (j := h.length) (ob := .cells t cs) (v := .pointer (some ⟨w.heap.size, 0, none⟩)) rfl hok (Nw.alloc sim.fl (.cells (a.eval x).cells t))
    ⟨w.heap.size, _, rfl, heap_alloc_new w _, .cells (g1.keep hext fun i _ hi => ⟨upd_other (by rintro rfl; exact hi hfree), fun b lo hb => Below.heap_alloc w _ b (sim.lt i b (by simp [hb, Pl.blk]))⟩) g2⟩
    (s := .ptr h.length 0) (.ptr upd_same)
  unfold Oper.wp
  have hrun : (execOp a.eval o).run P w = .ok (.value (.pointer (some ⟨w.heap.size, 0, none⟩))) (w.alloc (.cells (a.eval x).cells t)) := by simp [execOp, ho, Instr.box, newVar, newRow]
  rw [hrun]
  simp only [Oper.upon, hd]
  exact hN _ _ _ _ _ _ ⟨rfl, rfl⟩ r1 r2
theorem OSt_alloc (hT : TOk P T) {t : Nat} {ti : TI} (ho : o.op = .alloc t) (hd : o.dst = some d) (ht : T t = some ti) (hok : dstOk nt E [] (some d) = true) : OSt P nt o E h fun E' h' => E' = (d, [], SV.ptr h.length 0) :: E ∧ h' = h ++ [.cells t (ti.zero.map .p)] := by
  intro _ a w F m hr N Q hN
  have sim := hr.sim
  have hti := hT t ti ht
  obtain ⟨inf, z, hi, hi1, hi2, hz, hzc⟩ := hti.zeros
  obtain ⟨g1, g2⟩ := zero_rd (w := w.alloc (.cells z.cells t)) (F := F) (m := upd m h.length (.obj w.heap.size)) hti.zok
  obtain ⟨r1, r2⟩ := hr.new (j := h.length) (ob := .cells t (ti.zero.map .p)) (v := .pointer (some ⟨w.heap.size, 0, none⟩)) rfl hok (Nw.alloc sim.fl (.cells z.cells t))
    ⟨w.heap.size, _, rfl, heap_alloc_new w _, .cells (by rw [hzc]; exact g1) (by rw [hzc]; exact g2)⟩ (s := .ptr h.length 0) (.ptr upd_same)
  unfold Oper.wp
  have hrun : (execOp a.eval o).run P w = .ok (.value (.pointer (some ⟨w.heap.size, 0, none⟩))) (w.alloc (.cells z.cells t)) := by simp [execOp, ho, Instr.alloc, zeroValue, typeInfo, hi, hz, newVar, newRow]
  rw [hrun]
  simp only [Oper.upon, hd]
  exact hN _ _ _ _ _ _ ⟨rfl, rfl⟩ r1 r2
theorem OSt_store (hT : TOk P T) {t b off u : Nat} {x y : Operand} {s : SV} {cs vs : List SV} {ti : TI} (ho : o.op = .store t x y) (hd : o.dst = none) (ht : T t = some ti) (hx : look E [] x = some (.ptr b off)) (hy : look E [] y = some s) (hc : scells (coS (some ti) s) = some vs) (hl : Nat.beq vs.length ti.size = true) (hob : h[b]? = some (.cells u cs)) (hle : Nat.ble (off + vs.length) cs.length = true) :
    OSt P nt o E h fun E' h' => E' = E ∧ h' = h.set b (.cells u (cs.take off ++ vs ++ cs.drop (off + vs.length))) := by
  intro _ a w F m hr N Q hN
  have hO := hr.opd (Tags.nil a) o
  have ex := hO.rd (by simp [ho, Op.operands]) hx
  have ey := coS_rd (i := some ti) (hO.rd (by simp [ho, Op.operands]) hy)
  obtain ⟨v1, v2⟩ := scells_rd hc ey
  obtain ⟨bl, cur, g1, g2, g3, g4, g5⟩ := hr.store (o := none) hob v1 v2 (Nat.le_of_ble_eq_true hle)
  obtain ⟨inf, hi1, hi2, _⟩ := (hT t ti ht).info
  have e1 := Nat.eq_of_beq_eq_true hl
  have hsz : (a.eval y).cells.size = inf.size := by have := v1.length; simp at this; omega
  generalize hv : a.eval x = v at ex
  cases ex with
  | @ptr _ _ bb hm =>
    rw [hm] at g1
    simp only [Pl.obj.injEq] at g1
    subst g1
    have hst := run_storeCells_at P bb off u (a.eval y).cells.toList 0 cur w g2 (by simpa using g3) v2
    unfold Oper.wp
    have hrun : (execOp a.eval o).run P w = .ok .skip (w.setRow bb (cur.toList.take off ++ (a.eval y).cells.toList ++ cur.toList.drop (off + (a.eval y).cells.toList.length)).toArray) := by
      simp only [Nat.add_zero] at hst
      simp only [execOp, ho, hv, Instr.storeAt, Instr.sureAddr, Sem.run_bind, Sem.run_pure, Result.andThen_ok, storeVar, sizeOf, typeInfo, run_program, hi1]
      rw [if_neg (by simpa using hsz)]
      rw [hst]
      rfl
    rw [hrun]
    simp only [Oper.upon, hd]
    exact hN _ _ _ _ _ _ ⟨rfl, rfl⟩ g4 g5
end
end Go.Proofs.YtmjkflppajienaaDoor.R
