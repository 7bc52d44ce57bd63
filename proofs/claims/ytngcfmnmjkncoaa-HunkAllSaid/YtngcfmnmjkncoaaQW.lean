/- Rules for a range over slices.Backward, boxes that nobody writes, and variables that hold a slice that is appended to; no condition but the typed premises. -/
import Derived.Test.YtngcfmnmjkncoaaQZ
namespace Go.Proofs.Ytngcfmnmjkncoaa.Q
open Go Go.RowKit
set_option linter.unusedVariables false
set_option linter.unusedSimpArgs false

section
variable {P : Program} {T : Tab} {nt : Nat} {E E1 : Env} {A : Tg} {h hp h1 : List Ob} {o : Oper} {ops : Array Oper} {Q : QB} {i d : Nat}

/-- A box that nobody writes. -/
theorem zF (T : Tab) {t : Nat} {x : Operand} {cs : List PV} (ho : o.op = .box t x) (hc : ((look E A x).bind fun s => (scells (coS (T t) s)).bind purL) = some cs) : Yld P o E A hp (.padr cs) := by
  refine .of_run fun a w F m hs hO => ?_
  obtain ⟨s, hx, h2⟩ := Option.bind_eq_some_iff.1 hc
  obtain ⟨ss, h3, h4⟩ := Option.bind_eq_some_iff.1 h2
  have rx := hO.rd (by simp [ho, Op.operands]) hx
  obtain ⟨g1, g2⟩ := scells_rd h3 (coS_rd (i := T t) rx)
  exact ⟨.pointer (some ⟨w.heap.size, 0, none⟩), w.alloc (.cells (a.eval x).cells t), _, by simp [execOp, ho, newVar, newRow, Instr.box], .padr (RdC.new hs.fl (purL_rd h4 g2 g1)), Qt.alloc w F _⟩

/-- var out []T, that is appended to. -/
theorem xO (hT : TOk P T) {t e n j k : Nat} {ti : TI} {α : Type} {enc : α → PV} (ho : ops[i]? = some o) (hop : o.op = .alloc t) (hg : o.guard = none) (hd : o.dst = some d) (ht : T t = some ti) (hz : ti.zero = [.sl n α enc []])
    (hok : dstOk nt E [] (some d) = true) (hj : h.length = j) (hk : j + 1 = k) (hW : WL P nt ops (i + 1) ((d, [], SV.ptr k 0) :: E) (h ++ [.tail, .cells t [.own e n α enc [] j]]) Q) : WL P nt ops i E h Q := by
  subst hj hk
  refine WL_op ho hg fun a w F m hr N Q hN => ?_
  have hti := hT t ti ht
  obtain ⟨inf, z, hi, hi1, hi2, hz', hzc⟩ := hti.zeros
  rw [hz] at hzc
  obtain ⟨q1, q2⟩ := hr.addTail rfl
  obtain ⟨r1, r2⟩ := q1.new (ob := .cells t [.own e n α enc [] h.length]) (v := .pointer (some ⟨w.heap.size, 0, none⟩)) (j := h.length + 1) (d := d) (by simp) hok (Nw.alloc q1.sim.fl (.cells z.cells t))
    ⟨w.heap.size, z.cells, rfl, heap_alloc_new w _, by
      rw [hzc]
      exact .cons (.own0 (by rw [upd_other (by omega), upd_same])) .nil, by rw [hzc]; intro v hv; simp [zv] at hv; rcases hv with rfl | rfl <;> rfl⟩ (s := .ptr (h.length + 1) 0) (.ptr upd_same)
  unfold Oper.wp
  have hrun : (execOp a.eval o).run P w = .ok (.value (.pointer (some ⟨w.heap.size, 0, none⟩))) (w.alloc (.cells z.cells t)) := by simp [execOp, hop, Instr.alloc, zeroValue, typeInfo, hi, hz', newVar, newRow]
  rw [hrun]
  simp only [Oper.upon, hd]
  refine hN _ _ _ _ _ _ hW ?_ (q2.trans r2)
  simpa using r1
end

/-! ### A range over slices.Backward, its rounds told by what is still to come -/
def bwR0 : Option Code → Array Oper
  | some (.seq (.region _ r _) _) => r
  | _ => #[]
def bwR1 : Option Code → Array Oper
  | some (.seq _ (.block _ (.loop (.seq (.seq (.region _ r _) _) _)))) => r
  | _ => #[]
def bwR2 : Option Code → Array Oper
  | some (.seq _ (.block _ (.loop (.seq _ (.seq _ (.region _ r _)))))) => r
  | _ => #[]
def bwR3 : Option Code → Array Oper
  | some (.seq _ (.block _ (.loop (.seq _ (.seq (.block _ (.seq (.region _ r _) _)) _))))) => r
  | _ => #[]
/-- As long as a slice can be. -/
def lnb {α : Type} (l : List α) : Option Unit := if (l.length : Int) ≤ 9223372036854775807 then some () else none
theorem lnb_of {α : Type} {l : List α} {u : Unit} (h : lnb l = some u) : (l.length : Int) ≤ 9223372036854775807 := by
  unfold lnb at h
  split at h
  · assumption
  · cases h

section
variable {P : Program} {T : Tab} {nt : Nat} {B : QB} {ks : List Fr}
theorem qB (hT : TOk P T) {g : Operand} {p1 p2 f n : Nat} {α : Type} {enc : α → PV} {xs : List α} {assign body : Code} {E E1 : Env} {h : List Ob} (L : List Nat) {fn : Func}
    (ok : BwOk P T (bwR0 fn.body) (bwR1 fn.body) (bwR2 fn.body) (bwR3 fn.body) n α enc) (hf : P.funcs[f]? = some fn) (hb : fn.body = some (bwCode 0 1 2 3 (bwR0 fn.body) (bwR1 fn.body) (bwR2 fn.body) (bwR3 fn.body))) (hnt : fn.ntmps = 19) (hres : fn.results = #[]) (hnm : (fn.name == "runtime.NumGoroutine") = false)
    (hg : look E [] g = some (.fn f [.padr [.sl n α enc xs]])) (hx : (xs.length : Int) ≤ 9223372036854775807) (hE : E.keep L = E1) (hst : stab h E1 = true) (hmk : noMark h = true) (hp1 : Nat.blt p1 nt = true) (hp2 : Nat.blt p2 nt = true) (hp12 : Nat.beq p1 p2 = false) (hpa : plain assign = true) (hpb : plain body = true)
    (J : (Nat → Nat) → List α → List Ob → Prop) (hJ0 : ∀ bs, J bs xs.reverse (h ++ pins bs 0 h)) (hJp : ∀ bs ys h', J bs ys h' → ∀ o ∈ pins bs 0 h, o ∈ h')
    (hround : ∀ bs x ys h', J bs (x :: ys) h' → W P nt assign ((p2, [], .p (enc x)) :: (p1, [], vi (ys.length : Int)) :: E1) h' fun e E2 h2 => e = .normal ∧ W P nt body E2 h2 (K P nt (fun _ _ _ => False) [.lp fun _ h3 => J bs ys h3]))
    (hend : ∀ bs h', J bs [] h' → ∀ h2, h' ++ [.mark] = h2 → K P nt B ks .normal E1 h2) : W P nt (.rangeFunc g #[p1, p2] assign body) E h (K P nt B ks) := by
  refine W_backward hT L ok hf hb hnt hres hnm hg hx hE hst hmk hp1 hp2 hp12 hpa hpb (fun bs k h' => J bs (xs.reverse.drop k) h') (fun _ _ => False) (fun bs => by simpa using hJ0 bs) (fun bs k h' hj => hJp bs _ h' hj) (fun _ _ hx => hx.elim) ?_ ?_ ?_
  · intro bs k x h' hk hxk hj
    have hd : xs.reverse.drop k = x :: xs.reverse.drop (k + 1) := by
      have h1 : xs.reverse[k]? = some x := by rw [List.getElem?_reverse hk]; exact hxk
      obtain ⟨hl, hv⟩ := List.getElem?_eq_some_iff.1 h1
      rw [← hv]
      exact List.drop_eq_getElem_cons hl
    rw [hd] at hj
    have hr := hround bs x _ h' hj
    have hlen : (xs.reverse.drop (k + 1)).length = xs.length - 1 - k := by rw [List.length_drop, List.length_reverse]; omega
    rw [hlen] at hr
    refine W_conseq hr ?_
    rintro e E2 h2 ⟨he, hw⟩
    refine ⟨he, W_conseq hw ?_⟩
    intro e E3 h3 hq
    cases e with
    | normal => exact .inl ⟨rfl, hq⟩
    | _ => exact hq.elim
  · intro bs h' hj
    rw [List.drop_eq_nil_of_le (by simp)] at hj
    exact hend bs h' hj _ rfl
  · exact fun _ _ hx => hx.elim
end
end Go.Proofs.Ytngcfmnmjkncoaa.Q
