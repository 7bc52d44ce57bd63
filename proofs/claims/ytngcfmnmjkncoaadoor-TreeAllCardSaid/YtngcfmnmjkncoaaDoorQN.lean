/- More rules: what is nil, rows of zeros, calls whose answer the call owns, contracts told otherwise; no condition but the typed premises. -/
import Derived.Test.YtngcfmnmjkncoaaDoorQM
namespace Go.Proofs.YtngcfmnmjkncoaaDoor.Q
open Go Go.RowKit
set_option linter.unusedVariables false
set_option linter.unusedSimpArgs false

/-- Is a row nil? Where it has nothing in it, both may be; then both ways must answer alike. -/
def nq {α β : Type} [DecidableEq β] (l : List α) (f : Bool → Option β) : Option β := match l with
  | [] => if f true = f false then f true else none
  | _ :: _ => f false
/-- Is there room for so many more? -/
def grw (bytes : Nat) (n : Int) : Option Unit := if 0 ≤ n ∧ n * bytes ≤ 140737488355328 ∧ n ≤ 140737488355328 then some () else none
theorem grw_of {bytes : Nat} {n : Int} {u : Unit} (h : grw bytes n = some u) : 0 ≤ n ∧ n * bytes ≤ 140737488355328 ∧ n ≤ 140737488355328 := by
  unfold grw at h
  split at h
  · rename_i hb; exact hb
  · cases h
theorem nq_of {α β : Type} [DecidableEq β] {l : List α} {f : Bool → Option β} {r : β} (h : nq l f = some r) (b : Bool) (hb : b = true → l = []) : f b = some r := by
  unfold nq at h
  split at h
  · split at h
    · rename_i he
      cases b
      · rw [← he]; exact h
      · exact h
    · cases h
  · cases b
    · exact h
    · simp at hb

section
variable {P : Program} {T : Tab} {nt : Nat} {E : Env} {A : Tg} {h h1 : List Ob} {Q : QB} {o : Oper} {s : SV} {ops : Array Oper} {i d : Nat}

theorem run_equalIn_nil1 (d : Nat) (t e : TypeId) (w : World) (h : P.underlying t = some (.slice e)) : (Op.equalIn (d + 1) t (.slice none 0 0) (.slice none 0 0)).run P w = .ok true w := by
  simp [Op.equalIn, run_underlying h]
theorem run_equalIn_nil2 (d : Nat) (t e : TypeId) (a : Addr) (n c : Nat) (w : World) (h : P.underlying t = some (.slice e)) : (Op.equalIn (d + 1) t (.slice (some a) n c) (.slice none 0 0)).run P w = .ok false w := by
  simp [Op.equalIn, run_underlying h]
theorem xq (hT : TOk P T) {t u e n : Nat} {x : Operand} {sx : SV} {α : Type} {enc : α → PV} {l : List α} (ho : ops[i]? = some o) (hop : o.op = .binOp .eql t x (.const (.slice none 0 0)) u) (hg : o.guard = none) (hd : o.dst = some d)
    (hk : kOf T t = .sl e) (hx : look E [] x = some sx) (hq : pur sx = some (.sl n α enc l)) (hok : dstOk nt E [] (some d) = true) (hW : ∀ b : Bool, (b = true → l = []) → WL P nt ops (i + 1) ((d, [], vb b) :: E) h Q) : WL P nt ops i E h Q := by
  refine WL_op ho hg fun a w F m hr N Q hN => ?_
  obtain ⟨ti, hti, htk⟩ := kOf_ti (T := T) (t := t) (by rw [hk]; simp)
  have hu := (hT t ti hti).slice (htk.trans hk)
  have ex := pur_rd hq ((hr.opd (Tags.nil a) o).rd (by simp [hop, Op.operands]) hx)
  have fin : ∀ b : Bool, (b = true → l = []) → (execOp a.eval o).run P w = .ok (.value (.bool b)) w → o.wp P a w N Q := by
    intro b hb hrun
    unfold Oper.wp
    rw [hrun]
    exact hN _ _ _ _ _ _ (hW b hb) (by have := hr.put (d := some d) (tg := []) (s := vb b) (v := .bool b) hok (Tags.nil a) (Qt.refl w F) (.p (.s _)); rw [hd]; exact this) (Gr.refl _ _ _)
  have ec : a.eval (.const (.slice none 0 0)) = .slice none 0 0 := rfl
  generalize hv : a.eval x = v at ex
  cases ex with
  | nil =>
    have he : (Op.equal t (.slice none 0 0) (.slice none 0 0)).run P w = .ok true w := run_equalIn_nil1 9999 t e w hu
    exact fin true (fun _ => rfl) (by simp [execOp, hop, hv, ec, eqGuard, binOp, he])
  | emp ad =>
    have he := run_equalIn_nil2 (P := P) 9999 t e ad 0 0 w hu
    exact fin false (by simp) (by
      have he' : (Op.equal t (.slice (some ad) 0 0) (.slice none 0 0)).run P w = .ok false w := he
      simp [execOp, hop, hv, ec, eqGuard, binOp, he'])
  | @sl b off cap _ _ _ _ hn hc hr' =>
    have he := run_equalIn_nil2 (P := P) 9999 t e ⟨b, off, none⟩ l.length cap w hu
    exact fin false (by simp) (by
      have he' : (Op.equal t (.slice (some ⟨b, off, none⟩) l.length cap) (.slice none 0 0)).run P w = .ok false w := he
      simp [execOp, hop, hv, ec, eqGuard, binOp, he'])

theorem y_mv0 {x : Operand} (hx : look E A x = some s) (ho : o.op = .move x ∨ o.op = .assign x) : Yld P o E A h s := by
  refine .of_still fun a w F m hs hO => ⟨a.eval x, ?_, hO.rd (by rcases ho with h | h <;> simp [h, Op.operands]) hx⟩
  rcases ho with h | h <;> simp [execOp, h]
theorem y_cap0 (hT : TOk P T) {c : Call} {x : Operand} {t e : Nat} (ho : o.op = .call c) (hc : c.callee = .builtin .cap) (ha : c.args.toList = [x]) (hts : c.argTypes.toList = [t]) (hk : kOf T t = .sl e) (hx : look E A x = some (.p (.s (.slice none 0 0)))) : Yld P o E A h (vi 0) := by
  refine .of_still fun a w F m hs hO => ⟨.int .i64 0, ?_, .p (.s _)⟩
  have hmx : x ∈ o.op.operands := by rw [ho]; exact Array.mem_append.2 (.inr (Array.mem_toList_iff.1 (by rw [ha]; simp)))
  have ex := rd_s (hO.rd hmx hx)
  obtain ⟨ti, hti, htk⟩ := kOf_ti (T := T) (t := t) (by rw [hk]; simp)
  have hu := (hT t ti hti).slice (htk.trans hk)
  have hargs : c.args = #[x] := by cases hca : c.args; simp [hca] at ha; simp [ha]
  have hat : c.argTypes = #[t] := by cases hca : c.argTypes; simp [hca] at hts; simp [hts]
  simp [execOp, ho, resolve, hc, invoke, builtin, hargs, hat, ex, Builtin.cap_, run_underlying hu, goInt]
theorem y_cut0 (hT : TOk P T) {t e : Nat} {ei : TI} {x y : Operand} (ho : o.op = .slice t x none (some y) none) (hk : kOf T t = .sl e) (he : T e = some ei) (hx : look E A x = some (.p (.s (.slice none 0 0)))) (hy : look E A y = some (vi 0)) : Yld P o E A h (.p (.s (.slice none 0 0))) := by
  refine .of_still fun a w F m hs hO => ⟨.slice none 0 0, ?_, .p (.s _)⟩
  have ex := rd_s (hO.rd (by simp [ho, Op.operands]) hx)
  have ey := rd_s (hO.rd (by simp [ho, Op.operands]) hy)
  obtain ⟨ti, hti, htk⟩ := kOf_ti (T := T) (t := t) (by rw [hk]; simp)
  have hu := (hT t ti hti).slice (htk.trans hk)
  obtain ⟨inf, hi1, hi2, _⟩ := (hT e ei he).info
  simp [execOp, ho, ex, ey, Instr.sliceAt, Instr.slice, Instr.sliceBounds, Instr.sliceBound, asIntOf, run_underlying hu, sizeOf, typeInfo, hi1, hi2]

/-- A nil slice made longer by zeros: a new row, of whose cells nothing is told. -/
theorem xz (hT : TOk P T) {c : Call} {x y : Operand} {t u e : Nat} {k : Nat} {ku : IntKind} {ei : TI} {j : Nat} (ho : ops[i]? = some o) (hop : o.op = .call c) (hc : c.callee = .builtin .append) (ha : c.args.toList = [x, y]) (hts : c.argTypes.toList = [t, u]) (hg : o.guard = none) (hd : o.dst = some d)
    (hk : kOf T t = .sl e) (hku : kOf T u = .int ku) (he : T e = some ei) (hx : look E [] x = some (.p (.s (.slice none 0 0)))) (hy : look E [] y = some (vi (k : Int))) (hok : dstOk nt E [] (some d) = true) (hj : h.length = j) (hk0 : 0 < k) (hs0 : Nat.blt 0 ei.size = true) (hb0 : Nat.blt 0 ei.bytes = true)
    (hb : k * ei.bytes ≤ 140737488355328) (hW : WL P nt ops (i + 1) ((d, [], SV.rw e ei.size k j) :: E) (h ++ [.tail]) Q) : WL P nt ops i E h Q := by
  refine WL_op ho hg fun a w F m hr N Q hN => ?_
  have sim := hr.sim
  have hO := hr.opd (Tags.nil a) o
  obtain ⟨ti, hti, htk⟩ := kOf_ti (T := T) (t := t) (by rw [hk]; simp)
  have ht := (hT t ti hti).slice (htk.trans hk)
  obtain ⟨ui, hui, huk⟩ := kOf_ti (T := T) (t := u) (by rw [hku]; simp)
  have hu := (hT u ui hui).int (huk.trans hku)
  obtain ⟨inf, z, hi, hi1, hi2, hz, hzc⟩ := (hT e ei he).zeros
  have hmx : x ∈ o.op.operands := by rw [hop]; exact Array.mem_append.2 (.inr (Array.mem_toList_iff.1 (by rw [ha]; simp)))
  have hmy : y ∈ o.op.operands := by rw [hop]; exact Array.mem_append.2 (.inr (Array.mem_toList_iff.1 (by rw [ha]; simp)))
  have ex := rd_s (hO.rd hmx hx)
  have ey := rd_s (hO.rd hmy hy)
  have hargs : c.args = #[x, y] := by cases hca : c.args; simp [hca] at ha; simp [ha]
  have hat : c.argTypes = #[t, u] := by cases hca : c.argTypes; simp [hca] at hts; simp [hts]
  have hb0 := of_blt hb0
  have hs0 := of_blt hs0
  have hk47 : k ≤ 140737488355328 := by
    have : k * 1 ≤ k * ei.bytes := Nat.mul_le_mul_left _ hb0
    omega
  have hzs : z.cells.size = ei.size := by
    have := congrArg List.length hzc
    have h2 := Nat.eq_of_beq_eq_true (hT e ei he).zl
    simp at this
    omega
  have hge := grownCap_ge w k 0 e
  have hcm : grownCap w k 0 e ≤ maxLen := grownCap_le_maxLen w _ 0 e (by simp only [maxLen]; omega)
  have wk : IntKind.i64.wrap (k : Int) = (k : Int) := by rw [IntKind.wrap_i64]; omega
  have n1 : ¬ ((k : Int) < 0) := by omega
  have n2 : ¬ (281474976710656 < (k : Int) * (ei.bytes : Int)) := by
    have : ((k * ei.bytes : Nat) : Int) ≤ 140737488355328 := by omega
    rw [Int.natCast_mul] at this
    omega
  have n3 : ¬ k = 0 := by omega
  have n4 : ¬ (9223372036854775807 < (k : Int)) := by omega
  have n5 : ¬ (281474976710656 < Builtin.nextslicecap k 0 * ei.bytes) := by rw [nextslicecap_zero hk0]; omega
  have n6 : ¬ (k * ei.size = 0) := by intro hh; rcases Nat.mul_eq_zero.1 hh with h | h <;> omega
  have hrun : (execOp a.eval o).run P w = .ok (.value (.slice (some ⟨w.heap.size, 0, none⟩) k (grownCap w k 0 e))) (w.drew.alloc (.cells (Builtin.zeroCells z.cells k ++ Builtin.zeroCells z.cells (grownCap w k 0 e - k)) e)) := by
    simp [execOp, hop, resolve, hc, invoke, builtin, hargs, hat, ex, ey, Builtin.append_, run_underlying ht, run_underlying hu, sizeOf, typeInfo, zeroValue, hi, hz, hi1, hi2, asInt, asIntOf, wk, n1, n2, n3, n4, n5, n6, Question.forced, run_firstCells_none, newRow, grownCap]
  obtain ⟨r1, r2⟩ := hr.new (ob := .tail) (F' := F) (p := .tail w.heap.size 0) (w' := w.drew.alloc (.cells (Builtin.zeroCells z.cells k ++ Builtin.zeroCells z.cells (grownCap w k 0 e - k)) e)) (v := .slice (some ⟨w.heap.size, 0, none⟩) k (grownCap w k 0 e)) (s := .rw e ei.size k j) hj hok
    ⟨rfl, rfl, rfl, by simp, fun _ _ h => h, fun b hb => Below.heap_alloc w.drew _ b hb, fun b o hF => .inl hF, fun b hb => by simp only [Pl.blk, Option.some.injEq] at hb; subst hb; exact ⟨Nat.le_refl _, by simp⟩, fun b o hF hh => by
      obtain ⟨rfl, _⟩ := hh
      exact absurd (sim.fl _ _ hF) (Nat.lt_irrefl _)⟩ (fun b h => by cases h)
    (.rw upd_same (heap_alloc_new w.drew _) hge hcm (by simp only [Array.size_append, size_zeroCells, hzs, ← Nat.add_mul]; congr 1; omega))
  unfold Oper.wp
  rw [hrun]
  simp only [Oper.upon, hd]
  exact hN _ _ _ _ _ _ hW r1 r2

/-- Nothing of such a row: an empty slice that the call owns. -/
theorem xr (hT : TOk P T) {t e n k : Nat} {ei : TI} {x y : Operand} {j : Nat} {α : Type} (enc : α → PV) (ho : ops[i]? = some o) (hop : o.op = .slice t x none (some y) none) (hg : o.guard = none) (hk : kOf T t = .sl e) (he : T e = some ei) (hx : look E [] x = some (.rw e n k j)) (hy : look E [] y = some (vi 0))
    (hd : dstOk nt E [] o.dst = true) (hW : WL P nt ops (i + 1) (E.putO o.dst [] (.own e n α enc [] j)) h Q) : WL P nt ops i E h Q := by
  refine qy ho (.of_still fun a w F m hs hO => ?_) hg hd rfl hW
  have rx := hO.rd (by simp [hop, Op.operands]) hx
  have ey := rd_s (hO.rd (by simp [hop, Op.operands]) hy)
  obtain ⟨ti, hti, htk⟩ := kOf_ti (T := T) (t := t) (by rw [hk]; simp)
  have hu := (hT t ti hti).slice (htk.trans hk)
  obtain ⟨inf, hi1, hi2, _⟩ := (hT e ei he).info
  generalize hv : a.eval x = v at rx
  cases rx with
  | @rw _ _ _ _ b cap cur hm hb hc hcm hsz =>
    refine ⟨.slice (some ⟨b, 0, none⟩) 0 cap, ?_, ?_⟩
    · simp [execOp, hop, hv, ey, Instr.sliceAt, Instr.slice, Instr.sliceBounds, Instr.sliceBound, asIntOf, run_underlying hu, sizeOf, typeInfo, hi1, hi2]
      by_cases h0 : cap = 0
      · simp [h0]
      · simp [h0, Addr.add]
    · exact .own (xs := []) (by simp) (.nil b 0) (by simpa using hm) hb (by simp) hcm hsz

/-- A nil slice that is told outright, as one that the call owns. -/
theorem xo {e n j : Nat} {x : Operand} {α : Type} (enc : α → PV) (ho : ops[i]? = some o) (hop : o.op = .move x ∨ o.op = .assign x) (hg : o.guard = none) (hd : o.dst = some d) (hx : look E [] x = some (.p (.s (.slice none 0 0)))) (hok : dstOk nt E [] (some d) = true) (hj : h.length = j)
    (hW : WL P nt ops (i + 1) ((d, [], SV.own e n α enc [] j) :: E) (h ++ [.tail]) Q) : WL P nt ops i E h Q := by
  refine WL_op ho hg fun a w F m hr N Q hN => ?_
  have ex := rd_s ((hr.opd (Tags.nil a) o).rd (by rcases hop with h | h <;> simp [h, Op.operands]) hx)
  obtain ⟨r1, r2⟩ := hr.new (ob := .tail) (v := .slice none 0 0) hj hok (Nw.refl w F) (fun b h => by cases h) (s := .own e n α enc [] j) (.own0 upd_same)
  unfold Oper.wp
  have hrun : (execOp a.eval o).run P w = .ok (.value (.slice none 0 0)) w := by rcases hop with ho | ho <;> simp [execOp, ho, ex]
  rw [hrun]
  simp only [Oper.upon, hd]
  exact hN _ _ _ _ _ _ hW r1 r2

/-- x[:h:h], nothing of its spare cells told. -/
theorem zt3 (hT : TOk P T) {t e n : Nat} {x y z : Operand} {sx : SV} {α : Type} {enc : α → PV} {l r : List α} {ei : TI} (k k' : IntKind) {hi : Int} (hx : cut l 0 hi = some r) (hop : o.op = .slice t x none (some y) (some z))
    (hk : kOf T t = .sl e) (he : T e = some ei) (hn : ei.size = n) (ha : look E A x = some sx) (hq : pur sx = some (.sl n α enc l)) (hy : look E A y = some (.p (.s (.int k hi)))) (hz : look E A z = some (.p (.s (.int k' hi)))) : Yld P o E A h (.p (.sl n α enc r)) := by
  subst hn
  unfold cut at hx
  split at hx
  · rename_i hb
    simp only [Option.some.injEq, Int.toNat_zero, List.drop_zero] at hx
    subst hx
    obtain ⟨_, h0, h2⟩ := hb
    refine .of_still fun a w F m hs hO => ?_
    have ex := pur_rd hq (hO.rd (by simp [hop, Op.operands]) ha)
    have ey := rd_s (hO.rd (by simp [hop, Op.operands]) hy)
    have ez := rd_s (hO.rd (by simp [hop, Op.operands]) hz)
    obtain ⟨ti, hti, htk⟩ := kOf_ti (T := T) (t := t) (by rw [hk]; simp)
    have hu := (hT t ti hti).slice (htk.trans hk)
    obtain ⟨inf, hi1, hi2, _⟩ := (hT e ei he).info
    generalize hv : a.eval x = v at ex
    have run : ∀ (ad : Option Addr) (cap : Nat), l.length ≤ cap → (execOp a.eval o).run P w = .ok (.value (.slice (if hi.toNat = 0 then ad else ad.map (·.add 0)) hi.toNat hi.toNat)) w ∨ v ≠ .slice ad l.length cap := by
      intro ad cap hc
      by_cases hvv : v = .slice ad l.length cap
      · left
        subst hvv
        have g2 : hi ≤ (cap : Int) := by omega
        have g3 : hi ≤ ((hi.toNat : Nat) : Int) := by omega
        have g5 : ¬ max hi 0 < hi := by omega
        simp [execOp, hop, hv, ey, ez, Instr.sliceAt, Instr.slice, Instr.sliceBounds, Instr.sliceBound, asIntOf, run_underlying hu, h0, g2, g3, g5, sizeOf, typeInfo, hi1, hi2]
      · exact .inr hvv
    cases ex with
    | nil nn =>
      have r := (run none 0 (by simp)).resolve_right (by simp)
      have e1 : hi.toNat = 0 := by simp at h2; omega
      rw [e1] at r
      rw [e1]
      exact ⟨_, r, .p (.nil _ _ _)⟩
    | emp ad nn =>
      have r := (run (some ad) 0 (by simp)).resolve_right (by simp)
      have e1 : hi.toNat = 0 := by simp at h2; omega
      rw [e1] at r
      rw [e1]
      exact ⟨_, r, .p (.emp _ _ _ _)⟩
    | @sl b off cap _ _ _ _ hn hc hr' =>
      have r := (run (some ⟨b, off, none⟩) cap hc).resolve_right (by simp)
      have e3 : (if hi.toNat = 0 then some (⟨b, off, none⟩ : Addr) else (some (⟨b, off, none⟩ : Addr)).map (·.add 0)) = some ⟨b, off, none⟩ := by split <;> simp [Addr.add]
      rw [e3] at r
      refine ⟨_, r, .p ?_⟩
      have := rd_cut hn hc hr' (l := 0) (h := hi.toNat) (Nat.zero_le _) (by omega) hi.toNat (by omega) off (.inl (by simp))
      simpa using this
  · cases hx

/-! ### A call whose answer the call owns -/
/-- A function that hands back a slice that its caller then owns. -/
def PO (P : Program) (f : Nat) (args : List SV) (e n : Nat) (α : Type) (enc : α → PV) (xs : List α) : Prop := PC P f args [] fun s h => s = .own e n α enc xs 0 ∧ h = [.tail]
theorem xc {c : Call} {x : Operand} {f e n j : Nat} {α : Type} {enc : α → PV} {l : List α} {args : List SV} {fn : Func} (hF : PO P f args e n α enc l) (hf : P.funcs[f]? = some fn) (ho : ops[i]? = some o) (hop : o.op = .call c) (hc : c.callee = .value x) (hg : o.guard = none) (hd : o.dst = some d) (hb : fn.body.isSome = true)
    (hx : calS E [] x = some (f, [])) (hnm : (fn.name == "runtime.NumGoroutine") = false) (ha : lookL E [] c.args.toList = some args) (hi : SV.idsL args = []) (hok : dstOk nt E [] (some d) = true) (hj : h.length = j)
    (hW : WL P nt ops (i + 1) ((d, [], SV.own e n α enc l j) :: E) (h ++ [.tail]) Q) : WL P nt ops i E h Q := by
  obtain ⟨body, hbody⟩ := Option.isSome_iff_exists.1 hb
  refine WL_op ho hg fun a w F m hr N Q hN => ?_
  have sim := hr.sim
  obtain ⟨vs, h1, h2⟩ := call_run (m := m) hop hc hx ha hf hbody hnm (hr.opd (Tags.nil a) o)
  rw [List.append_nil] at h2
  have h3 : RdSL w F (fun _ => .free) vs args := RdSL.move hi h2
  have h4 : Sim w F (fun _ => .free) [] := ⟨sim.fl, fun i b h => by simp [Pl.blk] at h, fun i b o _ h => h.elim, fun i k b h => by simp [Pl.blk] at h, fun _ _ => rfl, fun i t cs h => by simp at h, fun i h => by simp at h, fun i b r ts ss h => by simp at h, fun k i b h => by simp at h⟩
  unfold Oper.wp
  rw [h1]
  refine (hF vs w F _ h3 h4).mono fun e' w' ⟨v, s', h', F', m', he, ⟨hs', hh'⟩, hrd, hsim', hgr⟩ => ?_
  subst he hs' hh'
  have hown : ∀ b o, (m' 0).has b o → w.heap.size ≤ b := fun b o hh => by
    by_cases hb : b < w.heap.size
    · obtain ⟨k, hk⟩ := hgr.own 0 b o hh hb; exact hk.elim
    · omega
  obtain ⟨r1, r2⟩ := hr.new (ob := .tail) (F' := F') (p := m' 0) (w' := w') (v := v) (s := .own e n α enc l j) hj hok
    ⟨hgr.os, hgr.tape, hgr.output, hgr.size, fun b o h => (hgr.ext b o h).1, fun b hb => hgr.block b hb fun i => by simp [Pl.blk], fun b o hF => by
      rcases hgr.fl b o hF with h5 | h5 | ⟨k, h5⟩
      · exact .inl h5
      · exact .inr ⟨h5, hsim'.fl b o hF⟩
      · exact h5.elim, fun b hb => by
      obtain ⟨o, hh⟩ := Pl.blk_has hb
      exact ⟨hown b o hh, hsim'.lt 0 b hb⟩, fun b o hF hh => hsim'.fr 0 b o hF hh⟩ (fun b => hsim'.tl 0 rfl b) (by
    cases hrd with
    | own0 hm => exact .own0 (by rw [upd_same]; exact hm)
    | owne ad hm => exact .owne ad (by rw [upd_same]; exact hm)
    | ownx hn hr hm => exact .ownx hn hr (by rw [upd_same]; exact hm)
    | own hn hr hm hb hc hcm hs => exact .own hn hr (by rw [upd_same]; exact hm) hb hc hcm hs)
  simp only [hd]
  exact hN _ _ _ _ _ _ hW r1 r2
theorem PO_mk (hT : TOk P T) {f e n : Nat} {α : Type} {enc : α → PV} {l : List α} {fn : Func} {body : Code} {args : List SV} (hf : P.funcs[f]? = some fn) (hb : fn.body = some body) (hn : Nat.ble args.length fn.ntmps = true)
    (hW : W P fn.ntmps body (argE 0 args) [] (K P fn.ntmps (Fin T fn.results.toList (fun s h => s = .own e n α enc l 0 ∧ h = [.tail]) 0) [])) : PO P f args e n α enc l :=
  PC_of_W hT hf hb hn (W_conseq hW fun x E h hq => by simpa [K] using hq)

/-! ### Contracts told otherwise -/
/-- A function of scalars, by what the machine answers. -/
theorem PF_of {f : Nat} {args : List Value} {v : Value} (hC : ∀ w, Calls P f args.toArray w fun e w' => e = .returned v ∧ Below w.heap.size w w') : PF P f (args.map fun v => .p (.s v)) (.p (.s v)) := by
  intro vs w F m hvs hsim
  have hargs : vs = args := by
    clear hC
    induction args generalizing vs with
    | nil => cases hvs; rfl
    | cons a as ih =>
      cases hvs with
      | cons h1 h2 => rw [rd_s h1, ih _ h2]
  subst hargs
  refine (hC w).mono ?_
  rintro e w' ⟨rfl, hb⟩
  have hno : ∀ i, m i = .free := fun i => hsim.dom i (Nat.zero_le _)
  refine ⟨v, _, [], F, m, rfl, ⟨rfl, rfl⟩, .p (.s v), ?_, ?_⟩
  · exact ⟨fun b o hF => Nat.lt_of_lt_of_le (hsim.fl b o hF) hb.size, fun i b hi => by rw [hno i] at hi; simp [Pl.blk] at hi, hsim.fr, hsim.inj, hsim.dom, fun i t cs hi => by simp at hi, fun i hi => by simp at hi, fun i b r ts ss hi => by simp at hi, fun k i b hi => by simp at hi⟩
  · exact ⟨hb.os, hb.tape, hb.output, hb.size, fun b o hF => ⟨hF, cell_of_heap (hb.block b (hsim.fl b o hF))⟩, fun b hbb _ => hb.block b hbb, fun i b o hh _ => ⟨i, hh⟩, fun b o hF => .inl hF⟩
/-- What a walk of a law comes to, for its row. -/
theorem PF.calls {f : Nat} {args : List SV} {v : Value} (hF : PF P f args (.p (.s v))) {vs : List Value} {w : World} {F : Fz} (hf : ∀ b o, F b o → b < w.heap.size) (hr : RdSL w F (fun _ => .free) vs args) :
    Calls P f vs.toArray w fun e w' => e = .returned v ∧ Below w.heap.size w w' :=
  (hF vs w F _ hr ⟨hf, fun i b h => by simp [Pl.blk] at h, fun i b o _ h => h.elim, fun i k b h => by simp [Pl.blk] at h, fun _ _ => rfl, fun i t cs h => by simp at h, fun i h => by simp at h, fun i b r ts ss h => by simp at h, fun k i b h => by simp at h⟩).mono
    fun e w' ⟨v', s, h', F', m', he, ⟨hs, _⟩, hrd, _, hg⟩ => by
      subst hs
      rw [he, rd_s hrd]
      exact ⟨rfl, ⟨hg.os, hg.tape, hg.output, hg.size, fun b hb => hg.block b hb fun i => by simp [Pl.blk]⟩⟩
end
end Go.Proofs.YtngcfmnmjkncoaaDoor.Q
