/- What slices.Grow does to a nil slice; no condition but the typed premises. -/
import Derived.Test.YtmjkflppajienaaDoorRO
namespace Go.Proofs.YtmjkflppajienaaDoor.R
open Go Go.RowKit
set_option linter.unusedVariables false
set_option linter.unusedSimpArgs false

theorem flat_vlist {α β : Type} (f : α → List β) : ∀ (n : Nat) (v : Vec α n), Vec.flat f n v = (vlist n v).flatMap f
  | 0, _ => rfl
  | n + 1, v => by simp only [Vec.flat, vlist, List.flatMap_cons, flat_vlist f n]
theorem map_enc_one {τ : Ty} (ha : τ.isAg = false) : ∀ l : List τ.den, l.flatMap (fun y => (τ.enc y).cells) = l.map τ.enc
  | [] => rfl
  | x :: l => by rw [List.flatMap_cons, map_enc_one ha l, enc_one ha]; rfl
section
variable {P : Program} {T : Tab} {nt : Nat} {E : Env} {A : Tg} {h : List Ob} {Q : QB} {o : Oper} {ops : Array Oper} {i d : Nat} {β : Type} {r : β}
theorem y_cap0 (hT : TOk P T) {c : Call} {x : Operand} {t e : Nat} (ho : o.op = .call c) (hc : c.callee = .builtin .cap) (ha : c.args.toList = [x]) (hts : c.argTypes.toList = [t]) (hk : kOf T t = .sl e) (hx : look E A x = some (.p (.s (.slice none 0 0)))) : Yld P o E A h (vi 0) := by
  refine .of_still fun a w F m hs hO => ⟨.int .i64 0, ?_, .p (.s _)⟩
  have hmx : x ∈ o.op.operands := by rw [ho]; exact Array.mem_append.2 (.inr (Array.mem_toList_iff.1 (by rw [ha]; simp)))
  have ex := rd_s (hO.rd hmx hx)
  obtain ⟨ti, hti, htk⟩ := kOf_ti (T := T) (t := t) (by rw [hk]; simp)
  have hu := (hT t ti hti).slice (htk.trans hk)
  have hargs : c.args = #[x] := by cases hca : c.args; simp [hca] at ha; simp [ha]
  have hat : c.argTypes = #[t] := by cases hca : c.argTypes; simp [hca] at hts; simp [hts]
  simp [execOp, ho, resolve, hc, invoke, builtin, hargs, hat, ex, Builtin.cap_, run_underlying hu, goInt]
/-- How long a nil slice is that is told outright. -/
theorem y_len0 (hT : TOk P T) {c : Call} {x : Operand} {t e : Nat} (ho : o.op = .call c) (hc : c.callee = .builtin .len) (ha : c.args.toList = [x]) (hts : c.argTypes.toList = [t]) (hk : kOf T t = .sl e) (hx : look E A x = some (.p (.s (.slice none 0 0)))) : Yld P o E A h (vi 0) := by
  refine .of_still fun a w F m hs hO => ⟨.int .i64 0, ?_, .p (.s _)⟩
  have hmx : x ∈ o.op.operands := by rw [ho]; exact Array.mem_append.2 (.inr (Array.mem_toList_iff.1 (by rw [ha]; simp)))
  have ex := rd_s (hO.rd hmx hx)
  obtain ⟨ti, hti, htk⟩ := kOf_ti (T := T) (t := t) (by rw [hk]; simp)
  have hu := (hT t ti hti).slice (htk.trans hk)
  have hargs : c.args = #[x] := by cases hca : c.args; simp [hca] at ha; simp [ha]
  have hat : c.argTypes = #[t] := by cases hca : c.argTypes; simp [hca] at hts; simp [hts]
  simp [execOp, ho, resolve, hc, invoke, builtin, hargs, hat, ex, Builtin.len_, run_underlying hu, goInt]
theorem y_cut0 (hT : TOk P T) {t e : Nat} {ei : TI} {x y : Operand} (ho : o.op = .slice t x none (some y) none) (hk : kOf T t = .sl e) (he : T e = some ei) (hx : look E A x = some (.p (.s (.slice none 0 0)))) (hy : look E A y = some (vi 0)) : Yld P o E A h (.p (.s (.slice none 0 0))) := by
  refine .of_still fun a w F m hs hO => ⟨.slice none 0 0, ?_, .p (.s _)⟩
  have ex := rd_s (hO.rd (by simp [ho, Op.operands]) hx)
  have ey := rd_s (hO.rd (by simp [ho, Op.operands]) hy)
  obtain ⟨ti, hti, htk⟩ := kOf_ti (T := T) (t := t) (by rw [hk]; simp)
  have hu := (hT t ti hti).slice (htk.trans hk)
  obtain ⟨inf, hi1, hi2, _⟩ := (hT e ei he).info
  simp [execOp, ho, ex, ey, Instr.sliceAt, Instr.slice, Instr.sliceBounds, Instr.sliceBound, asIntOf, run_underlying hu, sizeOf, typeInfo, hi1, hi2]

/-- A nil slice made longer by zeros: a new row, of whose cells nothing is told. -/
theorem xz (hT : TOk P T) {c : Call} {x y : Operand} {t u e : Nat} {k : Nat} {ku : IntKind} {ei : TI} {j : Nat} (ho : ops[i]? = some o) (hop : o.op = .call c) (hc : c.callee = .builtin .append) (ha : c.args.toList = [x, y]) (hts : c.argTypes.toList = [t, u]) (hg : o.guard = none) (hd : o.dst = some d)
    (hk : kOf T t = .sl e) (hku : kOf T u = .int ku) (he : T e = some ei) (hx : look E [] x = some (.p (.s (.slice none 0 0)))) (hy : look E [] y = some (vi (k : Int))) (hok : dstOk nt E [] (some d) = true) (hj : h.length = j) (hk0 : 0 < k) (hs0 : Nat.blt 0 ei.size = true) (hb0 : Nat.blt 0 ei.bytes = true)
    (hb : k * ei.bytes ≤ 140737488355328) (hW : WL P nt ops (i + 1) ((d, [], SV.rw e ei.size k j) :: E) (h ++ [.tail]) Q) : WL P nt ops i E h Q := by
  refine WL_op ho hg fun {bs} a w F m hr N Q hN => ?_
  have sim := hr.sim
  have hO := hr.opd (Tags.nil a) o
  obtain ⟨ti, hti, htk⟩ := kOf_ti (T := T) (t := t) (by rw [hk]; simp)
  have ht := (hT t ti hti).slice (htk.trans hk)
  obtain ⟨ui, hui, huk⟩ := kOf_ti (T := T) (t := u) (by rw [hku]; simp)
  have hu := (hT u ui hui).int (huk.trans hku)
  obtain ⟨inf, z, hi, hi1, hi2, hz, hzc⟩ := (hT e ei he).zeros
  have hmx : x ∈ o.op.operands := by rw [hop]; exact Array.mem_append.2 (.inr (Array.mem_toList_iff.1 (by rw [ha]; simp)))
  have hmy : y ∈ o.op.operands := by rw [hop]; exact Array.mem_append.2 (.inr (Array.mem_toList_iff.1 (by rw [ha]; simp)))
  have ex := rd_s (hO.rd hmx hx)
  have ey := rd_s (hO.rd hmy hy)
  have hargs : c.args = #[x, y] := by cases hca : c.args; simp [hca] at ha; simp [ha]
  have hat : c.argTypes = #[t, u] := by cases hca : c.argTypes; simp [hca] at hts; simp [hts]
  have hb0 := of_blt hb0
  have hs0 := of_blt hs0
  have hk47 : k ≤ 140737488355328 := by
    have : k * 1 ≤ k * ei.bytes := Nat.mul_le_mul_left _ hb0
    omega
  have hzs : z.cells.size = ei.size := by
    have := congrArg List.length hzc
    have h2 := Nat.eq_of_beq_eq_true (hT e ei he).zl
    simp at this
    omega
  have hge := grownCap_ge w k 0 e
  have hcm : grownCap w k 0 e ≤ maxLen := grownCap_le_maxLen w _ 0 e (by simp only [maxLen]; omega)
  have wk : IntKind.i64.wrap (k : Int) = (k : Int) := by rw [IntKind.wrap_i64]; omega
  have n1 : ¬ ((k : Int) < 0) := by omega
  have n2 : ¬ (281474976710656 < (k : Int) * (ei.bytes : Int)) := by
    have : ((k * ei.bytes : Nat) : Int) ≤ 140737488355328 := by omega
    rw [Int.natCast_mul] at this
    omega
  have n3 : ¬ k = 0 := by omega
  have n4 : ¬ (9223372036854775807 < (k : Int)) := by omega
  have n5 : ¬ (281474976710656 < Builtin.nextslicecap k 0 * ei.bytes) := by rw [nextslicecap_zero hk0]; omega
  have n6 : ¬ (k * ei.size = 0) := by intro hh; rcases Nat.mul_eq_zero.1 hh with h | h <;> omega
  have hrun : (execOp a.eval o).run P w = .ok (.value (.slice (some ⟨w.heap.size, 0, none⟩) k (grownCap w k 0 e))) (w.drew.alloc (.cells (Builtin.zeroCells z.cells k ++ Builtin.zeroCells z.cells (grownCap w k 0 e - k)) e)) := by
    simp [execOp, hop, resolve, hc, invoke, builtin, hargs, hat, ex, ey, Builtin.append_, run_underlying ht, run_underlying hu, sizeOf, typeInfo, zeroValue, hi, hz, hi1, hi2, asInt, asIntOf, wk, n1, n2, n3, n4, n5, n6, Question.forced, run_firstCells_none, newRow, grownCap]
  obtain ⟨r1, r2⟩ := hr.new (ob := .tail) (F' := F) (p := .tail w.heap.size 0) (w' := w.drew.alloc (.cells (Builtin.zeroCells z.cells k ++ Builtin.zeroCells z.cells (grownCap w k 0 e - k)) e)) (v := .slice (some ⟨w.heap.size, 0, none⟩) k (grownCap w k 0 e)) (s := .rw e ei.size k j) hj hok
    ⟨rfl, rfl, rfl, by simp, fun _ _ h => h, fun b hb => Below.heap_alloc w.drew _ b hb, fun b o hF => .inl hF, fun b hb => by simp only [Pl.blk, Option.some.injEq] at hb; subst hb; exact ⟨Nat.le_refl _, by simp⟩, fun b o hF hh => by
      obtain ⟨rfl, _⟩ := hh
      exact absurd (sim.fl _ _ hF) (Nat.lt_irrefl _)⟩ (fun b h => by cases h)
    (.rw upd_same (heap_alloc_new w.drew _) hge hcm (by simp only [Array.size_append, size_zeroCells, hzs, ← Nat.add_mul]; congr 1; omega))
  unfold Oper.wp
  rw [hrun]
  simp only [Oper.upon, hd]
  exact hN _ _ _ _ _ _ hW r1 r2


/-- Nothing of such a row: an empty slice that the call owns. -/
theorem y_rw0 (hT : TOk P T) {t e e' n k : Nat} {ei : TI} {x y : Operand} {j : Nat} (τ : Ty) (hop : o.op = .slice t x none (some y) none) (hk : kOf T t = .sl e) (he : T e = some ei) (hx : look E A x = some (.rw e' n k j)) (hy : look E A y = some (vi 0)) : Yld P o E A h (.own e' n τ [] j) := by
  refine .of_still fun a w F m hs hO => ?_
  have rx := hO.rd (by simp [hop, Op.operands]) hx
  have ey := rd_s (hO.rd (by simp [hop, Op.operands]) hy)
  obtain ⟨ti, hti, htk⟩ := kOf_ti (T := T) (t := t) (by rw [hk]; simp)
  have hu := (hT t ti hti).slice (htk.trans hk)
  obtain ⟨inf, hi1, hi2, _⟩ := (hT e ei he).info
  generalize hv : a.eval x = v at rx
  cases rx with
  | @rw _ _ _ _ b cap cur hm hb hc hcm hsz =>
    refine ⟨.slice (some ⟨b, 0, none⟩) 0 cap, ?_, ?_⟩
    · simp [execOp, hop, hv, ey, Instr.sliceAt, Instr.slice, Instr.sliceBounds, Instr.sliceBound, asIntOf, run_underlying hu, sizeOf, typeInfo, hi1, hi2]
      by_cases h0 : cap = 0
      · simp [h0]
      · simp [h0, Addr.add]
    · exact .own (xs := []) (by simp) (.nil b 0) (by simpa using hm) hb (by simp) hcm hsz
/-- A nil slice that is told outright, as one that the call owns. -/
theorem xo {e n j : Nat} {x : Operand} (τ : Ty) (ho : ops[i]? = some o) (hop : o.op = .move x ∨ o.op = .assign x) (hg : o.guard = none) (hd : o.dst = some d) (hx : look E [] x = some (.p (.s (.slice none 0 0)))) (hok : dstOk nt E [] (some d) = true) (hj : h.length = j)
    (hW : WL P nt ops (i + 1) ((d, [], SV.own e n τ [] j) :: E) (h ++ [.tail]) Q) : WL P nt ops i E h Q := by
  refine WL_op ho hg fun {bs} a w F m hr N Q hN => ?_
  have ex := rd_s ((hr.opd (Tags.nil a) o).rd (by rcases hop with h | h <;> simp [h, Op.operands]) hx)
  obtain ⟨r1, r2⟩ := hr.new (ob := .tail) (v := .slice none 0 0) hj hok (Nw.refl w F) (fun b h => by cases h) (s := .own e n τ [] j) (.own0 upd_same)
  unfold Oper.wp
  have hrun : (execOp a.eval o).run P w = .ok (.value (.slice none 0 0)) w := by rcases hop with ho | ho <;> simp [execOp, ho, ex]
  rw [hrun]
  simp only [Oper.upon, hd]
  exact hN _ _ _ _ _ _ hW r1 r2

/-! As functions. -/
/-- There is room for n more. -/
def grw (bytes : Nat) (n : Int) : Option Unit := if 0 < n ∧ n * bytes ≤ 140737488355328 then some () else none
theorem grw_of {bytes : Nat} {n : Int} {u : Unit} (h : grw bytes n = some u) : 0 < n ∧ n * bytes ≤ 140737488355328 := by
  unfold grw at h
  split at h
  · assumption
  · cases h
def pSliceN (T : Tab) (t : Nat) (a : Operand) (lo hi : Option Operand) (E : Env) (A : Tg) (K : SV → Option β) : Option β := match look E A a, lo, hi with
  | some (.p (.s (.slice none 0 0))), none, some y => match kOf T t, look E A y with
    | .sl e, some (.p (.s (.int .i64 0))) => match T e with
      | some _ => K (.p (.s (.slice none 0 0)))
      | none => none
    | _, _ => none
  | some (.rw e' n _ j), none, some y => match kOf T t, look E A y with
    | .sl e, some (.p (.s (.int .i64 0))) => match T e, tyOf T e with
      | some _, some τ => K (.own e' n τ [] j)
      | _, _ => none
    | _, _ => none
  | _, _, _ => pSlice T t a lo hi E A K
theorem pSliceN_ok (hT : TOk P T) {t : Nat} {a : Operand} {lo hi : Option Operand} {K : SV → Option β} (ho : o.op = .slice t a lo hi none) (hr : pSliceN T t a lo hi E A K = some r) : ∃ s, (∀ h, Yld P o E A h s) ∧ K s = some r := by
  unfold pSliceN at hr
  split at hr
  · rename_i y hx
    split at hr
    · rename_i e hk hy
      split at hr
      · rename_i ei he
        exact ⟨_, fun h => y_cut0 hT ho hk he hx hy, hr⟩
      · cases hr
    · cases hr
  · rename_i e' n k j y hx
    split at hr
    · rename_i e hk hy
      split at hr
      · rename_i ei τ he _
        exact ⟨_, fun h => y_rw0 hT τ ho hk he hx hy, hr⟩
      · cases hr
    · cases hr
  · exact pSlice_ok hT ho hr
def pLen0 (T : Tab) (c : Call) (E : Env) (A : Tg) (K : SV → Option β) : Option β := match c.args.toList, c.argTypes.toList with
  | [x], [t] => match look E A x, kOf T t with
    | some (.p (.s (.slice none 0 0))), .sl _ => K (vi 0)
    | _, _ => none
  | _, _ => none
theorem pLen0_ok (hT : TOk P T) {c : Call} {K : SV → Option β} (ho : o.op = .call c) (hc : c.callee = .builtin .cap ∨ c.callee = .builtin .len) (hr : pLen0 T c E A K = some r) : ∃ s, (∀ h, Yld P o E A h s) ∧ K s = some r := by
  unfold pLen0 at hr
  split at hr
  · rename_i x t ha hts
    split at hr
    · rename_i e hx hk
      rcases hc with hc | hc
      · exact ⟨_, fun h => y_cap0 hT ho hc ha hts hk hx, hr⟩
      · exact ⟨_, fun h => y_len0 hT ho hc ha hts hk hx, hr⟩
    · cases hr
  · cases hr
def eZero (T : Tab) (nt : Nat) (c : Call) (d : Option Nat) (E : Env) (h : List Ob) (K : Env → List Ob → Option β) : Option β := match d, c.args.toList, c.argTypes.toList with
  | some d, [x, y], [t, u] => match kOf T t, kOf T u, look E [] x, look E [] y with
    | .sl e, .int _, some (.p (.s (.slice none 0 0))), some (.p (.s (.int .i64 k))) => match T e with
      | some ei => bif dstOk nt E [] (some d) && Nat.blt 0 ei.size && Nat.blt 0 ei.bytes then
          (grw ei.bytes k).bind fun (_ : Unit) => K ((d, [], .rw e ei.size k.toNat h.length) :: E) (h ++ [.tail]) else none
      | none => none
    | _, _, _, _ => none
  | _, _, _ => none
theorem eZero_ok (hT : TOk P T) {c : Call} {K : Env → List Ob → Option β} (hoi : ops[i]? = some o) (hg : o.guard = none) (ho : o.op = .call c) (hc : c.callee = .builtin .append)
    (hr : eZero T nt c o.dst E h K = some r) (hK : ∀ E' h', K E' h' = some r → WL P nt ops (i + 1) E' h' Q) : WL P nt ops i E h Q := by
  unfold eZero at hr
  split at hr
  · rename_i d x y t u hd ha hts
    split at hr
    · rename_i e ku k hk hku hx hy
      split at hr
      · rename_i ei he
        obtain ⟨h1, hr⟩ := bif_some hr
        simp only [Bool.and_eq_true] at h1
        obtain ⟨_, hz, hr⟩ := bd hr
        obtain ⟨g0, g1⟩ := grw_of hz
        obtain ⟨n, rfl⟩ : ∃ n : Nat, k = (n : Int) := ⟨k.toNat, by omega⟩
        rw [Int.toNat_natCast] at hr
        exact xz hT hoi ho hc ha hts hg hd hk hku he hx hy h1.1.1 rfl (by omega) h1.1.2 h1.2 (by rw [← Int.natCast_mul] at g1; omega) (hK _ _ hr)
      · cases hr
    · cases hr
  · cases hr
/-- A nil slice moved to where slices are owned. -/
def eMv (T : Tab) (nt t : Nat) (x : Operand) (d : Option Nat) (E : Env) (h : List Ob) (K : Env → List Ob → Option β) : Option β := match d, look E [] x with
  | some d, some (.p (.s (.slice none 0 0))) => match kOf T t with
    | .sl e => match T e, tyOf T e with
      | some ei, some τ => bif dstOk nt E [] (some d) then K ((d, [], .own e ei.size τ [] h.length) :: E) (h ++ [.tail]) else none
      | _, _ => none
    | _ => none
  | d, some s => bif dstOk nt E [] d then K (E.putO d [] s) h else none
  | _, _ => none
theorem eMv_ok (hT : TOk P T) {t : Nat} {x : Operand} {K : Env → List Ob → Option β} (hoi : ops[i]? = some o) (hg : o.guard = none) (ho : o.op = .move x ∨ o.op = .assign x)
    (hr : eMv T nt t x o.dst E h K = some r) (hK : ∀ E' h', K E' h' = some r → WL P nt ops (i + 1) E' h' Q) : WL P nt ops i E h Q := by
  unfold eMv at hr
  split at hr
  · rename_i d hd hx
    split at hr
    · rename_i e _
      split at hr
      · rename_i ei τ he _
        obtain ⟨h1, hr⟩ := bif_some hr
        exact xo τ hoi ho hg hd hx h1 rfl (hK _ _ hr)
      · cases hr
    · cases hr
  · rename_i s hx _
    obtain ⟨h1, hr⟩ := bif_some hr
    refine WL_head (.plain hoi hg h1 (.of_still fun a w F m hs hO => ⟨a.eval x, ?_, hO.rd (by rcases ho with h | h <;> simp [h, Op.operands]) hx⟩) (.nil _ _)) (by rw [Nat.ble_eq]; have := (Array.getElem?_eq_some_iff.1 hoi).1; omega) (hK _ _ hr)
    rcases ho with h | h <;> simp [execOp, h]
  · cases hr
/-! ### A place in an array that is a value -/
theorem ix_of {α : Type} {l : List α} {i : Int} {x : α} (h : ix l i = some x) : ∃ j : Nat, i = (j : Int) ∧ l[j]? = some x := by
  unfold ix at h
  split at h
  · rename_i h0
    exact ⟨i.toNat, (Int.toNat_of_nonneg h0).symm, h⟩
  · cases h
def arrL (i : TI) (v : SV) : Nat → Nat → Option (List PV)
  | 0, _ => some []
  | n + 1, c => match partS i (c * i.size) v, arrL i v n (c + 1) with
    | some (.p q), some l => some (q :: l)
    | _, _ => none
theorem arrL_get {i : TI} {v : SV} : ∀ {n c : Nat} {l : List PV}, arrL i v n c = some l → l.length = n ∧ ∀ (j : Nat) q, l[j]? = some q → partS i ((c + j) * i.size) v = some (.p q)
  | 0, c, l, h => by obtain rfl := Option.some.inj h; exact ⟨rfl, fun j q hj => by simp at hj⟩
  | n + 1, c, l, h => by
    simp only [arrL] at h
    split at h
    · rename_i q l' hq hl
      obtain rfl := Option.some.inj h
      obtain ⟨h1, h2⟩ := arrL_get hl
      refine ⟨by simp [h1], fun j q' hj => ?_⟩
      cases j with
      | zero => simp at hj; subst hj; exact hq
      | succ j => have := h2 j q' (by simpa using hj); rwa [show c + 1 + j = c + (j + 1) by omega] at this
    · cases h
theorem y_indexA (hT : TOk P T) {t n e : Nat} {x y : Operand} {k : IntKind} {j : Nat} {ei : TI} {v s : SV} (ho : o.op = .index t x y) (hk : kOf T t = .ar n e) (he : T e = some ei) (hx : look E A x = some v) (hy : look E A y = some (.p (.s (.int k (j : Int))))) (hj : j < n) (hr : partS ei (j * ei.size) v = some s) : Yld P o E A h s := by
  refine .of_still fun a w F m hs hO => ?_
  have ex := hO.rd (by simp [ho, Op.operands]) hx
  have ey := rd_s (hO.rd (by simp [ho, Op.operands]) hy)
  obtain ⟨ti, hti, htk⟩ := kOf_ti (T := T) (t := t) (by rw [hk]; simp)
  have hu := (hT t ti hti).array (htk.trans hk)
  obtain ⟨inf, hi1, hi2, _⟩ := (hT e ei he).info
  obtain ⟨vs, u, g1, g2, g3⟩ := partS_run (P := P) (hT e ei he) ex hr
  refine ⟨u, ?_, g3⟩
  have h1 : (j : Int) < (n : Int) := by omega
  simp [execOp, ho, g1, ey, Instr.index, asIntOf, run_underlying hu, h1, sizeOf, typeInfo, hi1, hi2, g2]
  intro hh
  omega
def pIndexN (T : Tab) (t : Nat) (a c : Operand) (E : Env) (A : Tg) (K : SV → Option β) : Option β := match kOf T t with
  | .ar n e => match T e, look E A a, look E A c with
    | some ei, some v, some (.p (.s (.int _ iv))) => match tyOf T e, arrL ei v n 0 with
      | some τ, some qs => bif τ.isAg then (match getSs τ qs with
        | some xs => (gds E A A (ix xs iv)).bind fun (x : τ.den) => K (.p (τ.enc x))
        | none => none) else match (Ty.ar n τ).getS (.agg qs) with
        | some v => (gds E A A (ix (vlist n v) iv)).bind fun (x : τ.den) => K (.p (τ.enc x))
        | none => none
      | _, _ => none
    | _, _, _ => none
  | _ => pIndex T t a c E A K
theorem pIndexN_ok (hT : TOk P T) {t : Nat} {a c : Operand} {K : SV → Option β} (ho : o.op = .index t a c) (hr : pIndexN T t a c E A K = some r) : ∃ s, (∀ h, Yld P o E A h s) ∧ K s = some r := by
  unfold pIndexN at hr
  split at hr
  · rename_i n e hk
    split at hr
    · rename_i ei v k iv he hx hy
      split at hr
      · rename_i τ qs _ hq
        have key : ∀ {xs : List τ.den}, xs.map τ.enc = qs → ((gds E A A (ix xs iv)).bind fun (x : τ.den) => K (.p (τ.enc x))) = some r → ∃ s, (∀ h, Yld P o E A h s) ∧ K s = some r := fun {xs} hl hr => by
          obtain ⟨x, hix, hK⟩ := bd hr
          refine ⟨_, fun h => gds_yld hix (fun _ h => h) fun hix => ?_, hK⟩
          obtain ⟨j, rfl, hj⟩ := ix_of hix
          obtain ⟨g1, g2⟩ := arrL_get hq
          have hget : qs[j]? = some (τ.enc x) := by rw [← hl, List.getElem?_map, hj]; rfl
          have := g2 j _ hget
          rw [Nat.zero_add] at this
          exact y_indexA hT ho hk he hx hy (by have := (List.getElem?_eq_some_iff.1 hget).1; omega) this
        cases ha : τ.isAg with
        | true =>
          rw [ha] at hr
          simp only [cond_true] at hr
          split at hr
          · rename_i xs hxs; exact key (getSs_eq hxs) hr
          · cases hr
        | false =>
          rw [ha] at hr
          simp only [cond_false] at hr
          split at hr
          · rename_i v hv
            refine key ?_ hr
            have h1 : PV.agg (Vec.flat (fun y => (τ.enc y).cells) n v) = .agg qs := getS_eq hv
            rw [← PV.agg.inj h1, flat_vlist, map_enc_one ha]
          · cases hr
      · cases hr
    · cases hr
  · exact pIndex_ok hT ho hr
end
end Go.Proofs.YtmjkflppajienaaDoor.R
