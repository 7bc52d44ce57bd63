/- A range over a function whose rounds are walked: the law, and slices.Backward's iterator; no condition but the typed premises. -/
import Derived.Test.YtngcfmnmjkncoaaQY
import Derived.RangeFuncNested
import Derived.RangeFuncCalls
import Derived.RangeFuncLeaves
namespace Go.Proofs.Ytngcfmnmjkncoaa.Q
open Go Go.RowKit
set_option linter.unusedVariables false
set_option linter.unusedSimpArgs false

set_option maxHeartbeats 400000 in
/-- The statement 'for .. := range f { .. }', its body going on or returning. -/
theorem range_gen {P : Program} {g : Operand} {ps : Array Tmp} {assign body : Code} {Q : Exit → Act → World → Prop} {a : Act} {w : World} (n : Nat) (hn : 5 ≤ n) {gf : Nat} {lb : Array Value}
    (hg : a.eval g = .func (.func gf) #[] lb) (eg : ∀ args w, (callFunc gf args).run P w = .ok (.enter gf args) w)
    (N : Nat) (A : Nat → World → Array Value → Prop) (hps : ∀ i W args, A i W args → args.size = ps.size)
    (J : Nat → World → Prop) (B : Nat → Act → World → Prop) (X : World → Prop)
    (pJ : ∀ i W o, J i W → J i (W.putObj (w.heap.size + 1) o)) (pB : ∀ i a W o, B i a W → B i a (W.putObj (w.heap.size + 1) o)) (pX : ∀ W o, X W → X (W.putObj (w.heap.size + 1) o))
    (hit : ∀ (l : Nat) (J' : Nat → World → Prop) (Z : World → Prop), (∀ i W, J' i W → J i W) → (∀ i W args, i < N → J' i W → A i W args → YieldAt Fence.wide (n - 1 - 1) P l args W fun e W' => (e = .returned (.bool true) ∧ J' (i + 1) W') ∨ (e = .returned (.bool false) ∧ Z W')) →
      ∀ W, J' 0 W → CallsIn Fence.wide (n - 1) P gf (#[.func (.yield l) #[] #[]] ++ lb) W fun e W' => (∃ v, e = .returned v) ∧ (J' N W' ∨ Z W'))
    (h0 : ∀ o, J 0 ((w.alloc (.deferred (some []))).alloc o))
    (hassign : ∀ l i W args, i < N → J i W → A i W args → assign.wpIn (Fence.wide.inRound l) (n - 1 - 1) P (Exit.then (fun a1 W1 => (W1.heap[w.heap.size]? = W.heap[w.heap.size]? ∧ W1.heap[w.heap.size + 1]? = W.heap[w.heap.size + 1]?) ∧ B i a1 W1) (fun _ _ _ => False))
      { tmps := (ps.zip args).foldl (fun t (p, v) => t.setIfInBounds p v) a.tmps, defers := [] } W)
    (hbody : ∀ l i a1 W1, i < N → w.heap.size + 1 < W1.heap.size → B i a1 W1 → body.wpIn (Fence.wide.inRound l) (n - 1 - 1) P (fun e _ W2 => (W2.heap[w.heap.size]? = W1.heap[w.heap.size]? ∧ W2.heap[w.heap.size + 1]? = W1.heap[w.heap.size + 1]?) ∧ ((e = .normal ∧ J (i + 1) W2) ∨ (e = .ret ∧ X W2))) a1 W1)
    (hdone : ∀ W, J N W → W.heap[w.heap.size]? = some (.deferred (some [])) → Q .normal { a with defers := { target := .collected w.heap.size, args := #[] } :: a.defers } W)
    (hstop : ∀ W, X W → W.heap[w.heap.size]? = some (.deferred (some [])) → Code.ret.wpIn Fence.wide n P Q { a with defers := { target := .collected w.heap.size, args := #[] } :: a.defers } W) :
    (Code.rangeFunc g ps assign body).wpIn Fence.wide n P Q a w := by
  refine wpIn_rangeFunc fun fn hfn => ?_
  obtain ⟨D, hD⟩ : ∃ D, D = w.heap.size := ⟨_, rfl⟩
  obtain ⟨rec, hrec⟩ : ∃ rec : LoopState → Option Code → Loop, rec = fun st pe => { state := st, pending := pe, fn, tmps := a.tmps, params := ps, assign, body, defers := w.heap.size } := ⟨_, rfl⟩
  rw [← hD] at pJ pB pX hassign hbody hdone hstop
  let Rdy : World → Prop := fun W => W.heap[D]? = some (.deferred (some [])) ∧ W.heap[D + 1]? = some (.loop (rec .ready none))
  let Gone : World → Prop := fun W => X W ∧ W.heap[D]? = some (.deferred (some [])) ∧ W.heap[D + 1]? = some (.loop (rec .done (some .ret)))
  have hR0 : Rdy ((w.alloc (.deferred (some []))).alloc (.loop (rec .ready none))) := by
    refine ⟨?_, ?_⟩
    · rw [hD]; exact (Below.heap_alloc _ _ _ (by simp)).trans (World.alloc_heap_new w _)
    · rw [hD]; have := World.alloc_heap_new (w.alloc (.deferred (some []))) (.loop (rec .ready none)); rwa [World.size_alloc] at this
  have hit' := hit (D + 1) (fun i W => J i W ∧ Rdy W) Gone (fun i W h => h.1) ?round ((w.alloc (.deferred (some []))).alloc (.loop (rec .ready none))) ⟨h0 _, hR0⟩
  case round =>
    rintro i W args hiN ⟨hA, hd, hl⟩ hargs
    have hlt : D + 1 < W.heap.size := (Array.getElem?_eq_some_iff.1 hl).1
    have hy := run_yield (P := P) (args := args) hl (by rw [hrec]; exact hps i W args hargs)
    rw [hrec] at hy
    refine ⟨fn, _, assign, body, hy, roundIn_of_wpIn hfn (wpIn_mono (hassign _ i W args hiN hA hargs) ?_)⟩
    rintro e a1 W1 hp
    cases e with
    | normal =>
      obtain ⟨⟨k1, k2⟩, hB1⟩ := hp
      have hl1 : W1.heap[D + 1]? = some (.loop (rec .ready none)) := k2.trans hl
      have hd1 : W1.heap[D]? = some (.deferred (some [])) := k1.trans hd
      have hlt1 : D + 1 < W1.heap.size := (Array.getElem?_eq_some_iff.1 hl1).1
      refine ⟨_, run_beginRound hl1 (by rw [hrec]), ?_⟩
      have hl2 : (W1.putObj (D + 1) (.loop { rec .ready none with state := .busy })).heap[D + 1]? = some (.loop { rec .ready none with state := .busy }) := World.putObj_heap_same hlt1
      have hd2 : (W1.putObj (D + 1) (.loop { rec .ready none with state := .busy })).heap[D]? = some (.deferred (some [])) := (World.putObj_heap_other (by omega)).trans hd1
      refine wpIn_mono (hbody _ i a1 _ hiN (by simpa using hlt1) (pB i a1 W1 _ hB1)) ?_
      rintro e a3 W3 ⟨⟨q1, q2⟩, hp⟩
      have hl3 := q2.trans hl2
      have hd3 := q1.trans hd2
      rcases hp with ⟨rfl, hA3⟩ | ⟨rfl, hX3⟩
      · have hr := run_endRound (P := P) none hl3
        rw [hrec] at hr
        refine ⟨_, _, hr, .inl ⟨rfl, pJ _ W3 _ hA3, (World.putObj_heap_other (by omega)).trans hd3, ?_⟩⟩
        rw [hrec]
        exact World.putObj_heap_same (Array.getElem?_eq_some_iff.1 hl3).1
      · have hr := run_endRound (P := P) (some .ret) hl3
        rw [hrec] at hr
        refine ⟨_, _, hr, .inr ⟨rfl, pX W3 _ hX3, (World.putObj_heap_other (by omega)).trans hd3, ?_⟩⟩
        rw [hrec]
        exact World.putObj_heap_same (Array.getElem?_eq_some_iff.1 hl3).1
    | _ => exact hp.elim
  obtain ⟨W1, hW1⟩ : ∃ W1, ((w.alloc (.deferred (some []))).alloc (.loop (rec .ready none))) = W1 := ⟨_, rfl⟩
  rw [hW1] at hit'
  refine ⟨D + 1, [{ target := .collected D, args := #[] }], W1, { target := .fn (.func gf) lb, args := #[.func (.yield (D + 1)) #[] #[]] }, W1, gf, #[.func (.yield (D + 1)) #[] #[]] ++ lb, W1, ?_, ?_, ?_, ?_, ?_, ?_⟩
  · rw [← hW1, hrec, hD]; exact run_enterLoop_outer _ _ _ _ _
  · simp only [resolve, hg]
    simp [go_sem]
  · exact fun _ _ => trivial
  · simp [invoke, go_sem, eg]
  · exact fun h => by cases h
  · refine hit'.mono ?_
    rintro e W2 ⟨⟨v, rfl⟩, hc⟩
    rcases hc with ⟨hA2, hd2, hl2⟩ | ⟨hX2, hd2, hl2⟩
    · have hr := run_endLoop (P := P) hl2 (by rw [hrec]; simp)
      have hp : (rec .ready none).pending = none := by rw [hrec]
      rw [hp] at hr
      refine ⟨none, _, hr, ?_⟩
      exact hdone _ (pJ N W2 _ hA2) ((World.putObj_heap_other (by omega)).trans hd2)
    · have hr := run_endLoop (P := P) hl2 (by rw [hrec]; simp)
      have hp : (rec .done (some .ret)).pending = some .ret := by rw [hrec]
      rw [hp] at hr
      refine ⟨some .ret, _, hr, ?_⟩
      exact hstop _ (pX W2 _ hX2) ((World.putObj_heap_other (by omega)).trans hd2)

section
variable {P : Program} {T : Tab} {nt : Nat}

/-- Operations that leave the world as it is, wherever no fence bars. -/
theorem still_run (hT : TOk P T) {ops : Array Oper} {h : List Ob} {r : Nat} {Q : Exit → Act → World → Prop} {rest : List Nat} : ∀ {k i : Nat} {E E' : Env} {a : Act} {w : World} {F : Fz} {m : Mp}, evRun T nt ops h k i E = some E' → (∀ (i : Nat) (o : Oper), ops[i]? = some o → opPlain o = true) → Rel nt w F m E h a →
    (∀ a', Rel nt w F m E' h a' → a'.defers = a.defers → wpOpsIn Fence.wide r P ops Q rest a' w) → wpOpsIn Fence.wide r P ops Q (List.range' i k ++ rest) a w
  | 0, i, E, E', a, w, F, m, he, hp, hr, hk => by
    simp only [evRun, Option.some.injEq] at he
    subst he
    exact hk a hr rfl
  | k + 1, i, E, E', a, w, F, m, he, hp, hr, hk => by
    simp only [evRun] at he
    rw [List.range'_succ, List.cons_append]
    split at he
    · cases he
    · rename_i o ho
      simp only [wpOpsIn, ho]
      have sem : o.semAt Fence.wide.round a.eval = execOp a.eval o := Oper.semAt_eq _ _ _ (fun c hc => by have := hp i o ho; rw [opPlain, hc] at this; cases this)
      split at he
      · rename_i hg
        split at he
        · rename_i s hs
          cases hd : dstOk nt E [] o.dst with
          | false => rw [hd] at he; simp at he
          | true =>
            rw [hd] at he
            rw [if_pos (by simp [Region.wanted, hg])]
            obtain ⟨v, h1, h2⟩ := evOp_yldS hT hs a w F m hr.sim (hr.opd (Tags.nil a) o)
            refine ⟨fun _ _ => trivial, ?_⟩
            rw [sem, h1]
            exact still_run hT he hp (hr.put hd (Tags.nil a) (Qt.refl w F) h2) fun a' hr' hd' => hk a' hr' (hd'.trans (by cases o.dst <;> rfl))
        · cases he
      · rename_i j b hg
        split at he
        · cases he
        · rename_i u hu
          split at he
          · cases he
          · rename_i tg su hsu
            split at he
            · rename_i s hs
              cases hd : dstOk nt E ((u, b) :: tg) o.dst with
              | false => rw [hd] at he; simp at he
              | true =>
                rw [hd] at he
                by_cases hw : a.tmps.getD u undef = .bool b
                · have hT' := (hr.wanted hsu).1 hw
                  rw [if_pos (by simp [Region.wanted, hg, (yielded_some hu).2 hw])]
                  obtain ⟨v, h1, h2⟩ := evOp_yldS hT hs a w F m hr.sim (hr.opd hT' o)
                  refine ⟨fun _ _ => trivial, ?_⟩
                  rw [sem, h1]
                  exact still_run hT he hp (hr.put hd hT' (Qt.refl w F) h2) fun a' hr' hd' => hk a' hr' (hd'.trans (by cases o.dst <;> rfl))
                · have hT' : ¬ Tags a ((u, b) :: tg) := fun h => hw ((hr.wanted hsu).2 h)
                  rw [if_neg (by simp only [Region.wanted, hg, beq_iff_eq]; exact fun h => hw ((yielded_some hu).1 h))]
                  exact ⟨fun _ _ => trivial, still_run hT he hp (hr.passed hd hT') fun a' hr' hd' => hk a' hr' (hd'.trans (by cases o.dst <;> rfl))⟩
            · cases he

theorem Rel.kept {w : World} {F : Fz} {m : Mp} {E : Env} {h : List Ob} {a : Act} (L : List Nat) (hr : Rel nt w F m E h a) : Rel nt w F m (E.keep L) h a := ⟨hr.size, hr.defers, fun t tg s ht => hr.env t tg s (Env.keep_get ht), hr.sim⟩
theorem still_reg (hT : TOk P T) {ops : Array Oper} {h : List Ob} {r : Nat} {Q : Exit → Act → World → Prop} {rest : List Nat} {L : List Nat} {k i : Nat} {E E' : Env} {a : Act} {w : World} {F : Fz} {m : Mp} (he : evReg T nt ops h k i L E = some E') (hp : ∀ (i : Nat) (o : Oper), ops[i]? = some o → opPlain o = true) (hr : Rel nt w F m E h a)
    (hk : ∀ a', Rel nt w F m E' h a' → a'.defers = a.defers → wpOpsIn Fence.wide r P ops Q rest a' w) : wpOpsIn Fence.wide r P ops Q (List.range' i k ++ rest) a w := by
  obtain ⟨E1, h1, rfl⟩ := evReg_run he
  exact still_run hT h1 hp hr fun a' hr' hd => hk a' (hr'.kept L) hd
theorem Rel.rebase {w w' : World} {F : Fz} {m : Mp} {E : Env} {a : Act} (hr : Rel nt w F m E [] a) (hd : a.defers = []) (hm : ∀ i, m i = .free) (k : Ext w F w' F) (hf : ∀ b o, F b o → b < w'.heap.size) : Rel nt w' F m E [] a :=
  ⟨hr.size, by rw [hd]; exact Dfr.nil, fun t tg s ht => (hr.env t tg s ht).imp (fun h => ⟨h.1, h.2.keep k fun j _ hj => absurd (hm j) hj⟩) id,
    ⟨hf, fun i b hi => by rw [hm i] at hi; simp [Pl.blk] at hi, fun i b o _ hh => by rw [hm i] at hh; exact hh.elim, fun i k b hi => by rw [hm i] at hi; simp [Pl.blk] at hi, fun i _ => hm i, fun i t cs hi => by simp at hi, fun i hi => by simp at hi, fun i b r ts ss hi => by simp at hi, fun k i b hi => by simp at hi⟩⟩

/-- The code of slices.Backward's iterator. -/
def bwCode (i0 i1 i2 i3 : Nat) (r0 r1 r2 r3 : Array Oper) : Code := .seq (.region i0 r0 false) (.block 0 (.loop (.seq (.seq (.region i1 r1 false) (.cond (.tmp 8) .skip (.exit 0))) (.seq (.block 1 (.seq (.region i3 r3 false) (.cond (.tmp 18) .ret .skip))) (.region i2 r2 false)))))
abbrev yv (l : Nat) : SV := .p (.s (.func (.yield l) #[] #[]))
def bwE {α : Type} (n : Nat) (enc : α → PV) (l : Nat) (xs : List α) (i : Int) : Env := [(0, [], yv l), (1, [], .padr [.sl n α enc xs]), (3, [], vi i)]
/-- What is asked of its operations. -/
structure BwOk (P : Program) (T : Tab) (r0 r1 r2 r3 : Array Oper) (n : Nat) (α : Type) (enc : α → PV) : Prop where
  p0 : r0.toList.all opPlain = true
  p1 : r1.toList.all opPlain = true
  p2 : r2.toList.all opPlain = true
  p3 : r3.toList.all opPlain = true
  h0 : ∀ l xs, evReg T 19 r0 [] r0.size 0 [0, 1, 3] (argE 0 [yv l, .padr [.sl n α enc xs]]) = some (bwE n enc l xs (w64 ((xs.length : Int) - 1)))
  h1 : ∀ l xs i, evReg T 19 r1 [] r1.size 0 [0, 1, 3, 8] (bwE n enc l xs i) = some (bwE n enc l xs i ++ [(8, [], vb (decide (i ≥ 0)))])
  h2 : ∀ l xs i, evReg T 19 r2 [] r2.size 0 [0, 1, 3] (bwE n enc l xs i) = some (bwE n enc l xs (w64 (i - 1)))
  h3 : ∀ l xs i, evReg T 19 r3 [] 4 0 [0, 1, 3, 11, 12, 13, 14] (bwE n enc l xs i) = some (bwE n enc l xs i ++ [(11, [], yv l), (12, [], vi i), (13, [], .p (.sl n α enc xs)), (14, [], vi i)])
  h4 : ∃ o t e ei, r3[4]? = some o ∧ o.op = .indexAddr t (.tmp 13) (.tmp 14) ∧ o.guard = none ∧ o.dst = some 15 ∧ kOf T t = .sl e ∧ T e = some ei ∧ ei.size = n
  h5 : ∀ l xs i x, evReg T 19 r3 [] 1 5 [0, 1, 3, 11, 12, 16] ((15, [], .padr (enc x).cells) :: (bwE n enc l xs i ++ [(11, [], yv l), (12, [], vi i), (13, [], .p (.sl n α enc xs)), (14, [], vi i)])) = some (bwE n enc l xs i ++ [(11, [], yv l), (12, [], vi i), (16, [], .p (enc x))])
  h6 : ∃ o c, r3[6]? = some o ∧ o.op = .call c ∧ c.callee = .value (.tmp 11) ∧ c.args = #[.tmp 12, .tmp 16] ∧ o.guard = none ∧ o.dst = some 17
  h7 : ∀ l xs i x b, evReg T 19 r3 [] 1 7 [0, 1, 3, 18] ((17, [], vb b) :: (bwE n enc l xs i ++ [(11, [], yv l), (12, [], vi i), (16, [], .p (enc x))])) = some (bwE n enc l xs i ++ [(18, [], vb (!b))])
  h8 : ∀ b, evReg T 19 r3 [] 1 7 [18] [(17, [], vb b)] = some [(18, [], vb (!b))]
  s3 : r3.size = 8

theorem all_plain {ops : Array Oper} (h : ops.toList.all opPlain = true) : ∀ (i : Nat) (o : Oper), ops[i]? = some o → opPlain o = true := fun i o ho =>
  List.all_eq_true.1 h o (Array.mem_toList_iff.2 (Array.mem_of_getElem? ho))
theorem arg_get {args : Array Value} {n t : Nat} {v : Value} (h : args[t]? = some v) : (args ++ Array.replicate n undef).getD t undef = v := by
  rw [Array.getD_eq_getD_getElem?, Array.getElem?_append_left (Array.getElem?_eq_some_iff.1 h).1, h]; rfl
theorem rdp {w : World} {F : Fz} {m : Mp} {v : Value} {q : PV} (h : RdS w F m v (.p q)) : Rd w F v q := by cases h with | p h => exact h
theorem get_app {X : Env} {t : Nat} {x : Tg × SV} : ∀ {E : Env}, E.get t = some x → (E ++ X).get t = some x
  | [], h => by simp [Env.get] at h
  | (u, tg, s) :: E, h => by
    simp only [Env.get, List.cons_append] at h ⊢
    cases hb : Nat.beq u t with
    | true => rw [hb] at h; exact h
    | false => rw [hb] at h; exact get_app h
theorem w64_small {x : Int} (h : -9223372036854775808 ≤ x) (h' : x ≤ 9223372036854775807) : w64 x = x := by
  show IntKind.wrap .i64 x = x
  rw [IntKind.wrap_i64]; omega

/-- slices.Backward's iterator: the elements from the last one on, with their places. -/
theorem bw_iter (hT : TOk P T) {f i0 i1 i2 i3 n : Nat} {r0 r1 r2 r3 : Array Oper} {α : Type} {enc : α → PV} (ok : BwOk P T r0 r1 r2 r3 n α enc) {fn : Func} (hf : P.funcs[f]? = some fn) (hb : fn.body = some (bwCode i0 i1 i2 i3 r0 r1 r2 r3)) (hnt : fn.ntmps = 19) (hres : fn.results = #[])
    {xs : List α} (hx : (xs.length : Int) ≤ 9223372036854775807) {W0 : World} {F0 : Fz} {cv : Value} (hcv : RdS W0 F0 (fun _ => .free) cv (.padr [.sl n α enc xs])) (hfl : ∀ b o, F0 b o → b < W0.heap.size)
    {m l : Nat} {J : Nat → World → Prop} {Z : World → Prop} (hm : 2 ≤ m) (kJ : ∀ k W, J k W → Ext W0 F0 W F0 ∧ W0.heap.size ≤ W.heap.size)
    (hY : ∀ k W args, k < xs.length → J k W → (∃ v x, args = #[.int .i64 ((xs.length - 1 - k : Nat) : Int), v] ∧ xs[xs.length - 1 - k]? = some x ∧ Rd W F0 v (enc x)) → YieldAt Fence.wide (m - 1) P l args W fun e W' => (e = .returned (.bool true) ∧ J (k + 1) W') ∨ (e = .returned (.bool false) ∧ Z W'))
    {W : World} (h0 : J 0 W) : CallsIn Fence.wide m P f (#[Value.func (.yield l) #[] #[]] ++ #[cv]) W fun e W' => (∃ v, e = .returned v) ∧ (J xs.length W' ∨ Z W') := by
  refine callsIn_of_wp hf hb trivial ?_ rfl
  have hF : ∀ k W, J k W → ∀ b o, F0 b o → b < W.heap.size := fun k W hj b o h => Nat.lt_of_lt_of_le (hfl b o h) (kJ k W hj).2
  have hst : Rel 19 W F0 (fun _ => .free) (argE 0 [yv l, .padr [.sl n α enc xs]]) [] { tmps := (#[Value.func (.yield l) #[] #[]] ++ #[cv]) ++ Array.replicate (fn.ntmps - (#[Value.func (.yield l) #[] #[]] ++ #[cv]).size) undef, defers := [] } := by
    refine ⟨by rw [hnt]; simp, Dfr.nil, fun t tg s ht => ?_, ⟨hF 0 W h0, fun i b h => by simp [Pl.blk] at h, fun i b o _ h => h.elim, fun i k b h => by simp [Pl.blk] at h, fun _ _ => rfl, fun i t cs h => by simp at h, fun i h => by simp at h, fun i b r ts ss h => by simp at h, fun k i b h => by simp at h⟩⟩
    simp only [argE, Env.get] at ht
    refine .inl ?_
    cases t with
    | zero => simp at ht; obtain ⟨rfl, rfl⟩ := ht; exact ⟨Tags.nil _, by rw [show Array.getD _ 0 undef = _ from arg_get (args := #[Value.func (.yield l) #[] #[]] ++ #[cv]) rfl]; exact .p (.s _)⟩
    | succ t =>
      cases t with
      | zero => simp at ht; obtain ⟨rfl, rfl⟩ := ht; exact ⟨Tags.nil _, by rw [show Array.getD _ (0 + 1) undef = _ from arg_get (args := #[Value.func (.yield l) #[] #[]] ++ #[cv]) rfl]; exact hcv.keep (kJ 0 W h0).1 fun j _ hj => absurd rfl hj⟩
      | succ t => simp [Nat.beq] at ht
  unfold bwCode
  refine wpIn_seq (wpIn_region ?_)
  rw [List.range_eq_range', ← List.append_nil (List.range' 0 r0.size)]
  refine still_reg hT (ok.h0 l xs) (all_plain ok.p0) hst fun a0 hr0 hd0 => ?_
  show (Code.block 0 _).wpIn _ _ _ _ _ _
  refine wpIn_block ?_
  -- the loop: k rounds are over
  refine wpIn_loop_n (fun q a' w' => ∃ k, q = xs.length - k ∧ k ≤ xs.length ∧ J k w' ∧ a'.defers = [] ∧ Rel 19 w' F0 (fun _ => .free) (bwE n enc l xs (((xs.length : Int) - 1) - (k : Int))) [] a') xs.length ⟨0, by omega, by omega, h0, hd0, by
    have e : w64 ((xs.length : Int) - 1) = ((xs.length : Int) - 1) - ((0 : Nat) : Int) := by rw [w64_small (by omega) (by omega)]; omega
    rw [← e]; exact hr0⟩ ?_
  rintro q a' w' ⟨k, rfl, hk, hJ, hda, hr⟩
  refine wpIn_seq (wpIn_seq (wpIn_region ?_))
  rw [List.range_eq_range', ← List.append_nil (List.range' 0 r1.size)]
  refine still_reg hT (ok.h1 l xs _) (all_plain ok.p1) hr fun a1 hr1 hd1 => ?_
  have ec : a1.eval (.tmp 8) = .bool (decide ((((xs.length : Int) - 1) - (k : Int)) ≥ 0)) := rd_s (look_rd hr1.rd (Tags.nil a1) (x := .tmp 8) rfl)
  show (Code.cond _ _ _).wpIn _ _ _ _ _ _
  by_cases hlt : k < xs.length
  · refine wpIn_cond (t := true) (by rw [ec, decide_eq_true (by omega)]) ?_
    rw [if_pos rfl]
    refine wpIn_skip ?_
    show (Code.seq _ _).wpIn _ _ _ _ _ _
    refine wpIn_seq (wpIn_block (wpIn_seq (wpIn_region ?_)))
    have hr1' : Rel 19 w' F0 (fun _ => .free) (bwE n enc l xs (((xs.length : Int) - 1) - (k : Int))) [] a1 := ⟨hr1.size, hr1.defers, fun t tg s ht => hr1.env t tg s (get_app ht), hr1.sim⟩
    rw [ok.s3, show List.range 8 = List.range' 0 4 ++ (4 :: (List.range' 5 1 ++ (6 :: (List.range' 7 1 ++ [])))) from rfl]
    refine still_reg hT (ok.h3 l xs _) (all_plain ok.p3) hr1' fun a2 hr2 hd2 => ?_
    obtain ⟨o4, t4, e4, ei4, g41, g42, g43, g44, g45, g46, g47⟩ := ok.h4
    have hidx : (((xs.length : Int) - 1) - (k : Int)) = ((xs.length - 1 - k : Nat) : Int) := by omega
    obtain ⟨x, hxk⟩ : ∃ x, xs[xs.length - 1 - k]? = some x := ⟨_, List.getElem?_eq_getElem (by omega)⟩
    simp only [wpOpsIn, g41]
    rw [if_pos (by simp [Region.wanted, g43])]
    obtain ⟨v4, z1, z2⟩ := y_index (E := bwE n enc l xs (((xs.length : Int) - 1) - (k : Int)) ++ [(11, [], yv l), (12, [], vi (((xs.length : Int) - 1) - (k : Int))), (13, [], .p (.sl n α enc xs)), (14, [], vi (((xs.length : Int) - 1) - (k : Int)))]) (A := []) (hp := []) hT g42 g45 g46 g47 (sx := .p (.sl n α enc xs)) (k := .i64) rfl rfl rfl (by omega) (by rw [hidx, Int.toNat_natCast]; exact hxk) a2 w' F0 _ hr2.sim (hr2.opd (Tags.nil a2) o4)
    refine ⟨fun _ _ => trivial, ?_⟩
    rw [show o4.semAt Fence.wide.round a2.eval = execOp a2.eval o4 from rfl, z1]
    have hr3 := hr2.put (d := some 15) (tg := []) (s := .padr (enc x).cells) rfl (Tags.nil a2) (Qt.refl w' F0) z2
    rw [← g44] at hr3
    show wpOpsIn _ _ _ _ _ _ _ _
    rw [g44] at hr3 ⊢
    refine still_reg hT (ok.h5 l xs _ x) (all_plain ok.p3) hr3 fun a4 hr4 hd4 => ?_
    obtain ⟨o6, c6, g61, g62, g63, g64, g65, g66⟩ := ok.h6
    simp only [wpOpsIn, g61]
    rw [if_pos (by simp [Region.wanted, g65])]
    refine ⟨fun _ _ => trivial, ?_⟩
    have e11 : a4.eval (.tmp 11) = .func (.yield l) #[] #[] := rd_s (look_rd hr4.rd (Tags.nil a4) (x := .tmp 11) rfl)
    have e12 : a4.eval (.tmp 12) = .int .i64 (((xs.length : Int) - 1) - (k : Int)) := rd_s (look_rd hr4.rd (Tags.nil a4) (x := .tmp 12) rfl)
    have e16 : RdS w' F0 (fun _ => .free) (a4.eval (.tmp 16)) (.p (enc x)) := look_rd hr4.rd (Tags.nil a4) (x := .tmp 16) rfl
    obtain ⟨fn', tmps, asg, bdy, hy, hR⟩ := hY k w' #[.int .i64 ((xs.length - 1 - k : Nat) : Int), a4.eval (.tmp 16)] hlt hJ ⟨_, x, rfl, hxk, rdp e16⟩
    have hrun : (execOp a4.eval o6).run P w' = .ok (.round l fn' tmps asg bdy) w' := by
      rw [← hidx] at hy
      simp [execOp, g62, resolve, g63, e11, Deferred.ofValue, g64, e12, invoke, hy]
    rw [show o6.semAt Fence.wide.round a4.eval = execOp a4.eval o6 from rfl, hrun]
    refine ⟨fun _ => by omega, hR.mono ?_⟩
    have hda4 : a4.defers = [] := hd4.trans (hd2.trans (hd1.trans hda))
    have ext2 : ∀ j W', J j W' → Ext w' F0 W' F0 := fun j W' hj b o h => ⟨h, (((kJ j W' hj).1 b o h).2).trans ((kJ k w' hJ).1 b o h).2.symm⟩
    rintro e W' (⟨rfl, hJ'⟩ | ⟨rfl, hZ⟩)
    · have hr5 := (hr4.rebase hda4 (fun _ => rfl) (ext2 _ W' hJ') (hF _ W' hJ')).put (d := some 17) (tg := []) (s := vb true) (v := .bool true) rfl (Tags.nil a4) (Qt.refl W' F0) (.p (.s _))
      show wpOpsIn _ _ _ _ _ _ _ _
      rw [g66]
      refine still_reg hT (ok.h7 l xs _ x true) (all_plain ok.p3) hr5 fun a6 hr6 hd6 => ?_
      have e18 : a6.eval (.tmp 18) = .bool (!true) := rd_s (look_rd hr6.rd (Tags.nil a6) (x := .tmp 18) rfl)
      show (Code.cond _ _ _).wpIn _ _ _ _ _ _
      refine wpIn_cond (t := false) e18 ?_
      rw [if_neg (by decide)]
      refine wpIn_skip ?_
      show (Code.region _ _ _).wpIn _ _ _ _ _ _
      refine wpIn_region ?_
      have hr6' : Rel 19 W' F0 (fun _ => .free) (bwE n enc l xs (((xs.length : Int) - 1) - (k : Int))) [] a6 := ⟨hr6.size, hr6.defers, fun t tg s ht => hr6.env t tg s (get_app ht), hr6.sim⟩
      rw [List.range_eq_range', ← List.append_nil (List.range' 0 r2.size)]
      refine still_reg hT (ok.h2 l xs _) (all_plain ok.p2) hr6' fun a7 hr7 hd7 => ?_
      refine ⟨xs.length - (k + 1), by omega, k + 1, rfl, by omega, hJ', hd7.trans (hd6.trans hda4), ?_⟩
      have e : w64 ((((xs.length : Int) - 1) - (k : Int)) - 1) = ((xs.length : Int) - 1) - ((k + 1 : Nat) : Int) := by rw [w64_small (by omega) (by omega)]; omega
      rw [← e]; exact hr7
    · have hr5 : Rel 19 W' (fun _ _ => False) (fun _ => .free) [] [] a4 := ⟨hr4.size, by rw [hda4]; exact Dfr.nil, fun t tg s ht => by simp [Env.get] at ht, ⟨fun _ _ h => h.elim, fun i b h => by simp [Pl.blk] at h, fun i b o _ h => h.elim, fun i k b h => by simp [Pl.blk] at h, fun _ _ => rfl, fun i t cs h => by simp at h, fun i h => by simp at h, fun i b r ts ss h => by simp at h, fun k i b h => by simp at h⟩⟩
      have hr6 := hr5.put (d := some 17) (tg := []) (s := vb false) (v := .bool false) rfl (Tags.nil a4) (Qt.refl W' _) (.p (.s _))
      show wpOpsIn _ _ _ _ _ _ _ _
      rw [g66]
      refine still_reg hT (ok.h8 false) (all_plain ok.p3) hr6 fun a6 hr7 hd7 => ?_
      have e18 : a6.eval (.tmp 18) = .bool (!false) := rd_s (look_rd hr7.rd (Tags.nil a6) (x := .tmp 18) rfl)
      show (Code.cond _ _ _).wpIn _ _ _ _ _ _
      refine wpIn_cond (t := true) e18 ?_
      rw [if_pos rfl]
      refine wpIn_ret ?_
      exact ⟨hd7.trans hda4, .tuple #[], results_none hres _ _ _, ⟨_, rfl⟩, .inr hZ⟩
  · refine wpIn_cond (t := false) (by rw [ec, decide_eq_false (by omega)]) ?_
    rw [if_neg (by decide)]
    refine wpIn_exit ?_
    have hkx : k = xs.length := by omega
    subst hkx
    exact ⟨hd1.trans hda, .tuple #[], results_none hres _ _ _, ⟨_, rfl⟩, .inl hJ⟩

/-- These blocks are nobody's. -/
structure Nd (D : Nat) (W : World) (F : Fz) (m : Mp) : Prop where
  m0 : ∀ i, (m i).blk ≠ some D
  m1 : ∀ i, (m i).blk ≠ some (D + 1)
  f0 : ∀ o, ¬ F D o
  f1 : ∀ o, ¬ F (D + 1) o
  lt : D + 1 < W.heap.size
theorem Nd.step {D : Nat} {W W' : World} {F F' : Fz} {m m' : Mp} (h : Nd D W F m) (hg : Gr W F m W' F' m') : Nd D W' F' m' ∧ W'.heap[D]? = W.heap[D]? ∧ W'.heap[D + 1]? = W.heap[D + 1]? := by
  have hlt := h.lt
  have key : ∀ b, b < W.heap.size → (∀ i, (m i).blk ≠ some b) → ∀ i, (m' i).blk ≠ some b := fun b hb hn i hi => by
    obtain ⟨o, ho⟩ := Pl.blk_has hi
    obtain ⟨k, hk⟩ := hg.own i b o ho hb
    exact hn k (Pl.has_blk hk)
  have fkey : ∀ b, b < W.heap.size → (∀ i, (m i).blk ≠ some b) → (∀ o, ¬ F b o) → ∀ o, ¬ F' b o := fun b hb hn hf o hF => by
    rcases hg.fl b o hF with h1 | h1 | ⟨k, h1⟩
    · exact hf o h1
    · omega
    · exact hn k (Pl.has_blk h1)
  exact ⟨⟨key D (by omega) h.m0, key (D + 1) hlt h.m1, fkey D (by omega) h.m0 h.f0, fkey (D + 1) hlt h.m1 h.f1, Nat.lt_of_lt_of_le hlt hg.size⟩, hg.block D (by omega) h.m0, hg.block (D + 1) hlt h.m1⟩
/-- What is told stands where another block is written. -/
theorem Sim.putObj {W : World} {F : Fz} {m : Mp} {h : List Ob} {b : Nat} {o : Obj} (sim : Sim W F m h) (hm : ∀ i, (m i).blk ≠ some b) (hf : ∀ o, ¬ F b o) : Sim (W.putObj b o) F m h := by
  have hoth : ∀ k, k ≠ b → (W.putObj b o).heap[k]? = W.heap[k]? := fun k hk => World.putObj_heap_other hk
  have ext : Ext W F (W.putObj b o) F := fun k i hF => ⟨hF, cell_of_heap (hoth k (by rintro rfl; exact hf i hF))⟩
  have hsame : ∀ i, Same W m (W.putObj b o) m i := fun i => ⟨rfl, fun k lo hk => hoth k (by rintro rfl; exact hm i (by simp [hk, Pl.blk]))⟩
  refine ⟨fun k i hF => by simpa using sim.fl k i hF, fun i k hi => by simpa using sim.lt i k hi, sim.fr, sim.inj, sim.dom, fun i t cs hi => ?_, sim.tl, fun i k r ts ss hi => ?_, sim.pn⟩
  · obtain ⟨k, cur, g1, g2, g3, g4⟩ := sim.ob i t cs hi
    exact ⟨k, cur, g1, (hoth k (by rintro rfl; exact hm i (by simp [g1, Pl.blk]))).trans g2, g3.keep ext fun i _ _ => hsame i, g4⟩
  · obtain ⟨g1, g2, g3⟩ := sim.rc i k r ts ss hi
    exact ⟨g1, (hoth k (by rintro rfl; exact hm i (by simp [g1, Pl.blk]))).trans g2, g3.keep ext fun i _ _ => hsame i⟩
theorem Gr.putObj {w W : World} {F0 F : Fz} {m0 m : Mp} {b : Nat} {o : Obj} (hg : Gr w F0 m0 W F m) (hb : w.heap.size ≤ b) (hF0 : ∀ k i, F0 k i → k < w.heap.size) : Gr w F0 m0 (W.putObj b o) F m :=
  ⟨hg.os, hg.tape, hg.output, by simpa using hg.size, fun k i hF => ⟨(hg.ext k i hF).1, (cell_of_heap (World.putObj_heap_other (by have := hF0 k i hF; omega))).trans (hg.ext k i hF).2⟩, fun k hk hm => (World.putObj_heap_other (by omega)).trans (hg.block k hk hm), hg.own, hg.fl⟩
/-- All that the store tells of are variables. -/
def stab (h : List Ob) : Env → Bool
  | [] => true
  | (_, _, s) :: E => s.ids.all (fun j => match h[j]? with | some (.cells _ _) => true | _ => false) && stab h E
theorem stab_get {h : List Ob} : ∀ {E : Env} {t : Nat} {tg : Tg} {s : SV}, stab h E = true → E.get t = some (tg, s) → ∀ j ∈ s.ids, ∃ u cs, h[j]? = some (.cells u cs)
  | [], t, tg, s, _, h => by simp [Env.get] at h
  | (u, tg', s') :: E, t, tg, s, hl, hg => by
    simp only [stab, Bool.and_eq_true] at hl
    simp only [Env.get] at hg
    cases hb : Nat.beq u t with
    | true =>
      rw [hb] at hg
      simp only [cond_true, Option.some.injEq, Prod.mk.injEq] at hg
      obtain ⟨rfl, rfl⟩ := hg
      intro j hj
      have := List.all_eq_true.1 hl.1 j hj
      split at this
      · rename_i u' cs hcs; exact ⟨u', cs, hcs⟩
      · cases this
    | false => rw [hb] at hg; exact stab_get hl.2 hg
theorem keep_tags {E : Env} : ∀ {L : List Nat} {t : Nat} {tg : Tg} {s : SV}, (E.keep L).get t = some (tg, s) → tg = []
  | [], t, tg, s, h => by simp [Env.keep, Env.get] at h
  | u :: L, t, tg, s, h => by
    simp only [Env.keep] at h
    split at h
    · simp only [Env.get] at h
      cases hb : Nat.beq u t with
      | true => rw [hb] at h; simp only [cond_true, Option.some.injEq, Prod.mk.injEq] at h; exact h.1.symm
      | false => rw [hb] at h; exact keep_tags h
    · exact keep_tags h
theorem noMark_mem {h : List Ob} (hn : noMark h = true) : ∀ i : Nat, h[i]? ≠ some Ob.mark := fun i => noMark_get hn

/-- A range over slices.Backward of a row. -/
theorem W_backward (hT : TOk P T) {g : Operand} {p1 p2 f i0 i1 i2 i3 n : Nat} {r0 r1 r2 r3 : Array Oper} {α : Type} {enc : α → PV} {xs : List α} {assign body : Code} {E E1 : Env} {h : List Ob} {Q : QB} (L : List Nat)
    (ok : BwOk P T r0 r1 r2 r3 n α enc) {fn : Func} (hf : P.funcs[f]? = some fn) (hb : fn.body = some (bwCode i0 i1 i2 i3 r0 r1 r2 r3)) (hnt : fn.ntmps = 19) (hres : fn.results = #[]) (hnm : (fn.name == "runtime.NumGoroutine") = false)
    (hg : look E [] g = some (.fn f [.padr [.sl n α enc xs]])) (hx : (xs.length : Int) ≤ 9223372036854775807) (hE : E.keep L = E1) (hst : stab h E1 = true) (hmk : noMark h = true) (hp1 : Nat.blt p1 nt = true) (hp2 : Nat.blt p2 nt = true) (hp12 : Nat.beq p1 p2 = false) (hpa : plain assign = true) (hpb : plain body = true)
    (Jh : (Nat → Nat) → Nat → List Ob → Prop) (Xh : (Nat → Nat) → List Ob → Prop) (hJ0 : ∀ bs, Jh bs 0 (h ++ pins bs 0 h)) (hJp : ∀ bs k h', Jh bs k h' → ∀ o ∈ pins bs 0 h, o ∈ h') (hXp : ∀ bs h', Xh bs h' → ∀ o ∈ pins bs 0 h, o ∈ h')
    (hround : ∀ bs k x h', k < xs.length → xs[xs.length - 1 - k]? = some x → Jh bs k h' → W P nt assign ((p2, [], .p (enc x)) :: (p1, [], vi ((xs.length - 1 - k : Nat) : Int)) :: E1) h' fun e E2 h2 => e = .normal ∧ W P nt body E2 h2 fun e E3 h3 => (e = .normal ∧ Jh bs (k + 1) h3) ∨ (e = .ret ∧ Xh bs h3))
    (hend : ∀ bs h', Jh bs xs.length h' → Q .normal E1 (h' ++ [.mark])) (hret : ∀ bs h', Xh bs h' → Q .ret E1 (h' ++ [.mark])) : W P nt (.rangeFunc g #[p1, p2] assign body) E h Q := by
  refine ⟨fun a w F0 m0 hr => ?_, fun hp => by simp [plain] at hp⟩
  have sim := hr.sim
  have hdf : a.defers = [] := by
    cases hd : a.defers with
    | nil => rfl
    | cons d ds => obtain ⟨i, D, h1, _⟩ := hr.defers.at_ d (by rw [hd]; simp); exact absurd h1 (noMark_mem hmk i)
  have hgv := look_rd hr.rd (Tags.nil a) hg
  obtain ⟨cv, hge, hcv⟩ : ∃ cv, a.eval g = .func (.func f) #[] #[cv] ∧ RdS w F0 m0 cv (.padr [.sl n α enc xs]) := by
    generalize hv : a.eval g = v at hgv
    cases hgv with
    | fn hl =>
      cases hl with
      | cons h1 h2 => cases h2; exact ⟨_, rfl, h1⟩
  have hcv' : RdS w F0 (fun _ => .free) cv (.padr [.sl n α enc xs]) := RdS.move rfl hcv
  obtain ⟨bs, hbs⟩ : ∃ bs : Nat → Nat, ∀ (i : Nat) (t : Nat) (cs : List SV), h[i]? = some (.cells t cs) → m0 i = .obj (bs i) := by
    refine ⟨fun i => match m0 i with | .obj b => b | _ => 0, fun i t cs hi => ?_⟩
    obtain ⟨b, cur, g1, _⟩ := sim.ob i t cs hi
    simp only [g1]
  -- the store where a round begins
  have henv : ∀ (W : World) (F : Fz) (m : Mp) (h' : List Ob), Sim W F m h' → Gr w F0 m0 W F m → (∀ o ∈ pins bs 0 h, o ∈ h') → ∀ t s, E1.get t = some ([], s) → RdS W F m (a.tmps.getD t undef) s := fun W F m h' hs hgr hpin t s ht => by
    subst hE
    have h1 := hr.rd t [] s (Env.keep_get ht) (Tags.nil a)
    refine h1.keep hgr.ext fun j hj _ => ?_
    obtain ⟨u, cs, hcs⟩ := stab_get hst ht j hj
    have hm := hbs j u cs hcs
    have hp := pins_has (bs := bs) (i := 0) hcs
    rw [Nat.zero_add] at hp
    obtain ⟨k, hk⟩ := List.mem_iff_getElem?.1 (hpin _ hp)
    exact ⟨(hs.pn k j (bs j) hk).trans hm.symm, fun b lo hbt => by rw [hm] at hbt; cases hbt⟩
  have mkEnd : ∀ (W : World) (F : Fz) (m : Mp) (h' : List Ob), Sim W F m h' → Gr w F0 m0 W F m → Nd w.heap.size W F m → (∀ o ∈ pins bs 0 h, o ∈ h') → W.heap[w.heap.size]? = some (.deferred (some [])) →
      ∃ m', Rel nt W F m' E1 (h' ++ [.mark]) { a with defers := { target := .collected w.heap.size, args := #[] } :: a.defers } ∧ Gr w F0 m0 W F m' := fun W F m h' hs hgr hnd hpin hD => by
    have hfree : m h'.length = .free := hs.dom _ (Nat.le_refl _)
    have hsame : ∀ i, m i ≠ .free → Same W m W (upd m h'.length (.obj w.heap.size)) i := fun i hi => ⟨upd_other (by rintro rfl; exact hi hfree), fun _ _ _ => rfl⟩
    refine ⟨upd m h'.length (.obj w.heap.size), ⟨hr.size, ?_, fun t tg s ht => ?_, ?_⟩, ?_⟩
    · show Dfr W _ _ ({ target := .collected w.heap.size, args := #[] } :: a.defers)
      rw [hdf]
      refine ⟨by simp, fun d hd => ?_⟩
      obtain rfl : d = _ := by simpa using hd
      exact ⟨h'.length, w.heap.size, by simp, upd_same, rfl, hD⟩
    · have htg : tg = [] := by subst hE; exact keep_tags ht
      subst htg
      exact .inl ⟨Tags.nil _, (henv W F m h' hs hgr hpin t s ht).keep (Ext.refl _ _) fun j _ hj => hsame j hj⟩
    · have hcase : ∀ {i b}, (upd m h'.length (.obj w.heap.size) i).blk = some b → (i = h'.length ∧ b = w.heap.size) ∨ (m i).blk = some b := fun {i b} hi => by
        by_cases hij : i = h'.length
        · subst hij; rw [upd_same] at hi; simp only [Pl.blk, Option.some.injEq] at hi; exact .inl ⟨rfl, hi.symm⟩
        · rw [upd_other hij] at hi; exact .inr hi
      have hget : ∀ {i o}, (h' ++ [Ob.mark])[i]? = some o → (i < h'.length ∧ h'[i]? = some o) ∨ (i = h'.length ∧ o = .mark) := fun {i o} hi => by
        by_cases hl : i < h'.length
        · rw [List.getElem?_append_left hl] at hi; exact .inl ⟨hl, hi⟩
        · have := (List.getElem?_eq_some_iff.1 hi).1
          simp at this
          obtain rfl : i = h'.length := by omega
          rw [List.getElem?_concat_length] at hi
          exact .inr ⟨rfl, (Option.some.inj hi).symm⟩
      refine ⟨hs.fl, fun i b hi => ?_, fun i b o hF hh => ?_, fun i k b hi hk => ?_, fun i hi => ?_, fun i t cs hi => ?_, fun i hi b => ?_, fun i b r ts ss hi => ?_, fun k i b hi => ?_⟩
      · rcases hcase hi with ⟨_, rfl⟩ | h1
        · have := hnd.lt; omega
        · exact hs.lt i b h1
      · by_cases hij : i = h'.length
        · subst hij; rw [upd_same] at hh; obtain rfl : w.heap.size = b := hh; exact hnd.f0 o hF
        · rw [upd_other hij] at hh; exact hs.fr i b o hF hh
      · rcases hcase hi with ⟨rfl, rfl⟩ | h1
        · rcases hcase hk with ⟨rfl, _⟩ | h2
          · rfl
          · exact absurd h2 (hnd.m0 k)
        · rcases hcase hk with ⟨rfl, rfl⟩ | h2
          · exact absurd h1 (hnd.m0 i)
          · exact hs.inj i k b h1 h2
      · simp at hi; rw [upd_other (by omega)]; exact hs.dom i (by omega)
      · rcases hget hi with ⟨hl, h1⟩ | ⟨_, h1⟩
        · obtain ⟨b, cur, g1, g2, g3, g4⟩ := hs.ob i t cs h1
          exact ⟨b, cur, (upd_other (by omega)).trans g1, g2, g3.keep (Ext.refl _ _) fun j _ hj => hsame j hj, g4⟩
        · cases h1
      · rcases hget hi with ⟨hl, h1⟩ | ⟨_, h1⟩
        · rw [upd_other (by omega)]; exact hs.tl i h1 b
        · cases h1
      · rcases hget hi with ⟨hl, h1⟩ | ⟨_, h1⟩
        · obtain ⟨g1, g2, g3⟩ := hs.rc i b r ts ss h1
          exact ⟨(upd_other (by omega)).trans g1, g2, g3.keep (Ext.refl _ _) fun j _ hj => hsame j hj⟩
        · cases h1
      · rcases hget hi with ⟨hl, h1⟩ | ⟨_, h1⟩
        · have h2 := hs.pn k i b h1
          exact (upd_other (by rintro rfl; rw [hfree] at h2; cases h2)).trans h2
        · cases h1
    · refine ⟨hgr.os, hgr.tape, hgr.output, hgr.size, hgr.ext, hgr.block, fun i b o hh hb => ?_, hgr.fl⟩
      by_cases hij : i = h'.length
      · subst hij; rw [upd_same] at hh; obtain rfl : w.heap.size = b := hh; omega
      · rw [upd_other hij] at hh; exact hgr.own i b o hh hb
  refine (wpIn_wide (n := 8)).1 ?_
  refine range_gen 8 (by omega) (gf := f) (lb := #[cv]) hge (fun args w' => by
      have hnm' : ¬ fn.name = "runtime.NumGoroutine" := by simpa using hnm
      simp [callFunc, hf, hb, hnm']) xs.length
    (fun i W args => ∃ v x, args = #[.int .i64 ((xs.length - 1 - i : Nat) : Int), v] ∧ xs[xs.length - 1 - i]? = some x ∧ Rd W F0 v (enc x)) (fun i W args ⟨v, x, h1, _⟩ => by rw [h1]; rfl)
    (fun i W => ∃ h' F m, Jh bs i h' ∧ Sim W F m h' ∧ Gr w F0 m0 W F m ∧ Nd w.heap.size W F m)
    (fun i a1 W1 => ∃ E2 h2 F m, W P nt body E2 h2 (fun e E3 h3 => (e = .normal ∧ Jh bs (i + 1) h3) ∨ (e = .ret ∧ Xh bs h3)) ∧ Rel nt W1 F m E2 h2 a1 ∧ Gr w F0 m0 W1 F m ∧ Nd w.heap.size W1 F m)
    (fun W => ∃ h' F m, Xh bs h' ∧ Sim W F m h' ∧ Gr w F0 m0 W F m ∧ Nd w.heap.size W F m)
    (fun i W o ⟨h', F, m, h1, h2, h3, h4⟩ => ⟨h', F, m, h1, h2.putObj h4.m1 h4.f1, h3.putObj (by omega) sim.fl, ⟨h4.m0, h4.m1, h4.f0, h4.f1, by simpa using h4.lt⟩⟩)
    (fun i a1 W o ⟨E2, h2, F, m, h1, h3, h4, h5⟩ => ⟨E2, h2, F, m, h1, ⟨h3.size, h3.defers.same fun i D z1 z2 z3 _ => ⟨z1, z2, World.putObj_heap_other (by rintro rfl; exact h5.m1 i (by simp [z2, Pl.blk]))⟩, fun t tg s ht => (h3.env t tg s ht).imp (fun z => ⟨z.1, z.2.keep (fun b o hF => ⟨hF, cell_of_heap (World.putObj_heap_other (by rintro rfl; exact h5.f1 o hF))⟩) fun j _ _ => ⟨rfl, fun b lo hb => World.putObj_heap_other (by rintro rfl; exact h5.m1 j (by simp [hb, Pl.blk]))⟩⟩) id, h3.sim.putObj h5.m1 h5.f1⟩, h4.putObj (by omega) sim.fl, ⟨h5.m0, h5.m1, h5.f0, h5.f1, by simpa using h5.lt⟩⟩)
    (fun W o ⟨h', F, m, h1, h2, h3, h4⟩ => ⟨h', F, m, h1, h2.putObj h4.m1 h4.f1, h3.putObj (by omega) sim.fl, ⟨h4.m0, h4.m1, h4.f0, h4.f1, by simpa using h4.lt⟩⟩)
    ?hit ?h0 ?hassign ?hbody ?hdone ?hstop
  case hit =>
    intro l J' Z hJ' hY W hW
    exact bw_iter hT ok hf hb hnt hres hx hcv' sim.fl (by omega) (fun k W hk => by
      obtain ⟨h', F, m, _, _, h3, _⟩ := hJ' k W hk
      exact ⟨fun b o hF => ⟨hF, (h3.ext b o hF).2⟩, h3.size⟩) (fun k W args hk hj hA => hY k W args hk hj hA) hW
  case h0 =>
    intro o
    have q1 : Qt w F0 ((w.alloc (.deferred (some []))).alloc o) F0 := ⟨rfl, rfl, rfl, by simp; omega, fun _ _ h => h, fun b hb => (Below.heap_alloc _ o b (by simp; omega)).trans (Below.heap_alloc w _ b hb), fun _ _ h => .inl h⟩
    have s1 := q1.sim sim
    refine ⟨h ++ pins bs 0 h, F0, m0, hJ0 bs, ?_, q1.gr sim, ⟨fun i hi => ?_, fun i hi => ?_, fun o hF => ?_, fun o hF => ?_, by simp⟩⟩
    · have pinmem : ∀ (k : Nat) (o : Ob), (h ++ pins bs 0 h)[k]? = some o → h[k]? = some o ∨ o ∈ pins bs 0 h := fun k o hk => by
        by_cases hl : k < h.length
        · rw [List.getElem?_append_left hl] at hk; exact .inl hk
        · rw [List.getElem?_append_right (by omega)] at hk; exact .inr (List.mem_of_getElem? hk)
      refine ⟨s1.fl, s1.lt, s1.fr, s1.inj, fun i hi => s1.dom i (by rw [List.length_append] at hi; omega), fun i t cs hi => ?_, fun i hi b => ?_, fun i b r ts ss hi => ?_, fun k i b hk => ?_⟩
      · rcases pinmem i _ hi with h1 | h1
        · exact s1.ob i t cs h1
        · obtain ⟨_, _, _, _, e⟩ := pins_mem h1; cases e
      · rcases pinmem i _ hi with h1 | h1
        · exact s1.tl i h1 b
        · obtain ⟨_, _, _, _, e⟩ := pins_mem h1; cases e
      · rcases pinmem i _ hi with h1 | h1
        · exact s1.rc i b r ts ss h1
        · obtain ⟨_, _, _, _, e⟩ := pins_mem h1; cases e
      · rcases pinmem k _ hk with h1 | h1
        · exact s1.pn k i b h1
        · obtain ⟨k', t', cs', e1, e⟩ := pins_mem h1
          simp only [Nat.zero_add, Ob.pin.injEq] at e
          obtain ⟨rfl, rfl⟩ := e
          exact hbs _ t' cs' e1
    · exact absurd (sim.lt i _ hi) (Nat.lt_irrefl _)
    · have := sim.lt i _ hi; omega
    · exact absurd (sim.fl _ o hF) (Nat.lt_irrefl _)
    · have := sim.fl _ o hF; omega
  case hassign =>
    rintro l i W args hi ⟨h', F, m, h1, h2, h3, h4⟩ ⟨v, x, rfl, hxi, hv⟩
    have hp1' := of_blt hp1
    have hp2' := of_blt hp2
    have hne : p1 ≠ p2 := by rintro rfl; rw [Nat.beq_refl] at hp12; cases hp12
    have hrel : Rel nt W F m ((p2, [], .p (enc x)) :: (p1, [], vi ((xs.length - 1 - i : Nat) : Int)) :: E1) h' { tmps := ((#[p1, p2] : Array Tmp).zip #[.int .i64 ((xs.length - 1 - i : Nat) : Int), v]).foldl (fun t (p, v) => t.setIfInBounds p v) a.tmps, defers := [] } := by
      have et : ((#[p1, p2] : Array Tmp).zip #[Value.int .i64 ((xs.length - 1 - i : Nat) : Int), v]).foldl (fun t (p, v) => t.setIfInBounds p v) a.tmps = (a.tmps.setIfInBounds p1 (.int .i64 ((xs.length - 1 - i : Nat) : Int))).setIfInBounds p2 v := by simp
      have hsz := hr.size
      refine ⟨by rw [et]; simp [hsz], Dfr.nil, fun t tg s ht => ?_, h2⟩
      simp only [et]
      simp only [Env.get] at ht
      cases hb2 : Nat.beq p2 t with
      | true =>
        rw [hb2] at ht
        simp only [cond_true, Option.some.injEq, Prod.mk.injEq] at ht
        obtain ⟨rfl, rfl⟩ := ht
        obtain rfl := Nat.eq_of_beq_eq_true hb2
        refine .inl ⟨Tags.nil _, ?_⟩
        rw [show ((a.tmps.setIfInBounds p1 (.int .i64 ((xs.length - 1 - i : Nat) : Int))).setIfInBounds p2 v).getD p2 undef = v by
          rw [Array.getD_eq_getD_getElem?, Array.getElem?_setIfInBounds_self_of_lt (by simp [hsz]; exact hp2')]; rfl]
        exact .p (hv.ext fun b o hF => ⟨(h3.ext b o hF).1, rfl⟩)
      | false =>
        rw [hb2] at ht
        simp only [cond_false] at ht
        have hn2 : p2 ≠ t := by rintro rfl; rw [Nat.beq_refl] at hb2; cases hb2
        have e2 : ((a.tmps.setIfInBounds p1 (.int .i64 ((xs.length - 1 - i : Nat) : Int))).setIfInBounds p2 v).getD t undef = (a.tmps.setIfInBounds p1 (.int .i64 ((xs.length - 1 - i : Nat) : Int))).getD t undef := by
          rw [Array.getD_eq_getD_getElem?, Array.getD_eq_getD_getElem?, Array.getElem?_setIfInBounds_ne hn2]
        rw [e2]
        cases hb1 : Nat.beq p1 t with
        | true =>
          rw [hb1] at ht
          simp only [cond_true, Option.some.injEq, Prod.mk.injEq] at ht
          obtain ⟨rfl, rfl⟩ := ht
          obtain rfl := Nat.eq_of_beq_eq_true hb1
          refine .inl ⟨Tags.nil _, ?_⟩
          rw [show (a.tmps.setIfInBounds p1 (.int .i64 ((xs.length - 1 - i : Nat) : Int))).getD p1 undef = .int .i64 ((xs.length - 1 - i : Nat) : Int) by
            rw [Array.getD_eq_getD_getElem?, Array.getElem?_setIfInBounds_self_of_lt (by rw [hsz]; exact hp1')]; rfl]
          exact .p (.s _)
        | false =>
          rw [hb1] at ht
          simp only [cond_false] at ht
          have hn1 : p1 ≠ t := by rintro rfl; rw [Nat.beq_refl] at hb1; cases hb1
          have e1 : (a.tmps.setIfInBounds p1 (.int .i64 ((xs.length - 1 - i : Nat) : Int))).getD t undef = a.tmps.getD t undef := by
            rw [Array.getD_eq_getD_getElem?, Array.getD_eq_getD_getElem?, Array.getElem?_setIfInBounds_ne hn1]
          rw [e1]
          have htg : tg = [] := by subst hE; exact keep_tags ht
          subst htg
          exact .inl ⟨Tags.nil _, henv W F m h' h2 h3 (hJp bs i h' h1) t s ht⟩
    refine wpIn_mono ((hround bs i x h' hi hxi h1).inn hpa (fun _ _ hq => by cases hq.1) l _ _ W F m hrel) ?_
    rintro e a1 W1 ⟨E2, h2', F', m', ⟨rfl, hB⟩, hr', hg'⟩
    obtain ⟨n1, n2, n3⟩ := h4.step hg'
    exact ⟨⟨n2, n3⟩, E2, h2', F', m', hB, hr', h3.trans hg', n1⟩
  case hbody =>
    rintro l i a1 W1 hi _ ⟨E2, h2, F, m, hB, hr', h3, h4⟩
    refine wpIn_mono (hB.inn hpb (fun _ _ hq => by rcases hq with hq | hq <;> cases hq.1) l _ a1 W1 F m hr') ?_
    rintro e a2 W2 ⟨E3, h3', F', m', hq, hr2, hg2⟩
    obtain ⟨n1, n2, n3⟩ := h4.step hg2
    refine ⟨⟨n2, n3⟩, ?_⟩
    rcases hq with ⟨rfl, hj⟩ | ⟨rfl, hxh⟩
    · exact .inl ⟨rfl, h3', F', m', hj, hr2.sim, h3.trans hg2, n1⟩
    · exact .inr ⟨rfl, h3', F', m', hxh, hr2.sim, h3.trans hg2, n1⟩
  case hdone =>
    rintro W ⟨h', F, m, h1, h2, h3, h4⟩ hD
    obtain ⟨m', g1, g2⟩ := mkEnd W F m h' h2 h3 h4 (hJp bs _ h' h1) hD
    exact ⟨E1, h' ++ [.mark], F, m', hend bs h' h1, g1, g2⟩
  case hstop =>
    rintro W ⟨h', F, m, h1, h2, h3, h4⟩ hD
    obtain ⟨m', g1, g2⟩ := mkEnd W F m h' h2 h3 h4 (hXp bs h' h1) hD
    exact wpIn_ret ⟨E1, h' ++ [.mark], F, m', hret bs h' h1, g1, g2⟩
end
end Go.Proofs.Ytngcfmnmjkncoaa.Q
