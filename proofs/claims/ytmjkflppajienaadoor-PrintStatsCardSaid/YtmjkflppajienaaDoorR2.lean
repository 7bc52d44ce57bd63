/- A range over a function whose rounds are walked, by what its iterator does; no condition but the typed premises. -/
import Derived.Test.YtmjkflppajienaaDoorRR
import Derived.RangeFuncNested
import Derived.RangeFuncCalls
import Derived.RangeFuncLeaves
namespace Go.Proofs.YtmjkflppajienaaDoor.R
open Go Go.RowKit
set_option linter.unusedVariables false
set_option linter.unusedSimpArgs false

set_option maxHeartbeats 400000 in
/-- The statement 'for .. := range f { .. }', its body going on or returning; Pv: the iterator's own blocks. -/
theorem range_gen {P : Program} {g : Operand} {ps : Array Tmp} {assign body : Code} {Q : Exit → Act → World → Prop} {a : Act} {w : World} (n : Nat) (hn : 5 ≤ n) {gf : Nat} {lb : Array Value}
    (hg : a.eval g = .func (.func gf) #[] lb) (eg : ∀ args w, (callFunc gf args).run P w = .ok (.enter gf args) w)
    (Pv : Nat → Prop) (hPv : ∀ b, Pv b → b < w.heap.size)
    (N : Nat) (A : Nat → World → Array Value → Prop) (hps : ∀ i W args, A i W args → args.size = ps.size)
    (J : Nat → World → Prop) (B : Nat → Act → World → Prop) (X : World → Prop)
    (pJ : ∀ i W b o, b = w.heap.size + 1 ∨ Pv b → J i W → J i (W.putObj b o)) (gJ : ∀ i W W', J i W → Below W.heap.size W W' → J i W') (pB : ∀ i a W o, B i a W → B i a (W.putObj (w.heap.size + 1) o)) (pX : ∀ W o, X W → X (W.putObj (w.heap.size + 1) o))
    (hit : ∀ (l : Nat) (J' : Nat → World → Prop) (Z : World → Prop), (∀ i W, J' i W → J i W) → (∀ i W b o, Pv b → J' i W → J' i (W.putObj b o)) → (∀ i W W', J' i W → Below W.heap.size W W' → J' i W') →
      (∀ i W args, i < N → J' i W → A i W args → YieldAt Fence.wide (n - 1 - 1) P l args W fun e W' => (e = .returned (.bool true) ∧ J' (i + 1) W' ∧ ∀ b, Pv b → W'.heap[b]? = W.heap[b]?) ∨ (e = .returned (.bool false) ∧ Z W')) →
      ∀ W, J' 0 W → (∀ b, Pv b → W.heap[b]? = w.heap[b]?) → CallsIn Fence.wide (n - 1) P gf (#[.func (.yield l) #[] #[]] ++ lb) W fun e W' => (∃ v, e = .returned v) ∧ (J' N W' ∨ Z W'))
    (h0 : ∀ o, J 0 ((w.alloc (.deferred (some []))).alloc o))
    (hassign : ∀ l i W args, i < N → J i W → A i W args → assign.wpIn (Fence.wide.inRound l) (n - 1 - 1) P (Exit.then (fun a1 W1 => (∀ b, b = w.heap.size ∨ b = w.heap.size + 1 ∨ Pv b → W1.heap[b]? = W.heap[b]?) ∧ B i a1 W1) (fun _ _ _ => False))
      { tmps := (ps.zip args).foldl (fun t (p, v) => t.setIfInBounds p v) a.tmps, defers := [] } W)
    (hbody : ∀ l i a1 W1, i < N → w.heap.size + 1 < W1.heap.size → B i a1 W1 → body.wpIn (Fence.wide.inRound l) (n - 1 - 1) P (fun e _ W2 => (∀ b, b = w.heap.size ∨ b = w.heap.size + 1 ∨ Pv b → W2.heap[b]? = W1.heap[b]?) ∧ ((e = .normal ∧ J (i + 1) W2) ∨ (e = .ret ∧ X W2))) a1 W1)
    (hdone : ∀ W, J N W → W.heap[w.heap.size]? = some (.deferred (some [])) → Q .normal { a with defers := { target := .collected w.heap.size, args := #[] } :: a.defers } W)
    (hstop : ∀ W, X W → W.heap[w.heap.size]? = some (.deferred (some [])) → Code.ret.wpIn Fence.wide n P Q { a with defers := { target := .collected w.heap.size, args := #[] } :: a.defers } W) :
    (Code.rangeFunc g ps assign body).wpIn Fence.wide n P Q a w := by
  refine wpIn_rangeFunc fun fn hfn => ?_
  obtain ⟨D, hD⟩ : ∃ D, D = w.heap.size := ⟨_, rfl⟩
  obtain ⟨rec, hrec⟩ : ∃ rec : LoopState → Option Code → Loop, rec = fun st pe => { state := st, pending := pe, fn, tmps := a.tmps, params := ps, assign, body, defers := w.heap.size } := ⟨_, rfl⟩
  rw [← hD] at pJ pB pX hassign hbody hdone hstop hPv
  let Rdy : World → Prop := fun W => W.heap[D]? = some (.deferred (some [])) ∧ W.heap[D + 1]? = some (.loop (rec .ready none))
  let Gone : World → Prop := fun W => X W ∧ W.heap[D]? = some (.deferred (some [])) ∧ W.heap[D + 1]? = some (.loop (rec .done (some .ret)))
  have hR0 : Rdy ((w.alloc (.deferred (some []))).alloc (.loop (rec .ready none))) := by
    refine ⟨?_, ?_⟩
    · rw [hD]; exact (Below.heap_alloc _ _ _ (by simp)).trans (World.alloc_heap_new w _)
    · rw [hD]; have := World.alloc_heap_new (w.alloc (.deferred (some []))) (.loop (rec .ready none)); rwa [World.size_alloc] at this
  have hit' := hit (D + 1) (fun i W => J i W ∧ Rdy W) Gone (fun i W h => h.1)
    (fun i W b o hb h => ⟨pJ i W b o (.inr hb) h.1, (World.putObj_heap_other (by have := hPv b hb; omega)).trans h.2.1, (World.putObj_heap_other (by have := hPv b hb; omega)).trans h.2.2⟩)
    (fun i W W' h hb => ⟨gJ i W W' h.1 hb, (hb.block _ (Array.getElem?_eq_some_iff.1 h.2.1).1).trans h.2.1, (hb.block _ (Array.getElem?_eq_some_iff.1 h.2.2).1).trans h.2.2⟩)
    ?round ((w.alloc (.deferred (some []))).alloc (.loop (rec .ready none))) ⟨h0 _, hR0⟩ (fun b hb => (Below.heap_alloc _ _ b (by have := hPv b hb; simp; omega)).trans (Below.heap_alloc w _ b (by have := hPv b hb; omega)))
  case round =>
    rintro i W args hiN ⟨hA, hd, hl⟩ hargs
    have hlt : D + 1 < W.heap.size := (Array.getElem?_eq_some_iff.1 hl).1
    have hy := run_yield (P := P) (args := args) hl (by rw [hrec]; exact hps i W args hargs)
    rw [hrec] at hy
    refine ⟨fn, _, assign, body, hy, roundIn_of_wpIn hfn (wpIn_mono (hassign _ i W args hiN hA hargs) ?_)⟩
    rintro e a1 W1 hp
    cases e with
    | normal =>
      obtain ⟨kk, hB1⟩ := hp
      have hl1 : W1.heap[D + 1]? = some (.loop (rec .ready none)) := (kk _ (.inr (.inl rfl))).trans hl
      have hd1 : W1.heap[D]? = some (.deferred (some [])) := (kk _ (.inl rfl)).trans hd
      have hlt1 : D + 1 < W1.heap.size := (Array.getElem?_eq_some_iff.1 hl1).1
      refine ⟨_, run_beginRound hl1 (by rw [hrec]), ?_⟩
      have hl2 : (W1.putObj (D + 1) (.loop { rec .ready none with state := .busy })).heap[D + 1]? = some (.loop { rec .ready none with state := .busy }) := World.putObj_heap_same hlt1
      have hd2 : (W1.putObj (D + 1) (.loop { rec .ready none with state := .busy })).heap[D]? = some (.deferred (some [])) := (World.putObj_heap_other (by omega)).trans hd1
      have hp2 : ∀ b, Pv b → (W1.putObj (D + 1) (.loop { rec .ready none with state := .busy })).heap[b]? = W.heap[b]? := fun b hb => (World.putObj_heap_other (by have := hPv b hb; omega)).trans (kk b (.inr (.inr hb)))
      refine wpIn_mono (hbody _ i a1 _ hiN (by simpa using hlt1) (pB i a1 W1 _ hB1)) ?_
      rintro e a3 W3 ⟨qq, hp⟩
      have hl3 := (qq _ (.inr (.inl rfl))).trans hl2
      have hd3 := (qq _ (.inl rfl)).trans hd2
      rcases hp with ⟨rfl, hA3⟩ | ⟨rfl, hX3⟩
      · have hr := run_endRound (P := P) none hl3
        rw [hrec] at hr
        refine ⟨_, _, hr, .inl ⟨rfl, ⟨pJ _ W3 _ _ (.inl rfl) hA3, (World.putObj_heap_other (by omega)).trans hd3, ?_⟩, fun b hb => ?_⟩⟩
        · rw [hrec]
          exact World.putObj_heap_same (Array.getElem?_eq_some_iff.1 hl3).1
        · exact (World.putObj_heap_other (by have := hPv b hb; omega)).trans ((qq b (.inr (.inr hb))).trans (hp2 b hb))
      · have hr := run_endRound (P := P) (some .ret) hl3
        rw [hrec] at hr
        refine ⟨_, _, hr, .inr ⟨rfl, pX W3 _ hX3, (World.putObj_heap_other (by omega)).trans hd3, ?_⟩⟩
        rw [hrec]
        exact World.putObj_heap_same (Array.getElem?_eq_some_iff.1 hl3).1
    | _ => exact hp.elim
  obtain ⟨W1, hW1⟩ : ∃ W1, ((w.alloc (.deferred (some []))).alloc (.loop (rec .ready none))) = W1 := ⟨_, rfl⟩
  rw [hW1] at hit'
  refine ⟨D + 1, [{ target := .collected D, args := #[] }], W1, { target := .fn (.func gf) lb, args := #[.func (.yield (D + 1)) #[] #[]] }, W1, gf, #[.func (.yield (D + 1)) #[] #[]] ++ lb, W1, ?_, ?_, ?_, ?_, ?_, ?_⟩
  · rw [← hW1, hrec, hD]; exact run_enterLoop_outer _ _ _ _ _
  · simp only [resolve, hg]
    simp [go_sem]
  · exact fun _ _ => trivial
  · simp [invoke, go_sem, eg]
  · exact fun h => by cases h
  · refine hit'.mono ?_
    rintro e W2 ⟨⟨v, rfl⟩, hc⟩
    rcases hc with ⟨hA2, hd2, hl2⟩ | ⟨hX2, hd2, hl2⟩
    · have hr := run_endLoop (P := P) hl2 (by rw [hrec]; simp)
      have hp : (rec .ready none).pending = none := by rw [hrec]
      rw [hp] at hr
      refine ⟨none, _, hr, ?_⟩
      exact hdone _ (pJ N W2 _ _ (.inl rfl) hA2) ((World.putObj_heap_other (by omega)).trans hd2)
    · have hr := run_endLoop (P := P) hl2 (by rw [hrec]; simp)
      have hp : (rec .done (some .ret)).pending = some .ret := by rw [hrec]
      rw [hp] at hr
      refine ⟨some .ret, _, hr, ?_⟩
      exact hstop _ (pX W2 _ hX2) ((World.putObj_heap_other (by omega)).trans hd2)

/-- What an iterator does, called with its variables' blocks: the rounds of xs, one behind the other, told as arg says. -/
def ItC (P : Program) (f : Nat) (cs : List (Nat × List PV)) (κ : Ty) (xs : List κ.den) (arg : κ.den → Nat → List PV) : Prop :=
  ∀ (w : World) (F : Fz) (bq : List Nat), bq.Nodup → bq.length = cs.length → (∀ (i b t : Nat) (c : List PV), bq[i]? = some b → cs[i]? = some (t, c) → ∃ cur, w.heap[b]? = some (.cells cur t (0, 0)) ∧ RdL w F cur.toList c) →
    (∀ b o, F b o → b < w.heap.size ∧ b ∉ bq) → ∀ (n l : Nat), 5 ≤ n → ∀ (J : Nat → World → Prop) (Z : World → Prop),
    (∀ k W, J k W → Ext w F W F ∧ w.heap.size ≤ W.heap.size) → (∀ k W b o, b ∈ bq → J k W → J k (W.putObj b o)) → (∀ k W W', J k W → Below W.heap.size W W' → J k W') →
    (∀ k W args x, xs[k]? = some x → J k W → RdL W F args.toList (arg x (xs.length - 1 - k)) → YieldAt Fence.wide (n - 1 - 1) P l args W fun e W' => (e = .returned (.bool true) ∧ J (k + 1) W' ∧ ∀ b ∈ bq, W'.heap[b]? = W.heap[b]?) ∨ (e = .returned (.bool false) ∧ Z W')) →
    ∀ W, J 0 W → (∀ b ∈ bq, W.heap[b]? = w.heap[b]?) → CallsIn Fence.wide (n - 1) P f (#[Value.func (.yield l) #[] #[]] ++ (bq.map fun b => Value.pointer (some ⟨b, 0, none⟩)).toArray) W fun e W' => (∃ v, e = .returned v) ∧ (J xs.length W' ∨ Z W')

/-- These blocks are nobody's. -/
structure Nd (N : Nat → Prop) (W : World) (F : Fz) (m : Mp) : Prop where
  m0 : ∀ i b, N b → (m i).blk ≠ some b
  f0 : ∀ b o, N b → ¬ F b o
  lt : ∀ b, N b → b < W.heap.size
theorem Nd.step {N : Nat → Prop} {W W' : World} {F F' : Fz} {m m' : Mp} (h : Nd N W F m) (hg : Gr W F m W' F' m') : Nd N W' F' m' ∧ ∀ b, N b → W'.heap[b]? = W.heap[b]? := by
  refine ⟨⟨fun i b hb hi => ?_, fun b o hb hF => ?_, fun b hb => Nat.lt_of_lt_of_le (h.lt b hb) hg.size⟩, fun b hb => hg.block b (h.lt b hb) fun i => h.m0 i b hb⟩
  · obtain ⟨o, ho⟩ := Pl.blk_has hi
    obtain ⟨k, hk⟩ := hg.own i b o ho (h.lt b hb)
    exact h.m0 k b hb (Pl.has_blk hk)
  · rcases hg.fl b o hF with h1 | h1 | ⟨k, h1⟩
    · exact h.f0 b o hb h1
    · have := h.lt b hb; omega
    · exact h.m0 k b hb (Pl.has_blk h1)
section
variable {bs : Nat → Nat}
/-- What is told stands where another block is written. -/
theorem Sim.putObj {W : World} {F : Fz} {m : Mp} {h : List Ob} {b : Nat} {o : Obj} (sim : Sim bs W F m h) (hm : ∀ i, (m i).blk ≠ some b) (hf : ∀ o, ¬ F b o) : Sim bs (W.putObj b o) F m h := by
  have hoth : ∀ k, k ≠ b → (W.putObj b o).heap[k]? = W.heap[k]? := fun k hk => World.putObj_heap_other hk
  have ext : Ext W F (W.putObj b o) F := fun k i hF => ⟨hF, cell_of_heap (hoth k (by rintro rfl; exact hf i hF))⟩
  have hsame : ∀ i, Same W m (W.putObj b o) m i := fun i => ⟨rfl, fun k lo hk => hoth k (by rintro rfl; exact hm i (by simp [hk, Pl.blk]))⟩
  refine ⟨fun k i hF => by simpa using sim.fl k i hF, fun i k hi => by simpa using sim.lt i k hi, sim.fr, sim.inj, sim.dom, fun i ob hi ho => ?_, sim.tl, sim.pn, ext.kn sim.kn⟩
  obtain ⟨k, x, g1, g2, g3⟩ := sim.obj i ob hi ho
  exact ⟨k, x, g1, (hoth k (by rintro rfl; exact hm i (by simp [g1, Pl.blk]))).trans g2, g3.keep ext fun i _ _ => hsame i⟩
theorem Rel.putObj {nt : Nat} {E : Env} {a : Act} {W : World} {F : Fz} {m : Mp} {h : List Ob} {b : Nat} {o : Obj} (hr : Rel bs nt W F m E h a) (hm : ∀ i, (m i).blk ≠ some b) (hf : ∀ o, ¬ F b o) : Rel bs nt (W.putObj b o) F m E h a :=
  ⟨hr.size, hr.defers.same fun i D z1 z2 z3 _ => ⟨z1, z2, World.putObj_heap_other (by rintro rfl; exact hm i (by simp [z2, Pl.blk]))⟩,
    fun t tg s ht => (hr.env t tg s ht).imp (fun z => ⟨z.1, z.2.keep (fun b o hF => ⟨hF, cell_of_heap (World.putObj_heap_other (by rintro rfl; exact hf o hF))⟩) fun j _ _ => ⟨rfl, fun b lo hb => World.putObj_heap_other (by rintro rfl; exact hm j (by simp [hb, Pl.blk]))⟩⟩) id, hr.sim.putObj hm hf⟩
theorem Gr.putObj {w W : World} {F0 F : Fz} {m0 m : Mp} {b : Nat} {o : Obj} (hg : Gr w F0 m0 W F m) (hb : w.heap.size ≤ b ∨ ∃ i, (m0 i).blk = some b) (hF0 : ∀ i, ¬ F0 b i) : Gr w F0 m0 (W.putObj b o) F m :=
  ⟨hg.os, hg.tape, hg.output, by simpa using hg.size, fun k i hF => ⟨(hg.ext k i hF).1, (cell_of_heap (World.putObj_heap_other (by rintro rfl; exact hF0 i hF))).trans (hg.ext k i hF).2⟩,
    fun k hk hm => (World.putObj_heap_other (by rintro rfl; rcases hb with h | ⟨i, h⟩; omega; exact hm i h)).trans (hg.block k hk hm), hg.own, hg.fl⟩
end
/-- All that the store tells of are things. -/
def stab (h : List Ob) : Env → Bool
  | [] => true
  | (_, _, s) :: E => s.ids.all (fun j => match h[j]? with | some o => o.isO | _ => false) && stab h E
theorem stab_get {h : List Ob} : ∀ {E : Env} {t : Nat} {tg : Tg} {s : SV}, stab h E = true → E.get t = some (tg, s) → ∀ j ∈ s.ids, ∃ o, h[j]? = some o ∧ o.isO = true
  | [], t, tg, s, _, h => by simp [Env.get] at h
  | (u, tg', s') :: E, t, tg, s, hl, hg => by
    simp only [stab, Bool.and_eq_true] at hl
    simp only [Env.get] at hg
    cases hb : Nat.beq u t with
    | true =>
      rw [hb] at hg
      simp only [cond_true, Option.some.injEq, Prod.mk.injEq] at hg
      obtain ⟨rfl, rfl⟩ := hg
      intro j hj
      have := List.all_eq_true.1 hl.1 j hj
      split at this
      · rename_i o ho; exact ⟨o, ho, this⟩
      · cases this
    | false => rw [hb] at hg; exact stab_get hl.2 hg
theorem keep_tags {E : Env} : ∀ {L : List Nat} {t : Nat} {tg : Tg} {s : SV}, (E.keep L).get t = some (tg, s) → tg = []
  | [], t, tg, s, h => by simp [Env.keep, Env.get] at h
  | u :: L, t, tg, s, h => by
    simp only [Env.keep] at h
    split at h
    · simp only [Env.get] at h
      cases hb : Nat.beq u t with
      | true => rw [hb] at h; simp only [cond_true, Option.some.injEq, Prod.mk.injEq] at h; exact h.1.symm
      | false => rw [hb] at h; exact keep_tags h
    · exact keep_tags h

/-- Things taken away. -/
def memb (l : List Nat) (i : Nat) : Bool := l.any (Nat.beq i)
theorem memb_iff {l : List Nat} {i : Nat} : memb l i = true ↔ i ∈ l := by
  unfold memb
  rw [List.any_eq_true]
  constructor
  · rintro ⟨x, hx, he⟩; rw [Nat.eq_of_beq_eq_true he]; exact hx
  · intro hi; exact ⟨i, hi, Nat.beq_refl i⟩
def hide (os : List Nat) : Nat → List Ob → List Ob
  | _, [] => []
  | k, o :: h => (bif memb os k then .tail else o) :: hide os (k + 1) h
theorem hide_length {os : List Nat} : ∀ {h : List Ob} {k : Nat}, (hide os k h).length = h.length
  | [], _ => rfl
  | o :: h, k => by simp [hide, hide_length]
theorem hide_get {os : List Nat} : ∀ {h : List Ob} {k i : Nat}, (hide os k h)[i]? = h[i]?.map fun o => bif memb os (k + i) then .tail else o
  | [], _, _ => by simp [hide]
  | o :: h, k, 0 => by simp [hide]
  | o :: h, k, i + 1 => by simp only [hide, List.getElem?_cons_succ, hide_get, show k + 1 + i = k + (i + 1) by omega]
/-- What these variables hold. -/
def getCs (h : List Ob) : List Nat → Option (List (Nat × List PV))
  | [] => some []
  | o :: os => match h[o]? with
    | some (.cells t cs) => match purL cs, getCs h os with
      | some c, some l => some ((t, c) :: l)
      | _, _ => none
    | _ => none
theorem getCs_get {h : List Ob} : ∀ {os : List Nat} {l : List (Nat × List PV)}, getCs h os = some l → l.length = os.length ∧ ∀ (i o t : Nat) (c : List PV), os[i]? = some o → l[i]? = some (t, c) → ∃ cs, h[o]? = some (.cells t cs) ∧ purL cs = some c
  | [], l, e => by simp only [getCs, Option.some.injEq] at e; subst e; exact ⟨rfl, fun i o t c h => by simp at h⟩
  | o :: os, l, e => by
    simp only [getCs] at e
    split at e
    · rename_i t cs ho
      split at e
      · rename_i c l' hc hl
        simp only [Option.some.injEq] at e
        subst e
        obtain ⟨h1, h2⟩ := getCs_get hl
        refine ⟨by simp [h1], fun i o' t' c' hi hl' => ?_⟩
        cases i with
        | zero => simp at hi hl'; obtain ⟨rfl, rfl⟩ := hl'; subst hi; exact ⟨cs, ho, hc⟩
        | succ i => exact h2 i o' t' c' (by simpa using hi) (by simpa using hl')
      · cases e
    · cases e
/-- A round's parameters. -/
def bindE : List Nat → List PV → Env → Env
  | p :: ps, q :: qs, E => bindE ps qs ((p, [], .p q) :: E)
  | _, _, E => E
theorem bindE_rel {nt : Nat} {w : World} {F : Fz} {m : Mp} : ∀ {ps : List Nat} {qs : List PV} {vs : List Value} {E : Env} {tm : Array Value}, tm.size = nt → (∀ t tg s, E.get t = some (tg, s) → tg = [] ∧ RdS w F m (tm.getD t undef) s) → RdL w F vs qs → ps.all (fun p => Nat.blt p nt) = true →
    ((ps.zip vs).foldl (fun t (p, v) => t.setIfInBounds p v) tm).size = nt ∧ ∀ t tg s, (bindE ps qs E).get t = some (tg, s) → tg = [] ∧ RdS w F m (((ps.zip vs).foldl (fun t (p, v) => t.setIfInBounds p v) tm).getD t undef) s
  | [], qs, vs, E, tm, hs, hE, hr, hp => by simp only [bindE, List.zip_nil_left, List.foldl_nil]; exact ⟨hs, hE⟩
  | p :: ps, [], vs, E, tm, hs, hE, hr, hp => by cases hr; simp only [bindE, List.zip_nil_right, List.foldl_nil]; exact ⟨hs, hE⟩
  | p :: ps, q :: qs, v :: vs, E, tm, hs, hE, .cons h1 hv hr, hp => by
    simp only [List.all_cons, Bool.and_eq_true] at hp
    have hlt := of_blt hp.1
    have := bindE_rel (w := w) (F := F) (m := m) (ps := ps) (qs := qs) (vs := vs) (E := (p, [], .p q) :: E) (tm := tm.setIfInBounds p v) (by simp [hs]) (fun t tg s ht => by
      simp only [Env.get] at ht
      cases hb : Nat.beq p t with
      | true =>
        rw [hb] at ht
        simp only [cond_true, Option.some.injEq, Prod.mk.injEq] at ht
        obtain ⟨rfl, rfl⟩ := ht
        obtain rfl := Nat.eq_of_beq_eq_true hb
        exact ⟨rfl, by rw [Array.getD_eq_getD_getElem?, Array.getElem?_setIfInBounds_self_of_lt (by omega)]; exact .p hv⟩
      | false =>
        rw [hb] at ht
        have hne : p ≠ t := by rintro rfl; rw [Nat.beq_refl] at hb; cases hb
        obtain ⟨g1, g2⟩ := hE t tg s ht
        exact ⟨g1, by rw [Array.getD_eq_getD_getElem?, Array.getElem?_setIfInBounds_ne hne, ← Array.getD_eq_getD_getElem?]; exact g2⟩) hr hp.2
    simpa only [bindE, List.zip_cons_cons, List.foldl_cons] using this

section
variable {P : Program} {nt : Nat}
/-- What the rounds keep: as many things as there were, telling of none beside, the pins where they were. -/
structure Keep (h0 h' : List Ob) : Prop where
  len : h0.length ≤ h'.length
  pin : ∀ o ∈ pins 0 h0, o ∈ h'
  low : ∀ (i : Nat) o, i < h0.length → h'[i]? = some o → o.low h0.length
  old : ∀ (k i : Nat), k < h0.length → h'[k]? = some (.pin i) → h0[k]? = some (.pin i)
set_option maxHeartbeats 1000000 in
/-- A range over a function. -/
theorem W_range {g : Operand} {ps : Array Tmp} {f : Nat} {os : List Nat} {cs : List (Nat × List PV)} {κ : Ty} {xs : List κ.den} {arg : κ.den → Nat → List PV} {assign body : Code} {E E1 : Env} {h h0 : List Ob} {Q : QB} {fn : Func} (L : List Nat)
    (hit : ItC P f cs κ xs arg) (hf : P.funcs[f]? = some fn) (hb : fn.body.isSome = true) (hnm : (fn.name == "runtime.NumGoroutine") = false)
    (hg : look E [] g = some (.fn f (os.map fun o => .ptr o 0))) (hos : os.Nodup) (hcs : getCs h os = some cs) (hh : hide os 0 h = h0) (hE : E.keep L = E1) (hst : stab h0 E1 = true)
    (hlo : ∀ o ∈ h0, (∀ j ∈ o.ids, j ∉ os) ∧ ∀ i, o = .pin i → i ∉ os) (hmk : noMark h = true) (hps : ps.toList.all (fun p => Nat.blt p nt) = true) (hal : ∀ x n, (arg x n).length = ps.size) (hpa : plain assign = true) (hpb : plain body = true)
    (J : List κ.den → List Ob → Prop) (X : List Ob → Prop) {h1 : List Ob} (hst1 : ∀ {bs : Nat → Nat} w F m, Sim bs w F m (h0 ++ pins 0 h0) → ∃ m', Sim bs w F m' h1 ∧ Gr w F m w F m') (hJ0 : J xs h1) (hJp : ∀ ys h', J ys h' → Keep h0 h') (hXp : ∀ h', X h' → Keep h0 h')
    (hround : ∀ x ys h', J (x :: ys) h' → W P nt assign (bindE ps.toList (arg x ys.length) E1) h' fun e E2 h2 => e = .normal ∧ W P nt body E2 h2 fun e E3 h3 => (e = .normal ∧ J ys h3) ∨ (e = .ret ∧ X h3))
    (hend : ∀ h', J [] h' → Q .normal E1 (h'.take h0.length ++ [.mark])) (hret : ∀ h', X h' → Q .ret E1 (h'.take h0.length ++ [.mark])) : W P nt (.rangeFunc g ps assign body) E h Q := by
  refine ⟨fun {bs} a w F0 m0 hr => ?_, fun hp => by simp [plain] at hp⟩
  have sim := hr.sim
  have hdf : a.defers = [] := by
    cases hd : a.defers with
    | nil => rfl
    | cons d ds => obtain ⟨i, D, h1, _⟩ := hr.defers.at_ d (by rw [hd]; simp); exact absurd h1 (noMark_get hmk)
  obtain ⟨hcl, hcg⟩ := getCs_get hcs
  -- the variables' blocks
  obtain ⟨blk, hblk⟩ : ∃ blk : Nat → Nat, ∀ i b, m0 i = .obj b → blk i = b := ⟨fun i => match m0 i with | .obj b => b | _ => bs i, fun i b hi => by simp only [hi]⟩
  have hobj : ∀ o ∈ os, m0 o = .obj (blk o) ∧ ∃ t cs', h[o]? = some (.cells t cs') := fun o ho => by
    obtain ⟨i, hi⟩ := List.mem_iff_getElem?.1 ho
    have hlt : i < cs.length := by rw [hcl]; exact (List.getElem?_eq_some_iff.1 hi).1
    obtain ⟨⟨t, c⟩, hc⟩ : ∃ x, cs[i]? = some x := ⟨_, List.getElem?_eq_getElem hlt⟩
    obtain ⟨cs', h1, _⟩ := hcg i o t c hi hc
    obtain ⟨b, cur, h3, _⟩ := sim.ob o t cs' h1
    exact ⟨by rw [h3, hblk o b h3], t, cs', h1⟩
  have hgv := look_rd hr.rd (Tags.nil a) hg
  have hge : a.eval g = .func (.func f) #[] ((os.map blk).map fun b => Value.pointer (some ⟨b, 0, none⟩)).toArray := by
    generalize a.eval g = v at hgv
    cases hgv with
    | @fn _ vs _ hl =>
      have : ∀ (os : List Nat) (vs : List Value), (∀ o ∈ os, m0 o = .obj (blk o)) → RdSL w F0 m0 vs (os.map fun o => .ptr o 0) → vs = (os.map blk).map fun b => Value.pointer (some ⟨b, 0, none⟩) := by
        intro os
        induction os with
        | nil => intro vs _ hl; cases hl; rfl
        | cons o os ih =>
          intro vs ho hl
          cases hl with
          | cons h1 h2 =>
            cases h1 with
            | ptr hm =>
              have h3 := ho o (by simp)
              rw [hm] at h3
              simp only [Pl.obj.injEq] at h3
              rw [ih _ (fun o' ho' => ho o' (List.mem_cons_of_mem _ ho')) h2, h3]
              rfl
      rw [this os vs (fun o ho => (hobj o ho).1) hl]
  have hbq : (os.map blk).Nodup := List.pairwise_map.2 (List.Pairwise.imp_of_mem (fun {x y} hx hy hne e => hne (sim.inj x y (blk x) (by rw [(hobj x hx).1]; rfl) (by rw [(hobj y hy).1, e]; rfl))) hos)
  have hbF : ∀ b o, F0 b o → b ∉ os.map blk := fun b o hF hb => by
    obtain ⟨i, hi, rfl⟩ := List.mem_map.1 hb
    exact sim.fr i (blk i) o hF (by rw [(hobj i hi).1]; rfl)
  have hbl : ∀ b, b ∈ os.map blk → b < w.heap.size ∧ ∃ i, (m0 i).blk = some b := fun b hb => by
    obtain ⟨i, hi, rfl⟩ := List.mem_map.1 hb
    have : (m0 i).blk = some (blk i) := by rw [(hobj i hi).1]; rfl
    exact ⟨sim.lt i _ this, i, this⟩
  obtain ⟨m1, hm1⟩ : ∃ m1 : Mp, m1 = fun i => bif memb os i then .no else m0 i := ⟨_, rfl⟩
  have m1n : ∀ i, i ∈ os → m1 i = .no := fun i hi => by simp [hm1, memb_iff.2 hi]
  have nmem : ∀ i, i ∉ os → memb os i = false := fun i hi => by
    cases hb : memb os i with
    | false => rfl
    | true => exact absurd (memb_iff.1 hb) hi
  have m1o : ∀ i, i ∉ os → m1 i = m0 i := fun i hi => by simp [hm1, nmem i hi]
  have m1b : ∀ i b, (m1 i).blk = some b → i ∉ os ∧ (m0 i).blk = some b := fun i b hb => by
    by_cases hi : i ∈ os
    · rw [m1n i hi] at hb; cases hb
    · exact ⟨hi, by rwa [m1o i hi] at hb⟩
  have m1h : ∀ i b o, (m1 i).has b o → (m0 i).has b o := fun i b o hb => by
    by_cases hi : i ∈ os
    · rw [m1n i hi] at hb; exact hb.elim
    · rwa [m1o i hi] at hb
  have hl0 : h0.length = h.length := by rw [← hh, hide_length]
  have h0get : ∀ (i : Nat) o, h0[i]? = some o → (i ∈ os ∧ o = .tail) ∨ (i ∉ os ∧ h[i]? = some o) := fun i o hi => by
    rw [← hh, hide_get, Nat.zero_add] at hi
    obtain ⟨o', h1, h2⟩ := Option.map_eq_some_iff.1 hi
    by_cases hm : i ∈ os
    · rw [memb_iff.2 hm] at h2; exact .inl ⟨hm, h2.symm⟩
    · rw [nmem i hm] at h2; exact .inr ⟨hm, by rw [h1]; exact congrArg some h2⟩
  have h0obj : ∀ (i : Nat) o, h0[i]? = some o → o.isO = true → i ∉ os ∧ h[i]? = some o ∧ m0 i = .obj (blk i) ∧ m1 i = .obj (blk i) := fun i o hi ho => by
    rcases h0get i o hi with ⟨_, rfl⟩ | ⟨h1, h2⟩
    · cases ho
    · obtain ⟨b, x, g1, _⟩ := sim.obj i o h2 ho
      have : m0 i = .obj (blk i) := by rw [g1, hblk i b g1]
      exact ⟨h1, h2, this, (m1o i h1).trans this⟩
  have hsame1 : ∀ j, j ∉ os → Same w m0 w m1 j := fun j hj => ⟨m1o j hj, fun _ _ _ => rfl⟩
  have sim1 : Sim blk w F0 m1 (h0 ++ pins 0 h0) := by
    have hget : ∀ (i : Nat) (o : Ob), (h0 ++ pins 0 h0)[i]? = some o → h0[i]? = some o ∨ o ∈ pins 0 h0 := fun i o hi => by
      by_cases hl : i < h0.length
      · rw [List.getElem?_append_left hl] at hi; exact .inl hi
      · rw [List.getElem?_append_right (by omega)] at hi; exact .inr (List.mem_of_getElem? hi)
    refine ⟨sim.fl, fun i b hb => sim.lt i b (m1b i b hb).2, fun i b o hF hb => sim.fr i b o hF (m1h i b o hb), fun i k b hi hk => sim.inj i k b (m1b i b hi).2 (m1b k b hk).2, fun i hi => ?_, fun i o hi ho => ?_, fun i hi b => ?_, fun k i hk => ?_, sim.kn⟩
    · rw [List.length_append, hl0] at hi
      have hf := sim.dom i (by omega)
      by_cases hm : i ∈ os
      · rw [(hobj i hm).1] at hf; cases hf
      · rw [m1o i hm]; exact hf
    · rcases hget i o hi with h1 | h1
      · obtain ⟨g1, g2, g3, g4⟩ := h0obj i o h1 ho
        obtain ⟨b, x, k1, k2, k3⟩ := sim.obj i o g2 ho
        exact ⟨b, x, (m1o i g1).trans k1, k2, k3.keep (Ext.refl _ _) fun j hj _ => hsame1 j ((hlo o (List.mem_of_getElem? h1)).1 j hj)⟩
      · obtain ⟨k, x, _, _, rfl⟩ := pins_mem h1
        cases ho
    · rcases hget i _ hi with h1 | h1
      · rcases h0get i _ h1 with ⟨h2, _⟩ | ⟨h2, h3⟩
        · rw [m1n i h2]; intro h; cases h
        · rw [m1o i h2]; exact sim.tl i h3 b
      · obtain ⟨k, x, _, _, h2⟩ := pins_mem h1
        cases h2
    · rcases hget k _ hk with h1 | h1
      · have hni := (hlo _ (List.mem_of_getElem? h1)).2 i rfl
        rcases h0get k _ h1 with ⟨_, h2⟩ | ⟨_, h3⟩
        · cases h2
        · have h4 := sim.pn k i h3
          rw [m1o i hni, h4, hblk i _ h4]
      · obtain ⟨k', x, g1, g2, g3⟩ := pins_mem h1
        simp only [Nat.zero_add, Ob.pin.injEq] at g3
        subst g3
        exact (h0obj i x g1 g2).2.2.2
  have henv : ∀ (W : World) (F : Fz) (m : Mp) (h' : List Ob), Sim blk W F m h' → Gr w F0 m0 W F m → Keep h0 h' → ∀ t tg s, E1.get t = some (tg, s) → tg = [] ∧ RdS W F m (a.tmps.getD t undef) s ∧ ∀ j ∈ s.ids, j < h0.length := fun W F m h' hs hgr hk t tg s ht => by
    have htg : tg = [] := by subst hE; exact keep_tags ht
    subst htg
    refine ⟨rfl, ?_, fun j hj => ?_⟩
    · have ht' := ht
      rw [← hE] at ht'
      refine (hr.rd t [] s (Env.keep_get ht') (Tags.nil a)).keep hgr.ext fun j hj _ => ?_
      obtain ⟨o, ho, hio⟩ := stab_get hst ht j hj
      obtain ⟨_, _, g3, _⟩ := h0obj j o ho hio
      have hp := pins_has (i := 0) ho hio
      rw [Nat.zero_add] at hp
      obtain ⟨k, hk'⟩ := List.mem_iff_getElem?.1 (hk.pin _ hp)
      exact ⟨(hs.pn k j hk').trans g3.symm, fun b lo hbt => by rw [g3] at hbt; cases hbt⟩
    · obtain ⟨o, ho, _⟩ := stab_get hst ht j hj
      exact (List.getElem?_eq_some_iff.1 ho).1
  obtain ⟨N, hN⟩ : ∃ N : Nat → Prop, N = fun b => b = w.heap.size ∨ b = w.heap.size + 1 ∨ b ∈ os.map blk := ⟨_, rfl⟩
  have hN0 : N w.heap.size := by rw [hN]; exact .inl rfl
  have hNP : ∀ b, b = w.heap.size ∨ b = w.heap.size + 1 ∨ b ∈ os.map blk → N b := fun b hb => by rw [hN]; exact hb
  have hNF : ∀ b, N b → ∀ o, ¬ F0 b o := fun b hb o hF => by
    rw [hN] at hb
    have := sim.fl b o hF
    rcases hb with rfl | rfl | hb
    · omega
    · omega
    · exact hbF b o hF hb
  have hNb : ∀ b, N b → w.heap.size ≤ b ∨ ∃ i, (m0 i).blk = some b := fun b hb => by
    rw [hN] at hb
    rcases hb with rfl | rfl | hb
    · exact .inl (Nat.le_refl _)
    · exact .inl (Nat.le_succ _)
    · exact .inr (hbl b hb).2
  have mkEnd : ∀ (W : World) (F : Fz) (m : Mp) (h' : List Ob), Sim blk W F m h' → Gr w F0 m0 W F m → Nd N W F m → Keep h0 h' → W.heap[w.heap.size]? = some (.deferred (some [])) →
      ∃ m', Rel bs nt W F m' E1 (h'.take h0.length ++ [.mark]) { a with defers := { target := .collected w.heap.size, args := #[] } :: a.defers } ∧ Gr w F0 m0 W F m' := fun W F m h' hs hgr hnd hk hD => by
    obtain ⟨m', hm'⟩ : ∃ m' : Mp, m' = fun i => if i < h0.length then m i else if i = h0.length then .obj w.heap.size else .free := ⟨_, rfl⟩
    have ml : ∀ i, i < h0.length → m' i = m i := fun i hi => by simp [hm', hi]
    have me : m' h0.length = .obj w.heap.size := by simp [hm']
    have mg : ∀ i, h0.length < i → m' i = .free := fun i hi => by simp [hm', show ¬ i < h0.length by omega, show ¬ i = h0.length by omega]
    have hlen : (h'.take h0.length).length = h0.length := by rw [List.length_take]; have := hk.len; omega
    have hget : ∀ {i : Nat} {o : Ob}, (h'.take h0.length ++ [Ob.mark])[i]? = some o → (i < h0.length ∧ h'[i]? = some o) ∨ (i = h0.length ∧ o = .mark) := fun {i o} hi => by
      by_cases hl : i < h0.length
      · rw [List.getElem?_append_left (by omega), List.getElem?_take, if_pos hl] at hi; exact .inl ⟨hl, hi⟩
      · have h1 := (List.getElem?_eq_some_iff.1 hi).1
        rw [List.length_append, hlen] at h1
        simp at h1
        obtain rfl : i = h0.length := by omega
        rw [List.getElem?_append_right (by omega), hlen, Nat.sub_self] at hi
        exact .inr ⟨rfl, (Option.some.inj hi).symm⟩
    have hcase : ∀ {i b}, (m' i).blk = some b → (i < h0.length ∧ (m i).blk = some b) ∨ (i = h0.length ∧ b = w.heap.size) := fun {i b} hi => by
      by_cases hl : i < h0.length
      · rw [ml i hl] at hi; exact .inl ⟨hl, hi⟩
      · by_cases he : i = h0.length
        · subst he; rw [me] at hi; simp only [Pl.blk, Option.some.injEq] at hi; exact .inr ⟨rfl, hi.symm⟩
        · rw [mg i (by omega)] at hi; cases hi
    refine ⟨m', ⟨hr.size, ?_, fun t tg s ht => ?_, ?_⟩, ?_⟩
    · show Dfr W _ _ ({ target := .collected w.heap.size, args := #[] } :: a.defers)
      rw [hdf]
      refine ⟨by simp, fun d hd => ?_⟩
      obtain rfl : d = _ := by simpa using hd
      exact ⟨h0.length, w.heap.size, by rw [List.getElem?_append_right (by omega), hlen, Nat.sub_self]; rfl, me, rfl, hD⟩
    · obtain ⟨rfl, h1, h2⟩ := henv W F m h' hs hgr hk t tg s ht
      exact .inl ⟨Tags.nil _, h1.keep (Ext.refl _ _) fun j hj _ => ⟨ml j (h2 j hj), fun _ _ _ => rfl⟩⟩
    · refine ⟨hs.fl, fun i b hi => ?_, fun i b o hF hh => ?_, fun i k b hi hk' => ?_, fun i hi => ?_, fun i o hi ho => ?_, fun i hi b => ?_, fun k i hi => ?_, hs.kn⟩
      · rcases hcase hi with ⟨_, h1⟩ | ⟨_, rfl⟩
        · exact hs.lt i b h1
        · exact hnd.lt _ hN0
      · have hb := Pl.has_blk hh
        rcases hcase hb with ⟨hl, _⟩ | ⟨_, rfl⟩
        · rw [ml i hl] at hh; exact hs.fr i b o hF hh
        · exact hnd.f0 _ o hN0 hF
      · rcases hcase hi with ⟨_, h1⟩ | ⟨rfl, rfl⟩
        · rcases hcase hk' with ⟨_, h2⟩ | ⟨_, rfl⟩
          · exact hs.inj i k b h1 h2
          · exact absurd h1 (hnd.m0 i _ hN0)
        · rcases hcase hk' with ⟨_, h2⟩ | ⟨rfl, _⟩
          · exact absurd h2 (hnd.m0 k _ hN0)
          · rfl
      · rw [List.length_append, hlen] at hi
        exact mg i (by simp at hi; omega)
      · rcases hget hi with ⟨hl, h1⟩ | ⟨_, rfl⟩
        · obtain ⟨b, x, g1, g2, g3⟩ := hs.obj i o h1 ho
          exact ⟨b, x, (ml i hl).trans g1, g2, g3.keep (Ext.refl _ _) fun j hj _ => ⟨ml j ((hk.low i o hl h1).1 j hj), fun _ _ _ => rfl⟩⟩
        · cases ho
      · rcases hget hi with ⟨hl, h1⟩ | ⟨_, h1⟩
        · rw [ml i hl]; exact hs.tl i h1 b
        · cases h1
      · rcases hget hi with ⟨hl, h1⟩ | ⟨_, h1⟩
        · have hil := (hk.low k _ hl h1).2 i rfl
          rcases h0get k _ (hk.old k i hl h1) with ⟨_, h2⟩ | ⟨_, h3⟩
          · cases h2
          · have h4 := sim.pn k i h3
            rw [ml i hil, hs.pn k i h1, hblk i _ h4]
        · cases h1
    · refine ⟨hgr.os, hgr.tape, hgr.output, hgr.size, hgr.ext, hgr.block, fun i b o hh hb => ?_, hgr.fl⟩
      rcases hcase (Pl.has_blk hh) with ⟨hl, _⟩ | ⟨_, rfl⟩
      · rw [ml i hl] at hh; exact hgr.own i b o hh hb
      · omega
  have hdrop : ∀ (i : Nat) x, xs[i]? = some x → xs.drop i = x :: xs.drop (i + 1) ∧ (xs.drop (i + 1)).length = xs.length - 1 - i := fun i x hx => by
    obtain ⟨hl, hv⟩ := List.getElem?_eq_some_iff.1 hx
    exact ⟨by rw [← hv]; exact List.drop_eq_getElem_cons hl, by rw [List.length_drop]; omega⟩
  refine (wpIn_wide (n := 8)).1 ?_
  refine range_gen 8 (by omega) (gf := f) hge (fun args w' => by
      obtain ⟨body', hb'⟩ := Option.isSome_iff_exists.1 hb
      have hnm' : ¬ fn.name = "runtime.NumGoroutine" := by simpa using hnm
      simp [callFunc, hf, hb', hnm']) (fun b => b ∈ os.map blk) (fun b hb => (hbl b hb).1) xs.length
    (fun i W args => ∃ x, xs[i]? = some x ∧ RdL W F0 args.toList (arg x (xs.length - 1 - i))) (fun i W args ⟨x, _, h2⟩ => by have := h2.length; rw [hal, Array.length_toList] at this; exact this)
    (fun i W => ∃ h' F m, J (xs.drop i) h' ∧ Sim blk W F m h' ∧ Gr w F0 m0 W F m ∧ Nd N W F m)
    (fun i a1 W1 => ∃ E2 h2 F m, W P nt body E2 h2 (fun e E3 h3 => (e = .normal ∧ J (xs.drop (i + 1)) h3) ∨ (e = .ret ∧ X h3)) ∧ Rel blk nt W1 F m E2 h2 a1 ∧ Gr w F0 m0 W1 F m ∧ Nd N W1 F m)
    (fun W => ∃ h' F m, X h' ∧ Sim blk W F m h' ∧ Gr w F0 m0 W F m ∧ Nd N W F m)
    (fun i W b o hb ⟨h', F, m, h1, h2, h3, h4⟩ => by
      have hn := hNP b (.inr hb)
      exact ⟨h', F, m, h1, h2.putObj (fun i => h4.m0 i b hn) (fun o => h4.f0 b o hn), h3.putObj (hNb b hn) (hNF b hn), ⟨h4.m0, h4.f0, fun b hb => by simpa using h4.lt b hb⟩⟩)
    (fun i W W' ⟨h', F, m, h1, h2, h3, h4⟩ hb => by
      have q : Qt W F W' F := ⟨hb.os, hb.tape, hb.output, hb.size, fun _ _ h => h, hb.block, fun _ _ h => .inl h⟩
      exact ⟨h', F, m, h1, q.sim h2, h3.trans (q.gr h2), ⟨h4.m0, h4.f0, fun b hb' => Nat.lt_of_lt_of_le (h4.lt b hb') hb.size⟩⟩)
    (fun i a1 W o ⟨E2, h2, F, m, h1, h3, h4, h5⟩ => by
      have hn := hNP _ (.inr (.inl rfl))
      exact ⟨E2, h2, F, m, h1, h3.putObj (fun i => h5.m0 i _ hn) (fun o => h5.f0 _ o hn), h4.putObj (hNb _ hn) (hNF _ hn), ⟨h5.m0, h5.f0, fun b hb => by simpa using h5.lt b hb⟩⟩)
    (fun W o ⟨h', F, m, h1, h2, h3, h4⟩ => by
      have hn := hNP _ (.inr (.inl rfl))
      exact ⟨h', F, m, h1, h2.putObj (fun i => h4.m0 i _ hn) (fun o => h4.f0 _ o hn), h3.putObj (hNb _ hn) (hNF _ hn), ⟨h4.m0, h4.f0, fun b hb => by simpa using h4.lt b hb⟩⟩)
    ?hit ?h0 ?hassign ?hbody ?hdone ?hstop
  case hit =>
    intro l J' Z hJ' hJb hJg hY W hW hWb
    refine hit w F0 (os.map blk) hbq (by rw [List.length_map, hcl]) (fun i b t c hi hc => ?_) (fun b o hF => ⟨sim.fl b o hF, hbF b o hF⟩) 8 l (by omega) J' Z (fun k W hk => ?_) hJb hJg (fun k W args x hx hj hv => ?_) W hW hWb
    · rw [List.getElem?_map] at hi
      obtain ⟨o, ho, rfl⟩ := Option.map_eq_some_iff.1 hi
      obtain ⟨cs', g1, g2⟩ := hcg i o t c ho hc
      obtain ⟨b, cur, k1, k2, k3, k4⟩ := sim.ob o t cs' g1
      rw [hblk o b k1]
      exact ⟨cur, k2, purL_rd g2 k4 k3⟩
    · obtain ⟨h', F, m, _, _, h3, _⟩ := hJ' k W hk
      exact ⟨fun b o hF => ⟨hF, (h3.ext b o hF).2⟩, h3.size⟩
    · exact hY k W args (List.getElem?_eq_some_iff.1 hx).1 hj ⟨x, hx, hv⟩
  case h0 =>
    intro o
    have q1 : Qt w F0 ((w.alloc (.deferred (some []))).alloc o) F0 := ⟨rfl, rfl, rfl, by simp; omega, fun _ _ h => h, fun b hb => (Below.heap_alloc _ o b (by simp; omega)).trans (Below.heap_alloc w _ b hb), fun _ _ h => .inl h⟩
    have nd1 : Nd N ((w.alloc (.deferred (some []))).alloc o) F0 m1 := by
      refine ⟨fun i b hb hi => ?_, fun b o hb => hNF b hb o, fun b hb => ?_⟩
      · obtain ⟨g1, g2⟩ := m1b i b hi
        have := sim.lt i b g2
        rw [hN] at hb
        rcases hb with rfl | rfl | hb
        · omega
        · omega
        · obtain ⟨o', ho', rfl⟩ := List.mem_map.1 hb
          obtain rfl := sim.inj i o' _ g2 (by rw [(hobj o' ho').1]; rfl)
          exact g1 ho'
      · rw [hN] at hb
        rcases hb with rfl | rfl | hb
        · simp; omega
        · simp
        · have := (hbl b hb).1; simp; omega
    obtain ⟨m2, g1, g2⟩ := hst1 _ F0 m1 (q1.sim sim1)
    have gr1 : Gr w F0 m0 ((w.alloc (.deferred (some []))).alloc o) F0 m1 := ⟨q1.os, q1.tape, q1.output, q1.size, q1.toExt sim1, fun b hb _ => q1.block b hb, fun i b o hi _ => ⟨i, m1h i b o hi⟩, fun b o hF => .inl hF⟩
    exact ⟨h1, F0, m2, by simpa using hJ0, g1, gr1.trans g2, (nd1.step g2).1⟩
  case hassign =>
    rintro l i W args hi ⟨h', F, m, h1, h2, h3, h4⟩ ⟨x, hxi, hv⟩
    obtain ⟨hd, hdl⟩ := hdrop i x hxi
    rw [hd] at h1
    have hW' := hround x _ h' h1
    rw [hdl] at hW'
    have hkp := hJp _ _ h1
    have hrel : Rel blk nt W F m (bindE ps.toList (arg x (xs.length - 1 - i)) E1) h' { tmps := (ps.zip args).foldl (fun t (p, v) => t.setIfInBounds p v) a.tmps, defers := [] } := by
      obtain ⟨e1, e2⟩ := bindE_rel (F := F) (m := m) (w := W) (qs := arg x (xs.length - 1 - i)) (vs := args.toList) (E := E1) (tm := a.tmps) hr.size (fun t tg s ht => ⟨(henv W F m h' h2 h3 hkp t tg s ht).1, (henv W F m h' h2 h3 hkp t tg s ht).2.1⟩)
        (hv.ext fun b o hF => ⟨(h3.ext b o hF).1, rfl⟩) hps
      have et : (ps.zip args).foldl (fun t (p, v) => t.setIfInBounds p v) a.tmps = (ps.toList.zip args.toList).foldl (fun t (p, v) => t.setIfInBounds p v) a.tmps := by rw [← Array.foldl_toList, Array.toList_zip]
      rw [et]
      exact ⟨e1, Dfr.nil, fun t tg s ht => by obtain ⟨rfl, g⟩ := e2 t tg s ht; exact .inl ⟨Tags.nil _, g⟩, h2⟩
    refine wpIn_mono (hW'.inn hpa (fun _ _ hq => by cases hq.1) l _ _ W F m hrel) ?_
    rintro e a1 W1 ⟨E2, h2', F', m', ⟨rfl, hB⟩, hr', hg'⟩
    obtain ⟨n1, n2⟩ := h4.step hg'
    exact ⟨fun b hb => n2 b (hNP b hb), E2, h2', F', m', hB, hr', h3.trans hg', n1⟩
  case hbody =>
    rintro l i a1 W1 hi _ ⟨E2, h2, F, m, hB, hr', h3, h4⟩
    refine wpIn_mono (hB.inn hpb (fun _ _ hq => by rcases hq with hq | hq <;> cases hq.1) l _ a1 W1 F m hr') ?_
    rintro e a2 W2 ⟨E3, h3', F', m', hq, hr2, hg2⟩
    obtain ⟨n1, n2⟩ := h4.step hg2
    refine ⟨fun b hb => n2 b (hNP b hb), ?_⟩
    rcases hq with ⟨rfl, hj⟩ | ⟨rfl, hxh⟩
    · exact .inl ⟨rfl, h3', F', m', hj, hr2.sim, h3.trans hg2, n1⟩
    · exact .inr ⟨rfl, h3', F', m', hxh, hr2.sim, h3.trans hg2, n1⟩
  case hdone =>
    rintro W ⟨h', F, m, h1, h2, h3, h4⟩ hD
    rw [List.drop_eq_nil_of_le (Nat.le_refl _)] at h1
    obtain ⟨m', g1, g2⟩ := mkEnd W F m h' h2 h3 h4 (hJp _ h' h1) hD
    exact ⟨E1, _, F, m', hend h' h1, g1, g2⟩
  case hstop =>
    rintro W ⟨h', F, m, h1, h2, h3, h4⟩ hD
    obtain ⟨m', g1, g2⟩ := mkEnd W F m h' h2 h3 h4 (hXp h' h1) hD
    exact wpIn_ret ⟨E1, _, F, m', hret h' h1, g1, g2⟩
end
end Go.Proofs.YtmjkflppajienaaDoor.R
