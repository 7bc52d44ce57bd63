/- Operations that turn what the call owns: a slice made longer, new things, stores; no condition but the typed premises. -/
import Derived.Test.YtmjkflppajienaaDoorRH
import Derived.Laws.OwnMore
namespace Go.Proofs.YtmjkflppajienaaDoor.R
open Go Go.RowKit
set_option linter.unusedVariables false
set_option linter.unusedSimpArgs false
variable {bs : Nat → Nat}

/-! ### A slice made longer -/
mutual
/-- The spare cells of j forgotten. -/
def strip (j : Nat) : SV → SV
  | .own e n τ xs k => bif Nat.beq k j then .p (.sl n τ xs) else .own e n τ xs k
  | .agg cs => .agg (stripL j cs)
  | .tup cs => .tup (stripL j cs)
  | .fn f cs => .fn f (stripL j cs)
  | .rw e n len k => bif Nat.beq k j then .any else .rw e n len k
  | .bf e xs k => bif Nat.beq k j then .p (.sl 1 .u xs) else .bf e xs k
  | s => s
def stripL (j : Nat) : List SV → List SV
  | [] => []
  | s :: ss => strip j s :: stripL j ss
end
def stripE (j : Nat) : Env → Env
  | [] => []
  | (t, tg, s) :: E => (t, tg, strip j s) :: stripE j E
def stripOb (j : Nat) : Ob → Ob
  | .cells t cs => .cells t (stripL j cs)
  | o => o
def stripO (j : Nat) : List Ob → List Ob
  | [] => []
  | o :: h => stripOb j o :: stripO j h

mutual
theorem RdS.strip {w w' : World} {F F' : Fz} {m m' : Mp} {j : Nat} (k : Ext w F w' F') (hs : ∀ i, i ≠ j → Same w m w' m' i) (hj : ∀ b, m j ≠ .obj b) {v : Value} {s : SV} : RdS w F m v s → RdS w' F' m' v (strip j s)
  | .p h => .p (h.ext k)
  | .own0 (j := i) hm => by
    simp only [R.strip]
    cases hb : Nat.beq i j with
    | true => exact .p (.nil _ _)
    | false => exact .own0 ((hs i (fun e => by rw [e, Nat.beq_refl] at hb; cases hb)).1.trans hm)
  | .owne (j := i) ad hm => by
    simp only [R.strip]
    cases hb : Nat.beq i j with
    | true => exact .p (.emp _ _ _)
    | false => exact .owne ad ((hs i (fun e => by rw [e, Nat.beq_refl] at hb; cases hb)).1.trans hm)
  | .ownx (j := i) hn hr hm => by
    simp only [R.strip]
    cases hb : Nat.beq i j with
    | true => exact .p (.sl hn (Nat.le_refl _) (hr.ext k))
    | false => exact .ownx hn (hr.ext k) ((hs i (fun e => by rw [e, Nat.beq_refl] at hb; cases hb)).1.trans hm)
  | .own (j := i) hn hr hm hb' hc hcm hsz => by
    simp only [R.strip]
    cases hb : Nat.beq i j with
    | true => exact .p (.sl hn hc (hr.ext k))
    | false =>
      have h1 := hs i (fun e => by rw [e, Nat.beq_refl] at hb; cases hb)
      exact .own hn (hr.ext k) (h1.1.trans hm) ((h1.2 _ _ hm).trans hb') hc hcm hsz
  | .ptr (o := i) hm => .ptr ((hs i (fun e => hj _ (e ▸ hm))).1.trans hm)
  | .row (o := i) hm => .row ((hs i (fun e => hj _ (e ▸ hm))).1.trans hm)
  | .padr hr => .padr (hr.ext k)
  | .agg h1 h => .agg h1 (RdSL.strip k hs hj h)
  | .tup h => .tup (RdSL.strip k hs hj h)
  | .fn h => .fn (RdSL.strip k hs hj h)
  | .np0 => .np0
  | .np1 (o := i) hm => .np1 ((hs i (fun e => hj _ (e ▸ hm))).1.trans hm)
  | .mo (o := i) hm => .mo ((hs i (fun e => hj _ (e ▸ hm))).1.trans hm)
  | .rp (o := i) hm => .rp ((hs i (fun e => hj _ (e ▸ hm))).1.trans hm)
  | .any v => .any v
  | .bf0 (j := i) hm => by
    simp only [R.strip]
    cases hb : Nat.beq i j with
    | true => exact .p (.nil _ _)
    | false => exact .bf0 ((hs i (fun e => by rw [e, Nat.beq_refl] at hb; cases hb)).1.trans hm)
  | .bf (j := i) hr hm hb' hc hcm hsz => by
    simp only [R.strip]
    cases hb : Nat.beq i j with
    | true => exact .p (.sl (fun x hx => by obtain ⟨y, _, rfl⟩ := List.mem_map.1 hx; rfl) hc (hr.ext k))
    | false =>
      have h1 := hs i (fun e => by rw [e, Nat.beq_refl] at hb; cases hb)
      exact .bf (hr.ext k) (h1.1.trans hm) ((h1.2 _ _ hm).trans hb') hc hcm hsz
  | .rw (j := i) hm hb' hc hcm hsz => by
    simp only [R.strip]
    cases hb : Nat.beq i j with
    | true => exact .any _
    | false =>
      have h1 := hs i (fun e => by rw [e, Nat.beq_refl] at hb; cases hb)
      exact .rw (h1.1.trans hm) ((h1.2 _ _ hm).trans hb') hc hcm hsz
theorem RdSL.strip {w w' : World} {F F' : Fz} {m m' : Mp} {j : Nat} (k : Ext w F w' F') (hs : ∀ i, i ≠ j → Same w m w' m' i) (hj : ∀ b, m j ≠ .obj b) {vs : List Value} {ss : List SV} : RdSL w F m vs ss → RdSL w' F' m' vs (stripL j ss)
  | .nil => .nil
  | .cons h ht => .cons (RdS.strip k hs hj h) (RdSL.strip k hs hj ht)
end

theorem stripE_get {j : Nat} : ∀ {E : Env} {t : Nat} {tg : Tg} {s : SV}, (stripE j E).get t = some (tg, s) → ∃ s', E.get t = some (tg, s') ∧ s = strip j s'
  | [], t, tg, s, h => by simp [stripE, Env.get] at h
  | (u, tg', s') :: E, t, tg, s, h => by
    simp only [stripE, Env.get] at h ⊢
    cases hb : Nat.beq u t with
    | true => rw [hb] at h; simp only [cond_true, Option.some.injEq, Prod.mk.injEq] at h ⊢; exact ⟨s', ⟨h.1, rfl⟩, h.2.symm⟩
    | false => rw [hb] at h; exact stripE_get h
theorem stripE_free {j d : Nat} : ∀ {E : Env}, Env.free d E = true → Env.free d (stripE j E) = true
  | [], _ => rfl
  | (u, tg, s) :: E, h => by simp only [Env.free, stripE, Bool.and_eq_true] at h ⊢; exact ⟨h.1, stripE_free h.2⟩
theorem stripO_eq {j : Nat} : ∀ {h : List Ob}, stripO j h = h.map (stripOb j)
  | [] => rfl
  | o :: h => by simp [stripO, stripO_eq (h := h)]
theorem stripO_length {j : Nat} {h : List Ob} : (stripO j h).length = h.length := by simp [stripO_eq]
theorem stripO_get {j : Nat} {h : List Ob} {i : Nat} {o : Ob} (hi : (stripO j h)[i]? = some o) : ∃ o', h[i]? = some o' ∧ o = stripOb j o' := by
  rw [stripO_eq, List.getElem?_map] at hi
  obtain ⟨o', h1, h2⟩ := Option.map_eq_some_iff.1 hi
  exact ⟨o', h1, h2.symm⟩
theorem stripO_mark {j : Nat} {h : List Ob} {i : Nat} (hi : h[i]? = some .mark) : (stripO j h)[i]? = some .mark := by
  rw [stripO_eq, List.getElem?_map, hi]; rfl
theorem stripO_pin {j a : Nat} {h : List Ob} {i : Nat} (hi : (stripO j h)[i]? = some (.pin a)) : h[i]? = some (.pin a) := by
  obtain ⟨o', h1, h2⟩ := stripO_get hi
  cases o' <;> simp [stripOb] at h2
  obtain ⟨rfl, rfl⟩ := h2
  exact h1
theorem stripO_tail {j : Nat} {h : List Ob} {i : Nat} (hi : (stripO j h)[i]? = some .tail) : h[i]? = some .tail := by
  obtain ⟨o', h1, h2⟩ := stripO_get hi
  cases o' <;> simp [stripOb] at h2
  exact h1
theorem RdO.strip {w w' : World} {F F' : Fz} {m m' : Mp} {j : Nat} (k : Ext w F w' F') (hs : ∀ i, i ≠ j → Same w m w' m' i) (hj : ∀ b, m j ≠ .obj b) {x : Obj} {o : Ob} (h : RdO w F m x o) : RdO w' F' m' x (stripOb j o) := by
  cases h with
  | cells h h1 => exact .cells (h.strip k hs hj) h1
  | row h hn => exact .row (h.ext k) hn
  | map h hb => exact .map (h.ext k) hb

theorem peek_row {w : World} {bl b o e : Nat} {cur cur' : Array Value} (hb : w.heap[bl]? = some (.cells cur e (0, 0))) (hc : (w.setRow bl cur').cell? ⟨b, o, none⟩ = w.cell? ⟨b, o, none⟩) : peek (w.setRow bl cur') b o = peek w b o := by
  have hm : mapAt (w.setRow bl cur') b = mapAt w b := by
    by_cases h : b = bl
    · subst h; simp only [mapAt, setRow_heap w b cur cur' e _ hb, hb]
    · simp only [mapAt, setRow_other w bl b cur' h]
  simp only [peek, hc, hm]

/-- One place told anew. -/
def upd (m : Mp) (j : Nat) (p : Pl) : Mp := fun i => bif Nat.beq i j then p else m i
theorem upd_same {m : Mp} {j : Nat} {p : Pl} : upd m j p j = p := by simp [upd, Nat.beq_refl]
theorem upd_other {m : Mp} {j i : Nat} {p : Pl} (h : i ≠ j) : upd m j p i = m i := by simp [upd, beq_ne h]

/-- What becomes of memory where the spare cells of j are written, or left for others. -/
structure Tk (w : World) (F : Fz) (m : Mp) (j : Nat) (w' : World) (F' : Fz) (p : Pl) : Prop where
  os : w'.os = w.os
  tape : w'.tape = w.tape
  output : w'.output = w.output
  size : w.heap.size ≤ w'.heap.size
  ext : Ext w F w' F'
  block : ∀ b, b < w.heap.size → (m j).blk ≠ some b → w'.heap[b]? = w.heap[b]?
  fl : ∀ b o, F' b o → F b o ∨ (w.heap.size ≤ b ∧ b < w'.heap.size) ∨ (m j).has b o
  pl : ∀ b o, p.has b o → (w.heap.size ≤ b ∧ b < w'.heap.size) ∨ (m j).has b o
  fr : ∀ b o, F' b o → ¬ p.has b o
  no : ∀ b, p ≠ .obj b

section
variable {nt : Nat} {E : Env} {h : List Ob}

theorem Rel.retok {w w' : World} {F F' : Fz} {m : Mp} {a : Act} {j d : Nat} {p : Pl} {s : SV} {v : Value} (hr : Rel bs nt w F m E h a) (hj : ∀ b, m j ≠ .obj b) (hlt : j < h.length) (hd : dstOk nt E [] (some d) = true)
    (k : Tk w F m j w' F' p) (hv : RdS w' F' (upd m j p) v s) :
    Rel bs nt w' F' (upd m j p) ((d, [], s) :: stripE j E) (stripO j h) (a.put (some d) v) ∧ Gr w F m w' F' (upd m j p) := by
  simp only [dstOk, Bool.and_eq_true] at hd
  obtain ⟨⟨hd1, hd2⟩, hd3⟩ := hd
  have hdlt : d < nt := of_blt hd1
  have sim := hr.sim
  have hsame : ∀ i, i ≠ j → Same w m w' (upd m j p) i := fun i hi => ⟨upd_other hi, fun b lo hb => k.block b (sim.lt i b (by simp [hb, Pl.blk])) fun e => hi (sim.inj i j b (by simp [hb, Pl.blk]) e)⟩
  have hext := k.ext
  have hdf : Dfr w' (upd m j p) (stripO j h) (a.put (some d) v).defers := hr.defers.same fun i D h1 h2 h3 _ => by
    have hij : i ≠ j := by rintro rfl; exact hj D h2
    exact ⟨stripO_mark h1, (upd_other hij).trans h2, k.block D h3 fun e => hij (sim.inj i j D (by simp [h2, Pl.blk]) e)⟩
  refine ⟨⟨by simp [Act.put, hr.size], hdf, fun t tg' s' ht => ?_, ?_⟩, ⟨k.os, k.tape, k.output, k.size, hext, fun b hb hm => k.block b hb (hm j), fun i b o hh hb => ?_, fun b o hF => ?_⟩⟩
  · simp only [Env.get] at ht
    cases hb : Nat.beq d t with
    | true =>
      rw [hb] at ht
      simp only [cond_true, Option.some.injEq, Prod.mk.injEq] at ht
      obtain ⟨rfl, rfl⟩ := ht
      obtain rfl := Nat.eq_of_beq_eq_true hb
      exact .inl ⟨Tags.nil _, by rw [put_getD_same (by rw [hr.size]; exact hdlt)]; exact hv⟩
    | false =>
      rw [hb] at ht
      simp only [cond_false] at ht
      have hne : t ≠ d := by rintro rfl; simp [Nat.beq_refl] at hb
      obtain ⟨s'', h1, rfl⟩ := stripE_get ht
      rw [put_getD hne, tags_put (Env.free_get hd2 h1)]
      exact (hr.env t tg' s'' h1).imp (fun h => ⟨h.1, h.2.strip hext hsame hj⟩) id
  · refine ⟨fun b o hF => ?_, fun i b hi => ?_, fun i b o hF hh => ?_, fun i i' b hi hi' => ?_, fun i hi => ?_, fun i o hi ho => ?_, fun i hi b => ?_, fun k' i hi => (upd_other (by rintro rfl; exact hj _ (sim.pn _ _ (stripO_pin hi)))).trans (sim.pn k' i (stripO_pin hi)), hext.kn sim.kn⟩
    · rcases k.fl b o hF with h1 | h1 | h1
      · exact Nat.lt_of_lt_of_le (sim.fl b o h1) k.size
      · exact h1.2
      · exact Nat.lt_of_lt_of_le (sim.lt j b (Pl.has_blk h1)) k.size
    · by_cases hij : i = j
      · subst hij
        rw [upd_same] at hi
        obtain ⟨o, ho⟩ := Pl.blk_has hi
        rcases k.pl b o ho with h1 | h1
        · exact h1.2
        · exact Nat.lt_of_lt_of_le (sim.lt i b (Pl.has_blk h1)) k.size
      · rw [upd_other hij] at hi
        exact Nat.lt_of_lt_of_le (sim.lt i b hi) k.size
    · by_cases hij : i = j
      · subst hij
        rw [upd_same] at hh
        exact k.fr b o hF hh
      · rw [upd_other hij] at hh
        rcases k.fl b o hF with h1 | h1 | h1
        · exact sim.fr i b o h1 hh
        · have := sim.lt i b (Pl.has_blk hh); omega
        · exact hij (sim.inj i j b (Pl.has_blk hh) (Pl.has_blk h1))
    · have key : ∀ i, i ≠ j → (m i).blk = some b → p.blk = some b → False := by
        intro i hi h1 h2
        obtain ⟨o, ho⟩ := Pl.blk_has h2
        rcases k.pl b o ho with h3 | h3
        · have := sim.lt i b h1; omega
        · exact hi (sim.inj i j b h1 (Pl.has_blk h3))
      by_cases hij : i = j
      · by_cases hij' : i' = j
        · rw [hij, hij']
        · subst hij
          rw [upd_same] at hi
          rw [upd_other hij'] at hi'
          exact (key i' hij' hi' hi).elim
      · by_cases hij' : i' = j
        · subst hij'
          rw [upd_same] at hi'
          rw [upd_other hij] at hi
          exact (key i hij hi hi').elim
        · rw [upd_other hij] at hi
          rw [upd_other hij'] at hi'
          exact sim.inj i i' b hi hi'
    · rw [stripO_length] at hi
      rw [upd_other (by omega)]
      exact sim.dom i hi
    · obtain ⟨o', h1, rfl⟩ := stripO_get hi
      obtain ⟨b, x, g1, g2, g3⟩ := sim.obj i o' h1 (by cases o' <;> first | rfl | exact ho)
      have hij : i ≠ j := by rintro rfl; exact hj b g1
      refine ⟨b, x, by rw [upd_other hij]; exact g1, ?_, g3.strip hext hsame hj⟩
      rw [k.block b (sim.lt i b (by simp [g1, Pl.blk])) (fun e => hij (sim.inj i j b (by simp [g1, Pl.blk]) e))]
      exact g2
    · have h1 := stripO_tail hi
      by_cases hij : i = j
      · subst hij; rw [upd_same]; exact k.no b
      · rw [upd_other hij]; exact sim.tl i h1 b
  · by_cases hij : i = j
    · subst hij
      rw [upd_same] at hh
      rcases k.pl b o hh with h1 | h1
      · omega
      · exact ⟨i, h1⟩
    · rw [upd_other hij] at hh; exact ⟨i, hh⟩
  · rcases k.fl b o hF with h1 | h1 | h1
    · exact .inl h1
    · exact .inr (.inl h1.1)
    · exact .inr (.inr ⟨j, h1⟩)
end

section
variable {P : Program} {T : Tab}

theorem append_types {t u ty e e' : Nat} {v x : Value} {w : World} (ht : P.underlying t = some (.slice e)) (hu : P.underlying u = some (.slice e')) :
    (Builtin.append_ #[t, u] ty #[v, x]).run P w = (Builtin.append_ #[t, t] ty #[v, x]).run P w := by
  cases v <;> simp [Builtin.append_, run_underlying ht, run_underlying hu]

theorem flat_length {n : Nat} : ∀ {xs : List PV}, (∀ x ∈ xs, x.cells.length = n) → (xs.flatMap PV.cells).length = xs.length * n
  | [], _ => by simp
  | x :: xs, h => by rw [List.flatMap_cons, List.length_append, h x (by simp), flat_length (fun y hy => h y (by simp [hy])), List.length_cons, Nat.succ_mul, Nat.add_comm]

/-- What append does to memory, and what it yields. -/
theorem append_tk (hT : TOk P T) {t ty e : Nat} {ei : TI} (ht : P.underlying t = some (.slice e)) (he : T e = some ei) {w : World} {F : Fz} {m : Mp} {h : List Ob} (sim : Sim bs w F m h) {v x : Value} {τ : Ty} {xs ys : List τ.den} {j : Nat}
    (hv : RdS w F m v (.own e ei.size τ xs j)) (hx : Rd w F x (.sl ei.size τ ys)) (hb0 : 0 < ei.bytes) (hb : (xs.length + ys.length) * ei.bytes ≤ 140737488355328) :
    ∃ v' w' F' p, (Builtin.append_ #[t, t] ty #[v, x]).run P w = .ok v' w' ∧ Tk w F m j w' F' p ∧ RdS w' F' (upd m j p) v' (.own e ei.size τ (xs ++ ys) j) := by
  obtain ⟨inf, z, hi, hi1, hi2, hz, hzc⟩ := (hT e ei he).zeros
  have hmax : xs.length + ys.length ≤ 140737488355328 := by
    have : (xs.length + ys.length) * 1 ≤ (xs.length + ys.length) * ei.bytes := Nat.mul_le_mul_left _ hb0
    omega
  -- nothing is added
  have still : ys = [] → (Builtin.append_ #[t, t] ty #[v, x]).run P w = .ok v w → ∃ v' w' F' p, (Builtin.append_ #[t, t] ty #[v, x]).run P w = .ok v' w' ∧ Tk w F m j w' F' p ∧ RdS w' F' (upd m j p) v' (.own e ei.size τ (xs ++ ys) j) := by
    rintro rfl hr
    have hno : ∀ b, m j ≠ .obj b := by
      intro b hbo
      cases hv with
      | own0 hm => rw [hm] at hbo; cases hbo
      | owne ad hm => rw [hm] at hbo; cases hbo
      | ownx hn hr hm => rw [hm] at hbo; cases hbo
      | own hn hr hm => rw [hm] at hbo; cases hbo
    refine ⟨v, w, F, m j, hr, ⟨rfl, rfl, rfl, Nat.le_refl _, Ext.refl w F, fun _ _ _ => rfl, fun b o h => .inl h, fun b o h => .inr h, fun b o hF => sim.fr j b o hF, hno⟩, ?_⟩
    rw [List.append_nil]
    refine hv.keep (Ext.refl w F) fun i hi _ => ⟨?_, fun _ _ _ => rfl⟩
    simp only [SV.ids, List.mem_singleton] at hi
    subst hi
    exact upd_same
  -- the new ones' cells
  cases hx with
  | nil nn =>
    refine still rfl ?_
    cases hv with
    | own0 hm => simp [Builtin.append_, run_underlying ht, sizeOf, typeInfo, hi, Builtin.lenOf, Builtin.firstCells]
    | owne ad hm => simp [Builtin.append_, run_underlying ht, sizeOf, typeInfo, hi, Builtin.lenOf, Builtin.firstCells, storeCells]
    | ownx hn hr hm => simp [Builtin.append_, run_underlying ht, sizeOf, typeInfo, hi, Builtin.lenOf, Builtin.firstCells, storeCells]
    | own hn hr hm hb' hc hcm hsz => simp [Builtin.append_, run_underlying ht, sizeOf, typeInfo, hi, Builtin.lenOf, Builtin.firstCells, storeCells, hc]
  | emp ad nn =>
    refine still rfl ?_
    have hf0 := run_firstCells_some (P := P) w inf.size 0 ad 0 0 [] (by simp) (by simp)
    cases hv with
    | own0 hm => simp [Builtin.append_, run_underlying ht, sizeOf, typeInfo, hi, Builtin.lenOf, hf0]
    | owne ad' hm => simp [Builtin.append_, run_underlying ht, sizeOf, typeInfo, hi, Builtin.lenOf, hf0, storeCells]
    | ownx hn hr hm => simp [Builtin.append_, run_underlying ht, sizeOf, typeInfo, hi, Builtin.lenOf, hf0, storeCells]
    | own hn hr hm hb' hc hcm hsz => simp [Builtin.append_, run_underlying ht, sizeOf, typeInfo, hi, Builtin.lenOf, hf0, storeCells, hc]
  | @sl bx ox cx _ _ _ hny hcy hry =>
    obtain ⟨news, hl, hcells, hnews⟩ := hry.vals
    have hnl : news.length = ys.length * inf.size := by rw [hl, flat_length hny, hi1, List.length_map]
    have hn1 := hnews.one
    by_cases hy0 : ys = []
    · refine still hy0 ?_
      subst hy0
      have hf0 := run_firstCells_some (P := P) w inf.size 0 (⟨bx, ox, none⟩ : Addr) 0 cx [] (by simp) (by simp)
      cases hv with
      | own0 hm => simp [Builtin.append_, run_underlying ht, sizeOf, typeInfo, hi, Builtin.lenOf, hf0]
      | owne ad' hm => simp [Builtin.append_, run_underlying ht, sizeOf, typeInfo, hi, Builtin.lenOf, hf0, storeCells]
      | ownx hn hr hm => simp [Builtin.append_, run_underlying ht, sizeOf, typeInfo, hi, Builtin.lenOf, hf0, storeCells]
      | own hn hr hm hb' hc hcm hsz => simp [Builtin.append_, run_underlying ht, sizeOf, typeInfo, hi, Builtin.lenOf, hf0, storeCells, hc]
    · have hyp : 0 < ys.length := List.length_pos_iff.2 hy0
      have hcn : ∀ k u, news[k]? = some u → w.cell? ((⟨bx, ox, none⟩ : Addr).add k) = some u := fun k u hk => by rw [Addr.add_lit]; exact hcells k u hk
      have hn' : (∀ x ∈ xs.map τ.enc, x.cells.length = ei.size) → ∀ q ∈ (xs ++ ys).map τ.enc, q.cells.length = ei.size := fun hn q hq => by
        rw [List.map_append] at hq
        rcases List.mem_append.1 hq with h | h
        · exact hn q h
        · exact hny q h
      have hlen : (xs ++ ys).length = xs.length + ys.length := by simp
      -- the slice grows into a new block
      have grow : ∀ (cap : Nat) (olds : List Value), (∀ x ∈ xs.map τ.enc, x.cells.length = ei.size) → RdL w F olds ((xs.map τ.enc).flatMap PV.cells) →
          (Builtin.append_ #[t, t] ty #[v, .slice (some ⟨bx, ox, none⟩) ys.length cx]).run P w = .ok (.slice (some ⟨w.heap.size, 0, none⟩) (xs ++ ys).length (grownCap w (xs ++ ys).length cap e))
            (w.drew.alloc (.cells (olds.toArray ++ news.toArray ++ Builtin.zeroCells z.cells (grownCap w (xs ++ ys).length cap e - (xs ++ ys).length)) e)) →
          ∃ v' w' F' p, (Builtin.append_ #[t, t] ty #[v, .slice (some ⟨bx, ox, none⟩) ys.length cx]).run P w = .ok v' w' ∧ Tk w F m j w' F' p ∧ RdS w' F' (upd m j p) v' (.own e ei.size τ (xs ++ ys) j) := by
        intro cap olds hn holds hrun
        have hol : olds.length = xs.length * ei.size := by rw [holds.length, flat_length hn, List.length_map]
        have hge := grownCap_ge w (xs ++ ys).length cap e
        have hcm : grownCap w (xs ++ ys).length cap e ≤ maxLen := grownCap_le_maxLen w _ cap e (by simp only [maxLen]; omega)
        have ext : Ext w F (w.drew.alloc (.cells (olds.toArray ++ news.toArray ++ Builtin.zeroCells z.cells (grownCap w (xs ++ ys).length cap e - (xs ++ ys).length)) e))
            (fun b i => F b i ∨ (b = w.heap.size ∧ i < (xs ++ ys).length * ei.size)) := fun b i h => ⟨.inl h, cell_of_heap (Below.heap_alloc w.drew _ b (sim.fl b i h))⟩
        refine ⟨_, _, fun b i => F b i ∨ (b = w.heap.size ∧ i < (xs ++ ys).length * ei.size), .tail w.heap.size ((xs ++ ys).length * ei.size), hrun,
          ⟨rfl, rfl, rfl, by simp, ext, fun b hb _ => Below.heap_alloc w.drew _ b hb, fun b o hF => ?_, fun b o hh => ?_, fun b o hF hh => ?_, fun b h => by cases h⟩, ?_⟩
        · rcases hF with h | ⟨rfl, h⟩
          · exact .inl h
          · exact .inr (.inl ⟨Nat.le_refl _, by simp⟩)
        · obtain ⟨rfl, _⟩ := hh
          exact .inl ⟨Nat.le_refl _, by simp⟩
        · obtain ⟨rfl, hh⟩ := hh
          rcases hF with h | ⟨_, h⟩
          · exact absurd (sim.fl _ _ h) (Nat.lt_irrefl _)
          · omega
        · refine .own (hn' hn) ?_ upd_same (heap_alloc_new w.drew _) hge hcm ?_
          · rw [List.map_append, List.flatMap_append]
            refine RdC.of_vals (vs := olds ++ news) (((holds.append hnews)).ext ext) (fun k u hk => ?_) fun k hk => .inr ⟨rfl, ?_⟩
            · rw [Nat.zero_add]
              rw [show w.heap.size = w.drew.heap.size from rfl, World.cell?_alloc_new]
              have hlt := (List.getElem?_eq_some_iff.1 hk).1
              rw [Array.getElem?_append_left (by simpa using hlt)]
              simpa using hk
            · rw [List.length_append, flat_length hn, flat_length hny, List.length_map, List.length_map] at hk
              rw [Nat.zero_add, hlen, Nat.add_mul]
              exact hk
          · have hzs : z.cells.size = ei.size := by
              have := congrArg List.length hzc
              have h2 := Nat.eq_of_beq_eq_true (hT e ei he).zl
              simp at this
              omega
            simp only [Array.size_append, List.size_toArray, size_zeroCells, hol, hnl, hi1, hzs, ← Nat.add_mul]
            congr 1
            omega
      cases hv with
      | own0 hm =>
        refine grow 0 [] (by simp) .nil ?_
        have := run_append_nil (P := P) w t ty e inf z ht hi hz ⟨bx, ox, none⟩ ys.length cx news hnl hcn hyp (by omega) (by
          rw [hi2]; simp only [List.length_nil, Nat.zero_add] at hb; omega)
        simpa using this
      | owne ad hm =>
        refine grow 0 [] (by simp) .nil ?_
        rw [hlen]
        exact run_append_grow (P := P) w t ty e inf z ht hi hz ad 0 0 [] (by simp) (fun k u hk => by simp at hk) ⟨bx, ox, none⟩ ys.length cx news hnl hcn (by omega) (by omega)
          (growslice_fits (by omega) (by rw [hi2]; simpa using hb))
      | ownx hn hr hm =>
        obtain ⟨olds, g1, g2, g3⟩ := hr.vals
        refine grow xs.length olds hn g3 ?_
        rw [hlen]
        exact run_append_grow (P := P) w t ty e inf z ht hi hz _ xs.length xs.length olds (by rw [g1, flat_length hn, hi1, List.length_map]) (fun k u hk => by rw [Addr.add_lit]; exact g2 k u hk) ⟨bx, ox, none⟩ ys.length cx news hnl hcn (by omega) (by omega)
          (growslice_fits (by omega) (by rw [hi2]; exact hb))
      | @own _ _ _ b cap cur _ _ hn hr hm hb' hc hcm hsz =>
        obtain ⟨olds, g1, g2, g3⟩ := hr.vals
        by_cases hroom : xs.length + ys.length ≤ cap
        · have hrun := run_append_room (P := P) w t ty e inf ht hi b xs.length cap cur hb' ⟨bx, ox, none⟩ ys.length cx news hnl hcn hn1 hroom (by
            rw [hnl, hi1, hsz, ← Nat.add_mul]; exact Nat.mul_le_mul_right _ hroom)
          have hfit : (xs.length + ys.length) * ei.size ≤ cur.size := by rw [hsz]; exact Nat.mul_le_mul_right _ hroom
          have hfit' : xs.length * ei.size + ys.length * ei.size ≤ cur.size := by rwa [Nat.add_mul] at hfit
          have holl : olds.length = xs.length * ei.size := by rw [g1, flat_length hn, List.length_map]
          have hnll : news.length = ys.length * ei.size := by rw [hnl, hi1]
          -- the cells ahead are as they were
          have hold : ∀ o, o < xs.length * ei.size → (cur.toList.take (xs.length * ei.size) ++ news ++ cur.toList.drop (xs.length * ei.size + news.length)).toArray[o]? = cur[o]? := by
            intro o ho
            rw [List.getElem?_toArray, List.append_assoc, List.getElem?_append_left (by simp; omega), List.getElem?_take_of_lt ho]
            simp
          have hFo : ∀ o, F b o → o < xs.length * ei.size := fun o hF => by
            have := sim.fr j b o hF
            rw [hm] at this
            exact Nat.lt_of_not_le fun h => this ⟨rfl, h⟩
          rw [hi1] at hrun
          have ext : Ext w F (w.setRow b (cur.toList.take (xs.length * ei.size) ++ news ++ cur.toList.drop (xs.length * ei.size + news.length)).toArray)
              (fun b' i => F b' i ∨ (b' = b ∧ xs.length * ei.size ≤ i ∧ i < (xs ++ ys).length * ei.size)) := fun b' i h => ⟨.inl h, peek_row hb' (by
            by_cases hbb : b' = b
            · subst hbb
              rw [cell_setRow_same w b' i cur _ e (0, 0) hb', hold i (hFo i h), cell_of_row w b' i cur e (0, 0) hb']
            · exact cell_setRow_other w b _ _ hbb)⟩
          rw [← hlen] at hrun
          refine ⟨_, _, fun b' i => F b' i ∨ (b' = b ∧ xs.length * ei.size ≤ i ∧ i < (xs ++ ys).length * ei.size), .tail b ((xs ++ ys).length * ei.size), hrun,
            ⟨rfl, rfl, rfl, by simp, ext, fun b' hb _ => setRow_other w b b' _ (by rintro rfl; simp [hm, Pl.blk] at *), fun b' o hF => ?_, fun b' o hh => ?_, fun b' o hF hh => ?_, fun b h => by cases h⟩, ?_⟩
          · rcases hF with h | ⟨rfl, h, _⟩
            · exact .inl h
            · rw [hm]; exact .inr (.inr ⟨rfl, h⟩)
          · obtain ⟨rfl, hh⟩ := hh
            rw [hm]
            exact .inr ⟨rfl, by rw [hlen, Nat.add_mul] at hh; omega⟩
          · obtain ⟨rfl, hh⟩ := hh
            rcases hF with h | ⟨_, _, h⟩
            · have := hFo o h; rw [hlen, Nat.add_mul] at hh; omega
            · omega
          · refine .own (hn' hn) ?_ upd_same (setRow_heap w b cur _ e _ hb') (by rw [hlen]; exact hroom) hcm ?_
            · rw [List.map_append, List.flatMap_append]
              refine RdC.append ?_ ?_
              · exact hr.ext ext
              · rw [Nat.zero_add, flat_length hn, List.length_map]
                refine RdC.of_vals (vs := news) (hnews.ext ext) (fun k u hk => ?_) fun k hk => .inr ⟨rfl, by omega, ?_⟩
                · rw [cell_setRow_same w b _ cur _ e (0, 0) hb', List.getElem?_toArray]
                  have hlt := (List.getElem?_eq_some_iff.1 hk).1
                  have htl : (cur.toList.take (xs.length * ei.size)).length = xs.length * ei.size := by simp; omega
                  rw [List.append_assoc, List.getElem?_append_right (by omega), htl, Nat.add_sub_cancel_left, List.getElem?_append_left hlt]
                  exact hk
                · rw [flat_length hny, List.length_map] at hk
                  rw [hlen, Nat.add_mul]
                  omega
            · simp only [List.size_toArray, List.length_append, List.length_take, List.length_drop, Array.length_toList]
              rw [← hsz]
              omega
        · refine grow cap olds hn g3 ?_
          rw [hlen]
          exact run_append_grow (P := P) w t ty e inf z ht hi hz _ xs.length cap olds (by rw [g1, flat_length hn, hi1, List.length_map]) (fun k u hk => by rw [Addr.add_lit]; exact g2 k u hk) ⟨bx, ox, none⟩ ys.length cx news hnl hcn (by omega) (by omega)
            (growslice_fits (by omega) (by rw [hi2]; exact hb))

/-- A slice that the call owns, made longer. -/
theorem WL_append (hT : TOk P T) {nt i j d e : Nat} {ops : Array Oper} {E E1 : Env} {h h1 : List Ob} {Q : Exit → Env → List Ob → Prop} {o : Oper} {c : Call} {x y : Operand} {t u e' : Nat} {ei : TI} {τ : Ty} {xs ys : List τ.den} {sy : SV}
    (hW : WL P nt ops (i + 1) E1 h1 Q)
    (hoi : ops[i]? = some o) (hg : o.guard = none) (ho : o.op = .call c) (hc : c.callee = .builtin .append) (ha : c.args.toList = [x, y]) (hts : c.argTypes.toList = [t, u]) (hd : o.dst = some d)
    (hk : kOf T t = .sl e) (hk' : kOf T u = .sl e') (he : T e = some ei) (hok : dstOk nt E [] (some d) = true) (hx : look E [] x = some (.own e ei.size τ xs j)) (hy : look E [] y = some sy) (hq : pur sy = some (.sl ei.size τ ys))
    (hj : Nat.blt j h.length = true) (hb0 : Nat.blt 0 ei.bytes = true) (hE : (d, [], SV.own e ei.size τ (xs ++ ys) j) :: stripE j E = E1) (hh : stripO j h = h1)
    (hb : (xs.length + ys.length) * ei.bytes ≤ 140737488355328) : WL P nt ops i E h Q := by
  refine WL_op hoi hg fun a w F m hr N Q hN => ?_
  have hO := hr.opd (Tags.nil a) o
  obtain ⟨ti, hti, htk⟩ := kOf_ti (T := T) (t := t) (by rw [hk]; simp)
  have ht := (hT t ti hti).slice (htk.trans hk)
  obtain ⟨ui, hui, huk⟩ := kOf_ti (T := T) (t := u) (by rw [hk']; simp)
  have hu := (hT u ui hui).slice (huk.trans hk')
  have hmx : x ∈ o.op.operands := by rw [ho]; exact Array.mem_append.2 (.inr (Array.mem_toList_iff.1 (by rw [ha]; simp)))
  have hmy : y ∈ o.op.operands := by rw [ho]; exact Array.mem_append.2 (.inr (Array.mem_toList_iff.1 (by rw [ha]; simp)))
  have rx := hO.rd hmx hx
  have ry := pur_rd hq (hO.rd hmy hy)
  obtain ⟨v', w', F', p, g1, g2, g3⟩ := append_tk hT ht he (ty := o.type) hr.sim rx ry (of_blt hb0) hb
  have hargs : c.args = #[x, y] := by cases hca : c.args; simp [hca] at ha; simp [ha]
  have hat : c.argTypes = #[t, u] := by cases hca : c.argTypes; simp [hca] at hts; simp [hts]
  have hno : ∀ b, m j ≠ .obj b := by
    intro b hbo
    revert rx
    generalize a.eval x = vx
    intro rx
    cases rx with
    | own0 hm => rw [hm] at hbo; cases hbo
    | owne ad hm => rw [hm] at hbo; cases hbo
    | ownx hn hr hm => rw [hm] at hbo; cases hbo
    | own hn hr hm => rw [hm] at hbo; cases hbo
  obtain ⟨r1, r2⟩ := hr.retok hno (of_blt hj) hok g2 g3
  unfold Oper.wp
  have hrun : (execOp a.eval o).run P w = .ok (.value v') w' := by
    rw [← append_types ht hu] at g1
    simp [execOp, ho, resolve, hc, invoke, builtin, hargs, hat, g1]
  rw [hrun]
  simp only [Oper.upon, hd]
  subst hE hh
  exact hN _ _ _ _ _ _ hW r1 r2
end
end Go.Proofs.YtmjkflppajienaaDoor.R
