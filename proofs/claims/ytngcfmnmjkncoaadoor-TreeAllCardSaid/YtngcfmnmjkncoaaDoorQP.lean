/- Rows that the call makes, writes at places, and at last lets be; no condition but the typed premises. -/
import Derived.Test.YtngcfmnmjkncoaaDoorQO
import Derived.Laws.MakeOwn
namespace Go.Proofs.YtngcfmnmjkncoaaDoor.Q
open Go Go.RowKit
set_option linter.unusedVariables false
set_option linter.unusedSimpArgs false

/-- A row's cells. -/
def rowC {α : Type} (enc : α → PV) (xs : List α) : List SV := ((xs.map enc).flatMap PV.cells).map .p
theorem ids_pure : ∀ qs : List PV, SV.idsL (qs.map .p) = []
  | [] => rfl
  | q :: qs => by rw [List.map_cons, SV.idsL, ids_pure qs]; rfl
theorem ids_rowC {α : Type} (enc : α → PV) (xs : List α) : SV.idsL (rowC enc xs) = [] := ids_pure _
theorem made_list (z : Array Value) (k : Nat) : (madeCells z (k * z.size)).toList = (List.replicate k z.toList).flatten := by
  unfold madeCells
  rw [Array.toList_map, Array.toList_range]
  induction k with
  | zero => simp
  | succ k ih =>
    rw [Nat.succ_mul, List.range_add, List.map_append, ih, List.replicate_succ', List.flatten_append, List.map_map]
    congr 1
    refine List.ext_getElem (by simp) fun i h1 h2 => ?_
    have hi : i < z.size := by simpa using h1
    have e : (k * z.size + i) % z.size = i := by rw [Nat.mul_comm, Nat.mul_add_mod, Nat.mod_eq_of_lt hi]
    simp [e, hi]
/-- Is it a place of the row? -/
def chk (i : Int) (n : Nat) : Option Unit := if 0 ≤ i ∧ i < (n : Int) then some () else none
theorem chk_of {i : Int} {n : Nat} {u : Unit} (h : chk i n = some u) : 0 ≤ i ∧ i < (n : Int) := by
  unfold chk at h
  split at h
  · assumption
  · cases h
/-- A row with a place written. -/
def wr {α : Type} (xs : List α) (i : Nat) (y : α) : Option (List α) := if i < xs.length then some (xs.set i y) else none
theorem wr_of {α : Type} {xs r : List α} {i : Nat} {y : α} (h : wr xs i y = some r) : i < xs.length ∧ xs.set i y = r := by
  unfold wr at h
  split at h
  · rename_i hi; exact ⟨hi, Option.some.inj h⟩
  · cases h
/-- The row is still so long. -/
def ln {α : Type} (xs : List α) (n : Nat) : Option Unit := if xs.length = n then some () else none
theorem ln_of {α : Type} {xs : List α} {n : Nat} {u : Unit} (h : ln xs n = some u) : xs.length = n := by
  unfold ln at h
  split at h
  · assumption
  · cases h
section
variable {P : Program} {T : Tab} {nt : Nat} {E : Env} {h : List Ob} {Q : QB} {o : Oper} {i d : Nat} {ops : Array Oper}

theorem RdSL.rep {w : World} {F : Fz} {m : Mp} {vs : List Value} {ss : List SV} (hr : RdSL w F m vs ss) : ∀ k : Nat, RdSL w F m (List.replicate k vs).flatten (List.replicate k ss).flatten
  | 0 => .nil
  | k + 1 => by rw [List.replicate_succ, List.replicate_succ, List.flatten_cons, List.flatten_cons]; exact hr.append (RdSL.rep hr k)
theorem rowC_rep {α : Type} {enc : α → PV} {z0 : α} {qs : List PV} (hz : (enc z0).cells = qs) : ∀ k : Nat, rowC enc (List.replicate k z0) = (List.replicate k (qs.map SV.p)).flatten
  | 0 => rfl
  | k + 1 => by
    have := rowC_rep hz k
    unfold rowC at this ⊢
    rw [List.replicate_succ, List.map_cons, List.flatMap_cons, List.map_append, this, List.replicate_succ, List.flatten_cons, hz]

/-- A new row of zeros. -/
theorem xm (hT : TOk P T) {t e j : Nat} {x : Operand} {k : Int} {α : Type} {enc : α → PV} {z0 : α} {ei : TI} (ho : ops[i]? = some o) (hop : o.op = .makeSlice t x x) (hg : o.guard = none) (hd : o.dst = some d) (hk : kOf T t = .sl e) (he : T e = some ei)
    (hx : look E [] x = some (vi k)) (hz : (enc z0).cells = ei.zero) (h0 : 0 ≤ k) (hb : k * (ei.bytes : Int) ≤ 140737488355328) (h47 : k ≤ 140737488355328) (hok : dstOk nt E [] (some d) = true) (hj : h.length = j)
    (hW : WL P nt ops (i + 1) ((d, [], SV.row e k.toNat j) :: E) (h ++ [.cells e (rowC enc (List.replicate k.toNat z0))]) Q) : WL P nt ops i E h Q := by
  refine WL_op ho hg fun a w F m hr N Q hN => ?_
  have sim := hr.sim
  have ex := rd_s ((hr.opd (Tags.nil a) o).rd (by simp [hop, Op.operands]) hx)
  have hti := hT e ei he
  obtain ⟨inf, z, hi, hi1, hi2, hz', hzc⟩ := hti.zeros
  obtain ⟨ti, ht1, htk⟩ := kOf_ti (T := T) (t := t) (by rw [hk]; simp)
  have hu := (hT t ti ht1).slice (htk.trans hk)
  have hzs : z.cells.size = inf.size := by
    have := congrArg List.length hzc
    have h2 := Nat.eq_of_beq_eq_true hti.zl
    simp at this
    omega
  have hmade := run_make (P := P) w t e inf z hu hi hz' .i64 .i64 k k h0 (Int.le_refl _) (by rw [hi2, Int.mul_comm]; omega) (by omega)
  have hcells : (madeCells z.cells (k.toNat * inf.size)).toList = (List.replicate k.toNat z.cells.toList).flatten := by rw [← hzs]; exact made_list _ _
  obtain ⟨g1, g2⟩ := zero_rd (w := w.alloc (.cells (madeCells z.cells (k.toNat * inf.size)) e)) (F := F) (m := upd m j (.obj w.heap.size)) hti.zok
  obtain ⟨r1, r2⟩ := hr.new (ob := .cells e (rowC enc (List.replicate k.toNat z0))) (v := .slice (some ⟨w.heap.size, 0, none⟩) k.toNat k.toNat) hj hok (Nw.alloc sim.fl (.cells (madeCells z.cells (k.toNat * inf.size)) e))
    ⟨w.heap.size, madeCells z.cells (k.toNat * inf.size), rfl, heap_alloc_new w _, by rw [hcells, rowC_rep hz, hzc]; exact g1.rep _, by
      rw [hcells, hzc]
      intro v hv
      obtain ⟨l, hl, hvl⟩ := List.mem_flatten.1 hv
      obtain ⟨_, rfl⟩ := List.mem_replicate.1 hl
      exact g2 v hvl⟩ (s := .row e k.toNat j) (.row upd_same)
  unfold Oper.wp
  have hrun : (execOp a.eval o).run P w = .ok (.value (.slice (some ⟨w.heap.size, 0, none⟩) k.toNat k.toNat)) (w.alloc (.cells (madeCells z.cells (k.toNat * inf.size)) e)) := by
    simp [execOp, hop, ex, hmade]
  rw [hrun]
  simp only [Oper.upon, hd]
  exact hN _ _ _ _ _ _ hW r1 r2

/-- A place in such a row. -/
theorem yi (hT : TOk P T) {A : Tg} {t e len j : Nat} {x y : Operand} {k : IntKind} {n : Int} {ei : TI} (ho : o.op = .indexAddr t x y) (hk : kOf T t = .sl e) (he : T e = some ei) (hx : look E A x = some (.row e len j)) (hy : look E A y = some (.p (.s (.int k n)))) (h0 : 0 ≤ n) (h1 : n < (len : Int)) :
    Yld P o E A h (.ptr j (n.toNat * ei.size)) := by
  refine .of_still fun a w F m hs hO => ?_
  have ex := hO.rd (by simp [ho, Op.operands]) hx
  have ey := rd_s (hO.rd (by simp [ho, Op.operands]) hy)
  obtain ⟨ti, hti, htk⟩ := kOf_ti (T := T) (t := t) (by rw [hk]; simp)
  have hu := (hT t ti hti).slice (htk.trans hk)
  obtain ⟨inf, hi1, hi2, _⟩ := (hT e ei he).info
  generalize hv : a.eval x = v at ex
  cases ex with
  | row hm =>
    refine ⟨_, ?_, .ptr hm⟩
    simp [execOp, ho, hv, ey, Instr.indexAt, asIntOf, run_underlying hu, h0, h1, sizeOf, typeInfo, hi1, hi2, Addr.add_lit]

theorem rowC_length {α : Type} {enc : α → PV} {n : Nat} (hn : ∀ x, (enc x).cells.length = n) (xs : List α) : (rowC enc xs).length = xs.length * n := by
  unfold rowC
  rw [List.length_map, flat_length (n := n) (fun q hq => by obtain ⟨x, _, rfl⟩ := List.mem_map.1 hq; exact hn x), List.length_map]
theorem rowC_set {α : Type} {enc : α → PV} {n : Nat} (hn : ∀ x, (enc x).cells.length = n) (y : α) : ∀ (xs : List α) (i : Nat), i < xs.length →
    rowC enc (xs.set i y) = (rowC enc xs).take (i * n) ++ (enc y).cells.map .p ++ (rowC enc xs).drop (i * n + n)
  | [], i, hi => by simp at hi
  | x :: xs, 0, hi => by
    have e := hn x
    unfold rowC
    simp only [List.set_cons_zero, List.map_cons, List.flatMap_cons, List.map_append, Nat.zero_mul, List.take_zero, List.nil_append, Nat.zero_add]
    rw [List.drop_append_of_le_length (by rw [List.length_map, e]; exact Nat.le_refl _), List.drop_of_length_le (by rw [List.length_map, e]; exact Nat.le_refl _), List.nil_append]
  | x :: xs, i + 1, hi => by
    have ih := rowC_set hn y xs i (by simpa using hi)
    have e := hn x
    unfold rowC at ih ⊢
    simp only [List.set_cons_succ, List.map_cons, List.flatMap_cons, List.map_append, ih]
    have l : ((enc x).cells.map SV.p).length = n := by rw [List.length_map, e]
    rw [show (i + 1) * n = ((enc x).cells.map SV.p).length + i * n by rw [l, Nat.succ_mul]; omega, List.take_length_add_append, Nat.add_assoc, List.drop_length_add_append, List.append_assoc, List.append_assoc, List.append_assoc]

/-- A place of such a row is written. -/
theorem xS (hT : TOk P T) {t j n iv u : Nat} {x y : Operand} {s : SV} {α : Type} {enc : α → PV} {xs : List α} {y' : α} {ti : TI} (ho : ops[i]? = some o) (hop : o.op = .store t x y) (hg : o.guard = none) (hd : o.dst = none) (ht : T t = some ti)
    (hx : look E [] x = some (.ptr j (iv * n))) (hy : look E [] y = some s) (hc : scells (coS (some ti) s) = some ((enc y').cells.map .p)) (hl : ti.size = n) (hn : ∀ x, (enc x).cells.length = n) (hob : h[j]? = some (.cells u (rowC enc xs))) (hi : iv < xs.length)
    (hW : WL P nt ops (i + 1) E (h.set j (.cells u (rowC enc (xs.set iv y')))) Q) : WL P nt ops i E h Q := by
  have e : ((enc y').cells.map SV.p).length = n := by rw [List.length_map, hn]
  have hle : iv * n + n ≤ xs.length * n := by rw [← Nat.succ_mul]; exact Nat.mul_le_mul_right _ hi
  refine WL_store hT hW ho hg hop hd ht hx hy hc (by rw [e, hl]; exact Nat.beq_refl n) hob (Nat.ble_eq_true_of_le (by rw [e, rowC_length hn]; exact hle)) ?_
  rw [e, rowC_set hn y' xs iv hi]

theorem xW (hT : TOk P T) {t j n iv u : Nat} {x y : Operand} {s : SV} {α : Type} {enc : α → PV} {xs r : List α} {y' : α} {ti : TI} (hx' : wr xs iv y' = some r) (ho : ops[i]? = some o) (hop : o.op = .store t x y) (hg : o.guard = none) (hd : o.dst = none) (ht : T t = some ti)
    (hx : look E [] x = some (.ptr j (iv * n))) (hy : look E [] y = some s) (hc : scells (coS (some ti) s) = some ((enc y').cells.map .p)) (hl : ti.size = n) (hn : ∀ x, (enc x).cells.length = n) (hob : h[j]? = some (.cells u (rowC enc xs)))
    (hW : WL P nt ops (i + 1) E (h.set j (.cells u (rowC enc r))) Q) : WL P nt ops i E h Q := by
  obtain ⟨h1, rfl⟩ := wr_of hx'
  exact xS hT ho hop hg hd ht hx hy hc hl hn hob h1 hW

/-- Nothing here tells of thing j. -/
def awL (j : Nat) : List Nat → Bool
  | [] => true
  | i :: is => !(Nat.beq i j) && awL j is
def awE (j : Nat) : Env → Bool
  | [] => true
  | (_, _, s) :: E => awL j s.ids && awE j E
def awO (j : Nat) : Nat → List Ob → Bool
  | _, [] => true
  | k, .cells _ cs :: h => (Nat.beq k j || awL j (SV.idsL cs)) && awO j (k + 1) h
  | k, .rcd _ _ _ ss :: h => awL j (SV.idsL ss) && awO j (k + 1) h
  | k, .pin i _ :: h => !(Nat.beq i j) && awO j (k + 1) h
  | k, _ :: h => awO j (k + 1) h
theorem awL_mem {j : Nat} : ∀ {is : List Nat}, awL j is = true → ∀ i ∈ is, i ≠ j
  | [], _, i, h => by simp at h
  | k :: is, hl, i, h => by
    simp only [awL, Bool.and_eq_true, Bool.not_eq_true'] at hl
    rcases List.mem_cons.1 h with rfl | h
    · rintro rfl; rw [Nat.beq_refl] at hl; cases hl.1
    · exact awL_mem hl.2 i h
theorem awE_get {j : Nat} : ∀ {E : Env} {t : Nat} {tg : Tg} {s : SV}, awE j E = true → E.get t = some (tg, s) → ∀ i ∈ s.ids, i ≠ j
  | [], t, tg, s, _, h => by simp [Env.get] at h
  | (u, tg', s') :: E, t, tg, s, hl, h => by
    simp only [awE, Bool.and_eq_true] at hl
    simp only [Env.get] at h
    cases hb : Nat.beq u t with
    | true => rw [hb] at h; simp only [cond_true, Option.some.injEq, Prod.mk.injEq] at h; obtain ⟨rfl, rfl⟩ := h; exact awL_mem hl.1
    | false => rw [hb] at h; exact awE_get hl.2 h
theorem awO_get {j : Nat} : ∀ {h : List Ob} {k i : Nat}, awO j k h = true → (∀ t cs, h[i]? = some (.cells t cs) → k + i ≠ j → ∀ a ∈ SV.idsL cs, a ≠ j) ∧ (∀ b r ts ss, h[i]? = some (.rcd b r ts ss) → ∀ a ∈ SV.idsL ss, a ≠ j)
  | [], k, i, _ => ⟨fun t cs h => by simp at h, fun b r ts ss h => by simp at h⟩
  | .cells _ c :: h, k, 0, hl => ⟨fun t cs hh hk => by
      simp only [awO, Bool.and_eq_true, Bool.or_eq_true] at hl
      simp at hh; obtain ⟨rfl, rfl⟩ := hh
      rcases hl.1 with h1 | h1
      · exact absurd (Nat.eq_of_beq_eq_true h1) (by simpa using hk)
      · exact awL_mem h1, fun b r ts ss hh => by simp at hh⟩
  | .tail :: h, k, 0, hl => ⟨fun t cs hh => by simp at hh, fun b r ts ss hh => by simp at hh⟩
  | .mark :: h, k, 0, hl => ⟨fun t cs hh => by simp at hh, fun b r ts ss hh => by simp at hh⟩
  | .pin _ _ :: h, k, 0, hl => ⟨fun t cs hh => by simp at hh, fun b r ts ss hh => by simp at hh⟩
  | .rcd _ _ _ _ :: h, k, 0, hl => ⟨fun t cs hh => by simp at hh, fun b r ts ss hh => by
      simp only [awO, Bool.and_eq_true] at hl
      simp at hh; obtain ⟨rfl, rfl, rfl, rfl⟩ := hh; exact awL_mem hl.1⟩
  | .cells _ c :: h, k, i + 1, hl => by
    simp only [awO, Bool.and_eq_true] at hl
    have := awO_get (i := i) hl.2
    simpa [Nat.add_assoc, Nat.add_comm 1 i] using this
  | .tail :: h, k, i + 1, hl => by
    simp only [awO] at hl
    have := awO_get (i := i) hl
    simpa [Nat.add_assoc, Nat.add_comm 1 i] using this
  | .mark :: h, k, i + 1, hl => by
    simp only [awO] at hl
    have := awO_get (i := i) hl
    simpa [Nat.add_assoc, Nat.add_comm 1 i] using this
  | .rcd _ _ _ _ :: h, k, i + 1, hl => by
    simp only [awO, Bool.and_eq_true] at hl
    have := awO_get (i := i) hl.2
    simpa [Nat.add_assoc, Nat.add_comm 1 i] using this
  | .pin _ _ :: h, k, i + 1, hl => by
    simp only [awO, Bool.and_eq_true] at hl
    have := awO_get (i := i) hl.2
    simpa [Nat.add_assoc, Nat.add_comm 1 i] using this
theorem awO_pin {j a b : Nat} : ∀ {h : List Ob} {k i : Nat}, awO j k h = true → h[i]? = some (.pin a b) → a ≠ j
  | [], k, i, _, h => by simp at h
  | .cells _ c :: h, k, 0, hl, hh => by simp at hh
  | .tail :: h, k, 0, hl, hh => by simp at hh
  | .mark :: h, k, 0, hl, hh => by simp at hh
  | .rcd _ _ _ _ :: h, k, 0, hl, hh => by simp at hh
  | .pin _ _ :: h, k, 0, hl, hh => by
    simp only [awO, Bool.and_eq_true, Bool.not_eq_true'] at hl
    simp at hh; obtain ⟨rfl, rfl⟩ := hh
    rintro rfl; rw [Nat.beq_refl] at hl; cases hl.1
  | .cells _ c :: h, k, i + 1, hl, hh => by simp only [awO, Bool.and_eq_true] at hl; exact awO_pin hl.2 (by simpa using hh)
  | .tail :: h, k, i + 1, hl, hh => by simp only [awO] at hl; exact awO_pin hl (by simpa using hh)
  | .mark :: h, k, i + 1, hl, hh => by simp only [awO] at hl; exact awO_pin hl (by simpa using hh)
  | .rcd _ _ _ _ :: h, k, i + 1, hl, hh => by simp only [awO, Bool.and_eq_true] at hl; exact awO_pin hl.2 (by simpa using hh)
  | .pin _ _ :: h, k, i + 1, hl, hh => by simp only [awO, Bool.and_eq_true] at hl; exact awO_pin hl.2 (by simpa using hh)

theorem RdSL.toL {w : World} {F : Fz} {m : Mp} : ∀ {vs : List Value} {qs : List PV}, (∀ v ∈ vs, v.oneCell' = true) → RdSL w F m vs (qs.map .p) → RdL w F vs qs
  | _, [], _, .nil => .nil
  | _, q :: qs, h1, .cons (.p h) hs => .cons (h1 _ (by simp)) h (RdSL.toL (fun v hv => h1 v (by simp [hv])) hs)

/-- A row that is not written any more lies frozen. -/
theorem Rel.freeze {w : World} {F : Fz} {m : Mp} {a : Act} {t e len j n u : Nat} {α : Type} {enc : α → PV} {xs : List α} (hr : Rel nt w F m E h a) (ht : E.get t = some ([], .row e len j)) (hob : h[j]? = some (.cells u (rowC enc xs))) (hn : ∀ x, (enc x).cells.length = n) (hlen : xs.length = len)
    {E1 : Env} (hE : ∀ t tg s, E1.get t = some (tg, s) → E.get t = some (tg, s)) (hA : awE j E1 = true) (hO : awO j 0 h = true) :
    ∃ F' m', Rel nt w F' m' ((t, [], .p (.sl n α enc xs)) :: E1) (h.set j .tail) a ∧ Gr w F m w F' m' := by
  have sim := hr.sim
  obtain ⟨bl, cur, g1, g2, g3, g4⟩ := sim.ob j _ _ hob
  have hjl := (List.getElem?_eq_some_iff.1 hob).1
  have hkeep : ∀ i, i ≠ j → Same w m w (upd m j .no) i := fun i hi => ⟨upd_other hi, fun _ _ _ => rfl⟩
  have ext : Ext w F w (fun b o => F b o ∨ b = bl) := fun b o hF => ⟨.inl hF, rfl⟩
  have hL := RdSL.toL g4 g3
  subst hlen
  refine ⟨fun b o => F b o ∨ b = bl, upd m j .no, ⟨hr.size, hr.defers.same fun i D h1 h2 _ _ => ?_, fun t' tg s hs => ?_, ?_⟩, ?_⟩
  · have hij : i ≠ j := by rintro rfl; rw [h1] at hob; cases hob
    exact ⟨by rw [List.getElem?_set_ne (fun h => hij h.symm)]; exact h1, (upd_other hij).trans h2, rfl⟩
  · simp only [Env.get] at hs
    cases hb : Nat.beq t t' with
    | true =>
      rw [hb] at hs
      simp only [cond_true, Option.some.injEq, Prod.mk.injEq] at hs
      obtain ⟨rfl, rfl⟩ := hs
      obtain rfl := Nat.eq_of_beq_eq_true hb
      refine .inl ⟨Tags.nil _, ?_⟩
      have hrow := hr.rd _ [] _ ht (Tags.nil a)
      generalize a.tmps.getD t undef = v at hrow
      cases hrow with
      | @row _ _ _ b hm =>
        rw [hm] at g1
        simp only [Pl.obj.injEq] at g1
        subst g1
        refine .p (.sl (fun q hq => by obtain ⟨x, _, rfl⟩ := List.mem_map.1 hq; exact hn x) (Nat.le_refl _) (RdC.of_vals (hL.ext ext) (fun k u hk => ?_) fun k _ => .inr rfl))
        rw [Nat.zero_add]
        simp only [World.cell?, g2]
        simpa using hk
    | false =>
      rw [hb] at hs
      simp only [cond_false] at hs
      exact (hr.env t' tg s (hE _ _ _ hs)).imp (fun z => ⟨z.1, z.2.keep ext fun i hi _ => hkeep i (awE_get hA hs i hi)⟩) _root_.id
  · refine ⟨fun b o hF => ?_, fun i b hi => ?_, fun i b o hF hh => ?_, fun i i' b hi hi' => ?_, fun i hi => ?_, fun i t cs hi => ?_, fun i hi b => ?_, fun i b r ts ss hi => ?_, fun k i b hi => ?_⟩
    rotate_left 8
    · by_cases hkj : k = j
      · subst hkj; rw [List.getElem?_set_self hjl] at hi; cases hi
      · rw [List.getElem?_set_ne (fun h => hkj h.symm)] at hi
        exact (upd_other (awO_pin hO hi)).trans (sim.pn k i b hi)
    · rcases hF with h1 | rfl
      · exact sim.fl b o h1
      · exact sim.lt j b (by simp [g1, Pl.blk])
    · by_cases hij : i = j
      · subst hij; rw [upd_same] at hi; simp [Pl.blk] at hi
      · rw [upd_other hij] at hi; exact sim.lt i b hi
    · by_cases hij : i = j
      · subst hij; rw [upd_same] at hh; exact hh
      · rw [upd_other hij] at hh
        rcases hF with h1 | rfl
        · exact sim.fr i b o h1 hh
        · exact hij (sim.inj i j b (Pl.has_blk hh) (by simp [g1, Pl.blk]))
    · by_cases hij : i = j
      · subst hij; rw [upd_same] at hi; simp [Pl.blk] at hi
      · by_cases hij' : i' = j
        · subst hij'; rw [upd_same] at hi'; simp [Pl.blk] at hi'
        · rw [upd_other hij] at hi; rw [upd_other hij'] at hi'; exact sim.inj i i' b hi hi'
    · rw [List.length_set] at hi
      rw [upd_other (by omega)]
      exact sim.dom i hi
    · by_cases hij : i = j
      · subst hij; rw [List.getElem?_set_self hjl] at hi; cases hi
      · rw [List.getElem?_set_ne (fun h => hij h.symm)] at hi
        obtain ⟨b2, cur2, k1, k2, k3, k4⟩ := sim.ob i t cs hi
        exact ⟨b2, cur2, (upd_other hij).trans k1, k2, k3.keep ext fun a ha _ => hkeep a ((awO_get (i := i) hO).1 t cs hi (by omega) a ha), k4⟩
    · by_cases hij : i = j
      · subst hij; rw [upd_same]; exact fun h => by cases h
      · rw [List.getElem?_set_ne (fun h => hij h.symm)] at hi
        rw [upd_other hij]; exact sim.tl i hi b
    · have hij : i ≠ j := by rintro rfl; rw [List.getElem?_set_self hjl] at hi; cases hi
      rw [List.getElem?_set_ne (fun h => hij h.symm)] at hi
      obtain ⟨k1, k2, k3⟩ := sim.rc i b r ts ss hi
      exact ⟨(upd_other hij).trans k1, k2, k3.keep ext fun a ha _ => hkeep a ((awO_get (i := i) hO).2 b r ts ss hi a ha)⟩
  · refine ⟨rfl, rfl, rfl, Nat.le_refl _, ext, fun _ _ _ => rfl, fun i b o hh _ => ?_, fun b o hF => ?_⟩
    · by_cases hij : i = j
      · subst hij; rw [upd_same] at hh; exact hh.elim
      · rw [upd_other hij] at hh; exact ⟨i, hh⟩
    · rcases hF with h1 | rfl
      · exact .inl h1
      · exact .inr (.inr ⟨j, by rw [g1]; rfl⟩)

/-- From here on row j is not written. -/
theorem qfz {c : Code} {t e len j n u : Nat} {α : Type} {enc : α → PV} {xs : List α} (L : List Nat) (ht : E.get t = some ([], .row e len j)) (hob : h[j]? = some (.cells u (rowC enc xs))) (hn : ∀ x, (enc x).cells.length = n) (hlen : xs.length = len)
    {E1 : Env} (hE : E.keep L = E1) (hA : awE j E1 = true) (hO : awO j 0 h = true) (hW : W P nt c ((t, [], .p (.sl n α enc xs)) :: E1) (h.set j .tail) Q) : W P nt c E h Q := by
  subst hE
  refine ⟨fun a w F m hr => ?_, fun hp hq l r a w F m hr => ?_⟩
  · obtain ⟨F', m', hr', hg⟩ := hr.freeze ht hob hn hlen (fun t tg s => Env.keep_get) hA hO
    exact wp_mono (hW.out a w F' m' hr') fun x a' w' hp => hp.of hg fun _ _ _ h => h
  · obtain ⟨F', m', hr', hg⟩ := hr.freeze ht hob hn hlen (fun t tg s => Env.keep_get) hA hO
    exact wpIn_mono (hW.inn hp hq l r a w F' m' hr') fun x a' w' hp => hp.of hg fun _ _ _ h => h
end
end Go.Proofs.YtngcfmnmjkncoaaDoor.Q
