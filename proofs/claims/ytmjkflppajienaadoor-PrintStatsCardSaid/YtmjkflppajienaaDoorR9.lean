/- Maps of one's own, and maps that nobody writes any more; no condition but the typed premises. -/
import Derived.Test.YtmjkflppajienaaDoorR8
import Derived.Test.YtmjkflppajienaaDoorRD
import Derived.MapKept
import Derived.Carry
import Derived.ChangeMaps5
import Derived.Laws.StructEq
namespace Go.Proofs.YtmjkflppajienaaDoor.R
open Go Go.RowKit Go.ChangeMaps
set_option linter.unusedVariables false
set_option linter.unusedSimpArgs false
variable {bs : Nat → Nat}

/-! ### Keys -/
def intIs (P : Program) (e : Nat) (q : IntKind) : Bool := match P.underlying e with
  | some (.int q') => decide (q' = q)
  | _ => false
theorem intIs_of {P : Program} {e : Nat} {q : IntKind} (h : intIs P e q = true) : P.underlying e = some (.int q) := by
  unfold intIs at h
  split at h
  · rename_i q' hu; obtain rfl := of_decide_eq_true h; exact hu
  · cases h
/-- Is it a type of keys of this code? -/
def keyIs (P : Program) (k : Nat) (κ : Ty) : Bool := match P.underlying k, κ with
  | some (.int q), .i q' => decide (q = q')
  | some .bool, .b => true
  | some .string, .s => true
  | some (.array n e), .ar n' (.i q) => Nat.beq n n' && intIs P e q && decide ((P.info? e).map (·.size) = some 1)
  | _, _ => false
def keyV : (κ : Ty) → κ.den → Value
  | .i k, z => .int k z
  | .b, b => .bool b
  | .s, s => .string s
  | .ar n (.i k), v => .agg ((vlist n v).map fun z => Value.int k z).toArray
  | _, _ => undef
theorem RdL.ints {w : World} {F : Fz} {k : IntKind} : ∀ {l : List Int} {vs : List Value}, RdL w F vs (l.map fun z => PV.s (.int k z)) → vs = l.map fun z => Value.int k z
  | [], _, h => by cases h; rfl
  | z :: l, _, h => by
    cases h with
    | cons h1 h hs =>
      cases h
      rw [RdL.ints hs]; rfl
theorem rd_key {P : Program} {w : World} {F : Fz} {k : Nat} {κ : Ty} (hk : keyIs P k κ = true) {v : Value} {x : κ.den} (h : Rd w F v (κ.enc x)) : v = keyV κ x := by
  unfold keyIs at hk
  split at hk
  · cases h; rfl
  · cases h; rfl
  · cases h; rfl
  · rename_i n e n' q _
    have h' : Rd w F v (.agg (Vec.flat (fun y => ((Ty.i q).enc y).cells) n' x)) := h
    rw [flat_ints] at h'
    cases h' with
    | agg h => rw [h.ints]; rfl
  · cases hk
section
variable {P : Program} {w : World} {k : Nat} {κ : Ty}
theorem keyIs_int {n e n' : Nat} {q : IntKind} (hu : P.underlying k = some (.array n e)) (hk : keyIs P k (.ar n' (.i q)) = true) : n' = n ∧ P.underlying e = some (.int q) ∧ ∀ w, (sizeOf e).run P w = .ok 1 w := by
  unfold keyIs at hk
  rw [hu] at hk
  simp only [Bool.and_eq_true, decide_eq_true_eq] at hk
  obtain ⟨⟨h1, h2⟩, h3⟩ := hk
  refine ⟨(Nat.eq_of_beq_eq_true h1).symm, intIs_of h2, fun w => ?_⟩
  cases hi : P.info? e with
  | none => rw [hi] at h3; simp at h3
  | some x =>
    rw [hi] at h3
    simp at h3
    simp [sizeOf, typeInfo, hi, h3]
theorem part_int {e : Nat} {q : IntKind} (he : P.underlying e = some (.int q)) (l : List Int) (i : Nat) (hi : i < l.length) : (part e (l.map fun z => Value.int q z).toArray (i * 1)).run P w = .ok (.int q (l[i])) w := by
  simp [part, isAgg, run_underlying he, List.getElem?_eq_getElem hi]
theorem run_check (hk : keyIs P k κ = true) (em : Bool) (x : κ.den) : (Instr.checkKey em 10000 k (keyV κ x)).run P w = .ok () w := by
  have hk0 := hk
  unfold keyIs at hk
  split at hk
  · rename_i hu
    obtain rfl := of_decide_eq_true hk
    exact MapKept.run_checkKey hu (show MapKept.IsKey _ (Value.int _ _) from rfl) em _
  · rename_i hu; exact MapKept.run_checkKey hu (show MapKept.IsKey _ (Value.bool _) from trivial) em _
  · rename_i hu; exact MapKept.run_checkKey hu (show MapKept.IsKey _ (Value.string _) from trivial) em _
  · rename_i n e n' q hu
    obtain ⟨rfl, he, hs⟩ := keyIs_int hu hk0
    show (Instr.checkKey em (9999 + 1) k (.agg ((vlist n' x).map fun z => Value.int q z).toArray)).run P w = _
    rw [Instr.checkKey]
    simp only [Sem.run_bind, run_underlying hu, Result.andThen_ok]
    simp only [Std.Legacy.Range.forIn_eq_forIn_range', Std.Legacy.Range.size, Nat.sub_zero, Nat.add_one_sub_one, Nat.div_one]
    have hl : ∀ i ∈ List.range' 0 n' 1, i < (vlist n' x).length := fun i hi => by rw [vlist_length]; simpa using (List.mem_range'_1.1 hi).2
    generalize List.range' 0 n' 1 = l at hl
    induction l with
    | nil => simp
    | cons i l ih =>
      have hi := hl i (by simp)
      have p2 := MapKept.run_checkKey (w := w) he (show MapKept.IsKey (.int q) (Value.int q ((vlist n' x)[i])) from rfl) em 9998
      simp only [List.forIn_cons, Sem.run_bind, hs, Result.andThen_ok, part_int he _ i hi, p2, Sem.run_pure]
      exact ih fun j hj => hl j (by simp [hj])
  · cases hk
theorem sameBits_ints {q : IntKind} (n : Nat) : ∀ l : List Int, ((l.map fun z => Value.int q z).zip (l.map fun z => Value.int q z)).all (fun p => Instr.sameBits n p.1 p.2) = true
  | [] => rfl
  | z :: l => by simp only [List.map_cons, List.zip_cons_cons, List.all_cons, sameBits_ints n l, Bool.and_true]; cases n <;> simp [Instr.sameBits]
theorem run_stays (hk : keyIs P k κ = true) (x : κ.den) : (Instr.keyThatStays (keyV κ x) (keyV κ x)).run P w = .ok (keyV κ x) w := by
  unfold keyIs at hk
  split at hk
  · exact MapKept.run_keyThatStays (d := .int _) (show MapKept.IsKey _ (Value.int _ _) from rfl)
  · exact MapKept.run_keyThatStays (d := .bool) (show MapKept.IsKey _ (Value.bool _) from trivial)
  · exact MapKept.run_keyThatStays (d := .string) (show MapKept.IsKey _ (Value.string _) from trivial)
  · rename_i n e n' q _
    have : Instr.sameBits 10000 (keyV (.ar n' (.i q)) x) (keyV (.ar n' (.i q)) x) = true := by
      show Instr.sameBits (9999 + 1) (.agg ((vlist n' x).map fun z => Value.int q z).toArray) (.agg ((vlist n' x).map fun z => Value.int q z).toArray) = true
      have := sameBits_ints (q := q) 9999 (vlist n' x)
      simp only [Instr.sameBits, beq_self_eq_true, Bool.true_and]
      exact this
    simp [Instr.keyThatStays, this]
  · cases hk
theorem run_eqKey (hk : keyIs P k κ = true) (x y : κ.den) : (Op.equal k (keyV κ x) (keyV κ y)).run P w = .ok (teq κ x y) w := by
  have hk0 := hk
  unfold keyIs at hk
  split at hk
  · rename_i q q' hu
    obtain rfl := of_decide_eq_true hk
    refine (run_equalIn_int w 9999 k q q x y hu).trans ?_
    congr 1
    rw [Bool.eq_iff_iff, teq_iff, beq_iff_eq]
  · rename_i hu
    refine (run_equalIn_bool w 9999 k x y hu).trans ?_
    congr 1
    rw [Bool.eq_iff_iff, teq_iff, beq_iff_eq]
  · rename_i hu
    refine (run_equalIn_string w 9999 k x y hu).trans ?_
    congr 1
    rw [Bool.eq_iff_iff, teq_iff]
    rw [toList_beq, decide_eq_true_iff]
  · rename_i n e n' q hu
    obtain ⟨rfl, he, hs⟩ := keyIs_int hu hk0
    refine (run_equalIn_ints w 9998 k e n' q hu he hs (vlist n' x) (vlist n' y) (vlist_length _ _) (vlist_length _ _)).trans ?_
    congr 1
    rw [Bool.eq_iff_iff, teq_iff]
    simp only [decide_eq_true_eq, beq_iff_eq]
    exact ⟨vlist_inj n', fun e => by rw [e]⟩
  · cases hk
end
/-! ### Maps as rows of pairs -/
/-- Where a key stands, and what is there. -/
noncomputable def mfind (κ τ : Ty) (x : κ.den) : List (κ.den × τ.den) → Nat → Option (Nat × τ.den)
  | [], _ => none
  | p :: l, i => if teq κ x p.1 = true then some (i, p.2) else mfind κ τ x l (i + 1)
noncomputable def mget (κ τ : Ty) (l : List (κ.den × τ.den)) (x : κ.den) : Option τ.den := (mfind κ τ x l 0).map (·.2)
noncomputable def mput (κ τ : Ty) (l : List (κ.den × τ.den)) (x : κ.den) (y : τ.den) : List (κ.den × τ.den) := match mfind κ τ x l 0 with
  | some (i, _) => l.set i (x, y)
  | none => l ++ [(x, y)]
section
variable {P : Program} {w : World} {F : Fz} {k : Nat} {κ τ : Ty}
theorem findNow_run (hk : keyIs P k κ = true) {d : TypeDesc} (hd : P.underlying k = some d) (x : κ.den) : ∀ {es : List MapEntry} {l : List (κ.den × τ.den)} (i : Nat), RdM w F κ τ es l →
    Instr.findNow d (keyV κ x) es i = none ∨ (∃ r, Instr.findNow d (keyV κ x) es i = some r ∧ (mfind κ τ x l i = none → r = none) ∧ ∀ j y, mfind κ τ x l i = some (j, y) → i ≤ j ∧ ∃ e, es[j - i]? = some e ∧ r = some (j, e.val))
  | [], _, i, .nil _ _ => .inr ⟨none, rfl, fun _ => rfl, fun j y h => by cases h⟩
  | e :: es, _, i, .cons (x := a) (y := b) (l := l) h1 h2 h3 => by
    have ha := rd_key hk h1
    have hsn : Instr.sameNow d (keyV κ x) e.key = none ∨ Instr.sameNow d (keyV κ x) e.key = some (teq κ x a) := by
      rw [ha]
      unfold keyIs at hk
      rw [hd] at hk
      split at hk
      · rename_i q q' hu
        obtain rfl := Option.some.inj hu
        obtain rfl := of_decide_eq_true hk
        refine .inr ?_
        simp only [Instr.sameNow, keyV, if_true, Option.some.injEq]
        rw [Bool.eq_iff_iff, teq_iff, beq_iff_eq]
      · rename_i hu
        obtain rfl := Option.some.inj hu
        refine .inr ?_
        simp only [Instr.sameNow, keyV, Option.some.injEq]
        rw [Bool.eq_iff_iff, teq_iff, beq_iff_eq]
      · rename_i hu
        obtain rfl := Option.some.inj hu
        refine .inr ?_
        simp only [Instr.sameNow, keyV, Option.some.injEq]
        rw [Bool.eq_iff_iff, teq_iff]
        exact MapKept.bytes_beq _ _
      · exact .inl (by simp [Instr.sameNow, keyV])
      · cases hk
    rcases hsn with hsn | hsn
    · exact .inl (by simp [Instr.findNow, hsn])
    · cases hb : teq κ x a with
      | true =>
        refine .inr ⟨some (i, e.val), by simp [Instr.findNow, hsn, hb], fun h => ?_, fun j y h => ?_⟩
        · simp only [mfind, hb, if_true] at h; cases h
        · simp only [mfind, hb, if_true, Option.some.injEq, Prod.mk.injEq] at h
          obtain ⟨rfl, rfl⟩ := h
          exact ⟨Nat.le_refl _, e, by simp, rfl⟩
      | false =>
        have em : mfind κ τ x ((a, b) :: l) i = mfind κ τ x l (i + 1) := by simp [mfind, hb]
        rw [em]
        rcases findNow_run hk hd x (i + 1) h3 with h4 | ⟨r, h4, h5, h6⟩
        · exact .inl (by simp [Instr.findNow, hsn, hb, h4])
        · refine .inr ⟨r, by simp [Instr.findNow, hsn, hb, h4], h5, fun j y h => ?_⟩
          obtain ⟨g1, e', g2, g3⟩ := h6 j y h
          exact ⟨by omega, e', by rw [show j - i = (j - (i + 1)) + 1 by omega]; simpa using g2, g3⟩
theorem findAsking_run (hk : keyIs P k κ = true) (x : κ.den) : ∀ {es : List MapEntry} {l : List (κ.den × τ.den)} (i : Nat), RdM w F κ τ es l →
    ∃ r, (Instr.findAsking k (keyV κ x) es i).run P w = .ok r w ∧ (mfind κ τ x l i = none → r = none) ∧ ∀ j y, mfind κ τ x l i = some (j, y) → i ≤ j ∧ ∃ e, es[j - i]? = some e ∧ r = some (j, e.val)
  | [], _, i, .nil _ _ => ⟨none, rfl, fun _ => rfl, fun j y h => by cases h⟩
  | e :: es, _, i, .cons (x := a) (y := b) (l := l) h1 h2 h3 => by
    have ha := rd_key hk h1
    have hq := run_eqKey (P := P) (w := w) hk x a
    rw [← ha] at hq
    cases hb : teq κ x a with
    | true =>
      refine ⟨some (i, e.val), by simp [Instr.findAsking, hq, hb], fun h => ?_, fun j y h => ?_⟩
      · simp only [mfind, hb, if_true] at h; cases h
      · simp only [mfind, hb, if_true, Option.some.injEq, Prod.mk.injEq] at h
        obtain ⟨rfl, rfl⟩ := h
        exact ⟨Nat.le_refl _, e, by simp, rfl⟩
    | false =>
      have em : mfind κ τ x ((a, b) :: l) i = mfind κ τ x l (i + 1) := by simp [mfind, hb]
      rw [em]
      obtain ⟨r, h4, h5, h6⟩ := findAsking_run hk x (i + 1) h3
      refine ⟨r, by simp [Instr.findAsking, hq, hb, h4], h5, fun j y h => ?_⟩
      obtain ⟨g1, e', g2, g3⟩ := h6 j y h
      exact ⟨by omega, e', by rw [show j - i = (j - (i + 1)) + 1 by omega]; simpa using g2, g3⟩
theorem find_run (hk : keyIs P k κ = true) (x : κ.den) {es : List MapEntry} {l : List (κ.den × τ.den)} (h : RdM w F κ τ es l) :
    ∃ r, (Instr.findKey k (keyV κ x) es).run P w = .ok r w ∧ (mfind κ τ x l 0 = none → r = none) ∧ ∀ j y, mfind κ τ x l 0 = some (j, y) → ∃ e, es[j]? = some e ∧ r = some (j, e.val) := by
  obtain ⟨d, hd⟩ : ∃ d, P.underlying k = some d := by
    unfold keyIs at hk
    cases hu : P.underlying k with
    | none => rw [hu] at hk; cases hk
    | some d => exact ⟨d, rfl⟩
  rcases findNow_run hk hd x 0 h with h1 | ⟨r, h1, h2, h3⟩
  · obtain ⟨r, h2, h3, h4⟩ := findAsking_run (P := P) hk x 0 h
    refine ⟨r, by simp [Instr.findKey, run_underlying hd, h1, h2], h3, fun j y h => ?_⟩
    obtain ⟨_, e, g1, g2⟩ := h4 j y h
    exact ⟨e, by simpa using g1, g2⟩
  · refine ⟨r, by simp [Instr.findKey, run_underlying hd, h1], h2, fun j y h => ?_⟩
    obtain ⟨_, e, g1, g2⟩ := h3 j y h
    exact ⟨e, by simpa using g1, g2⟩
theorem mfind_at {x : κ.den} : ∀ {l : List (κ.den × τ.den)} {i j : Nat} {y : τ.den}, mfind κ τ x l i = some (j, y) → i ≤ j ∧ l[j - i]? = some (x, y)
  | [], i, j, y, h => by cases h
  | (a, b) :: l, i, j, y, h => by
    simp only [mfind] at h
    split at h
    · rename_i hb
      simp only [Option.some.injEq, Prod.mk.injEq] at h
      obtain ⟨rfl, rfl⟩ := h
      obtain rfl := teq_iff.1 hb
      exact ⟨Nat.le_refl _, by simp⟩
    · obtain ⟨h1, h2⟩ := mfind_at h
      exact ⟨by omega, by rw [show j - i = (j - (i + 1)) + 1 by omega]; simpa using h2⟩
theorem RdM.at_ : ∀ {es : List MapEntry} {l : List (κ.den × τ.den)}, RdM w F κ τ es l → ∀ {j : Nat} {e : MapEntry} {x : κ.den} {y : τ.den}, es[j]? = some e → l[j]? = some (x, y) → Rd w F e.key (κ.enc x) ∧ Rd w F e.val (τ.enc y)
  | _, _, .nil _ _, j, e, x, y, h, _ => by simp at h
  | _, _, .cons h1 h2 h3, 0, e, x, y, h, k => by
    simp only [List.getElem?_cons_zero, Option.some.injEq, Prod.mk.injEq] at h k
    obtain ⟨rfl, rfl⟩ := k
    subst h
    exact ⟨h1, h2⟩
  | _, _, .cons h1 h2 h3, j + 1, e, x, y, h, k => RdM.at_ h3 (by simpa using h) (by simpa using k)
theorem RdM.len : ∀ {es : List MapEntry} {l : List (κ.den × τ.den)}, RdM w F κ τ es l → es.length = l.length
  | _, _, .nil _ _ => rfl
  | _, _, .cons _ _ h3 => by rw [List.length_cons, List.length_cons, h3.len]
theorem RdM.set : ∀ {es : List MapEntry} {l : List (κ.den × τ.den)}, RdM w F κ τ es l → ∀ (j : Nat) {e : MapEntry} {x : κ.den} {y : τ.den}, Rd w F e.key (κ.enc x) → Rd w F e.val (τ.enc y) → RdM w F κ τ (es.set j e) (l.set j (x, y))
  | _, _, .nil _ _, j, e, x, y, h, k => by simpa using RdM.nil κ τ
  | _, _, .cons h1 h2 h3, 0, e, x, y, h, k => .cons h k h3
  | _, _, .cons h1 h2 h3, j + 1, e, x, y, h, k => .cons h1 h2 (RdM.set h3 j h k)
theorem RdM.snoc {e : MapEntry} {x : κ.den} {y : τ.den} (h : Rd w F e.key (κ.enc x)) (k : Rd w F e.val (τ.enc y)) : ∀ {es : List MapEntry} {l : List (κ.den × τ.den)}, RdM w F κ τ es l → RdM w F κ τ (es ++ [e]) (l ++ [(x, y)])
  | _, _, .nil _ _ => .cons h k (.nil _ _)
  | _, _, .cons h1 h2 h3 => .cons h1 h2 (RdM.snoc h k h3)
end
/-! ### What a map that is written leaves -/
section
variable {P : Program} {T : Tab} {nt : Nat} {E : Env} {A : Tg} {h : List Ob} {Q : QB} {o : Oper} {i d : Nat} {ops : Array Oper} {β : Type} {r : β}
theorem Rel.putMap {w : World} {F : Fz} {m : Mp} {a : Act} {j : Nat} {κ τ : Ty} {l l' : List (κ.den × τ.den)} {es es' : Array MapEntry} {c c' bl : Nat} (hr : Rel bs nt w F m E h a) (hob : h[j]? = some (.map κ τ l)) (g1 : m j = .obj bl) (g2 : w.heap[bl]? = some (.map es c))
    (hm : RdM w F κ τ es'.toList l') (hb : BornOk es' c') :
    Rel bs nt (setBlock w bl (.map es' c')) F m E (h.set j (.map κ τ l')) a ∧ Gr w F m (setBlock w bl (.map es' c')) F m := by
  have sim := hr.sim
  have other : ∀ b, b ≠ bl → (setBlock w bl (.map es' c')).heap[b]? = w.heap[b]? := fun b hb => heap_setBlock_other g2 _ hb
  have same : (setBlock w bl (.map es' c')).heap[bl]? = some (.map es' c') := heap_setBlock_same g2 _
  have size : (setBlock w bl (.map es' c')).heap.size = w.heap.size := by simp [setBlock]
  have ext : Ext w F (setBlock w bl (.map es' c')) F := fun b' o hF => ⟨hF, by
    have hne : b' ≠ bl := by rintro rfl; exact sim.fr j _ o hF (by rw [g1]; rfl)
    simp only [peek, World.cell?, mapAt, other b' hne]⟩
  have hsame : ∀ i, Same w m (setBlock w bl (.map es' c')) m i := fun i => ⟨rfl, fun b' lo hb => other b' (by
    rintro rfl
    have := sim.inj i j b' (by simp [hb, Pl.blk]) (by simp [g1, Pl.blk])
    subst this
    rw [g1] at hb
    cases hb)⟩
  have hlt := (List.getElem?_eq_some_iff.1 hob).1
  have hdf : Dfr (setBlock w bl (.map es' c')) m (h.set j (.map κ τ l')) a.defers := hr.defers.same fun i D h1 h2 h3 _ => by
    have hib : i ≠ j := by rintro rfl; rw [h1] at hob; cases hob
    exact ⟨by rw [List.getElem?_set_ne (fun h => hib h.symm)]; exact h1, h2, other D (by rintro rfl; exact hib (sim.inj i j D (by simp [h2, Pl.blk]) (by simp [g1, Pl.blk])))⟩
  refine ⟨⟨hr.size, hdf, fun t tg s ht => (hr.env t tg s ht).imp (fun h => ⟨h.1, h.2.keep ext fun i _ _ => hsame i⟩) id, ?_⟩, ?_⟩
  · refine ⟨fun b' o hF => by rw [size]; exact sim.fl b' o hF, fun i b' hi => by rw [size]; exact sim.lt i b' hi, sim.fr, sim.inj, fun i hi => sim.dom i (by simpa using hi), fun i o hi ho => ?_, fun i hi b' => ?_, fun k i hi => ?_, ext.kn sim.kn⟩
    · by_cases hij : i = j
      · subst hij
        rw [List.getElem?_set_self hlt] at hi
        obtain rfl := Option.some.inj hi
        exact ⟨bl, _, g1, same, .map (hm.ext ext) hb⟩
      · rw [List.getElem?_set_ne (fun h => hij h.symm)] at hi
        obtain ⟨b2, x2, k1, k2, k3⟩ := sim.obj i o hi ho
        refine ⟨b2, x2, k1, ?_, k3.keep ext fun i _ _ => hsame i⟩
        rw [other b2 (by rintro rfl; exact hij (sim.inj i j b2 (by simp [k1, Pl.blk]) (by simp [g1, Pl.blk])))]
        exact k2
    · by_cases hij : i = j
      · subst hij; rw [List.getElem?_set_self hlt] at hi; simp at hi
      · rw [List.getElem?_set_ne (fun h => hij h.symm)] at hi; exact sim.tl i hi b'
    · by_cases hkj : k = j
      · subst hkj; rw [List.getElem?_set_self hlt] at hi; simp at hi
      · rw [List.getElem?_set_ne (fun h => hkj h.symm)] at hi; exact sim.pn k i hi
  · exact ⟨rfl, rfl, rfl, by rw [size]; exact Nat.le_refl _, ext, fun b hb hm => other b (by rintro rfl; exact hm j (by simp [g1, Pl.blk])), fun i b o hh _ => ⟨i, hh⟩, fun b o hF => .inl hF⟩
/-! ### The operations -/
def mapIs (P : Program) (t : Nat) (κ : Ty) : Bool := match P.underlying t with
  | some (.map k _) => keyIs P k κ
  | _ => false
/-- make(map[K]V). -/
def eMakeMap (P : Program) (T : Tab) (nt t : Nat) (d : Option Nat) (E : Env) (h : List Ob) (K : Env → List Ob → Option β) : Option β := match d, P.underlying t with
  | some d, some (.map k e) => match tyOf T k, tyOf T e with
    | some κ, some τ => bif dstOk nt E [] (some d) then K ((d, [], .mo h.length) :: E) (h ++ [.map κ τ []]) else none
    | _, _ => none
  | _, _ => none
theorem eMakeMap_ok {t : Nat} {K : Env → List Ob → Option β} (hoi : ops[i]? = some o) (hg : o.guard = none) (ho : o.op = .makeMap t none)
    (hr : eMakeMap P T nt t o.dst E h K = some r) (hK : ∀ E' h', K E' h' = some r → WL P nt ops (i + 1) E' h' Q) : WL P nt ops i E h Q := by
  unfold eMakeMap at hr
  split at hr
  · rename_i d k e hd hu
    split at hr
    · rename_i κ τ _ _
      obtain ⟨hok, hr⟩ := bif_some hr
      have hW := hK _ _ hr
      refine WL_op hoi hg fun {bs} a w F m hrel N Q hN => ?_
      have sim := hrel.sim
      obtain ⟨r1, r2⟩ := hrel.new (ob := .map κ τ []) (v := .map (some w.heap.size)) (j := h.length) rfl hok (Nw.alloc sim.fl (.map #[] 0))
        ⟨w.heap.size, .map #[] 0, rfl, heap_alloc_new w _, .map (.nil _ _) ⟨by simp, by simp⟩⟩ (s := .mo h.length) (.mo upd_same)
      unfold Oper.wp
      have hrun : (execOp a.eval o).run P w = .ok (.value (.map (some w.heap.size))) (w.alloc (.map #[] 0)) := by
        simp [execOp, ho, run_makeMap]
      rw [hrun]
      simp only [Oper.upon, hd]
      exact hN _ _ _ _ _ _ hW r1 r2
    · cases hr
  · cases hr
theorem rdP {w : World} {F : Fz} {m : Mp} {v : Value} {q : PV} (h : RdS w F m v (.p q)) : Rd w F v q := by
  cases h with | p h => exact h
/-- The map at hand. -/
def mapL (x : Operand) (E : Env) (A : Tg) (h : List Ob) : Option ((κ : Ty) × (τ : Ty) × List (κ.den × τ.den)) := match look E A x with
  | some (.mo j) => match h[j]? with
    | some (.map κ τ l) => some ⟨κ, τ, l⟩
    | _ => none
  | some (.p (.mp κ τ l)) => some ⟨κ, τ, l⟩
  | _ => none
def mapOf (x : Operand) (E : Env) (A : Tg) : Option Nat := match look E A x with
  | some (.mo j) => some j
  | _ => none
theorem mapL_dep {x : Operand} {h' : List Ob} (hb : ∀ b, mapOf x E A = some b → h'[b]? = h[b]?) : mapL x E A h' = mapL x E A h := by
  unfold mapL
  unfold mapOf at hb
  split
  · rename_i j hx; simp only [hx] at hb; rw [hb j rfl]
  · rfl
  · rfl
/-- What lies there. -/
theorem mapL_rd {w : World} {F : Fz} {m : Mp} {a : Act} {x : Operand} {κ τ : Ty} {l : List (κ.den × τ.den)} (hs : SimE w F m h) (hO : Opd E A o a w F m) (hxo : x ∈ o.op.operands) (hl : mapL x E A h = some ⟨κ, τ, l⟩) :
    (a.eval x = .map none ∧ l = []) ∨ ∃ b es c, a.eval x = .map (some b) ∧ w.heap[b]? = some (.map es c) ∧ RdM w F κ τ es.toList l := by
  unfold mapL at hl
  split at hl
  · rename_i j hx
    have ex := hO.rd hxo hx
    split at hl
    · rename_i κ' τ' l' hob
      simp only [Option.some.injEq] at hl
      obtain ⟨bs, hsim⟩ := hs
      obtain ⟨b', X, g1, g2, g3⟩ := hsim.obj j _ hob rfl
      cases hl
      generalize a.eval x = v at ex
      cases ex with
      | mo hm =>
        rw [hm] at g1
        simp only [Pl.obj.injEq] at g1
        subst g1
        cases g3 with
        | map h hb => exact .inr ⟨_, _, _, rfl, g2, h⟩
    · cases hl
  · rename_i κ' τ' l' hx
    have ex := hO.rd hxo hx
    simp only [Option.some.injEq] at hl
    cases hl
    generalize a.eval x = v at ex
    cases ex with
    | p ex =>
      cases ex with
      | mp0 => exact .inl ⟨rfl, rfl⟩
      | @mp b c _ _ es _ hF hb hn hr =>
        refine .inr ⟨b, es, c, rfl, ?_, hr⟩
        unfold mapAt at hb
        split at hb
        · rename_i es c he
          simp only [Option.some.injEq, Prod.mk.injEq] at hb
          obtain ⟨rfl, rfl⟩ := hb
          exact he
        · cases hb
  · cases hl
def zAgg (P : Program) (e : Nat) : Bool := match (P.info? e).bind (·.zero) with
  | some (.agg _) => true
  | _ => false
/-- The zero value. -/
theorem zero_val (hT : TOk P T) {e : Nat} {ei : TI} {τ : Ty} {z : τ.den} (he : T e = some ei) (hz : dAll (τ.dec ei.zero) = some z) (hag : zAgg P e = τ.isAg) (w : World) (F : Fz) : ∃ z', (zeroValue e).run P w = .ok z' w ∧ Rd w F z' (τ.enc z) := by
  have hti := hT e ei he
  obtain ⟨inf, z', hi, hi1, hi2, hz', hzc⟩ := hti.zeros
  have hzr : RdL w F z'.cells.toList (τ.enc z).cells := by
    obtain ⟨g1, g2⟩ := zero_rd (w := w) (F := F) (m := fun _ => .free) hti.zok
    rw [hzc]
    refine dAll_rd hz (purL_rd (purL_pure _) g2 g1)
  refine ⟨z', by simp [zeroValue, typeInfo, hi, hz'], ?_⟩
  unfold zAgg at hag
  rw [hi] at hag
  simp only [Option.bind_some, hz'] at hag
  cases hb : τ.isAg with
  | true =>
    rw [hb] at hag
    split at hag
    · rename_i cs hcs
      obtain rfl := Option.some.inj hcs
      rw [enc_agg hb]
      have := Rd.agg hzr
      simpa [Value.cells] using this
    · cases hag
  | false =>
    rw [hb] at hag
    have hc : z'.cells.toList = [z'] := by
      cases z' <;> first | rfl | (simp at hag)
    rw [hc, enc_one hb] at hzr
    cases hzr with
    | cons _ h _ => exact h
theorem lookup_run {w : World} {F : Fz} {t k e : Nat} {κ τ : Ty} {l : List (κ.den × τ.den)} {v : Value} {z : τ.den} (hu : P.underlying t = some (.map k e)) (hk : keyIs P k κ = true)
    (hv : (v = .map none ∧ l = []) ∨ ∃ b es c, v = .map (some b) ∧ w.heap[b]? = some (.map es c) ∧ RdM w F κ τ es.toList l) (hz : ∃ z', (zeroValue e).run P w = .ok z' w ∧ Rd w F z' (τ.enc z)) (x : κ.den) (ok : Bool) :
    ∃ u, (Instr.lookup t v (keyV κ x) ok).run P w = .ok (if ok then .tuple #[u, .bool (mget κ τ l x).isSome] else u) w ∧ Rd w F u (τ.enc ((mget κ τ l x).getD z)) := by
  obtain ⟨z', hz1, hz2⟩ := hz
  have key : ∀ (es : Array MapEntry), RdM w F κ τ es.toList l → ∃ u, (do
      Instr.checkKey es.isEmpty 10000 k (keyV κ x)
      let (v, ok') ← match ← Instr.findKey k (keyV κ x) es.toList with
        | some (_, v) => pure (v, true)
        | none => pure (← zeroValue e, false)
      pure (if ok then .tuple #[v, .bool ok'] else v) : Sem Value).run P w = .ok (if ok then .tuple #[u, .bool (mget κ τ l x).isSome] else u) w ∧ Rd w F u (τ.enc ((mget κ τ l x).getD z)) := fun es hes => by
    obtain ⟨r, h1, h2, h3⟩ := find_run (P := P) hk x hes
    unfold mget
    cases hm : mfind κ τ x l 0 with
    | none =>
      refine ⟨z', ?_, hz2⟩
      simp [run_check hk, h1, h2 hm, hz1]
    | some p =>
      obtain ⟨j, y⟩ := p
      obtain ⟨e', h4, h5⟩ := h3 j y hm
      obtain ⟨_, h6⟩ := mfind_at hm
      refine ⟨e'.val, ?_, (hes.at_ h4 (by simpa using h6)).2⟩
      simp [run_check hk, h1, h5]
  rcases hv with ⟨rfl, rfl⟩ | ⟨b, es, c, rfl, hb, hes⟩
  · obtain ⟨u, h1, h2⟩ := key #[] (.nil _ _)
    refine ⟨u, ?_, h2⟩
    rw [← h1]
    simp [Instr.lookup, run_underlying hu]
    rfl
  · obtain ⟨u, h1, h2⟩ := key es hes
    refine ⟨u, ?_, h2⟩
    rw [← h1]
    simp [Instr.lookup, run_underlying hu, MapKept.run_getObj_map hb]
    rfl
/-- What a map has at a key. -/
noncomputable def pLookup (P : Program) (T : Tab) (t : Nat) (x y : Operand) (ok : Bool) (E : Env) (A : Tg) (h : List Ob) (K : SV → Option β) : Option β := match P.underlying t, mapL x E A h with
  | some (.map k e), some ⟨κ, τ, l⟩ => match T e, (look E A y).map (coS (T k)) with
    | some ei, some (.p q) => match κ.getS q, dAll (τ.dec ei.zero) with
      | some x, some z => bif keyIs P k κ && (zAgg P e == τ.isAg) then (match ok with
          | true => K (.tup [.p (τ.enc ((mget κ τ l x).getD z)), vb (mget κ τ l x).isSome])
          | false => K (.p (τ.enc ((mget κ τ l x).getD z)))) else none
      | _, _ => none
    | _, _ => none
  | _, _ => none
theorem pLookup_ok (hT : TOk P T) {t : Nat} {x y : Operand} {ok : Bool} {K : SV → Option β} (ho : o.op = .lookup t x y ok) (hr : pLookup P T t x y ok E A h K = some r) : ∃ s, (∀ h', (∀ b, mapOf x E A = some b → h'[b]? = h[b]?) → Yld P o E A h' s) ∧ K s = some r := by
  unfold pLookup at hr
  split at hr
  · rename_i k e κ τ l hu hl
    split at hr
    · rename_i ei q he hy
      split at hr
      · rename_i xk z hxk hz
        obtain ⟨h1, hr2⟩ := bif_some hr
        clear hr
        simp only [Bool.and_eq_true, beq_iff_eq] at h1
        obtain ⟨hk, hag⟩ := h1
        have run : ∀ (h' : List Ob), (∀ b, mapOf x E A = some b → h'[b]? = h[b]?) → ∀ a w F m, SimE w F m h' → Opd E A o a w F m → ∃ u, (Instr.lookup t (a.eval x) (a.eval y) ok).run P w = .ok (if ok then .tuple #[u, .bool (mget κ τ l xk).isSome] else u) w ∧ Rd w F u (τ.enc ((mget κ τ l xk).getD z)) := fun h' hb a w F m hs hO => by
          have hv := mapL_rd hs hO (by simp [ho, Op.operands]) ((mapL_dep hb).trans hl)
          obtain ⟨sy, hsy, hco⟩ := Option.map_eq_some_iff.1 hy
          have ey := coS_rd (i := T k) (hO.rd (x := y) (by simp [ho, Op.operands]) hsy)
          rw [hco, ← getS_eq hxk] at ey
          rw [rd_key hk (rdP ey)]
          exact lookup_run hu hk hv (zero_val hT he hz hag w F) xk ok
        cases ok with
        | true =>
          refine ⟨_, fun h' hb => ?_, hr2⟩
          refine .of_still fun a w F m hs hO => ?_
          obtain ⟨u, h1, h2⟩ := run h' hb a w F m hs hO
          exact ⟨_, by simp [execOp, ho, h1], .tup (.cons (.p h2) (.cons (.p (.s _)) .nil))⟩
        | false =>
          refine ⟨_, fun h' hb => ?_, hr2⟩
          refine .of_still fun a w F m hs hO => ?_
          obtain ⟨u, h1, h2⟩ := run h' hb a w F m hs hO
          exact ⟨_, by simp [execOp, ho, h1], .p h2⟩
      · cases hr
    · cases hr
  · cases hr
/-- How many a map has. -/
def pMapLen (P : Program) (c : Call) (E : Env) (A : Tg) (h : List Ob) (K : SV → Option β) : Option β := match c.args.toList, c.argTypes.toList with
  | [x], [t] => match mapL x E A h, P.underlying t with
    | some ⟨κ, τ, l⟩, some (.map _ _) => K (vi (List.length (α := κ.den × τ.den) l : Int))
    | _, _ => none
  | _, _ => none
def lenOf (c : Call) (E : Env) (A : Tg) : Option Nat := match c.args.toList with
  | [x] => mapOf x E A
  | _ => none
theorem pMapLen_ok {c : Call} {K : SV → Option β} (ho : o.op = .call c) (hc : c.callee = .builtin .len) (hr : pMapLen P c E A h K = some r) : ∃ s, (∀ h', (∀ b, lenOf c E A = some b → h'[b]? = h[b]?) → Yld P o E A h' s) ∧ K s = some r := by
  unfold pMapLen at hr
  split at hr
  · rename_i x t ha hts
    split at hr
    · rename_i κ τ l k e hl hu
      refine ⟨_, fun h' hb => ?_, hr⟩
      have hb' : ∀ b, mapOf x E A = some b → h'[b]? = h[b]? := fun b hx => hb b (by simp only [lenOf, ha]; exact hx)
      refine .of_still fun a w F m hs hO => ?_
      have hmx : x ∈ o.op.operands := by rw [ho]; exact Array.mem_append.2 (.inr (Array.mem_toList_iff.1 (by rw [ha]; simp)))
      have hargs : c.args = #[x] := by cases hca : c.args; simp [hca] at ha; simp [ha]
      have hat : c.argTypes = #[t] := by cases hca : c.argTypes; simp [hca] at hts; simp [hts]
      rcases mapL_rd hs hO hmx ((mapL_dep hb').trans hl) with ⟨hv, rfl⟩ | ⟨b, es, cc, hv, hhb, hes⟩
      · exact ⟨_, by simp [execOp, ho, resolve, hc, invoke, builtin, hargs, hat, hv, Builtin.len_, run_underlying hu, goInt], .p (.s _)⟩
      · have hlen := hes.len
        exact ⟨_, by simp [execOp, ho, resolve, hc, invoke, builtin, hargs, hat, hv, Builtin.len_, run_underlying hu, goInt, MapKept.run_getObj_map hhb, ← hlen], .p (.s _)⟩
    · cases hr
  · cases hr
/-- m[k] = v. -/
noncomputable def eMapPut (P : Program) (T : Tab) (t : Nat) (x y z : Operand) (d : Option Nat) (E : Env) (h : List Ob) (K : Env → List Ob → Option β) : Option β := match d, P.underlying t, look E [] x with
  | none, some (.map k e), some (.mo j) => match h[j]?, (look E [] y).map (coS (T k)), (look E [] z).map (coS (T e)) with
    | some (.map κ τ l), some (.p q), some (.p qv) => match κ.getS q, τ.getS qv with
      | some xk, some yv => bif keyIs P k κ then K E (h.set j (.map κ τ (mput κ τ l xk yv))) else none
      | _, _ => none
    | _, _, _ => none
  | _, _, _ => none
theorem eMapPut_ok {t : Nat} {x y z : Operand} {K : Env → List Ob → Option β} (hoi : ops[i]? = some o) (hg : o.guard = none) (ho : o.op = .mapUpdate t x y z ∨ o.op = .insert t x y z)
    (hr : eMapPut P T t x y z o.dst E h K = some r) (hK : ∀ E' h', K E' h' = some r → WL P nt ops (i + 1) E' h' Q) : WL P nt ops i E h Q := by
  unfold eMapPut at hr
  split at hr
  · rename_i k e j hd hu hx
    split at hr
    · rename_i κ τ l q qv hob hy hz
      split at hr
      · rename_i xk yv hxk hyv
        obtain ⟨hk, hr⟩ := bif_some hr
        have hW := hK _ _ hr
        refine WL_op hoi hg fun {bs} a w F m hrel N Q hN => ?_
        have sim := hrel.sim
        have hO := hrel.opd (Tags.nil a) o
        have hops : o.op.operands = #[x, y, z] := by rcases ho with ho | ho <;> rw [ho] <;> rfl
        have hex : execOp a.eval o = (do Instr.mapUpdate t (a.eval x) (a.eval y) (a.eval z); pure .skip) := by rcases ho with ho | ho <;> simp only [execOp, ho] <;> rfl
        have ex := hO.rd (x := x) (by simp [hops]) hx
        obtain ⟨sy, hsy, hcy⟩ := Option.map_eq_some_iff.1 hy
        have ey := coS_rd (i := T k) (hO.rd (x := y) (by simp [hops]) hsy)
        rw [hcy, ← getS_eq hxk] at ey
        obtain ⟨sz, hsz, hcz⟩ := Option.map_eq_some_iff.1 hz
        have ez := coS_rd (i := T e) (hO.rd (x := z) (by simp [hops]) hsz)
        rw [hcz, ← getS_eq hyv] at ez
        replace ey := rdP ey
        replace ez := rdP ez
        obtain ⟨b', X, g1, g2, g3⟩ := sim.obj j _ hob rfl
        have ek := rd_key hk ey
        rw [ek] at ey
        generalize hva : a.eval x = va at ex
        cases ex with
        | @mo _ bb hm =>
          rw [hm] at g1
          simp only [Pl.obj.injEq] at g1
          subst g1
          cases g3 with
          | @map es c _ _ _ hes hb =>
          obtain ⟨rr, h1, h2, h3⟩ := find_run (P := P) hk xk hes
          have fin : ∀ (es' : Array MapEntry) (c' : Nat), (Instr.mapUpdate t (.map (some bb)) (keyV κ xk) (a.eval z)).run P w = .ok () (setBlock w bb (.map es' c')) → RdM w F κ τ es'.toList (mput κ τ l xk yv) → BornOk es' c' → o.wp P a w N Q := fun es' c' hrun hM hB => by
            obtain ⟨r1, r2⟩ := hrel.putMap hob hm g2 hM hB
            unfold Oper.wp
            have hrun' : (execOp a.eval o).run P w = .ok .skip (setBlock w bb (.map es' c')) := by
              simp [hex, hva, ek, hrun]
            rw [hrun']
            simp only [Oper.upon, hd]
            exact hN _ _ _ _ _ _ hW r1 r2
          unfold mput at fin
          cases hmf : mfind κ τ xk l 0 with
          | none =>
            rw [hmf] at fin
            refine fin (es.push { key := keyV κ xk, val := a.eval z, born := c }) (c + 1) ?_ ?_ ?_
            · simp [Instr.mapUpdate, run_underlying hu, MapKept.run_getObj_map g2, run_check hk, h1, h2 hmf, MapKept.run_setObj_map _ g2, setBlock]
            · rw [Array.toList_push]
              exact hes.snoc ey ez
            · refine ⟨?_, fun e' he' => ?_⟩
              · rw [Array.toList_push, List.map_append, List.pairwise_append]
                refine ⟨hb.1, by simp, fun p hp q hq => ?_⟩
                obtain ⟨e', he', rfl⟩ := List.mem_map.1 hp
                simp only [List.map_cons, List.map_nil, List.mem_singleton] at hq
                subst hq
                exact hb.2 e' he'
              · rw [Array.toList_push, List.mem_append] at he'
                rcases he' with he' | he'
                · exact Nat.lt_succ_of_lt (hb.2 e' he')
                · simp only [List.mem_singleton] at he'
                  subst he'
                  exact Nat.lt_succ_self c
          | some p =>
            obtain ⟨i', y'⟩ := p
            rw [hmf] at fin
            obtain ⟨e', h4, h5⟩ := h3 i' y' hmf
            obtain ⟨_, h6⟩ := mfind_at hmf
            have hold := rd_key hk (hes.at_ h4 (by simpa using h6)).1
            have h4' : es[i']? = some e' := by simpa using h4
            have hlt := (Array.getElem?_eq_some_iff.1 h4').1
            have e0 := (Array.getElem?_eq_some_iff.1 h4').2
            refine fin (es.modify i' fun e => { e with key := keyV κ xk, val := a.eval z }) c ?_ ?_ ?_
            · simp [Instr.mapUpdate, run_underlying hu, MapKept.run_getObj_map g2, run_check hk, h1, h5, h4', hold, run_stays hk, MapKept.run_setObj_map _ g2, setBlock]
            · have : (es.modify i' fun e => { e with key := keyV κ xk, val := a.eval z }).toList = es.toList.set i' { e' with key := keyV κ xk, val := a.eval z } := by
                rw [Array.toList_modify, ChangeMaps.modify_eq_set _ _ _ _ h4]
              rw [this]
              exact hes.set i' ey ez
            · have : (es.modify i' fun e => { e with key := keyV κ xk, val := a.eval z }).toList = es.toList.set i' { e' with key := keyV κ xk, val := a.eval z } := by
                rw [Array.toList_modify, ChangeMaps.modify_eq_set _ _ _ _ h4]
              refine ⟨?_, fun e2 he2 => ?_⟩
              · rw [this, List.map_set]
                have : (es.toList.map (·.born)).set i' e'.born = es.toList.map (·.born) := by
                  refine List.ext_getElem (by simp) fun n h1 h2 => ?_
                  rw [List.getElem_set]
                  split
                  · rename_i hn; subst hn; simp [e0]
                  · rfl
                rw [this]
                exact hb.1
              · rw [this] at he2
                rcases List.mem_or_eq_of_mem_set he2 with he2 | rfl
                · exact hb.2 e2 he2
                · exact hb.2 e' (by rw [← e0]; simp)
      · cases hr
    · cases hr
  · cases hr
end
end Go.Proofs.YtmjkflppajienaaDoor.R
