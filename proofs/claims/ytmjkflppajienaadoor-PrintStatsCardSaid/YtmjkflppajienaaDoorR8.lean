/- Things of one's own that nobody writes any more; no condition but the typed premises. -/
import Derived.Test.YtmjkflppajienaaDoorRAr
namespace Go.Proofs.YtmjkflppajienaaDoor.R
open Go Go.RowKit
set_option linter.unusedVariables false
set_option linter.unusedSimpArgs false
variable {bs : Nat → Nat}

def frzP : Ob → Nat → SV
  | .cells _ cs, off => match purL cs with
    | some qs => bif Nat.ble off qs.length then .padr (qs.drop off) else .any
    | none => .any
  | _, _ => .any
def frzM : Ob → SV
  | .map κ τ l => .p (.mp κ τ l)
  | _ => .any
mutual
/-- The thing j told as what it was left as. -/
def frzS (j : Nat) (ob : Ob) : SV → SV
  | .row e len o => bif Nat.beq o j then .any else .row e len o
  | .rp o n i off => bif Nat.beq o j then .any else .rp o n i off
  | .np o off => bif Nat.beq o j then .any else .np o off
  | .ptr o off => bif Nat.beq o j then frzP ob off else .ptr o off
  | .mo o => bif Nat.beq o j then frzM ob else .mo o
  | .agg cs => .agg (frzL j ob cs)
  | .tup cs => .tup (frzL j ob cs)
  | .fn f cs => .fn f (frzL j ob cs)
  | s => s
def frzL (j : Nat) (ob : Ob) : List SV → List SV
  | [] => []
  | s :: ss => frzS j ob s :: frzL j ob ss
end
def frzE (j : Nat) (ob : Ob) : Env → Env
  | [] => []
  | (t, tg, s) :: E => (t, tg, frzS j ob s) :: frzE j ob E
def frzOb (j : Nat) (ob : Ob) : Ob → Ob
  | .cells t cs => .cells t (frzL j ob cs)
  | o => o
def frzO (j : Nat) (ob : Ob) : List Ob → List Ob
  | [] => []
  | o :: h => frzOb j ob o :: frzO j ob h
/-- No pin holds the thing. -/
def noPin (j : Nat) : List Ob → Bool
  | [] => true
  | .pin i :: h => !Nat.beq i j && noPin j h
  | _ :: h => noPin j h
theorem noPin_get {j : Nat} : ∀ {h : List Ob} {k i : Nat}, noPin j h = true → h[k]? = some (.pin i) → i ≠ j
  | [], k, i, _, hk => by simp at hk
  | o :: h, 0, i, hn, hk => by
    simp only [List.getElem?_cons_zero, Option.some.injEq] at hk
    subst hk
    simp only [noPin, Bool.and_eq_true, Bool.not_eq_true'] at hn
    rintro rfl
    rw [Nat.beq_refl] at hn
    cases hn.1
  | o :: h, k + 1, i, hn, hk => by
    rw [List.getElem?_cons_succ] at hk
    refine noPin_get (h := h) ?_ hk
    cases o <;> simp only [noPin, Bool.and_eq_true] at hn <;> first | exact hn | exact hn.2
mutual
theorem RdS.frz {w : World} {F F' : Fz} {m m' : Mp} {j bl : Nat} {ob : Ob} (k : Ext w F w F') (hs : ∀ i, i ≠ j → m' i = m i) (hj : m j = .obj bl)
    (hp : ∀ off, RdS w F' m' (.pointer (some ⟨bl, off, none⟩)) (frzP ob off)) (hM : RdS w F' m' (.map (some bl)) (frzM ob)) {v : Value} {s : SV} : RdS w F m v s → RdS w F' m' v (frzS j ob s)
  | .p h => .p (h.ext k)
  | .own0 (j := i) hm => .own0 ((hs i (by rintro rfl; rw [hj] at hm; cases hm)).trans hm)
  | .owne (j := i) ad hm => .owne ad ((hs i (by rintro rfl; rw [hj] at hm; cases hm)).trans hm)
  | .ownx (j := i) hn hr hm => .ownx hn (hr.ext k) ((hs i (by rintro rfl; rw [hj] at hm; cases hm)).trans hm)
  | .own (j := i) hn hr hm hb hc hcm hsz => .own hn (hr.ext k) ((hs i (by rintro rfl; rw [hj] at hm; cases hm)).trans hm) hb hc hcm hsz
  | .ptr (o := i) (off := off) hm => by
    simp only [frzS]
    cases hb : Nat.beq i j with
    | true =>
      obtain rfl := Nat.eq_of_beq_eq_true hb
      rw [hj] at hm
      simp only [Pl.obj.injEq] at hm
      subst hm
      exact hp off
    | false => exact .ptr ((hs i (by rintro rfl; rw [Nat.beq_refl] at hb; cases hb)).trans hm)
  | .row (o := i) hm => by
    simp only [frzS]
    cases hb : Nat.beq i j with
    | true => exact .any _
    | false => exact .row ((hs i (by rintro rfl; rw [Nat.beq_refl] at hb; cases hb)).trans hm)
  | .padr hr => .padr (hr.ext k)
  | .agg h1 h => .agg h1 (RdSL.frz k hs hj hp hM h)
  | .tup h => .tup (RdSL.frz k hs hj hp hM h)
  | .fn h => .fn (RdSL.frz k hs hj hp hM h)
  | .np0 (o := i) => by
    simp only [frzS]
    cases hb : Nat.beq i j with
    | true => exact .any _
    | false => exact .np0
  | .np1 (o := i) hm => by
    simp only [frzS]
    cases hb : Nat.beq i j with
    | true => exact .any _
    | false => exact .np1 ((hs i (by rintro rfl; rw [Nat.beq_refl] at hb; cases hb)).trans hm)
  | .mo (o := i) hm => by
    simp only [frzS]
    cases hb : Nat.beq i j with
    | true =>
      obtain rfl := Nat.eq_of_beq_eq_true hb
      rw [hj] at hm
      simp only [Pl.obj.injEq] at hm
      subst hm
      exact hM
    | false => exact .mo ((hs i (by rintro rfl; rw [Nat.beq_refl] at hb; cases hb)).trans hm)
  | .rp (o := i) hm => by
    simp only [frzS]
    cases hb : Nat.beq i j with
    | true => exact .any _
    | false => exact .rp ((hs i (by rintro rfl; rw [Nat.beq_refl] at hb; cases hb)).trans hm)
  | .any v => .any v
  | .bf0 (j := i) hm => .bf0 ((hs i (by rintro rfl; rw [hj] at hm; cases hm)).trans hm)
  | .bf (j := i) hr hm hb hc hcm hsz => .bf (hr.ext k) ((hs i (by rintro rfl; rw [hj] at hm; cases hm)).trans hm) hb hc hcm hsz
  | .rw (j := i) hm hb hc hcm hsz => .rw ((hs i (by rintro rfl; rw [hj] at hm; cases hm)).trans hm) hb hc hcm hsz
theorem RdSL.frz {w : World} {F F' : Fz} {m m' : Mp} {j bl : Nat} {ob : Ob} (k : Ext w F w F') (hs : ∀ i, i ≠ j → m' i = m i) (hj : m j = .obj bl)
    (hp : ∀ off, RdS w F' m' (.pointer (some ⟨bl, off, none⟩)) (frzP ob off)) (hM : RdS w F' m' (.map (some bl)) (frzM ob)) {vs : List Value} {ss : List SV} : RdSL w F m vs ss → RdSL w F' m' vs (frzL j ob ss)
  | .nil => .nil
  | .cons h ht => .cons (RdS.frz k hs hj hp hM h) (RdSL.frz k hs hj hp hM ht)
end
theorem frzE_get {j : Nat} {ob : Ob} : ∀ {E : Env} {t : Nat} {tg : Tg} {s : SV}, (frzE j ob E).get t = some (tg, s) → ∃ s', E.get t = some (tg, s') ∧ s = frzS j ob s'
  | [], t, tg, s, h => by simp [frzE, Env.get] at h
  | (u, tg', s') :: E, t, tg, s, h => by
    simp only [frzE, Env.get] at h ⊢
    cases hb : Nat.beq u t with
    | true => rw [hb] at h; simp only [cond_true, Option.some.injEq, Prod.mk.injEq] at h ⊢; exact ⟨s', ⟨h.1, rfl⟩, h.2.symm⟩
    | false => rw [hb] at h; exact frzE_get h
theorem frzO_eq {j : Nat} {ob : Ob} : ∀ {h : List Ob}, frzO j ob h = h.map (frzOb j ob)
  | [] => rfl
  | o :: h => by simp [frzO, frzO_eq (h := h)]
theorem frzO_get {j : Nat} {ob : Ob} {h : List Ob} {i : Nat} {o : Ob} (hi : (frzO j ob h)[i]? = some o) : ∃ o', h[i]? = some o' ∧ o = frzOb j ob o' := by
  rw [frzO_eq, List.getElem?_map] at hi
  obtain ⟨o', h1, h2⟩ := Option.map_eq_some_iff.1 hi
  exact ⟨o', h1, h2.symm⟩
theorem RdO.frz {w : World} {F F' : Fz} {m m' : Mp} {j bl : Nat} {ob : Ob} (k : Ext w F w F') (hs : ∀ i, i ≠ j → m' i = m i) (hj : m j = .obj bl)
    (hp : ∀ off, RdS w F' m' (.pointer (some ⟨bl, off, none⟩)) (frzP ob off)) (hM : RdS w F' m' (.map (some bl)) (frzM ob)) {x : Obj} {o : Ob} (h : RdO w F m x o) : RdO w F' m' x (frzOb j ob o) := by
  cases h with
  | cells h h1 => exact .cells (h.frz k hs hj hp hM) h1
  | row h hn => exact .row (h.ext k) hn
  | map h hb => exact .map (h.ext k) hb
theorem RdL.getD {w : World} {F : Fz} : ∀ {vs : List Value} {ps : List PV}, RdL w F vs ps → ∀ n, RdL w F (vs.drop n) (ps.drop n)
  | _, _, h, 0 => h
  | [], _, .nil, n + 1 => .nil
  | _ :: vs, _ :: ps, .cons _ _ hs, n + 1 => by simpa using RdL.getD hs n
section
variable {nt : Nat} {E : Env} {h : List Ob}
/-- From here on the thing j is not written. -/
theorem Rel.frz {w : World} {F : Fz} {m : Mp} {a : Act} {j : Nat} {ob : Ob} (hr : Rel bs nt w F m E h a) (hob : h[j]? = some ob) (ho : ob.isO = true) (hn : noPin j h = true) :
    ∃ F' m' bl x, m j = .obj bl ∧ w.heap[bl]? = some x ∧ RdO w F' m x ob ∧ (∀ o, F' bl o) ∧ Rel bs nt w F' m' (frzE j ob E) ((frzO j ob h).set j .tail) a ∧ Gr w F m w F' m' := by
  have sim := hr.sim
  obtain ⟨bl, x, g1, g2, g3⟩ := sim.obj j ob hob ho
  have hjl := (List.getElem?_eq_some_iff.1 hob).1
  have ext : Ext w F w (fun b o => F b o ∨ b = bl) := fun b o hF => ⟨.inl hF, rfl⟩
  have hs : ∀ i, i ≠ j → upd m j .no i = m i := fun i hi => upd_other hi
  have hlen : ((frzO j ob h).set j .tail).length = h.length := by simp [frzO_eq]
  have hjl' : j < (frzO j ob h).length := by simpa [frzO_eq] using hjl
  have get : ∀ {i : Nat} {o : Ob}, ((frzO j ob h).set j .tail)[i]? = some o → (i = j ∧ o = .tail) ∨ (i ≠ j ∧ ∃ o', h[i]? = some o' ∧ o = frzOb j ob o') := fun {i o} hi => by
    by_cases hij : i = j
    · subst hij; rw [List.getElem?_set_self hjl'] at hi; exact .inl ⟨rfl, (Option.some.inj hi).symm⟩
    · rw [List.getElem?_set_ne (fun e => hij e.symm)] at hi; exact .inr ⟨hij, frzO_get hi⟩
  have hp : ∀ off, RdS w (fun b o => F b o ∨ b = bl) (upd m j .no) (.pointer (some ⟨bl, off, none⟩)) (frzP ob off) := fun off => by
    cases g3 with
    | @cells cur t cs hc h1 =>
      simp only [frzP]
      split
      · rename_i qs hq
        cases hb : Nat.ble off qs.length with
        | false => exact .any _
        | true =>
          have hL := (purL_rd hq h1 hc).ext ext
          refine .padr (RdC.of_vals (hL.getD off) (fun k u hk => ?_) fun k _ => .inr rfl)
          rw [List.getElem?_drop] at hk
          simp only [World.cell?, g2]
          simpa using hk
      · exact .any _
    | row _ _ => exact .any _
    | map _ _ => exact .any _
  have hM : RdS w (fun b o => F b o ∨ b = bl) (upd m j .no) (.map (some bl)) (frzM ob) := by
    cases g3 with
    | cells _ _ => exact .any _
    | row _ _ => exact .any _
    | @map es c κ τ l h hb => exact .p (.mp (c := c) (.inr rfl) (by simp only [mapAt, g2]) hb (h.ext ext))
  have tailO : ∀ {o' : Ob}, Ob.tail = frzOb j ob o' → o' = .tail := fun {o'} h2 => by cases o' <;> simp [frzOb] at h2 <;> rfl
  have pinO : ∀ {o' : Ob} {i : Nat}, Ob.pin i = frzOb j ob o' → o' = .pin i := fun {o' i} h2 => by
    cases o' <;> simp [frzOb] at h2
    subst h2; rfl
  have markO : h[j]? ≠ some .mark := fun e => by rw [hob] at e; obtain rfl := Option.some.inj e; cases ho
  refine ⟨fun b o => F b o ∨ b = bl, upd m j .no, bl, x, g1, g2, g3.keep ext (fun i _ _ => Same.refl _ _ _), fun o => .inr rfl, ⟨hr.size, hr.defers.same fun i D h1 h2 _ _ => ?_, fun t' tg s hs' => ?_, ?_⟩, ?_⟩
  · have hij : i ≠ j := by rintro rfl; exact markO h1
    exact ⟨by rw [List.getElem?_set_ne (fun h => hij h.symm), frzO_eq, List.getElem?_map, h1]; rfl, (upd_other hij).trans h2, rfl⟩
  · obtain ⟨s', h1, rfl⟩ := frzE_get hs'
    exact (hr.env t' tg s' h1).imp (fun z => ⟨z.1, RdS.frz ext hs g1 hp hM z.2⟩) _root_.id
  · refine ⟨fun b o hF => ?_, fun i b hi => ?_, fun i b o hF hh => ?_, fun i i' b hi hi' => ?_, fun i hi => ?_, fun i o hi ho2 => ?_, fun i hi b => ?_, fun k i hi => ?_, ext.kn sim.kn⟩
    · rcases hF with h1 | rfl
      · exact sim.fl b o h1
      · exact sim.lt j b (by simp [g1, Pl.blk])
    · by_cases hij : i = j
      · subst hij; rw [upd_same] at hi; simp [Pl.blk] at hi
      · rw [upd_other hij] at hi; exact sim.lt i b hi
    · by_cases hij : i = j
      · subst hij; rw [upd_same] at hh; exact hh
      · rw [upd_other hij] at hh
        rcases hF with h1 | rfl
        · exact sim.fr i b o h1 hh
        · exact hij (sim.inj i j b (Pl.has_blk hh) (by simp [g1, Pl.blk]))
    · by_cases hij : i = j
      · subst hij; rw [upd_same] at hi; simp [Pl.blk] at hi
      · by_cases hij' : i' = j
        · subst hij'; rw [upd_same] at hi'; simp [Pl.blk] at hi'
        · rw [upd_other hij] at hi; rw [upd_other hij'] at hi'; exact sim.inj i i' b hi hi'
    · rw [hlen] at hi
      rw [upd_other (by omega)]
      exact sim.dom i hi
    · rcases get hi with ⟨rfl, rfl⟩ | ⟨hij, o', h1, rfl⟩
      · cases ho2
      · obtain ⟨b2, x2, k1, k2, k3⟩ := sim.obj i o' h1 (by cases o' <;> first | rfl | exact ho2)
        exact ⟨b2, x2, (upd_other hij).trans k1, k2, RdO.frz ext hs g1 hp hM k3⟩
    · rcases get hi with ⟨rfl, _⟩ | ⟨hij, o', h1, h2⟩
      · rw [upd_same]; exact fun h => by cases h
      · rw [upd_other hij]; exact sim.tl i (tailO h2 ▸ h1) b
    · rcases get hi with ⟨rfl, h2⟩ | ⟨hij, o', h1, h2⟩
      · cases h2
      · have h3 := pinO h2
        subst h3
        rw [upd_other (noPin_get hn h1)]
        exact sim.pn k i h1
  · refine ⟨rfl, rfl, rfl, Nat.le_refl _, ext, fun _ _ _ => rfl, fun i b o hh _ => ?_, fun b o hF => ?_⟩
    · by_cases hij : i = j
      · subst hij; rw [upd_same] at hh; exact hh.elim
      · rw [upd_other hij] at hh; exact ⟨i, hh⟩
    · rcases hF with h1 | rfl
      · exact .inl h1
      · exact .inr (.inr ⟨j, by rw [g1]; rfl⟩)
/-- A row of one's own that is not written any more. -/
theorem Rel.frzRow {w : World} {F : Fz} {m : Mp} {a : Act} {t j e len u n : Nat} {τ : Ty} {xs : List τ.den} (hr : Rel bs nt w F m E h a) (hob : h[j]? = some (.row u n τ xs)) (hn : noPin j h = true) (ht : E.get t = some ([], .row e len j)) (hlen : xs.length = len) :
    ∃ F' m', Rel bs nt w F' m' ((t, [], .p (.sl n τ xs)) :: frzE j (.row u n τ xs) E) ((frzO j (.row u n τ xs) h).set j .tail) a ∧ Gr w F m w F' m' := by
  obtain ⟨F', m', bl, x, g1, g2, g3, g4, hr', hg⟩ := hr.frz hob rfl hn
  refine ⟨F', m', ⟨hr'.size, hr'.defers, fun t' tg s hs => ?_, hr'.sim⟩, hg⟩
  simp only [Env.get] at hs
  cases hb : Nat.beq t t' with
  | true =>
    rw [hb] at hs
    simp only [cond_true, Option.some.injEq, Prod.mk.injEq] at hs
    obtain ⟨rfl, rfl⟩ := hs
    obtain rfl := Nat.eq_of_beq_eq_true hb
    refine .inl ⟨Tags.nil _, ?_⟩
    have hrow := hr.rd _ [] _ ht (Tags.nil a)
    generalize a.tmps.getD t undef = v at hrow
    cases hrow with
    | @row _ _ _ b hm =>
      rw [hm] at g1
      simp only [Pl.obj.injEq] at g1
      subst g1
      subst hlen
      cases g3 with
      | @row cur _ _ _ _ hrd hn =>
        have e1 : (xs.map τ.enc).flatMap PV.cells = xs.flatMap fun x => (τ.enc x).cells := by rw [List.flatMap_map]
        refine .p (.sl (fun q hq => by obtain ⟨x, hx, rfl⟩ := List.mem_map.1 hq; exact hn x hx) (Nat.le_refl _) (RdC.of_vals (vs := cur.toList) (by rw [e1]; exact hrd) (fun k u hk => ?_) fun k _ => g4 _))
        rw [Nat.zero_add]
        simp only [World.cell?, g2]
        simpa using hk
  | false =>
    rw [hb] at hs
    simp only [cond_false] at hs
    exact hr'.env t' tg s hs
/-- An array of one's own that is not written any more. -/
theorem Rel.frzCells {w : World} {F : Fz} {m : Mp} {a : Act} {t j e len u : Nat} {τ : Ty} {cs : List SV} {v : Vec τ.den len} (hr : Rel bs nt w F m E h a) (hob : h[j]? = some (.cells u cs)) (hn : noPin j h = true) (ht : E.get t = some ([], .row e len j)) (hv : segV τ len cs = some v) (hτa : τ.isAg = false) :
    ∃ F' m', Rel bs nt w F' m' ((t, [], .p (.sl 1 τ (vlist len v))) :: frzE j (.cells u cs) E) ((frzO j (.cells u cs) h).set j .tail) a ∧ Gr w F m w F' m' := by
  obtain ⟨F', m', bl, x, g1, g2, g3, g4, hr', hg⟩ := hr.frz hob rfl hn
  refine ⟨F', m', ⟨hr'.size, hr'.defers, fun t' tg s hs => ?_, hr'.sim⟩, hg⟩
  simp only [Env.get] at hs
  cases hb : Nat.beq t t' with
  | true =>
    rw [hb] at hs
    simp only [cond_true, Option.some.injEq, Prod.mk.injEq] at hs
    obtain ⟨rfl, rfl⟩ := hs
    obtain rfl := Nat.eq_of_beq_eq_true hb
    refine .inl ⟨Tags.nil _, ?_⟩
    have hrow := hr.rd _ [] _ ht (Tags.nil a)
    generalize a.tmps.getD t undef = v' at hrow
    cases hrow with
    | @row _ _ _ b hm =>
      rw [hm] at g1
      simp only [Pl.obj.injEq] at g1
      subst g1
      cases g3 with
      | @cells cur _ _ hcs h1 =>
        obtain ⟨s1, s2⟩ := segV_rd hv hτa h1 hcs
        have e1 : ((vlist len v).map τ.enc).flatMap PV.cells = (vlist len v).map τ.enc := by rw [List.flatMap_map]; exact map_enc_one hτa _
        have := Rd.sl (w := w) (F := F') (b := b) (off := 0) (cap := len) (n := 1) (τ := τ) (xs := vlist len v) (fun q hq => by obtain ⟨z, _, rfl⟩ := List.mem_map.1 hq; rw [enc_one hτa]; rfl) (by rw [vlist_length]; exact Nat.le_refl _) (by
          rw [e1]
          refine RdC.of_vals s1 (fun k u hk => ?_) fun k _ => g4 _
          rw [List.getElem?_take] at hk
          split at hk
          · rw [Nat.zero_add]
            simp only [World.cell?, g2]
            simpa using hk
          · cases hk)
        rw [vlist_length] at this
        exact .p this
  | false =>
    rw [hb] at hs
    simp only [cond_false] at hs
    exact hr'.env t' tg s hs
end
/-- What is known in one way is known in another way, too. -/
def Frz (nt : Nat) (E : Env) (h : List Ob) (E' : Env) (h' : List Ob) : Prop := ∀ {bs : Nat → Nat} a w F m, Rel bs nt w F m E h a → ∃ F' m', Rel bs nt w F' m' E' h' a ∧ Gr w F m w F' m'
theorem Frz.refl {nt : Nat} (E : Env) (h : List Ob) : Frz nt E h E h := fun a w F m hr => ⟨F, m, hr, Gr.refl _ _ _⟩
theorem Frz.trans {nt : Nat} {E E' E'' : Env} {h h' h'' : List Ob} (k : Frz nt E h E' h') (k' : Frz nt E' h' E'' h'') : Frz nt E h E'' h'' := fun a w F m hr => by
  obtain ⟨F', m', h1, h2⟩ := k a w F m hr
  obtain ⟨F'', m'', h3, h4⟩ := k' a w F' m' h1
  exact ⟨F'', m'', h3, h2.trans h4⟩
/-- Are two numbers one? -/
def eqn (a b : Nat) : Option Unit := if a = b then some () else none
theorem eqn_of {a b : Nat} {u : Unit} (h : eqn a b = some u) : a = b := by
  unfold eqn at h
  split at h
  · assumption
  · cases h
section
variable {β : Type} {r : β} {nt : Nat}
/-- The type of things of one cell, told by the first. -/
def autoT : List SV → Option Ty
  | .p (.s (.int k _)) :: _ => some (.i k)
  | .p (.s (.bool _)) :: _ => some .b
  | .p (.s (.string _)) :: _ => some .s
  | _ => none
/-- A temporary's row is not written any more. -/
def frzT (t : Nat) (E : Env) (h : List Ob) (K : Env → List Ob → Option β) : Option β := match E.get t with
  | some ([], .row _ len j) => match h[j]? with
    | some (.row u n τ xs) => bif noPin j h then (eqn xs.length len).bind fun _ => K ((t, [], .p (.sl n τ xs)) :: frzE j (.row u n τ xs) E) ((frzO j (.row u n τ xs) h).set j .tail) else K E h
    | some (.cells u cs) => (match autoT cs with
      | some τ => (match segV τ len cs with
        | some v => bif noPin j h && !τ.isAg then K ((t, [], .p (.sl 1 τ (vlist len v))) :: frzE j (.cells u cs) E) ((frzO j (.cells u cs) h).set j .tail) else K E h
        | none => K E h)
      | none => K E h)
    | _ => K E h
  | _ => K E h
theorem frzT_of {t : Nat} {E : Env} {h : List Ob} {K : Env → List Ob → Option β} (hr : frzT t E h K = some r) : ∃ E' h', Frz nt E h E' h' ∧ K E' h' = some r := by
  unfold frzT at hr
  split at hr
  · rename_i e len j ht
    split at hr
    · rename_i u n τ xs hob
      cases hb : noPin j h with
      | true =>
        rw [hb] at hr
        simp only [cond_true] at hr
        obtain ⟨y, hy, hK⟩ := bd hr
        exact ⟨_, _, fun a w F m hrel => hrel.frzRow hob hb ht (eqn_of hy), hK⟩
      | false => rw [hb] at hr; exact ⟨E, h, Frz.refl _ _, hr⟩
    · rename_i u cs hob
      split at hr
      · rename_i τ _
        split at hr
        · rename_i v hv
          cases hb : (noPin j h && !τ.isAg) with
          | true =>
            rw [hb] at hr
            simp only [cond_true] at hr
            simp only [Bool.and_eq_true, Bool.not_eq_true'] at hb
            exact ⟨_, _, fun a w F m hrel => hrel.frzCells hob hb.1 ht hv hb.2, hr⟩
          | false => rw [hb] at hr; exact ⟨E, h, Frz.refl _ _, hr⟩
        · exact ⟨E, h, Frz.refl _ _, hr⟩
      · exact ⟨E, h, Frz.refl _ _, hr⟩
    · exact ⟨E, h, Frz.refl _ _, hr⟩
  · exact ⟨E, h, Frz.refl _ _, hr⟩
/-- A variable to which a temporary points is not written any more. -/
def frzTP (t : Nat) (E : Env) (h : List Ob) (K : Env → List Ob → Option β) : Option β := match E.get t with
  | some ([], .ptr j _) => (match h[j]? with
    | some (.cells u cs) => (match purL cs with
      | some _ => bif noPin j h then K (frzE j (.cells u cs) E) ((frzO j (.cells u cs) h).set j .tail) else K E h
      | none => K E h)
    | _ => K E h)
  | _ => frzT t E h K
theorem frzTP_of {t : Nat} {E : Env} {h : List Ob} {K : Env → List Ob → Option β} (hr : frzTP t E h K = some r) : ∃ E' h', Frz nt E h E' h' ∧ K E' h' = some r := by
  unfold frzTP at hr
  split at hr
  · split at hr
    · rename_i hob
      split at hr
      · cases hb : noPin _ h with
        | true =>
          rw [hb] at hr
          simp only [cond_true] at hr
          exact ⟨_, _, fun a w F m hrel => by obtain ⟨F', m', _, _, _, _, _, _, hr', hg⟩ := hrel.frz hob rfl hb; exact ⟨F', m', hr', hg⟩, hr⟩
        | false => rw [hb] at hr; exact ⟨E, h, Frz.refl _ _, hr⟩
      · exact ⟨E, h, Frz.refl _ _, hr⟩
    · exact ⟨E, h, Frz.refl _ _, hr⟩
  · exact frzT_of hr
def frzOps : List Operand → Env → List Ob → (Env → List Ob → Option β) → Option β
  | [], E, h, K => K E h
  | .tmp t :: l, E, h, K => frzTP t E h fun E h => frzOps l E h K
  | _ :: l, E, h, K => frzOps l E h K
theorem frzOps_of : ∀ {l : List Operand} {E : Env} {h : List Ob} {K : Env → List Ob → Option β}, frzOps l E h K = some r → ∃ E' h', Frz nt E h E' h' ∧ K E' h' = some r
  | [], E, h, K, hr => ⟨E, h, Frz.refl _ _, hr⟩
  | x :: l, E, h, K, hr => by
    cases x with
    | tmp t =>
      obtain ⟨E1, h1, k1, hr1⟩ := frzTP_of hr
      obtain ⟨E2, h2, k2, hr2⟩ := frzOps_of hr1
      exact ⟨E2, h2, k1.trans k2, hr2⟩
    | _ => exact frzOps_of (l := l) hr
def frzRes : List ResultVar → Env → List Ob → (Env → List Ob → Option β) → Option β
  | [], E, h, K => K E h
  | .tmp t :: l, E, h, K => frzT t E h fun E h => frzRes l E h K
  | _ :: l, E, h, K => frzRes l E h K
theorem frzRes_of : ∀ {l : List ResultVar} {E : Env} {h : List Ob} {K : Env → List Ob → Option β}, frzRes l E h K = some r → ∃ E' h', Frz nt E h E' h' ∧ K E' h' = some r
  | [], E, h, K, hr => ⟨E, h, Frz.refl _ _, hr⟩
  | x :: l, E, h, K, hr => by
    cases x with
    | tmp t =>
      obtain ⟨E1, h1, k1, hr1⟩ := frzT_of hr
      obtain ⟨E2, h2, k2, hr2⟩ := frzRes_of hr1
      exact ⟨E2, h2, k1.trans k2, hr2⟩
    | _ => exact frzRes_of (l := l) hr
/-- Rows that are wanted as values. -/
def fitE : ESh → Env → List Ob → (Env → List Ob → Option β) → Option β
  | [], E, h, K => K E h
  | (t, .p _) :: l, E, h, K => frzT t E h fun E h => fitE l E h K
  | _ :: l, E, h, K => fitE l E h K
theorem fitE_of : ∀ {l : ESh} {E : Env} {h : List Ob} {K : Env → List Ob → Option β}, fitE l E h K = some r → ∃ E' h', Frz nt E h E' h' ∧ K E' h' = some r
  | [], E, h, K, hr => ⟨E, h, Frz.refl _ _, hr⟩
  | (t, s) :: l, E, h, K, hr => by
    cases s with
    | p τ =>
      obtain ⟨E1, h1, k1, hr1⟩ := frzT_of hr
      obtain ⟨E2, h2, k2, hr2⟩ := fitE_of hr1
      exact ⟨E2, h2, k1.trans k2, hr2⟩
    | _ => exact fitE_of (l := l) hr
end
section
variable {P : Program} {nt : Nat} {Q : QB} {E E' : Env} {h h' : List Ob}
theorem WL_frz {ops : Array Oper} {i : Nat} (k : Frz nt E h E' h') (hW : WL P nt ops i E' h' Q) : WL P nt ops i E h Q := ⟨fun a w F m hr => by
  obtain ⟨F', m', h1, h2⟩ := k a w F m hr
  exact wpOps_mono (fun x a'' w'' ⟨E'', h'', F'', m'', hQ, hrel, hgg⟩ => ⟨E'', h'', F'', m'', hQ, hrel, h2.trans hgg⟩) _ _ _ (WL.out hW a w F' m' h1)⟩
theorem W_frz {c : Code} (k : Frz nt E h E' h') (hW : W P nt c E' h' Q) : W P nt c E h Q :=
  ⟨fun a w F m hr => by
    obtain ⟨F', m', h1, h2⟩ := k a w F m hr
    exact wp_mono (hW.out a w F' m' h1) fun x a' w' hp => hp.of h2 fun _ _ _ h => h,
   fun hp hq l r a w F m hr => by
    obtain ⟨F', m', h1, h2⟩ := k a w F m hr
    exact wpIn_mono (hW.inn hp hq l r a w F' m' h1) fun x a' w' hp => hp.of h2 fun _ _ _ h => h⟩
theorem W_frzEnd {c : Code} (hW : W P nt c E h fun x E1 h1 => ∃ E' h', Frz nt E1 h1 E' h' ∧ Q x E' h') : W P nt c E h Q := by
  have key : ∀ {bs : Nat → Nat} {w F m e a' w'}, Post bs nt (fun x E1 h1 => ∃ E' h', Frz nt E1 h1 E' h' ∧ Q x E' h') w F m e a' w' → Post bs nt Q w F m e a' w' := by
    rintro _ w F m e a' w' ⟨E1, h1, F1, m1, ⟨E', h', k, hQ⟩, hr, hg⟩
    obtain ⟨F', m', h1, h2⟩ := k a' w' F1 m1 hr
    exact ⟨E', h', F', m', hQ, h1, hg.trans h2⟩
  exact ⟨fun a w F m hr => wp_mono (hW.out a w F m hr) fun _ _ _ => key, fun hp hn l n a w F m hr => wpIn_mono (hW.inn hp (fun E1 h1 ⟨E', h', _, hQ⟩ => hn _ _ hQ) l n a w F m hr) fun _ _ _ => key⟩
end
end Go.Proofs.YtmjkflppajienaaDoor.R
