/- A region that draws its order, some of whose operations make or turn what is owned: a walk in their own order serves every order; no condition but the typed premises. -/
import Derived.Test.YtmjkflppajienaaDoorRM
namespace Go.Proofs.YtmjkflppajienaaDoor.R
open Go Go.RowKit
set_option linter.unusedVariables false
set_option linter.unusedSimpArgs false
variable {bs : Nat → Nat}
section
variable {P : Program} {T : Tab} {nt : Nat} {ops : Array Oper} {h : List Ob} {E E1 : Env} {n : Nat}

/-- Every order, told by what holds of each set of operations that may have been carried out. -/
theorem any_of {Inv : Array Bool → Act → World → Prop} {n : Nat} {Q : Exit → Act → World → Prop} (hf : fwdOk ops = true) (ht : tailOk ops n = true) (hn : n ≤ ops.size)
    (hI : ∀ L a w, Inv L a w → L.size = ops.size ∧ (∀ j oj, ops[j]? = some oj → L.getD j false = true → ∀ e ∈ oj.after, Region.binds .any e = true → L.getD e.on false = true) ∧ ∀ t, n ≤ t → L.getD t false = false)
    (hS : ∀ L a w j, Inv L a w → j ∈ Region.ready .any ops L → j < n → ∀ K : Act → World → Prop, (∀ a' w', Inv (L.setIfInBounds j true) a' w' → K a' w') → wpOp P ops Q j K a w)
    (hK : ∀ L a w, (∀ i, i < n → L.getD i false = true) → Inv L a w → wpOps P ops Q (List.range' n (ops.size - n)) a w) : ∀ (fuel : Nat) (listed : Array Bool) (a : Act) (w : World), Inv listed a w →
    (((List.range n).filter fun i => !listed.getD i false).length + (ops.size - n) ≤ fuel) → wpAny P .any ops Q fuel listed a w := by
  have fwd : ∀ j o, ops[j]? = some o → ∀ e ∈ o.after, Region.binds .any e = true → e.on < j := by
    intro j o ho e he hb
    have hlt := (Array.getElem?_eq_some_iff.1 ho).1
    have h1 := List.all_eq_true.1 hf j (List.mem_range.2 hlt)
    simp only [ho] at h1
    have h2 := List.all_eq_true.1 h1 e (Array.mem_toList_iff.2 he)
    rw [hb] at h2
    exact of_blt (by simpa using h2)
  -- the tail: one by one
  have tail : ∀ (d t : Nat), ops.size - t = d → n ≤ t → ∀ (fuel : Nat) (listed : Array Bool) (a : Act) (w : World), listed.size = ops.size → (∀ i, i < t → listed.getD i false = true) → (∀ i, t ≤ i → listed.getD i false = false) → d ≤ fuel →
      wpOps P ops Q (List.range' t d) a w → wpAny P .any ops Q fuel listed a w := by
    intro d
    induction d with
    | zero =>
      intro t hd hnt fuel listed a w hs h1 h2 hfu hq
      have hnone : Region.ready .any ops listed = [] := by
        refine List.eq_nil_iff_forall_not_mem.2 fun i hi => ?_
        obtain ⟨g1, o, g2, _⟩ := listed_ready hs hi
        have := (Array.getElem?_eq_some_iff.1 g2).1
        rw [h1 i (by omega)] at g1
        cases g1
      cases fuel with
      | zero => exact ⟨hnone, hq⟩
      | succ fuel => exact ⟨fun _ => hq, fun i hi => by rw [hnone] at hi; cases hi⟩
    | succ d ih =>
      intro t hd hnt fuel listed a w hs h1 h2 hfu hq
      obtain ⟨fuel, rfl⟩ : ∃ f, fuel = f + 1 := ⟨fuel - 1, by omega⟩
      have hlt : t < ops.size := by omega
      have hot : ops[t]? = some ops[t] := by simp [hlt]
      have hrt : t ∈ Region.ready .any ops listed := mem_ready.2 ⟨by rw [getD_bools (by omega)]; exact h2 t (Nat.le_refl _), ops[t], hot, fun e he hb => h1 e.on (fwd t _ hot e he hb)⟩
      refine ⟨fun hnil => (by rw [hnil] at hrt; cases hrt), fun i hi => ?_⟩
      obtain ⟨g1, o, g2, g3⟩ := listed_ready hs hi
      have hit : i = t := by
        by_cases hti : i < t
        · rw [h1 i hti] at g1; cases g1
        · by_cases hte : i = t
          · exact hte
          · exfalso
            have hil := (Array.getElem?_eq_some_iff.1 g2).1
            have h3 := List.all_eq_true.1 ht (i - n) (List.mem_range.2 (by omega))
            rw [show n + (i - n) = i by omega] at h3
            simp only [g2, beq_ne (show i - n ≠ 0 by omega), cond_false] at h3
            obtain ⟨e, he, hb, hon⟩ := waits_spec h3
            have h4 := g3 e he hb
            rw [hon, h2 (i - 1) (by omega)] at h4
            cases h4
      subst hit
      rw [List.range'_succ, wpOps_cons] at hq
      refine wpOp_mono (fun a' w' hq' => ih (i + 1) (by omega) (by omega) fuel _ a' w' (by simp [hs]) (fun k hk => ?_) (fun k hk => ?_) (by omega) hq') hq
      · by_cases hki : i = k
        · subst hki
          have : (listed.setIfInBounds i true)[i]? = some true := by simp [show i < listed.size by omega]
          simp [this]
        · rw [getD_set_ne false hki]; exact h1 k (by omega)
      · rw [getD_set_ne false (by omega)]; exact h2 k (by omega)
  intro fuel
  induction fuel with
  | zero =>
    intro listed a w M hfu
    have hall : ∀ i, i < n → listed.getD i false = true := fun i hi => by
      cases hl : listed.getD i false with
      | true => rfl
      | false =>
        have : i ∈ (List.range n).filter fun i => !listed.getD i false := List.mem_filter.2 ⟨List.mem_range.2 hi, by rw [hl]; rfl⟩
        have := List.length_pos_of_mem this
        omega
    exact tail (ops.size - n) n rfl (Nat.le_refl _) 0 listed a w (hI _ _ _ M).1 hall (fun i hi => (hI _ _ _ M).2.2 i hi) (by omega) (hK listed a w hall M)
  | succ fuel ih =>
    intro listed a w M hfu
    by_cases hall : ∀ i, i < n → listed.getD i false = true
    · exact tail (ops.size - n) n rfl (Nat.le_refl _) (fuel + 1) listed a w (hI _ _ _ M).1 hall (fun i hi => (hI _ _ _ M).2.2 i hi) (by omega) (hK listed a w hall M)
    · -- the first that is left is ready; none of the tail is
      obtain ⟨i0, h0, h1⟩ : ∃ i, i < n ∧ listed.getD i false = false := by
        by_cases hex : ∃ i, i < n ∧ listed.getD i false = false
        · exact hex
        · exact absurd (fun i hi => by cases hl : listed.getD i false with | true => rfl | false => exact absurd ⟨i, hi, hl⟩ hex) hall
      obtain ⟨i1, h2, h3, h4⟩ : ∃ i, i < n ∧ listed.getD i false = false ∧ ∀ k, k < i → listed.getD k false = true := by
        induction i0 using Nat.strongRecOn with
        | _ i0 ih0 =>
          by_cases hk : ∃ k, k < i0 ∧ listed.getD k false = false
          · obtain ⟨k, hk1, hk2⟩ := hk; exact ih0 k hk1 (by omega) hk2
          · exact ⟨i0, h0, h1, fun k hk' => by cases hl : listed.getD k false with | true => rfl | false => exact absurd ⟨k, hk', hl⟩ hk⟩
      have ho1 : ops[i1]? = some ops[i1] := by simp [show i1 < ops.size by omega]
      have hr1 : i1 ∈ Region.ready .any ops listed := mem_ready.2 ⟨by rw [getD_bools (by rw [(hI _ _ _ M).1]; omega)]; exact h3, ops[i1], ho1, fun e he hb => h4 e.on (fwd i1 _ ho1 e he hb)⟩
      -- an operation of the tail waits, through others, for each of the head
      have notail : ∀ t, n ≤ t → t ∉ Region.ready .any ops listed := by
        intro t htn hr
        obtain ⟨g1, o, g2, g3⟩ := listed_ready (hI _ _ _ M).1 hr
        have htl := (Array.getElem?_eq_some_iff.1 g2).1
        have h5 := List.all_eq_true.1 ht (t - n) (List.mem_range.2 (by omega))
        rw [show n + (t - n) = t by omega] at h5
        simp only [g2] at h5
        by_cases htn' : t = n
        · subst htn'
          simp only [Nat.sub_self, Nat.beq_refl, cond_true] at h5
          have key : ∀ (d i : Nat), t - i = d → i < t → listed.getD i false = false → False := by
            intro d
            induction d using Nat.strongRecOn with
            | _ d ihd =>
              intro i hdi hit hun
              have h6 := List.all_eq_true.1 h5 i (List.mem_range.2 hit)
              simp only [Bool.or_eq_true] at h6
              rcases h6 with h6 | h6
              · obtain ⟨e, he, hb, hon⟩ := waits_spec h6
                have h7 := g3 e he hb
                rw [hon, hun] at h7
                cases h7
              · obtain ⟨j, hj, h7⟩ := List.any_eq_true.1 h6
                simp only [Bool.and_eq_true] at h7
                have hij := of_blt h7.1
                have hjt := List.mem_range.1 hj
                cases hoj : ops[j]? with
                | none => rw [hoj] at h7; simp at h7
                | some oj =>
                  rw [hoj] at h7
                  obtain ⟨e, he, hb, hon⟩ := waits_spec h7.2
                  cases hl : listed.getD j false with
                  | true =>
                    have h8 := (hI _ _ _ M).2.1 j oj hoj hl e he hb
                    rw [hon, hun] at h8
                    cases h8
                  | false => exact ihd (t - j) (by omega) j rfl hjt hl
          exact key _ i1 rfl h2 h3
        · simp only [beq_ne (show t - n ≠ 0 by omega), cond_false] at h5
          obtain ⟨e, he, hb, hon⟩ := waits_spec h5
          have h7 := g3 e he hb
          rw [hon, (hI _ _ _ M).2.2 (t - 1) (by omega)] at h7
          cases h7
      refine ⟨fun hnil => (by rw [hnil] at hr1; cases hr1), fun i hi => ?_⟩
      have hin : i < n := by
        by_cases hin : i < n
        · exact hin
        · exact absurd hi (notail i (by omega))
      refine hS listed a w i M hi hin _ fun a' w' M' => ih _ a' w' M' ?_
      obtain ⟨g1, o, g2, g3⟩ := listed_ready (hI _ _ _ M).1 hi
      have hil : i < listed.size := by rw [(hI _ _ _ M).1]; omega
      -- one fewer is left
      have hcount : ((List.range n).filter fun k => !(listed.setIfInBounds i true).getD k false).length + 1 ≤ ((List.range n).filter fun k => !listed.getD k false).length := by
        have e : ((List.range n).filter fun k => !(listed.setIfInBounds i true).getD k false) = ((List.range n).filter fun k => !listed.getD k false).filter (fun k => !Nat.beq k i) := by
          rw [List.filter_filter]
          refine List.filter_congr fun k hk => ?_
          by_cases hki : i = k
          · subst hki
            have : (listed.setIfInBounds i true)[i]? = some true := by simp [hil]
            simp [this, Nat.beq_refl]
          · rw [getD_set_ne false hki, beq_ne (fun z => hki z.symm)]; simp
        rw [e]
        have hmem : i ∈ (List.range n).filter fun k => !listed.getD k false := List.mem_filter.2 ⟨List.mem_range.2 hin, by rw [g1]; rfl⟩
        exact List.length_filter_lt_length_iff_exists.2 ⟨i, hmem, by simp [Nat.beq_refl]⟩
      omega


/-- The store behind those operations of the first k that are in a set. -/
def ent (d : Nat → Option Nat) (sv : Nat → SV) (L : Nat → Bool) (E : Env) : Nat → Env
  | 0 => E
  | k + 1 => bif L k then (ent d sv L E k).putO (d k) [] (sv k) else ent d sv L E k
theorem putO_get {E : Env} {d : Option Nat} {s : SV} {t : Nat} : (E.putO d [] s).get t = if d = some t then some ([], s) else E.get t := by
  cases d with
  | none => simp [Env.putO]
  | some d =>
    simp only [Env.putO, Env.get]
    by_cases h : d = t
    · subst h; simp [Nat.beq_refl]
    · rw [beq_ne h]; simp [h]
theorem ent_in {d : Nat → Option Nat} {sv : Nat → SV} {L : Nat → Bool} {E : Env} {t i : Nat} (hd : d i = some t) (hL : L i = true) : ∀ {k : Nat}, i < k → (∀ j, j < k → j ≠ i → d j ≠ some t) → (ent d sv L E k).get t = some ([], sv i)
  | 0, hi, _ => absurd hi (Nat.not_lt_zero _)
  | k + 1, hi, hu => by
    by_cases hk : i = k
    · subst hk; simp only [ent, hL, cond_true, putO_get, hd, if_true]
    · have ih := ent_in (sv := sv) (E := E) hd hL (k := k) (by omega) fun j hj => hu j (by omega)
      have hne := hu k (by omega) (fun e => hk e.symm)
      cases hb : L k with
      | true => simp only [ent, hb, cond_true, putO_get, if_neg hne, ih]
      | false => simp only [ent, hb, cond_false, ih]
theorem ent_out {d : Nat → Option Nat} {sv : Nat → SV} {L : Nat → Bool} {E : Env} {t : Nat} : ∀ {k : Nat}, (∀ j, j < k → L j = true → d j ≠ some t) → (ent d sv L E k).get t = E.get t
  | 0, _ => rfl
  | k + 1, hu => by
    have ih := ent_out (sv := sv) (E := E) (k := k) fun j hj => hu j (by omega)
    cases hb : L k with
    | true => simp only [ent, hb, cond_true, putO_get, if_neg (hu k (by omega) hb), ih]
    | false => simp only [ent, hb, cond_false, ih]
theorem ent_congr {d d' : Nat → Option Nat} {sv sv' : Nat → SV} {L L' : Nat → Bool} {E : Env} : ∀ {k : Nat}, (∀ j, j < k → d j = d' j ∧ sv j = sv' j ∧ L j = L' j) → ent d sv L E k = ent d' sv' L' E k
  | 0, _ => rfl
  | k + 1, hu => by
    obtain ⟨h1, h2, h3⟩ := hu k (by omega)
    simp only [ent, h1, h2, h3, ent_congr (d := d) (d' := d') (sv := sv) (sv' := sv') (L := L) (L' := L') (k := k) fun j hj => hu j (by omega)]
theorem ent_plain {d : Nat → Option Nat} {sv : Nat → SV} {L : Nat → Bool} {E : Env} (hE : plainE E = true) : ∀ k : Nat, plainE (ent d sv L E k) = true
  | 0 => hE
  | k + 1 => by
    have ih := ent_plain (d := d) (sv := sv) (L := L) hE k
    cases hb : L k with
    | true => cases hd : d k <;> simp [ent, hb, hd, Env.putO, plainE, ih]
    | false => simp only [ent, hb, cond_false, ih]
theorem plainE_free {x : Nat} : ∀ {E : Env}, plainE E = true → Env.free x E = true
  | [], _ => rfl
  | (_, tg, _) :: E, h => by
    simp only [plainE, Bool.and_eq_true] at h
    cases tg with
    | nil => simp [Env.free, plainE_free h.2]
    | cons y l => simp at h
theorem Rel.gets {w : World} {F : Fz} {m : Mp} {E E' : Env} {a : Act} (hr : Rel bs nt w F m E h a) (he : ∀ t, E'.get t = E.get t) : Rel bs nt w F m E' h a := ⟨hr.size, hr.defers, fun t tg s ht => hr.env t tg s (by rw [← he]; exact ht), hr.sim⟩

/-- What a walk in their own order tells of the first n operations: what each yields, what is owned ahead of each; which of them turn it, and what each hangs on or turns. -/
structure Dat (P : Program) (nt : Nat) (ops : Array Oper) (E : Env) (n : Nat) (d : Nat → Option Nat) (sv : Nat → SV) (hp : Nat → List Ob) (rs : Nat → Bool × Option Nat) : Prop where
  op : ∀ i, i < n → ∃ o, ops[i]? = some o ∧ o.guard = none ∧ o.dst = d i ∧ (∀ x, d i = some x → x < nt) ∧
    (((rs i).1 = false ∧ hp (i + 1) = hp i ∧ ∀ h', (∀ b, (rs i).2 = some b → h'[b]? = (hp i)[b]?) → Yld P o (ent d sv (fun _ => true) E i) [] h' (sv i)) ∨
     ((rs i).1 = true ∧ (∀ b, (rs i).2 ≠ some b → (hp (i + 1))[b]? = (hp i)[b]?) ∧ ∀ E', plainE E' = true → (∀ x ∈ o.op.operands, look E' [] x = look (ent d sv (fun _ => true) E i) [] x) → OSt P nt o E' (hp i) fun E'' h'' => E'' = E'.putO (d i) [] (sv i) ∧ h'' = hp (i + 1)))
/-- May they come in whatever order their edges allow? Those that turn what is owned are one behind the other; what looks at a thing that is turned is ordered beside that. -/
def ordOk (ops : Array Oper) (n : Nat) (rs : Nat → Bool × Option Nat) : Bool :=
  (List.range n).all fun j => match ops[j]? with
    | none => false
    | some oj => (List.range n).all fun i => match ops[i]? with
      | none => false
      | some oi => !Nat.blt i j || (match rs i, rs j with
        | (true, _), (true, _) => waits oj i || (List.range j).any fun k => Nat.blt i k && (rs k).1
        | (true, some b), (false, some c) => !Nat.beq b c || waits oj i
        | (false, some b), (true, some c) => !Nat.beq b c || waits oj i
        | _, _ => true)
def pL (rs : Nat → Bool × Option Nat) (L : Nat → Bool) : Nat → Nat
  | 0 => 0
  | k + 1 => bif L k && (rs k).1 then k + 1 else pL rs L k
theorem pL_le {rs : Nat → Bool × Option Nat} {L : Nat → Bool} : ∀ k : Nat, pL rs L k ≤ k
  | 0 => Nat.le_refl _
  | k + 1 => by
    have := pL_le (rs := rs) (L := L) k
    cases hb : (L k && (rs k).1) <;> simp only [pL, hb, cond_true, cond_false] <;> omega
/-- Behind it nothing is in the set that turns what is owned; it itself is, if it is no beginning. -/
theorem pL_spec {rs : Nat → Bool × Option Nat} {L : Nat → Bool} : ∀ k : Nat, (∀ i, pL rs L k ≤ i → i < k → L i = true → (rs i).1 = false) ∧ (∀ q, pL rs L k = q + 1 → L q = true ∧ (rs q).1 = true)
  | 0 => ⟨fun i _ h => absurd h (Nat.not_lt_zero _), fun q h => by cases h⟩
  | k + 1 => by
    obtain ⟨h1, h2⟩ := pL_spec (rs := rs) (L := L) k
    cases hb : (L k && (rs k).1) with
    | true =>
      simp only [pL, hb, cond_true]
      exact ⟨fun i h h' => by omega, fun q hq => by obtain rfl : k = q := by omega
                                                    simpa using hb⟩
    | false =>
      simp only [pL, hb, cond_false]
      refine ⟨fun i h h' hL => ?_, h2⟩
      by_cases hik : i = k
      · subst hik; rw [hL] at hb; simpa using hb
      · exact h1 i h (by omega) hL

section
variable {d : Nat → Option Nat} {sv : Nat → SV} {hp : Nat → List Ob} {rs : Nat → Bool × Option Nat}
theorem ord_spec (ho : ordOk ops n rs = true) {i j : Nat} (hj : j < n) (hij : i < j) {oj : Oper} (hoj : ops[j]? = some oj) :
    ((rs i).1 = true → (rs j).1 = true → waits oj i = true ∨ ∃ k, i < k ∧ k < j ∧ (rs k).1 = true) ∧
    (∀ b, (rs i).1 ≠ (rs j).1 → (rs i).2 = some b → (rs j).2 = some b → waits oj i = true) := by
  have h1 := List.all_eq_true.1 ho j (List.mem_range.2 hj)
  simp only [hoj] at h1
  have h2 := List.all_eq_true.1 h1 i (List.mem_range.2 (by omega))
  cases hoi : ops[i]? with
  | none => rw [hoi] at h2; simp at h2
  | some oi =>
    rw [hoi] at h2
    have hb : Nat.blt i j = true := by simpa [Nat.blt_eq] using hij
    simp only [hb, Bool.not_true, Bool.false_or] at h2
    cases hi : rs i with
    | mk a b =>
      cases hjj : rs j with
      | mk c e =>
        rw [hi, hjj] at h2
        constructor
        · rintro rfl rfl
          simp only [Bool.or_eq_true] at h2
          rcases h2 with h2 | h2
          · exact .inl h2
          · obtain ⟨k, hk, h3⟩ := List.any_eq_true.1 h2
            simp only [Bool.and_eq_true] at h3
            exact .inr ⟨k, of_blt h3.1, List.mem_range.1 hk, h3.2⟩
        · intro x hne hx hy
          simp only at hne hx hy
          subst hx hy
          cases a <;> cases c <;> simp_all [Nat.beq_refl]

/-- A set of operations that may have been carried out. -/
structure Set' (ops : Array Oper) (n : Nat) (L : Array Bool) : Prop where
  size : L.size = ops.size
  closed : ∀ j oj, ops[j]? = some oj → L.getD j false = true → ∀ e ∈ oj.after, Region.binds .any e = true → L.getD e.on false = true
  tail : ∀ t, n ≤ t → L.getD t false = false
theorem Set'.waits {L : Array Bool} (S : Set' ops n L) {i j : Nat} {oj : Oper} (hoj : ops[j]? = some oj) (hj : L.getD j false = true) (hw : waits oj i = true) : L.getD i false = true := by
  obtain ⟨e, he, hb, rfl⟩ := waits_spec hw
  exact S.closed j oj hoj hj e he hb
/-- What turns what is owned is carried out one behind the other. -/
theorem Set'.chain {L : Array Bool} (S : Set' ops n L) (ho : ordOk ops n rs = true) : ∀ (m : Nat) {i j : Nat}, j - i = m → i < j → j < n → (rs i).1 = true → (rs j).1 = true → L.getD j false = true → L.getD i false = true := by
  intro m
  induction m using Nat.strongRecOn with
  | _ m ih =>
    intro i j hm hij hj h1 h2 hL
    cases hoj : ops[j]? with
    | none =>
      have h1 := List.all_eq_true.1 ho j (List.mem_range.2 hj)
      simp [hoj] at h1
    | some oj =>
      rcases (ord_spec ho hj hij hoj).1 h1 h2 with hw | ⟨k, k1, k2, k3⟩
      · exact S.waits hoj hL hw
      · exact ih (k - i) (by omega) rfl k1 (by omega) h1 k3 (ih (j - k) (by omega) rfl k2 hj k3 h2 hL)
theorem hp_const {x y : Nat} {b : Nat} (D : Dat P nt ops E n d sv hp rs) (hy : y ≤ n) (hne : ∀ i, x ≤ i → i < y → (rs i).1 = true → (rs i).2 ≠ some b) : x ≤ y → (hp y)[b]? = (hp x)[b]? := by
  intro hxy
  induction y with
  | zero => obtain rfl : x = 0 := by omega
            rfl
  | succ y ih =>
    by_cases hx : x = y + 1
    · subst hx; rfl
    · have ih := ih (by omega) (fun i h1 h2 => hne i h1 (by omega)) (by omega)
      rw [← ih]
      obtain ⟨o, _, _, _, _, h | h⟩ := D.op y (by omega)
      · rw [h.2.1]
      · exact h.2.1 b (hne y (by omega) (by omega) h.1)
theorem hp_eq {x y : Nat} (D : Dat P nt ops E n d sv hp rs) (hy : y ≤ n) (hne : ∀ i, x ≤ i → i < y → (rs i).1 = false) : x ≤ y → hp y = hp x := by
  intro hxy
  induction y with
  | zero => obtain rfl : x = 0 := by omega
            rfl
  | succ y ih =>
    by_cases hx : x = y + 1
    · subst hx; rfl
    · have ih := ih (by omega) (fun i h1 h2 => hne i h1 (by omega)) (by omega)
      rw [← ih]
      obtain ⟨o, _, _, _, _, h | h⟩ := D.op y (by omega)
      · exact h.2.1
      · rw [hne y (by omega) (by omega)] at h; cases h.1

/-- The state behind a set of operations. -/
def InvG (bs : Nat → Nat) (P : Program) (nt : Nat) (ops : Array Oper) (E : Env) (n : Nat) (d : Nat → Option Nat) (sv : Nat → SV) (hp : Nat → List Ob) (rs : Nat → Bool × Option Nat) (w0 : World) (F0 : Fz) (m0 : Mp) (L : Array Bool) (a : Act) (w : World) : Prop :=
  Set' ops n L ∧ ∃ F m, Rel bs nt w F m (ent d sv (fun i => L.getD i false) E n) (hp (pL rs (fun i => L.getD i false) n)) a ∧ Gr w0 F0 m0 w F m

theorem InvG.step (D : Dat P nt ops E n d sv hp rs) (ha : anyOk ops n = true) (ho : ordOk ops n rs = true) (hE : plainE E = true) {w0 : World} {F0 : Fz} {m0 : Mp} {L : Array Bool} {a : Act} {w : World} (I : InvG bs P nt ops E n d sv hp rs w0 F0 m0 L a w)
    {j : Nat} (hj : j ∈ Region.ready .any ops L) (hjn : j < n) {K : Act → World → Prop} {Q : Exit → Act → World → Prop} (hK : ∀ a' w', InvG bs P nt ops E n d sv hp rs w0 F0 m0 (L.setIfInBounds j true) a' w' → K a' w') : wpOp P ops Q j K a w := by
  obtain ⟨S, F, m, hr, hg⟩ := I
  obtain ⟨hun, o, hoj, hall⟩ := listed_ready S.size hj
  obtain ⟨o', h1, h2, h3, h4, h5⟩ := D.op j hjn
  rw [hoj] at h1; cases h1
  have hjlt : j < L.size := by rw [S.size]; exact (Array.getElem?_eq_some_iff.1 hoj).1
  have hwait : ∀ i, waits o i = true → L.getD i false = true := fun i hw => by
    obtain ⟨e, he, hb, rfl⟩ := waits_spec hw
    exact hall e he hb
  have hset : ∀ i, (L.setIfInBounds j true).getD i false = true ↔ i = j ∨ L.getD i false = true := fun i => by
    by_cases hij : j = i
    · subst hij
      have : (L.setIfInBounds j true)[j]? = some true := by simp [hjlt]
      simp [this]
    · rw [getD_set_ne false hij]; exact ⟨.inr, fun z => z.resolve_left fun e => hij e.symm⟩
  have S' : Set' ops n (L.setIfInBounds j true) := by
    refine ⟨by simp [S.size], fun i oi hoi hl e he hb => ?_, fun t ht => ?_⟩
    · rcases (hset i).1 hl with rfl | hl
      · rw [hoj] at hoi; cases hoi; exact getD_set_true (hall e he hb)
      · exact getD_set_true (S.closed i oi hoi hl e he hb)
    · rw [getD_set_ne false (by omega)]; exact S.tail t ht
  -- no temporary is written twice
  have uniq : ∀ i k t, i < n → k < n → i ≠ k → d i = some t → d k ≠ some t := fun i k t hi hk hik hd hd' => by
    obtain ⟨oi, g1, _, g3, _⟩ := D.op i hi
    obtain ⟨ok, k1, _, k3, _⟩ := D.op k hk
    have e1 := List.all_eq_true.1 ha k (List.mem_range.2 hk)
    simp only [k1, Bool.and_eq_true] at e1
    have e2 := List.all_eq_true.1 e1.2 i (List.mem_range.2 hi)
    simp only [g1, beq_ne hik, Bool.false_or, pairOk, g3, k3, hd, hd', Nat.beq_refl, Bool.not_true, Bool.false_and] at e2
    cases e2
  have looks : ∀ t, t ∈ o.looksAt ops → (ent d sv (fun i => L.getD i false) E n).get t = (ent d sv (fun _ => true) E j).get t := fun t ht => by
    by_cases hex : ∃ i, i < n ∧ d i = some t
    · obtain ⟨i, hi, hd⟩ := hex
      by_cases hij : i = j
      · subst hij
        have e1 : (ent d sv (fun i => L.getD i false) E n).get t = E.get t := ent_out fun k hk hL hdk => by
          by_cases hki : k = i
          · subst hki; rw [hun] at hL; cases hL
          · exact uniq k i t hk hi hki hdk hd
        have e2 : (ent d sv (fun _ => true) E i).get t = E.get t := ent_out fun k hk hL hdk => uniq k i t (by omega) hi (by omega) hdk hd
        rw [e1, e2]
      · obtain ⟨oi, g1, _, g3, _⟩ := D.op i hi
        have e1 := List.all_eq_true.1 ha j (List.mem_range.2 hjn)
        simp only [hoj, Bool.and_eq_true] at e1
        have e2 := List.all_eq_true.1 e1.2 i (List.mem_range.2 hi)
        have hin : (o.looksAt ops).any (Nat.beq t) = true := List.any_eq_true.2 ⟨t, ht, Nat.beq_refl t⟩
        simp only [g1, beq_ne hij, Bool.false_or, pairOk, g3, hd, hin, cond_true, Bool.and_eq_true] at e2
        have hlt := of_blt e2.2.1
        rw [ent_in hd (hwait i e2.2.2) hi fun k hk hki => uniq i k t hi hk (fun e => hki e.symm) hd, ent_in hd rfl hlt fun k hk hki => uniq i k t hi (by omega) (fun e => hki e.symm) hd]
    · rw [ent_out fun k hk hL hdk => hex ⟨k, hk, hdk⟩, ent_out fun k hk hL hdk => hex ⟨k, by omega, hdk⟩]
  have plE : plainE (ent d sv (fun i => L.getD i false) E n) = true := ent_plain hE n
  have dok : dstOk nt (ent d sv (fun i => L.getD i false) E n) [] o.dst = true := by
    rw [h3]
    cases hd : d j with
    | none => rfl
    | some x => simp only [dstOk, plainE_free plE, Tg.free, Bool.and_eq_true, List.all_nil, and_true]; simpa [Nat.blt_eq] using h4 x hd
  have hnd : ∀ t, d j = some t → ∀ k, k < n → L.getD k false = true → d k ≠ some t := fun t hd k hk hL hdk => by
    have hkj : k ≠ j := by rintro rfl; rw [hun] at hL; cases hL
    exact uniq k j t hk hjn hkj hdk hd
  have gets : ∀ t, (ent d sv (fun i => (L.setIfInBounds j true).getD i false) E n).get t = ((ent d sv (fun i => L.getD i false) E n).putO o.dst [] (sv j)).get t := fun t => by
    rw [h3, putO_get]
    by_cases hd : d j = some t
    · rw [if_pos hd]
      exact ent_in hd ((hset j).2 (.inl rfl)) hjn fun k hk hki => uniq j k t hjn hk (fun e => hki e.symm) hd
    · rw [if_neg hd]
      by_cases hex : ∃ i, i < n ∧ L.getD i false = true ∧ d i = some t
      · obtain ⟨i, hi, hL, hdi⟩ := hex
        rw [ent_in hdi ((hset i).2 (.inr hL)) hi fun k hk hki => uniq i k t hi hk (fun e => hki e.symm) hdi, ent_in hdi hL hi fun k hk hki => uniq i k t hi hk (fun e => hki e.symm) hdi]
      · rw [ent_out fun k hk hL hdk => ?_, ent_out fun k hk hL hdk => hex ⟨k, hk, hL, hdk⟩]
        rcases (hset k).1 hL with rfl | hL
        · exact hd hdk
        · exact hex ⟨k, hk, hL, hdk⟩
  obtain ⟨q1, q2⟩ := pL_spec (rs := rs) (L := fun i => L.getD i false) n
  have qle := pL_le (rs := rs) (L := fun i => L.getD i false) n
  -- what turns what is owned, ahead of the last that did, did
  have qdone : ∀ i, i < pL rs (fun i => L.getD i false) n → (rs i).1 = true → L.getD i false = true := fun i hi hri => by
    obtain ⟨q, hq⟩ : ∃ q, pL rs (fun i => L.getD i false) n = q + 1 := ⟨pL rs (fun i => L.getD i false) n - 1, by omega⟩
    obtain ⟨g1, g2⟩ := q2 q hq
    by_cases hiq : i = q
    · subst hiq; exact g1
    · exact S.chain ho _ rfl (by omega) (by omega) hri g2 g1
  have opd : ∀ m', m' = m → Opd (ent d sv (fun _ => true) E j) [] o a w F m' := by
    rintro _ rfl
    refine ⟨Tags.nil a, fun x hx B s hB hl => ?_, fun x hx => by simp at hx⟩
    have hl' : look (ent d sv (fun i => L.getD i false) E n) (B ++ []) x = some s := by
      cases x with
      | tmp t => simp only [look, looks t (mem_looks hx)] at hl ⊢; exact hl
      | _ => exact hl
    exact (hr.opd (Tags.nil a) o).op x hx B s hB hl'
  unfold wpOp
  simp only [hoj]
  rw [if_pos (by simp [Region.wanted, h2])]
  rcases h5 with ⟨r1, r2, r3⟩ | ⟨r1, r2, r3⟩
  · -- it yields
    refine .inl (r3 (hp (pL rs (fun i => L.getD i false) n)) (fun b hb => ?_) a w F m hr.sim.E (opd m rfl) _ _ fun v w' F' hv hq => hK _ w' ⟨S', F', m, ?_, hg.trans (hq.gr hr.sim)⟩)
    · by_cases hqj : pL rs (fun i => L.getD i false) n ≤ j
      · refine (hp_const D (by omega) (fun i h6 h7 h8 h9 => ?_) hqj).symm
        have hw := (ord_spec ho hjn h7 hoj).2 b (by rw [h8, r1]; decide) h9 hb
        have := q1 i h6 (by omega) (hwait i hw)
        rw [h8] at this; cases this
      · refine hp_const D qle (fun i h6 h7 h8 h9 => ?_) (by omega)
        have hji : j < i := by
          rcases Nat.lt_or_ge j i with h | h
          · exact h
          · obtain rfl : i = j := by omega
            rw [r1] at h8; cases h8
        obtain ⟨oi, g1, _⟩ := D.op i (by omega)
        have hw := (ord_spec ho (by omega) hji g1).2 b (by rw [h8, r1]; decide) hb h9
        have := S.waits g1 (qdone i h7 h8) hw
        rw [hun] at this; cases this
    · have := hr.put (d := o.dst) (tg := []) (s := sv j) (v := v) dok (Tags.nil a) hq hv
      have hpq : pL rs (fun i => (L.setIfInBounds j true).getD i false) n = pL rs (fun i => L.getD i false) n := by
        have : ∀ k, k ≤ n → pL rs (fun i => (L.setIfInBounds j true).getD i false) k = pL rs (fun i => L.getD i false) k := by
          intro k
          induction k with
          | zero => intro _; rfl
          | succ k ih =>
            intro hk
            simp only [pL, ih (by omega)]
            by_cases hkj : j = k
            · subst hkj; simp [r1]
            · rw [getD_set_ne false hkj]
        exact this n (Nat.le_refl _)
      rw [hpq]
      exact this.gets gets
  · -- it turns what is owned
    have hbefore : ∀ i, i < j → (rs i).1 = true → L.getD i false = true := by
      have : ∀ m i, j - i = m → i < j → (rs i).1 = true → L.getD i false = true := by
        intro m
        induction m using Nat.strongRecOn with
        | _ m ih =>
          intro i hm hij hri
          rcases (ord_spec ho hjn hij hoj).1 hri r1 with hw | ⟨k, k1, k2, k3⟩
          · exact hwait i hw
          · exact S.chain ho _ rfl k1 (by omega) hri k3 (ih (j - k) (by omega) k rfl k2 k3)
      exact fun i hij hri => this _ i rfl hij hri
    have hafter : ∀ i, j ≤ i → i < n → (rs i).1 = true → L.getD i false = false := fun i hji hi hri => by
      cases hL : L.getD i false with
      | false => rfl
      | true =>
        by_cases hij : i = j
        · subst hij; rw [hun] at hL; cases hL
        · have := S.chain ho _ rfl (by omega) hi r1 hri hL
          rw [hun] at this; cases this
    have hqj : pL rs (fun i => L.getD i false) n ≤ j := by
      rcases Nat.lt_or_ge j (pL rs (fun i => L.getD i false) n) with h | h
      · obtain ⟨q, hq⟩ : ∃ q, pL rs (fun i => L.getD i false) n = q + 1 := ⟨pL rs (fun i => L.getD i false) n - 1, by omega⟩
        obtain ⟨g1, g2⟩ := q2 q hq
        have := hafter q (by omega) (by omega) g2
        rw [g1] at this; cases this
      · exact h
    have hhj : hp j = hp (pL rs (fun i => L.getD i false) n) := hp_eq D (by omega) (fun i h6 h7 => by
      cases hri : (rs i).1 with
      | false => rfl
      | true => have := q1 i h6 (by omega) (hbefore i h7 hri); rw [hri] at this; cases this) hqj
    have hr' := hr
    rw [← hhj] at hr'
    refine .inl (r3 _ plE (fun x hx => ?_) a w F m hr' _ _ fun a' w' E' h' F' m' ⟨e1, e2⟩ hr2 hg2 => hK _ w' ⟨S', F', m', ?_, hg.trans hg2⟩)
    · cases x with
      | tmp t => simp only [look, looks t (mem_looks hx)]
      | _ => rfl
    · subst e1 e2
      have hpq : pL rs (fun i => (L.setIfInBounds j true).getD i false) n ≥ j + 1 ∧ ∀ i, j + 1 ≤ i → i < pL rs (fun i => (L.setIfInBounds j true).getD i false) n → (rs i).1 = false := by
        obtain ⟨p1, p2⟩ := pL_spec (rs := rs) (L := fun i => (L.setIfInBounds j true).getD i false) n
        have ple := pL_le (rs := rs) (L := fun i => (L.setIfInBounds j true).getD i false) n
        refine ⟨?_, fun i h6 h7 => ?_⟩
        · rcases Nat.lt_or_ge j (pL rs (fun i => (L.setIfInBounds j true).getD i false) n) with h | h
          · exact h
          · have := p1 j h hjn ((hset j).2 (.inl rfl)); rw [r1] at this; cases this
        · cases hri : (rs i).1 with
          | false => rfl
          | true =>
            obtain ⟨q, hq⟩ : ∃ q, pL rs (fun i => (L.setIfInBounds j true).getD i false) n = q + 1 := ⟨pL rs (fun i => (L.setIfInBounds j true).getD i false) n - 1, by omega⟩
            obtain ⟨g1, g2⟩ := p2 q hq
            rcases (hset q).1 g1 with rfl | g1
            · omega
            · have := hafter q (by omega) (by omega) g2
              rw [g1] at this; cases this
      have e3 : hp (pL rs (fun i => (L.setIfInBounds j true).getD i false) n) = hp (j + 1) := hp_eq D (pL_le _) (fun i h6 h7 => hpq.2 i h6 h7) hpq.1
      rw [e3]
      rw [← h3] at hr2
      exact hr2.gets gets

theorem W_drawG (hm : P.follows .mixedOrders = true) {id : Nat} {Q : QB} (D : Dat P nt ops E n d sv hp rs) (hn : Nat.ble n ops.size = true) (ha : anyOk ops n = true) (ho : ordOk ops n rs = true) (hE : plainE E = true) (hf : fwdOk ops = true) (ht : tailOk ops n = true)
    (hW : WL P nt ops n (ent d sv (fun _ => true) E n) (hp n) Q) : W P nt (.region id ops true) E (hp 0) Q := by
  have hn := Nat.le_of_ble_eq_true hn
  have key : ∀ {bs : Nat → Nat} a w F m, Rel bs nt w F m E (hp 0) a → wpAny P .any ops (Post bs nt Q w F m) ops.size (Array.replicate ops.size false) a w.drew := fun {bs} a w F m hr => ?_
  · exact ⟨fun a w F m hr => wp_region_any hm (key a w F m hr), fun hp' hn' l n' a w F m hr => wpIn_region_draw fun t => by
      simp only [Region.schedule, hm, Bool.true_or, if_true]
      exact wpOps_in (plain_ops hp') hn'.post _ _ _ (wpAny_sound ops.size t _ a _ (key a w F m hr))⟩
  have hr' : Rel bs nt w.drew F m E (hp 0) a := ⟨hr.size, hr.defers.same fun i D h1 h2 h3 _ => ⟨h1, h2, rfl⟩, fun t tg s ht => (hr.env t tg s ht).imp (fun z => ⟨z.1, (Qt.drew w F).rds hr.sim z.2⟩) _root_.id, (Qt.drew w F).sim hr.sim⟩
  have e0 : (fun i => (Array.replicate ops.size false).getD i false) = fun _ => false := funext fun i => getD_replicate _ _
  have eE : ∀ k, ent d sv (fun _ => false) E k = E := fun k => by induction k with | zero => rfl | succ k ih => simpa [ent] using ih
  have eP : ∀ k, pL rs (fun _ => false) k = 0 := fun k => by induction k with | zero => rfl | succ k ih => simpa [pL] using ih
  refine any_of (Inv := InvG bs P nt ops E n d sv hp rs w F m) hf ht hn (fun L a w I => ⟨I.1.size, I.1.closed, I.1.tail⟩) (fun L a w j I hj hjn K hKK => I.step D ha ho hE hj hjn hKK) (fun L a' w' hall I => ?_) ops.size _ a w.drew ⟨⟨by simp, fun j oj hoj hl => (by rw [getD_replicate] at hl; cases hl), fun t ht => getD_replicate _ _⟩, F, m, ?_, (Qt.drew w F).gr hr.sim⟩ ?_
  · obtain ⟨S, F', m', hr2, hg2⟩ := I
    have e1 : ∀ t, (ent d sv (fun _ => true) E n).get t = (ent d sv (fun i => L.getD i false) E n).get t := fun t => by
      rw [ent_congr (L := fun i => L.getD i false) (L' := fun _ => true) fun j hj => ⟨rfl, rfl, hall j hj⟩]
    have e2 : hp n = hp (pL rs (fun i => L.getD i false) n) := hp_eq D (Nat.le_refl _) (fun i h1 h2 => (pL_spec (rs := rs) (L := fun i => L.getD i false) n).1 i h1 h2 (hall i h2)) (pL_le _)
    rw [← e2] at hr2
    exact wpOps_mono (fun x a'' w'' ⟨E'', h'', F'', m'', hQ, hrel', hg⟩ => ⟨E'', h'', F'', m'', hQ, hrel', hg2.trans hg⟩) _ _ _ (hW.out a' w' F' m' (hr2.gets e1))
  · rw [e0, eE, eP]; exact hr'
  · have : ((List.range n).filter fun i => !(Array.replicate ops.size false).getD i false).length ≤ n := by
      have := List.length_filter_le (fun i => !(Array.replicate ops.size false).getD i false) (List.range n)
      simpa using this
    omega
end
end
end Go.Proofs.YtmjkflppajienaaDoor.R
