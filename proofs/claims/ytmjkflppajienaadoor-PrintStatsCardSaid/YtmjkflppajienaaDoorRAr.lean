/- Arrays of one's own: places that vary, sliced, copied into; no condition but the typed premises. -/
import Derived.Test.YtmjkflppajienaaDoorR7
import Derived.Laws.CopyRow
namespace Go.Proofs.YtmjkflppajienaaDoor.R
open Go Go.RowKit
set_option linter.unusedVariables false
set_option linter.unusedSimpArgs false

/-- A row of n with another thing at a place. -/
def vput {α : Type} : (n : Nat) → Vec α n → Nat → α → Vec α n
  | 0, v, _, _ => v
  | n + 1, v, 0, y => (y, Prod.snd (α := α) (β := Vec α n) v)
  | n + 1, v, k + 1, y => (Prod.fst (α := α) (β := Vec α n) v, vput n (Prod.snd (α := α) (β := Vec α n) v) k y)
theorem vlist_put {α : Type} : ∀ (n : Nat) (v : Vec α n) (k : Nat) (y : α), vlist n (vput n v k y) = (vlist n v).set k y
  | 0, _, _, _ => rfl
  | n + 1, v, 0, y => rfl
  | n + 1, v, k + 1, y => by simp only [vput, vlist, List.set_cons_succ, vlist_put n]
def wrV {α : Type} (n : Nat) (v : Vec α n) (i : Int) (y : α) : Option (Vec α n) := if 0 ≤ i ∧ i < (n : Int) then some (vput n v i.toNat y) else none
/-- As far as a row goes its things, then what was there. -/
def vcp {α : Type} : (n : Nat) → Vec α n → List α → Vec α n
  | 0, v, _ => v
  | n + 1, v, [] => v
  | n + 1, v, y :: ys => (y, vcp n (Prod.snd (α := α) (β := Vec α n) v) ys)
theorem vlist_cp {α : Type} : ∀ (n : Nat) (v : Vec α n) (ys : List α), vlist n (vcp n v ys) = ys.take n ++ (vlist n v).drop ys.length
  | 0, v, ys => by simp [vcp, vlist]
  | n + 1, v, [] => by simp [vcp]
  | n + 1, v, y :: ys => by simp [vcp, vlist, vlist_cp n]
def cpV {α : Type} (n : Nat) (v : Vec α n) (ys : List α) : Option (Vec α n) := if ys.length ≤ 9223372036854775807 then some (vcp n v ys) else none
/-- The first n of a row. -/
def vfirst {α : Type} : (n : Nat) → List α → Option (Vec α n)
  | 0, _ => some ()
  | _ + 1, [] => none
  | n + 1, x :: l => match vfirst n l with
    | some v => some (x, v)
    | none => none
theorem vfirst_of {α : Type} : ∀ {n : Nat} {l : List α} {v : Vec α n}, vfirst n l = some v → vlist n v = l.take n ∧ n ≤ l.length
  | 0, l, v, h => by simp [vlist]
  | n + 1, [], v, h => by cases h
  | n + 1, x :: l, v, h => by
    simp only [vfirst] at h
    split at h
    · rename_i u hu
      obtain rfl := Option.some.inj h
      obtain ⟨h1, h2⟩ := vfirst_of hu
      exact ⟨by simp only [vlist, h1, List.take_succ_cons], by simpa using h2⟩
    · cases h
/-- How many of the first cells are things of a type of one cell. -/
def preN (τ : Ty) : List SV → Nat
  | .p q :: cs => match τ.get q with
    | some _ => preN τ cs + 1
    | none => 0
  | _ => 0
/-- The first n cells as a row. -/
def segV (τ : Ty) (n : Nat) (cs : List SV) : Option (Vec τ.den n) := match purL (cs.take n) with
  | some qs => dAll (t := .ar n τ) ((Ty.ar n τ).dec qs)
  | none => none
theorem segV_rd {w : World} {F : Fz} {m : Mp} {τ : Ty} {n : Nat} {cs : List SV} {v : Vec τ.den n} {vs : List Value} (h : segV τ n cs = some v) (ha : τ.isAg = false) (h1 : ∀ u ∈ vs, u.oneCell' = true) (hr : RdSL w F m vs cs) :
    RdL w F (vs.take n) ((vlist n v).map τ.enc) ∧ n ≤ cs.length := by
  unfold segV at h
  split at h
  · rename_i qs hq
    have hrd := purL_rd hq (fun u hu => h1 u (List.mem_of_mem_take hu)) (hr.take n)
    have h2 := dAll_rd h hrd
    have e : ((Ty.ar n τ).enc v).cells = (vlist n v).map τ.enc := (flat_vlist _ n v).trans (map_enc_one ha _)
    rw [e] at h2
    have hl := h2.length
    rw [List.length_map, vlist_length, List.length_take] at hl
    have := hr.length
    exact ⟨h2, by omega⟩
  · cases h
theorem RdL.get {w : World} {F : Fz} {vs : List Value} {qs : List PV} {k : Nat} {q : PV} (h : RdL w F vs qs) (hk : qs[k]? = some q) : ∃ v, vs[k]? = some v ∧ Rd w F v q := by
  obtain ⟨v, h1, h2⟩ := (h.toS (m := fun _ => .free)).get (j := k) (s := .p q) (by rw [List.getElem?_map, hk]; rfl)
  cases h2 with | p h => exact ⟨v, h1, h⟩
section
variable {P : Program} {T : Tab} {nt : Nat} {E : Env} {A : Tg} {h : List Ob} {Q : QB} {o : Oper} {i d : Nat} {ops : Array Oper} {β : Type} {r : β}
/-- A place in an array, by a number that varies. -/
def pArrV (T : Tab) (t : Nat) (x y : Operand) (E : Env) (A : Tg) (K : SV → Option β) : Option β := match kOf T t with
  | .ar n e => match T e, look E A x, look E A y with
    | some ei, some (.ptr b off), some (.p (.s (.int _ iv))) => (gds E A A (chk iv n)).bind fun _ => K (.rp b ei.size iv off)
    | _, _, _ => none
  | _ => none
theorem pArrV_ok (hT : TOk P T) {t : Nat} {x y : Operand} {K : SV → Option β} (ho : o.op = .indexAddr t x y) (hr : pArrV T t x y E A K = some r) : ∃ s, (∀ h, Yld P o E A h s) ∧ K s = some r := by
  unfold pArrV at hr
  split at hr
  · rename_i n e hk
    split at hr
    · rename_i ei b off k iv he hx hy
      obtain ⟨u, hu, hK⟩ := bd hr
      refine ⟨_, fun h => gds_yld hu (fun _ h => h) fun hu => ?_, hK⟩
      obtain ⟨h0, h1⟩ := chk_of hu
      refine .of_still fun a w F m hs hO => ?_
      have ex := hO.rd (by simp [ho, Op.operands]) hx
      have ey := rd_s (hO.rd (by simp [ho, Op.operands]) hy)
      obtain ⟨ti, hti, htk⟩ := kOf_ti (T := T) (t := t) (by rw [hk]; simp)
      have hu := (hT t ti hti).array (htk.trans hk)
      obtain ⟨inf, hi1, hi2, _⟩ := (hT e ei he).info
      generalize hv : a.eval x = v at ex
      cases ex with
      | @ptr _ _ bl hm =>
        refine ⟨_, ?_, .rp (off := off) (n := ei.size) (i := iv) hm⟩
        rw [Nat.add_comm (iv.toNat * ei.size) off]
        simp [execOp, ho, hv, ey, Instr.indexAt, Instr.sureAddr, asIntOf, run_underlying hu, h0, h1, sizeOf, typeInfo, hi1, hi2, Addr.add_lit]
    · cases hr
  · cases hr
/-- Is it a place in an array? -/
def rpCells (x : Operand) (E : Env) (A : Tg) (h : List Ob) : Bool := match look E A x with
  | some (.rp j _ _ _) => (match h[j]? with
    | some (.cells _ _) => true
    | _ => false)
  | _ => false
/-- What stands at a place of an array. -/
def pCellLd (T : Tab) (t : Nat) (x : Operand) (E : Env) (A : Tg) (h : List Ob) (K : SV → Option β) : Option β := match T t, look E A x with
  | some ti, some (.rp j n i off) => match h[j]?, ti.ty with
    | some (.cells _ cs), some τ => bif Nat.beq n 1 && !ti.k.agg && !τ.isAg then (match segV τ (preN τ (cs.drop off)) (cs.drop off) with
        | some v => (gds E A A (ix (vlist (preN τ (cs.drop off)) v) i)).bind fun y => K (.p (τ.enc y))
        | none => none)
      else none
    | _, _ => none
  | _, _ => none
theorem pCellLd_ok (hT : TOk P T) {t : Nat} {x : Operand} {K : SV → Option β} (ho : o.op = .load t x) (hr : pCellLd T t x E A h K = some r) : ∃ s, (∀ h', (∀ b, rowOf x E A = some b → h'[b]? = h[b]?) → Yld P o E A h' s) ∧ K s = some r := by
  unfold pCellLd at hr
  split at hr
  · rename_i ti j n i off ht hx
    split at hr
    · rename_i u cs τ hob hτ
      obtain ⟨h1, hr2⟩ := bif_some hr
      clear hr
      simp only [Bool.and_eq_true, Bool.not_eq_true'] at h1
      obtain ⟨⟨h1, hag⟩, hτa⟩ := h1
      have e1 := Nat.eq_of_beq_eq_true h1
      subst e1
      split at hr2
      · rename_i v hv
        generalize preN τ (cs.drop off) = N at v hv hr2
        obtain ⟨y, hy, hr⟩ := bd hr2
        refine ⟨_, fun h' hb => gds_yld hy (fun _ h => h) fun hy => ?_, hr⟩
        have hob' : h'[j]? = some (.cells u cs) := (hb j (by simp only [rowOf, hx])).trans hob
        obtain ⟨k, rfl, hyk⟩ := ix_of hy
        refine .of_still fun a w F m hsim hO => ?_
        have ex := hO.rd (by simp [ho, Op.operands]) hx
        have hti := hT t ti ht
        generalize hva : a.eval x = va at ex
        cases ex with
        | @rp _ _ _ b _ hm =>
          obtain ⟨b', cur, g1, g2, g3, g4⟩ := hsim.ob j _ _ hob'
          rw [hm] at g1
          simp only [Pl.obj.injEq] at g1
          subst g1
          obtain ⟨s1, s2⟩ := segV_rd hv hτa (fun u hu => g4 u (List.mem_of_mem_drop hu)) (g3.drop off)
          obtain ⟨z, z1, z2⟩ := s1.get (k := k) (q := τ.enc y) (by rw [List.getElem?_map, hyk]; rfl)
          have hk : k < N := by have := (List.getElem?_eq_some_iff.1 hyk).1; rwa [vlist_length] at this
          rw [List.getElem?_take, if_pos hk, List.getElem?_drop] at z1
          have hrun := (run_loadVar_cells (P := P) (w := w) hti (b := b) (off := k * 1 + off) (vs := [z]) (fun j' v' hj' => by
            cases j' with
            | zero =>
              simp only [List.getElem?_cons_zero, Option.some.injEq] at hj'
              subst hj'
              rw [cell_of_row w b _ cur u (0, 0) g2, Nat.add_zero, Nat.mul_one, Nat.add_comm]
              simpa using z1
            | succ j' => simp at hj')).2 hag z rfl
          refine ⟨z, ?_, .p z2⟩
          rw [Int.toNat_natCast, Nat.mul_one] at hva
          rw [Nat.mul_one] at hrun
          simp [execOp, ho, hva, Instr.loadAt, Instr.sureAddr, hrun]
      · cases hr2
    · cases hr
  · cases hr
/-- A place of an array written. -/
def eStoreC (T : Tab) (t : Nat) (x y : Operand) (d : Option Nat) (E : Env) (h : List Ob) (K : Env → List Ob → Option β) : Option β := match d, T t, look E [] x, look E [] y with
  | none, some ti, some (.rp j n i off), some s => match scells (coS (some ti) s), h[j]?, ti.ty with
    | some [c], some (.cells u cs), some τ => match pur c with
      | some q => match τ.get q with
        | some z => bif Nat.beq n 1 && Nat.beq ti.size 1 && !τ.isAg then (match segV τ (preN τ (cs.drop off)) (cs.drop off) with
            | some v => (wrV (preN τ (cs.drop off)) v i z).bind fun v' => K E (h.set j (.cells u (cs.take off ++ (Vec.flat (fun y => (τ.enc y).cells) (preN τ (cs.drop off)) v').map .p ++ (cs.drop off).drop (preN τ (cs.drop off)))))
            | none => none)
          else none
        | none => none
      | none => none
    | _, _, _ => none
  | _, _, _, _ => none
theorem set_mid {α : Type} (A B C : List α) {k : Nat} (hk : k < B.length) (z : α) : (A ++ B ++ C).take (A.length + k) ++ [z] ++ (A ++ B ++ C).drop (A.length + k + 1) = A ++ B.set k z ++ C := by
  rw [List.append_assoc A B C, List.take_append, List.take_of_length_le (by omega), Nat.add_sub_cancel_left, List.take_append_of_le_length (by omega), Nat.add_assoc, List.drop_append, List.drop_of_length_le (by omega), List.nil_append, Nat.add_sub_cancel_left, List.drop_append_of_le_length (by omega), List.set_eq_take_append_cons_drop, if_pos hk]
  simp [List.append_assoc]
theorem cells_seg {w : World} {F : Fz} {m : Mp} {τ : Ty} {N off : Nat} {cs : List SV} {v : Vec τ.den N} {X : Obj} {u : Nat} (hv : segV τ N (cs.drop off) = some v) (ha : τ.isAg = false) (hX : RdO w F m X (.cells u cs)) :
    RdO w F m X (.cells u (cs.take off ++ ((vlist N v).map τ.enc).map .p ++ (cs.drop off).drop N)) := by
  cases hX with
  | @cells cur _ _ hcs h1 =>
    refine .cells ?_ h1
    obtain ⟨s1, s2⟩ := segV_rd hv ha (fun u hu => h1 u (List.mem_of_mem_drop hu)) (hcs.drop off)
    have e : cur.toList = cur.toList.take off ++ (cur.toList.drop off).take N ++ (cur.toList.drop off).drop N := by rw [List.append_assoc, List.take_append_drop, List.take_append_drop]
    have := ((hcs.take off).append (s1.toS (m := m))).append ((hcs.drop off).drop N)
    rwa [← e] at this
theorem eStoreC_ok (hT : TOk P T) {t : Nat} {x y : Operand} {K : Env → List Ob → Option β} (hoi : ops[i]? = some o) (hg : o.guard = none) (ho : o.op = .store t x y)
    (hr : eStoreC T t x y o.dst E h K = some r) (hK : ∀ E' h', K E' h' = some r → WL P nt ops (i + 1) E' h' Q) : WL P nt ops i E h Q := by
  unfold eStoreC at hr
  split at hr
  · rename_i ti j n iv off s hd ht hx hy
    split at hr
    · rename_i c u cs τ hc hob hτ
      split at hr
      · rename_i q hq
        split at hr
        · rename_i z hz
          obtain ⟨h1, hr2⟩ := bif_some hr
          clear hr
          simp only [Bool.and_eq_true, Bool.not_eq_true'] at h1
          obtain ⟨⟨h1, h2⟩, hτa⟩ := h1
          have e1 := Nat.eq_of_beq_eq_true h1
          subst e1
          split at hr2
          · rename_i v hv
            generalize preN τ (cs.drop off) = N at v hv hr2
            obtain ⟨v', hv', hr⟩ := bd hr2
            clear hr2
            unfold wrV at hv'
            split at hv'
            · rename_i hb
              obtain ⟨k, rfl⟩ : ∃ k : Nat, iv = (k : Int) := ⟨iv.toNat, by omega⟩
              have hk : k < N := by omega
              obtain rfl := Option.some.inj hv'
              rw [Int.toNat_natCast] at hr
              have hW := hK _ _ hr
              clear hr hv' hK
              refine WL_op hoi hg fun {bs} a w F m hrel N' Q hN => ?_
              have hO := hrel.opd (Tags.nil a) o
              have ex := hO.rd (by simp [ho, Op.operands]) hx
              have ey := coS_rd (i := some ti) (hO.rd (by simp [ho, Op.operands]) hy)
              obtain ⟨v1, v2⟩ := scells_rd hc ey
              have hlt := (List.getElem?_eq_some_iff.1 hob).1
              have hr1 := hrel.obTo (ob' := .cells u (cs.take off ++ ((vlist N v).map τ.enc).map .p ++ (cs.drop off).drop N)) hob rfl rfl fun X hX => cells_seg hv hτa hX
              have hoff : off ≤ cs.length := by
                obtain ⟨_, cur, _, _, g3, g4⟩ := hrel.sim.ob j _ _ hob
                have := (segV_rd hv hτa (fun u hu => g4 u (List.mem_of_mem_drop hu)) (g3.drop off)).2
                rw [List.length_drop] at this
                omega
              have hA : (cs.take off).length = off := by rw [List.length_take]; omega
              have hB : (((vlist N v).map τ.enc).map SV.p).length = N := by rw [List.length_map, List.length_map, vlist_length]
              have v1' : RdSL w F m (a.eval y).cells.toList [.p (τ.enc z)] := by
                cases hcl : (a.eval y).cells.toList with
                | nil => rw [hcl] at v1; cases v1
                | cons a1 al =>
                  rw [hcl] at v1
                  cases v1 with
                  | cons k1 k2 => cases k2; exact .cons (.p (get_rd hz (pur_rd hq k1))) .nil
              obtain ⟨bl, cur, g1, g2, g3, g4, g5⟩ := hr1.store (o := none) (off := off + k) (cs := cs.take off ++ ((vlist N v).map τ.enc).map .p ++ (cs.drop off).drop N) (List.getElem?_set_self hlt) v1' v2 (by
                rw [List.length_append, List.length_append, hA, hB]; simp only [List.length_singleton]; omega)
              rw [List.set_set, List.length_singleton] at g4
              have e2 := set_mid (cs.take off) (((vlist N v).map τ.enc).map SV.p) ((cs.drop off).drop N) (k := k) (by omega) (.p (τ.enc z))
              rw [hA] at e2
              rw [e2, ← List.map_set, ← List.map_set, ← vlist_put] at g4
              rw [flat_vlist, map_enc_one hτa] at hW
              obtain ⟨inf, hi1, hi2, _⟩ := (hT t ti ht).info
              have hl1 : (a.eval y).cells.toList.length = 1 := by have := v1'.length; simpa using this
              have hsz : (a.eval y).cells.size = inf.size := by
                have := Nat.eq_of_beq_eq_true h2
                have hl2 : (a.eval y).cells.size = 1 := by simpa using hl1
                omega
              generalize hva : a.eval x = va at ex
              cases ex with
              | @rp _ _ _ bb _ hm =>
                rw [hm] at g1
                simp only [Pl.obj.injEq] at g1
                subst g1
                have hst := run_storeCells_at P bb (off + k) u (a.eval y).cells.toList 0 cur w g2 (by simpa using g3) v2
                unfold Oper.wp
                rw [Int.toNat_natCast, Nat.mul_one, Nat.add_comm] at hva
                have hrun : (execOp a.eval o).run P w = .ok .skip (w.setRow bb (cur.toList.take (off + k) ++ (a.eval y).cells.toList ++ cur.toList.drop (off + k + (a.eval y).cells.toList.length)).toArray) := by
                  simp only [Nat.add_zero] at hst
                  simp only [execOp, ho, hva, Instr.storeAt, Instr.sureAddr, Sem.run_bind, Sem.run_pure, Result.andThen_ok, storeVar, sizeOf, typeInfo, run_program, hi1]
                  rw [if_neg (by simpa using hsz)]
                  rw [hst]
                  rfl
                rw [hrun]
                simp only [Oper.upon, hd]
                exact hN _ _ _ _ _ _ hW g4 g5
            · cases hv'
          · cases hr2
        · cases hr
      · cases hr
    · cases hr
  · cases hr
theorem RdC.fz {w : World} {F : Fz} : ∀ {b off : Nat} {cs : List PV}, RdC w F b off cs → ∀ j, j < cs.length → F b (off + j)
  | _, _, _, .nil _ _, j, hj => absurd hj (Nat.not_lt_zero _)
  | _, _, _, .cons hF _ _ _ hs, 0, _ => hF
  | b, off, _, .cons _ _ _ _ hs, j + 1, hj => by
    have := RdC.fz hs j (by simpa using hj)
    rwa [show off + 1 + j = off + (j + 1) by omega] at this
theorem segV_enc {w : World} {F : Fz} {b off N : Nat} {τ : Ty} {cs : List PV} {v : Vec τ.den N} (hv : segV τ N (cs.map .p) = some v) (ha : τ.isAg = false) (hr : RdC w F b off cs) : RdC w F b off ((vlist N v).map τ.enc) ∧ N ≤ cs.length := by
  obtain ⟨vs, h1, h2, h3⟩ := hr.vals
  obtain ⟨s1, s2⟩ := segV_rd (m := fun _ => .free) hv ha h3.one h3.toS
  rw [List.length_map] at s2
  refine ⟨RdC.of_vals s1 (fun k u hk => ?_) fun k hk => ?_, s2⟩
  · rw [List.getElem?_take] at hk
    split at hk
    · exact h2 k u hk
    · cases hk
  · rw [List.length_map, vlist_length] at hk
    exact hr.fz k (by omega)
/-- All of an array, as a row. -/
def pArrSl (T : Tab) (t : Nat) (x : Operand) (E : Env) (A : Tg) (K : SV → Option β) : Option β := match kOf T t with
  | .ar n e => match T e, look E A x with
    | some _, some (.ptr b 0) => K (.row e n b)
    | some ei, some (.padr cs) => match ei.ty with
      | some τ => bif !τ.isAg then (match segV τ n (cs.map .p) with
        | some v => K (.p (.sl 1 τ (vlist n v)))
        | none => none) else none
      | none => none
    | _, _ => none
  | _ => none
theorem pArrSl_ok (hT : TOk P T) {t : Nat} {x : Operand} {K : SV → Option β} (ho : o.op = .slice t x none none none) (hr : pArrSl T t x E A K = some r) : ∃ s, (∀ h, Yld P o E A h s) ∧ K s = some r := by
  unfold pArrSl at hr
  split at hr
  · rename_i n e hk
    obtain ⟨ti, hti, htk⟩ := kOf_ti (T := T) (t := t) (by rw [hk]; simp)
    have hu := (hT t ti hti).array (htk.trans hk)
    split at hr
    · rename_i ei b he hx
      obtain ⟨inf, hi1, hi2, _⟩ := (hT e ei he).info
      refine ⟨_, fun h => ?_, hr⟩
      refine .of_still fun a w F m hs hO => ?_
      have ex := hO.rd (by simp [ho, Op.operands]) hx
      generalize hv : a.eval x = v at ex
      cases ex with
      | @ptr _ _ bl hm =>
        refine ⟨.slice (some ⟨bl, 0, none⟩) n n, ?_, .row hm⟩
        simp [execOp, ho, hv, Instr.sliceAt, Instr.sureAddr, run_underlying hu, Instr.sliceBounds, sizeOf, typeInfo, hi1, Addr.add_lit]
    · rename_i ei cs he hx
      split at hr
      · rename_i τ hτ
        obtain ⟨h1, hr2⟩ := bif_some hr
        clear hr
        simp only [Bool.not_eq_true'] at h1
        split at hr2
        · rename_i v hv
          obtain ⟨inf, hi1, hi2, _⟩ := (hT e ei he).info
          refine ⟨_, fun h => ?_, hr2⟩
          refine .of_still fun a w F m hs hO => ?_
          have ex := hO.rd (by simp [ho, Op.operands]) hx
          generalize hva : a.eval x = va at ex
          cases ex with
          | @padr bl off _ hrc =>
            obtain ⟨g1, g2⟩ := segV_enc hv h1 hrc
            refine ⟨.slice (some ⟨bl, off, none⟩) n n, ?_, .p ?_⟩
            · simp [execOp, ho, hva, Instr.sliceAt, Instr.sureAddr, run_underlying hu, Instr.sliceBounds, sizeOf, typeInfo, hi1, Addr.add_lit]
            · have := Rd.sl (w := w) (F := F) (b := bl) (off := off) (cap := n) (n := 1) (τ := τ) (xs := vlist n v) (fun q hq => by obtain ⟨z, _, rfl⟩ := List.mem_map.1 hq; rw [enc_one h1]; rfl) (by rw [vlist_length]; exact Nat.le_refl _) (by
                have e : ((vlist n v).map τ.enc).flatMap PV.cells = (vlist n v).map τ.enc := by rw [List.flatMap_map]; exact map_enc_one h1 _
                rw [e]; exact g1)
              rwa [vlist_length] at this
        · cases hr2
      · cases hr
    · cases hr
  · cases hr
/-- A row taken as an array. -/
def pToArr (T : Tab) (t : Nat) (x : Operand) (E : Env) (A : Tg) (K : SV → Option β) : Option β := match kOf T t with
  | .ar (n + 1) e => match look E A x with
    | some s => match pur s with
      | some (.sl m τ xs) => bif Nat.beq m 1 && !τ.isAg then (@gds (Ty.ar (n + 1) τ).den ⟨(Ty.ar (n + 1) τ).dflt⟩ E A A (vfirst (n + 1) xs)).bind fun v => K (.padr (Vec.flat (fun y => (τ.enc y).cells) (n + 1) v)) else none
      | _ => none
    | none => none
  | _ => none
theorem pToArr_ok (hT : TOk P T) {t : Nat} {x : Operand} {K : SV → Option β} (ho : o.op = .sliceToArrayPointer t x) (hr : pToArr T t x E A K = some r) : ∃ s, (∀ h, Yld P o E A h s) ∧ K s = some r := by
  unfold pToArr at hr
  split at hr
  · rename_i n e hk
    obtain ⟨ti, hti, htk⟩ := kOf_ti (T := T) (t := t) (by rw [hk]; simp)
    have hu := (hT t ti hti).array (htk.trans hk)
    split at hr
    · rename_i s hx
      split at hr
      · rename_i m τ xs hq
        obtain ⟨h1, hr2⟩ := bif_some hr
        clear hr
        simp only [Bool.and_eq_true, Bool.not_eq_true'] at h1
        obtain ⟨h1, hτa⟩ := h1
        have e1 := Nat.eq_of_beq_eq_true h1
        subst e1
        obtain ⟨v, hv, hK⟩ := bd hr2
        refine ⟨_, fun h => @gds_yld _ _ _ _ _ (Ty.ar (n + 1) τ).den ⟨(Ty.ar (n + 1) τ).dflt⟩ v _ _ _ hv (fun _ h => h) fun hv => ?_, hK⟩
        obtain ⟨k1, k2⟩ := vfirst_of hv
        refine .of_still fun a w F m hs hO => ?_
        have ex := pur_rd hq (hO.rd (by simp [ho, Op.operands]) hx)
        generalize hva : a.eval x = va at ex
        cases ex with
        | nil => simp at k2
        | emp => simp at k2
        | @sl b off cap _ _ _ hn hc hrc =>
          have e : (xs.map τ.enc).flatMap PV.cells = xs.map τ.enc := by rw [List.flatMap_map]; exact map_enc_one hτa _
          rw [e] at hrc
          refine ⟨.pointer (some ⟨b, off, none⟩), ?_, .padr ?_⟩
          · simp [execOp, ho, hva, Instr.arrayAt, run_underlying hu, Nat.not_lt.2 k2]
          · rw [flat_vlist, map_enc_one hτa, k1, List.map_take]
            exact hrc.take _
      · cases hr
    · cases hr
  · cases hr
/-- What is copied out of: a row of things of one cell, or a text. -/
def srcL (τ : Ty) (s : SV) : Option (List τ.den) := match pur s with
  | some (.s (.string b)) => (match τ with
    | .i .u8 => some (strb b)
    | _ => none)
  | some q => dSl 1 τ q
  | none => none
theorem bytes_rd {w : World} {F : Fz} : ∀ l : List UInt8, RdL w F (l.map fun b => Value.int .u8 (b.toNat : Int)) ((l.map fun b => ((b.toNat : Nat) : Int)).map (Ty.enc (.i .u8)))
  | [] => .nil
  | b :: l => .cons rfl (.s _) (bytes_rd l)
theorem srcL_first {w : World} {F : Fz} {m : Mp} {τ : Ty} {s : SV} {v : Value} {ys : List τ.den} (h : srcL τ s = some ys) (ha : τ.isAg = false) (hr : RdS w F m v s) :
    (Builtin.lenOf v).run P w = .ok ys.length w ∧ ∀ n, n ≤ ys.length → ∃ vs : List Value, (Builtin.firstCells 1 n v).run P w = .ok vs.toArray w ∧ RdL w F vs ((ys.take n).map τ.enc) := by
  unfold srcL at h
  split at h
  · rename_i b hb
    have hrd := pur_rd hb hr
    split at h
    · obtain rfl := Option.some.inj h
      cases hrd
      refine ⟨by simp [Builtin.lenOf, strb], fun n hn => ⟨(b.data.toList.take n).map fun b => Value.int .u8 (b.toNat : Int), ?_, ?_⟩⟩
      · simp only [Builtin.firstCells, Sem.run_pure]
        congr 1
        apply Array.ext'
        simp [ByteArray.data_extract, List.extract_eq_take_drop]
      · unfold strb
        rw [← List.map_take]
        exact bytes_rd _
    · cases h
  · rename_i q _ hq
    have hrd := dSl_rd h (pur_rd hq hr)
    have e : (ys.map τ.enc).flatMap PV.cells = ys.map τ.enc := by rw [List.flatMap_map]; exact map_enc_one ha _
    cases hrd with
    | nil => exact ⟨by simp [Builtin.lenOf], fun n hn => ⟨[], by simp [Builtin.firstCells], by simpa using RdL.nil⟩⟩
    | emp a => exact ⟨by simp [Builtin.lenOf], fun n hn => by
        obtain rfl : n = 0 := by simpa using hn
        have := run_loadCells_list (P := P) w a [] (fun j v hj => by simp at hj)
        exact ⟨[], by simpa [Builtin.firstCells] using this, by simpa using RdL.nil⟩⟩
    | @sl b off cap _ _ _ hn hc hrc =>
      rw [e] at hrc
      refine ⟨by simp [Builtin.lenOf], fun n hn => ?_⟩
      obtain ⟨vs, k1, k2, k3⟩ := (hrc.take n).vals
      have hl : vs.length = n := by rw [k1, List.length_take, List.length_map]; omega
      have := run_loadCells_list (P := P) w ⟨b, off, none⟩ vs (fun j v hj => by rw [Addr.add_lit]; exact k2 j v hj)
      rw [hl] at this
      exact ⟨vs, by simpa [Builtin.firstCells] using this, by rwa [List.map_take]⟩
  · cases h
/-- Copied into an array. -/
def eCopy (T : Tab) (nt : Nat) (c : Call) (d : Option Nat) (E : Env) (h : List Ob) (K : Env → List Ob → Option β) : Option β := match c.args.toList, c.argTypes.toList with
  | [x, y], [t, _] => match kOf T t, look E [] x, look E [] y with
    | .sl e, some (.row _ len j), some sy => match T e, h[j]? with
      | some ei, some (.cells u cs) => match ei.ty with
        | some τ => match srcL τ sy, segV τ len cs with
          | some ys, some v => bif Nat.beq ei.size 1 && !τ.isAg && dstOk nt E [] d then
              (cpV len v ys).bind fun v' => K (E.putO d [] (vi ((min ys.length len : Nat) : Int))) (h.set j (.cells u ((Vec.flat (fun y => (τ.enc y).cells) len v').map .p ++ cs.drop len))) else none
          | _, _ => none
        | none => none
      | _, _ => none
    | _, _, _ => none
  | _, _ => none
theorem eCopy_ok (hT : TOk P T) {c : Call} {K : Env → List Ob → Option β} (hoi : ops[i]? = some o) (hg : o.guard = none) (ho : o.op = .call c) (hc : c.callee = .builtin .copy)
    (hr : eCopy T nt c o.dst E h K = some r) (hK : ∀ E' h', K E' h' = some r → WL P nt ops (i + 1) E' h' Q) : WL P nt ops i E h Q := by
  unfold eCopy at hr
  split at hr
  · rename_i x y t t' hargs htys
    split at hr
    · rename_i e e' len j sy hk hx hy
      split at hr
      · rename_i ei u cs he hob
        split at hr
        · rename_i τ hτ
          split at hr
          · rename_i ys v hys hv
            obtain ⟨h1, hr2⟩ := bif_some hr
            clear hr
            simp only [Bool.and_eq_true, Bool.not_eq_true'] at h1
            obtain ⟨⟨h1, hτa⟩, hd⟩ := h1
            obtain ⟨v', hv', hr⟩ := bd hr2
            clear hr2
            unfold cpV at hv'
            split at hv'
            · obtain rfl := Option.some.inj hv'
              have hW := hK _ _ hr
              clear hr hv' hK
              refine WL_op hoi hg fun {bs} a w F m hrel N' Q hN => ?_
              have hO := hrel.opd (Tags.nil a) o
              have hm : ∀ z ∈ c.args.toList, z ∈ o.op.operands := fun z hz => by rw [ho]; exact Array.mem_append.2 (.inr (Array.mem_toList_iff.1 hz))
              have ex := hO.rd (hm x (by rw [hargs]; simp)) hx
              have ey := hO.rd (hm y (by rw [hargs]; simp)) hy
              obtain ⟨ti, hti, htk⟩ := kOf_ti (T := T) (t := t) (by rw [hk]; simp)
              have hu := (hT t ti hti).slice (htk.trans hk)
              obtain ⟨inf, hi1, hi2, _⟩ := (hT e ei he).info
              have hlt := (List.getElem?_eq_some_iff.1 hob).1
              have hsz : inf.size = 1 := hi2.trans (Nat.eq_of_beq_eq_true h1)
              obtain ⟨s1, s2⟩ := srcL_first (P := P) hys hτa ey
              obtain ⟨vs, s3, s4⟩ := s2 (min ys.length len) (Nat.min_le_left _ _)
              have hvl : vs.length = min ys.length len := by have := s4.length; rw [List.length_map, List.length_take] at this; omega
              have hlen : len ≤ cs.length := by
                obtain ⟨_, cur, _, _, g3, g4⟩ := hrel.sim.ob j _ _ hob
                exact (segV_rd hv hτa g4 g3).2
              have hr1 := hrel.obTo (ob' := .cells u (((vlist len v).map τ.enc).map .p ++ cs.drop len)) hob rfl rfl fun X hX => by
                have := cells_seg (off := 0) (N := len) (by simpa using hv) hτa hX
                simpa using this
              have hB : (((vlist len v).map τ.enc).map SV.p).length = len := by rw [List.length_map, List.length_map, vlist_length]
              obtain ⟨bl, cur, g1, g2, g3, g4, g5⟩ := hr1.store (o := none) (off := 0) (List.getElem?_set_self hlt) (s4.toS (m := m)) s4.one (by
                rw [List.length_append, hB, List.length_map, List.length_map, List.length_take]; omega)
              rw [List.set_set] at g4
              have e2 : (((vlist len v).map τ.enc).map SV.p ++ cs.drop len).take 0 ++ (((ys.take (min ys.length len)).map τ.enc).map SV.p) ++ (((vlist len v).map τ.enc).map SV.p ++ cs.drop len).drop (0 + (((ys.take (min ys.length len)).map τ.enc).map SV.p).length) = (Vec.flat (fun y => (τ.enc y).cells) len (vcp len v ys)).map .p ++ cs.drop len := by
                rw [flat_vlist, map_enc_one hτa, vlist_cp, List.take_zero, List.nil_append, Nat.zero_add, List.length_map, List.length_map, List.length_take, List.drop_append_of_le_length (by rw [hB]; omega), ← List.append_assoc, List.map_append, List.map_append]
                congr 1
                have e3 : ys.take (min ys.length len) = ys.take len := by
                  rcases Nat.le_total ys.length len with hle | hle
                  · rw [Nat.min_eq_left hle, List.take_of_length_le (Nat.le_refl _), List.take_of_length_le hle]
                  · rw [Nat.min_eq_right hle]
                rw [e3]
                congr 1
                rw [← List.map_drop, ← List.map_drop]
                congr 2
                rcases Nat.le_total ys.length len with hle | hle
                · rw [Nat.min_eq_left hle, Nat.min_self]
                · rw [Nat.min_eq_right hle, Nat.min_eq_left hle, List.drop_of_length_le (by rw [vlist_length]; exact Nat.le_refl _), List.drop_of_length_le (by rw [vlist_length]; exact hle)]
              rw [e2] at g4
              have g6 := g4.put (d := o.dst) (s := vi ((min ys.length len : Nat) : Int)) (v := goInt vs.length) hd (Tags.nil a) (Qt.refl _ _) (by rw [hvl]; exact .p (.s _))
              generalize hva : a.eval x = va at ex
              cases ex with
              | @row _ _ _ bb hm =>
                rw [hm] at g1
                simp only [Pl.obj.injEq] at g1
                subst g1
                have hst := run_storeCells_at P bb 0 u vs 0 cur w g2 (by simpa using g3) s4.one
                unfold Oper.wp
                have e4 : c.args.map a.eval = #[.slice (some ⟨bb, 0, none⟩) len len, a.eval y] := Array.ext' (by rw [Array.toList_map, hargs]; simp [hva])
                have e5 : c.argTypes = #[t, t'] := Array.ext' (by rw [htys])
                have hrun : (execOp a.eval o).run P w = .ok (.value (goInt vs.length)) (w.setRow bb (cur.toList.take 0 ++ vs ++ cur.toList.drop (0 + vs.length)).toArray) := by
                  simp only [Nat.add_zero] at hst
                  simp [execOp, ho, resolve, hc, invoke, builtin, e4, e5, Builtin.copy_, run_underlying hu, sizeOf, typeInfo, hi1, hsz, s1, s3, hst, hvl]
                rw [hrun]
                simp only [Oper.upon]
                exact hN _ _ _ _ _ _ hW g6 g5
            · cases hv'
          · cases hr
        · cases hr
      · cases hr
    · cases hr
  · cases hr
end
end Go.Proofs.YtmjkflppajienaaDoor.R
