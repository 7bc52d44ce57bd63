/- Operations under tests that are known not to hold; no condition but the typed premises. -/
import Derived.Test.YtmjkflppajienaaDoorR5
namespace Go.Proofs.YtmjkflppajienaaDoor.R
open Go Go.RowKit
set_option linter.unusedVariables false
set_option linter.unusedSimpArgs false

/-- What nothing reads as: it stands where a test does not hold. -/
def bad : SV := .p (.agg [.agg []])
def isBad : SV → Bool
  | .p (.agg [.agg []]) => true
  | _ => false
theorem isBad_rd {w : World} {F : Fz} {m : Mp} {v : Value} {s : SV} (hs : isBad s = true) (h : RdS w F m v s) : False := by
  unfold isBad at hs
  split at hs
  · cases h with
    | p h =>
      cases h with
      | agg h =>
        cases h with
        | cons h1 h _ =>
          cases h
          cases h1
  · cases hs
/-- Do these tests not hold? -/
def deadE (E : Env) (A : Tg) : Bool := E.any fun x => match E.get x.1 with
  | some (tg, s) => isBad s && Tg.le tg A
  | none => false
section
variable {bs : Nat → Nat} {P : Program} {T : Tab} {nt : Nat} {E : Env} {h : List Ob} {Q : QB} {o : Oper} {i : Nat} {ops : Array Oper} {A : Tg}
theorem deadE_no {w : World} {F : Fz} {m : Mp} {a : Act} (hr : Rel bs nt w F m E h a) (hd : deadE E A = true) : ¬ Tags a A := fun hT => by
  obtain ⟨x, _, hx⟩ := List.any_eq_true.1 hd
  split at hx
  · rename_i tg s hs
    simp only [Bool.and_eq_true] at hx
    exact isBad_rd hx.1 (hr.rd x.1 tg s hs (Tg.le_tags hT hx.2))
  · cases hx
/-- The tests of an operation, if they are known not to hold. -/
def deadG (ops : Array Oper) (E : Env) (o : Oper) : Option Tg := match o.guard with
  | some (j, b) => match (ops[j]?).bind (·.dst) with
    | some u => match E.get u with
      | some (tg, _) => bif deadE E ((u, b) :: tg) then some ((u, b) :: tg) else none
      | none => none
    | none => none
  | none => none
theorem WL_dead (ho : ops[i]? = some o) (hg : deadG ops E o = some A) (hd : dstOk nt E A o.dst = true) (hW : WL P nt ops (i + 1) (E.putO o.dst A bad) h Q) : WL P nt ops i E h Q := by
  unfold deadG at hg
  split at hg
  · rename_i j b hgu
    split at hg
    · rename_i u hj
      split at hg
      · rename_i tg su hu
        cases hb : deadE E ((u, b) :: tg) with
        | false => rw [hb] at hg; cases hg
        | true =>
          rw [hb] at hg
          obtain rfl := Option.some.inj hg
          refine ⟨fun a w F m hr => ?_⟩
          have hlt := (Array.getElem?_eq_some_iff.1 ho).1
          rw [show ops.size - i = (ops.size - (i + 1)) + 1 by omega, List.range'_succ]
          simp only [wpOps, ho]
          have hT := deadE_no hr hb
          rw [if_neg (by simp only [Region.wanted, hgu, beq_iff_eq]; exact fun h => hT ((hr.wanted hu).1 ((yielded_some hj).1 h)))]
          exact WL.out hW _ w F m (hr.passed hd hT)
      · cases hg
    · cases hg
  · cases hg
/-- What is picked, where one side is known not to be. -/
def pickD (E : Env) (o : Oper) : Option SV := match o.op with
  | .pick (.tmp u) a b => match E.get u with
    | some ([], .p (.s (.bool t))) => bif deadE E [(u, true)] then look E [(u, false)] b else bif deadE E [(u, false)] then look E [(u, true)] a else none
    | _ => none
  | _ => none
theorem WL_pickD {s : SV} (ho : ops[i]? = some o) (hg : o.guard = none) (hp : pickD E o = some s) (hd : dstOk nt E [] o.dst = true) (hW : WL P nt ops (i + 1) (E.putO o.dst [] s) h Q) : WL P nt ops i E h Q := by
  unfold pickD at hp
  split at hp
  · rename_i u a b hop
    split at hp
    · rename_i t hu
      refine WL_op ho hg fun {bs} ac w F m hr N Q hN => ?_
      have eu : ac.tmps.getD u undef = .bool t := rd_s (hr.rd u [] _ hu (Tags.nil ac))
      have key : ∀ v, ac.eval (if t = true then a else b) = v → RdS w F m v s → o.wp P ac w N Q := fun v hv hrd => by
        unfold Oper.wp
        have hrun : (execOp ac.eval o).run P w = .ok (.value v) w := by
          have h3 : ac.eval (.tmp u) = .bool t := eu
          rw [← hv]
          cases t <;> simp [execOp, hop, h3, asBool]
        rw [hrun]
        simp only [Oper.upon]
        exact hN _ _ _ _ F m hW (hr.put hd (Tags.nil ac) (Qt.refl w F) hrd) (Gr.refl _ _ _)
      have tag : ∀ c, t = c → Tags ac [(u, c)] := fun c hc => by intro x hx; simp at hx; subst hx; rw [eu, hc]
      cases h1 : deadE E [(u, true)] with
      | true =>
        rw [h1] at hp
        have ht : t = false := by
          cases t with
          | false => rfl
          | true => exact absurd (tag true rfl) (deadE_no hr h1)
        subst ht
        exact key _ rfl (look_rd hr.rd (tag false rfl) hp)
      | false =>
        rw [h1] at hp
        obtain ⟨h2, hp⟩ := bif_some hp
        have ht : t = true := by
          cases t with
          | true => rfl
          | false => exact absurd (tag false rfl) (deadE_no hr h2)
        subst ht
        exact key _ rfl (look_rd hr.rd (tag true rfl) hp)
    · cases hp
  · cases hp
end
end Go.Proofs.YtmjkflppajienaaDoor.R
