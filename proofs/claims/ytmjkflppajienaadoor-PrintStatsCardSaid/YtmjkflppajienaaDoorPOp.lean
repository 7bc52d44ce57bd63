/- Operations: whether one is right, by the program and by the reference, as one; no condition. -/
import Derived.Test.YtmjkflppajienaaDoorPFrom
namespace Go.Proofs.YtmjkflppajienaaDoor.R.Pu
open Go Go.RowKit
set_option linter.unusedVariables false
set_option linter.unusedSimpArgs false
set_option maxRecDepth 100000

abbrev Op : Type := Int × ByteArray × ByteArray × Int × List ByteArray × List ByteArray × Vec Int 32 × Int × Unit
abbrev Hk : Type := Int × List ByteArray × List ByteArray × Unit
def zk : Vec Int 32 := (0, 0, 0, 0, 0, 0, 0, 0, 0, 0, 0, 0, 0, 0, 0, 0, 0, 0, 0, 0, 0, 0, 0, 0, 0, 0, 0, 0, 0, 0, 0, 0, ())
noncomputable def teqK (a b : Vec Int 32) : Bool := teq (Ty.ar 32 (Ty.i IntKind.u8)) a b
def hk (o : Op) : Hk := (o.2.2.2.1, o.2.2.2.2.1, o.2.2.2.2.2.1, ())
def e0 : ByteArray := { data := { toList := [] } }
def hright (h : Hk) : Bool := decide (h.1 ≥ 0) && decide (h.1 ≤ 1000) && linesOk h.2.1 && linesOk h.2.2.1 && (decide (0 < h.2.1.length) || decide (0 < h.2.2.1.length))
def pf (s : ByteArray) : Bool := decide (s = e0) || right s
def nT (o : Op) : Bool := decide (o.2.2.1 = e0)
def nA (o : Op) : Bool := decide (o.2.2.2.1 = 0)
def nO (o : Op) : Bool := decide (o.2.2.2.2.1 = [])
def nN (o : Op) : Bool := decide (o.2.2.2.2.2.1 = [])
noncomputable def nK (o : Op) : Bool := teqK o.2.2.2.2.2.2.1 zk
def nD (o : Op) : Bool := decide (o.2.2.2.2.2.2.2.1 = 0)
/-- Is it formed, by its kind? -/
noncomputable def fm (o : Op) : Bool :=
  bif decide (o.1 = 1) then right o.2.1 && (nT o && (nA o && (nO o && (nN o && (nK o && nD o)))))
  else bif decide (o.1 = 2) then (right o.2.1 && linesOk o.2.2.2.2.1) && (nT o && (nA o && (nN o && (nK o && nD o))))
  else bif decide (o.1 = 3) then (right o.2.1 && hright (hk o)) && (nT o && (nK o && nD o))
  else bif decide (o.1 = 4) then ((right o.2.1 && right o.2.2.1) && !decide (o.2.1 = o.2.2.1)) && (nA o && (nO o && (nN o && (nK o && nD o))))
  else bif decide (o.1 = 5) then pf o.2.1 && (nT o && (nA o && (nO o && nN o)))
  else pf o.2.1 && (nT o && (nA o && (nO o && (nN o && nD o))))
/-- What is wrong with it. -/
noncomputable def wrg (o : Op) : Int := bif decide (o.1 < 1) || decide (o.1 > 6) then 1 else bif !fm o then 3 else bif decide (o.2.2.2.2.2.2.2.1 < 0) || decide (o.2.2.2.2.2.2.2.1 > 8) then 5 else 0

/-! ### the program's -/
def bareS (o : Op) : Op :=
  bif decide (o.1 = 3) then (o.1, o.2.1, e0, o.2.2.2.1, o.2.2.2.2.1, o.2.2.2.2.2.1, zk, 0, ())
  else bif decide (o.1 = 2) then (o.1, o.2.1, e0, 0, o.2.2.2.2.1, [], zk, 0, ())
  else bif decide (o.1 = 4) then (o.1, o.2.1, o.2.2.1, 0, [], [], zk, 0, ())
  else bif decide (o.1 = 5) then (o.1, o.2.1, e0, 0, [], [], o.2.2.2.2.2.2.1, o.2.2.2.2.2.2.2.1, ())
  else bif decide (o.1 = 6) then (o.1, o.2.1, e0, 0, [], [], o.2.2.2.2.2.2.1, 0, ())
  else (o.1, o.2.1, e0, 0, [], [], zk, 0, ())
theorem bare_ev (o : Op) : op_bare.f o = some (bareS o) := by
  refine op_bare.in _ ?_
  simp only [jn_eq]
  unfold bareS
  show _ = some (bif decide (o.1 = 3) then _ else bif decide (o.1 = 2) then _ else bif decide (o.1 = 4) then _ else bif decide (o.1 = 5) then _ else bif decide (o.1 = 6) then _ else _)
  cases decide (o.1 = 3) with
  | true => rfl
  | false =>
  cases decide (o.1 = 2) with
  | true => rfl
  | false =>
  cases decide (o.1 = 4) with
  | true => rfl
  | false =>
  cases decide (o.1 = 5) with
  | true => rfl
  | false =>
  cases decide (o.1 = 6) with
  | true => rfl
  | false => rfl
theorem hsame_ev (a b : Hk) (h1 : a.2.1.length ≤ 1000000) (h2 : a.2.2.1.length ≤ 1000000) (h3 : b.2.1.length ≤ 1000000) (h4 : b.2.2.1.length ≤ 1000000) : hunk_Same.f a b = some (decide (a.1 = b.1) && decide (a.2.1 = b.2.1) && decide (a.2.2.1 = b.2.2.1)) := by
  refine hunk_Same.in _ _ ?_
  rw [equal_ev _ _ (by omega) (by omega), equal_ev _ _ (by omega) (by omega)]
  cases decide (a.1 = b.1) with
  | false => rfl
  | true =>
    cases decide (a.2.1 = b.2.1) with
    | false => rfl
    | true => rfl
noncomputable def smB (a b : Op) : Bool := decide (a.1 = b.1) && decide (a.2.1 = b.2.1) && decide (a.2.2.1 = b.2.2.1) && teqK a.2.2.2.2.2.2.1 b.2.2.2.2.2.2.1 && decide (a.2.2.2.2.2.2.2.1 = b.2.2.2.2.2.2.2.1) && (decide (a.2.2.2.1 = b.2.2.2.1) && decide (a.2.2.2.2.1 = b.2.2.2.2.1) && decide (a.2.2.2.2.2.1 = b.2.2.2.2.2.1))
theorem osame_ev (a b : Op) (h1 : a.2.2.2.2.1.length ≤ 1000000) (h2 : a.2.2.2.2.2.1.length ≤ 1000000) (h3 : b.2.2.2.2.1.length ≤ 1000000) (h4 : b.2.2.2.2.2.1.length ≤ 1000000) : op_Same.f a b = some (smB a b) := by
  refine op_Same.in _ _ ?_
  show (gd (decide (a.1 = b.1) && decide (a.2.1 = b.2.1) && decide (a.2.2.1 = b.2.2.1) && teqK a.2.2.2.2.2.2.1 b.2.2.2.2.2.2.1 && decide (a.2.2.2.2.2.2.2.1 = b.2.2.2.2.2.2.2.1)) (op_Hunk.f a)).bind (fun x1 => (gd (decide (a.1 = b.1) && decide (a.2.1 = b.2.1) && decide (a.2.2.1 = b.2.2.1) && teqK a.2.2.2.2.2.2.1 b.2.2.2.2.2.2.1 && decide (a.2.2.2.2.2.2.2.1 = b.2.2.2.2.2.2.2.1)) (op_Hunk.f b)).bind fun x2 => (gd (decide (a.1 = b.1) && decide (a.2.1 = b.2.1) && decide (a.2.2.1 = b.2.2.1) && teqK a.2.2.2.2.2.2.1 b.2.2.2.2.2.2.1 && decide (a.2.2.2.2.2.2.2.1 = b.2.2.2.2.2.2.2.1)) (hunk_Same.f x1 x2)).bind fun x3 => some (decide (a.1 = b.1) && decide (a.2.1 = b.2.1) && decide (a.2.2.1 = b.2.2.1) && teqK a.2.2.2.2.2.2.1 b.2.2.2.2.2.2.1 && decide (a.2.2.2.2.2.2.2.1 = b.2.2.2.2.2.2.2.1) && x3)) = _
  unfold smB
  generalize (decide (a.1 = b.1) && decide (a.2.1 = b.2.1) && decide (a.2.2.1 = b.2.2.1) && teqK a.2.2.2.2.2.2.1 b.2.2.2.2.2.2.1 && decide (a.2.2.2.2.2.2.2.1 = b.2.2.2.2.2.2.2.1)) = c
  rw [op_Hunk.in a (r := hk a) rfl, op_Hunk.in b (r := hk b) rfl]
  cases c with
  | false => rfl
  | true => rw [gdT, Option.bind_some, gdT, Option.bind_some, gdT, hsame_ev (hk a) (hk b) h1 h2 h3 h4]; rfl
theorem bare_len (o : Op) : (bareS o).2.2.2.2.1.length ≤ o.2.2.2.2.1.length ∧ (bareS o).2.2.2.2.2.1.length ≤ o.2.2.2.2.2.1.length := by
  unfold bareS
  cases decide (o.1 = 3) <;> cases decide (o.1 = 2) <;> cases decide (o.1 = 4) <;> cases decide (o.1 = 5) <;> cases decide (o.1 = 6) <;> exact ⟨by simp, by simp⟩
theorem tail_ev (o : Op) (ok : Bool) (h1 : o.2.2.2.2.1.length ≤ 1000000) (h2 : o.2.2.2.2.2.1.length ≤ 1000000) : ((gd ok (op_bare.f o)).bind fun x4 => (gd ok (op_Same.f o x4)).bind fun x5 => some (ok && x5)) = some (ok && smB o (bareS o)) := by
  obtain ⟨h3, h4⟩ := bare_len o
  cases ok with
  | false => rfl
  | true => rw [gdT, bare_ev, Option.bind_some, gdT, osame_ev _ _ h1 h2 (by omega) (by omega)]; rfl
theorem sm_all (o : Op) : smB o (bareS o) = bif decide (o.1 = 3) then (nT o && (nK o && nD o))
    else bif decide (o.1 = 2) then (nT o && (nA o && (nN o && (nK o && nD o))))
    else bif decide (o.1 = 4) then (nA o && (nO o && (nN o && (nK o && nD o))))
    else bif decide (o.1 = 5) then (nT o && (nA o && (nO o && nN o)))
    else bif decide (o.1 = 6) then (nT o && (nA o && (nO o && (nN o && nD o))))
    else (nT o && (nA o && (nO o && (nN o && (nK o && nD o))))) := by
  have tq : teqK o.2.2.2.2.2.2.1 o.2.2.2.2.2.2.1 = true := teq_iff.2 rfl
  unfold bareS
  cases decide (o.1 = 3) with
  | true =>
    show (decide (o.1 = o.1) && decide (o.2.1 = o.2.1) && nT o && nK o && nD o && (decide (o.2.2.2.1 = o.2.2.2.1) && decide (o.2.2.2.2.1 = o.2.2.2.2.1) && decide (o.2.2.2.2.2.1 = o.2.2.2.2.2.1))) = _
    simp only [decide_true, Bool.true_and, Bool.and_true, cond_true]
    cases nT o <;> cases nK o <;> cases nD o <;> rfl
  | false =>
  cases decide (o.1 = 2) with
  | true =>
    show (decide (o.1 = o.1) && decide (o.2.1 = o.2.1) && nT o && nK o && nD o && (nA o && decide (o.2.2.2.2.1 = o.2.2.2.2.1) && nN o)) = _
    simp only [decide_true, Bool.true_and, Bool.and_true, cond_true, cond_false]
    cases nT o <;> cases nK o <;> cases nD o <;> cases nA o <;> cases nN o <;> rfl
  | false =>
  cases decide (o.1 = 4) with
  | true =>
    show (decide (o.1 = o.1) && decide (o.2.1 = o.2.1) && decide (o.2.2.1 = o.2.2.1) && nK o && nD o && (nA o && nO o && nN o)) = _
    simp only [decide_true, Bool.true_and, Bool.and_true, cond_true, cond_false]
    cases nO o <;> cases nK o <;> cases nD o <;> cases nA o <;> cases nN o <;> rfl
  | false =>
  cases decide (o.1 = 5) with
  | true =>
    show (decide (o.1 = o.1) && decide (o.2.1 = o.2.1) && nT o && teqK o.2.2.2.2.2.2.1 o.2.2.2.2.2.2.1 && decide (o.2.2.2.2.2.2.2.1 = o.2.2.2.2.2.2.2.1) && (nA o && nO o && nN o)) = _
    simp only [tq, decide_true, Bool.true_and, Bool.and_true, cond_true, cond_false]
    cases nO o <;> cases nT o <;> cases nA o <;> cases nN o <;> rfl
  | false =>
  cases decide (o.1 = 6) with
  | true =>
    show (decide (o.1 = o.1) && decide (o.2.1 = o.2.1) && nT o && teqK o.2.2.2.2.2.2.1 o.2.2.2.2.2.2.1 && nD o && (nA o && nO o && nN o)) = _
    simp only [tq, decide_true, Bool.true_and, Bool.and_true, cond_true, cond_false]
    cases nO o <;> cases nT o <;> cases nD o <;> cases nA o <;> cases nN o <;> rfl
  | false =>
    show (decide (o.1 = o.1) && decide (o.2.1 = o.2.1) && nT o && nK o && nD o && (nA o && nO o && nN o)) = _
    simp only [tq, decide_true, Bool.true_and, Bool.and_true, cond_true, cond_false]
    cases nO o <;> cases nT o <;> cases nK o <;> cases nD o <;> cases nA o <;> cases nN o <;> rfl
theorem hright_ev (h : Hk) (h1 : h.2.1.length ≤ 1000000) (h2 : h.2.2.1.length ≤ 1000000) : hunk_Right.f h = some (hright h) := by
  refine hunk_Right.in _ ?_
  rw [hunk_Lines_ev _ (by omega), hunk_Lines_ev _ (by omega), w_ (by omega) (by omega)]
  have e : decide ((h.2.1.length : Int) + (h.2.2.1.length : Int) > 0) = (decide (0 < h.2.1.length) || decide (0 < h.2.2.1.length)) := by
    rw [Bool.eq_iff_iff]; simp only [Bool.or_eq_true, decide_eq_true_eq]; omega
  rw [e]
  unfold hright
  cases decide (h.1 ≥ 0) && decide (h.1 ≤ 1000) with
  | false => rfl
  | true => cases linesOk h.2.1 <;> rfl
theorem pf_ev (s : ByteArray) : path_Prefix.f s = some (pf s) := by
  refine path_Prefix.in _ ?_
  rw [right_ev]
  show (gd (!decide (s = e0)) _).bind (fun x1 => some (decide (s = e0) || x1)) = _
  unfold pf
  cases decide (s = e0) <;> rfl
theorem formed_ev (o : Op) (hb : (decide (o.1 < 1) || decide (o.1 > 6)) = false) (h1 : o.2.2.2.2.1.length ≤ 1000000) (h2 : o.2.2.2.2.2.1.length ≤ 1000000) : op_formed.f o = some (fm o) := by
  refine op_formed.in _ ?_
  have T := fun ok => tail_ev o ok h1 h2
  have S := sm_all o
  simp only [Bool.or_eq_false_iff, decide_eq_false_iff_not] at hb
  rw [right_ev, Option.bind_some]
  simp only [jn_eq]
  show (if decide (o.1 = 2) = true then ((gd (right o.2.1) (hunk_Lines.f o.2.2.2.2.1)).bind fun x6 => _) else if decide (o.1 = 3) = true then ((gd (right o.2.1) (op_Hunk.f o)).bind fun x7 => _) else if decide (o.1 = 4) = true then ((gd (right o.2.1) (path_Right.f o.2.2.1)).bind fun x9 => _) else if decide (o.1 = 5) = true then (if decide (o.1 = 5) = true then ((path_Prefix.f o.2.1).bind fun x12 => _) else _) else (if decide (o.1 = 6) = true then ((path_Prefix.f o.2.1).bind fun x12 => _) else _)) = _
  unfold fm
  by_cases k2 : o.1 = 2
  · rw [decide_eq_true k2, if_pos rfl]
    rw [decide_eq_false (show ¬ o.1 = 3 by omega), decide_eq_true k2] at S
    rw [decide_eq_false (show ¬ o.1 = 1 by omega)]
    simp only [cond_true, cond_false] at S ⊢
    rw [← S, hunk_Lines_ev _ (by omega)]
    cases right o.2.1 with
    | false => exact T false
    | true => exact T _
  rw [decide_eq_false k2, if_neg (by decide)]
  rw [decide_eq_false k2] at S
  by_cases k3 : o.1 = 3
  · rw [decide_eq_true k3, if_pos rfl]
    rw [decide_eq_true k3] at S
    rw [decide_eq_false (show ¬ o.1 = 1 by omega)]
    simp only [cond_true, cond_false] at S ⊢
    rw [← S, op_Hunk.in o (r := hk o) rfl]
    cases right o.2.1 with
    | false => exact T false
    | true => rw [gdT, Option.bind_some, gdT, hright_ev (hk o) h1 h2]; exact T _
  rw [decide_eq_false k3, if_neg (by decide)]
  rw [decide_eq_false k3] at S
  by_cases k4 : o.1 = 4
  · rw [decide_eq_true k4, if_pos rfl]
    rw [decide_eq_true k4] at S
    rw [decide_eq_false (show ¬ o.1 = 1 by omega)]
    simp only [cond_true, cond_false] at S ⊢
    rw [← S, right_ev]
    cases right o.2.1 with
    | false => exact T false
    | true => exact T _
  rw [decide_eq_false k4, if_neg (by decide)]
  rw [decide_eq_false k4] at S
  by_cases k5 : o.1 = 5
  · rw [decide_eq_true k5, if_pos rfl, if_pos rfl, pf_ev, Option.bind_some]
    rw [decide_eq_true k5] at S
    rw [decide_eq_false (show ¬ o.1 = 1 by omega)]
    simp only [cond_true, cond_false] at S ⊢
    rw [← S]
    exact T _
  rw [decide_eq_false k5, if_neg (by decide)]
  rw [decide_eq_false k5] at S
  by_cases k6 : o.1 = 6
  · rw [decide_eq_true k6, if_pos rfl, pf_ev, Option.bind_some]
    rw [decide_eq_true k6] at S
    rw [decide_eq_false (show ¬ o.1 = 1 by omega)]
    simp only [cond_true, cond_false] at S ⊢
    rw [← S]
    exact T _
  rw [decide_eq_false k6, if_neg (by decide)]
  rw [decide_eq_false k6] at S
  rw [decide_eq_true (show o.1 = 1 by omega)]
  simp only [cond_true, cond_false] at S ⊢
  rw [← S]
  exact T _
theorem oright_ev (o : Op) (h1 : o.2.2.2.2.1.length ≤ 1000000) (h2 : o.2.2.2.2.2.1.length ≤ 1000000) : op_Right.f o = some (wrg o) := by
  refine op_Right.in _ ?_
  unfold wrg
  show (if (decide (o.1 < 1) || decide (o.1 > 6)) = true then _ else _) = _
  cases hb : decide (o.1 < 1) || decide (o.1 > 6) with
  | true => rfl
  | false =>
    rw [if_neg (by decide), formed_ev o hb h1 h2, Option.bind_some]
    cases fm o with
    | false => rfl
    | true =>
      show (if (decide (o.2.2.2.2.2.2.2.1 < 0) || decide (o.2.2.2.2.2.2.2.1 > 8)) = true then some 5 else some 0) = some (bif decide (o.2.2.2.2.2.2.2.1 < 0) || decide (o.2.2.2.2.2.2.2.1 > 8) then 5 else 0)
      cases decide (o.2.2.2.2.2.2.2.1 < 0) || decide (o.2.2.2.2.2.2.2.1 > 8) <;> rfl

/-! ### the reference's -/
theorem rhright_ev (h : Hk) (h1 : h.2.1.length ≤ 1000000) (h2 : h.2.2.1.length ≤ 1000000) (h3 : ∀ s ∈ h.2.1, s.size ≤ 1000000) (h4 : ∀ s ∈ h.2.2.1, s.size ≤ 1000000) : quitclaimref11_Right.f h = some (hright h) := by
  refine quitclaimref11_Right.in _ ?_
  rw [rLines_ev _ (by omega) (fun s hs => by have := h3 s hs; omega), rLines_ev _ (by omega) (fun s hs => by have := h4 s hs; omega)]
  have e : ∀ n : Nat, decide ((n : Int) > 0) = decide (0 < n) := fun n => by rw [decide_eq_decide]; omega
  rw [e, e]
  unfold hright
  cases decide (h.1 ≥ 0) && decide (h.1 ≤ 1000) with
  | false => rfl
  | true => cases linesOk h.2.1 <;> rfl
theorem rpf_ev (s : ByteArray) : quitclaimref13_prefix.f s = some (pf s) := by
  refine quitclaimref13_prefix.in _ ?_
  rw [rright_ev]
  show (gd (!decide (s = e0)) _).bind (fun x1 => some (decide (s = e0) || x1)) = _
  unfold pf
  cases decide (s = e0) <;> rfl
noncomputable def has (o : Op) : Nat → Bool
  | 0 => !nT o
  | 1 => !nA o
  | 2 => !nO o
  | 3 => !nN o
  | 4 => !nK o
  | 5 => !nD o
  | _ => false
def nmt : List UInt8 := [84, 65, 79, 78, 75, 68]
noncomputable def onl (o : Op) (s : List UInt8) (i : Nat) : Bool := !(has o i && !(s.any fun c => c == nmt.getD i 0))
noncomputable def onls (o : Op) (s : List UInt8) : Nat → Bool
  | 0 => true
  | n + 1 => onl o s (6 - (n + 1)) && onls o s n
theorem only_ev (o : Op) (s : ByteArray) (hs : s.size ≤ 100) : quitclaimref13_only.f o s = some (onls o s.data.toList 6) := by
  have hl := len_text s
  refine quitclaimref13_only.in _ _ ?_
  have eO : ∀ l : List ByteArray, decide ((l.length : Int) > 0) = !decide (l = []) := fun l => by cases l <;> simp <;> omega
  rw [eO, eO]
  refine (wh_ind (fun i : Nat => ((s, (), (⟨⟨nmt⟩⟩ : ByteArray), (i : Int), ()), o, ((!nT o, !nA o, !nO o, !nN o, !nK o, !nD o, ()) : Vec Bool 6), ())) (fun i => i ≤ 6) (fun i => 6 - i) (fun i => onls o s.data.toList (6 - i)) (fun i hi r hr => ?_) 0 (Nat.zero_le _)).trans rfl
  by_cases h6 : i < 6
  · have hr := hr (i + 1) (by omega) (by omega)
    have hn : bx (⟨⟨nmt⟩⟩ : ByteArray) (i : Int) = some ((nmt.getD i 0).toNat : Int) := by
      rcases (by omega : i = 0 ∨ i = 1 ∨ i = 2 ∨ i = 3 ∨ i = 4 ∨ i = 5) with rfl | rfl | rfl | rfl | rfl | rfl <;> rfl
    have e6 : onls o s.data.toList (6 - i) = (onl o s.data.toList i && onls o s.data.toList (6 - (i + 1))) := by
      obtain ⟨n, hn⟩ : ∃ n, 6 - i = n + 1 := ⟨6 - i - 1, by omega⟩
      rw [hn, show 6 - (i + 1) = n by omega]
      show (onl o s.data.toList (6 - (n + 1)) && onls o s.data.toList n) = _
      rw [show 6 - (n + 1) = i by omega]
    rw [e6]
    simp only []
    rw [decide_eq_true (show (i : Int) < 6 by omega), if_pos rfl]
    refine (wh_list s.data.toList (fun j (a : Bool) => ((s, (), (⟨⟨nmt⟩⟩ : ByteArray), (i : Int), a, j, ()), o, ((!nT o, !nA o, !nO o, !nN o, !nK o, !nD o, ()) : Vec Bool 6), ())) (fun _ _ => True) (fun l a => !(has o i && !(a || l.any fun c => c == nmt.getD i 0)) && onls o s.data.toList (6 - (i + 1))) (fun a r' _ => ?_) (fun j a r' h _ hr' => ?_) false trivial).trans ?_
    · have hsz : (s.data.toList.length : Int) = (s.size : Int) := by omega
      simp only [hsz]
      rw [decide_eq_false (show ¬ (s.size : Int) < (s.size : Int) by omega), if_neg (by decide), wS (by omega)]
      have fin : ∀ b : Bool, (if (b && !a) = true then some false else r ((s, (), (⟨⟨nmt⟩⟩ : ByteArray), ((i + 1 : Nat) : Int), ()), o, ((!nT o, !nA o, !nO o, !nN o, !nK o, !nD o, ()) : Vec Bool 6), ())) = some (!(b && !(a || ([] : List UInt8).any fun c => c == nmt.getD i 0)) && onls o s.data.toList (6 - (i + 1))) := fun b => by
        rw [hr, List.any_nil, Bool.or_false]
        cases b && !a <;> rfl
      have hx : ix (vlist 6 ((!nT o, !nA o, !nO o, !nN o, !nK o, !nD o, ()) : Vec Bool 6)) (i : Int) = some (has o i) := by
        rcases (by omega : i = 0 ∨ i = 1 ∨ i = 2 ∨ i = 3 ∨ i = 4 ∨ i = 5) with rfl | rfl | rfl | rfl | rfl | rfl <;> rfl
      rw [chk_ h6, Option.bind_some, hx, Option.bind_some]
      exact fin _
    · have hb := bx_ (s := s) (i := j) h
      simp only []
      rw [decide_eq_true (show (j : Int) < (s.size : Int) by omega), if_pos rfl, hn, hb, wS (by omega)]
      have e : decide (((s.data.toList[j]).toNat : Int) = ((nmt.getD i 0).toNat : Int)) = (s.data.toList[j] == nmt.getD i 0) := by
        rw [Bool.eq_iff_iff, decide_eq_true_eq, beq_iff_eq]; exact u8_eq
      cases a with
      | true => exact hr' true trivial
      | false =>
        simp only [Bool.not_false, gdT, Option.bind_some, e, Bool.false_or]
        refine (hr' _ trivial).trans ?_
        rw [List.any_cons]
    · rw [Bool.false_or]; rfl
  · obtain rfl : i = 6 := by omega
    rfl
theorem on_ (o : Op) (s : List UInt8) (m0 m1 m2 m3 m4 m5 : Bool) (h : [0, 1, 2, 3, 4, 5].map (fun i => s.any fun c => c == nmt.getD i 0) = [m0, m1, m2, m3, m4, m5]) :
    onls o s 6 = (!(!nT o && !m0) && (!(!nA o && !m1) && (!(!nO o && !m2) && (!(!nN o && !m3) && (!(!nK o && !m4) && !(!nD o && !m5)))))) := by
  simp only [List.map_cons, List.map_nil, List.cons.injEq, and_true] at h
  obtain ⟨h0, h1, h2, h3, h4, h5⟩ := h
  show (onl o s 0 && (onl o s 1 && (onl o s 2 && (onl o s 3 && (onl o s 4 && (onl o s 5 && true)))))) = _
  unfold onl
  rw [h0, h1, h2, h3, h4, h5, Bool.and_true]
  rfl
def fin13 (o : Op) (b : Bool) : Int := bif !b then 3 else bif decide (o.2.2.2.2.2.2.2.1 < 0) || decide (o.2.2.2.2.2.2.2.1 > 8) then 5 else 0
theorem fin13_ev (o : Op) (b : Bool) : (if (!b) = true then some 3 else if (decide (o.2.2.2.2.2.2.2.1 < 0) || decide (o.2.2.2.2.2.2.2.1 > 8)) = true then some 5 else some 0) = some (fin13 o b) := by
  unfold fin13
  cases b with
  | false => rfl
  | true => cases decide (o.2.2.2.2.2.2.2.1 < 0) || decide (o.2.2.2.2.2.2.2.1 > 8) <;> rfl
theorem rright_op (o : Op) (h1 : o.2.2.2.2.1.length ≤ 1000000) (h2 : o.2.2.2.2.2.1.length ≤ 1000000) (h3 : ∀ s ∈ o.2.2.2.2.1, s.size ≤ 1000000) (h4 : ∀ s ∈ o.2.2.2.2.2.1, s.size ≤ 1000000) : quitclaimref13_Right.f o = some (wrg o) := by
  refine quitclaimref13_Right.in _ ?_
  have hw : (decide (o.1 < 1) || decide (o.1 > 6)) = false → wrg o = fin13 o (fm o) := fun hb => by unfold wrg; rw [hb]; rfl
  cases hb : decide (o.1 < 1) || decide (o.1 > 6) with
  | true => unfold wrg; rw [hb]; rfl
  | false =>
    rw [if_neg (by decide), hw hb]
    simp only [Bool.or_eq_false_iff, decide_eq_false_iff_not] at hb
    clear hw
    obtain ⟨k, o⟩ := o
    simp only at h1 h2 h3 h4 hb
    rcases (by omega : k = 1 ∨ k = 2 ∨ k = 3 ∨ k = 4 ∨ k = 5 ∨ k = 6) with rfl | rfl | rfl | rfl | rfl | rfl
    · have e : ∀ x : Op, quitclaimref13_only.f x (⟨⟨[]⟩⟩ : ByteArray) = some (nT x && (nA x && (nO x && (nN x && (nK x && nD x))))) := fun x => (only_ev x _ (by decide)).trans (by rw [on_ x _ false false false false false false rfl]; cases nT x <;> cases nA x <;> cases nO x <;> cases nN x <;> cases nK x <;> cases nD x <;> rfl)
      show (quitclaimref10_Right.f o.1).bind (fun x26 => (gd x26 (quitclaimref13_only.f ((1 : Int), o) (⟨⟨[]⟩⟩ : ByteArray))).bind fun x27 => (if (!(x26 && x27)) = true then some 3 else if (decide (o.2.2.2.2.2.2.1 < 0) || decide (o.2.2.2.2.2.2.1 > 8)) = true then some 5 else some 0)) = _
      rw [rright_ev, Option.bind_some, e, show fm ((1 : Int), o) = (right o.1 && (nT ((1 : Int), o) && (nA ((1 : Int), o) && (nO ((1 : Int), o) && (nN ((1 : Int), o) && (nK ((1 : Int), o) && nD ((1 : Int), o))))))) from rfl]
      cases right o.1 with
      | false => exact fin13_ev ((1 : Int), o) false
      | true => exact fin13_ev ((1 : Int), o) _
    · have e : ∀ x : Op, quitclaimref13_only.f x (⟨⟨[79]⟩⟩ : ByteArray) = some (nT x && (nA x && (nN x && (nK x && nD x)))) := fun x => (only_ev x _ (by decide)).trans (by rw [on_ x _ false false true false false false rfl]; cases nT x <;> cases nA x <;> cases nO x <;> cases nN x <;> cases nK x <;> cases nD x <;> rfl)
      show (quitclaimref10_Right.f o.1).bind (fun x23 => (gd x23 (quitclaimref11_Lines.f o.2.2.2.1)).bind fun x24 => (gd (x23 && x24) (quitclaimref13_only.f ((2 : Int), o) (⟨⟨[79]⟩⟩ : ByteArray))).bind fun x25 => (if (!(x23 && x24 && x25)) = true then some 3 else if (decide (o.2.2.2.2.2.2.1 < 0) || decide (o.2.2.2.2.2.2.1 > 8)) = true then some 5 else some 0)) = _
      rw [rright_ev, Option.bind_some, rLines_ev _ (by omega) (fun s hs => by have := h3 s hs; omega), e, show fm ((2 : Int), o) = ((right o.1 && linesOk o.2.2.2.1) && (nT ((2 : Int), o) && (nA ((2 : Int), o) && (nN ((2 : Int), o) && (nK ((2 : Int), o) && nD ((2 : Int), o)))))) from rfl]
      cases right o.1 with
      | false => exact fin13_ev ((2 : Int), o) false
      | true =>
        cases linesOk o.2.2.2.1 with
        | false => exact fin13_ev ((2 : Int), o) false
        | true => exact fin13_ev ((2 : Int), o) _
    · have e : ∀ x : Op, quitclaimref13_only.f x (⟨⟨[65, 79, 78]⟩⟩ : ByteArray) = some (nT x && (nK x && nD x)) := fun x => (only_ev x _ (by decide)).trans (by rw [on_ x _ false true true true false false rfl]; cases nT x <;> cases nA x <;> cases nO x <;> cases nN x <;> cases nK x <;> cases nD x <;> rfl)
      show (quitclaimref10_Right.f o.1).bind (fun x23 => (gd x23 (quitclaimref11_Right.f (o.2.2.1, o.2.2.2.1, o.2.2.2.2.1, ()))).bind fun x24 => (gd (x23 && x24) (quitclaimref13_only.f ((3 : Int), o) (⟨⟨[65, 79, 78]⟩⟩ : ByteArray))).bind fun x25 => (if (!(x23 && x24 && x25)) = true then some 3 else if (decide (o.2.2.2.2.2.2.1 < 0) || decide (o.2.2.2.2.2.2.1 > 8)) = true then some 5 else some 0)) = _
      rw [rright_ev, Option.bind_some, rhright_ev (o.2.2.1, o.2.2.2.1, o.2.2.2.2.1, ()) h1 h2 h3 h4, e, show fm ((3 : Int), o) = ((right o.1 && hright (o.2.2.1, o.2.2.2.1, o.2.2.2.2.1, ())) && (nT ((3 : Int), o) && (nK ((3 : Int), o) && nD ((3 : Int), o)))) from rfl]
      cases right o.1 with
      | false => exact fin13_ev ((3 : Int), o) false
      | true =>
        cases hright (o.2.2.1, o.2.2.2.1, o.2.2.2.2.1, ()) with
        | false => exact fin13_ev ((3 : Int), o) false
        | true => exact fin13_ev ((3 : Int), o) _
    · have e : ∀ x : Op, quitclaimref13_only.f x (⟨⟨[84]⟩⟩ : ByteArray) = some (nA x && (nO x && (nN x && (nK x && nD x)))) := fun x => (only_ev x _ (by decide)).trans (by rw [on_ x _ true false false false false false rfl]; cases nT x <;> cases nA x <;> cases nO x <;> cases nN x <;> cases nK x <;> cases nD x <;> rfl)
      show (quitclaimref10_Right.f o.1).bind (fun x23 => (gd x23 (quitclaimref10_Right.f o.2.1)).bind fun x24 => (gd (x23 && x24 && !decide (o.1 = o.2.1)) (quitclaimref13_only.f ((4 : Int), o) (⟨⟨[84]⟩⟩ : ByteArray))).bind fun x25 => (if (!(x23 && x24 && !decide (o.1 = o.2.1) && x25)) = true then some 3 else if (decide (o.2.2.2.2.2.2.1 < 0) || decide (o.2.2.2.2.2.2.1 > 8)) = true then some 5 else some 0)) = _
      rw [rright_ev, Option.bind_some, rright_ev, e, show fm ((4 : Int), o) = (((right o.1 && right o.2.1) && !decide (o.1 = o.2.1)) && (nA ((4 : Int), o) && (nO ((4 : Int), o) && (nN ((4 : Int), o) && (nK ((4 : Int), o) && nD ((4 : Int), o)))))) from rfl]
      cases right o.1 with
      | false => exact fin13_ev ((4 : Int), o) false
      | true =>
        rw [gdT, Option.bind_some, Bool.true_and]
        cases right o.2.1 && !decide (o.1 = o.2.1) with
        | false => exact fin13_ev ((4 : Int), o) false
        | true => exact fin13_ev ((4 : Int), o) _
    · have e : ∀ x : Op, quitclaimref13_only.f x (⟨⟨[75, 68]⟩⟩ : ByteArray) = some (nT x && (nA x && (nO x && nN x))) := fun x => (only_ev x _ (by decide)).trans (by rw [on_ x _ false false false false true true rfl]; cases nT x <;> cases nA x <;> cases nO x <;> cases nN x <;> cases nK x <;> cases nD x <;> rfl)
      show (quitclaimref13_prefix.f o.1).bind (fun x26 => (gd x26 (quitclaimref13_only.f ((5 : Int), o) (⟨⟨[75, 68]⟩⟩ : ByteArray))).bind fun x27 => (if (!(x26 && x27)) = true then some 3 else if (decide (o.2.2.2.2.2.2.1 < 0) || decide (o.2.2.2.2.2.2.1 > 8)) = true then some 5 else some 0)) = _
      rw [rpf_ev, Option.bind_some, e, show fm ((5 : Int), o) = (pf o.1 && (nT ((5 : Int), o) && (nA ((5 : Int), o) && (nO ((5 : Int), o) && nN ((5 : Int), o))))) from rfl]
      cases pf o.1 with
      | false => exact fin13_ev ((5 : Int), o) false
      | true => exact fin13_ev ((5 : Int), o) _
    · have e : ∀ x : Op, quitclaimref13_only.f x (⟨⟨[75]⟩⟩ : ByteArray) = some (nT x && (nA x && (nO x && (nN x && nD x)))) := fun x => (only_ev x _ (by decide)).trans (by rw [on_ x _ false false false false true false rfl]; cases nT x <;> cases nA x <;> cases nO x <;> cases nN x <;> cases nK x <;> cases nD x <;> rfl)
      show (quitclaimref13_prefix.f o.1).bind (fun x26 => (gd x26 (quitclaimref13_only.f ((6 : Int), o) (⟨⟨[75]⟩⟩ : ByteArray))).bind fun x27 => (if (!(x26 && x27)) = true then some 3 else if (decide (o.2.2.2.2.2.2.1 < 0) || decide (o.2.2.2.2.2.2.1 > 8)) = true then some 5 else some 0)) = _
      rw [rpf_ev, Option.bind_some, e, show fm ((6 : Int), o) = (pf o.1 && (nT ((6 : Int), o) && (nA ((6 : Int), o) && (nO ((6 : Int), o) && (nN ((6 : Int), o) && nD ((6 : Int), o)))))) from rfl]
      cases pf o.1 with
      | false => exact fin13_ev ((6 : Int), o) false
      | true => exact fin13_ev ((6 : Int), o) _
end Go.Proofs.YtmjkflppajienaaDoor.R.Pu
