/- Operations: whether one is right, by the code and by its reference, as one; no condition. -/
import Derived.Test.YtngcfmnmjkncoaaDoorPureHunk
import Derived.Test.YtngcfmnmjkncoaaDoorPurePath
namespace Go.Proofs.YtngcfmnmjkncoaaDoor.PureO
open Go Go.RowKit Go.Proofs.YtngcfmnmjkncoaaDoor.Q Go.Proofs.YtngcfmnmjkncoaaDoor.Pu
open Go.Proofs.YtngcfmnmjkncoaaDoor.PureS (good equal lines rlines right_ rright sm smh)
set_option linter.unusedVariables false

abbrev O := S_Op
def Pf (s : ByteArray) : Bool := s.data.toList == [] || PureP.right s
def hk (o : O) : S_At_Old_New := ⟨o.f3_At, o.f4_Old, o.f5_New⟩
def nT (o : O) : Bool := decide (o.f2_To = ⟨#[]⟩)
def nA (o : O) : Bool := decide (o.f3_At = 0)
def nO (o : O) : Bool := decide (o.f4_Old = [])
def nN (o : O) : Bool := decide (o.f5_New = [])
def nK (o : O) : Bool := decide (arl o.f6_Key 32 0 = List.replicate 32 0)
def nD (o : O) : Bool := decide (o.f7_Depth = 0)
/-- Is it formed, by its kind? -/
def fm (o : O) : Bool :=
  if o.f0_Kind = 1 then PureP.right o.f1_Path && (nT o && (nA o && (nO o && (nN o && (nK o && nD o)))))
  else if o.f0_Kind = 2 then (PureP.right o.f1_Path && good o.f4_Old) && (nT o && (nA o && (nN o && (nK o && nD o))))
  else if o.f0_Kind = 3 then (PureP.right o.f1_Path && PureS.right (hk o)) && (nT o && (nK o && nD o))
  else if o.f0_Kind = 4 then ((PureP.right o.f1_Path && PureP.right o.f2_To) && !decide (o.f1_Path = o.f2_To)) && (nA o && (nO o && (nN o && (nK o && nD o))))
  else if o.f0_Kind = 5 then Pf o.f1_Path && (nT o && (nA o && (nO o && nN o)))
  else Pf o.f1_Path && (nT o && (nA o && (nO o && (nN o && nD o))))
/-- What is wrong with it. -/
def wr_ (o : O) : Int := if (decide (o.f0_Kind < 1) || decide (o.f0_Kind > 6)) = true then 1 else if fm o = true then (if (decide (o.f7_Depth < 0) || decide (o.f7_Depth > 8)) = true then 5 else 0) else 3

/-! ### the code's -/
def zk : List Int := List.replicate 32 0
theorem arl_zk : arl zk 32 0 = zk := by decide +kernel
def bareS (o : O) : O :=
  if o.f0_Kind = 3 then ⟨o.f0_Kind, o.f1_Path, ⟨#[]⟩, o.f3_At, o.f4_Old, o.f5_New, zk, 0⟩
  else if o.f0_Kind = 2 then ⟨o.f0_Kind, o.f1_Path, ⟨#[]⟩, 0, o.f4_Old, [], zk, 0⟩
  else if o.f0_Kind = 4 then ⟨o.f0_Kind, o.f1_Path, o.f2_To, 0, [], [], zk, 0⟩
  else if o.f0_Kind = 5 then ⟨o.f0_Kind, o.f1_Path, ⟨#[]⟩, 0, [], [], o.f6_Key, o.f7_Depth⟩
  else if o.f0_Kind = 6 then ⟨o.f0_Kind, o.f1_Path, ⟨#[]⟩, 0, [], [], o.f6_Key, 0⟩
  else ⟨o.f0_Kind, o.f1_Path, ⟨#[]⟩, 0, [], [], zk, 0⟩
theorem bare_eq (o : O) : op_bare.f o = some (bareS o) := by
  unfold op_bare.f bareS jn
  dsimp only
  by_cases h3 : o.f0_Kind = 3
  · rw [if_pos h3, if_pos h3]; try rfl
  rw [if_neg h3, if_neg h3]
  by_cases h2 : o.f0_Kind = 2
  · rw [if_pos h2, if_pos h2]; try rfl
  rw [if_neg h2, if_neg h2]
  by_cases h4 : o.f0_Kind = 4
  · rw [if_pos h4, if_pos h4]; try rfl
  rw [if_neg h4, if_neg h4]
  by_cases h5 : o.f0_Kind = 5
  · rw [if_pos h5, if_pos h5]; try rfl
  rw [if_neg h5, if_neg h5]
  by_cases h6 : o.f0_Kind = 6
  · rw [if_pos h6, if_pos h6]; try rfl
  rw [if_neg h6, if_neg h6]
  rfl
theorem hsame (a b : S_At_Old_New) (h1 : a.f1_Old.length ≤ 1000000) (h2 : a.f2_New.length ≤ 1000000) : Ev (fun k => hunk_Same.f k a b) (decide (a.f0_At = b.f0_At) && (decide (a.f1_Old = b.f1_Old) && decide (a.f2_New = b.f2_New))) := by
  unfold hunk_Same.f
  cases decide (a.f0_At = b.f0_At) with
  | false => exact Ev.bind (Ev.g0 rfl) (Ev.bind (Ev.g0 rfl) (Ev.const _))
  | true =>
    refine Ev.bind (Ev.g1 rfl (equal _ _ h1)) ?_
    cases decide (a.f1_Old = b.f1_Old) with
    | false => exact Ev.bind (Ev.g0 rfl) (Ev.const _)
    | true => exact Ev.bind (Ev.g1 rfl (equal _ _ h2)) (Ev.const _)
def smB (a b : O) : Bool := ((((decide (a.f0_Kind = b.f0_Kind) && decide (a.f1_Path = b.f1_Path)) && decide (a.f2_To = b.f2_To)) && decide (arl a.f6_Key 32 0 = arl b.f6_Key 32 0)) && decide (a.f7_Depth = b.f7_Depth)) && (decide (a.f3_At = b.f3_At) && (decide (a.f4_Old = b.f4_Old) && decide (a.f5_New = b.f5_New)))
theorem same_ev (a b : O) (h1 : a.f4_Old.length ≤ 1000000) (h2 : a.f5_New.length ≤ 1000000) : Ev (fun k => op_Same.f k a b) (smB a b) := by
  unfold op_Same.f smB op_Hunk.f
  generalize ((((decide (a.f0_Kind = b.f0_Kind) && decide (a.f1_Path = b.f1_Path)) && decide (a.f2_To = b.f2_To)) && decide (arl a.f6_Key 32 0 = arl b.f6_Key 32 0)) && decide (a.f7_Depth = b.f7_Depth)) = c
  cases c with
  | false => exact Ev.bind (Ev.g0 rfl) (Ev.bind (Ev.g0 rfl) (Ev.bind (Ev.g0 rfl) (Ev.const _)))
  | true => exact Ev.bind (Ev.g1 rfl (Ev.const _)) (Ev.bind (Ev.g1 rfl (Ev.const _)) (Ev.bind (Ev.g1 rfl (hsame ⟨a.f3_At, a.f4_Old, a.f5_New⟩ ⟨b.f3_At, b.f4_Old, b.f5_New⟩ h1 h2)) (Ev.const _)))
theorem tail_ev (o : O) (ok : Bool) (h1 : o.f4_Old.length ≤ 1000000) (h2 : o.f5_New.length ≤ 1000000) : Ev (fun k => ((gd ok (op_bare.f o)).bind fun x15 => ((gd ok (op_Same.f k o x15)).bind fun x16 => some (ok && x16)))) (ok && smB o (bareS o)) := by
  cases ok with
  | false => exact Ev.bind (Ev.g0 rfl) (Ev.bind (Ev.g0 rfl) (Ev.const _))
  | true => exact Ev.bind (Ev.g1 rfl (Ev.ev (bare_eq o))) (Ev.bind (Ev.g1 rfl (same_ev o _ h1 h2)) (Ev.const _))
theorem nK_zk (o : O) : decide (arl o.f6_Key 32 0 = arl zk 32 0) = nK o := by rw [arl_zk]; rfl
theorem rf {α : Type} [DecidableEq α] (a : α) : decide (a = a) = true := decide_eq_true rfl
theorem sm1 {o : O} (h : o.f0_Kind = 1) : smB o (bareS o) = (nT o && (nA o && (nO o && (nN o && (nK o && nD o))))) := by
  have e : bareS o = ⟨o.f0_Kind, o.f1_Path, ⟨#[]⟩, 0, [], [], zk, 0⟩ := by unfold bareS; rw [if_neg (by omega), if_neg (by omega), if_neg (by omega), if_neg (by omega), if_neg (by omega)]
  rw [e]; unfold smB; simp only [nK_zk, decide_true]
  show (((((true && true) && nT o) && nK o) && nD o) && (nA o && (nO o && nN o))) = _
  cases nT o <;> cases nA o <;> cases nO o <;> cases nN o <;> cases nK o <;> cases nD o <;> rfl
theorem sm2 {o : O} (h : o.f0_Kind = 2) : smB o (bareS o) = (nT o && (nA o && (nN o && (nK o && nD o)))) := by
  have e : bareS o = ⟨o.f0_Kind, o.f1_Path, ⟨#[]⟩, 0, o.f4_Old, [], zk, 0⟩ := by unfold bareS; rw [if_neg (by omega), if_pos h]
  rw [e]; unfold smB; simp only [nK_zk, decide_true]
  show (((((true && true) && nT o) && nK o) && nD o) && (nA o && (true && nN o))) = _
  cases nT o <;> cases nA o <;> cases nN o <;> cases nK o <;> cases nD o <;> rfl
theorem sm3 {o : O} (h : o.f0_Kind = 3) : smB o (bareS o) = (nT o && (nK o && nD o)) := by
  have e : bareS o = ⟨o.f0_Kind, o.f1_Path, ⟨#[]⟩, o.f3_At, o.f4_Old, o.f5_New, zk, 0⟩ := by unfold bareS; rw [if_pos h]
  rw [e]; unfold smB; simp only [nK_zk, decide_true]
  show (((((true && true) && nT o) && nK o) && nD o) && (true && (true && true))) = _
  cases nT o <;> cases nK o <;> cases nD o <;> rfl
theorem sm4 {o : O} (h : o.f0_Kind = 4) : smB o (bareS o) = (nA o && (nO o && (nN o && (nK o && nD o)))) := by
  have e : bareS o = ⟨o.f0_Kind, o.f1_Path, o.f2_To, 0, [], [], zk, 0⟩ := by unfold bareS; rw [if_neg (by omega), if_neg (by omega), if_pos h]
  rw [e]; unfold smB; simp only [nK_zk, decide_true]
  show (((((true && true) && true) && nK o) && nD o) && (nA o && (nO o && nN o))) = _
  cases nA o <;> cases nO o <;> cases nN o <;> cases nK o <;> cases nD o <;> rfl
theorem sm5 {o : O} (h : o.f0_Kind = 5) : smB o (bareS o) = (nT o && (nA o && (nO o && nN o))) := by
  have e : bareS o = ⟨o.f0_Kind, o.f1_Path, ⟨#[]⟩, 0, [], [], o.f6_Key, o.f7_Depth⟩ := by unfold bareS; rw [if_neg (by omega), if_neg (by omega), if_neg (by omega), if_pos h]
  rw [e]; unfold smB; simp only [decide_true]
  show (((((true && true) && nT o) && true) && true) && (nA o && (nO o && nN o))) = _
  cases nT o <;> cases nA o <;> cases nO o <;> cases nN o <;> rfl
theorem sm6 {o : O} (h : o.f0_Kind = 6) : smB o (bareS o) = (nT o && (nA o && (nO o && (nN o && nD o)))) := by
  have e : bareS o = ⟨o.f0_Kind, o.f1_Path, ⟨#[]⟩, 0, [], [], o.f6_Key, 0⟩ := by unfold bareS; rw [if_neg (by omega), if_neg (by omega), if_neg (by omega), if_neg (by omega), if_pos h]
  rw [e]; unfold smB; simp only [decide_true]
  show (((((true && true) && nT o) && true) && nD o) && (nA o && (nO o && nN o))) = _
  cases nT o <;> cases nA o <;> cases nO o <;> cases nN o <;> cases nD o <;> rfl
theorem formed_ev (o : O) (hk1 : 1 ≤ o.f0_Kind) (hk6 : o.f0_Kind ≤ 6) (h1 : o.f4_Old.length ≤ 1000000) (h2 : o.f5_New.length ≤ 1000000) : Ev (fun k => op_formed.f k o) (fm o) := by
  unfold op_formed.f jn fm
  refine Ev.bind (PureP.right_ev o.f1_Path) ?_
  have T := fun ok => tail_ev o ok h1 h2
  by_cases k2 : o.f0_Kind = 2
  · refine Ev.pos k2 ?_
    rw [if_neg (by omega), if_pos k2, ← sm2 k2]
    cases PureP.right o.f1_Path with
    | false => exact Ev.bind (Ev.g0 rfl) (T _)
    | true => exact Ev.bind (Ev.g1 rfl (lines o.f4_Old)) (T _)
  refine Ev.neg k2 ?_
  by_cases k3 : o.f0_Kind = 3
  · refine Ev.pos k3 ?_
    rw [if_neg (by omega), if_neg k2, if_pos k3, ← sm3 k3]
    cases PureP.right o.f1_Path with
    | false => exact Ev.bind (Ev.g0 rfl) (Ev.bind (Ev.g0 rfl) (T _))
    | true => exact Ev.bind (Ev.g1 rfl (Ev.const (hk o))) (Ev.bind (Ev.g1 rfl (right_ (hk o))) (T _))
  refine Ev.neg k3 ?_
  by_cases k4 : o.f0_Kind = 4
  · refine Ev.pos k4 ?_
    rw [if_neg (by omega), if_neg k2, if_neg k3, if_pos k4, ← sm4 k4]
    cases PureP.right o.f1_Path with
    | false => exact Ev.bind (Ev.g0 rfl) (T _)
    | true => exact Ev.bind (Ev.g1 rfl (PureP.right_ev o.f2_To)) (T _)
  refine Ev.neg k4 ?_
  by_cases k5 : o.f0_Kind = 5
  · refine Ev.pos k5 ?_
    rw [if_neg (by omega), if_neg k2, if_neg k3, if_neg k4, if_pos k5, ← sm5 k5]
    exact Ev.pos (decide_eq_true k5) (Ev.bind (PureP.prefix_ev o.f1_Path) (T _))
  refine Ev.neg k5 ?_
  by_cases k6 : o.f0_Kind = 6
  · rw [if_neg (by omega), if_neg k2, if_neg k3, if_neg k4, if_neg k5, ← sm6 k6]
    exact Ev.pos (decide_eq_true k6) (Ev.bind (PureP.prefix_ev o.f1_Path) (T _))
  · have k1 : o.f0_Kind = 1 := by omega
    rw [if_pos k1, ← sm1 k1]
    exact Ev.neg (by rw [decide_eq_false k6]; decide) (T _)
theorem oright_ev (o : O) (h1 : o.f4_Old.length ≤ 1000000) (h2 : o.f5_New.length ≤ 1000000) : Ev (fun k => op_Right.f k o) (wr_ o) := by
  unfold op_Right.f wr_
  by_cases hb : (decide (o.f0_Kind < 1) || decide (o.f0_Kind > 6)) = true
  · rw [if_pos hb]; exact Ev.pos hb (Ev.const _)
  · rw [if_neg hb]
    refine Ev.neg hb ?_
    simp only [Bool.or_eq_true, decide_eq_true_eq] at hb
    refine Ev.bind (formed_ev o (by omega) (by omega) h1 h2) ?_
    cases fm o with
    | false => exact Ev.pos rfl (Ev.const _)
    | true =>
      refine Ev.neg (by decide) ?_
      by_cases hd : (decide (o.f7_Depth < 0) || decide (o.f7_Depth > 8)) = true
      · exact Ev.to (Ev.pos hd (Ev.const 5)) (by rw [if_pos rfl, if_pos hd])
      · exact Ev.to (Ev.neg hd (Ev.const 0)) (by rw [if_pos rfl, if_neg hd])

/-! ### the reference's -/
def has (o : O) : Nat → Bool
  | 0 => !nT o
  | 1 => !nA o
  | 2 => decide ((o.f4_Old.length : Int) > 0)
  | 3 => decide ((o.f5_New.length : Int) > 0)
  | 4 => !nK o
  | 5 => !nD o
  | _ => false
def nm (i : Nat) : UInt8 := ([84, 65, 79, 78, 75, 68] : List UInt8).getD i 0
theorem only_tail (o : O) (s : ByteArray) (i : Nat) (hi : i < 6) (b2 : Int → Option Bool) (x : Bool) (y : Int) (h : ¬ y < (s.size : Int)) (k : Nat) :
    quitclaimref13_only.l3 o s (i : Int) b2 (k + 1) x y = if (has o i && !x) = true then some false else b2 (w64 ((i : Int) + 1)) := by
  rw [quitclaimref13_only.l3, if_neg h]
  rcases (by omega : i = 0 ∨ i = 1 ∨ i = 2 ∨ i = 3 ∨ i = 4 ∨ i = 5) with rfl | rfl | rfl | rfl | rfl | rfl
  · rw [if_pos (by decide)]; rfl
  · rw [if_neg (by decide), if_pos (by decide)]; rfl
  · rw [if_neg (by decide), if_neg (by decide), if_pos (by decide)]; rfl
  · rw [if_neg (by decide), if_neg (by decide), if_neg (by decide), if_pos (by decide)]; rfl
  · rw [if_neg (by decide), if_neg (by decide), if_neg (by decide), if_neg (by decide), if_pos (by decide)]; rfl
  · rw [if_neg (by decide), if_neg (by decide), if_neg (by decide), if_neg (by decide), if_neg (by decide), if_pos (by decide)]; rfl
theorem only_in (o : O) (s : ByteArray) (hs : s.size ≤ 100) (i : Nat) (hi : i < 6) (b2 : Int → Option Bool) : ∀ (n j : Nat) (acc : Bool), j + n = s.size → ∀ k, n < k →
    quitclaimref13_only.l3 o s (i : Int) b2 k acc (j : Int) = if (has o i && !(acc || (s.data.toList.drop j).any fun c => c == nm i)) = true then some false else b2 (w64 ((i : Int) + 1)) := by
  have hl : s.data.toList.length = s.size := Array.length_toList
  intro n
  induction n with
  | zero =>
    intro j acc hj k hk
    obtain ⟨k, rfl⟩ : ∃ m, k = m + 1 := ⟨k - 1, by omega⟩
    rw [only_tail o s i hi b2 acc _ (by omega), List.drop_eq_nil_of_le (by omega)]
    simp
  | succ n ih =>
    intro j acc hj k hk
    obtain ⟨k, rfl⟩ : ∃ m, k = m + 1 := ⟨k - 1, by omega⟩
    have h1 : j < s.data.toList.length := by omega
    rw [quitclaimref13_only.l3, if_pos (by omega), List.drop_eq_getElem_cons h1, List.any_cons, w (by omega) (by omega)]
    have st := fun a => ih (j + 1) a (by omega) k (by omega)
    cases acc with
    | true =>
      show (quitclaimref13_only.l3 o s (i : Int) b2 k (true || _) ((j : Int) + 1)) = _
      rw [Bool.true_or, Bool.true_or]
      have := st true
      rw [Bool.true_or] at this
      exact this
    | false =>
      rw [bx_ h1]
      have hn : bx (⟨#[84, 65, 79, 78, 75, 68]⟩ : ByteArray) (i : Int) = some ((nm i).toNat : Int) := by
        rcases (by omega : i = 0 ∨ i = 1 ∨ i = 2 ∨ i = 3 ∨ i = 4 ∨ i = 5) with rfl | rfl | rfl | rfl | rfl | rfl <;> rfl
      show ((gd true (some ((s.data.toList[j]).toNat : Int))).bind fun x54 => ((gd true (bx (⟨#[84, 65, 79, 78, 75, 68]⟩ : ByteArray) (i : Int))).bind fun x55 => quitclaimref13_only.l3 o s (i : Int) b2 k (false || decide (x54 = x55)) ((j : Int) + 1))) = _
      rw [hn]
      show quitclaimref13_only.l3 o s (i : Int) b2 k (false || decide (((s.data.toList[j]).toNat : Int) = ((nm i).toNat : Int))) ((j : Int) + 1) = _
      have e : decide (((s.data.toList[j]).toNat : Int) = ((nm i).toNat : Int)) = (s.data.toList[j] == nm i) := by
        rw [Bool.eq_iff_iff, decide_eq_true_eq, beq_iff_eq]
        exact ⟨fun h => UInt8.toNat.inj (by omega), fun h => by rw [h]⟩
      rw [e, Bool.false_or, Bool.false_or]
      exact st _
def onl (o : O) (s : ByteArray) (i : Nat) : Bool := !(has o i && !(s.data.toList.any fun c => c == nm i))
theorem only_out (o : O) (s : ByteArray) (hs : s.size ≤ 100) : ∀ (n i : Nat), i + n = 6 → Ev (fun k => quitclaimref13_only.l2 o s k (i : Int)) ((List.range' i n).all (onl o s)) := by
  intro n
  induction n with
  | zero =>
    intro i hi
    exact Ev.stepc fun k => by rw [quitclaimref13_only.l2]; unfold jn; dsimp only; rw [if_neg (by omega)]; rfl
  | succ n ih =>
    intro i hi
    obtain ⟨K, q⟩ := ih (i + 1) (by omega)
    refine ⟨K + s.size + 2, fun k hk => ?_⟩
    obtain ⟨k, rfl⟩ : ∃ m, k = m + 1 := ⟨k - 1, by omega⟩
    show quitclaimref13_only.l2 o s (k + 1) (i : Int) = _
    rw [quitclaimref13_only.l2]
    unfold jn
    dsimp only
    rw [if_pos (by omega)]
    have h := only_in o s hs i (by omega) (fun x9 => quitclaimref13_only.l2 o s k x9) s.size 0 false (by omega) k (by omega)
    rw [List.drop_zero, Bool.false_or] at h
    refine h.trans ?_
    rw [List.range'_succ, List.all_cons]
    unfold onl
    cases hc : (has o i && !(s.data.toList.any fun c => c == nm i)) with
    | true => rw [if_pos rfl]; rfl
    | false =>
      rw [if_neg (by decide), w (by omega) (by omega)]
      exact q k (by omega)
theorem only_ev (o : O) (s : ByteArray) (hs : s.size ≤ 100) : Ev (fun k => quitclaimref13_only.f k o s) ((List.range' 0 6).all (onl o s)) := only_out o s hs 6 0 rfl
theorem smO (o : O) (s : ByteArray) : (List.range' 0 6).all (onl o s) = (onl o s 0 && (onl o s 1 && (onl o s 2 && (onl o s 3 && (onl o s 4 && onl o s 5))))) := by
  show (onl o s 0 && (onl o s 1 && (onl o s 2 && (onl o s 3 && (onl o s 4 && (onl o s 5 && true)))))) = _
  rw [Bool.and_true]
theorem has2 (o : O) : has o 2 = !nO o := by
  show decide ((o.f4_Old.length : Int) > 0) = !decide (o.f4_Old = [])
  cases o.f4_Old <;> simp <;> omega
theorem has3 (o : O) : has o 3 = !nN o := by
  show decide ((o.f5_New.length : Int) > 0) = !decide (o.f5_New = [])
  cases o.f5_New <;> simp <;> omega
theorem on_ (o : O) (s : ByteArray) (m0 m1 m2 m3 m4 m5 : Bool) (h : [0, 1, 2, 3, 4, 5].map (fun i => s.data.toList.any fun c => c == nm i) = [m0, m1, m2, m3, m4, m5]) :
    (List.range' 0 6).all (onl o s) = (!(!nT o && !m0) && (!(!nA o && !m1) && (!(!nO o && !m2) && (!(!nN o && !m3) && (!(!nK o && !m4) && !(!nD o && !m5)))))) := by
  simp only [List.map_cons, List.map_nil, List.cons.injEq, and_true] at h
  obtain ⟨h0, h1, h2, h3, h4, h5⟩ := h
  rw [smO]
  unfold onl
  rw [h0, h1, h2, h3, h4, h5, has2, has3]
  rfl
theorem on1 (o : O) : Ev (fun k => quitclaimref13_only.f k o ⟨#[]⟩) (nT o && (nA o && (nO o && (nN o && (nK o && nD o))))) :=
  (only_ev o _ (by decide)).to (by rw [on_ o _ false false false false false false rfl]; cases nT o <;> cases nA o <;> cases nO o <;> cases nN o <;> cases nK o <;> cases nD o <;> rfl)
theorem on2 (o : O) : Ev (fun k => quitclaimref13_only.f k o ⟨#[79]⟩) (nT o && (nA o && (nN o && (nK o && nD o)))) :=
  (only_ev o _ (by decide)).to (by rw [on_ o _ false false true false false false rfl]; cases nT o <;> cases nA o <;> cases nO o <;> cases nN o <;> cases nK o <;> cases nD o <;> rfl)
theorem on3 (o : O) : Ev (fun k => quitclaimref13_only.f k o ⟨#[65, 79, 78]⟩) (nT o && (nK o && nD o)) :=
  (only_ev o _ (by decide)).to (by rw [on_ o _ false true true true false false rfl]; cases nT o <;> cases nA o <;> cases nO o <;> cases nN o <;> cases nK o <;> cases nD o <;> rfl)
theorem on4 (o : O) : Ev (fun k => quitclaimref13_only.f k o ⟨#[84]⟩) (nA o && (nO o && (nN o && (nK o && nD o)))) :=
  (only_ev o _ (by decide)).to (by rw [on_ o _ true false false false false false rfl]; cases nT o <;> cases nA o <;> cases nO o <;> cases nN o <;> cases nK o <;> cases nD o <;> rfl)
theorem on5 (o : O) : Ev (fun k => quitclaimref13_only.f k o ⟨#[75, 68]⟩) (nT o && (nA o && (nO o && nN o))) :=
  (only_ev o _ (by decide)).to (by rw [on_ o _ false false false false true true rfl]; cases nT o <;> cases nA o <;> cases nO o <;> cases nN o <;> cases nK o <;> cases nD o <;> rfl)
theorem on6 (o : O) : Ev (fun k => quitclaimref13_only.f k o ⟨#[75]⟩) (nT o && (nA o && (nO o && (nN o && nD o)))) :=
  (only_ev o _ (by decide)).to (by rw [on_ o _ false false false false true false rfl]; cases nT o <;> cases nA o <;> cases nO o <;> cases nN o <;> cases nK o <;> cases nD o <;> rfl)
theorem pre_ev (p : ByteArray) : Ev (fun k => quitclaimref13_prefix.f k p) (Pf p) := by
  unfold quitclaimref13_prefix.f Pf
  rw [show decide (p = ⟨#[]⟩) = _ from PureP.eqb p []]
  cases (p.data.toList == []) with
  | true => exact Ev.bind (Ev.g0 rfl) (Ev.const _)
  | false => exact Ev.bind (Ev.g1 rfl (PureP.rright_ev p)) (Ev.const _)
/-- The end of r13.Right. -/
def fin (o : O) (b : Bool) : Int := if b = true then (if (decide (o.f7_Depth < 0) || decide (o.f7_Depth > 8)) = true then 5 else 0) else 3
theorem fin_ev (o : O) (b : Bool) : Ev (fun _ => (if (!b) = true then some 3 else (if (decide (o.f7_Depth < 0) || decide (o.f7_Depth > 8)) = true then some 5 else some 0))) (fin o b) := by
  unfold fin
  cases b with
  | false => exact Ev.pos rfl (Ev.const _)
  | true =>
    refine Ev.neg (by decide) ?_
    by_cases hd : (decide (o.f7_Depth < 0) || decide (o.f7_Depth > 8)) = true
    · exact Ev.to (Ev.pos hd (Ev.const 5)) (by rw [if_pos rfl, if_pos hd])
    · exact Ev.to (Ev.neg hd (Ev.const 0)) (by rw [if_pos rfl, if_neg hd])
theorem wr_fin {o : O} (h1 : 1 ≤ o.f0_Kind) (h6 : o.f0_Kind ≤ 6) : wr_ o = fin o (fm o) := by
  unfold wr_ fin
  rw [if_neg (by simp; omega)]
theorem rright_op (o : O) (h1 : sm o.f4_Old) (h2 : sm o.f5_New) : Ev (fun k => quitclaimref13_Right.f k o) (wr_ o) := by
  unfold quitclaimref13_Right.f
  by_cases hb : (decide (o.f0_Kind < 1) || decide (o.f0_Kind > 6)) = true
  · refine Ev.to (Ev.pos hb (Ev.const 1)) ?_
    unfold wr_; rw [if_pos hb]
  refine Ev.neg hb ?_
  simp only [Bool.or_eq_true, decide_eq_true_eq] at hb
  rw [wr_fin (by omega) (by omega)]
  unfold jn
  dsimp only
  by_cases k1 : o.f0_Kind = 1
  · refine Ev.pos k1 (Ev.bind (PureP.rright_ev o.f1_Path) ?_)
    have e : fm o = (PureP.right o.f1_Path && (nT o && (nA o && (nO o && (nN o && (nK o && nD o)))))) := by unfold fm; rw [if_pos k1]
    rw [e]
    cases PureP.right o.f1_Path with
    | false => exact Ev.bind (Ev.g0 rfl) (Ev.neg (by omega) (Ev.neg (by omega) (Ev.neg (by omega) (Ev.neg (by omega) (Ev.neg (by omega) (fin_ev o _))))))
    | true => exact Ev.bind (Ev.g1 rfl (on1 o)) (Ev.neg (by omega) (Ev.neg (by omega) (Ev.neg (by omega) (Ev.neg (by omega) (Ev.neg (by omega) (fin_ev o _))))))
  refine Ev.neg k1 ?_
  by_cases k2 : o.f0_Kind = 2
  · refine Ev.pos k2 (Ev.bind (PureP.rright_ev o.f1_Path) ?_)
    have e : fm o = ((PureP.right o.f1_Path && good o.f4_Old) && (nT o && (nA o && (nN o && (nK o && nD o))))) := by unfold fm; rw [if_neg k1, if_pos k2]
    rw [e]
    cases PureP.right o.f1_Path with
    | false => exact Ev.bind (Ev.g0 rfl) (Ev.bind (Ev.g0 rfl) (Ev.neg (by omega) (Ev.neg (by omega) (Ev.neg (by omega) (Ev.neg (by omega) (fin_ev o _))))))
    | true =>
      refine Ev.bind (Ev.g1 rfl (rlines _ h1.1 h1.2)) ?_
      cases good o.f4_Old with
      | false => exact Ev.bind (Ev.g0 rfl) (Ev.neg (by omega) (Ev.neg (by omega) (Ev.neg (by omega) (Ev.neg (by omega) (fin_ev o _)))))
      | true => exact Ev.bind (Ev.g1 rfl (on2 o)) (Ev.neg (by omega) (Ev.neg (by omega) (Ev.neg (by omega) (Ev.neg (by omega) (fin_ev o _)))))
  refine Ev.neg k2 ?_
  by_cases k3 : o.f0_Kind = 3
  · refine Ev.pos k3 (Ev.bind (PureP.rright_ev o.f1_Path) ?_)
    have e : fm o = ((PureP.right o.f1_Path && PureS.right (hk o)) && (nT o && (nK o && nD o))) := by unfold fm; rw [if_neg k1, if_neg k2, if_pos k3]
    rw [e]
    cases PureP.right o.f1_Path with
    | false => exact Ev.bind (Ev.g0 rfl) (Ev.bind (Ev.g0 rfl) (Ev.neg (by omega) (Ev.neg (by omega) (Ev.neg (by omega) (fin_ev o _)))))
    | true =>
      refine Ev.bind (Ev.g1 rfl (rright (hk o) ⟨h1, h2⟩)) ?_
      cases PureS.right (hk o) with
      | false => exact Ev.bind (Ev.g0 rfl) (Ev.neg (by omega) (Ev.neg (by omega) (Ev.neg (by omega) (fin_ev o _))))
      | true => exact Ev.bind (Ev.g1 rfl (on3 o)) (Ev.neg (by omega) (Ev.neg (by omega) (Ev.neg (by omega) (fin_ev o _))))
  refine Ev.neg k3 ?_
  by_cases k4 : o.f0_Kind = 4
  · refine Ev.pos k4 (Ev.bind (PureP.rright_ev o.f1_Path) ?_)
    have e : fm o = (((PureP.right o.f1_Path && PureP.right o.f2_To) && !decide (o.f1_Path = o.f2_To)) && (nA o && (nO o && (nN o && (nK o && nD o))))) := by unfold fm; rw [if_neg k1, if_neg k2, if_neg k3, if_pos k4]
    rw [e]
    cases PureP.right o.f1_Path with
    | false => exact Ev.bind (Ev.g0 rfl) (Ev.bind (Ev.g0 rfl) (Ev.neg (by omega) (Ev.neg (by omega) (fin_ev o _))))
    | true =>
      refine Ev.bind (Ev.g1 rfl (PureP.rright_ev o.f2_To)) ?_
      cases ((true && PureP.right o.f2_To) && !decide (o.f1_Path = o.f2_To)) with
      | false => exact Ev.bind (Ev.g0 rfl) (Ev.neg (by omega) (Ev.neg (by omega) (fin_ev o _)))
      | true => exact Ev.bind (Ev.g1 rfl (on4 o)) (Ev.neg (by omega) (Ev.neg (by omega) (fin_ev o _)))
  refine Ev.neg k4 ?_
  by_cases k5 : o.f0_Kind = 5
  · refine Ev.pos k5 (Ev.bind (pre_ev o.f1_Path) ?_)
    have e : fm o = (Pf o.f1_Path && (nT o && (nA o && (nO o && nN o)))) := by unfold fm; rw [if_neg k1, if_neg k2, if_neg k3, if_neg k4, if_pos k5]
    rw [e]
    cases Pf o.f1_Path with
    | false => exact Ev.bind (Ev.g0 rfl) (Ev.neg (by omega) (fin_ev o _))
    | true => exact Ev.bind (Ev.g1 rfl (on5 o)) (Ev.neg (by omega) (fin_ev o _))
  refine Ev.neg k5 ?_
  have k6 : o.f0_Kind = 6 := by omega
  refine Ev.pos k6 (Ev.bind (pre_ev o.f1_Path) ?_)
  have e : fm o = (Pf o.f1_Path && (nT o && (nA o && (nO o && (nN o && nD o))))) := by unfold fm; rw [if_neg k1, if_neg k2, if_neg k3, if_neg k4, if_neg k5]
  rw [e]
  cases Pf o.f1_Path with
  | false => exact Ev.bind (Ev.g0 rfl) (fin_ev o _)
  | true => exact Ev.bind (Ev.g1 rfl (on6 o)) (fin_ev o _)
end Go.Proofs.YtngcfmnmjkncoaaDoor.PureO
