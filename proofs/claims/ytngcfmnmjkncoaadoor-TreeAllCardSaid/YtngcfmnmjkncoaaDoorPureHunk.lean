/- Hunks: what the functions of the package hunk and of its reference answer, as one; no condition. -/
import Derived.Test.YtngcfmnmjkncoaaDoorQV
import Derived.Test.YtngcfmnmjkncoaaDoorQF0
namespace Go.Proofs.YtngcfmnmjkncoaaDoor.PureS
open Go Go.RowKit Go.Proofs.YtngcfmnmjkncoaaDoor.Q Go.Proofs.YtngcfmnmjkncoaaDoor.Pu
set_option linter.unusedVariables false

/-! ### equality -/
theorem equal_loop (x y : List ByteArray) (hx : x.length = y.length) (hl : x.length ≤ 1000000) :
    ∀ (n i : Nat), i + n = x.length → Ev (fun k => slices_Equal_string_string.l0 x y k (i : Int)) (decide (x.drop i = y.drop i)) := by
  intro n
  induction n with
  | zero =>
    intro i hi
    refine Ev.stepc fun k => ?_
    rw [slices_Equal_string_string.l0, if_neg (by omega), List.drop_eq_nil_of_le (by omega), List.drop_eq_nil_of_le (by omega)]
    simp
  | succ n ih =>
    intro i hi
    have h1 : i < x.length := by omega
    have h2 : i < y.length := by omega
    rw [drop_at h1, drop_at h2]
    by_cases he : x[i] = y[i]
    · have e : (decide (x[i] :: x.drop (i + 1) = y[i] :: y.drop (i + 1))) = decide (x.drop (i + 1) = y.drop (i + 1)) := by rw [decide_eq_decide, List.cons.injEq]; exact ⟨fun h => h.2, fun h => ⟨he, h⟩⟩
      rw [e]
      refine Ev.step (ih (i + 1) (by omega)) fun k => ?_
      rw [slices_Equal_string_string.l0, if_pos (by omega), ix_ h1, ix_ h2, Option.bind_some, Option.bind_some, if_neg (by simp [he]), w (by omega) (by omega)]
      rfl
    · have e : (decide (x[i] :: x.drop (i + 1) = y[i] :: y.drop (i + 1))) = false := decide_eq_false fun h => he (List.cons.inj h).1
      rw [e]
      refine Ev.stepc fun k => ?_
      rw [slices_Equal_string_string.l0, if_pos (by omega), ix_ h1, ix_ h2, Option.bind_some, Option.bind_some, if_pos (by simp [he])]
theorem equal (x y : List ByteArray) (hl : x.length ≤ 1000000) : Ev (fun k => slices_Equal_string_string.f k x y) (decide (x = y)) := by
  unfold slices_Equal_string_string.f
  by_cases h : x.length = y.length
  · exact Ev.neg (by simp; omega) (equal_loop x y h hl x.length 0 (by omega))
  · have e : decide (x = y) = false := decide_eq_false fun e => h (by rw [e])
    rw [e]
    exact Ev.pos (by simp; omega) (Ev.const false)
theorem same_loop (x y : List ByteArray) (hx : x.length = y.length) (hl : x.length ≤ 1000000) :
    ∀ (n i : Nat), i + n = x.length → Ev (fun k => quitclaimref05_Same.l0 x y k (i : Int)) (decide (x.drop i = y.drop i)) := by
  intro n
  induction n with
  | zero =>
    intro i hi
    refine Ev.stepc fun k => ?_
    rw [quitclaimref05_Same.l0, if_neg (by omega), List.drop_eq_nil_of_le (by omega), List.drop_eq_nil_of_le (by omega)]
    simp
  | succ n ih =>
    intro i hi
    have h1 : i < x.length := by omega
    have h2 : i < y.length := by omega
    rw [drop_at h1, drop_at h2]
    by_cases he : x[i] = y[i]
    · have e : (decide (x[i] :: x.drop (i + 1) = y[i] :: y.drop (i + 1))) = decide (x.drop (i + 1) = y.drop (i + 1)) := by rw [decide_eq_decide, List.cons.injEq]; exact ⟨fun h => h.2, fun h => ⟨he, h⟩⟩
      rw [e]
      refine Ev.step (ih (i + 1) (by omega)) fun k => ?_
      rw [quitclaimref05_Same.l0, if_pos (by omega), ix_ h1, ix_ h2, Option.bind_some, Option.bind_some, if_neg (by simp [he]), w (by omega) (by omega)]
      rfl
    · have e : (decide (x[i] :: x.drop (i + 1) = y[i] :: y.drop (i + 1))) = false := decide_eq_false fun h => he (List.cons.inj h).1
      rw [e]
      refine Ev.stepc fun k => ?_
      rw [quitclaimref05_Same.l0, if_pos (by omega), ix_ h1, ix_ h2, Option.bind_some, Option.bind_some, if_pos (by simp [he])]
theorem same (x y : List ByteArray) (hl : x.length ≤ 1000000) : Ev (fun k => quitclaimref05_Same.f k x y) (decide (x = y)) := by
  unfold quitclaimref05_Same.f
  by_cases h : x.length = y.length
  · exact Ev.neg (by simp; omega) (same_loop x y h hl x.length 0 (by omega))
  · have e : decide (x = y) = false := decide_eq_false fun e => h (by rw [e])
    rw [e]
    exact Ev.pos (by simp; omega) (Ev.const false)
theorem same1 (x : List ByteArray) (hl : x.length ≤ 1000000) : Ev (fun k => quitclaimref05_Same.f k x x) true := (same x x hl).to (decide_eq_true rfl)

/-! ### right lines -/
def bad (s : ByteArray) : Bool := decide (200 < s.size) || s.data.toList.contains 10
def good (x : List ByteArray) : Bool := decide (x.length ≤ 1000) && !(x.any bad)
theorem lines_1 (s : ByteArray) : hunk_Lines_1.f s = some (bad s) := by
  unfold hunk_Lines_1.f bad
  by_cases h : 200 < s.size
  · have e : decide ((s.size : Int) > 200) = true := decide_eq_true (by omega)
    rw [e, decide_eq_true h]; rfl
  · have e' : decide ((s.size : Int) > 200) = false := decide_eq_false (by omega)
    have e : strings_Contains.f s (⟨#[10]⟩ : ByteArray) = some (decide (0 ≤ Lib.indexByte s.data.toList 10)) := rfl
    rw [e', decide_eq_false h, Lib.contains_iff_indexByte, e]
    rfl
theorem index_loop (x : List ByteArray) (hl : x.length ≤ 1000000) :
    ∀ (n i : Nat), i + n = x.length → ∃ r : Int, Ev (fun k => slices_IndexFunc_string_string_hunk_Lines_1.l0 x k (i : Int)) r ∧ decide (r ≥ 0) = (x.drop i).any bad := by
  intro n
  induction n with
  | zero =>
    intro i hi
    refine ⟨-1, Ev.stepc fun k => ?_, ?_⟩
    · rw [slices_IndexFunc_string_string_hunk_Lines_1.l0, if_neg (by omega)]
    · rw [List.drop_eq_nil_of_le (by omega)]; rfl
  | succ n ih =>
    intro i hi
    have h1 : i < x.length := by omega
    rw [drop_at h1, List.any_cons]
    cases hb : bad x[i] with
    | true =>
      refine ⟨(i : Int), Ev.stepc fun k => ?_, by simp⟩
      rw [slices_IndexFunc_string_string_hunk_Lines_1.l0, if_pos (by omega), ix_ h1, Option.bind_some, lines_1, hb, Option.bind_some, if_pos rfl]
    | false =>
      obtain ⟨r, hr, e⟩ := ih (i + 1) (by omega)
      refine ⟨r, Ev.step hr fun k => ?_, by rw [e]; rfl⟩
      rw [slices_IndexFunc_string_string_hunk_Lines_1.l0, if_pos (by omega), ix_ h1, Option.bind_some, lines_1, hb, Option.bind_some, if_neg (by decide), w (by omega) (by omega)]
      rfl
theorem lines (x : List ByteArray) : Ev (fun k => hunk_Lines.f k x) (good x) := by
  unfold hunk_Lines.f good
  by_cases h : x.length ≤ 1000
  · obtain ⟨r, hr, e⟩ := index_loop x (by omega) x.length 0 (by omega)
    have c : Ev (fun k => slices_ContainsFunc_string_string_hunk_Lines_1.f k x) (x.any bad) := by
      unfold slices_ContainsFunc_string_string_hunk_Lines_1.f
      refine Ev.bind (a := r) hr ?_
      rw [List.drop_zero] at e
      rw [e]
      exact Ev.const _
    refine Ev.to (Ev.bind (Ev.g1 (decide_eq_true (by omega)) c) (Ev.const _)) ?_
    rw [decide_eq_true h, decide_eq_true (by omega)]
  · refine Ev.to (Ev.bind (Ev.g0 (decide_eq_false (by omega))) (Ev.const _)) ?_
    rw [decide_eq_false h, decide_eq_false (by omega)]; rfl
theorem line_loop (s : ByteArray) (hl : s.size ≤ 1000000) :
    ∀ (n i : Nat), i + n = s.size → Ev (fun k => quitclaimref11_Line.l0 s k (i : Int)) (!((s.data.toList.drop i).contains 10) && decide (s.size ≤ 200)) := by
  have hs : s.data.toList.length = s.size := Array.length_toList
  intro n
  induction n with
  | zero =>
    intro i hi
    refine Ev.stepc fun k => ?_
    rw [quitclaimref11_Line.l0, if_neg (by omega), List.drop_eq_nil_of_le (by omega)]
    simp
    omega
  | succ n ih =>
    intro i hi
    have h1 : i < s.data.toList.length := by omega
    have hb : bx s (i : Int) = some ((s.data.toList[i]).toNat : Int) := by
      unfold bx Q.bt; rw [if_pos (by omega), Int.toNat_natCast, List.getD_eq_getElem?_getD, List.getElem?_eq_getElem h1]; rfl
    rw [List.drop_eq_getElem_cons h1, List.contains_cons]
    by_cases hc : s.data.toList[i] = 10
    · have e : ((10 : UInt8) == s.data.toList[i]) = true := by rw [hc]; rfl
      rw [e, Bool.true_or, Bool.not_true, Bool.false_and]
      refine Ev.stepc fun k => ?_
      rw [quitclaimref11_Line.l0, if_pos (by omega), hb, Option.bind_some, if_pos (by rw [hc]; rfl)]
    · have e : ((10 : UInt8) == s.data.toList[i]) = false := by rw [beq_eq_false_iff_ne]; exact fun h => hc h.symm
      rw [e, Bool.false_or]
      refine Ev.step (ih (i + 1) (by omega)) fun k => ?_
      rw [quitclaimref11_Line.l0, if_pos (by omega), hb, Option.bind_some, if_neg (by
        intro h
        apply hc
        apply UInt8.toNat.inj
        have : (s.data.toList[i]).toNat = 10 := by omega
        exact this), w (by omega) (by omega)]
      rfl
theorem line (s : ByteArray) (hl : s.size ≤ 1000000) : Ev (fun k => quitclaimref11_Line.f k s) (!(bad s)) := by
  have h := line_loop s hl s.size 0 (by omega)
  have e : (!((s.data.toList.drop 0).contains 10) && decide (s.size ≤ 200)) = !(bad s) := by
    unfold bad
    rw [List.drop_zero, Bool.not_or, Bool.and_comm]
    congr 1
    by_cases h : s.size ≤ 200 <;> simp [h] <;> omega
  rw [e] at h
  exact h
theorem rlines_loop (x : List ByteArray) (hl : x.length ≤ 1000000) (hs : ∀ s ∈ x, s.size ≤ 1000000) :
    ∀ (n i : Nat), i + n = x.length → Ev (fun k => quitclaimref11_Lines.l0 x k (i : Int)) (!((x.drop i).any bad) && decide (x.length ≤ 1000)) := by
  intro n
  induction n with
  | zero =>
    intro i hi
    refine Ev.stepc fun k => ?_
    rw [quitclaimref11_Lines.l0, if_neg (by omega), List.drop_eq_nil_of_le (by omega)]
    simp
    omega
  | succ n ih =>
    intro i hi
    have h1 : i < x.length := by omega
    have hc := line x[i] (hs _ (List.getElem_mem h1))
    rw [drop_at h1, List.any_cons]
    refine Ev.step (f := fun k => (quitclaimref11_Line.f k x[i]).bind fun t => if (!t) = true then some false else quitclaimref11_Lines.l0 x k ((i + 1 : Nat) : Int)) (Ev.bind hc ?_) fun k => ?_
    · cases hb : bad x[i] with
      | true => exact Ev.pos rfl (Ev.const _)
      | false => exact Ev.neg (by decide) (ih (i + 1) (by omega))
    · rw [quitclaimref11_Lines.l0, if_pos (by omega), ix_ h1, Option.bind_some, w (by omega) (by omega)]
      rfl
theorem rlines (x : List ByteArray) (hl : x.length ≤ 1000000) (hs : ∀ s ∈ x, s.size ≤ 1000000) : Ev (fun k => quitclaimref11_Lines.f k x) (good x) := by
  have h := rlines_loop x hl hs x.length 0 (by omega)
  rw [List.drop_zero, Bool.and_comm] at h
  exact h
/-- Small enough to be asked about. -/
def sm (x : List ByteArray) : Prop := x.length ≤ 1000000 ∧ ∀ s ∈ x, s.size ≤ 1000000
def smh (h : S_At_Old_New) : Prop := sm h.f1_Old ∧ sm h.f2_New
def right (h : S_At_Old_New) : Bool := decide (0 ≤ h.f0_At) && (decide (h.f0_At ≤ 1000) && (good h.f1_Old && (good h.f2_New && decide (0 < h.f1_Old.length + h.f2_New.length))))
theorem good_len {l : List ByteArray} (h : good l = true) : l.length ≤ 1000 := by unfold good at h; simp at h; exact h.1
theorem right_ (h : S_At_Old_New) : Ev (fun k => hunk_Right.f k h) (right h) := by
  unfold hunk_Right.f right
  refine Ev.to (Ev.bind (Ev.gd fun _ => lines h.f1_Old) (Ev.bind (Ev.gd fun _ => lines h.f2_New) (Ev.const _))) ?_
  by_cases h0 : 0 ≤ h.f0_At
  · by_cases h1 : h.f0_At ≤ 1000
    · rw [decide_eq_true h0, decide_eq_true h1]
      cases g0 : good h.f1_Old with
      | false => rfl
      | true =>
        cases g1 : good h.f2_New with
        | false => rfl
        | true =>
          have l0 := good_len g0
          have l1 := good_len g1
          rw [w (by omega) (by omega)]
          have e : decide (((h.f1_Old.length : Int) + (h.f2_New.length : Int)) > 0) = decide (0 < h.f1_Old.length + h.f2_New.length) := by rw [decide_eq_decide]; omega
          rw [e]; rfl
    · rw [decide_eq_false h1]; cases decide (0 ≤ h.f0_At) <;> rfl
  · rw [decide_eq_false h0]; rfl
theorem rright (h : S_At_Old_New) (hs : smh h) : Ev (fun k => quitclaimref11_Right.f k h) (right h) := by
  unfold quitclaimref11_Right.f right
  refine Ev.to (Ev.bind (Ev.gd fun _ => rlines h.f1_Old hs.1.1 hs.1.2) (Ev.bind (Ev.gd fun _ => rlines h.f2_New hs.2.1 hs.2.2) (Ev.const _))) ?_
  have e : (decide ((h.f1_Old.length : Int) > 0) || decide ((h.f2_New.length : Int) > 0)) = decide (0 < h.f1_Old.length + h.f2_New.length) := by
    by_cases p : 0 < h.f1_Old.length
    · rw [decide_eq_true (show ((h.f1_Old.length : Int) > 0) by omega), decide_eq_true (show 0 < h.f1_Old.length + h.f2_New.length by omega), Bool.true_or]
    · rw [decide_eq_false (show ¬ ((h.f1_Old.length : Int) > 0) by omega), Bool.false_or, decide_eq_decide]; omega
  rw [e]
  have e' : decide (h.f0_At ≥ 0) = decide (0 ≤ h.f0_At) := rfl
  rw [e']
  cases decide (0 ≤ h.f0_At) <;> cases decide (h.f0_At ≤ 1000) <;> cases good h.f1_Old <;> cases good h.f2_New <;> rfl

/-! ### lines with a hunk -/
open Classical in
/-- What a hunk makes of lines. -/
noncomputable def ap (l : List ByteArray) (h : S_At_Old_New) : List ByteArray × Int :=
  if good l = true ∧ right h = true then
    if h.f0_At > l.length then ([], 5) else if h.f1_Old <+: l.drop h.f0_At.toNat then
      if l.length - h.f1_Old.length + h.f2_New.length > 1000 then ([], 4) else (l.take h.f0_At.toNat ++ h.f2_New ++ l.drop (h.f0_At.toNat + h.f1_Old.length), 0)
    else ([], 12)
  else ([], 3)
theorem right_parts {h : S_At_Old_New} (q : right h = true) : 0 ≤ h.f0_At ∧ h.f0_At ≤ 1000 ∧ good h.f1_Old = true ∧ good h.f2_New = true ∧ 0 < h.f1_Old.length + h.f2_New.length := by
  unfold right at q; simp only [Bool.and_eq_true, decide_eq_true_eq] at q; exact ⟨q.1, q.2.1, q.2.2.1, q.2.2.2.1, q.2.2.2.2⟩
theorem rapply_l39 (l : List ByteArray) (hl : l.length ≤ 1000) : ∀ (c i : Nat) (x : List ByteArray), i + c = l.length → x.length + c ≤ 100000 →
    Ev (fun k => quitclaimref11_Apply.l39 l k x (i : Int)) (if (x ++ l.drop i).length > 1000 then ([], 4) else (x ++ l.drop i, 0)) := by
  intro c
  induction c with
  | zero =>
    intro i x hi hx
    rw [List.drop_eq_nil_of_le (by omega), List.append_nil]
    by_cases h : x.length > 1000
    · rw [if_pos h]
      exact Ev.stepc fun k => by rw [quitclaimref11_Apply.l39, if_neg (by omega), if_pos (by omega)]
    · rw [if_neg h]
      exact Ev.stepc fun k => by rw [quitclaimref11_Apply.l39, if_neg (by omega), if_neg (by omega)]
  | succ c ih =>
    intro i x hi hx
    have h1 : i < l.length := by omega
    have q := ih (i + 1) (x ++ [l[i]]) (by omega) (by simp; omega)
    rw [List.append_assoc, List.singleton_append, ← drop_at h1] at q
    refine Ev.step q fun k => ?_
    rw [quitclaimref11_Apply.l39, if_pos (by omega), ix_ h1, Option.bind_some, ap_ (by simp; omega), Option.bind_some, w (by omega) (by omega)]
    rfl
theorem rapply_l38_yes (l x : List ByteArray) (h : S_At_Old_New) (a : Nat) (e0 : h.f0_At = (a : Int)) (r : List ByteArray × Int) (hl : l.length ≤ 1000) (ho : h.f1_Old.length ≤ 1000) (ha : a ≤ 1000)
    (h3 : Ev (fun k => quitclaimref11_Apply.l39 l k x ((a + h.f1_Old.length : Nat) : Int)) r) : ∀ (c i : Nat), i + c = h.f1_Old.length → h.f1_Old.drop i <+: l.drop (a + i) → Ev (fun k => quitclaimref11_Apply.l38 l h x k (i : Int)) r := by
  intro c
  induction c with
  | zero =>
    intro i hi _
    refine Ev.step h3 fun k => ?_
    rw [quitclaimref11_Apply.l38, if_neg (by omega), e0, w (by omega) (by omega)]
    rfl
  | succ c ih =>
    intro i hi hp
    have h1 : i < h.f1_Old.length := by omega
    have hle := hp.length_le
    rw [List.length_drop, List.length_drop] at hle
    have h2 : a + i < l.length := by omega
    rw [drop_at h1, drop_at h2, List.cons_prefix_cons] at hp
    refine Ev.step (ih (i + 1) (by omega) (by rw [← Nat.add_assoc]; exact hp.2)) fun k => ?_
    have e : w64 (h.f0_At + (i : Int)) = ((a + i : Nat) : Int) := by rw [e0, w (by omega) (by omega)]; rfl
    have e1 : decide (((a + i : Nat) : Int) ≥ (l.length : Int)) = false := decide_eq_false (by omega)
    rw [quitclaimref11_Apply.l38, if_pos (by omega), e, e1, ix_ h1, ix_ h2, w (by omega) (by omega)]
    show (if (false || !decide (l[a + i] = h.f1_Old[i])) = true then _ else _) = _
    rw [if_neg (by rw [hp.1]; simp)]
    rfl
theorem rapply_l38_no (l x : List ByteArray) (h : S_At_Old_New) (a : Nat) (e0 : h.f0_At = (a : Int)) (ho : h.f1_Old.length ≤ 1000) (ha : a ≤ 1000) :
    ∀ (c i : Nat), i + c = h.f1_Old.length → ¬ (h.f1_Old.drop i <+: l.drop (a + i)) → Ev (fun k => quitclaimref11_Apply.l38 l h x k (i : Int)) ([], 12) := by
  intro c
  induction c with
  | zero =>
    intro i hi hp
    have e0 : h.f1_Old.drop i = [] := List.drop_eq_nil_of_le (by omega)
    exact absurd (by rw [e0]; exact List.nil_prefix) hp
  | succ c ih =>
    intro i hi hp
    have h1 : i < h.f1_Old.length := by omega
    have e : w64 (h.f0_At + (i : Int)) = ((a + i : Nat) : Int) := by rw [e0, w (by omega) (by omega)]; rfl
    by_cases h2 : a + i < l.length
    · have e1 : decide (((a + i : Nat) : Int) ≥ (l.length : Int)) = false := decide_eq_false (by omega)
      rw [drop_at h1, drop_at h2, List.cons_prefix_cons] at hp
      by_cases he : h.f1_Old[i] = l[a + i]
      · refine Ev.step (ih (i + 1) (by omega) (fun h => hp ⟨he, by rw [Nat.add_assoc]; exact h⟩)) fun k => ?_
        rw [quitclaimref11_Apply.l38, if_pos (by omega), e, e1, ix_ h1, ix_ h2, w (by omega) (by omega)]
        show (if (false || !decide (l[a + i] = h.f1_Old[i])) = true then _ else _) = _
        rw [if_neg (by rw [he]; simp)]
        rfl
      · refine Ev.stepc fun k => ?_
        rw [quitclaimref11_Apply.l38, if_pos (by omega), e, e1, ix_ h1, ix_ h2]
        show (if (false || !decide (l[a + i] = h.f1_Old[i])) = true then _ else _) = _
        rw [if_pos (by rw [decide_eq_false (fun q => he q.symm)]; rfl)]
    · refine Ev.stepc fun k => ?_
      have e1 : decide (((a + i : Nat) : Int) ≥ (l.length : Int)) = true := decide_eq_true (by omega)
      rw [quitclaimref11_Apply.l38, if_pos (by omega), e, e1]
      rfl
theorem rapply_l35 (l : List ByteArray) (h : S_At_Old_New) (r : List ByteArray × Int) (hn : h.f2_New.length ≤ 1000) : ∀ (c i : Nat) (x : List ByteArray), i + c = h.f2_New.length → x.length + c ≤ 100000 →
    Ev (fun k => quitclaimref11_Apply.l38 l h (x ++ h.f2_New.drop i) k 0) r → Ev (fun k => quitclaimref11_Apply.l35 l h k x (i : Int)) r := by
  intro c
  induction c with
  | zero =>
    intro i x hi hx q
    rw [List.drop_eq_nil_of_le (by omega), List.append_nil] at q
    exact Ev.step q fun k => by rw [quitclaimref11_Apply.l35, if_neg (by omega)]
  | succ c ih =>
    intro i x hi hx q
    have h1 : i < h.f2_New.length := by omega
    refine Ev.step (ih (i + 1) (x ++ [h.f2_New[i]]) (by omega) (by simp; omega) (by rw [List.append_assoc, List.singleton_append, ← drop_at h1]; exact q)) fun k => ?_
    rw [quitclaimref11_Apply.l35, if_pos (by omega), ix_ h1, Option.bind_some, ap_ (by simp; omega), Option.bind_some, w (by omega) (by omega)]
    rfl
theorem rapply_l26 (l : List ByteArray) (h : S_At_Old_New) (a : Nat) (e0 : h.f0_At = (a : Int)) (r : List ByteArray × Int) (hl : l.length ≤ 1000) (ha : a ≤ l.length) : ∀ (c i : Nat) (x : List ByteArray), i + c = a → x.length + c ≤ 100000 →
    Ev (fun k => quitclaimref11_Apply.l35 l h k (x ++ (l.drop i).take c) 0) r → Ev (fun k => quitclaimref11_Apply.l26 l h k x (i : Int)) r := by
  intro c
  induction c with
  | zero =>
    intro i x hi hx q
    rw [List.take_zero, List.append_nil] at q
    exact Ev.step q fun k => by rw [quitclaimref11_Apply.l26, if_neg (by omega)]
  | succ c ih =>
    intro i x hi hx q
    have h1 : i < l.length := by omega
    refine Ev.step (ih (i + 1) (x ++ [l[i]]) (by omega) (by simp; omega) (by rw [drop_at h1, List.take_succ_cons] at q; rw [List.append_assoc, List.singleton_append]; exact q)) fun k => ?_
    rw [quitclaimref11_Apply.l26, if_pos (by omega), ix_ h1, Option.bind_some, ap_ (by simp; omega), Option.bind_some, w (by omega) (by omega)]
    rfl
theorem rapply (l : List ByteArray) (h : S_At_Old_New) (hl : sm l) (hs : smh h) : Ev (fun k => quitclaimref11_Apply.f k l h) (ap l h) := by
  unfold quitclaimref11_Apply.f
  refine Ev.bind (rlines l hl.1 hl.2) ?_
  have bad3 : (¬ (good l = true ∧ right h = true)) → ap l h = ([], 3) := fun q => by unfold ap; rw [if_neg q]
  cases g0 : good l with
  | false =>
    rw [bad3 (by rw [g0]; rintro ⟨q, _⟩; cases q)]
    exact Ev.bind (Ev.g0 rfl) (Ev.pos rfl (Ev.const _))
  | true =>
    refine Ev.bind (Ev.g1 rfl (rright h hs)) ?_
    cases g1 : right h with
    | false =>
      rw [bad3 (by rw [g1]; rintro ⟨_, q⟩; cases q)]
      exact Ev.pos rfl (Ev.const _)
    | true =>
      refine Ev.neg (by decide) ?_
      have ll := good_len g0
      obtain ⟨a0, a1, go, gn, _⟩ := right_parts g1
      have lo := good_len go
      have ln := good_len gn
      obtain ⟨m, em⟩ := Int.eq_ofNat_of_zero_le a0
      unfold ap
      rw [if_pos ⟨g0, g1⟩]
      by_cases h5 : h.f0_At > l.length
      · rw [if_pos h5]
        exact Ev.pos h5 (Ev.const _)
      · rw [if_neg h5]
        refine Ev.neg h5 ?_
        have et : h.f0_At.toNat = m := by omega
        rw [et]
        have go_ : ∀ r, Ev (fun k => quitclaimref11_Apply.l38 l h (l.take m ++ h.f2_New) k 0) r → Ev (fun k => quitclaimref11_Apply.l26 l h k [] 0) r := fun r q =>
          rapply_l26 l h m em r ll (by omega) m 0 [] (by omega) (by simp; omega) (rapply_l35 l h r ln h.f2_New.length 0 _ (by omega) (by simp; omega) (by rw [List.drop_zero, List.drop_zero, List.nil_append]; exact q))
        refine go_ _ ?_
        by_cases hp : h.f1_Old <+: l.drop m
        · rw [if_pos hp]
          have hle : h.f1_Old.length ≤ l.length - m := by have := hp.length_le; rwa [List.length_drop] at this
          refine rapply_l38_yes l _ h m em _ ll lo (by omega) ?_ h.f1_Old.length 0 (by omega) (by simpa using hp)
          have q := rapply_l39 l ll (l.length - (m + h.f1_Old.length)) (m + h.f1_Old.length) (l.take m ++ h.f2_New) (by omega) (by simp only [List.length_append, List.length_take]; omega)
          have e : ((l.take m ++ h.f2_New) ++ l.drop (m + h.f1_Old.length)).length = l.length - h.f1_Old.length + h.f2_New.length := by simp only [List.length_append, List.length_take, List.length_drop]; omega
          rw [e] at q
          exact q
        · rw [if_neg hp]
          exact rapply_l38_no l _ h m em lo (by omega) h.f1_Old.length 0 (by omega) (by simpa using hp)

/-! ### the code's own -/
theorem concat_l3 (xs : List (List ByteArray)) (hl : xs.length ≤ 100) : ∀ (c i : Nat) (x : List ByteArray), i + c = xs.length → x.length + (xs.drop i).flatten.length ≤ 1000000 →
    Ev (fun k => slices_Concat_string_string.l3 xs k x (i : Int)) (x ++ (xs.drop i).flatten) := by
  intro c
  induction c with
  | zero =>
    intro i x hi hx
    rw [List.drop_eq_nil_of_le (by omega)]
    exact Ev.stepc fun k => by rw [slices_Concat_string_string.l3, if_neg (by omega)]; simp
  | succ c ih =>
    intro i x hi hx
    have h1 : i < xs.length := by omega
    have ed : xs.drop i = xs[i] :: xs.drop (i + 1) := List.drop_eq_getElem_cons h1
    rw [ed] at hx ⊢
    rw [List.flatten_cons, List.length_append] at hx
    have q := ih (i + 1) (x ++ xs[i]) (by omega) (by rw [List.length_append]; omega)
    rw [List.flatten_cons, ← List.append_assoc]
    refine Ev.step q fun k => ?_
    rw [slices_Concat_string_string.l3, if_pos (by omega), ix_ h1, Option.bind_some, ap_ (by omega), Option.bind_some, w (by omega) (by omega)]
    rfl
theorem concat_l2 (xs : List (List ByteArray)) (hl : xs.length ≤ 100) (hf : xs.flatten.length ≤ 1000000) : ∀ (c i n : Nat), i + c = xs.length → n + (xs.drop i).flatten.length = xs.flatten.length →
    Ev (fun k => slices_Concat_string_string.l2 xs k (n : Int) (i : Int)) xs.flatten := by
  intro c
  induction c with
  | zero =>
    intro i n hi hx
    have q := concat_l3 xs hl xs.length 0 [] (by omega) (by rw [List.drop_zero]; simp; simpa using hf)
    rw [List.drop_zero, List.nil_append] at q
    refine Ev.step q fun k => ?_
    rw [List.drop_eq_nil_of_le (by omega)] at hx
    have hx' : n = xs.flatten.length := by simpa using hx
    rw [slices_Concat_string_string.l2, if_neg (by omega)]
    unfold grw
    rw [if_pos (by omega), Option.bind_some]
    rfl
  | succ c ih =>
    intro i n hi hx
    have h1 : i < xs.length := by omega
    have ed : xs.drop i = xs[i] :: xs.drop (i + 1) := List.drop_eq_getElem_cons h1
    rw [ed, List.flatten_cons, List.length_append] at hx
    refine Ev.step (ih (i + 1) (n + xs[i].length) (by omega) (by omega)) fun k => ?_
    have e : w64 ((n : Int) + (xs[i].length : Int)) = ((n + xs[i].length : Nat) : Int) := by rw [w (by omega) (by omega)]; rfl
    rw [slices_Concat_string_string.l2, if_pos (by omega), ix_ h1, Option.bind_some, e, if_neg (by omega), w (by omega) (by omega)]
    rfl
theorem concat3 (x y z : List ByteArray) (h : (x ++ y ++ z).length ≤ 100000) : Ev (fun k => slices_Concat_string_string.f k [x, y, z]) (x ++ y ++ z) := by
  have e : ([x, y, z] : List (List ByteArray)).flatten = x ++ y ++ z := by simp
  have q := concat_l2 [x, y, z] (by simp) (by rw [e]; omega) 3 0 0 rfl (by rw [List.drop_zero]; simp)
  rw [e] at q
  exact q
theorem cut_ {l : List ByteArray} {i j : Nat} (h : i ≤ j) (h' : j ≤ l.length) : cut l (i : Int) (j : Int) = some ((l.take j).drop i) := by
  unfold cut; rw [if_pos (by omega)]; simp
theorem stands_yes (l o : List ByteArray) (a : Nat) (ha : a ≤ l.length) (hl : l.length ≤ 1000) (h : o <+: l.drop a) : Ev (fun k => hunk_stands.f k l (a : Int) o) true := by
  have ho : o.length ≤ l.length - a := by have := h.length_le; rwa [List.length_drop] at this
  have e : (l.take (a + o.length)).drop a = o := by rw [List.drop_take, Nat.add_sub_cancel_left]; exact (List.prefix_iff_eq_take.1 h).symm
  have t : (decide ((a : Int) ≤ (l.length : Int)) && decide ((o.length : Int) ≤ w64 ((l.length : Int) - (a : Int)))) = true := by
    rw [w (by omega) (by omega), decide_eq_true (by omega), decide_eq_true (by omega)]; rfl
  have ec : w64 ((a : Int) + (o.length : Int)) = ((a + o.length : Nat) : Int) := by rw [w (by omega) (by omega)]; rfl
  unfold hunk_stands.f
  rw [t, ec]
  refine Ev.bind (a := o) (Ev.g1 rfl (Ev.ev ((cut_ (by omega) (by omega)).trans (by rw [e])))) ?_
  have q := equal o o (by omega)
  rw [decide_eq_true rfl] at q
  exact Ev.bind (Ev.g1 rfl q) (Ev.const true)
theorem stands_no (l o : List ByteArray) (a : Nat) (hl : l.length ≤ 1000) (ha : a ≤ 1000) (ho : o.length ≤ 1000) (h : ¬ (a ≤ l.length ∧ o <+: l.drop a)) : Ev (fun k => hunk_stands.f k l (a : Int) o) false := by
  unfold hunk_stands.f
  by_cases h2 : a ≤ l.length ∧ o.length ≤ l.length - a
  · have t : (decide ((a : Int) ≤ (l.length : Int)) && decide ((o.length : Int) ≤ w64 ((l.length : Int) - (a : Int)))) = true := by
      rw [w (by omega) (by omega), decide_eq_true (by omega), decide_eq_true (by omega)]; rfl
    have ec : w64 ((a : Int) + (o.length : Int)) = ((a + o.length : Nat) : Int) := by rw [w (by omega) (by omega)]; rfl
    rw [t, ec]
    refine Ev.bind (Ev.g1 rfl (Ev.ev (cut_ (by omega) (by omega)))) ?_
    rw [List.drop_take, Nat.add_sub_cancel_left]
    have q := equal ((l.drop a).take o.length) o (by rw [List.length_take]; omega)
    rw [decide_eq_false (fun e => h ⟨h2.1, List.prefix_iff_eq_take.2 e.symm⟩)] at q
    exact Ev.bind (Ev.g1 rfl q) (Ev.const false)
  · have t : (decide ((a : Int) ≤ (l.length : Int)) && decide ((o.length : Int) ≤ w64 ((l.length : Int) - (a : Int)))) = false := by
      rw [w (by omega) (by omega)]
      by_cases h1 : a ≤ l.length
      · rw [decide_eq_false (show ¬ ((o.length : Int) ≤ (l.length : Int) - (a : Int)) by omega), Bool.and_false]
      · rw [decide_eq_false (show ¬ ((a : Int) ≤ (l.length : Int)) by omega), Bool.false_and]
    rw [t]
    exact Ev.bind (Ev.g0 rfl) (Ev.bind (Ev.g0 rfl) (Ev.const false))
theorem apply (l : List ByteArray) (h : S_At_Old_New) : Ev (fun k => hunk_Apply.f k l h) (ap l h) := by
  unfold hunk_Apply.f
  have bad3 : (¬ (good l = true ∧ right h = true)) → ap l h = ([], 3) := fun q => by unfold ap; rw [if_neg q]
  refine Ev.bind (lines l) ?_
  cases g0 : good l with
  | false =>
    rw [bad3 (by rw [g0]; rintro ⟨q, _⟩; cases q)]
    exact Ev.bind (Ev.g0 rfl) (Ev.pos rfl (Ev.const _))
  | true =>
    refine Ev.bind (Ev.g1 rfl (right_ h)) ?_
    cases g1 : right h with
    | false =>
      rw [bad3 (by rw [g1]; rintro ⟨_, q⟩; cases q)]
      exact Ev.pos rfl (Ev.const _)
    | true =>
      refine Ev.neg (by decide) ?_
      have ll := good_len g0
      obtain ⟨a0, a1, go, gn, _⟩ := right_parts g1
      have lo := good_len go
      have ln := good_len gn
      obtain ⟨m, em⟩ := Int.eq_ofNat_of_zero_le a0
      unfold ap
      rw [if_pos ⟨g0, g1⟩, em]
      by_cases h5 : (m : Int) > l.length
      · rw [if_pos h5]
        exact Ev.pos h5 (Ev.const _)
      · rw [if_neg h5]
        refine Ev.neg h5 ?_
        rw [Int.toNat_natCast]
        by_cases hp : h.f1_Old <+: l.drop m
        · rw [if_pos hp]
          have hle : h.f1_Old.length ≤ l.length - m := by have := hp.length_le; rwa [List.length_drop] at this
          refine Ev.bind (stands_yes l h.f1_Old m (by omega) ll hp) (Ev.neg (by decide) ?_)
          have e1 : w64 (w64 ((l.length : Int) - (h.f1_Old.length : Int)) + (h.f2_New.length : Int)) = ((l.length - h.f1_Old.length + h.f2_New.length : Nat) : Int) := by
            rw [w (x := (l.length : Int) - _) (by omega) (by omega), w (by omega) (by omega)]; omega
          have e2 : w64 ((m : Int) + (h.f1_Old.length : Int)) = ((m + h.f1_Old.length : Nat) : Int) := by rw [w (by omega) (by omega)]; rfl
          rw [e1, e2]
          by_cases h4 : l.length - h.f1_Old.length + h.f2_New.length > 1000
          · rw [if_pos h4]
            exact Ev.pos (by omega) (Ev.const _)
          · rw [if_neg h4]
            refine Ev.neg (by omega) ?_
            refine Ev.now (a := l.take m) ((cut_ (i := 0) (by omega) (by omega)).trans (by rw [List.drop_zero])) ?_
            refine Ev.now (a := l.drop (m + h.f1_Old.length)) ((cut_ (by omega) (by omega)).trans (by rw [List.take_length])) ?_
            exact Ev.bind (concat3 _ _ _ (by simp only [List.length_append, List.length_take, List.length_drop]; omega)) (Ev.const _)
        · rw [if_neg hp]
          exact Ev.bind (stands_no l h.f1_Old m ll (by omega) lo (fun q => hp q.2)) (Ev.pos rfl (Ev.const _))
theorem good_app (x y : List ByteArray) : good (x ++ y) = true ↔ x.any bad = false ∧ y.any bad = false ∧ x.length + y.length ≤ 1000 := by
  unfold good
  simp only [List.length_append, List.any_append, Bool.and_eq_true, decide_eq_true_eq, Bool.not_eq_true', Bool.or_eq_false_iff]
  exact ⟨fun h => ⟨h.2.1, h.2.2, h.1⟩, fun h => ⟨h.2.2, h.1, h.2.1⟩⟩
theorem good_iff (x : List ByteArray) : good x = true ↔ x.any bad = false ∧ x.length ≤ 1000 := by
  unfold good; simp only [Bool.and_eq_true, decide_eq_true_eq, Bool.not_eq_true']; exact ⟨fun h => ⟨h.2, h.1⟩, fun h => ⟨h.2, h.1⟩⟩
theorem ap_out {l : List ByteArray} {h : S_At_Old_New} (q : (ap l h).2 = 0) : good l = true ∧ right h = true ∧ ∃ u v, l = u ++ (h.f1_Old ++ v) ∧ (u.length : Int) = h.f0_At ∧ (ap l h).1 = u ++ (h.f2_New ++ v) ∧ u.length + h.f2_New.length + v.length ≤ 1000 := by
  unfold ap at q ⊢
  split at q
  next g =>
    rw [if_pos g]
    split at q
    next => simp at q
    next h5 =>
      rw [if_neg h5]
      split at q
      next hp =>
        rw [if_pos hp]
        split at q
        next => simp at q
        next h4 =>
          rw [if_neg h4]
          obtain ⟨a0, a1, go, gn, _⟩ := right_parts g.2
          have e1 : h.f1_Old ++ l.drop (h.f0_At.toNat + h.f1_Old.length) = l.drop h.f0_At.toNat := by
            obtain ⟨t, ht⟩ := hp
            rw [← List.drop_drop, ← ht, List.drop_left]
          refine ⟨g.1, g.2, l.take h.f0_At.toNat, l.drop (h.f0_At.toNat + h.f1_Old.length), ?_, ?_, ?_, ?_⟩
          · rw [e1, List.take_append_drop]
          · rw [List.length_take]; omega
          · rw [List.append_assoc]
          · have := hp.length_le
            rw [List.length_drop] at this
            rw [List.length_take, List.length_drop]; omega
      next => simp at q
  next => simp at q
theorem ap_in {h : S_At_Old_New} {u v : List ByteArray} (g : good (u ++ (h.f1_Old ++ v)) = true) (r : right h = true) (e : (u.length : Int) = h.f0_At) (hl : u.length + h.f2_New.length + v.length ≤ 1000) : ap (u ++ (h.f1_Old ++ v)) h = (u ++ (h.f2_New ++ v), 0) := by
  unfold ap
  have et : h.f0_At.toNat = u.length := by omega
  rw [if_pos ⟨g, r⟩, if_neg (by rw [List.length_append]; omega), et, List.drop_left, if_pos (List.prefix_append _ _), if_neg (by simp only [List.length_append]; omega), ← List.drop_drop, List.drop_left, List.drop_left, List.take_left, List.append_assoc]
theorem before {α : Type} {p q r s : List α} (h : p ++ q = r ++ s) (hl : p.length ≤ r.length) : ∃ m, r = p ++ m ∧ q = m ++ s := by
  rcases List.append_eq_append_iff.1 h with ⟨m, e1, e2⟩ | ⟨m, e1, e2⟩
  · exact ⟨m, e1, e2⟩
  · have : m = [] := by
      have := congrArg List.length e1
      rw [List.length_append] at this
      exact List.length_eq_zero_iff.1 (by omega)
    subst this
    exact ⟨[], by simpa using e1.symm, by simpa using e2.symm⟩
theorem sm_ap {l : List ByteArray} {h : S_At_Old_New} (hl : sm l) (hh : smh h) : sm (ap l h).1 := by
  have nil : sm ([] : List ByteArray) := ⟨by simp, by simp⟩
  unfold ap
  split
  · split
    · exact nil
    · split
      · split
        · exact nil
        · next h1 h4 =>
          have := h1.length_le
          rw [List.length_drop] at this
          refine ⟨by simp only [List.length_append, List.length_take, List.length_drop]; omega, fun s m => ?_⟩
          rcases List.mem_append.1 m with m | m
          · rcases List.mem_append.1 m with m | m
            · exact hl.2 s (List.mem_of_mem_take m)
            · exact hh.2.2 s m
          · exact hl.2 s (List.mem_of_mem_drop m)
      · exact nil
  · exact nil
end Go.Proofs.YtngcfmnmjkncoaaDoor.PureS
