/- HunkSwaps' pure statement: whether hunks are apart, and swapped they do the same; no condition. -/
import Derived.Test.YtngcfmnmjkncoaaQF0
import Derived.Lib.Strings
import Derived.Lib.IndexAny
namespace Go.Proofs.Ytngcfmnmjkncoaa.PureS
open Go Go.RowKit Go.Proofs.Ytngcfmnmjkncoaa.Q
set_option linter.unusedVariables false

theorem w {x : Int} (h : -9223372036854775808 ≤ x) (h' : x ≤ 9223372036854775807) : w64 x = x := by
  have e : (2 : Int) ^ IntKind.i64.bits = 18446744073709551616 := by decide
  have e' : (2 : Int) ^ (IntKind.i64.bits - 1) = 9223372036854775808 := by decide
  show IntKind.wrap .i64 x = x
  unfold IntKind.wrap
  simp only [e, e']
  by_cases hc : x % 18446744073709551616 ≥ 9223372036854775808
  · rw [if_pos (by rw [decide_eq_true hc]; rfl)]; omega
  · rw [if_neg (by rw [decide_eq_false hc]; simp)]; omega
def Ev {α : Type} (f : Nat → Option α) (r : α) : Prop := ∃ K, ∀ k, K ≤ k → f k = some r
theorem Ev.const {α : Type} (r : α) : Ev (fun _ => some r) r := ⟨0, fun _ _ => rfl⟩
theorem Ev.step {α : Type} {f g : Nat → Option α} {r : α} (h : Ev f r) (hg : ∀ k, g (k + 1) = f k) : Ev g r := by
  obtain ⟨K, h⟩ := h
  refine ⟨K + 1, fun k hk => ?_⟩
  obtain ⟨m, rfl⟩ : ∃ m, k = m + 1 := ⟨k - 1, by omega⟩
  rw [hg]; exact h m (by omega)
theorem Ev.stepc {α : Type} {g : Nat → Option α} {r : α} (hg : ∀ k, g (k + 1) = some r) : Ev g r := Ev.step (Ev.const r) hg
theorem Ev.eq {α : Type} {f g : Nat → Option α} {r : α} (h : Ev f r) (hg : ∀ k, g k = f k) : Ev g r := by
  obtain ⟨K, h⟩ := h
  exact ⟨K, fun k hk => by rw [hg]; exact h k hk⟩
theorem Ev.to {α : Type} {f : Nat → Option α} {r s : α} (h : Ev f r) (e : r = s) : Ev f s := e ▸ h
theorem Ev.bind {α β : Type} {f : Nat → Option α} {g : Nat → α → Option β} {a : α} {r : β} (h : Ev f a) (hg : Ev (fun k => g k a) r) : Ev (fun k => (f k).bind (g k)) r := by
  obtain ⟨K, h⟩ := h
  obtain ⟨L, hg⟩ := hg
  exact ⟨max K L, fun k hk => by show (f k).bind (g k) = _; rw [h k (by omega)]; exact hg k (by omega)⟩
theorem Ev.now {α β : Type} {o : Option α} {g : Nat → α → Option β} {a : α} {r : β} (h : o = some a) (hg : Ev (fun k => g k a) r) : Ev (fun k => o.bind (g k)) r := Ev.bind ⟨0, fun _ _ => h⟩ hg
theorem Ev.pos {α : Type} {c : Prop} [Decidable c] {f g : Nat → Option α} {r : α} (hc : c) (h : Ev f r) : Ev (fun k => if c then f k else g k) r := h.eq fun _ => if_pos hc
theorem Ev.neg {α : Type} {c : Prop} [Decidable c] {f g : Nat → Option α} {r : α} (hc : ¬ c) (h : Ev g r) : Ev (fun k => if c then f k else g k) r := h.eq fun _ => if_neg hc
theorem Ev.gd {α : Type} [Inhabited α] {t : Bool} {f : Nat → Option α} {a : α} (h : t = true → Ev f a) : Ev (fun k => gd t (f k)) (if t = true then a else default) := by
  cases t with
  | true => exact (h rfl).eq fun _ => rfl
  | false => exact (Ev.const default).eq fun _ => rfl
theorem Ev.g1 {α : Type} [Inhabited α] {t : Bool} {f : Nat → Option α} {a : α} (ht : t = true) (h : Ev f a) : Ev (fun k => Q.gd t (f k)) a := by
  subst ht; exact h.eq fun _ => rfl
theorem Ev.g0 {α : Type} [Inhabited α] {t : Bool} {f : Nat → Option α} (ht : t = false) : Ev (fun k => Q.gd t (f k)) default := by
  subst ht; exact (Ev.const default).eq fun _ => rfl
theorem Ev.ev {α : Type} {o : Option α} {a : α} (h : o = some a) : Ev (fun _ => o) a := ⟨0, fun _ _ => h⟩

theorem ix_ {α : Type} {x : List α} {i : Nat} (h : i < x.length) : ix x (i : Int) = some x[i] := by
  unfold ix; rw [if_pos (by omega), Int.toNat_natCast]; simp [h]
theorem ap_ {x y : List ByteArray} (h : x.length + y.length ≤ 1000000) : app 16 x y = some (x ++ y) := by
  unfold app; rw [if_pos (by omega)]
theorem drop_at {x : List ByteArray} {i : Nat} (h : i < x.length) : x.drop i = x[i] :: x.drop (i + 1) := List.drop_eq_getElem_cons h

/-! ### equality -/
theorem equal_loop (x y : List ByteArray) (hx : x.length = y.length) (hl : x.length ≤ 1000000) :
    ∀ (n i : Nat), i + n = x.length → Ev (fun k => slices_Equal_string_string.l0 x y k (i : Int)) (decide (x.drop i = y.drop i)) := by
  intro n
  induction n with
  | zero =>
    intro i hi
    refine Ev.stepc fun k => ?_
    rw [slices_Equal_string_string.l0, if_neg (by omega), List.drop_eq_nil_of_le (by omega), List.drop_eq_nil_of_le (by omega)]
    simp
  | succ n ih =>
    intro i hi
    have h1 : i < x.length := by omega
    have h2 : i < y.length := by omega
    rw [drop_at h1, drop_at h2]
    by_cases he : x[i] = y[i]
    · have e : (decide (x[i] :: x.drop (i + 1) = y[i] :: y.drop (i + 1))) = decide (x.drop (i + 1) = y.drop (i + 1)) := by rw [decide_eq_decide, List.cons.injEq]; exact ⟨fun h => h.2, fun h => ⟨he, h⟩⟩
      rw [e]
      refine Ev.step (ih (i + 1) (by omega)) fun k => ?_
      rw [slices_Equal_string_string.l0, if_pos (by omega), ix_ h1, ix_ h2, Option.bind_some, Option.bind_some, if_neg (by simp [he]), w (by omega) (by omega)]
      rfl
    · have e : (decide (x[i] :: x.drop (i + 1) = y[i] :: y.drop (i + 1))) = false := decide_eq_false fun h => he (List.cons.inj h).1
      rw [e]
      refine Ev.stepc fun k => ?_
      rw [slices_Equal_string_string.l0, if_pos (by omega), ix_ h1, ix_ h2, Option.bind_some, Option.bind_some, if_pos (by simp [he])]
theorem equal (x y : List ByteArray) (hl : x.length ≤ 1000000) : Ev (fun k => slices_Equal_string_string.f k x y) (decide (x = y)) := by
  unfold slices_Equal_string_string.f
  by_cases h : x.length = y.length
  · exact Ev.neg (by simp; omega) (equal_loop x y h hl x.length 0 (by omega))
  · have e : decide (x = y) = false := decide_eq_false fun e => h (by rw [e])
    rw [e]
    exact Ev.pos (by simp; omega) (Ev.const false)
theorem same_loop (x y : List ByteArray) (hx : x.length = y.length) (hl : x.length ≤ 1000000) :
    ∀ (n i : Nat), i + n = x.length → Ev (fun k => quitclaimref05_Same.l0 x y k (i : Int)) (decide (x.drop i = y.drop i)) := by
  intro n
  induction n with
  | zero =>
    intro i hi
    refine Ev.stepc fun k => ?_
    rw [quitclaimref05_Same.l0, if_neg (by omega), List.drop_eq_nil_of_le (by omega), List.drop_eq_nil_of_le (by omega)]
    simp
  | succ n ih =>
    intro i hi
    have h1 : i < x.length := by omega
    have h2 : i < y.length := by omega
    rw [drop_at h1, drop_at h2]
    by_cases he : x[i] = y[i]
    · have e : (decide (x[i] :: x.drop (i + 1) = y[i] :: y.drop (i + 1))) = decide (x.drop (i + 1) = y.drop (i + 1)) := by rw [decide_eq_decide, List.cons.injEq]; exact ⟨fun h => h.2, fun h => ⟨he, h⟩⟩
      rw [e]
      refine Ev.step (ih (i + 1) (by omega)) fun k => ?_
      rw [quitclaimref05_Same.l0, if_pos (by omega), ix_ h1, ix_ h2, Option.bind_some, Option.bind_some, if_neg (by simp [he]), w (by omega) (by omega)]
      rfl
    · have e : (decide (x[i] :: x.drop (i + 1) = y[i] :: y.drop (i + 1))) = false := decide_eq_false fun h => he (List.cons.inj h).1
      rw [e]
      refine Ev.stepc fun k => ?_
      rw [quitclaimref05_Same.l0, if_pos (by omega), ix_ h1, ix_ h2, Option.bind_some, Option.bind_some, if_pos (by simp [he])]
theorem same (x y : List ByteArray) (hl : x.length ≤ 1000000) : Ev (fun k => quitclaimref05_Same.f k x y) (decide (x = y)) := by
  unfold quitclaimref05_Same.f
  by_cases h : x.length = y.length
  · exact Ev.neg (by simp; omega) (same_loop x y h hl x.length 0 (by omega))
  · have e : decide (x = y) = false := decide_eq_false fun e => h (by rw [e])
    rw [e]
    exact Ev.pos (by simp; omega) (Ev.const false)
theorem same1 (x : List ByteArray) (hl : x.length ≤ 1000000) : Ev (fun k => quitclaimref05_Same.f k x x) true := (same x x hl).to (decide_eq_true rfl)

/-! ### right lines -/
def bad (s : ByteArray) : Bool := decide (200 < s.size) || s.data.toList.contains 10
def good (x : List ByteArray) : Bool := decide (x.length ≤ 1000) && !(x.any bad)
theorem lines_1 (s : ByteArray) : hunk_Lines_1.f s = some (bad s) := by
  unfold hunk_Lines_1.f bad
  by_cases h : 200 < s.size
  · have e : decide ((s.size : Int) > 200) = true := decide_eq_true (by omega)
    rw [e, decide_eq_true h]; rfl
  · have e' : decide ((s.size : Int) > 200) = false := decide_eq_false (by omega)
    have e : strings_Contains.f s (⟨#[10]⟩ : ByteArray) = some (decide (0 ≤ Lib.indexByte s.data.toList 10)) := rfl
    rw [e', decide_eq_false h, Lib.contains_iff_indexByte, e]
    rfl
theorem index_loop (x : List ByteArray) (hl : x.length ≤ 1000000) :
    ∀ (n i : Nat), i + n = x.length → ∃ r : Int, Ev (fun k => slices_IndexFunc_string_string_28.l0 x k (i : Int)) r ∧ decide (r ≥ 0) = (x.drop i).any bad := by
  intro n
  induction n with
  | zero =>
    intro i hi
    refine ⟨-1, Ev.stepc fun k => ?_, ?_⟩
    · rw [slices_IndexFunc_string_string_28.l0, if_neg (by omega)]
    · rw [List.drop_eq_nil_of_le (by omega)]; rfl
  | succ n ih =>
    intro i hi
    have h1 : i < x.length := by omega
    rw [drop_at h1, List.any_cons]
    cases hb : bad x[i] with
    | true =>
      refine ⟨(i : Int), Ev.stepc fun k => ?_, by simp⟩
      rw [slices_IndexFunc_string_string_28.l0, if_pos (by omega), ix_ h1, Option.bind_some, lines_1, hb, Option.bind_some, if_pos rfl]
    | false =>
      obtain ⟨r, hr, e⟩ := ih (i + 1) (by omega)
      refine ⟨r, Ev.step hr fun k => ?_, by rw [e]; rfl⟩
      rw [slices_IndexFunc_string_string_28.l0, if_pos (by omega), ix_ h1, Option.bind_some, lines_1, hb, Option.bind_some, if_neg (by decide), w (by omega) (by omega)]
      rfl
theorem lines (x : List ByteArray) : Ev (fun k => hunk_Lines.f k x) (good x) := by
  unfold hunk_Lines.f good
  by_cases h : x.length ≤ 1000
  · obtain ⟨r, hr, e⟩ := index_loop x (by omega) x.length 0 (by omega)
    have c : Ev (fun k => slices_ContainsFunc_string_string_28.f k x) (x.any bad) := by
      unfold slices_ContainsFunc_string_string_28.f
      refine Ev.bind (a := r) hr ?_
      rw [List.drop_zero] at e
      rw [e]
      exact Ev.const _
    refine Ev.to (Ev.bind (Ev.g1 (decide_eq_true (by omega)) c) (Ev.const _)) ?_
    rw [decide_eq_true h, decide_eq_true (by omega)]
  · refine Ev.to (Ev.bind (Ev.g0 (decide_eq_false (by omega))) (Ev.const _)) ?_
    rw [decide_eq_false h, decide_eq_false (by omega)]; rfl
theorem line_loop (s : ByteArray) (hl : s.size ≤ 1000000) :
    ∀ (n i : Nat), i + n = s.size → Ev (fun k => quitclaimref11_Line.l0 s k (i : Int)) (!((s.data.toList.drop i).contains 10) && decide (s.size ≤ 200)) := by
  have hs : s.data.toList.length = s.size := Array.length_toList
  intro n
  induction n with
  | zero =>
    intro i hi
    refine Ev.stepc fun k => ?_
    rw [quitclaimref11_Line.l0, if_neg (by omega), List.drop_eq_nil_of_le (by omega)]
    simp
    omega
  | succ n ih =>
    intro i hi
    have h1 : i < s.data.toList.length := by omega
    have hb : bx s (i : Int) = some ((s.data.toList[i]).toNat : Int) := by
      unfold bx Q.bt; rw [if_pos (by omega), Int.toNat_natCast, List.getD_eq_getElem?_getD, List.getElem?_eq_getElem h1]; rfl
    rw [List.drop_eq_getElem_cons h1, List.contains_cons]
    by_cases hc : s.data.toList[i] = 10
    · have e : ((10 : UInt8) == s.data.toList[i]) = true := by rw [hc]; rfl
      rw [e, Bool.true_or, Bool.not_true, Bool.false_and]
      refine Ev.stepc fun k => ?_
      rw [quitclaimref11_Line.l0, if_pos (by omega), hb, Option.bind_some, if_pos (by rw [hc]; rfl)]
    · have e : ((10 : UInt8) == s.data.toList[i]) = false := by rw [beq_eq_false_iff_ne]; exact fun h => hc h.symm
      rw [e, Bool.false_or]
      refine Ev.step (ih (i + 1) (by omega)) fun k => ?_
      rw [quitclaimref11_Line.l0, if_pos (by omega), hb, Option.bind_some, if_neg (by
        intro h
        apply hc
        apply UInt8.toNat.inj
        have : (s.data.toList[i]).toNat = 10 := by omega
        exact this), w (by omega) (by omega)]
      rfl
theorem line (s : ByteArray) (hl : s.size ≤ 1000000) : Ev (fun k => quitclaimref11_Line.f k s) (!(bad s)) := by
  have h := line_loop s hl s.size 0 (by omega)
  have e : (!((s.data.toList.drop 0).contains 10) && decide (s.size ≤ 200)) = !(bad s) := by
    unfold bad
    rw [List.drop_zero, Bool.not_or, Bool.and_comm]
    congr 1
    by_cases h : s.size ≤ 200 <;> simp [h] <;> omega
  rw [e] at h
  exact h
theorem rlines_loop (x : List ByteArray) (hl : x.length ≤ 1000000) (hs : ∀ s ∈ x, s.size ≤ 1000000) :
    ∀ (n i : Nat), i + n = x.length → Ev (fun k => quitclaimref11_Lines.l0 x k (i : Int)) (!((x.drop i).any bad) && decide (x.length ≤ 1000)) := by
  intro n
  induction n with
  | zero =>
    intro i hi
    refine Ev.stepc fun k => ?_
    rw [quitclaimref11_Lines.l0, if_neg (by omega), List.drop_eq_nil_of_le (by omega)]
    simp
    omega
  | succ n ih =>
    intro i hi
    have h1 : i < x.length := by omega
    have hc := line x[i] (hs _ (List.getElem_mem h1))
    rw [drop_at h1, List.any_cons]
    refine Ev.step (f := fun k => (quitclaimref11_Line.f k x[i]).bind fun t => if (!t) = true then some false else quitclaimref11_Lines.l0 x k ((i + 1 : Nat) : Int)) (Ev.bind hc ?_) fun k => ?_
    · cases hb : bad x[i] with
      | true => exact Ev.pos rfl (Ev.const _)
      | false => exact Ev.neg (by decide) (ih (i + 1) (by omega))
    · rw [quitclaimref11_Lines.l0, if_pos (by omega), ix_ h1, Option.bind_some, w (by omega) (by omega)]
      rfl
theorem rlines (x : List ByteArray) (hl : x.length ≤ 1000000) (hs : ∀ s ∈ x, s.size ≤ 1000000) : Ev (fun k => quitclaimref11_Lines.f k x) (good x) := by
  have h := rlines_loop x hl hs x.length 0 (by omega)
  rw [List.drop_zero, Bool.and_comm] at h
  exact h
/-- Small enough to be asked about. -/
def sm (x : List ByteArray) : Prop := x.length ≤ 1000000 ∧ ∀ s ∈ x, s.size ≤ 1000000
def smh (h : St23) : Prop := sm h.f1_Old ∧ sm h.f2_New
def right (h : St23) : Bool := decide (0 ≤ h.f0_At) && (decide (h.f0_At ≤ 1000) && (good h.f1_Old && (good h.f2_New && decide (0 < h.f1_Old.length + h.f2_New.length))))
theorem good_len {l : List ByteArray} (h : good l = true) : l.length ≤ 1000 := by unfold good at h; simp at h; exact h.1
theorem right_ (h : St23) : Ev (fun k => hunk_Right.f k h) (right h) := by
  unfold hunk_Right.f right
  refine Ev.to (Ev.bind (Ev.gd fun _ => lines h.f1_Old) (Ev.bind (Ev.gd fun _ => lines h.f2_New) (Ev.const _))) ?_
  by_cases h0 : 0 ≤ h.f0_At
  · by_cases h1 : h.f0_At ≤ 1000
    · rw [decide_eq_true h0, decide_eq_true h1]
      cases g0 : good h.f1_Old with
      | false => rfl
      | true =>
        cases g1 : good h.f2_New with
        | false => rfl
        | true =>
          have l0 := good_len g0
          have l1 := good_len g1
          rw [w (by omega) (by omega)]
          have e : decide (((h.f1_Old.length : Int) + (h.f2_New.length : Int)) > 0) = decide (0 < h.f1_Old.length + h.f2_New.length) := by rw [decide_eq_decide]; omega
          rw [e]; rfl
    · rw [decide_eq_false h1]; cases decide (0 ≤ h.f0_At) <;> rfl
  · rw [decide_eq_false h0]; rfl
theorem rright (h : St23) (hs : smh h) : Ev (fun k => quitclaimref11_Right.f k h) (right h) := by
  unfold quitclaimref11_Right.f right
  refine Ev.to (Ev.bind (Ev.gd fun _ => rlines h.f1_Old hs.1.1 hs.1.2) (Ev.bind (Ev.gd fun _ => rlines h.f2_New hs.2.1 hs.2.2) (Ev.const _))) ?_
  have e : (decide ((h.f1_Old.length : Int) > 0) || decide ((h.f2_New.length : Int) > 0)) = decide (0 < h.f1_Old.length + h.f2_New.length) := by
    by_cases p : 0 < h.f1_Old.length
    · rw [decide_eq_true (show ((h.f1_Old.length : Int) > 0) by omega), decide_eq_true (show 0 < h.f1_Old.length + h.f2_New.length by omega), Bool.true_or]
    · rw [decide_eq_false (show ¬ ((h.f1_Old.length : Int) > 0) by omega), Bool.false_or, decide_eq_decide]; omega
  rw [e]
  have e' : decide (h.f0_At ≥ 0) = decide (0 ≤ h.f0_At) := rfl
  rw [e']
  cases decide (0 ≤ h.f0_At) <;> cases decide (h.f0_At ≤ 1000) <;> cases good h.f1_Old <;> cases good h.f2_New <;> rfl

/-! ### lines with a hunk -/
open Classical in
/-- What a hunk makes of lines. -/
noncomputable def ap (l : List ByteArray) (h : St23) : List ByteArray × Int :=
  if good l = true ∧ right h = true then
    if h.f0_At > l.length then ([], 5) else if h.f1_Old <+: l.drop h.f0_At.toNat then
      if l.length - h.f1_Old.length + h.f2_New.length > 1000 then ([], 4) else (l.take h.f0_At.toNat ++ h.f2_New ++ l.drop (h.f0_At.toNat + h.f1_Old.length), 0)
    else ([], 12)
  else ([], 3)
theorem right_parts {h : St23} (q : right h = true) : 0 ≤ h.f0_At ∧ h.f0_At ≤ 1000 ∧ good h.f1_Old = true ∧ good h.f2_New = true ∧ 0 < h.f1_Old.length + h.f2_New.length := by
  unfold right at q; simp only [Bool.and_eq_true, decide_eq_true_eq] at q; exact ⟨q.1, q.2.1, q.2.2.1, q.2.2.2.1, q.2.2.2.2⟩
theorem rapply_l39 (l : List ByteArray) (hl : l.length ≤ 1000) : ∀ (c i : Nat) (x : List ByteArray), i + c = l.length → x.length + c ≤ 100000 →
    Ev (fun k => quitclaimref11_Apply.l39 l k x (i : Int)) (if (x ++ l.drop i).length > 1000 then ([], 4) else (x ++ l.drop i, 0)) := by
  intro c
  induction c with
  | zero =>
    intro i x hi hx
    rw [List.drop_eq_nil_of_le (by omega), List.append_nil]
    by_cases h : x.length > 1000
    · rw [if_pos h]
      exact Ev.stepc fun k => by rw [quitclaimref11_Apply.l39, if_neg (by omega), if_pos (by omega)]
    · rw [if_neg h]
      exact Ev.stepc fun k => by rw [quitclaimref11_Apply.l39, if_neg (by omega), if_neg (by omega)]
  | succ c ih =>
    intro i x hi hx
    have h1 : i < l.length := by omega
    have q := ih (i + 1) (x ++ [l[i]]) (by omega) (by simp; omega)
    rw [List.append_assoc, List.singleton_append, ← drop_at h1] at q
    refine Ev.step q fun k => ?_
    rw [quitclaimref11_Apply.l39, if_pos (by omega), ix_ h1, Option.bind_some, ap_ (by simp; omega), Option.bind_some, w (by omega) (by omega)]
    rfl
theorem rapply_l38_yes (l x : List ByteArray) (h : St23) (a : Nat) (e0 : h.f0_At = (a : Int)) (r : List ByteArray × Int) (hl : l.length ≤ 1000) (ho : h.f1_Old.length ≤ 1000) (ha : a ≤ 1000)
    (h3 : Ev (fun k => quitclaimref11_Apply.l39 l k x ((a + h.f1_Old.length : Nat) : Int)) r) : ∀ (c i : Nat), i + c = h.f1_Old.length → h.f1_Old.drop i <+: l.drop (a + i) → Ev (fun k => quitclaimref11_Apply.l38 l h x k (i : Int)) r := by
  intro c
  induction c with
  | zero =>
    intro i hi _
    refine Ev.step h3 fun k => ?_
    rw [quitclaimref11_Apply.l38, if_neg (by omega), e0, w (by omega) (by omega)]
    rfl
  | succ c ih =>
    intro i hi hp
    have h1 : i < h.f1_Old.length := by omega
    have hle := hp.length_le
    rw [List.length_drop, List.length_drop] at hle
    have h2 : a + i < l.length := by omega
    rw [drop_at h1, drop_at h2, List.cons_prefix_cons] at hp
    refine Ev.step (ih (i + 1) (by omega) (by rw [← Nat.add_assoc]; exact hp.2)) fun k => ?_
    have e : w64 (h.f0_At + (i : Int)) = ((a + i : Nat) : Int) := by rw [e0, w (by omega) (by omega)]; rfl
    have e1 : decide (((a + i : Nat) : Int) ≥ (l.length : Int)) = false := decide_eq_false (by omega)
    rw [quitclaimref11_Apply.l38, if_pos (by omega), e, e1, ix_ h1, ix_ h2, w (by omega) (by omega)]
    show (if (false || !decide (l[a + i] = h.f1_Old[i])) = true then _ else _) = _
    rw [if_neg (by rw [hp.1]; simp)]
    rfl
theorem rapply_l38_no (l x : List ByteArray) (h : St23) (a : Nat) (e0 : h.f0_At = (a : Int)) (ho : h.f1_Old.length ≤ 1000) (ha : a ≤ 1000) :
    ∀ (c i : Nat), i + c = h.f1_Old.length → ¬ (h.f1_Old.drop i <+: l.drop (a + i)) → Ev (fun k => quitclaimref11_Apply.l38 l h x k (i : Int)) ([], 12) := by
  intro c
  induction c with
  | zero =>
    intro i hi hp
    have e0 : h.f1_Old.drop i = [] := List.drop_eq_nil_of_le (by omega)
    exact absurd (by rw [e0]; exact List.nil_prefix) hp
  | succ c ih =>
    intro i hi hp
    have h1 : i < h.f1_Old.length := by omega
    have e : w64 (h.f0_At + (i : Int)) = ((a + i : Nat) : Int) := by rw [e0, w (by omega) (by omega)]; rfl
    by_cases h2 : a + i < l.length
    · have e1 : decide (((a + i : Nat) : Int) ≥ (l.length : Int)) = false := decide_eq_false (by omega)
      rw [drop_at h1, drop_at h2, List.cons_prefix_cons] at hp
      by_cases he : h.f1_Old[i] = l[a + i]
      · refine Ev.step (ih (i + 1) (by omega) (fun h => hp ⟨he, by rw [Nat.add_assoc]; exact h⟩)) fun k => ?_
        rw [quitclaimref11_Apply.l38, if_pos (by omega), e, e1, ix_ h1, ix_ h2, w (by omega) (by omega)]
        show (if (false || !decide (l[a + i] = h.f1_Old[i])) = true then _ else _) = _
        rw [if_neg (by rw [he]; simp)]
        rfl
      · refine Ev.stepc fun k => ?_
        rw [quitclaimref11_Apply.l38, if_pos (by omega), e, e1, ix_ h1, ix_ h2]
        show (if (false || !decide (l[a + i] = h.f1_Old[i])) = true then _ else _) = _
        rw [if_pos (by rw [decide_eq_false (fun q => he q.symm)]; rfl)]
    · refine Ev.stepc fun k => ?_
      have e1 : decide (((a + i : Nat) : Int) ≥ (l.length : Int)) = true := decide_eq_true (by omega)
      rw [quitclaimref11_Apply.l38, if_pos (by omega), e, e1]
      rfl
theorem rapply_l35 (l : List ByteArray) (h : St23) (r : List ByteArray × Int) (hn : h.f2_New.length ≤ 1000) : ∀ (c i : Nat) (x : List ByteArray), i + c = h.f2_New.length → x.length + c ≤ 100000 →
    Ev (fun k => quitclaimref11_Apply.l38 l h (x ++ h.f2_New.drop i) k 0) r → Ev (fun k => quitclaimref11_Apply.l35 l h k x (i : Int)) r := by
  intro c
  induction c with
  | zero =>
    intro i x hi hx q
    rw [List.drop_eq_nil_of_le (by omega), List.append_nil] at q
    exact Ev.step q fun k => by rw [quitclaimref11_Apply.l35, if_neg (by omega)]
  | succ c ih =>
    intro i x hi hx q
    have h1 : i < h.f2_New.length := by omega
    refine Ev.step (ih (i + 1) (x ++ [h.f2_New[i]]) (by omega) (by simp; omega) (by rw [List.append_assoc, List.singleton_append, ← drop_at h1]; exact q)) fun k => ?_
    rw [quitclaimref11_Apply.l35, if_pos (by omega), ix_ h1, Option.bind_some, ap_ (by simp; omega), Option.bind_some, w (by omega) (by omega)]
    rfl
theorem rapply_l26 (l : List ByteArray) (h : St23) (a : Nat) (e0 : h.f0_At = (a : Int)) (r : List ByteArray × Int) (hl : l.length ≤ 1000) (ha : a ≤ l.length) : ∀ (c i : Nat) (x : List ByteArray), i + c = a → x.length + c ≤ 100000 →
    Ev (fun k => quitclaimref11_Apply.l35 l h k (x ++ (l.drop i).take c) 0) r → Ev (fun k => quitclaimref11_Apply.l26 l h k x (i : Int)) r := by
  intro c
  induction c with
  | zero =>
    intro i x hi hx q
    rw [List.take_zero, List.append_nil] at q
    exact Ev.step q fun k => by rw [quitclaimref11_Apply.l26, if_neg (by omega)]
  | succ c ih =>
    intro i x hi hx q
    have h1 : i < l.length := by omega
    refine Ev.step (ih (i + 1) (x ++ [l[i]]) (by omega) (by simp; omega) (by rw [drop_at h1, List.take_succ_cons] at q; rw [List.append_assoc, List.singleton_append]; exact q)) fun k => ?_
    rw [quitclaimref11_Apply.l26, if_pos (by omega), ix_ h1, Option.bind_some, ap_ (by simp; omega), Option.bind_some, w (by omega) (by omega)]
    rfl
theorem rapply (l : List ByteArray) (h : St23) (hl : sm l) (hs : smh h) : Ev (fun k => quitclaimref11_Apply.f k l h) (ap l h) := by
  unfold quitclaimref11_Apply.f
  refine Ev.bind (rlines l hl.1 hl.2) ?_
  have bad3 : (¬ (good l = true ∧ right h = true)) → ap l h = ([], 3) := fun q => by unfold ap; rw [if_neg q]
  cases g0 : good l with
  | false =>
    rw [bad3 (by rw [g0]; rintro ⟨q, _⟩; cases q)]
    exact Ev.bind (Ev.g0 rfl) (Ev.pos rfl (Ev.const _))
  | true =>
    refine Ev.bind (Ev.g1 rfl (rright h hs)) ?_
    cases g1 : right h with
    | false =>
      rw [bad3 (by rw [g1]; rintro ⟨_, q⟩; cases q)]
      exact Ev.pos rfl (Ev.const _)
    | true =>
      refine Ev.neg (by decide) ?_
      have ll := good_len g0
      obtain ⟨a0, a1, go, gn, _⟩ := right_parts g1
      have lo := good_len go
      have ln := good_len gn
      obtain ⟨m, em⟩ := Int.eq_ofNat_of_zero_le a0
      unfold ap
      rw [if_pos ⟨g0, g1⟩]
      by_cases h5 : h.f0_At > l.length
      · rw [if_pos h5]
        exact Ev.pos h5 (Ev.const _)
      · rw [if_neg h5]
        refine Ev.neg h5 ?_
        have et : h.f0_At.toNat = m := by omega
        rw [et]
        have go_ : ∀ r, Ev (fun k => quitclaimref11_Apply.l38 l h (l.take m ++ h.f2_New) k 0) r → Ev (fun k => quitclaimref11_Apply.l26 l h k [] 0) r := fun r q =>
          rapply_l26 l h m em r ll (by omega) m 0 [] (by omega) (by simp; omega) (rapply_l35 l h r ln h.f2_New.length 0 _ (by omega) (by simp; omega) (by rw [List.drop_zero, List.drop_zero, List.nil_append]; exact q))
        refine go_ _ ?_
        by_cases hp : h.f1_Old <+: l.drop m
        · rw [if_pos hp]
          have hle : h.f1_Old.length ≤ l.length - m := by have := hp.length_le; rwa [List.length_drop] at this
          refine rapply_l38_yes l _ h m em _ ll lo (by omega) ?_ h.f1_Old.length 0 (by omega) (by simpa using hp)
          have q := rapply_l39 l ll (l.length - (m + h.f1_Old.length)) (m + h.f1_Old.length) (l.take m ++ h.f2_New) (by omega) (by simp only [List.length_append, List.length_take]; omega)
          have e : ((l.take m ++ h.f2_New) ++ l.drop (m + h.f1_Old.length)).length = l.length - h.f1_Old.length + h.f2_New.length := by simp only [List.length_append, List.length_take, List.length_drop]; omega
          rw [e] at q
          exact q
        · rw [if_neg hp]
          exact rapply_l38_no l _ h m em lo (by omega) h.f1_Old.length 0 (by omega) (by simpa using hp)

/-! ### the code's own -/
theorem concat_l3 (xs : List (List ByteArray)) (hl : xs.length ≤ 100) : ∀ (c i : Nat) (x : List ByteArray), i + c = xs.length → x.length + (xs.drop i).flatten.length ≤ 1000000 →
    Ev (fun k => slices_Concat_string_string.l3 xs k x (i : Int)) (x ++ (xs.drop i).flatten) := by
  intro c
  induction c with
  | zero =>
    intro i x hi hx
    rw [List.drop_eq_nil_of_le (by omega)]
    exact Ev.stepc fun k => by rw [slices_Concat_string_string.l3, if_neg (by omega)]; simp
  | succ c ih =>
    intro i x hi hx
    have h1 : i < xs.length := by omega
    have ed : xs.drop i = xs[i] :: xs.drop (i + 1) := List.drop_eq_getElem_cons h1
    rw [ed] at hx ⊢
    rw [List.flatten_cons, List.length_append] at hx
    have q := ih (i + 1) (x ++ xs[i]) (by omega) (by rw [List.length_append]; omega)
    rw [List.flatten_cons, ← List.append_assoc]
    refine Ev.step q fun k => ?_
    rw [slices_Concat_string_string.l3, if_pos (by omega), ix_ h1, Option.bind_some, ap_ (by omega), Option.bind_some, w (by omega) (by omega)]
    rfl
theorem concat_l2 (xs : List (List ByteArray)) (hl : xs.length ≤ 100) (hf : xs.flatten.length ≤ 1000000) : ∀ (c i n : Nat), i + c = xs.length → n + (xs.drop i).flatten.length = xs.flatten.length →
    Ev (fun k => slices_Concat_string_string.l2 xs k (n : Int) (i : Int)) xs.flatten := by
  intro c
  induction c with
  | zero =>
    intro i n hi hx
    have q := concat_l3 xs hl xs.length 0 [] (by omega) (by rw [List.drop_zero]; simp; simpa using hf)
    rw [List.drop_zero, List.nil_append] at q
    refine Ev.step q fun k => ?_
    rw [List.drop_eq_nil_of_le (by omega)] at hx
    have hx' : n = xs.flatten.length := by simpa using hx
    rw [slices_Concat_string_string.l2, if_neg (by omega)]
    unfold grw
    rw [if_pos (by omega), Option.bind_some]
    rfl
  | succ c ih =>
    intro i n hi hx
    have h1 : i < xs.length := by omega
    have ed : xs.drop i = xs[i] :: xs.drop (i + 1) := List.drop_eq_getElem_cons h1
    rw [ed, List.flatten_cons, List.length_append] at hx
    refine Ev.step (ih (i + 1) (n + xs[i].length) (by omega) (by omega)) fun k => ?_
    have e : w64 ((n : Int) + (xs[i].length : Int)) = ((n + xs[i].length : Nat) : Int) := by rw [w (by omega) (by omega)]; rfl
    rw [slices_Concat_string_string.l2, if_pos (by omega), ix_ h1, Option.bind_some, e, if_neg (by omega), w (by omega) (by omega)]
    rfl
theorem concat3 (x y z : List ByteArray) (h : (x ++ y ++ z).length ≤ 100000) : Ev (fun k => slices_Concat_string_string.f k [x, y, z]) (x ++ y ++ z) := by
  have e : ([x, y, z] : List (List ByteArray)).flatten = x ++ y ++ z := by simp
  have q := concat_l2 [x, y, z] (by simp) (by rw [e]; omega) 3 0 0 rfl (by rw [List.drop_zero]; simp)
  rw [e] at q
  exact q
theorem cut_ {l : List ByteArray} {i j : Nat} (h : i ≤ j) (h' : j ≤ l.length) : cut l (i : Int) (j : Int) = some ((l.take j).drop i) := by
  unfold cut; rw [if_pos (by omega)]; simp
theorem stands_yes (l o : List ByteArray) (a : Nat) (ha : a ≤ l.length) (hl : l.length ≤ 1000) (h : o <+: l.drop a) : Ev (fun k => hunk_stands.f k l (a : Int) o) true := by
  have ho : o.length ≤ l.length - a := by have := h.length_le; rwa [List.length_drop] at this
  have e : (l.take (a + o.length)).drop a = o := by rw [List.drop_take, Nat.add_sub_cancel_left]; exact (List.prefix_iff_eq_take.1 h).symm
  have t : (decide ((a : Int) ≤ (l.length : Int)) && decide ((o.length : Int) ≤ w64 ((l.length : Int) - (a : Int)))) = true := by
    rw [w (by omega) (by omega), decide_eq_true (by omega), decide_eq_true (by omega)]; rfl
  have ec : w64 ((a : Int) + (o.length : Int)) = ((a + o.length : Nat) : Int) := by rw [w (by omega) (by omega)]; rfl
  unfold hunk_stands.f
  rw [t, ec]
  refine Ev.bind (a := o) (Ev.g1 rfl (Ev.ev ((cut_ (by omega) (by omega)).trans (by rw [e])))) ?_
  have q := equal o o (by omega)
  rw [decide_eq_true rfl] at q
  exact Ev.bind (Ev.g1 rfl q) (Ev.const true)
theorem stands_no (l o : List ByteArray) (a : Nat) (hl : l.length ≤ 1000) (ha : a ≤ 1000) (ho : o.length ≤ 1000) (h : ¬ (a ≤ l.length ∧ o <+: l.drop a)) : Ev (fun k => hunk_stands.f k l (a : Int) o) false := by
  unfold hunk_stands.f
  by_cases h2 : a ≤ l.length ∧ o.length ≤ l.length - a
  · have t : (decide ((a : Int) ≤ (l.length : Int)) && decide ((o.length : Int) ≤ w64 ((l.length : Int) - (a : Int)))) = true := by
      rw [w (by omega) (by omega), decide_eq_true (by omega), decide_eq_true (by omega)]; rfl
    have ec : w64 ((a : Int) + (o.length : Int)) = ((a + o.length : Nat) : Int) := by rw [w (by omega) (by omega)]; rfl
    rw [t, ec]
    refine Ev.bind (Ev.g1 rfl (Ev.ev (cut_ (by omega) (by omega)))) ?_
    rw [List.drop_take, Nat.add_sub_cancel_left]
    have q := equal ((l.drop a).take o.length) o (by rw [List.length_take]; omega)
    rw [decide_eq_false (fun e => h ⟨h2.1, List.prefix_iff_eq_take.2 e.symm⟩)] at q
    exact Ev.bind (Ev.g1 rfl q) (Ev.const false)
  · have t : (decide ((a : Int) ≤ (l.length : Int)) && decide ((o.length : Int) ≤ w64 ((l.length : Int) - (a : Int)))) = false := by
      rw [w (by omega) (by omega)]
      by_cases h1 : a ≤ l.length
      · rw [decide_eq_false (show ¬ ((o.length : Int) ≤ (l.length : Int) - (a : Int)) by omega), Bool.and_false]
      · rw [decide_eq_false (show ¬ ((a : Int) ≤ (l.length : Int)) by omega), Bool.false_and]
    rw [t]
    exact Ev.bind (Ev.g0 rfl) (Ev.bind (Ev.g0 rfl) (Ev.const false))
theorem apply (l : List ByteArray) (h : St23) : Ev (fun k => hunk_Apply.f k l h) (ap l h) := by
  unfold hunk_Apply.f
  have bad3 : (¬ (good l = true ∧ right h = true)) → ap l h = ([], 3) := fun q => by unfold ap; rw [if_neg q]
  refine Ev.bind (lines l) ?_
  cases g0 : good l with
  | false =>
    rw [bad3 (by rw [g0]; rintro ⟨q, _⟩; cases q)]
    exact Ev.bind (Ev.g0 rfl) (Ev.pos rfl (Ev.const _))
  | true =>
    refine Ev.bind (Ev.g1 rfl (right_ h)) ?_
    cases g1 : right h with
    | false =>
      rw [bad3 (by rw [g1]; rintro ⟨_, q⟩; cases q)]
      exact Ev.pos rfl (Ev.const _)
    | true =>
      refine Ev.neg (by decide) ?_
      have ll := good_len g0
      obtain ⟨a0, a1, go, gn, _⟩ := right_parts g1
      have lo := good_len go
      have ln := good_len gn
      obtain ⟨m, em⟩ := Int.eq_ofNat_of_zero_le a0
      unfold ap
      rw [if_pos ⟨g0, g1⟩, em]
      by_cases h5 : (m : Int) > l.length
      · rw [if_pos h5]
        exact Ev.pos h5 (Ev.const _)
      · rw [if_neg h5]
        refine Ev.neg h5 ?_
        rw [Int.toNat_natCast]
        by_cases hp : h.f1_Old <+: l.drop m
        · rw [if_pos hp]
          have hle : h.f1_Old.length ≤ l.length - m := by have := hp.length_le; rwa [List.length_drop] at this
          refine Ev.bind (stands_yes l h.f1_Old m (by omega) ll hp) (Ev.neg (by decide) ?_)
          have e1 : w64 (w64 ((l.length : Int) - (h.f1_Old.length : Int)) + (h.f2_New.length : Int)) = ((l.length - h.f1_Old.length + h.f2_New.length : Nat) : Int) := by
            rw [w (x := (l.length : Int) - _) (by omega) (by omega), w (by omega) (by omega)]; omega
          have e2 : w64 ((m : Int) + (h.f1_Old.length : Int)) = ((m + h.f1_Old.length : Nat) : Int) := by rw [w (by omega) (by omega)]; rfl
          rw [e1, e2]
          by_cases h4 : l.length - h.f1_Old.length + h.f2_New.length > 1000
          · rw [if_pos h4]
            exact Ev.pos (by omega) (Ev.const _)
          · rw [if_neg h4]
            refine Ev.neg (by omega) ?_
            refine Ev.now (a := l.take m) ((cut_ (i := 0) (by omega) (by omega)).trans (by rw [List.drop_zero])) ?_
            refine Ev.now (a := l.drop (m + h.f1_Old.length)) ((cut_ (by omega) (by omega)).trans (by rw [List.take_length])) ?_
            exact Ev.bind (concat3 _ _ _ (by simp only [List.length_append, List.length_take, List.length_drop]; omega)) (Ev.const _)
        · rw [if_neg hp]
          exact Ev.bind (stands_no l h.f1_Old m ll (by omega) lo (fun q => hp q.2)) (Ev.pos rfl (Ev.const _))
/-! ### is it too long to be asked about -/
def short (x : List ByteArray) : Prop := x.length ≤ 60 ∧ ∀ s ∈ x, s.size ≤ 300
theorem long_in (xs : List (List ByteArray)) (i : Int) (b2 : Int → Option Bool) (x : List ByteArray) (hx : x.length ≤ 60) : ∀ (c j : Nat), j + c = x.length →
    ((∃ s ∈ x.drop j, 300 < s.size) → Ev (fun k => quitclaimlaw11_long.l3 i b2 x k (j : Int)) true) ∧
    ((∀ s ∈ x.drop j, s.size ≤ 300) → ∀ k, c < k → quitclaimlaw11_long.l3 i b2 x k (j : Int) = b2 (w64 (i + 1))) := by
  intro c
  induction c with
  | zero =>
    intro j hj
    have e0 : x.drop j = [] := List.drop_eq_nil_of_le (by omega)
    rw [e0]
    refine ⟨fun h => (by obtain ⟨s, hs, _⟩ := h; cases hs), fun _ k hk => ?_⟩
    obtain ⟨k, rfl⟩ : ∃ m, k = m + 1 := ⟨k - 1, by omega⟩
    rw [quitclaimlaw11_long.l3, if_neg (by omega)]
  | succ c ih =>
    intro j hj
    have h1 : j < x.length := by omega
    obtain ⟨q1, q2⟩ := ih (j + 1) (by omega)
    rw [drop_at h1]
    by_cases hs : 300 < x[j].size
    · refine ⟨fun _ => Ev.stepc fun k => ?_, fun h => absurd (h _ (List.mem_cons_self ..)) (by omega)⟩
      rw [quitclaimlaw11_long.l3, if_pos (by omega), ix_ h1, Option.bind_some, if_pos (by omega)]
    · have st : ∀ k, quitclaimlaw11_long.l3 i b2 x (k + 1) (j : Int) = quitclaimlaw11_long.l3 i b2 x k ((j + 1 : Nat) : Int) := fun k => by
        rw [quitclaimlaw11_long.l3, if_pos (by omega), ix_ h1, Option.bind_some, if_neg (by omega), w (by omega) (by omega)]
        rfl
      refine ⟨fun h => Ev.step (q1 ?_) st, fun h k hk => ?_⟩
      · obtain ⟨s, m, hs'⟩ := h
        rcases List.mem_cons.1 m with rfl | m
        · exact absurd hs' hs
        · exact ⟨s, m, hs'⟩
      · obtain ⟨k, rfl⟩ : ∃ m, k = m + 1 := ⟨k - 1, by omega⟩
        rw [st]
        exact q2 (fun s m => h s (List.mem_cons_of_mem _ m)) k (by omega)
theorem long_out (xs : List (List ByteArray)) (hl : xs.length ≤ 100) : ∀ (c i : Nat), i + c = xs.length →
    ∃ b, Ev (fun k => quitclaimlaw11_long.l2 xs k (i : Int)) b ∧ (b = false → ∀ x ∈ xs.drop i, short x) := by
  intro c
  induction c with
  | zero =>
    intro i hi
    have e0 : xs.drop i = [] := List.drop_eq_nil_of_le (by omega)
    refine ⟨false, Ev.stepc fun k => ?_, fun _ x hx => by rw [e0] at hx; cases hx⟩
    rw [quitclaimlaw11_long.l2]
    simp only [jn]
    rw [if_neg (by omega)]
  | succ c ih =>
    intro i hi
    have h1 : i < xs.length := by omega
    obtain ⟨b, hb, hs⟩ := ih (i + 1) (by omega)
    have ed : xs.drop i = xs[i] :: xs.drop (i + 1) := List.drop_eq_getElem_cons h1
    rw [ed]
    have e1 : w64 ((i : Int) + 1) = ((i + 1 : Nat) : Int) := by rw [w (by omega) (by omega)]; rfl
    by_cases h60 : xs[i].length ≤ 60
    · have st : ∀ k, quitclaimlaw11_long.l2 xs (k + 1) (i : Int) = quitclaimlaw11_long.l3 (i : Int) (fun x6 => quitclaimlaw11_long.l2 xs k x6) xs[i] k ((0 : Nat) : Int) := fun k => by
        rw [quitclaimlaw11_long.l2]
        simp only [jn]
        rw [if_pos (by omega), ix_ h1, Option.bind_some, if_neg (by omega)]
        rfl
      by_cases ha : ∃ s ∈ xs[i].drop 0, 300 < s.size
      · refine ⟨true, ?_, fun h => by cases h⟩
        have q : ∀ b2 k, 61 ≤ k → quitclaimlaw11_long.l3 (i : Int) b2 xs[i] k ((0 : Nat) : Int) = some true := by
          intro b2
          have gen : ∀ (c j : Nat), j + c = xs[i].length → (∃ s ∈ xs[i].drop j, 300 < s.size) → ∀ k, c < k → quitclaimlaw11_long.l3 (i : Int) b2 xs[i] k (j : Int) = some true := by
            intro c
            induction c with
            | zero => intro j hj h; rw [List.drop_eq_nil_of_le (by omega)] at h; obtain ⟨s, m, _⟩ := h; cases m
            | succ c ih =>
              intro j hj h k hk
              obtain ⟨k, rfl⟩ : ∃ m, k = m + 1 := ⟨k - 1, by omega⟩
              have h2 : j < xs[i].length := by omega
              rw [quitclaimlaw11_long.l3, if_pos (by omega), ix_ h2, Option.bind_some]
              by_cases hs : 300 < (xs[i])[j].size
              · rw [if_pos (by omega)]
              · rw [if_neg (by omega), w (by omega) (by omega)]
                refine ih (j + 1) (by omega) ?_ k (by omega)
                rw [drop_at h2] at h
                obtain ⟨s, m, hs'⟩ := h
                rcases List.mem_cons.1 m with rfl | m
                · exact absurd hs' hs
                · exact ⟨s, m, hs'⟩
          exact fun k hk => gen xs[i].length 0 (by omega) ha k (by omega)
        exact ⟨62, fun k hk => by
          obtain ⟨k, rfl⟩ : ∃ m, k = m + 1 := ⟨k - 1, by omega⟩
          show quitclaimlaw11_long.l2 xs (k + 1) (i : Int) = _
          rw [st]; exact q _ k (by omega)⟩
      · have hall : ∀ s ∈ xs[i].drop 0, s.size ≤ 300 := fun s m => Nat.not_lt.1 fun h => ha ⟨s, m, h⟩
        refine ⟨b, ?_, fun h x hx => ?_⟩
        · obtain ⟨K, hK⟩ := hb
          refine ⟨K + 63, fun k hk => ?_⟩
          obtain ⟨k, rfl⟩ : ∃ m, k = m + 1 := ⟨k - 1, by omega⟩
          show quitclaimlaw11_long.l2 xs (k + 1) (i : Int) = _
          rw [st, (long_in xs (i : Int) _ xs[i] h60 xs[i].length 0 (by omega)).2 hall k (by omega)]
          show quitclaimlaw11_long.l2 xs k (w64 ((i : Int) + 1)) = _
          rw [e1]
          exact hK k (by omega)
        · rcases List.mem_cons.1 hx with rfl | m
          · exact ⟨h60, by rw [List.drop_zero] at hall; exact hall⟩
          · exact hs h x m
    · refine ⟨true, Ev.stepc fun k => ?_, fun h => by cases h⟩
      rw [quitclaimlaw11_long.l2]
      simp only [jn]
      rw [if_pos (by omega), ix_ h1, Option.bind_some, if_pos (by omega)]
theorem long (xs : List (List ByteArray)) (hl : xs.length ≤ 100) : ∃ b, Ev (fun k => quitclaimlaw11_long.f k xs) b ∧ (b = false → ∀ x ∈ xs, short x) := by
  obtain ⟨b, h, q⟩ := long_out xs hl xs.length 0 (by omega)
  exact ⟨b, h, by rw [List.drop_zero] at q; exact q⟩

/-! ### the example -/
theorem ap_awake : ap [(⟨#[97]⟩ : ByteArray), ⟨#[98]⟩] ⟨1, [(⟨#[98]⟩ : ByteArray)], [(⟨#[99]⟩ : ByteArray), ⟨#[100]⟩]⟩ = ([(⟨#[97]⟩ : ByteArray), ⟨#[99]⟩, ⟨#[100]⟩], 0) := by
  unfold ap
  rw [if_pos ⟨rfl, rfl⟩, if_neg (by decide), if_pos (⟨[], rfl⟩), if_neg (by decide)]
  rfl
theorem awake : Ev (fun k => quitclaimlaw11_awake.f k) true := by
  unfold quitclaimlaw11_awake.f
  have q := apply [(⟨#[97]⟩ : ByteArray), ⟨#[98]⟩] ⟨1, [(⟨#[98]⟩ : ByteArray)], [(⟨#[99]⟩ : ByteArray), ⟨#[100]⟩]⟩
  rw [ap_awake] at q
  refine Ev.bind q ?_
  exact (Ev.const true).eq fun k => rfl

/-! ### apart, and the same -/
/-- Does the one stand behind the other's end? -/
def ahead (a b : St23) : Bool := decide (b.f0_At + (b.f1_Old.length : Int) < a.f0_At)
def apart (a b : St23) : Bool := (right a && right b) && (ahead a b || decide (b.f0_At > a.f0_At + (a.f2_New.length : Int)))
theorem ends (a b : St23) (ra : right a = true) (rb : right b = true) : w64 (b.f0_At + (b.f1_Old.length : Int)) = b.f0_At + (b.f1_Old.length : Int) ∧ w64 (a.f0_At + (a.f2_New.length : Int)) = a.f0_At + (a.f2_New.length : Int) := by
  obtain ⟨h0, h1, h2, h3, _⟩ := right_parts ra
  obtain ⟨i0, i1, i2, i3, _⟩ := right_parts rb
  have := good_len h3; have := good_len i2
  exact ⟨w (by omega) (by omega), w (by omega) (by omega)⟩
theorem rapart (a b : St23) (ha : smh a) (hb : smh b) : Ev (fun k => quitclaimref11_Apart.f k a b) (apart a b) := by
  unfold quitclaimref11_Apart.f apart
  refine Ev.to (Ev.bind (rright a ha) (Ev.bind (Ev.gd fun _ => rright b hb) (Ev.const _))) ?_
  cases ra : right a with
  | false => rfl
  | true =>
    cases rb : right b with
    | false => rfl
    | true =>
      obtain ⟨e1, e2⟩ := ends a b ra rb
      rw [e1, e2]; rfl
theorem ahead_ (a b : St23) (ra : right a = true) (rb : right b = true) : hunk_ahead.f a b = some (ahead a b) := by
  unfold hunk_ahead.f ahead; rw [(ends a b ra rb).1]
theorem apart_ (a b : St23) : Ev (fun k => hunk_Apart.f k a b) (apart a b) := by
  unfold hunk_Apart.f apart
  refine Ev.bind (right_ a) ?_
  cases ra : right a with
  | false => exact Ev.bind (Ev.g0 rfl) (Ev.bind (Ev.g0 rfl) (Ev.const _))
  | true =>
    refine Ev.bind (Ev.g1 rfl (right_ b)) ?_
    cases rb : right b with
    | false => exact Ev.bind (Ev.g0 rfl) (Ev.const _)
    | true =>
      refine Ev.bind (Ev.g1 rfl (Ev.ev (ahead_ a b ra rb))) ?_
      rw [(ends a b ra rb).2]
      exact Ev.const _
theorem clone_ (x : List ByteArray) (h : x.length ≤ 1000) : slices_Clone_string_string.f x = some x := by
  unfold slices_Clone_string_string.f nq
  cases x with
  | nil => rfl
  | cons y ys => dsimp only; rw [if_neg (by decide), ap_ (by rw [List.length_nil]; omega)]; rfl
def mv (h : St23) (n : Int) : St23 := ⟨h.f0_At + n, h.f1_Old, h.f2_New⟩
theorem moved_ (h : St23) (n : Int) (rh : right h = true) (hn : -2000 ≤ n ∧ n ≤ 2000) : hunk_moved.f h n = some (mv h n) := by
  obtain ⟨h0, h1, h2, h3, _⟩ := right_parts rh
  unfold hunk_moved.f mv
  rw [clone_ _ (good_len h2), clone_ _ (good_len h3), w (by omega) (by omega)]
  rfl
def sw (a b : St23) : St23 × St23 × Bool :=
  if apart a b = true then
    if ahead a b = true then (mv b 0, mv a ((b.f2_New.length : Int) - (b.f1_Old.length : Int)), true)
    else (mv b ((a.f1_Old.length : Int) - (a.f2_New.length : Int)), mv a 0, true)
  else (⟨0, [], []⟩, ⟨0, [], []⟩, false)
theorem apart_parts {a b : St23} (h : apart a b = true) : right a = true ∧ right b = true ∧ (ahead a b = true ∨ b.f0_At > a.f0_At + (a.f2_New.length : Int)) := by
  unfold apart at h; simp only [Bool.and_eq_true, Bool.or_eq_true, decide_eq_true_eq] at h; exact ⟨h.1.1, h.1.2, h.2⟩
theorem swap_ (a b : St23) : Ev (fun k => hunk_Swap.f k a b) (sw a b) := by
  unfold hunk_Swap.f sw
  refine Ev.bind (apart_ a b) ?_
  cases hp : apart a b with
  | false => exact Ev.pos rfl (Ev.const _)
  | true =>
    obtain ⟨ra, rb, hh⟩ := apart_parts hp
    obtain ⟨h0, h1, h2, h3, _⟩ := right_parts ra
    obtain ⟨i0, i1, i2, i3, _⟩ := right_parts rb
    have := good_len h2; have := good_len h3; have := good_len i2; have := good_len i3
    refine Ev.neg (by decide) ?_
    refine Ev.now (ahead_ a b ra rb) ?_
    cases hd : ahead a b with
    | true =>
      refine Ev.pos rfl ?_
      rw [w (by omega) (by omega)]
      exact Ev.now (moved_ b 0 rb (by omega)) (Ev.now (moved_ a _ ra (by omega)) (Ev.const _))
    | false =>
      refine Ev.neg (by decide) ?_
      rw [w (by omega) (by omega)]
      exact Ev.now (moved_ b _ rb (by omega)) (Ev.now (moved_ a 0 ra (by omega)) (Ev.const _))
theorem hsame (a b : St23) (ha : smh a) : Ev (fun k => hunk_Same.f k a b) (decide (a.f0_At = b.f0_At) && (decide (a.f1_Old = b.f1_Old) && decide (a.f2_New = b.f2_New))) := by
  unfold hunk_Same.f
  refine Ev.to (Ev.bind (Ev.gd fun _ => equal _ _ ha.1.1) (Ev.bind (Ev.gd fun _ => equal _ _ ha.2.1) (Ev.const _))) ?_
  cases decide (a.f0_At = b.f0_At) <;> cases decide (a.f1_Old = b.f1_Old) <;> cases decide (a.f2_New = b.f2_New) <;> rfl
theorem rsame (a b : St23) (ha : smh a) : Ev (fun k => quitclaimref11_Same.f k a b) (decide (a.f0_At = b.f0_At) && (decide (a.f1_Old = b.f1_Old) && decide (a.f2_New = b.f2_New))) := by
  unfold quitclaimref11_Same.f
  refine Ev.to (Ev.bind (Ev.gd fun _ => same _ _ ha.1.1) (Ev.bind (Ev.gd fun _ => same _ _ ha.2.1) (Ev.const _))) ?_
  cases decide (a.f0_At = b.f0_At) <;> cases decide (a.f1_Old = b.f1_Old) <;> cases decide (a.f2_New = b.f2_New) <;> rfl

/-! ### the swap -/
theorem good_app (x y : List ByteArray) : good (x ++ y) = true ↔ x.any bad = false ∧ y.any bad = false ∧ x.length + y.length ≤ 1000 := by
  unfold good
  simp only [List.length_append, List.any_append, Bool.and_eq_true, decide_eq_true_eq, Bool.not_eq_true', Bool.or_eq_false_iff]
  exact ⟨fun h => ⟨h.2.1, h.2.2, h.1⟩, fun h => ⟨h.2.2, h.1, h.2.1⟩⟩
theorem good_iff (x : List ByteArray) : good x = true ↔ x.any bad = false ∧ x.length ≤ 1000 := by
  unfold good; simp only [Bool.and_eq_true, decide_eq_true_eq, Bool.not_eq_true']; exact ⟨fun h => ⟨h.2, h.1⟩, fun h => ⟨h.2, h.1⟩⟩
theorem ap_out {l : List ByteArray} {h : St23} (q : (ap l h).2 = 0) : good l = true ∧ right h = true ∧ ∃ u v, l = u ++ (h.f1_Old ++ v) ∧ (u.length : Int) = h.f0_At ∧ (ap l h).1 = u ++ (h.f2_New ++ v) ∧ u.length + h.f2_New.length + v.length ≤ 1000 := by
  unfold ap at q ⊢
  split at q
  next g =>
    rw [if_pos g]
    split at q
    next => simp at q
    next h5 =>
      rw [if_neg h5]
      split at q
      next hp =>
        rw [if_pos hp]
        split at q
        next => simp at q
        next h4 =>
          rw [if_neg h4]
          obtain ⟨a0, a1, go, gn, _⟩ := right_parts g.2
          have e1 : h.f1_Old ++ l.drop (h.f0_At.toNat + h.f1_Old.length) = l.drop h.f0_At.toNat := by
            obtain ⟨t, ht⟩ := hp
            rw [← List.drop_drop, ← ht, List.drop_left]
          refine ⟨g.1, g.2, l.take h.f0_At.toNat, l.drop (h.f0_At.toNat + h.f1_Old.length), ?_, ?_, ?_, ?_⟩
          · rw [e1, List.take_append_drop]
          · rw [List.length_take]; omega
          · rw [List.append_assoc]
          · have := hp.length_le
            rw [List.length_drop] at this
            rw [List.length_take, List.length_drop]; omega
      next => simp at q
  next => simp at q
theorem ap_in {h : St23} {u v : List ByteArray} (g : good (u ++ (h.f1_Old ++ v)) = true) (r : right h = true) (e : (u.length : Int) = h.f0_At) (hl : u.length + h.f2_New.length + v.length ≤ 1000) : ap (u ++ (h.f1_Old ++ v)) h = (u ++ (h.f2_New ++ v), 0) := by
  unfold ap
  have et : h.f0_At.toNat = u.length := by omega
  rw [if_pos ⟨g, r⟩, if_neg (by rw [List.length_append]; omega), et, List.drop_left, if_pos (List.prefix_append _ _), if_neg (by simp only [List.length_append]; omega), ← List.drop_drop, List.drop_left, List.drop_left, List.take_left, List.append_assoc]
theorem right_mv {h : St23} {n : Int} (r : right h = true) (a0 : 0 ≤ h.f0_At + n) (a1 : h.f0_At + n ≤ 1000) : right (mv h n) = true := by
  obtain ⟨_, _, g0, g1, h5⟩ := right_parts r
  unfold right mv
  simp only [Bool.and_eq_true, decide_eq_true_eq]
  exact ⟨a0, a1, g0, g1, h5⟩
theorem before {α : Type} {p q r s : List α} (h : p ++ q = r ++ s) (hl : p.length ≤ r.length) : ∃ m, r = p ++ m ∧ q = m ++ s := by
  rcases List.append_eq_append_iff.1 h with ⟨m, e1, e2⟩ | ⟨m, e1, e2⟩
  · exact ⟨m, e1, e2⟩
  · have : m = [] := by
      have := congrArg List.length e1
      rw [List.length_append] at this
      exact List.length_eq_zero_iff.1 (by omega)
    subst this
    exact ⟨[], by simpa using e1.symm, by simpa using e2.symm⟩
theorem swapped (l : List ByteArray) (a b : St23) (hp : apart a b = true) (h1 : (ap l a).2 = 0) (h2 : (ap (ap l a).1 b).2 = 0) (hl : l.length + b.f2_New.length ≤ 1000) :
    (ap l (sw a b).1).2 = 0 ∧ ap (ap l (sw a b).1).1 (sw a b).2.1 = ((ap (ap l a).1 b).1, 0) := by
  obtain ⟨ra, rb, hh⟩ := apart_parts hp
  obtain ⟨gl, _, u, v, el, eu, e1, n1⟩ := ap_out h1
  obtain ⟨g1, _, u', v', el', eu', e2, n2⟩ := ap_out h2
  obtain ⟨a0, a1, ga, ga', _⟩ := right_parts ra
  obtain ⟨b0, b1, gb, gb', _⟩ := right_parts rb
  rw [e2]
  have gt : good (ap l a).1 = true := g1
  rw [e1] at el' gt
  rw [el] at gl hl ⊢
  unfold sw
  rw [if_pos hp]
  by_cases hd : ahead a b = true
  · rw [if_pos hd]
    have hd' : b.f0_At + (b.f1_Old.length : Int) < a.f0_At := by unfold ahead at hd; simpa using hd
    obtain ⟨m, em, ev⟩ := before (p := u' ++ b.f1_Old) (q := v') (r := u) (s := a.f2_New ++ v) (by rw [List.append_assoc]; exact el'.symm) (by rw [List.length_append]; omega)
    subst em; subst ev
    have eb : (mv b 0).f1_Old = b.f1_Old := rfl
    have eb' : (mv b 0).f2_New = b.f2_New := rfl
    have el2 : (u' ++ b.f1_Old) ++ m ++ (a.f1_Old ++ v) = u' ++ ((mv b 0).f1_Old ++ (m ++ (a.f1_Old ++ v))) := by rw [eb]; simp only [List.append_assoc]
    rw [el2] at gl hl ⊢
    simp only [eb, good_iff, List.any_append, List.length_append, Bool.or_eq_false_iff] at gl hl ga' gb' ga gb
    have s1 := ap_in (h := mv b 0) (u := u') (v := m ++ (a.f1_Old ++ v)) (by simp only [eb, good_iff, List.any_append, List.length_append, Bool.or_eq_false_iff]; exact ⟨gl.1, gl.2⟩) (right_mv rb (by omega) (by omega)) (by show _ = b.f0_At + 0; omega) (by rw [eb']; simp only [List.length_append]; omega)
    rw [s1, eb']
    refine ⟨rfl, ?_⟩
    have el3 : u' ++ (b.f2_New ++ (m ++ (a.f1_Old ++ v))) = (u' ++ (b.f2_New ++ m)) ++ ((mv a ((b.f2_New.length : Int) - (b.f1_Old.length : Int))).f1_Old ++ v) := by
      show _ = (u' ++ (b.f2_New ++ m)) ++ (a.f1_Old ++ v)
      simp only [List.append_assoc]
    dsimp only
    rw [el3]
    simp only [List.length_append] at eu
    refine (ap_in (h := mv a ((b.f2_New.length : Int) - (b.f1_Old.length : Int))) (u := u' ++ (b.f2_New ++ m)) (v := v) ?_ (right_mv ra (by omega) (by omega)) ?_ ?_).trans ?_
    · show good ((u' ++ (b.f2_New ++ m)) ++ (a.f1_Old ++ v)) = true
      simp only [good_iff, List.any_append, List.length_append, Bool.or_eq_false_iff]
      exact ⟨⟨⟨gl.1.1, gb'.1, gl.1.2.2.1⟩, gl.1.2.2.2⟩, by omega⟩
    · show _ = a.f0_At + _
      simp only [List.length_append]; omega
    · show _ + a.f2_New.length + _ ≤ 1000
      simp only [List.length_append] at n1 n2 ⊢
      omega
    · show ((u' ++ (b.f2_New ++ m)) ++ (a.f2_New ++ v), (0 : Int)) = _
      simp only [List.append_assoc]
  · rw [if_neg hd]
    have hd' : b.f0_At > a.f0_At + (a.f2_New.length : Int) := hh.resolve_left hd
    obtain ⟨m, em, ev⟩ := before (p := u ++ a.f2_New) (q := v) (r := u') (s := b.f1_Old ++ v') (by rw [List.append_assoc]; exact el') (by rw [List.length_append]; omega)
    subst em; subst ev
    simp only [List.length_append] at eu'
    have el2 : u ++ (a.f1_Old ++ (m ++ (b.f1_Old ++ v'))) = (u ++ (a.f1_Old ++ m)) ++ ((mv b ((a.f1_Old.length : Int) - (a.f2_New.length : Int))).f1_Old ++ v') := by
      show _ = (u ++ (a.f1_Old ++ m)) ++ (b.f1_Old ++ v')
      simp only [List.append_assoc]
    simp only [good_iff, List.any_append, List.length_append, Bool.or_eq_false_iff] at gl hl ga' gb' ga gb
    have s1 := ap_in (h := mv b ((a.f1_Old.length : Int) - (a.f2_New.length : Int))) (u := u ++ (a.f1_Old ++ m)) (v := v') (by
        rw [← el2]
        simp only [good_iff, List.any_append, List.length_append, Bool.or_eq_false_iff]; exact gl) (right_mv rb (by omega) (by omega)) (by show _ = b.f0_At + _; simp only [List.length_append]; omega) (by show _ + b.f2_New.length + _ ≤ 1000; simp only [List.length_append]; omega)
    rw [el2, s1]
    refine ⟨rfl, ?_⟩
    have el3 : (u ++ (a.f1_Old ++ m)) ++ ((mv b ((a.f1_Old.length : Int) - (a.f2_New.length : Int))).f2_New ++ v') = u ++ ((mv a 0).f1_Old ++ (m ++ (b.f2_New ++ v'))) := by
      show (u ++ (a.f1_Old ++ m)) ++ (b.f2_New ++ v') = u ++ (a.f1_Old ++ (m ++ (b.f2_New ++ v')))
      simp only [List.append_assoc]
    dsimp only
    rw [el3]
    refine (ap_in (h := mv a 0) (u := u) (v := m ++ (b.f2_New ++ v')) ?_ (right_mv ra (by omega) (by omega)) (by show _ = a.f0_At + 0; omega) ?_).trans ?_
    · show good (u ++ (a.f1_Old ++ (m ++ (b.f2_New ++ v')))) = true
      simp only [good_iff, List.any_append, List.length_append, Bool.or_eq_false_iff]
      exact ⟨⟨gl.1.1, gl.1.2.1, gl.1.2.2.1, gb'.1, gl.1.2.2.2.2⟩, by omega⟩
    · show _ + a.f2_New.length + _ ≤ 1000
      simp only [List.length_append] at n1 n2 ⊢
      omega
    · show (u ++ (a.f2_New ++ (m ++ (b.f2_New ++ v'))), (0 : Int)) = _
      simp only [List.append_assoc]
theorem sm_ap {l : List ByteArray} {h : St23} (hl : sm l) (hh : smh h) : sm (ap l h).1 := by
  have nil : sm ([] : List ByteArray) := ⟨by simp, by simp⟩
  unfold ap
  split
  · split
    · exact nil
    · split
      · split
        · exact nil
        · next h1 h4 =>
          have := h1.length_le
          rw [List.length_drop] at this
          refine ⟨by simp only [List.length_append, List.length_take, List.length_drop]; omega, fun s m => ?_⟩
          rcases List.mem_append.1 m with m | m
          · rcases List.mem_append.1 m with m | m
            · exact hl.2 s (List.mem_of_mem_take m)
            · exact hh.2.2 s m
          · exact hl.2 s (List.mem_of_mem_drop m)
      · exact nil
  · exact nil
theorem sw_parts {a b : St23} (hp : apart a b = true) : (sw a b).1.f1_Old = b.f1_Old ∧ (sw a b).1.f2_New = b.f2_New ∧ (sw a b).2.1.f1_Old = a.f1_Old ∧ (sw a b).2.1.f2_New = a.f2_New ∧ (sw a b).2.2 = true := by
  unfold sw
  rw [if_pos hp]
  split <;> exact ⟨rfl, rfl, rfl, rfl, rfl⟩
theorem law (l : List ByteArray) (a b : St23) : Ev (fun k => quitclaimlaw11_HunkSwaps.f k l a b) true := by
  unfold quitclaimlaw11_HunkSwaps.f
  obtain ⟨lg, hb, hs⟩ := long [l, a.f1_Old, a.f2_New, b.f1_Old, b.f2_New] (by simp)
  refine Ev.bind hb ?_
  cases lg with
  | true => exact Ev.pos rfl (Ev.bind awake (Ev.const true))
  | false =>
    refine Ev.neg (by decide) ?_
    have up : ∀ x ∈ [l, a.f1_Old, a.f2_New, b.f1_Old, b.f2_New], sm x := fun x hx => by
      have q := hs rfl x hx
      exact ⟨by have := q.1; omega, fun s m => by have := q.2 s m; omega⟩
    have sl : sm l := up l (by simp)
    have sa : smh a := ⟨up a.f1_Old (by simp), up a.f2_New (by simp)⟩
    have sb : smh b := ⟨up b.f1_Old (by simp), up b.f2_New (by simp)⟩
    have l60 : l.length ≤ 60 ∧ b.f2_New.length ≤ 60 := ⟨(hs rfl l (by simp)).1, (hs rfl b.f2_New (by simp)).1⟩
    refine Ev.now (a := a) rfl (Ev.now (a := b) rfl (Ev.bind (rapart a b sa sb) (Ev.bind (swap_ a b) (Ev.bind (apart_ a b) ?_))))
    have e2 : (sw a b).2.2 = apart a b := by
      cases hp : apart a b with
      | true => exact (sw_parts hp).2.2.2.2
      | false => unfold sw; rw [if_neg (by rw [hp]; decide)]
    have t : (!(apart a b == apart a b) || !((sw a b).2.2 == apart a b)) = false := by rw [e2]; simp
    have t' : (!(!(apart a b == apart a b) || !((sw a b).2.2 == apart a b))) = true := by rw [t]; rfl
    refine Ev.bind (Ev.g1 t' (hsame a b sa)) (Ev.bind (Ev.g1 t' (Ev.ev rfl)) (Ev.bind (Ev.g1 t' (Ev.ev rfl)) (Ev.bind (Ev.g1 t' (rsame a b sa)) (Ev.neg (by rw [t]; simp) ?_))))
    cases hp : apart a b with
    | false =>
      refine Ev.pos rfl ?_
      have es : sw a b = (⟨0, [], []⟩, ⟨0, [], []⟩, false) := by unfold sw; rw [if_neg (by rw [hp]; decide)]
      rw [es]
      have sn : smh (⟨0, [], []⟩ : St23) := ⟨⟨by simp, by simp⟩, ⟨by simp, by simp⟩⟩
      have q := (rsame ⟨0, [], []⟩ ⟨0, [], []⟩ sn).to (s := true) (by simp)
      exact Ev.now rfl (Ev.bind q (Ev.bind (Ev.g1 rfl (Ev.ev rfl)) (Ev.bind (Ev.g1 rfl q) (Ev.bind (Ev.g1 rfl awake) (Ev.const true)))))
    | true =>
      obtain ⟨p1, p2, p3, p4, _⟩ := sw_parts hp
      refine Ev.neg (by decide) ?_
      have sx : smh (sw a b).1 := by unfold smh; rw [p1, p2]; exact sb
      have sy : smh (sw a b).2.1 := by unfold smh; rw [p3, p4]; exact sa
      rw [p1, p2, p3, p4]
      refine Ev.bind (same1 _ sb.1.1) (Ev.bind (Ev.g1 rfl (same1 _ sb.2.1)) (Ev.bind (Ev.g1 rfl (same1 _ sa.1.1)) (Ev.bind (Ev.g1 rfl (same1 _ sa.2.1)) (Ev.neg (by decide) ?_))))
      refine Ev.now (a := a) rfl (Ev.bind (rapply l a sl sa) (Ev.now (a := b) rfl (Ev.bind (rapply _ b (sm_ap sl sa) sb) ?_)))
      by_cases c1 : (ap l a).2 = 0
      · by_cases c2 : (ap (ap l a).1 b).2 = 0
        · refine Ev.neg (by rw [c1, c2, w (by omega) (by omega)]; simp; omega) ?_
          obtain ⟨z1, z2⟩ := swapped l a b hp c1 c2 (by omega)
          refine Ev.now (a := (sw a b).1) rfl (Ev.bind (rapply l _ sl sx) (Ev.now (a := (sw a b).2.1) rfl (Ev.bind (rapply _ _ (sm_ap sl sx) sy) ?_)))
          rw [z1, z2]
          exact Ev.bind (Ev.g1 rfl (same1 _ (sm_ap (sm_ap sl sa) sb).1)) (Ev.bind (Ev.g1 rfl awake) (Ev.const true))
        · exact Ev.pos (by simp [c2]) (Ev.bind awake (Ev.const true))
      · exact Ev.pos (by simp [c1]) (Ev.bind awake (Ev.const true))
end Go.Proofs.Ytngcfmnmjkncoaa.PureS
namespace Go.Proofs.Ytngcfmnmjkncoaa.Pure
theorem hunkSwaps (l : List ByteArray) (a b : Q.St23) : ∃ k, Q.quitclaimlaw11_HunkSwaps.f k l a b = some true := by
  obtain ⟨K, h⟩ := PureS.law l a b
  exact ⟨K, h K (Nat.le_refl _)⟩
end Go.Proofs.Ytngcfmnmjkncoaa.Pure
