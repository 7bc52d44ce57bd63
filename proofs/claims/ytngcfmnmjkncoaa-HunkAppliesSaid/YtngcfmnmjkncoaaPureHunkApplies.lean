/- HunkApplies' pure statement: a hunk applied is the reference's, and inverted it undoes it; no condition. -/
import Derived.Test.YtngcfmnmjkncoaaPHunkAppliesx6
import Derived.Lib.Strings
import Derived.Lib.IndexAny
namespace Go.Proofs.Ytngcfmnmjkncoaa.PureA
open Go.RowKit Go.Proofs.Ytngcfmnmjkncoaa.PHunkApplies Go.Proofs.YtngcfmnmjkncoaaW.PrintWords Go.Proofs.YtngcfmnmjkncoaaW.PrintLast Go.Proofs.YtngcfmnmjkncoaaW.PrintMore

theorem w64 {x : Int} (h : -9223372036854775808 ≤ x) (h' : x ≤ 9223372036854775807) : wrap64 x = x := by unfold wrap64; omega
def Ev {α : Type} (f : Nat → Option α) (r : α) : Prop := ∃ K, ∀ k, K ≤ k → f k = some r
theorem Ev.const {α : Type} (r : α) : Ev (fun _ => some r) r := ⟨0, fun _ _ => rfl⟩
theorem Ev.step {α : Type} {f g : Nat → Option α} {r : α} (h : Ev f r) (hg : ∀ k, g (k + 1) = f k) : Ev g r := by
  obtain ⟨K, h⟩ := h
  refine ⟨K + 1, fun k hk => ?_⟩
  obtain ⟨m, rfl⟩ : ∃ m, k = m + 1 := ⟨k - 1, by omega⟩
  rw [hg]; exact h m (by omega)
theorem Ev.stepc {α : Type} {g : Nat → Option α} {r : α} (hg : ∀ k, g (k + 1) = some r) : Ev g r := Ev.step (Ev.const r) hg
theorem Ev.eq {α : Type} {f g : Nat → Option α} {r : α} (h : Ev f r) (hg : ∀ k, g k = f k) : Ev g r := by
  obtain ⟨K, h⟩ := h
  exact ⟨K, fun k hk => by rw [hg]; exact h k hk⟩
theorem Ev.bind {α β : Type} {f : Nat → Option α} {g : Nat → α → Option β} {a : α} {r : β} (h : Ev f a) (hg : Ev (fun k => g k a) r) : Ev (fun k => (f k).bind (g k)) r := by
  obtain ⟨K, h⟩ := h
  obtain ⟨L, hg⟩ := hg
  exact ⟨max K L, fun k hk => by show (f k).bind (g k) = _; rw [h k (by omega)]; exact hg k (by omega)⟩
theorem Ev.now {α β : Type} {o : Option α} {g : Nat → α → Option β} {a : α} {r : β} (h : o = some a) (hg : Ev (fun k => g k a) r) : Ev (fun k => o.bind (g k)) r := Ev.bind ⟨0, fun _ _ => h⟩ hg
theorem Ev.pos {α : Type} {c : Prop} [Decidable c] {f g : Nat → Option α} {r : α} (hc : c) (h : Ev f r) : Ev (fun k => if c then f k else g k) r := h.eq fun _ => if_pos hc
theorem Ev.neg {α : Type} {c : Prop} [Decidable c] {f g : Nat → Option α} {r : α} (hc : ¬ c) (h : Ev g r) : Ev (fun k => if c then f k else g k) r := h.eq fun _ => if_neg hc

theorem tl {x y : ByteArray} : x.toList = y.toList ↔ x = y := by
  rw [ByteArray.toList_eq, ByteArray.toList_eq]
  constructor
  · intro h
    cases x; cases y
    simpa using h
  · rintro rfl; rfl
theorem rd {x : List ByteArray} {i : Nat} (h : i < x.length) : rdOf ByteArray.empty x (i : Int) = x[i] := by
  unfold rdOf; simp [h]
theorem drop_at {x : List ByteArray} {i : Nat} (h : i < x.length) : x.drop i = x[i] :: x.drop (i + 1) := List.drop_eq_getElem_cons h

/-! ### equality -/
theorem equal_loop (x y : List ByteArray) (hx : x.length = y.length) (hl : x.length ≤ 9223372036854775807) :
    ∀ (n i : Nat), i + n = x.length → Ev (fun k => slices_Equal_string_string.l0 k x y (x.length : Int) (i : Int)) (decide (x.drop i = y.drop i)) := by
  intro n
  induction n with
  | zero =>
    intro i hi
    refine Ev.stepc fun k => ?_
    simp only [slices_Equal_string_string.l0]
    rw [if_neg (by omega), List.drop_eq_nil_of_le (by omega), List.drop_eq_nil_of_le (by omega)]
    simp
  | succ n ih =>
    intro i hi
    have h1 : i < x.length := by omega
    have h2 : i < y.length := by omega
    rw [drop_at h1, drop_at h2]
    by_cases he : x[i] = y[i]
    · have e : (decide (x[i] :: x.drop (i + 1) = y[i] :: y.drop (i + 1))) = decide (x.drop (i + 1) = y.drop (i + 1)) := by rw [decide_eq_decide, List.cons.injEq]; exact ⟨fun h => h.2, fun h => ⟨he, h⟩⟩
      rw [e]
      refine Ev.step (ih (i + 1) (by omega)) fun k => ?_
      simp only [slices_Equal_string_string.l0]
      rw [if_pos (by omega), if_pos (by omega), if_pos (by omega), if_pos (by omega), rd h1, rd h2, if_pos (tl.2 he), w64 (by omega) (by omega)]
      rfl
    · have e : (decide (x[i] :: x.drop (i + 1) = y[i] :: y.drop (i + 1))) = false := decide_eq_false fun h => he (List.cons.inj h).1
      rw [e]
      refine Ev.stepc fun k => ?_
      simp only [slices_Equal_string_string.l0]
      rw [if_pos (by omega), if_pos (by omega), if_pos (by omega), if_pos (by omega), rd h1, rd h2, if_neg (fun h => he (tl.1 h))]
theorem equal (x y : List ByteArray) (hl : x.length ≤ 9223372036854775807) : Ev (fun k => slices_Equal_string_string.f k x y) (decide (x = y)) := by
  by_cases h : x.length = y.length
  · exact (equal_loop x y h hl x.length 0 (by omega)).eq fun k => by unfold slices_Equal_string_string.f; rw [if_pos (by omega)]; rfl
  · have e : decide (x = y) = false := decide_eq_false fun e => h (by rw [e])
    rw [e]
    exact (Ev.const false).eq fun k => by unfold slices_Equal_string_string.f; rw [if_neg (by omega)]
theorem same_loop (x : List ByteArray) (hl : x.length ≤ 9223372036854775807) :
    ∀ (n i : Nat), i + n = x.length → Ev (fun k => quitclaimref05_Same.l0 k x x (i : Int)) true := by
  intro n
  induction n with
  | zero =>
    intro i hi
    refine Ev.stepc fun k => ?_
    simp only [quitclaimref05_Same.l0]
    rw [if_neg (by omega)]
  | succ n ih =>
    intro i hi
    refine Ev.step (ih (i + 1) (by omega)) fun k => ?_
    simp only [quitclaimref05_Same.l0]
    rw [if_pos (by omega), if_pos (by omega), if_pos (by omega), if_pos trivial, w64 (by omega) (by omega)]
    rfl
theorem same (x : List ByteArray) (hl : x.length ≤ 9223372036854775807) : Ev (fun k => quitclaimref05_Same.f k x x) true :=
  (same_loop x hl x.length 0 (by omega)).eq fun k => by unfold quitclaimref05_Same.f; rw [if_pos rfl]; rfl

/-! ### right lines -/
def bad (s : ByteArray) : Bool := decide (200 < s.size) || s.data.toList.contains 10
def good (x : List ByteArray) : Bool := decide (x.length ≤ 1000) && !(x.any bad)
theorem lines_1 (s : ByteArray) : hunk_Lines_1.f s = some (bad s) := by
  unfold hunk_Lines_1.f bad
  by_cases h : 200 < s.size
  · rw [if_pos (by omega)]; simp [h]
  · rw [if_neg (by omega), Lib.contains_iff_indexByte]
    have e : strings_Contains.f s (⟨#[10]⟩ : ByteArray) = some (decide (0 ≤ Lib.indexByte s.data.toList 10)) := rfl
    rw [e, Option.bind_some]
    simp [h]
theorem index_loop (x : List ByteArray) (hl : x.length ≤ 9223372036854775807) :
    ∀ (n i : Nat), i + n = x.length → ∃ r : Int, Ev (fun k => slices_IndexFunc_string_string.l0 k x (x.length : Int) (i : Int)) r ∧ decide (r ≥ 0) = (x.drop i).any bad := by
  intro n
  induction n with
  | zero =>
    intro i hi
    refine ⟨-1, Ev.stepc fun k => ?_, ?_⟩
    · simp only [slices_IndexFunc_string_string.l0]
      rw [if_neg (by omega)]
    · rw [List.drop_eq_nil_of_le (by omega)]; rfl
  | succ n ih =>
    intro i hi
    have h1 : i < x.length := by omega
    rw [drop_at h1, List.any_cons]
    cases hb : bad x[i] with
    | true =>
      refine ⟨(i : Int), Ev.stepc fun k => ?_, by simp⟩
      simp only [slices_IndexFunc_string_string.l0]
      rw [if_pos (by omega), if_pos (by omega), if_pos (by omega), rd h1, lines_1, hb, Option.bind_some, if_pos rfl]
    | false =>
      obtain ⟨r, hr, e⟩ := ih (i + 1) (by omega)
      refine ⟨r, Ev.step hr fun k => ?_, by rw [e]; rfl⟩
      simp only [slices_IndexFunc_string_string.l0]
      rw [if_pos (by omega), if_pos (by omega), if_pos (by omega), rd h1, lines_1, hb, Option.bind_some, if_neg (by decide), w64 (by omega) (by omega)]
      rfl
theorem lines (x : List ByteArray) (hl : x.length ≤ 9223372036854775807) : Ev (fun k => hunk_Lines.f k x) (good x) := by
  unfold hunk_Lines.f good
  by_cases h : x.length ≤ 1000
  · refine Ev.pos (by omega) ?_
    obtain ⟨r, hr, e⟩ := index_loop x hl x.length 0 (by omega)
    refine Ev.bind (a := x.any bad) ?_ ?_
    · unfold slices_ContainsFunc_string_string.f
      refine Ev.bind (a := r) ?_ ?_
      · exact hr
      · rw [List.drop_zero] at e
        rw [e]
        exact Ev.const _
    · simp only [h, decide_true, Bool.true_and]
      exact Ev.const _
  · refine Ev.neg (by omega) ?_
    simp only [h, decide_false, Bool.false_and]
    exact Ev.const _
theorem line_loop (s : ByteArray) (hl : s.size ≤ 9223372036854775807) :
    ∀ (n i : Nat), i + n = s.size → Ev (fun k => quitclaimref11_Line.l0 k s (i : Int)) (!((s.data.toList.drop i).contains 10) && decide (s.size ≤ 200)) := by
  have hs : s.data.toList.length = s.size := Array.length_toList
  intro n
  induction n with
  | zero =>
    intro i hi
    refine Ev.stepc fun k => ?_
    simp only [quitclaimref11_Line.l0]
    rw [if_neg (by omega), List.drop_eq_nil_of_le (by omega)]
    simp
    omega
  | succ n ih =>
    intro i hi
    have h1 : i < s.data.toList.length := by omega
    have hb : bt s (i : Int) = ((s.data.toList[i]).toNat : Int) := by
      rw [bt, dif_pos (by omega)]
      simp [ByteArray.getElem_eq_getElem_data]
    rw [List.drop_eq_getElem_cons h1, List.contains_cons]
    by_cases hc : s.data.toList[i] = 10
    · have e : ((10 : UInt8) == s.data.toList[i]) = true := by rw [hc]; rfl
      rw [e, Bool.true_or, Bool.not_true, Bool.false_and]
      refine Ev.stepc fun k => ?_
      simp only [quitclaimref11_Line.l0]
      rw [if_pos (by omega), if_pos (by omega), if_pos (by rw [hb, hc]; rfl)]
    · have e : ((10 : UInt8) == s.data.toList[i]) = false := by rw [beq_eq_false_iff_ne]; exact fun h => hc h.symm
      rw [e, Bool.false_or]
      refine Ev.step (ih (i + 1) (by omega)) fun k => ?_
      simp only [quitclaimref11_Line.l0]
      rw [if_pos (by omega), if_pos (by omega), if_neg (by
        rw [hb]; intro h
        apply hc
        apply UInt8.toNat.inj
        have : (s.data.toList[i]).toNat = 10 := by omega
        exact this), w64 (by omega) (by omega)]
      rfl
theorem line (s : ByteArray) (hl : s.size ≤ 9223372036854775807) : Ev (fun k => quitclaimref11_Line.f k s) (!(bad s)) := by
  have h := line_loop s hl s.size 0 (by omega)
  have e : (!((s.data.toList.drop 0).contains 10) && decide (s.size ≤ 200)) = !(bad s) := by
    unfold bad
    rw [List.drop_zero, Bool.not_or, Bool.and_comm]
    congr 1
    by_cases h : s.size ≤ 200 <;> simp [h] <;> omega
  rw [e] at h
  exact h
theorem rlines_loop (x : List ByteArray) (hl : x.length ≤ 9223372036854775807) (hs : ∀ s ∈ x, s.size ≤ 9223372036854775807) :
    ∀ (n i : Nat), i + n = x.length → Ev (fun k => quitclaimref11_Lines.l0 k x (i : Int)) (!((x.drop i).any bad) && decide (x.length ≤ 1000)) := by
  intro n
  induction n with
  | zero =>
    intro i hi
    refine Ev.stepc fun k => ?_
    simp only [quitclaimref11_Lines.l0]
    rw [if_neg (by omega), List.drop_eq_nil_of_le (by omega)]
    simp
    omega
  | succ n ih =>
    intro i hi
    have h1 : i < x.length := by omega
    have hc := line x[i] (hs _ (List.getElem_mem h1))
    rw [drop_at h1, List.any_cons]
    refine Ev.step (f := fun k => (quitclaimref11_Line.f k x[i]).bind fun t => if t = true then quitclaimref11_Lines.l0 k x (((i + 1 : Nat)) : Int) else some false) (Ev.bind hc ?_) fun k => ?_
    · cases hb : bad x[i] with
      | true => exact Ev.neg (by decide) (Ev.const _)
      | false => exact Ev.pos rfl (ih (i + 1) (by omega))
    · simp only [quitclaimref11_Lines.l0]
      rw [if_pos (by omega), if_pos (by omega), rd h1, w64 (by omega) (by omega)]
      rfl
theorem rlines (x : List ByteArray) (hl : x.length ≤ 9223372036854775807) (hs : ∀ s ∈ x, s.size ≤ 9223372036854775807) : Ev (fun k => quitclaimref11_Lines.f k x) (good x) := by
  have h := rlines_loop x hl hs x.length 0 (by omega)
  rw [List.drop_zero, Bool.and_comm] at h
  exact h
def right (a : Int) (o n : List ByteArray) : Bool := decide (0 ≤ a) && (decide (a ≤ 1000) && (good o && (good n && decide (0 < o.length + n.length))))
theorem right_ (a : Int) (o n : List ByteArray) (ho : o.length ≤ 9223372036854775807) (hn : n.length ≤ 9223372036854775807) : Ev (fun k => hunk_Right.f k a o n) (right a o n) := by
  unfold hunk_Right.f right
  by_cases h0 : 0 ≤ a
  · refine Ev.pos h0 ?_
    by_cases h1 : a ≤ 1000
    · refine Ev.pos h1 ?_
      rw [decide_eq_true h0, decide_eq_true h1, Bool.true_and, Bool.true_and]
      refine Ev.bind (lines o ho) ?_
      cases g0 : good o with
      | false => exact Ev.neg (by decide) (Ev.const _)
      | true =>
        refine Ev.pos rfl (Ev.bind (lines n hn) ?_)
        cases g1 : good n with
        | false => exact Ev.neg (by decide) (Ev.const _)
        | true =>
          refine Ev.pos rfl ?_
          have l0 : o.length ≤ 1000 := by unfold good at g0; simp at g0; exact g0.1
          have l1 : n.length ≤ 1000 := by unfold good at g1; simp at g1; exact g1.1
          rw [w64 (by omega) (by omega), Bool.true_and, Bool.true_and]
          have e : decide (((o.length : Int) + (n.length : Int)) > 0) = decide (0 < o.length + n.length) := by rw [decide_eq_decide]; omega
          rw [e]
          exact Ev.const _
    · refine Ev.neg h1 ?_
      rw [decide_eq_false h1, Bool.false_and, Bool.and_false]
      exact Ev.const _
  · refine Ev.neg h0 ?_
    rw [decide_eq_false h0, Bool.false_and]
    exact Ev.const _
theorem rright (a : Int) (o n : List ByteArray) (ho : o.length ≤ 9223372036854775807) (hn : n.length ≤ 9223372036854775807) (so : ∀ s ∈ o, s.size ≤ 9223372036854775807) (sn : ∀ s ∈ n, s.size ≤ 9223372036854775807) :
    Ev (fun k => quitclaimref11_Right.f k a o n) (right a o n) := by
  unfold quitclaimref11_Right.f right
  by_cases h0 : 0 ≤ a
  · refine Ev.pos h0 ?_
    by_cases h1 : a ≤ 1000
    · refine Ev.pos h1 ?_
      rw [decide_eq_true h0, decide_eq_true h1, Bool.true_and, Bool.true_and]
      refine Ev.bind (rlines o ho so) ?_
      cases g0 : good o with
      | false => exact Ev.neg (by decide) (Ev.const _)
      | true =>
        refine Ev.pos rfl (Ev.bind (rlines n hn sn) ?_)
        cases g1 : good n with
        | false => exact Ev.neg (by decide) (Ev.const _)
        | true =>
          refine Ev.pos rfl ?_
          rw [Bool.true_and, Bool.true_and]
          by_cases p : 0 < o.length
          · refine Ev.pos (by omega) ?_
            rw [decide_eq_true (by omega)]
            exact Ev.const _
          · refine Ev.neg (by omega) ?_
            have e : decide (0 < o.length + n.length) = decide ((n.length : Int) > 0) := by rw [decide_eq_decide]; omega
            rw [e]
            exact Ev.const _
    · refine Ev.neg h1 ?_
      rw [decide_eq_false h1, Bool.false_and, Bool.and_false]
      exact Ev.const _
  · refine Ev.neg h0 ?_
    rw [decide_eq_false h0, Bool.false_and]
    exact Ev.const _

/-! ### where lines stand -/
theorem stands_yes (l o : List ByteArray) (a : Nat) (ha : a ≤ l.length) (hl : l.length ≤ 1000) (h : o <+: l.drop a) : Ev (fun k => hunk_stands.f k l (a : Int) o) true := by
  have ho : o.length ≤ l.length - a := by have := h.length_le; rwa [List.length_drop] at this
  have e : (l.take (a + o.length)).drop a = o := by rw [List.drop_take, Nat.add_sub_cancel_left]; exact (List.prefix_iff_eq_take.1 h).symm
  unfold hunk_stands.f
  refine Ev.pos (by omega) (Ev.pos (by rw [w64 (by omega) (by omega)]; omega) (Ev.pos (by omega) (Ev.pos (by rw [w64 (by omega) (by omega)]; omega) (Ev.pos (by rw [w64 (by omega) (by omega)]; omega) ?_))))
  rw [w64 (by omega) (by omega), show ((a : Int) + (o.length : Int)).toNat = a + o.length from by omega, show ((a : Int)).toNat = a from by omega, e]
  have q := equal o o (by omega)
  rw [decide_eq_true rfl] at q
  exact Ev.bind q (Ev.const true)
theorem stands_no (l o : List ByteArray) (a : Nat) (hl : l.length ≤ 1000) (ho : o.length ≤ 1000) (h : ¬ (a ≤ l.length ∧ o <+: l.drop a)) : Ev (fun k => hunk_stands.f k l (a : Int) o) false := by
  unfold hunk_stands.f
  by_cases h1 : a ≤ l.length
  · refine Ev.pos (by omega) ?_
    by_cases h2 : o.length ≤ l.length - a
    · refine Ev.pos (by rw [w64 (by omega) (by omega)]; omega) (Ev.pos (by omega) (Ev.pos (by rw [w64 (by omega) (by omega)]; omega) (Ev.pos (by rw [w64 (by omega) (by omega)]; omega) ?_)))
      rw [w64 (by omega) (by omega), show ((a : Int) + (o.length : Int)).toNat = a + o.length from by omega, show ((a : Int)).toNat = a from by omega, List.drop_take, Nat.add_sub_cancel_left]
      have q := equal ((l.drop a).take o.length) o (by rw [List.length_take]; omega)
      rw [decide_eq_false (fun e => h ⟨h1, List.prefix_iff_eq_take.2 e.symm⟩)] at q
      exact Ev.bind q (Ev.const false)
    · exact Ev.neg (by rw [w64 (by omega) (by omega)]; omega) (Ev.const false)
  · exact Ev.neg (by omega) (Ev.const false)

/-! ### lines with a hunk -/
open Classical in
/-- What a hunk makes of lines. -/
noncomputable def ap (l : List ByteArray) (a : Int) (o n : List ByteArray) : List ByteArray × Int :=
  if good l = true ∧ right a o n = true then
    if a > l.length then ([], 5) else if o <+: l.drop a.toNat then
      if l.length - o.length + n.length > 1000 then ([], 4) else (l.take a.toNat ++ n ++ l.drop (a.toNat + o.length), 0)
    else ([], 12)
  else ([], 3)
theorem good_len {l : List ByteArray} (h : good l = true) : l.length ≤ 1000 := by unfold good at h; simp at h; exact h.1
theorem right_parts {a : Int} {o n : List ByteArray} (h : right a o n = true) : 0 ≤ a ∧ a ≤ 1000 ∧ good o = true ∧ good n = true ∧ 0 < o.length + n.length := by
  unfold right at h; simp only [Bool.and_eq_true, decide_eq_true_eq] at h; exact ⟨h.1, h.2.1, h.2.2.1, h.2.2.2.1, h.2.2.2.2⟩
theorem concat3 (x y z : List ByteArray) (h : (x ++ y ++ z).length ≤ 100000) : slices_Concat_string_string.f [x, y, z] = some (x ++ y ++ z) := by
  unfold slices_Concat_string_string.f
  have e : ([x, y, z] : List (List ByteArray)).flatten = x ++ y ++ z := by simp
  rw [e, if_pos (by omega)]
theorem apply (l : List ByteArray) (a : Int) (o n : List ByteArray) (hl : l.length ≤ 9223372036854775807) (ho : o.length ≤ 9223372036854775807) (hn : n.length ≤ 9223372036854775807) : Ev (fun k => hunk_Apply.f k l a o n) (ap l a o n) := by
  unfold hunk_Apply.f
  have bad3 : (¬ (good l = true ∧ right a o n = true)) → Ev (fun k => hunk_Apply.j0 k l true a o n) (ap l a o n) := fun h => by
    unfold ap
    rw [if_neg h]
    exact Ev.stepc fun k => by simp only [hunk_Apply.j0]; rw [if_pos trivial]
  refine Ev.bind (lines l hl) ?_
  by_cases g0 : good l = true
  · refine Ev.pos g0 (Ev.bind (right_ a o n ho hn) ?_)
    cases g1 : right a o n with
    | false => exact bad3 (by rw [g1]; rintro ⟨_, h⟩; cases h)
    | true =>
      have ll := good_len g0
      obtain ⟨a0, a1, go, gn, _⟩ := right_parts g1
      have lo := good_len go
      have ln := good_len gn
      obtain ⟨m, rfl⟩ := Int.eq_ofNat_of_zero_le a0
      unfold ap
      rw [if_pos ⟨g0, g1⟩]
      simp only [Int.toNat_natCast]
      by_cases h5 : (m : Int) > l.length
      · rw [if_pos h5]
        exact Ev.stepc fun k => by simp only [hunk_Apply.j0]; rw [if_neg (by decide), if_pos h5]
      · rw [if_neg h5]
        by_cases hp : o <+: l.drop m
        · rw [if_pos hp]
          have hle : o.length ≤ l.length - m := by have := hp.length_le; rwa [List.length_drop] at this
          by_cases h4 : l.length - o.length + n.length > 1000
          · rw [if_pos h4]
            refine Ev.step (f := fun k => (hunk_stands.f k l (m : Int) o).bind fun t => if t = true then some (([] : List ByteArray), 4) else some ([], 12)) (Ev.bind (stands_yes l o m (by omega) ll hp) (Ev.pos rfl (Ev.const _))) fun k => ?_
            simp only [hunk_Apply.j0]
            rw [if_neg (by decide), if_neg h5]
            congr 1
            funext t
            cases t
            · rw [if_neg (by decide), if_neg (by decide)]
            · rw [if_pos rfl, if_pos rfl, if_pos (by rw [w64 (x := (l.length : Int) - _) (by omega) (by omega), w64 (by omega) (by omega)]; omega)]
          · rw [if_neg h4]
            refine Ev.step (f := fun k => (hunk_stands.f k l (m : Int) o).bind fun t => if t = true then some (l.take m ++ n ++ l.drop (m + o.length), 0) else some ([], 12)) (Ev.bind (stands_yes l o m (by omega) ll hp) (Ev.pos rfl (Ev.const _))) fun k => ?_
            simp only [hunk_Apply.j0]
            rw [if_neg (by decide), if_neg h5]
            congr 1
            funext t
            cases t
            · rw [if_neg (by decide), if_neg (by decide)]
            · rw [if_pos rfl, if_pos rfl, if_neg (by rw [w64 (x := (l.length : Int) - _) (by omega) (by omega), w64 (by omega) (by omega)]; omega), if_pos (by omega), if_pos (by omega), w64 (by omega) (by omega), if_pos (by omega), if_pos (by omega),
                show ((m : Int) + (o.length : Int)).toNat = m + o.length from by omega, show ((m : Int)).toNat = m from by omega, concat3 _ _ _ (by simp only [List.length_append, List.length_take, List.length_drop]; omega), Option.bind_some]
        · rw [if_neg hp]
          refine Ev.step (f := fun k => (hunk_stands.f k l (m : Int) o).bind fun t => if t = true then none else some (([] : List ByteArray), 12)) (Ev.bind (stands_no l o m ll lo (fun h => hp h.2)) (Ev.neg (by decide) (Ev.const _))) fun k => ?_
          simp only [hunk_Apply.j0]
          rw [if_neg (by decide), if_neg h5]
          obtain e | ⟨t, e⟩ : hunk_stands.f k l (m : Int) o = none ∨ ∃ t, hunk_stands.f k l (m : Int) o = some t := by cases hunk_stands.f k l (m : Int) o <;> simp
          · rw [e]; rfl
          · obtain ⟨K, hK⟩ := stands_no l o m ll lo (fun h => hp h.2)
            have up : ∀ j, hunk_stands.f (k + j) l (m : Int) o = some t := fun j => by
              induction j with
              | zero => exact e
              | succ j ih => exact hunk_stands.mono _ _ _ _ _ ih
            have := up K
            rw [show hunk_stands.f (k + K) l (m : Int) o = some false from hK (k + K) (by omega)] at this
            obtain rfl := Option.some.inj this
            rw [e]; rfl
  · refine Ev.neg g0 (bad3 (fun h => g0 h.1))

/-! ### the reference's -/
theorem l3_ (l : List ByteArray) (hl : l.length ≤ 1000) : ∀ (c i : Nat) (x : List ByteArray), i + c = l.length → x.length + c ≤ 100000 →
    Ev (fun k => quitclaimref11_Apply.l3 k l x (i : Int)) (if (x ++ l.drop i).length > 1000 then ([], 4) else (x ++ l.drop i, 0)) := by
  intro c
  induction c with
  | zero =>
    intro i x hi hx
    rw [List.drop_eq_nil_of_le (by omega), List.append_nil]
    by_cases h : x.length > 1000
    · rw [if_pos h]
      exact Ev.stepc fun k => by simp only [quitclaimref11_Apply.l3]; rw [if_neg (by omega), if_pos (by omega)]
    · rw [if_neg h]
      exact Ev.stepc fun k => by simp only [quitclaimref11_Apply.l3]; rw [if_neg (by omega), if_neg (by omega)]
  | succ c ih =>
    intro i x hi hx
    have h1 : i < l.length := by omega
    have q := ih (i + 1) (x ++ [l[i]]) (by omega) (by simp; omega)
    rw [List.append_assoc, List.singleton_append, ← drop_at h1] at q
    refine Ev.step q fun k => ?_
    simp only [quitclaimref11_Apply.l3]
    rw [if_pos (by omega), if_pos (by omega), if_pos (by omega), rd h1, w64 (by omega) (by omega)]
    rfl
theorem l2_yes (l o n x : List ByteArray) (a : Nat) (r : List ByteArray × Int) (hl : l.length ≤ 1000) (ho : o.length ≤ 1000) (ha : a ≤ 1000)
    (h3 : Ev (fun k => quitclaimref11_Apply.l3 k l x ((a + o.length : Nat) : Int)) r) : ∀ (c i : Nat), i + c = o.length → o.drop i <+: l.drop (a + i) → Ev (fun k => quitclaimref11_Apply.l2 k l x (i : Int) (a : Int) o n) r := by
  intro c
  induction c with
  | zero =>
    intro i hi _
    refine Ev.step h3 fun k => ?_
    simp only [quitclaimref11_Apply.l2]
    rw [if_neg (by omega), w64 (by omega) (by omega)]
    rfl
  | succ c ih =>
    intro i hi hp
    have h1 : i < o.length := by omega
    have hle := hp.length_le
    rw [List.length_drop, List.length_drop] at hle
    have h2 : a + i < l.length := by omega
    rw [drop_at h1, drop_at h2, List.cons_prefix_cons] at hp
    refine Ev.step (ih (i + 1) (by omega) (by rw [← Nat.add_assoc]; exact hp.2)) fun k => ?_
    simp only [quitclaimref11_Apply.l2]
    have e : wrap64 ((a : Int) + (i : Int)) = ((a + i : Nat) : Int) := by rw [w64 (by omega) (by omega)]; rfl
    rw [if_pos (by omega), e, if_neg (by omega), if_pos (by omega), if_pos (by omega), if_pos (by omega), rd h2, rd h1, if_pos (tl.2 hp.1.symm), w64 (by omega) (by omega)]
    rfl
theorem l2_no (l o n x : List ByteArray) (a : Nat) (_ : l.length ≤ 1000) (ho : o.length ≤ 1000) (ha : a ≤ 1000) :
    ∀ (c i : Nat), i + c = o.length → ¬ (o.drop i <+: l.drop (a + i)) → Ev (fun k => quitclaimref11_Apply.l2 k l x (i : Int) (a : Int) o n) ([], 12) := by
  intro c
  induction c with
  | zero =>
    intro i hi hp
    have e0 : o.drop i = [] := List.drop_eq_nil_of_le (by omega)
    exact absurd (by rw [e0]; exact List.nil_prefix) hp
  | succ c ih =>
    intro i hi hp
    have h1 : i < o.length := by omega
    have e : wrap64 ((a : Int) + (i : Int)) = ((a + i : Nat) : Int) := by rw [w64 (by omega) (by omega)]; rfl
    by_cases h2 : a + i < l.length
    · rw [drop_at h1, drop_at h2, List.cons_prefix_cons] at hp
      by_cases he : o[i] = l[a + i]
      · refine Ev.step (ih (i + 1) (by omega) (fun h => hp ⟨he, by rw [Nat.add_assoc]; exact h⟩)) fun k => ?_
        simp only [quitclaimref11_Apply.l2]
        rw [if_pos (by omega), e, if_neg (by omega), if_pos (by omega), if_pos (by omega), if_pos (by omega), rd h2, rd h1, if_pos (tl.2 he.symm), w64 (by omega) (by omega)]
        rfl
      · refine Ev.stepc fun k => ?_
        simp only [quitclaimref11_Apply.l2]
        rw [if_pos (by omega), e, if_neg (by omega), if_pos (by omega), if_pos (by omega), if_pos (by omega), rd h2, rd h1, if_neg (fun h => he (tl.1 h).symm)]
    · refine Ev.stepc fun k => ?_
      simp only [quitclaimref11_Apply.l2]
      rw [if_pos (by omega), e, if_pos (by omega)]
theorem l1_ (l o n : List ByteArray) (a : Int) (r : List ByteArray × Int) (hn : n.length ≤ 1000) : ∀ (c i : Nat) (x : List ByteArray), i + c = n.length → x.length + c ≤ 100000 →
    Ev (fun k => quitclaimref11_Apply.l2 k l (x ++ n.drop i) 0 a o n) r → Ev (fun k => quitclaimref11_Apply.l1 k l x (i : Int) a o n) r := by
  intro c
  induction c with
  | zero =>
    intro i x hi hx h
    rw [List.drop_eq_nil_of_le (by omega), List.append_nil] at h
    exact Ev.step h fun k => by simp only [quitclaimref11_Apply.l1]; rw [if_neg (by omega)]
  | succ c ih =>
    intro i x hi hx h
    have h1 : i < n.length := by omega
    refine Ev.step (ih (i + 1) (x ++ [n[i]]) (by omega) (by simp; omega) (by rw [List.append_assoc, List.singleton_append, ← drop_at h1]; exact h)) fun k => ?_
    simp only [quitclaimref11_Apply.l1]
    rw [if_pos (by omega), if_pos (by omega), if_pos (by omega), rd h1, w64 (by omega) (by omega)]
    rfl
theorem l0_ (l o n : List ByteArray) (a : Nat) (r : List ByteArray × Int) (hl : l.length ≤ 1000) (ha : a ≤ l.length) : ∀ (c i : Nat) (x : List ByteArray), i + c = a → x.length + c ≤ 100000 →
    Ev (fun k => quitclaimref11_Apply.l1 k l (x ++ (l.drop i).take c) 0 (a : Int) o n) r → Ev (fun k => quitclaimref11_Apply.l0 k l x (i : Int) (a : Int) o n) r := by
  intro c
  induction c with
  | zero =>
    intro i x hi hx h
    rw [List.take_zero, List.append_nil] at h
    exact Ev.step h fun k => by simp only [quitclaimref11_Apply.l0]; rw [if_neg (by omega)]
  | succ c ih =>
    intro i x hi hx h
    have h1 : i < l.length := by omega
    refine Ev.step (ih (i + 1) (x ++ [l[i]]) (by omega) (by simp; omega) (by rw [drop_at h1, List.take_succ_cons] at h; rw [List.append_assoc, List.singleton_append]; exact h)) fun k => ?_
    simp only [quitclaimref11_Apply.l0]
    rw [if_pos (by omega), if_pos (by omega), if_pos (by omega), if_pos (by omega), rd h1, w64 (by omega) (by omega)]
    rfl
theorem rapply (l : List ByteArray) (a : Int) (o n : List ByteArray) (hl : l.length ≤ 9223372036854775807) (ho : o.length ≤ 9223372036854775807) (hn : n.length ≤ 9223372036854775807)
    (sl : ∀ s ∈ l, s.size ≤ 9223372036854775807) (so : ∀ s ∈ o, s.size ≤ 9223372036854775807) (sn : ∀ s ∈ n, s.size ≤ 9223372036854775807) : Ev (fun k => quitclaimref11_Apply.f k l a o n) (ap l a o n) := by
  unfold quitclaimref11_Apply.f
  have bad3 : (¬ (good l = true ∧ right a o n = true)) → Ev (fun k => quitclaimref11_Apply.j0 k l true a o n) (ap l a o n) := fun h => by
    unfold ap
    rw [if_neg h]
    exact Ev.stepc fun k => by simp only [quitclaimref11_Apply.j0]; rw [if_pos trivial]
  refine Ev.bind (rlines l hl sl) ?_
  by_cases g0 : good l = true
  · refine Ev.pos g0 (Ev.bind (rright a o n ho hn so sn) ?_)
    cases g1 : right a o n with
    | false => exact bad3 (by rw [g1]; rintro ⟨_, h⟩; cases h)
    | true =>
      have ll := good_len g0
      obtain ⟨a0, a1, go, gn, _⟩ := right_parts g1
      have lo := good_len go
      have ln := good_len gn
      obtain ⟨m, rfl⟩ := Int.eq_ofNat_of_zero_le a0
      unfold ap
      rw [if_pos ⟨g0, g1⟩]
      simp only [Int.toNat_natCast]
      by_cases h5 : (m : Int) > l.length
      · rw [if_pos h5]
        exact Ev.stepc fun k => by simp only [quitclaimref11_Apply.j0]; rw [if_neg (by decide), if_pos h5]
      · rw [if_neg h5]
        have go_ : ∀ r, Ev (fun k => quitclaimref11_Apply.l2 k l (l.take m ++ n) 0 (m : Int) o n) r → Ev (fun k => quitclaimref11_Apply.j0 k l (!true) (m : Int) o n) r := fun r h => by
          refine Ev.step (l0_ l o n m r ll (by omega) m 0 [] (by omega) (by simp; omega) (l1_ l o n m r ln n.length 0 _ (by omega) (by simp; omega) (by rw [List.drop_zero, List.drop_zero, List.nil_append]; exact h))) fun k => ?_
          simp only [quitclaimref11_Apply.j0]
          rw [if_neg (by decide), if_neg h5]
          rfl
        refine go_ _ ?_
        by_cases hp : o <+: l.drop m
        · rw [if_pos hp]
          have hle : o.length ≤ l.length - m := by have := hp.length_le; rwa [List.length_drop] at this
          refine l2_yes l o n _ m _ ll lo (by omega) ?_ o.length 0 (by omega) (by simpa using hp)
          have q := l3_ l ll (l.length - (m + o.length)) (m + o.length) (l.take m ++ n) (by omega) (by simp only [List.length_append, List.length_take]; omega)
          have e : ((l.take m ++ n) ++ l.drop (m + o.length)).length = l.length - o.length + n.length := by simp only [List.length_append, List.length_take, List.length_drop]; omega
          rw [e] at q
          exact q
        · rw [if_neg hp]
          exact l2_no l o n _ m ll lo (by omega) o.length 0 (by omega) (by simpa using hp)
  · refine Ev.neg g0 (bad3 (fun h => g0 h.1))

/-! ### is it too long to be asked about -/
def short (x : List ByteArray) : Prop := x.length ≤ 60 ∧ ∀ s ∈ x, s.size ≤ 300
theorem long_in (xs : List (List ByteArray)) (i : Int) (x : List ByteArray) (hx : x.length ≤ 60) : ∀ (c j : Nat), j + c = x.length →
    ((∃ s ∈ x.drop j, 300 < s.size) → Ev (fun k => quitclaimlaw11_long.l1 k xs (xs.length : Int) i x (x.length : Int) (j : Int)) true) ∧
    (∀ r, (∀ s ∈ x.drop j, s.size ≤ 300) → Ev (fun k => quitclaimlaw11_long.l0 k xs (xs.length : Int) (wrap64 (i + 1))) r → Ev (fun k => quitclaimlaw11_long.l1 k xs (xs.length : Int) i x (x.length : Int) (j : Int)) r) := by
  intro c
  induction c with
  | zero =>
    intro j hj
    have e0 : x.drop j = [] := List.drop_eq_nil_of_le (by omega)
    rw [e0]
    refine ⟨fun h => (by obtain ⟨s, hs, _⟩ := h; cases hs), fun r _ h => Ev.step h fun k => ?_⟩
    simp only [quitclaimlaw11_long.l1]
    rw [if_neg (by omega)]
  | succ c ih =>
    intro j hj
    have h1 : j < x.length := by omega
    obtain ⟨q1, q2⟩ := ih (j + 1) (by omega)
    rw [drop_at h1]
    by_cases hs : 300 < x[j].size
    · refine ⟨fun _ => Ev.stepc fun k => ?_, fun r h _ => absurd (h _ (List.mem_cons_self ..)) (by omega)⟩
      simp only [quitclaimlaw11_long.l1]
      rw [if_pos (by omega), if_pos (by omega), if_pos (by omega), rd h1, if_pos (by omega)]
    · have st : ∀ k, quitclaimlaw11_long.l1 (k + 1) xs (xs.length : Int) i x (x.length : Int) (j : Int) = quitclaimlaw11_long.l1 k xs (xs.length : Int) i x (x.length : Int) ((j + 1 : Nat) : Int) := fun k => by
        simp only [quitclaimlaw11_long.l1]
        rw [if_pos (by omega), if_pos (by omega), if_pos (by omega), rd h1, if_neg (by omega), w64 (by omega) (by omega)]
        rfl
      refine ⟨fun h => Ev.step (q1 ?_) st, fun r h hr => Ev.step (q2 r (fun s m => h s (List.mem_cons_of_mem _ m)) hr) st⟩
      obtain ⟨s, m, hs'⟩ := h
      rcases List.mem_cons.1 m with rfl | m
      · exact absurd hs' hs
      · exact ⟨s, m, hs'⟩
theorem long_out (xs : List (List ByteArray)) (hl : xs.length ≤ 100) : ∀ (c i : Nat), i + c = xs.length →
    ∃ b, Ev (fun k => quitclaimlaw11_long.l0 k xs (xs.length : Int) (i : Int)) b ∧ (b = false → ∀ x ∈ xs.drop i, short x) := by
  intro c
  induction c with
  | zero =>
    intro i hi
    have e0 : xs.drop i = [] := List.drop_eq_nil_of_le (by omega)
    refine ⟨false, Ev.stepc fun k => ?_, fun _ x hx => by rw [e0] at hx; cases hx⟩
    simp only [quitclaimlaw11_long.l0]
    rw [if_neg (by omega)]
  | succ c ih =>
    intro i hi
    have h1 : i < xs.length := by omega
    have e1 : rd_L1 xs (i : Int) = xs[i] := by unfold rd_L1; simp [h1]
    obtain ⟨b, hb, hs⟩ := ih (i + 1) (by omega)
    have ed : xs.drop i = xs[i] :: xs.drop (i + 1) := List.drop_eq_getElem_cons h1
    rw [ed]
    by_cases h60 : xs[i].length ≤ 60
    · obtain ⟨q1, q2⟩ := long_in xs (i : Int) xs[i] h60 xs[i].length 0 (by omega)
      have st : ∀ k, quitclaimlaw11_long.l0 (k + 1) xs (xs.length : Int) (i : Int) = quitclaimlaw11_long.l1 k xs (xs.length : Int) (i : Int) xs[i] (xs[i].length : Int) ((0 : Nat) : Int) := fun k => by
        simp only [quitclaimlaw11_long.l0]
        rw [if_pos (by omega), if_pos (by omega), if_pos (by omega), e1, if_neg (by omega)]
        rfl
      by_cases ha : ∃ s ∈ xs[i].drop 0, 300 < s.size
      · exact ⟨true, Ev.step (q1 ha) st, fun h => by cases h⟩
      · have hall : ∀ s ∈ xs[i].drop 0, s.size ≤ 300 := fun s m => Nat.not_lt.1 fun h => ha ⟨s, m, h⟩
        refine ⟨b, Ev.step (q2 b hall (by rw [w64 (by omega) (by omega)]; exact hb)) st, fun h x hx => ?_⟩
        rcases List.mem_cons.1 hx with rfl | m
        · exact ⟨h60, by rw [List.drop_zero] at hall; exact hall⟩
        · exact hs h x m
    · refine ⟨true, Ev.stepc fun k => ?_, fun h => by cases h⟩
      simp only [quitclaimlaw11_long.l0]
      rw [if_pos (by omega), if_pos (by omega), if_pos (by omega), e1, if_pos (by omega)]
theorem long (xs : List (List ByteArray)) (hl : xs.length ≤ 100) : ∃ b, Ev (fun k => quitclaimlaw11_long.f k xs) b ∧ (b = false → ∀ x ∈ xs, short x) := by
  obtain ⟨b, h, q⟩ := long_out xs hl xs.length 0 (by omega)
  exact ⟨b, h, by rw [List.drop_zero] at q; exact q⟩

/-! ### the example -/
theorem ap_awake : ap [(⟨#[97]⟩ : ByteArray), ⟨#[98]⟩] 1 [(⟨#[98]⟩ : ByteArray)] [(⟨#[99]⟩ : ByteArray), ⟨#[100]⟩] = ([(⟨#[97]⟩ : ByteArray), ⟨#[99]⟩, ⟨#[100]⟩], 0) := by
  unfold ap
  rw [if_pos ⟨rfl, rfl⟩, if_neg (by decide), if_pos (⟨[], rfl⟩), if_neg (by decide)]
  rfl
theorem awake : Ev (fun k => quitclaimlaw11_awake.f k) true := by
  unfold quitclaimlaw11_awake.f
  have q := apply [(⟨#[97]⟩ : ByteArray), ⟨#[98]⟩] 1 [(⟨#[98]⟩ : ByteArray)] [(⟨#[99]⟩ : ByteArray), ⟨#[100]⟩] (by decide) (by decide) (by decide)
  rw [ap_awake] at q
  refine Ev.bind q ?_
  refine Ev.pos rfl (Ev.pos rfl (Ev.pos (by decide) (Ev.pos (by rw [ByteArray.toList_eq]; rfl) (Ev.pos (by decide) (Ev.pos (by rw [ByteArray.toList_eq]; rfl) (Ev.pos (by decide) ?_))))))
  rw [ByteArray.toList_eq]
  exact Ev.const true

/-! ### does it fit, and back -/
def fv (x : Int) : Bool := if x = 0 then true else x == 4
theorem fits (l : List ByteArray) (a : Int) (o n : List ByteArray) (hl : l.length ≤ 9223372036854775807) (ho : o.length ≤ 9223372036854775807) (hn : n.length ≤ 9223372036854775807) :
    Ev (fun k => hunk_Fits.f k l a o n) (fv (ap l a o n).2) := by
  unfold hunk_Fits.f
  refine Ev.bind (lines l hl) ?_
  by_cases g0 : good l = true
  · refine Ev.pos g0 (Ev.bind (right_ a o n ho hn) ?_)
    by_cases g1 : right a o n = true
    · refine Ev.pos g1 ?_
      have ll := good_len g0
      obtain ⟨a0, a1, go, gn, _⟩ := right_parts g1
      have lo := good_len go
      have ln := good_len gn
      obtain ⟨m, rfl⟩ := Int.eq_ofNat_of_zero_le a0
      unfold ap
      rw [if_pos ⟨g0, g1⟩]
      simp only [Int.toNat_natCast]
      by_cases h5 : (m : Int) > l.length
      · rw [if_pos h5]
        exact Ev.bind (stands_no l o m ll lo (fun h => by omega)) (Ev.const _)
      · rw [if_neg h5]
        by_cases hp : o <+: l.drop m
        · rw [if_pos hp]
          have q := stands_yes l o m (by omega) ll hp
          by_cases h4 : l.length - o.length + n.length > 1000
          · rw [if_pos h4]; exact Ev.bind q (Ev.const _)
          · rw [if_neg h4]; exact Ev.bind q (Ev.const _)
        · rw [if_neg hp]
          exact Ev.bind (stands_no l o m ll lo (fun h => hp h.2)) (Ev.const _)
    · refine Ev.neg g1 ?_
      unfold ap
      rw [if_neg (fun h => g1 h.2)]
      exact Ev.const _
  · refine Ev.neg g0 ?_
    unfold ap
    rw [if_neg (fun h => g0 h.1)]
    exact Ev.const _
theorem ap_ok {l o n : List ByteArray} {a : Int} (h : (ap l a o n).2 = 0) : good l = true ∧ right a o n = true ∧ a ≤ l.length ∧ o <+: l.drop a.toNat ∧ l.length - o.length + n.length ≤ 1000 ∧ (ap l a o n).1 = l.take a.toNat ++ n ++ l.drop (a.toNat + o.length) := by
  unfold ap at h ⊢
  split at h
  next g =>
    split at h
    next => simp at h
    next h5 =>
      split at h
      next hp =>
        split at h
        next => simp at h
        next h4 =>
          rw [if_pos g, if_neg h5, if_pos hp, if_neg h4]
          exact ⟨g.1, g.2, by omega, hp, by omega, rfl⟩
      next => simp at h
  next => simp at h
theorem any_mem {x y : List ByteArray} (h : x.any bad = false) (hs : ∀ s ∈ y, s ∈ x) : y.any bad = false := by
  rw [List.any_eq_false] at h ⊢
  exact fun s m => h s (hs s m)
theorem back {l o n : List ByteArray} {a : Int} (h : (ap l a o n).2 = 0) : ap (ap l a o n).1 a n o = (l, 0) := by
  obtain ⟨g0, g1, ha, hp, h4, e⟩ := ap_ok h
  obtain ⟨a0, a1, go, gn, gp⟩ := right_parts g1
  obtain ⟨m, rfl⟩ := Int.eq_ofNat_of_zero_le a0
  simp only [Int.toNat_natCast] at hp e
  have ll := good_len g0
  have hle : o.length ≤ l.length - m := by have := hp.length_le; rwa [List.length_drop] at this
  have lt : (l.take m).length = m := by rw [List.length_take]; omega
  have lx : (l.take m ++ n ++ l.drop (m + o.length)).length = l.length - o.length + n.length := by simp only [List.length_append, List.length_take, List.length_drop]; omega
  rw [e]
  have gx : good (l.take m ++ n ++ l.drop (m + o.length)) = true := by
    unfold good at g0 gn ⊢
    simp only [Bool.and_eq_true, decide_eq_true_eq, Bool.not_eq_true'] at g0 gn ⊢
    refine ⟨by omega, ?_⟩
    rw [List.any_append, List.any_append, gn.2, any_mem g0.2 (fun s => List.mem_of_mem_take), any_mem g0.2 (fun s => List.mem_of_mem_drop)]
    rfl
  have gr : right (m : Int) n o = true := by
    unfold right
    simp only [Bool.and_eq_true, decide_eq_true_eq]
    exact ⟨a0, a1, gn, go, by omega⟩
  have ed : (l.take m ++ n ++ l.drop (m + o.length)).drop m = n ++ l.drop (m + o.length) := by
    rw [List.append_assoc, List.drop_append_of_le_length (by omega), List.drop_of_length_le (by omega), List.nil_append]
  have ed2 : (l.take m ++ n ++ l.drop (m + o.length)).drop (m + n.length) = l.drop (m + o.length) := by
    rw [← List.drop_drop, ed, List.drop_left]
  have et : (l.take m ++ n ++ l.drop (m + o.length)).take m = l.take m := by
    rw [List.append_assoc, List.take_append_of_le_length (by omega), List.take_of_length_le (by omega)]
  unfold ap
  rw [if_pos ⟨gx, gr⟩]
  simp only [Int.toNat_natCast]
  rw [if_neg (by omega), ed, if_pos (List.prefix_append _ _), if_neg (by omega), ed2, et]
  have e1 : o = (l.drop m).take o.length := List.prefix_iff_eq_take.1 hp
  have e2 : o ++ l.drop (m + o.length) = l.drop m := by
    rw [← List.drop_drop]
    conv => lhs; lhs; rw [e1]
    exact List.take_append_drop _ _
  rw [List.append_assoc, e2, List.take_append_drop]
theorem law (l : List ByteArray) (a : Int) (o n : List ByteArray) (hl : l.length ≤ 9223372036854775807) (ho : o.length ≤ 9223372036854775807) (hn : n.length ≤ 9223372036854775807) :
    Ev (fun k => quitclaimlaw11_HunkApplies.f k l a o n) true := by
  unfold quitclaimlaw11_HunkApplies.f
  obtain ⟨b, hb, hs⟩ := long [l, o, n] (by simp)
  refine Ev.bind hb ?_
  cases b with
  | true => exact Ev.pos rfl (Ev.bind awake (Ev.const true))
  | false =>
    refine Ev.neg (by decide) ?_
    have s0 := hs rfl l (by simp)
    have s1 := hs rfl o (by simp)
    have s2 := hs rfl n (by simp)
    have z0 : ∀ s ∈ l, s.size ≤ 9223372036854775807 := fun s m => Nat.le_trans (s0.2 s m) (by decide)
    have z1 : ∀ s ∈ o, s.size ≤ 9223372036854775807 := fun s m => Nat.le_trans (s1.2 s m) (by decide)
    have z2 : ∀ s ∈ n, s.size ≤ 9223372036854775807 := fun s m => Nat.le_trans (s2.2 s m) (by decide)
    have lx : (ap l a o n).1.length ≤ 9223372036854775807 := by
      unfold ap
      split
      · split
        · simp
        · split
          · split
            · simp
            · simp only [List.length_append, List.length_take, List.length_drop]
              have := s0.1; have := s1.1; have := s2.1; omega
          · simp
      · simp
    refine Ev.bind (apply l a o n hl ho hn) ?_
    refine Ev.now (a := (a, o, n)) rfl ?_
    refine Ev.bind (rapply l a o n hl ho hn z0 z1 z2) ?_
    refine Ev.bind (same _ lx) (Ev.pos rfl (Ev.pos rfl ?_))
    refine Ev.bind (lines l hl) (Ev.bind (rlines l hl z0) (Ev.neg (by simp) ?_))
    refine Ev.bind (right_ a o n ho hn) (Ev.now (a := (a, o, n)) rfl (Ev.bind (rright a o n ho hn z1 z2) ?_))
    have inv : hunk_Invert.f a o n = some (a, n, o) := by
      unfold hunk_Invert.f slices_Clone_string_string.f
      have := s1.1; have := s2.1
      rw [if_pos (by omega), Option.bind_some, if_pos (by omega), Option.bind_some]
    have j2 : Ev (fun k => quitclaimlaw11_HunkApplies.j2 k l (ap l a o n).1 (ap l a o n).2 false a n o) true := by
      by_cases h0 : (ap l a o n).2 = 0
      · refine Ev.step (f := fun k => (hunk_Apply.f k (ap l a o n).1 a n o).bind fun bt236 => (if bt236.2 = 0 then ((quitclaimref05_Same.f k bt236.1 l).bind fun t240 => (if t240 = true then ((quitclaimlaw11_awake.f k).bind fun t241 => (some t241)) else (some false))) else (some false))) (Ev.bind (back h0 ▸ apply _ a n o lx hn ho) (Ev.pos rfl (Ev.bind (same l hl) (Ev.pos rfl (Ev.bind awake (Ev.const true)))))) fun k => ?_
        simp only [quitclaimlaw11_HunkApplies.j2]
        rw [if_neg (by decide), if_pos h0]
      · refine Ev.step (f := fun k => (quitclaimlaw11_awake.f k).bind fun t242 => (some t242)) (Ev.bind awake (Ev.const true)) fun k => ?_
        simp only [quitclaimlaw11_HunkApplies.j2]
        rw [if_neg (by decide), if_neg h0]
    have j1 : Ev (fun k => quitclaimlaw11_HunkApplies.j1 k l (ap l a o n).1 (ap l a o n).2 (fv (ap l a o n).2) a o n) true := by
      refine Ev.step (f := fun k => (hunk_Fits.f k l a o n).bind fun t225 => (if (t225 != fv (ap l a o n).2) = true then (some false) else ((hunk_Invert.f a o n).bind fun bt226 => (if bt226.1 = a then ((quitclaimref05_Same.f k bt226.2.1 n).bind fun t234 => (if t234 = true then ((quitclaimref05_Same.f k bt226.2.2 o).bind fun t235 => (quitclaimlaw11_HunkApplies.j2 k l (ap l a o n).1 (ap l a o n).2 (!t235) bt226.1 bt226.2.1 bt226.2.2)) else (quitclaimlaw11_HunkApplies.j2 k l (ap l a o n).1 (ap l a o n).2 true bt226.1 bt226.2.1 bt226.2.2))) else (quitclaimlaw11_HunkApplies.j2 k l (ap l a o n).1 (ap l a o n).2 true bt226.1 bt226.2.1 bt226.2.2))))) (Ev.bind (fits l a o n hl ho hn) (Ev.neg (by simp) (Ev.now inv (Ev.pos rfl (Ev.bind (same n hn) (Ev.pos rfl (Ev.bind (same o ho) j2))))))) fun k => ?_
      simp only [quitclaimlaw11_HunkApplies.j1]
    refine Ev.step j1 fun k => ?_
    simp only [quitclaimlaw11_HunkApplies.j0]
    rw [if_neg (by simp)]
    unfold fv
    split <;> rfl
end Go.Proofs.Ytngcfmnmjkncoaa.PureA
namespace Go.Proofs.Ytngcfmnmjkncoaa.Pure
theorem hunkApplies (l0 : List ByteArray) (z : Int) (l1 l2 : List ByteArray) (h0 : l0.length ≤ 9223372036854775807) (h1 : l1.length ≤ 9223372036854775807) (h2 : l2.length ≤ 9223372036854775807) (_ : -9223372036854775808 ≤ z ∧ z ≤ 9223372036854775807) :
    ∃ k, Go.Proofs.Ytngcfmnmjkncoaa.PHunkApplies.quitclaimlaw11_HunkApplies.f k l0 z l1 l2 = some true := by
  obtain ⟨K, h⟩ := PureA.law l0 z l1 l2 h0 h1 h2
  exact ⟨K, h K (Nat.le_refl _)⟩
end Go.Proofs.Ytngcfmnmjkncoaa.Pure
