/- Trees: rows of files as the references have them, and what the law of layer 14 asks first; no condition. -/
import Derived.Test.YtngcfmnmjkncoaaDoorPureStep
namespace Go.Proofs.YtngcfmnmjkncoaaDoor.PureT
open Go Go.RowKit Go.Proofs.YtngcfmnmjkncoaaDoor.Q Go.Proofs.YtngcfmnmjkncoaaDoor.Pu
open Go.Proofs.YtngcfmnmjkncoaaDoor.PureO (O wr_ hk)
set_option linter.unusedVariables false

theorem files_loop (l : List File) (hl : l.length ≤ 1000) (hg : ∀ f ∈ l, f.f1_Lines.length ≤ 1000) : ∀ (n i : Nat) (x : List File), i + n = l.length → x.length ≤ i → Ev (fun k => tree_Tree_Files.l0 ⟨l⟩ k x (i : Int)) (x ++ l.drop i) := by
  intro n
  induction n with
  | zero =>
    intro i x hi hx
    rw [List.drop_eq_nil_of_le (by omega), List.append_nil]
    exact Ev.stepc fun k => by rw [tree_Tree_Files.l0, if_neg (by show ¬ (i : Int) < (l.length : Int); omega)]
  | succ n ih =>
    intro i x hi hx
    have h1 : i < l.length := by omega
    have hc : tree_clone.f l[i] = some l[i] := by unfold tree_clone.f; rw [PureC.clone_ _ (hg _ (List.getElem_mem h1))]; rfl
    refine Ev.to (Ev.step (ih (i + 1) (x ++ [l[i]]) (by omega) (by simp; omega)) fun k => ?_) (by rw [List.append_assoc, List.drop_eq_getElem_cons h1]; rfl)
    rw [tree_Tree_Files.l0, if_pos (by show (i : Int) < (l.length : Int); omega)]
    show (ix l (i : Int)).bind _ = _
    rw [ix_ h1, Option.bind_some, hc, Option.bind_some, apF (by simp; omega), Option.bind_some, w (by omega) (by omega)]
    rfl
theorem plain_loop (l : List File) (hl : l.length ≤ 1000) : ∀ (n i : Nat) (x : List File), i + n = l.length → x.length ≤ i → Ev (fun k => quitclaimlaw14_Plain.l0 l k x (i : Int)) (x ++ l.drop i) := by
  intro n
  induction n with
  | zero =>
    intro i x hi hx
    rw [List.drop_eq_nil_of_le (by omega), List.append_nil]
    exact Ev.stepc fun k => by rw [quitclaimlaw14_Plain.l0, if_neg (by omega)]
  | succ n ih =>
    intro i x hi hx
    have h1 : i < l.length := by omega
    refine Ev.to (Ev.step (ih (i + 1) (x ++ [l[i]]) (by omega) (by simp; omega)) fun k => ?_) (by rw [List.append_assoc, List.drop_eq_getElem_cons h1]; rfl)
    rw [quitclaimlaw14_Plain.l0, if_pos (by omega), ix_ h1, Option.bind_some, apF (by simp; omega), Option.bind_some, w (by omega) (by omega)]
    rfl
theorem plain_ev (l : List File) (T : Tr l) : Ev (fun k => quitclaimlaw14_Plain.f k ⟨l⟩) l := by
  unfold quitclaimlaw14_Plain.f tree_Tree_Files.f
  have hl := T.len
  refine Ev.bind (a := l) ?_ ?_
  · have := files_loop l (by omega) (fun f hf => (T.lines f hf).1) l.length 0 [] (by omega) (by simp)
    rw [List.drop_zero, List.nil_append] at this
    exact this
  · have := plain_loop l (by omega) l.length 0 [] (by omega) (by simp)
    rw [List.drop_zero, List.nil_append] at this
    exact this
theorem fsame_loop (l : List File) (hl : l.length ≤ 1000) (hg : ∀ f ∈ l, f.f1_Lines.length ≤ 1000) : ∀ (n i : Nat), i + n = l.length → Ev (fun k => quitclaimref14_Same.l0 l l k (i : Int)) true := by
  intro n
  induction n with
  | zero =>
    intro i hi
    exact Ev.stepc fun k => by rw [quitclaimref14_Same.l0, if_neg (by omega)]
  | succ n ih =>
    intro i hi
    have h1 : i < l.length := by omega
    obtain ⟨K, q⟩ := ih (i + 1) (by omega)
    obtain ⟨K', s⟩ := PureS.same1 l[i].f1_Lines (by have := hg _ (List.getElem_mem h1); omega)
    refine ⟨K + K' + 1, fun k hk => ?_⟩
    obtain ⟨k, rfl⟩ : ∃ m, k = m + 1 := ⟨k - 1, by omega⟩
    have q := q k (by omega)
    have s := s k (by omega)
    dsimp only at q s ⊢
    rw [quitclaimref14_Same.l0, if_pos (by omega), ix_ h1, Option.bind_some, Option.bind_some, decide_eq_true rfl]
    show ((quitclaimref05_Same.f k l[i].f1_Lines l[i].f1_Lines).bind fun x16 => _) = _
    rw [s, Option.bind_some, if_neg (by decide), w (by omega) (by omega)]
    exact q
theorem fsame_ev (l : List File) (T : Tr l) : Ev (fun k => quitclaimref14_Same.f k l l) true := by
  unfold quitclaimref14_Same.f
  have hl := T.len
  exact Ev.neg (by simp) (fsame_loop l (by omega) (fun f hf => (T.lines f hf).1) l.length 0 (by omega))

/-! ### what is asked first -/
def big (x : List ByteArray) : Bool := x.any fun s => decide (300 < s.size)
theorem lg (i : Int) (b2 : Int → Option Bool) (x : List ByteArray) (hx : x.length ≤ 60) : ∀ (c j : Nat), j + c = x.length → ∀ k, c < k → quitclaimref13_Long.l3 i b2 x k (j : Int) = if big (x.drop j) = true then some true else b2 (w64 (i + 1)) := by
  intro c
  induction c with
  | zero =>
    intro j hj k hk
    obtain ⟨k, rfl⟩ : ∃ m, k = m + 1 := ⟨k - 1, by omega⟩
    rw [quitclaimref13_Long.l3, if_neg (by omega), List.drop_eq_nil_of_le (by omega)]
    rfl
  | succ c ih =>
    intro j hj k hk
    obtain ⟨k, rfl⟩ : ∃ m, k = m + 1 := ⟨k - 1, by omega⟩
    have h1 : j < x.length := by omega
    rw [quitclaimref13_Long.l3, if_pos (by omega), ix_ h1, Option.bind_some, drop_at h1]
    unfold big
    rw [List.any_cons]
    by_cases h : 300 < x[j].size
    · rw [if_pos (by omega), decide_eq_true h]; rfl
    · rw [if_neg (by omega), decide_eq_false h, w (by omega) (by omega), Bool.false_or]
      exact ih (j + 1) (by omega) k (by omega)
def short (x : List ByteArray) : Prop := x.length ≤ 40 ∧ ∀ s ∈ x, s.size ≤ 300
theorem long_ev (o : O) : ∃ b, Ev (fun k => quitclaimref13_Long.f k o) b ∧ (b = false → short o.f4_Old ∧ short o.f5_New) := by
  unfold quitclaimref13_Long.f
  by_cases hb : (((decide ((o.f1_Path.size : Int) > 300) || decide ((o.f2_To.size : Int) > 300)) || decide ((o.f4_Old.length : Int) > 40)) || decide ((o.f5_New.length : Int) > 40)) = true
  · exact ⟨true, Ev.pos hb (Ev.const true), fun h => by cases h⟩
  · have hb' := hb
    simp only [Bool.or_eq_true, decide_eq_true_eq] at hb'
    have l1 : o.f4_Old.length ≤ 40 := by omega
    have l2 : o.f5_New.length ≤ 40 := by omega
    refine ⟨big o.f4_Old || big o.f5_New, Ev.neg hb ⟨70, fun k hk => ?_⟩, fun h => ?_⟩
    · obtain ⟨k, rfl⟩ : ∃ m, k = m + 3 := ⟨k - 3, by omega⟩
      show quitclaimref13_Long.l2 o (k + 2 + 1) 0 = _
      rw [quitclaimref13_Long.l2]
      unfold jn
      dsimp only
      rw [if_pos (by show (0 : Int) < ((2 : Nat) : Int); decide)]
      show quitclaimref13_Long.l3 0 (fun x6 => quitclaimref13_Long.l2 o (k + 2) x6) o.f4_Old (k + 2) ((0 : Nat) : Int) = _
      rw [lg 0 _ o.f4_Old (by omega) o.f4_Old.length 0 (by omega) (k + 2) (by omega), List.drop_zero]
      cases big o.f4_Old with
      | true => rfl
      | false =>
        rw [if_neg (by decide), Bool.false_or]
        show quitclaimref13_Long.l2 o (k + 1 + 1) 1 = _
        rw [quitclaimref13_Long.l2]
        unfold jn
        dsimp only
        rw [if_pos (by show (1 : Int) < ((2 : Nat) : Int); decide)]
        show quitclaimref13_Long.l3 1 (fun x6 => quitclaimref13_Long.l2 o (k + 1) x6) o.f5_New (k + 1) ((0 : Nat) : Int) = _
        rw [lg 1 _ o.f5_New (by omega) o.f5_New.length 0 (by omega) (k + 1) (by omega), List.drop_zero]
        cases big o.f5_New with
        | true => rfl
        | false =>
          rw [if_neg (by decide)]
          show quitclaimref13_Long.l2 o (k + 1) 2 = _
          rw [quitclaimref13_Long.l2]
          unfold jn
          dsimp only
          rw [if_neg (by show ¬ (2 : Int) < ((2 : Nat) : Int); decide)]
    · rw [Bool.or_eq_false_iff] at h
      unfold big at h
      rw [List.any_eq_false, List.any_eq_false] at h
      exact ⟨⟨l1, fun s hs => by have := h.1 s hs; simp at this; omega⟩, ⟨l2, fun s hs => by have := h.2 s hs; simp at this; omega⟩⟩
theorem few_loop (ops : List O) (hl : ops.length ≤ 9223372036854775807) : ∀ (n i : Nat), i + n = ops.length → ∃ b, Ev (fun k => quitclaimlaw14_few.l0 ops k (i : Int)) b ∧ (b = true → ops.length ≤ 40 ∧ ∀ o ∈ ops.drop i, short o.f4_Old ∧ short o.f5_New) := by
  intro n
  induction n with
  | zero =>
    intro i hi
    refine ⟨decide ((ops.length : Int) ≤ 40), Ev.stepc fun k => by rw [quitclaimlaw14_few.l0, if_neg (by omega)], fun h => ⟨by have := of_decide_eq_true h; omega, fun o ho => ?_⟩⟩
    rw [List.drop_eq_nil_of_le (by omega)] at ho
    cases ho
  | succ n ih =>
    intro i hi
    have h1 : i < ops.length := by omega
    obtain ⟨b, ⟨K, hb⟩, hs⟩ := long_ev ops[i]
    obtain ⟨c, ⟨K', hc⟩, ht⟩ := ih (i + 1) (by omega)
    cases b with
    | true =>
      refine ⟨false, ⟨K + 1, fun k hk => ?_⟩, fun h => by cases h⟩
      obtain ⟨k, rfl⟩ : ∃ m, k = m + 1 := ⟨k - 1, by omega⟩
      have hb := hb k (by omega)
      dsimp only at hb ⊢
      rw [quitclaimlaw14_few.l0, if_pos (by omega), ix_ h1, Option.bind_some, hb, Option.bind_some, if_pos rfl]
    | false =>
      refine ⟨c, ⟨K + K' + 1, fun k hk => ?_⟩, fun h => ⟨(ht h).1, fun o ho => ?_⟩⟩
      · obtain ⟨k, rfl⟩ : ∃ m, k = m + 1 := ⟨k - 1, by omega⟩
        have hb := hb k (by omega)
        have hc := hc k (by omega)
        dsimp only at hb hc ⊢
        rw [quitclaimlaw14_few.l0, if_pos (by omega), ix_ h1, Option.bind_some, hb, Option.bind_some, if_neg (by decide), w (by omega) (by omega)]
        exact hc
      · rw [List.drop_eq_getElem_cons h1] at ho
        rcases List.mem_cons.1 ho with rfl | ho
        · exact hs rfl
        · exact (ht h).2 o ho
theorem few_ev (ops : List O) (hl : ops.length ≤ 9223372036854775807) : ∃ b, Ev (fun k => quitclaimlaw14_few.f k ops) b ∧ (b = true → ops.length ≤ 40 ∧ ∀ o ∈ ops, short o.f4_Old ∧ short o.f5_New) := by
  obtain ⟨b, h, q⟩ := few_loop ops hl ops.length 0 (by omega)
  rw [List.drop_zero] at q
  exact ⟨b, h, q⟩
theorem smo_short {o : O} (h : short o.f4_Old ∧ short o.f5_New) : smo o :=
  ⟨⟨by have := h.1.1; omega, fun s hs => by have := h.1.2 s hs; omega⟩, ⟨by have := h.2.1; omega, fun s hs => by have := h.2.2 s hs; omega⟩⟩
end Go.Proofs.YtngcfmnmjkncoaaDoor.PureT
