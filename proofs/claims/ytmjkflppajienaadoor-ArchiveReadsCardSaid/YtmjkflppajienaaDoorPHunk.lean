/- Lines, texts of lines and back: what package hunk and its reference answer, as one; no condition. -/
import Derived.Test.YtmjkflppajienaaDoorPPath
namespace Go.Proofs.YtmjkflppajienaaDoor.R.Pu
open Go Go.RowKit
set_option linter.unusedVariables false
set_option linter.unusedSimpArgs false

/-! ### lines -/
theorem idx_mem (c : UInt8) : ∀ l : List UInt8, decide (0 ≤ Lib.indexByte l c) = !(l.all fun x => x != c)
  | [] => by simp [Lib.indexByte]
  | b :: l => by
    have ih := idx_mem c l
    have ge := Lib.indexByte_ge l c
    unfold Lib.indexByte
    rw [List.all_cons]
    by_cases hb : b = c
    · rw [if_pos (by rw [hb]; exact beq_iff_eq.2 rfl), hb]; simp
    · rw [if_neg (by simpa using hb), show (b != c) = true from by simpa using hb, Bool.true_and, ← ih]
      split
      next h => have h1 := beq_iff_eq.1 h; rw [h1]
      next h =>
        have h1 : Lib.indexByte l c ≠ -1 := fun e => h (by rw [e]; rfl)
        rw [decide_eq_true (show 0 ≤ Lib.indexByte l c + 1 by omega), decide_eq_true (show 0 ≤ Lib.indexByte l c by omega)]
def lineOk (s : ByteArray) : Bool := decide (s.size ≤ 200) && s.data.toList.all fun c => c != 10
def linesOk (l : List ByteArray) : Bool := decide (l.length ≤ 1000) && l.all lineOk
theorem contains_ev (s : ByteArray) (c : UInt8) : strings_Contains.f s ⟨⟨[c]⟩⟩ = some (!(s.data.toList.all fun x => x != c)) :=
  strings_Contains.in _ _ (by rw [← idx_mem]; rfl)
theorem hunk_Lines_1_ev (s : ByteArray) : hunk_Lines_1.f s = some (!lineOk s) := by
  refine hunk_Lines_1.in _ ?_
  rw [contains_ev]
  unfold lineOk
  by_cases h : s.size ≤ 200
  · rw [decide_eq_false (show ¬ (s.size : Int) > 200 by omega), decide_eq_true h]; simp [gdT]
  · rw [decide_eq_true (show (s.size : Int) > 200 by omega), decide_eq_false h]; rfl
theorem indexFunc_ev (l : List ByteArray) (hl : l.length ≤ 9000000000000000000) : ∃ i, slices_IndexFunc_string_string_hunk_Lines_1.f l = some i ∧ decide (i ≥ 0) = !l.all lineOk := by
  let g : List ByteArray → Int := fun x => if x.all lineOk then -1 else ((l.length - x.length : Nat) : Int) + ((x.findIdx fun s => !lineOk s : Nat) : Int)
  refine ⟨g l, slices_IndexFunc_string_string_hunk_Lines_1.in _ ?_, ?_⟩
  · refine wh_list l (fun i (_ : Unit) => (l, (), (l.length : Int), i, ())) (fun _ _ => True) (fun x _ => g x) (fun _ r _ => ?_) (fun i _ r h _ hr => ?_) () trivial
    · simp [g]
    · have hr := hr () trivial
      simp (disch := omega) only [decide_eq_true_eq, if_pos, ix_, Option.bind_some, wS, hunk_Lines_1_ev, hr]
      have l0 : l.length - (l[i] :: l.drop (i + 1)).length = i := by simp; omega
      have l1 : l.length - (l.drop (i + 1)).length = i + 1 := by simp; omega
      simp only [g, l0, l1, List.all_cons, List.findIdx_cons]
      cases lineOk l[i] with
      | false => simp
      | true =>
        simp only [Bool.not_true, Bool.false_eq_true, if_false, Bool.true_and]
        congr 1
        split
        · rfl
        · simp; omega
  · simp only [g]
    split
    · rename_i h; rw [h]; rfl
    · rename_i h
      rw [Bool.eq_false_iff.2 h]
      simp <;> omega
theorem hunk_Lines_ev (l : List ByteArray) (hl : l.length ≤ 9000000000000000000) : hunk_Lines.f l = some (linesOk l) := by
  refine hunk_Lines.in _ ?_
  obtain ⟨i, h1, h2⟩ := indexFunc_ev l hl
  rw [slices_ContainsFunc_string_string_hunk_Lines_1.in l (r := !l.all lineOk) (by rw [h1, Option.bind_some, h2])]
  unfold linesOk
  by_cases h : l.length ≤ 1000
  · rw [decide_eq_true (show (l.length : Int) ≤ 1000 by omega), decide_eq_true h]; simp [gdT]
  · rw [decide_eq_false (show ¬ (l.length : Int) ≤ 1000 by omega), decide_eq_false h]; rfl
/-! ### strings.Split at a byte -/
theorem count_spd (c : UInt8) : ∀ l : List UInt8, Lib.countByte l c + 1 = (spd c l).length
  | [] => rfl
  | b :: l => by
    have ih := count_spd c l
    have h := spd_ne c l
    rw [show spd c (b :: l) = if b = c then [] :: spd c l else glue [b] (spd c l) from rfl]
    change List.count c l + 1 = _ at ih
    change List.count c (b :: l) + 1 = _
    rw [List.count_cons]
    by_cases hb : b = c
    · rw [if_pos hb, if_pos (by rw [hb]; exact beq_iff_eq.2 rfl), List.length_cons, ← ih]
    · rw [if_neg hb, if_neg (by simpa using hb)]
      cases e : spd c l with
      | nil => exact absurd e h
      | cons a x => rw [e] at ih; simp [glue] at ih ⊢; omega
theorem index_ev (s : ByteArray) (c : UInt8) : strings_Index.f s ⟨⟨[c]⟩⟩ = some (Lib.indexByte s.data.toList c) := strings_Index.in _ _ rfl
theorem count_ev (s : ByteArray) (c : UInt8) : strings_Count.f s ⟨⟨[c]⟩⟩ = some ((Lib.countByte s.data.toList c : Nat) : Int) := strings_Count.in _ _ rfl
theorem split_ev (s : ByteArray) (c : UInt8) (hs : s.size ≤ 1000000000000) : strings_Split.f s ⟨⟨[c]⟩⟩ = some ((spd c s.data.toList).map bmk) := by
  refine strings_Split.in _ _ ?_
  rw [strings_genSplit.in s _ 0 (-1) (r := (spd c s.data.toList).map bmk) ?_]
  · rfl
  rw [if_neg (by decide), eqb _ [], if_neg (by simp)]
  have hl := len_text s
  have hc := count_spd c s.data.toList
  have hle := spd_len c s.data.toList
  obtain ⟨N, hN⟩ : ∃ N, N = (spd c s.data.toList).length := ⟨_, rfl⟩
  rw [← hN] at hc hle
  have e0 : Lib.countByte s.data.toList c = N - 1 := by omega
  simp only [jn_eq]
  rw [if_pos (by decide), count_ev, Option.bind_some, e0]
  have w1 : w64 (((N - 1 : Nat) : Int) + 1) = (N : Int) := by rw [w_ (by omega) (by omega)]; omega
  have w2 : w64 ((s.size : Int) + 1) = ((s.size + 1 : Nat) : Int) := wS (by omega)
  have w3 : (if w64 ((s.size : Int) + 1) < w64 (((N - 1 : Nat) : Int) + 1) then w64 ((s.size : Int) + 1) else w64 (((N - 1 : Nat) : Int) + 1)) = (N : Int) := by rw [w1, w2, if_neg (by omega)]
  have w4 : w64 ((N : Int) - 1) = ((N - 1 : Nat) : Int) := by rw [w_ (by omega) (by omega)]; omega
  simp only [w3, w4, Int.toNat_natCast]
  rw [mk0_ (by omega) (by omega), Option.bind_some]
  have key := wh_ind (F := fun r12 (v13 : ((ByteArray × ByteArray × Int × Int × Nat × Int × Unit) × List ByteArray × Unit)) => if decide (v13.1.2.2.2.2.2.1 < v13.1.2.2.2.1) then ((strings_Index.f v13.1.1 v13.1.2.1).bind fun x14 => if decide (x14 < 0) then ((chk v13.1.2.2.2.2.2.1 v13.1.2.2.2.2.1).bind fun x7 => (ix v13.2.1 v13.1.2.2.2.2.2.1).bind fun x8 => (wr v13.2.1 v13.1.2.2.2.2.2.1 v13.1.1).bind fun x9 => (eqn x9.length v13.1.2.2.2.2.1).bind fun x10 => (cut x9 0 (w64 (v13.1.2.2.2.2.2.1 + 1))).bind fun x11 => some x11) else (sub v13.1.1 0 (w64 (x14 + v13.1.2.2.1))).bind fun x15 => (chk v13.1.2.2.2.2.2.1 v13.1.2.2.2.2.1).bind fun x16 => (ix v13.2.1 v13.1.2.2.2.2.2.1).bind fun x17 => (wr v13.2.1 v13.1.2.2.2.2.2.1 x15).bind fun x18 => (sub v13.1.1 (w64 (x14 + (↑v13.1.2.1.size : Int))) (↑v13.1.1.size : Int)).bind fun x19 => r12 ((x19, v13.1.2.1, v13.1.2.2.1, v13.1.2.2.2.1, v13.1.2.2.2.2.1, w64 (v13.1.2.2.2.2.2.1 + 1), ()), x18, ())) else ((chk v13.1.2.2.2.2.2.1 v13.1.2.2.2.2.1).bind fun x7 => (ix v13.2.1 v13.1.2.2.2.2.2.1).bind fun x8 => (wr v13.2.1 v13.1.2.2.2.2.2.1 v13.1.1).bind fun x9 => (eqn x9.length v13.1.2.2.2.2.1).bind fun x10 => (cut x9 0 (w64 (v13.1.2.2.2.2.2.1 + 1))).bind fun x11 => some x11))
    (fun (p : ByteArray × Nat × List ByteArray) => ((p.1, (⟨⟨[c]⟩⟩ : ByteArray), 0, ((N - 1 : Nat) : Int), N, (p.2.1 : Int), ()), p.2.2, ()))
    (fun p => (spd c p.1.data.toList).length + p.2.1 = N ∧ p.2.2.length = N ∧ p.1.size ≤ s.size) (fun p => p.1.size) (fun p => p.2.2.take p.2.1 ++ (spd c p.1.data.toList).map bmk) (fun p hp r hr => by
      obtain ⟨t, i, a⟩ := p
      obtain ⟨h1, h2, h3⟩ := hp
      simp only at h1 h2 h3 hr
      have ne : 0 < (spd c t.data.toList).length := Nat.pos_of_ne_zero fun e => spd_ne _ _ (List.eq_nil_of_length_eq_zero e)
      obtain ⟨sn, sp⟩ := spd_idx c t.data.toList
      have hlt := idx_lt t.data.toList c
      have htl := len_text t
      have last : Lib.indexByte t.data.toList c < 0 → ((chk (i : Int) N).bind fun x7 => (ix a (i : Int)).bind fun x8 => (wr a (i : Int) t).bind fun x9 => (eqn x9.length N).bind fun x10 => (cut x9 0 (w64 ((i : Int) + 1))).bind fun x11 => some x11) = some (a.take i ++ (spd c t.data.toList).map bmk) := fun hi => by
        rw [sn hi] at h1 ⊢
        rw [List.length_singleton] at h1
        rw [chk_ (by omega), Option.bind_some, ix_ (by omega), Option.bind_some, wr_ (by omega), Option.bind_some, eqn_ (by rw [List.length_set]; exact h2), Option.bind_some, wS (by omega), cut0 (by rw [List.length_set]; omega), Option.bind_some]
        rw [List.take_succ_eq_append_getElem (by rw [List.length_set]; omega), List.getElem_set_self, List.take_set_of_le (Nat.le_refl _)]
        simp [bmk_list]
      by_cases hi : Lib.indexByte t.data.toList c < 0
      · have h1' := h1
        rw [sn hi, List.length_singleton] at h1'
        simp only []
        rw [decide_eq_false (show ¬ ((i : Int) < ((N - 1 : Nat) : Int)) by omega), if_neg (by decide)]
        exact last hi
      · obtain ⟨m, hm⟩ := Int.eq_ofNat_of_zero_le (Int.not_lt.1 hi)
        have e := sp m hm
        have h1' := h1
        rw [e, List.length_cons] at h1'
        have ne' : 0 < (spd c (t.data.toList.drop (m + 1))).length := Nat.pos_of_ne_zero fun e => spd_ne _ _ (List.eq_nil_of_length_eq_zero e)
        have e1 : t.extract 0 m = bmk (t.data.toList.take m) := text_ext (by rw [cut_list, list_bmk, List.drop_zero])
        have e2 : (t.extract (m + 1) t.size).data.toList = t.data.toList.drop (m + 1) := by rw [cut_list, ← htl, List.take_length]
        have e3 : (t.extract (m + 1) t.size).size = t.size - (m + 1) := by rw [ByteArray.size_extract]; omega
        simp only []
        rw [decide_eq_true (show ((i : Int) < ((N - 1 : Nat) : Int)) by omega), if_pos rfl, index_ev, Option.bind_some, hm, decide_eq_false (show ¬ ((m : Int) < 0) by omega), if_neg (by decide)]
        rw [show w64 ((m : Int) + 0) = (m : Int) by rw [w_ (by omega) (by omega)]; omega, sub0 (by omega), Option.bind_some, chk_ (by omega), Option.bind_some, ix_ (by omega), Option.bind_some, wr_ (by omega), Option.bind_some,
          show w64 ((m : Int) + (((⟨⟨[c]⟩⟩ : ByteArray).size : Nat) : Int)) = ((m + 1 : Nat) : Int) from wS (by omega), sub_ (by omega) (by omega), Option.bind_some, wS (by omega)]
        have := hr (t.extract (m + 1) t.size, i + 1, a.set i (t.extract 0 m)) ⟨by show (spd c (t.extract (m + 1) t.size).data.toList).length + (i + 1) = N; rw [e2]; omega, by rw [List.length_set]; exact h2, by simp only; omega⟩ (by simp only; omega)
        simp only at this
        rw [this, e2, e, e1, List.take_succ_eq_append_getElem (by rw [List.length_set]; omega), List.getElem_set_self, List.take_set_of_le (Nat.le_refl _)]
        simp) (s, 0, List.replicate N (⟨⟨[]⟩⟩ : ByteArray)) ⟨by simp only; omega, by simp, Nat.le_refl _⟩
  simpa using key

/-! ### lines of a text, and the text of lines -/
/-- All but the last piece, if the last one is empty. -/
def ends (p : List (List UInt8)) : Bool := p.getLast? == some []
theorem spd_app (d : UInt8) : ∀ l : List UInt8, spd d (l ++ [d]) = spd d l ++ [[]]
  | [] => by simp [spd]
  | c :: l => by
    have ih := spd_app d l
    have h := spd_ne d l
    show (if c = d then [] :: spd d (l ++ [d]) else glue [c] (spd d (l ++ [d]))) = (if c = d then [] :: spd d l else glue [c] (spd d l)) ++ [[]]
    rw [ih]
    split
    · rfl
    · cases e : spd d l with
      | nil => exact absurd e h
      | cons a x => rfl
theorem glue_last {p : List UInt8} (hp : p ≠ []) : ∀ {x : List (List UInt8)}, x ≠ [] → (glue p x).getLast? = if x.length = 1 then (x.getLast?.map (p ++ ·)) else x.getLast?
  | [], h => absurd rfl h
  | [a], _ => by simp [glue]
  | a :: b :: x, _ => by simp [glue]
theorem ends_iff (d : UInt8) : ∀ l : List UInt8, ends (spd d l) = true ↔ l = [] ∨ ∃ x, l = x ++ [d]
  | [] => by simp [spd, ends]
  | c :: l => by
    have ih := ends_iff d l
    have h := spd_ne d l
    unfold ends at ih ⊢
    rw [beq_iff_eq] at ih ⊢
    show (if c = d then [] :: spd d l else glue [c] (spd d l)).getLast? = some [] ↔ _
    constructor
    · intro hh
      refine .inr ?_
      split at hh
      · rename_i hc
        subst hc
        rw [List.getLast?_cons, Option.some.injEq] at hh
        have h2 : (spd c l).getLast? = some [] := by
          cases e : (spd c l).getLast? with
          | none => exact absurd (List.getLast?_eq_none_iff.1 e) h
          | some y => rw [e] at hh; simpa using hh
        rcases ih.1 h2 with rfl | ⟨x, rfl⟩
        · exact ⟨[], rfl⟩
        · exact ⟨c :: x, rfl⟩
      · rename_i hc
        rw [glue_last (by simp) h] at hh
        split at hh
        · rename_i h1
          obtain ⟨y, hy⟩ := List.length_eq_one_iff.1 h1
          rw [hy] at hh; simp at hh
        · rcases ih.1 hh with rfl | ⟨x, rfl⟩
          · rename_i h1; simp [spd] at h1
          · exact ⟨c :: x, rfl⟩
    · rintro (hh | ⟨x, hx⟩)
      · cases hh
      · have : (if c = d then [] :: spd d l else glue [c] (spd d l)) = spd d (c :: l) := rfl
        rw [this, hx, spd_app]
        simp
/-- The lines that a text has, if it is one of lines. -/
def hsplit (s : ByteArray) : List ByteArray × Bool := (((spd 10 s.data.toList).dropLast).map bmk, ends (spd 10 s.data.toList) && linesOk (((spd 10 s.data.toList).dropLast).map bmk))
theorem spd_bytes (d : UInt8) (l : List UInt8) (n : Nat) (h : l.length ≤ n) : ∀ s ∈ (spd d l).map bmk, s.size ≤ n := fun t ht => by
  obtain ⟨x, hx, rfl⟩ := List.mem_map.1 ht
  have := spd_size _ _ x hx
  rw [size_bmk]; omega
theorem dropLast_bytes (d : UInt8) (l : List UInt8) (n : Nat) (h : l.length ≤ n) : ∀ s ∈ ((spd d l).dropLast).map bmk, s.size ≤ n := fun t ht => by
  obtain ⟨x, hx, rfl⟩ := List.mem_map.1 ht
  exact spd_bytes d l n h _ (List.mem_map.2 ⟨x, List.dropLast_subset _ hx, rfl⟩)
/-- The text of lines. -/
def htext (l : List ByteArray) : List UInt8 := l.flatMap fun s => s.data.toList ++ [10]
theorem htext_split : ∀ l : List UInt8, ends (spd 10 l) = true → htext (((spd 10 l).dropLast).map bmk) = l := by
  have key : ∀ l : List UInt8, ∀ p : List (List UInt8), spd 10 l = p ++ [[]] → htext (p.map bmk) = l := by
    intro l
    induction l with
    | nil =>
      intro p hp
      cases p with
      | nil => rfl
      | cons a p => cases p <;> simp [spd] at hp
    | cons c l ih =>
      intro p hp
      have ne := spd_ne 10 l
      have e : spd 10 (c :: l) = if c = 10 then [] :: spd 10 l else glue [c] (spd 10 l) := rfl
      rw [e] at hp
      split at hp
      · rename_i hc
        subst hc
        cases p with
        | nil => simp at hp; exact absurd hp ne
        | cons a p =>
          simp only [List.cons_append, List.cons.injEq] at hp
          obtain ⟨rfl, hp⟩ := hp
          have := ih p hp
          simp [htext, list_bmk] at this ⊢
          rw [this]
      · cases hs : spd 10 l with
        | nil => exact absurd hs ne
        | cons a x =>
          rw [hs] at hp
          simp only [glue] at hp
          cases p with
          | nil => simp at hp
          | cons b p =>
            simp only [List.cons_append, List.cons.injEq] at hp
            obtain ⟨rfl, rfl⟩ := hp
            have := ih (a :: p) (by rw [hs]; rfl)
            simp [htext, list_bmk] at this ⊢
            rw [this]
  intro l h
  refine key l _ ?_
  unfold ends at h
  rw [beq_iff_eq] at h
  obtain ⟨ys, hy⟩ := List.getLast?_eq_some_iff.1 h
  rw [hy, List.dropLast_concat]
theorem hunk_Text_ev (l : List ByteArray) (hl : l.length ≤ 1000000) (hs : ∀ s ∈ l, s.size ≤ 1000000) : hunk_Text.f l = some (bmk (htext l)) := by
  have hstr : ∀ b : List UInt8, strings_Builder_String.f ((), b, ()) = some (bmk b, ((), b, ()), (), ()) := fun b => strings_Builder_String.in _ rfl
  have hwr : ∀ (s : ByteArray) (b : List UInt8), b.length + s.size ≤ 140737488355328 → strings_Builder_WriteString.f s ((), b, ()) = some (((s.size : Int), false, ()), ((), b ++ s.data.toList, ()), (), ()) := fun s b h =>
    strings_Builder_WriteString.in _ _ (by rw [strings_Builder_copyCheck.in _ rfl, Option.bind_some]; unfold bcat; rw [if_pos h]; rfl)
  refine hunk_Text.in _ ?_
  have key := wh_list (F := fun r1 (v2 : ((Unit × List ByteArray × Int × Int × Unit) × Unit × (Unit × List UInt8 × Unit) × Unit)) => if decide (v2.1.2.2.2.1 < v2.1.2.2.1) then ((ix v2.1.2.1 v2.1.2.2.2.1).bind fun x3 => (cat x3 { data := { toList := [10] } }).bind fun x4 => (strings_Builder_WriteString.f x4 ((), v2.2.2.1.2)).bind fun x5 => r1 (((), v2.1.2.1, v2.1.2.2.1, w64 (v2.1.2.2.2.1 + 1), ()), (), ((), x5.2.1.2), ())) else (strings_Builder_String.f ((), v2.2.2.1.2)).bind fun x6 => some x6.1)
    l (fun i (b : List UInt8) => (((), l, (l.length : Int), i, ()), (), ((), b, ()), ())) (fun i b => b.length ≤ i * 2000000) (fun x b => bmk (b ++ htext x)) (fun b r hI => ?_) (fun i b r h hI hr => ?_) [] (by simp)
  · simpa using key
  · simp (disch := omega) only [decide_eq_true_eq, if_neg, hstr, Option.bind_some]
    simp [htext]
  · have hz := hs _ (List.getElem_mem h)
    have z : (l[i] ++ (⟨⟨[10]⟩⟩ : ByteArray)).size = l[i].size + 1 := by rw [size_app]; rfl
    have hr := hr (b ++ (l[i].data.toList ++ [10])) (by have := len_text l[i]; simp; omega)
    have e1 : (l[i] ++ (⟨⟨[10]⟩⟩ : ByteArray)).data.toList = l[i].data.toList ++ [10] := by rw [app_list]
    simp (disch := omega) only [decide_eq_true_eq, if_pos, ix_, Option.bind_some, wS]
    rw [cat_ (by rw [show (⟨⟨[10]⟩⟩ : ByteArray).size = 1 from rfl]; omega), Option.bind_some, hwr _ _ (by rw [z]; omega), Option.bind_some, e1, hr]
    rw [show htext (l[i] :: l.drop (i + 1)) = (l[i].data.toList ++ [10]) ++ htext (l.drop (i + 1)) from rfl, List.append_assoc]
end Go.Proofs.YtmjkflppajienaaDoor.R.Pu
