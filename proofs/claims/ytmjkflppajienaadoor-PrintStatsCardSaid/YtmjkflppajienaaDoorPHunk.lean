/- Lines, texts of lines and back: what package hunk and its reference answer, as one; no condition. -/
import Derived.Test.YtmjkflppajienaaDoorPPath
namespace Go.Proofs.YtmjkflppajienaaDoor.R.Pu
open Go Go.RowKit
set_option linter.unusedVariables false
set_option linter.unusedSimpArgs false

/-! ### lines -/
theorem idx_mem (c : UInt8) : ∀ l : List UInt8, decide (0 ≤ Lib.indexByte l c) = !(l.all fun x => x != c)
  | [] => by simp [Lib.indexByte]
  | b :: l => by
    have ih := idx_mem c l
    have ge := Lib.indexByte_ge l c
    unfold Lib.indexByte
    rw [List.all_cons]
    by_cases hb : b = c
    · rw [if_pos (by rw [hb]; exact beq_iff_eq.2 rfl), hb]; simp
    · rw [if_neg (by simpa using hb), show (b != c) = true from by simpa using hb, Bool.true_and, ← ih]
      split
      next h => have h1 := beq_iff_eq.1 h; rw [h1]
      next h =>
        have h1 : Lib.indexByte l c ≠ -1 := fun e => h (by rw [e]; rfl)
        rw [decide_eq_true (show 0 ≤ Lib.indexByte l c + 1 by omega), decide_eq_true (show 0 ≤ Lib.indexByte l c by omega)]
def lineOk (s : ByteArray) : Bool := decide (s.size ≤ 200) && s.data.toList.all fun c => c != 10
def linesOk (l : List ByteArray) : Bool := decide (l.length ≤ 1000) && l.all lineOk
theorem contains_ev (s : ByteArray) (c : UInt8) : strings_Contains.f s ⟨⟨[c]⟩⟩ = some (!(s.data.toList.all fun x => x != c)) :=
  strings_Contains.in _ _ (by rw [← idx_mem]; rfl)
theorem hunk_Lines_1_ev (s : ByteArray) : hunk_Lines_1.f s = some (!lineOk s) := by
  refine hunk_Lines_1.in _ ?_
  rw [contains_ev]
  unfold lineOk
  by_cases h : s.size ≤ 200
  · rw [decide_eq_false (show ¬ (s.size : Int) > 200 by omega), decide_eq_true h]; simp [gdT]
  · rw [decide_eq_true (show (s.size : Int) > 200 by omega), decide_eq_false h]; rfl
theorem indexFunc_ev (l : List ByteArray) (hl : l.length ≤ 9000000000000000000) : ∃ i, slices_IndexFunc_string_string_hunk_Lines_1.f l = some i ∧ decide (i ≥ 0) = !l.all lineOk := by
  let g : List ByteArray → Int := fun x => if x.all lineOk then -1 else ((l.length - x.length : Nat) : Int) + ((x.findIdx fun s => !lineOk s : Nat) : Int)
  refine ⟨g l, slices_IndexFunc_string_string_hunk_Lines_1.in _ ?_, ?_⟩
  · refine wh_list l (fun i (_ : Unit) => (l, (), (l.length : Int), i, ())) (fun _ _ => True) (fun x _ => g x) (fun _ r _ => ?_) (fun i _ r h _ hr => ?_) () trivial
    · simp [g]
    · have hr := hr () trivial
      simp (disch := omega) only [decide_eq_true_eq, if_pos, ix_, Option.bind_some, wS, hunk_Lines_1_ev, hr]
      have l0 : l.length - (l[i] :: l.drop (i + 1)).length = i := by simp; omega
      have l1 : l.length - (l.drop (i + 1)).length = i + 1 := by simp; omega
      simp only [g, l0, l1, List.all_cons, List.findIdx_cons]
      cases lineOk l[i] with
      | false => simp
      | true =>
        simp only [Bool.not_true, Bool.false_eq_true, if_false, Bool.true_and]
        congr 1
        split
        · rfl
        · simp; omega
  · simp only [g]
    split
    · rename_i h; rw [h]; rfl
    · rename_i h
      rw [Bool.eq_false_iff.2 h]
      simp <;> omega
theorem hunk_Lines_ev (l : List ByteArray) (hl : l.length ≤ 9000000000000000000) : hunk_Lines.f l = some (linesOk l) := by
  refine hunk_Lines.in _ ?_
  obtain ⟨i, h1, h2⟩ := indexFunc_ev l hl
  rw [slices_ContainsFunc_string_string_hunk_Lines_1.in l (r := !l.all lineOk) (by rw [h1, Option.bind_some, h2])]
  unfold linesOk
  by_cases h : l.length ≤ 1000
  · rw [decide_eq_true (show (l.length : Int) ≤ 1000 by omega), decide_eq_true h]; simp [gdT]
  · rw [decide_eq_false (show ¬ (l.length : Int) ≤ 1000 by omega), decide_eq_false h]; rfl
theorem rLine_ev (s : ByteArray) (hs : s.size ≤ 9000000000000000000) : quitclaimref11_Line.f s = some (lineOk s) := by
  have hl := len_text s
  refine quitclaimref11_Line.in _ ?_
  unfold lineOk
  rw [Bool.and_comm]
  refine wh_list s.data.toList (fun i (_ : Unit) => (s, i, ())) (fun _ _ => True) (fun l _ => (l.all fun c => c != 10) && decide (s.size ≤ 200)) (fun _ r _ => ?_) (fun i _ r h _ hr => ?_) () trivial
  · simp [hl]; omega
  · have hr := hr () trivial
    simp (disch := omega) only [decide_eq_true_eq, if_pos, bx_, Option.bind_some, wS, hr]
    rw [List.all_cons]
    by_cases hc : s.data.toList[i] = 10
    · rw [if_pos (by rw [hc]; rfl), hc]; rfl
    · rw [if_neg (show ¬ (((s.data.toList[i]).toNat : Int) = 10) from fun h => hc ((u8_lit (n := 10) (by omega)).1 h)), show (s.data.toList[i] != 10) = true from by simpa using hc, Bool.true_and]
theorem rLines_ev (l : List ByteArray) (hl : l.length ≤ 9000000000000000000) (hs : ∀ s ∈ l, s.size ≤ 9000000000000000000) : quitclaimref11_Lines.f l = some (linesOk l) := by
  refine quitclaimref11_Lines.in _ ?_
  unfold linesOk
  rw [Bool.and_comm]
  refine wh_list l (fun i (_ : Unit) => (l, i, ())) (fun _ _ => True) (fun x _ => x.all lineOk && decide (l.length ≤ 1000)) (fun _ r _ => ?_) (fun i _ r h _ hr => ?_) () trivial
  · simp; omega
  · have hr := hr () trivial
    have hz := hs _ (List.getElem_mem h)
    simp (disch := omega) only [decide_eq_true_eq, if_pos, ix_, Option.bind_some, wS, rLine_ev, hr]
    rw [List.all_cons]
    cases lineOk l[i] <;> rfl

/-! ### strings.Split at a byte -/
theorem count_spd (c : UInt8) : ∀ l : List UInt8, Lib.countByte l c + 1 = (spd c l).length
  | [] => rfl
  | b :: l => by
    have ih := count_spd c l
    have h := spd_ne c l
    rw [show spd c (b :: l) = if b = c then [] :: spd c l else glue [b] (spd c l) from rfl]
    change List.count c l + 1 = _ at ih
    change List.count c (b :: l) + 1 = _
    rw [List.count_cons]
    by_cases hb : b = c
    · rw [if_pos hb, if_pos (by rw [hb]; exact beq_iff_eq.2 rfl), List.length_cons, ← ih]
    · rw [if_neg hb, if_neg (by simpa using hb)]
      cases e : spd c l with
      | nil => exact absurd e h
      | cons a x => rw [e] at ih; simp [glue] at ih ⊢; omega
/-! ### lines of a text, and the text of lines -/
/-- All but the last piece, if the last one is empty. -/
def ends (p : List (List UInt8)) : Bool := p.getLast? == some []
theorem spd_app (d : UInt8) : ∀ l : List UInt8, spd d (l ++ [d]) = spd d l ++ [[]]
  | [] => by simp [spd]
  | c :: l => by
    have ih := spd_app d l
    have h := spd_ne d l
    show (if c = d then [] :: spd d (l ++ [d]) else glue [c] (spd d (l ++ [d]))) = (if c = d then [] :: spd d l else glue [c] (spd d l)) ++ [[]]
    rw [ih]
    split
    · rfl
    · cases e : spd d l with
      | nil => exact absurd e h
      | cons a x => rfl
theorem glue_last {p : List UInt8} (hp : p ≠ []) : ∀ {x : List (List UInt8)}, x ≠ [] → (glue p x).getLast? = if x.length = 1 then (x.getLast?.map (p ++ ·)) else x.getLast?
  | [], h => absurd rfl h
  | [a], _ => by simp [glue]
  | a :: b :: x, _ => by simp [glue]
theorem ends_iff (d : UInt8) : ∀ l : List UInt8, ends (spd d l) = true ↔ l = [] ∨ ∃ x, l = x ++ [d]
  | [] => by simp [spd, ends]
  | c :: l => by
    have ih := ends_iff d l
    have h := spd_ne d l
    unfold ends at ih ⊢
    rw [beq_iff_eq] at ih ⊢
    show (if c = d then [] :: spd d l else glue [c] (spd d l)).getLast? = some [] ↔ _
    constructor
    · intro hh
      refine .inr ?_
      split at hh
      · rename_i hc
        subst hc
        rw [List.getLast?_cons, Option.some.injEq] at hh
        have h2 : (spd c l).getLast? = some [] := by
          cases e : (spd c l).getLast? with
          | none => exact absurd (List.getLast?_eq_none_iff.1 e) h
          | some y => rw [e] at hh; simpa using hh
        rcases ih.1 h2 with rfl | ⟨x, rfl⟩
        · exact ⟨[], rfl⟩
        · exact ⟨c :: x, rfl⟩
      · rename_i hc
        rw [glue_last (by simp) h] at hh
        split at hh
        · rename_i h1
          obtain ⟨y, hy⟩ := List.length_eq_one_iff.1 h1
          rw [hy] at hh; simp at hh
        · rcases ih.1 hh with rfl | ⟨x, rfl⟩
          · rename_i h1; simp [spd] at h1
          · exact ⟨c :: x, rfl⟩
    · rintro (hh | ⟨x, hx⟩)
      · cases hh
      · have : (if c = d then [] :: spd d l else glue [c] (spd d l)) = spd d (c :: l) := rfl
        rw [this, hx, spd_app]
        simp
/-- The lines that a text has, if it is one of lines. -/
def hsplit (s : ByteArray) : List ByteArray × Bool := (((spd 10 s.data.toList).dropLast).map bmk, ends (spd 10 s.data.toList) && linesOk (((spd 10 s.data.toList).dropLast).map bmk))
theorem spd_bytes (d : UInt8) (l : List UInt8) (n : Nat) (h : l.length ≤ n) : ∀ s ∈ (spd d l).map bmk, s.size ≤ n := fun t ht => by
  obtain ⟨x, hx, rfl⟩ := List.mem_map.1 ht
  have := spd_size _ _ x hx
  rw [size_bmk]; omega
theorem dropLast_bytes (d : UInt8) (l : List UInt8) (n : Nat) (h : l.length ≤ n) : ∀ s ∈ ((spd d l).dropLast).map bmk, s.size ≤ n := fun t ht => by
  obtain ⟨x, hx, rfl⟩ := List.mem_map.1 ht
  exact spd_bytes d l n h _ (List.mem_map.2 ⟨x, List.dropLast_subset _ hx, rfl⟩)
/-- The text of lines. -/
def htext (l : List ByteArray) : List UInt8 := l.flatMap fun s => s.data.toList ++ [10]
theorem htext_split : ∀ l : List UInt8, ends (spd 10 l) = true → htext (((spd 10 l).dropLast).map bmk) = l := by
  have key : ∀ l : List UInt8, ∀ p : List (List UInt8), spd 10 l = p ++ [[]] → htext (p.map bmk) = l := by
    intro l
    induction l with
    | nil =>
      intro p hp
      cases p with
      | nil => rfl
      | cons a p => cases p <;> simp [spd] at hp
    | cons c l ih =>
      intro p hp
      have ne := spd_ne 10 l
      have e : spd 10 (c :: l) = if c = 10 then [] :: spd 10 l else glue [c] (spd 10 l) := rfl
      rw [e] at hp
      split at hp
      · rename_i hc
        subst hc
        cases p with
        | nil => simp at hp; exact absurd hp ne
        | cons a p =>
          simp only [List.cons_append, List.cons.injEq] at hp
          obtain ⟨rfl, hp⟩ := hp
          have := ih p hp
          simp [htext, list_bmk] at this ⊢
          rw [this]
      · cases hs : spd 10 l with
        | nil => exact absurd hs ne
        | cons a x =>
          rw [hs] at hp
          simp only [glue] at hp
          cases p with
          | nil => simp at hp
          | cons b p =>
            simp only [List.cons_append, List.cons.injEq] at hp
            obtain ⟨rfl, rfl⟩ := hp
            have := ih (a :: p) (by rw [hs]; rfl)
            simp [htext, list_bmk] at this ⊢
            rw [this]
  intro l h
  refine key l _ ?_
  unfold ends at h
  rw [beq_iff_eq] at h
  obtain ⟨ys, hy⟩ := List.getLast?_eq_some_iff.1 h
  rw [hy, List.dropLast_concat]
end Go.Proofs.YtmjkflppajienaaDoor.R.Pu
