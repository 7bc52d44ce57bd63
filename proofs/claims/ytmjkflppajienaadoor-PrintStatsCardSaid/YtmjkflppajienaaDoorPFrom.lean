/- Rows of files: cloned, told, held against one another, made a tree; the program's and the reference's, as one; no condition. -/
import Derived.Test.YtmjkflppajienaaDoorPTree
namespace Go.Proofs.YtmjkflppajienaaDoor.R.Pu
open Go Go.RowKit
set_option linter.unusedVariables false
set_option linter.unusedSimpArgs false

theorem drop_eq_iff {α : Type} {a b : List α} {i : Nat} (ha : i < a.length) (hb : i < b.length) : a.drop i = b.drop i ↔ a[i] = b[i] ∧ a.drop (i + 1) = b.drop (i + 1) := by
  rw [List.drop_eq_getElem_cons ha, List.drop_eq_getElem_cons hb, List.cons.injEq]
theorem equal_ev (a b : List ByteArray) (hl : a.length ≤ 1000000000) (hl' : b.length ≤ 1000000000) : slices_Equal_string_string.f a b = some (decide (a = b)) := by
  refine slices_Equal_string_string.in _ _ ?_
  by_cases hn : a.length = b.length
  · rw [decide_eq_true (show (a.length : Int) = (b.length : Int) by omega), if_neg (by decide)]
    refine (wh_ind (fun i : Nat => (a, b, (a.length : Int), (i : Int), ())) (fun i => i ≤ a.length) (fun i => a.length - i) (fun i => decide (a.drop i = b.drop i)) (fun i hi r hr => ?_) 0 (Nat.zero_le _)).trans (by simp)
    by_cases h : i < a.length
    · have hb : i < b.length := by omega
      have hr := hr (i + 1) h (by omega)
      simp (disch := omega) only [decide_eq_true_eq, if_pos, ix_, Option.bind_some, wS, hr]
      by_cases he : a[i] = b[i]
      · rw [decide_eq_true he, if_neg (by decide)]
        congr 1
        rw [decide_eq_decide, drop_eq_iff h hb]
        exact ⟨fun h => ⟨he, h⟩, fun h => h.2⟩
      · rw [decide_eq_false he, if_pos (by decide), decide_eq_false (fun h' => he ((drop_eq_iff h hb).1 h').1)]
    · simp (disch := omega) only [decide_eq_true_eq, if_neg]
      rw [List.drop_eq_nil_of_le (by omega), List.drop_eq_nil_of_le (by omega)]; rfl
  · rw [decide_eq_false (show ¬ (a.length : Int) = (b.length : Int) by omega), if_pos (by decide), decide_eq_false (fun h => hn (by rw [h]))]
/-! ### a tree of files -/
def frm : List File → List File → List File × Int
  | [], acc => bif decide (200 < acc.length) then ([], 14) else (acc, 0)
  | f :: l, acc => bif !right f.1 || !linesOk f.2.1 then ([], 3) else bif !decide (rm acc f.1 = 0) then ([], rm acc f.1) else frm l (put acc f)
theorem rm_zero {l : List File} {s : ByteArray} (h : rm l s = 0) : fnd l s = false := by
  unfold rm at h
  cases hf : fnd l s with
  | false => rfl
  | true => rw [hf] at h; cases h
theorem good_put {l : List File} {f : File} (h : Good l) (hf : right f.1 = true) : Good (put l f) := fun g hg => by
  rcases mem_put hg with rfl | hg
  · exact hf
  · exact h g hg
theorem linesOk_len {l : List ByteArray} (h : linesOk l = true) : l.length ≤ 1000 ∧ ∀ s ∈ l, s.size ≤ 200 := by
  unfold linesOk at h
  simp only [Bool.and_eq_true, decide_eq_true_eq, List.all_eq_true] at h
  refine ⟨h.1, fun s hs => ?_⟩
  have := h.2 s hs
  unfold lineOk at this
  simp only [Bool.and_eq_true, decide_eq_true_eq] at this
  exact this.1
/-- Files that are a tree's. -/
structure Tr (l : List File) : Prop where
  srt : Srt l
  good : Good l
  lines : ∀ f ∈ l, linesOk f.2.1 = true
theorem Tr.nil : Tr [] := ⟨List.Pairwise.nil, fun f hf => (by cases hf), fun f hf => (by cases hf)⟩
theorem Tr.put {l : List File} {f : File} (T : Tr l) (h1 : right f.1 = true) (h2 : linesOk f.2.1 = true) : Tr (put l f) :=
  ⟨srt_put T.srt, good_put T.good h1, fun g hg => by
    rcases mem_put hg with rfl | hg
    · exact h2
    · exact T.lines g hg⟩
theorem frm_tr : ∀ (l acc : List File), Tr acc → Tr (frm l acc).1 ∧ (frm l acc).1.length ≤ acc.length + l.length ∧ (frm l acc).1.length ≤ 200
  | [], acc, T => by
    unfold frm
    by_cases h : 200 < acc.length
    · rw [decide_eq_true h]; exact ⟨Tr.nil, by simp, by simp⟩
    · rw [decide_eq_false h]; exact ⟨T, by simp, by simp only [cond_false]; omega⟩
  | f :: l, acc, T => by
    unfold frm
    cases h1 : right f.1 with
    | false => exact ⟨Tr.nil, by simp, by simp⟩
    | true =>
      cases h2 : linesOk f.2.1 with
      | false => exact ⟨Tr.nil, by simp, by simp⟩
      | true =>
        cases h3 : decide (rm acc f.1 = 0) with
        | false => exact ⟨Tr.nil, by simp, by simp⟩
        | true =>
          have := frm_tr l (Pu.put acc f) (T.put h1 h2)
          have h4 := put_len (l := acc) (f := f)
          simp only [Bool.not_true, Bool.or_false, cond_false, List.length_cons]
          exact ⟨this.1, by omega, this.2.2⟩
end Go.Proofs.YtmjkflppajienaaDoor.R.Pu
