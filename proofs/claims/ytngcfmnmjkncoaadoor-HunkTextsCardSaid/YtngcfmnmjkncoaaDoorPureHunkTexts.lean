/- HunkTexts' pure statement: lines are the text, a text its lines, that the reference says; no condition. -/
import Derived.Test.YtngcfmnmjkncoaaDoorPureHunk
import Derived.Test.YtngcfmnmjkncoaaDoorPureLines
namespace Go.Proofs.YtngcfmnmjkncoaaDoor.PureT
open Go Go.RowKit Go.Proofs.YtngcfmnmjkncoaaDoor.Q Go.Proofs.YtngcfmnmjkncoaaDoor.Pu Go.Proofs.YtngcfmnmjkncoaaDoor.PureL
open Go.Proofs.YtngcfmnmjkncoaaDoor.PureS (good bad lines rlines same same1 awake long short)
set_option linter.unusedVariables false

theorem app_list (x y : ByteArray) : (x ++ y).data.toList = x.data.toList ++ y.data.toList := by
  rw [ByteArray.data_append, Array.toList_append]
/-- Lines' text. -/
def txt (l : List ByteArray) : List UInt8 := l.flatMap fun s => s.data.toList ++ [10]
theorem txt_cons (p : ByteArray) (l : List ByteArray) : txt (p :: l) = (p ++ (⟨#[10]⟩ : ByteArray)).data.toList ++ txt l := by
  unfold txt
  rw [List.flatMap_cons, app_list]
theorem write_ (xs : List UInt8) (s : ByteArray) (h : xs.length + s.size ≤ 140737488355328) : strings_Builder_WriteString.f xs s = some (xs ++ s.data.toList, (s.size : Int)) := by
  unfold strings_Builder_WriteString.f strings_Builder_copyCheck.f
  rw [Option.bind_some]
  unfold bcat
  rw [if_pos h]; rfl
theorem line_end (s : ByteArray) (h : s.size ≤ 1000) : cat s (⟨#[10]⟩ : ByteArray) = some (s ++ (⟨#[10]⟩ : ByteArray)) := by
  unfold cat; rw [if_pos (by show s.size + 1 ≤ _; omega)]
theorem len_ (s : ByteArray) : s.data.toList.length = s.size := Array.length_toList
theorem end_size (s : ByteArray) : (s ++ (⟨#[10]⟩ : ByteArray)).size = s.size + 1 := by rw [ByteArray.size_append]; rfl
theorem text_loop (a : List ByteArray) (hl : a.length ≤ 1000) (hs : ∀ p ∈ a, p.size ≤ 1000) : ∀ (n i : Nat) (acc : List UInt8), i + n = a.length → acc.length ≤ i * 1001 → Ev (fun k => hunk_Text.l0 a k (i : Int) acc) (mk (acc ++ txt (a.drop i))) := by
  intro n
  induction n with
  | zero =>
    intro i acc hi ha
    have hlt : ¬ ((i : Int) < (a.length : Int)) := by omega
    refine Ev.stepc fun k => ?_
    rw [hunk_Text.l0, if_neg hlt, List.drop_eq_nil_of_le (by omega)]
    unfold txt
    rw [List.flatMap_nil, List.append_nil]
    rfl
  | succ n ih =>
    intro i acc hi ha
    have h1 : i < a.length := by omega
    have hp := hs _ (List.getElem_mem h1)
    have hm : i * 1001 ≤ 1000 * 1001 := Nat.mul_le_mul_right _ (by omega)
    have q := ih (i + 1) (acc ++ (a[i] ++ (⟨#[10]⟩ : ByteArray)).data.toList) (by omega) (by rw [List.length_append, len_, end_size]; omega)
    have e : acc ++ txt (a.drop i) = (acc ++ (a[i] ++ (⟨#[10]⟩ : ByteArray)).data.toList) ++ txt (a.drop (i + 1)) := by
      rw [drop_at h1, txt_cons, List.append_assoc]
    rw [e]
    refine Ev.step q fun k => ?_
    rw [hunk_Text.l0, if_pos (by omega), ix_ h1, Option.bind_some, line_end _ hp, Option.bind_some, write_ _ _ (by rw [end_size]; omega), Option.bind_some, w (by omega) (by omega)]
    rfl
theorem text_ev (a : List ByteArray) (hl : a.length ≤ 1000) (hs : ∀ p ∈ a, p.size ≤ 1000) : Ev (fun k => hunk_Text.f k a) (mk (txt a)) := by
  have q := text_loop a hl hs a.length 0 [] (by omega) (by simp)
  rw [List.drop_zero, List.nil_append] at q
  exact q
theorem rtext_loop (a : List ByteArray) (hl : a.length ≤ 1000) (hs : ∀ p ∈ a, p.size ≤ 1000) : ∀ (n i : Nat) (acc : ByteArray), i + n = a.length → acc.size ≤ i * 1001 → Ev (fun k => quitclaimref11_Text.l0 a k acc (i : Int)) (mk (acc.data.toList ++ txt (a.drop i))) := by
  intro n
  induction n with
  | zero =>
    intro i acc hi ha
    have hlt : ¬ ((i : Int) < (a.length : Int)) := by omega
    refine Ev.stepc fun k => ?_
    rw [quitclaimref11_Text.l0, if_neg hlt, List.drop_eq_nil_of_le (by omega)]
    unfold txt
    rw [List.flatMap_nil, List.append_nil, mk_list]
  | succ n ih =>
    intro i acc hi ha
    have h1 : i < a.length := by omega
    have hp := hs _ (List.getElem_mem h1)
    have hm : i * 1001 ≤ 1000 * 1001 := Nat.mul_le_mul_right _ (by omega)
    have hc : cat acc (a[i] ++ (⟨#[10]⟩ : ByteArray)) = some (acc ++ (a[i] ++ (⟨#[10]⟩ : ByteArray))) := by unfold cat; rw [if_pos (by rw [end_size]; omega)]
    have q := ih (i + 1) (acc ++ (a[i] ++ (⟨#[10]⟩ : ByteArray))) (by omega) (by rw [ByteArray.size_append, end_size]; omega)
    have e : acc.data.toList ++ txt (a.drop i) = (acc ++ (a[i] ++ (⟨#[10]⟩ : ByteArray))).data.toList ++ txt (a.drop (i + 1)) := by
      rw [drop_at h1, txt_cons, app_list acc, List.append_assoc]
    rw [e]
    refine Ev.step q fun k => ?_
    rw [quitclaimref11_Text.l0, if_pos (by omega), ix_ h1, Option.bind_some, line_end _ hp, Option.bind_some, hc, Option.bind_some, w (by omega) (by omega)]
    rfl
theorem rtext_ev (a : List ByteArray) (hl : a.length ≤ 1000) (hs : ∀ p ∈ a, p.size ≤ 1000) : Ev (fun k => quitclaimref11_Text.f k a) (mk (txt a)) :=
  rtext_loop a hl hs a.length 0 ⟨#[]⟩ (by omega) (by simp [ByteArray.size])

/-! ### the lines of a text -/
/-- What is behind the last line's end. -/
def rest (P : List (List UInt8)) : List UInt8 := P.getLast?.getD []
theorem dropLast_cons {a : List UInt8} {P : List (List UInt8)} (h : P ≠ []) : (a :: P).dropLast = a :: P.dropLast := by cases P with | nil => exact absurd rfl h | cons b r => rfl
theorem rest_cons {a : List UInt8} {P : List (List UInt8)} (h : P ≠ []) : rest (a :: P) = rest P := by
  cases P with
  | nil => exact absurd rfl h
  | cons b r => simp [rest]
theorem rsplit_loop (s : ByteArray) (hs : s.size ≤ 1000) : ∀ (n i : Nat) (out : List ByteArray) (now : ByteArray), i + n = s.size → out.length ≤ i → now.size ≤ i → (∀ p ∈ out, p.size ≤ 1000000) →
    Ev (fun k => quitclaimref11_Split.l0 s k out now (i : Int)) (out ++ ((glue now.data.toList (spl (s.data.toList.drop i))).dropLast).map mk,
      ((rest (glue now.data.toList (spl (s.data.toList.drop i))) == []) && good (out ++ ((glue now.data.toList (spl (s.data.toList.drop i))).dropLast).map mk))) := by
  have hl : s.data.toList.length = s.size := Array.length_toList
  intro n
  induction n with
  | zero =>
    intro i out now hi ho hn hsz
    have hlt : ¬ ((i : Int) < (s.size : Int)) := by omega
    have e0 : s.data.toList.drop i = [] := List.drop_eq_nil_of_le (by omega)
    have eg : glue now.data.toList (spl []) = [now.data.toList] := by simp [spl, glue]
    rw [e0, eg]
    refine Ev.step (f := fun k => (gd (decide (now = ⟨#[]⟩)) (quitclaimref11_Lines.f k out)).bind fun x18 => some (out, (decide (now = ⟨#[]⟩) && x18))) ?_ fun k => by rw [quitclaimref11_Split.l0, if_neg hlt]
    have ed : decide (now = ⟨#[]⟩) = (now.data.toList == []) := by
      rw [Bool.eq_iff_iff, decide_eq_true_eq, beq_iff_eq]
      constructor
      · rintro rfl; rfl
      · intro h; rw [← mk_list now, h]; rfl
    rw [ed, show rest [now.data.toList] = now.data.toList from rfl, show ([now.data.toList] : List (List UInt8)).dropLast = [] from rfl, List.map_nil, List.append_nil]
    cases (now.data.toList == []) with
    | false => exact Ev.bind (Ev.g0 rfl) (Ev.const _)
    | true => exact Ev.bind (Ev.g1 rfl (rlines out (by omega) hsz)) (Ev.const _)
  | succ n ih =>
    intro i out now hi ho hn hsz
    have h1 : i < s.data.toList.length := by omega
    have hi1 : ((i : Int) < (s.size : Int)) := by omega
    rw [List.drop_eq_getElem_cons h1]
    unfold spl
    by_cases hc : s.data.toList[i] = 10
    · rw [if_pos hc]
      have q := ih (i + 1) (out ++ [now]) ⟨#[]⟩ (by omega) (by simp; omega) (by simp [ByteArray.size]) (fun p hp => by
        rcases List.mem_append.1 hp with hp | hp
        · exact hsz p hp
        · obtain rfl : p = now := by simpa using hp
          omega)
      have e1 : glue (⟨#[]⟩ : ByteArray).data.toList (spl (s.data.toList.drop (i + 1))) = spl (s.data.toList.drop (i + 1)) := glue_nil (spl_ne _)
      have e2 : glue now.data.toList ([] :: spl (s.data.toList.drop (i + 1))) = now.data.toList :: spl (s.data.toList.drop (i + 1)) := by simp [glue]
      rw [e1, List.append_assoc, List.singleton_append] at q
      rw [e2, dropLast_cons (spl_ne _), rest_cons (spl_ne _), List.map_cons, mk_list]
      refine Ev.step q fun k => ?_
      rw [quitclaimref11_Split.l0, if_pos hi1, bx_ h1, Option.bind_some, if_pos (by rw [hc]; rfl), ap_ (by rw [List.length_singleton]; omega), Option.bind_some, w (by omega) (by omega)]
      rfl
    · rw [if_neg hc]
      have e3 : s.extract i (i + 1) = mk [s.data.toList[i]] := ext (by rw [cut_list, list_mk, List.take_succ_eq_append_getElem h1, List.drop_append_of_le_length (by rw [List.length_take]; omega), List.drop_of_length_le (by rw [List.length_take]; omega), List.nil_append])
      have hcat : cat now (mk [s.data.toList[i]]) = some (now ++ mk [s.data.toList[i]]) := by unfold cat; rw [if_pos (by rw [size_mk, List.length_singleton]; omega)]
      have q := ih (i + 1) out (now ++ mk [s.data.toList[i]]) (by omega) (by omega) (by rw [ByteArray.size_append, size_mk, List.length_singleton]; omega) hsz
      rw [app_list, list_mk, ← glue_glue _ _ (spl_ne _)] at q
      refine Ev.step q fun k => ?_
      rw [quitclaimref11_Split.l0, if_pos hi1, bx_ h1, Option.bind_some, if_neg (by
        intro h
        apply hc
        apply UInt8.toNat.inj
        have : (s.data.toList[i]).toNat = 10 := by omega
        exact this), w (by omega) (by omega)]
      have hsub := sub_ (s := s) (i := i) (j := i + 1) (by omega) (by omega)
      rw [show ((i : Int) + 1) = ((i + 1 : Nat) : Int) from rfl, hsub, Option.bind_some, e3, hcat, Option.bind_some]
theorem rsplit_ev (s : ByteArray) (hs : s.size ≤ 1000) : Ev (fun k => quitclaimref11_Split.f k s) (((spl s.data.toList).dropLast).map mk, ((rest (spl s.data.toList) == []) && good (((spl s.data.toList).dropLast).map mk))) := by
  have q := rsplit_loop s hs s.size 0 [] ⟨#[]⟩ (by omega) (by simp) (by simp [ByteArray.size]) (by simp)
  rw [List.drop_zero, show glue (⟨#[]⟩ : ByteArray).data.toList (spl s.data.toList) = spl s.data.toList from glue_nil (spl_ne _), List.nil_append] at q
  exact q
theorem spl_snoc (c : UInt8) (l : List UInt8) : spl (l ++ [c]) = if c = 10 then spl l ++ [[]] else (spl l).dropLast ++ [rest (spl l) ++ [c]] := by
  induction l with
  | nil =>
    by_cases h : c = 10
    · simp [spl, h]
    · simp [spl, h, glue, rest]
  | cons a l ih =>
    rw [List.cons_append, spl_cons, ih, spl_cons]
    have ne := spl_ne l
    by_cases h : c = 10
    · rw [if_pos h, if_pos h]
      by_cases ha : a = 10
      · rw [if_pos ha, if_pos ha]; rfl
      · rw [if_neg ha, if_neg ha]
        cases e : spl l with
        | nil => exact absurd e ne
        | cons x y => rfl
    · rw [if_neg h, if_neg h]
      by_cases ha : a = 10
      · rw [if_pos ha, if_pos ha, dropLast_cons ne, rest_cons ne]; rfl
      · rw [if_neg ha, if_neg ha]
        cases e : spl l with
        | nil => exact absurd e ne
        | cons x y =>
          cases y with
          | nil => simp [glue, rest]
          | cons z t => simp [glue, rest, List.dropLast]
theorem snoc_of (l : List UInt8) (h : l ≠ []) : ∃ r c, l = r ++ [c] := ⟨l.dropLast, l.getLast h, (List.dropLast_concat_getLast h).symm⟩
theorem rest_app (P : List (List UInt8)) (x : List UInt8) : rest (P ++ [x]) = x := by simp [rest]
theorem split_hunk (s : ByteArray) (hs : s.size ≤ 1000) : Ev (fun k => hunk_Split.f k s) (if ((rest (spl s.data.toList) == []) && good (((spl s.data.toList).dropLast).map mk)) = true then (((spl s.data.toList).dropLast).map mk, 0) else ([], 3)) := by
  have hl : s.data.toList.length = s.size := Array.length_toList
  unfold hunk_Split.f
  by_cases h0 : s = ⟨#[]⟩
  · subst h0
    refine Ev.to (Ev.pos rfl (Ev.const _)) ?_
    decide +kernel
  · refine Ev.neg h0 ?_
    obtain ⟨r, c, hrc⟩ := snoc_of s.data.toList (fun e => h0 (by rw [← mk_list s, e]; rfl))
    have hrl : r.length + 1 = s.size := by rw [← hl, hrc]; simp
    have hsz : (⟨#[10]⟩ : ByteArray).size = 1 := rfl
    have e1 : w64 ((s.size : Int) - ((⟨#[10]⟩ : ByteArray).size : Int)) = (r.length : Int) := by rw [hsz, w (by omega) (by omega)]; omega
    have hcut1 : sub s (r.length : Int) (s.size : Int) = some (mk [c]) := by
      rw [sub_ (by omega) (Nat.le_refl _)]
      congr 1
      refine ext ?_
      rw [cut_list, list_mk, hrc, ← hrl]
      rw [List.take_of_length_le (by simp), List.drop_left]
    have hcut2 : sub s 0 (r.length : Int) = some (mk r) := by
      have := sub_ (s := s) (i := 0) (j := r.length) (by omega) (by omega)
      rw [show ((0 : Nat) : Int) = 0 from rfl] at this
      rw [this]
      congr 1
      refine ext ?_
      rw [cut_list, list_mk, hrc, List.drop_zero, List.take_left]
    have hsuf : internal_stringslite_HasSuffix.f s ⟨#[10]⟩ = some (decide (mk [c] = ⟨#[10]⟩)) := by
      unfold internal_stringslite_HasSuffix.f
      rw [hsz] at e1 ⊢
      rw [decide_eq_true (show (s.size : Int) ≥ ((1 : Nat) : Int) by omega), e1, hcut1]
      rfl
    have ec : decide (mk [c] = ⟨#[10]⟩) = decide (c = 10) := by
      rw [decide_eq_decide]
      constructor
      · intro h; have := congrArg (fun x : ByteArray => x.data.toList) h; simpa [mk] using this
      · rintro rfl; rfl
    have hcs : strings_CutSuffix.f s ⟨#[10]⟩ = some (if c = 10 then (mk r, true) else (s, false)) := by
      unfold strings_CutSuffix.f internal_stringslite_CutSuffix.f
      rw [hsuf, ec, Option.bind_some]
      by_cases hc : c = 10
      · rw [decide_eq_true hc, if_neg (by decide), e1, hcut2, if_pos hc]; rfl
      · rw [decide_eq_false hc, if_pos (by decide), if_neg hc]; rfl
    refine Ev.now hcs ?_
    by_cases hc : c = 10
    · simp only [if_pos hc]
      have hsp : spl s.data.toList = spl r ++ [[]] := by rw [hrc, spl_snoc, if_pos hc]
      refine Ev.bind (split_code (mk r) (by rw [size_mk]; omega)) ?_
      rw [list_mk, hsp, rest_app, List.dropLast_concat]
      refine Ev.bind (Ev.g1 rfl (lines _)) ?_
      cases good ((spl r).map mk) with
      | false => exact Ev.pos rfl (Ev.const _)
      | true => exact Ev.neg (by decide) (Ev.const _)
    · simp only [if_neg hc]
      have hsp : spl s.data.toList = (spl r).dropLast ++ [rest (spl r) ++ [c]] := by rw [hrc, spl_snoc, if_neg hc]
      refine Ev.bind (split_code s (by omega)) (Ev.bind (Ev.g0 rfl) ?_)
      have e5 : (rest (spl s.data.toList) == []) = false := by rw [hsp, rest_app]; simp
      rw [e5, Bool.false_and]
      exact Ev.pos rfl (Ev.const _)
theorem txt_spl (l : List UInt8) : txt (((spl l).dropLast).map mk) ++ rest (spl l) = l := by
  induction l with
  | nil => rfl
  | cons a l ih =>
    rw [spl_cons]
    have ne := spl_ne l
    by_cases ha : a = 10
    · rw [if_pos ha, dropLast_cons ne, rest_cons ne, List.map_cons]
      unfold txt at ih ⊢
      rw [List.flatMap_cons, list_mk, List.nil_append, List.append_assoc, ih, ha]; rfl
    · rw [if_neg ha]
      cases e : spl l with
      | nil => exact absurd e ne
      | cons x y =>
        rw [e] at ih
        cases y with
        | nil =>
          simp only [List.dropLast, List.map_nil] at ih
          simp only [glue, List.dropLast, List.map_nil]
          have e1 : rest [x] = x := rfl
          have e2 : rest [[a] ++ x] = [a] ++ x := rfl
          rw [e1] at ih
          rw [e2]
          unfold txt at ih ⊢
          rw [List.flatMap_nil, List.nil_append] at ih ⊢
          rw [ih]; rfl
        | cons z t =>
          simp only [glue]
          rw [dropLast_cons (by simp), rest_cons (by simp), List.map_cons] at ih ⊢
          unfold txt at ih ⊢
          rw [List.flatMap_cons, list_mk] at ih ⊢
          rw [← ih]
          simp [List.append_assoc]
theorem spl_size (l : List UInt8) : ∀ x ∈ spl l, x.length ≤ l.length := by
  induction l with
  | nil => intro x hx; simp [spl] at hx; simp [hx]
  | cons c l ih =>
    intro x hx
    rw [spl_cons] at hx
    split at hx
    · rcases List.mem_cons.1 hx with rfl | hx
      · simp
      · have := ih x hx; simp; omega
    · have h := spl_ne l
      cases e : spl l with
      | nil => exact absurd e h
      | cons a y =>
        rw [e] at hx ih
        rcases List.mem_cons.1 hx with rfl | hx
        · have := ih a (List.mem_cons_self ..); simp; omega
        · have := ih x (List.mem_cons_of_mem _ hx); simp; omega
theorem law (a : List ByteArray) (s : ByteArray) : Ev (fun k => quitclaimlaw11_HunkTexts.f k a s) true := by
  unfold quitclaimlaw11_HunkTexts.f
  obtain ⟨b, hb, hsh⟩ := long [a] (by simp)
  refine Ev.bind hb ?_
  cases b with
  | true => exact Ev.pos rfl (Ev.bind awake (Ev.const _))
  | false =>
    by_cases h6 : (s.size : Int) > 600
    · exact Ev.pos (by rw [decide_eq_true h6]; rfl) (Ev.bind awake (Ev.const _))
    · refine Ev.neg (by rw [decide_eq_false h6]; decide) ?_
      have ha := hsh rfl a (by simp)
      have hl : s.data.toList.length = s.size := Array.length_toList
      have hsl := spl_len s.data.toList
      refine Ev.bind (split_hunk s (by omega)) (Ev.bind (rsplit_ev s (by omega)) (Ev.bind (text_ev a (by have := ha.1; omega) (fun p hp => by have := ha.2 p hp; omega)) (Ev.bind (rtext_ev a (by have := ha.1; omega) (fun p hp => by have := ha.2 p hp; omega)) ?_)))
      cases hok : ((rest (spl s.data.toList) == []) && good (((spl s.data.toList).dropLast).map mk)) with
      | false =>
        simp only [Bool.false_eq_true, if_false]
        refine Ev.neg (by simp) (Ev.pos rfl ?_)
        exact Ev.to (Ev.bind (Ev.g1 (by decide) awake) (Ev.const _)) (by decide)
      | true =>
        simp only [if_true]
        refine Ev.neg (by simp) (Ev.neg (by decide) ?_)
        have hlen : (((spl s.data.toList).dropLast).map mk).length ≤ 1000 := by rw [List.length_map, List.length_dropLast]; omega
        refine Ev.bind (same1 _ (by omega)) ?_
        have htx : mk (txt (((spl s.data.toList).dropLast).map mk)) = s := by
          have h := txt_spl s.data.toList
          simp only [Bool.and_eq_true, beq_iff_eq] at hok
          rw [hok.1, List.append_nil] at h
          rw [h, mk_list]
        have q := text_ev (((spl s.data.toList).dropLast).map mk) hlen (fun p hp => by
          obtain ⟨x, hx, rfl⟩ := List.mem_map.1 hp
          have := spl_size _ x (List.dropLast_subset _ hx)
          rw [size_mk]; omega)
        rw [htx] at q
        refine Ev.bind (Ev.g1 rfl q) ?_
        exact Ev.to (Ev.bind (Ev.g1 (by simp) awake) (Ev.const _)) (by simp)
end Go.Proofs.YtngcfmnmjkncoaaDoor.PureT
namespace Go.Proofs.YtngcfmnmjkncoaaDoor.Pure
theorem hunkTexts (a : List ByteArray) (s : ByteArray) : ∃ k, Q.quitclaimlaw11_HunkTexts.f k a s = some true := by
  obtain ⟨K, h⟩ := PureT.law a s
  exact ⟨K, h K (Nat.le_refl _)⟩
end Go.Proofs.YtngcfmnmjkncoaaDoor.Pure
