/- Paths: what the functions of the package path and of its reference answer, as one; no condition. -/
import Derived.Test.YtmjkflppajienaaDoorPu
import Derived.Test.YtmjkflppajienaaDoorF
namespace Go.Proofs.YtmjkflppajienaaDoor.R.Pu
open Go Go.RowKit
set_option linter.unusedVariables false
set_option linter.unusedSimpArgs false

/-! ### parts -/
def lt (b : Int) : Bool := decide ((97 ≤ b ∧ b ≤ 122) ∨ (48 ≤ b ∧ b ≤ 57) ∨ b = 46 ∨ b = 95 ∨ b = 45)
def lets (l : List UInt8) : Bool := l.all fun c => lt (c.toNat : Int)
theorem lt_eq (b : Int) : (decide (b ≥ 97) && decide (b ≤ 122) || decide (b ≥ 48) && decide (b ≤ 57) || decide (b = 46) || decide (b = 95) || decide (b = 45)) = lt b := by
  unfold lt
  rw [Bool.eq_iff_iff]
  simp only [Bool.or_eq_true, Bool.and_eq_true, decide_eq_true_eq]
  omega
def part (s : ByteArray) : Bool := !(s.data.toList == []) && (!(s.data.toList == [46]) && (!(s.data.toList == [46, 46]) && lets s.data.toList))
theorem path_part_ev (s : ByteArray) (hs : s.size ≤ 9000000000000000000) : path_part.f s = some (part s) := by
  have hl := len_text s
  refine path_part.in _ ?_
  rw [eqb s [], eqb s [46], eqb s [46, 46]]
  unfold part
  cases s.data.toList == [] with
  | true => rfl
  | false =>
  cases s.data.toList == [46] with
  | true => rfl
  | false =>
  cases s.data.toList == [46, 46] with
  | true => rfl
  | false =>
  simp only [Bool.or_false, Bool.not_false, Bool.true_and, Bool.false_eq_true, if_false]
  refine wh_list s.data.toList (fun i (_ : Unit) => (s, (s.size : Int), i, ())) (fun _ _ => True) (fun l _ => lets l) (fun _ r _ => ?_) (fun i _ r h _ hr => ?_) () trivial
  · simp [hl, lets]
  · have hr := hr () trivial
    simp (disch := omega) only [decide_eq_true_eq, if_pos, bx_, Option.bind_some, wS, lt_eq, hr]
    unfold lets
    rw [List.all_cons]
    cases lt ((s.data.toList[i]).toNat : Int) <;> rfl
def abc : List UInt8 := [97, 98, 99, 100, 101, 102, 103, 104, 105, 106, 107, 108, 109, 110, 111, 112, 113, 114, 115, 116, 117, 118, 119, 120, 121, 122, 48, 49, 50, 51, 52, 53, 54, 55, 56, 57, 46, 95, 45]
theorem abc_lt : ∀ n : _root_.Fin 256, (abc.any fun c => decide ((c.toNat : Int) = (n.val : Int))) = lt (n.val : Int) := by decide +kernel
theorem letter_ev (c : UInt8) : quitclaimref10_letter.f (c.toNat : Int) = some (lt (c.toNat : Int)) := by
  refine quitclaimref10_letter.in _ ?_
  have e := abc_lt ⟨c.toNat, c.toNat_lt⟩
  rw [← e]
  refine wh_list abc (fun i (_ : Unit) => ((c.toNat : Int), (⟨⟨abc⟩⟩ : ByteArray), i, ())) (fun _ _ => True) (fun l _ => l.any fun x => decide ((x.toNat : Int) = (c.toNat : Int))) (fun _ r _ => ?_) (fun i _ r h _ hr => ?_) () trivial
  · rfl
  · have hr := hr () trivial
    have h39 : abc.length = 39 := rfl
    have hz : (⟨⟨abc⟩⟩ : ByteArray).size = 39 := rfl
    have hb := bx_ (s := ⟨⟨abc⟩⟩) (i := i) h
    rw [List.any_cons]
    simp (disch := omega) only [decide_eq_true_eq, if_pos, hz, hb, Option.bind_some, wS, hr]
    show (if ((abc[i]).toNat : Int) = (c.toNat : Int) then some true else _) = _
    by_cases hq : ((abc[i]).toNat : Int) = (c.toNat : Int)
    · rw [if_pos hq, decide_eq_true hq]; rfl
    · rw [if_neg hq, decide_eq_false hq]; rfl
theorem size_nil (s : ByteArray) : decide ((s.size : Int) = 0) = (s.data.toList == []) := by
  have hl := len_text s
  rw [Bool.eq_iff_iff, decide_eq_true_eq, beq_iff_eq, ← List.length_eq_zero_iff]
  omega
theorem rpart_ev (s : ByteArray) (hs : s.size ≤ 9000000000000000000) : quitclaimref10_Part.f s = some (part s) := by
  have hl := len_text s
  refine quitclaimref10_Part.in _ ?_
  rw [size_nil, eqb s [46], eqb s [46, 46]]
  unfold part
  cases s.data.toList == [] with
  | true => rfl
  | false =>
  cases s.data.toList == [46] with
  | true => rfl
  | false =>
  cases s.data.toList == [46, 46] with
  | true => rfl
  | false =>
  simp only [Bool.or_false, Bool.not_false, Bool.true_and, Bool.false_eq_true, if_false]
  refine wh_list s.data.toList (fun i (_ : Unit) => (s, i, ())) (fun _ _ => True) (fun l _ => lets l) (fun _ r _ => ?_) (fun i _ r h _ hr => ?_) () trivial
  · simp [hl, lets]
  · have hr := hr () trivial
    simp (disch := omega) only [decide_eq_true_eq, if_pos, bx_, Option.bind_some, wS, letter_ev, hr]
    unfold lets
    rw [List.all_cons]
    cases lt ((s.data.toList[i]).toNat : Int) <;> rfl

/-! ### what stands between slashes -/
def glue (p : List UInt8) : List (List UInt8) → List (List UInt8)
  | [] => [p]
  | x :: xs => (p ++ x) :: xs
/-- What stands between bytes d. -/
def spd (d : UInt8) : List UInt8 → List (List UInt8)
  | [] => [[]]
  | c :: l => if c = d then [] :: spd d l else glue [c] (spd d l)
theorem glue_ne (p : List UInt8) (x : List (List UInt8)) : glue p x ≠ [] := by cases x <;> simp [glue]
theorem spd_ne (d : UInt8) (l : List UInt8) : spd d l ≠ [] := by
  cases l with
  | nil => simp [spd]
  | cons c l =>
    unfold spd
    split
    · simp
    · exact glue_ne _ _
theorem glue_nil {x : List (List UInt8)} (h : x ≠ []) : glue [] x = x := by
  cases x with
  | nil => exact absurd rfl h
  | cons a x => rfl
theorem glue_glue (p q : List UInt8) {x : List (List UInt8)} (h : x ≠ []) : glue p (glue q x) = glue (p ++ q) x := by
  cases x with
  | nil => exact absurd rfl h
  | cons a x => simp [glue]
theorem spd_len (d : UInt8) (l : List UInt8) : (spd d l).length ≤ l.length + 1 := by
  induction l with
  | nil => simp [spd]
  | cons c l ih =>
    unfold spd
    split
    · simp; omega
    · have h := spd_ne d l
      cases e : spd d l with
      | nil => exact absurd e h
      | cons a x => rw [e] at ih; simp [glue] at ih ⊢; omega
/-- By the first such byte. -/
theorem spd_idx (d : UInt8) (l : List UInt8) : (Lib.indexByte l d < 0 → spd d l = [l]) ∧ (∀ m : Nat, Lib.indexByte l d = (m : Int) → spd d l = l.take m :: spd d (l.drop (m + 1))) := by
  induction l with
  | nil => exact ⟨fun _ => rfl, fun m h => by unfold Lib.indexByte at h; omega⟩
  | cons c l ih =>
    have ge := Lib.indexByte_ge l d
    unfold Lib.indexByte
    rw [show spd d (c :: l) = if c = d then [] :: spd d l else glue [c] (spd d l) from rfl]
    by_cases hc : c = d
    · rw [if_pos (by rw [hc]; exact beq_iff_eq.2 rfl), if_pos hc]
      refine ⟨fun h => by omega, fun m h => ?_⟩
      obtain rfl : m = 0 := by omega
      rfl
    · rw [if_neg (by simpa using hc), if_neg hc]
      split
      next h =>
        have h1 := beq_iff_eq.1 h
        refine ⟨fun _ => ?_, fun m hm => by omega⟩
        rw [ih.1 (by omega)]
        rfl
      next h =>
        have h1 : Lib.indexByte l d ≠ -1 := fun e => h (by rw [e]; rfl)
        refine ⟨fun hh => by omega, fun m hm => ?_⟩
        obtain ⟨j, hj⟩ := Int.eq_ofNat_of_zero_le (show 0 ≤ Lib.indexByte l d by omega)
        obtain rfl : m = j + 1 := by omega
        rw [ih.2 j hj]
        simp [glue]
theorem spd_size (d : UInt8) (l : List UInt8) : ∀ x ∈ spd d l, x.length ≤ l.length := by
  induction l with
  | nil => intro x hx; simp [spd] at hx; simp [hx]
  | cons c l ih =>
    intro x hx
    rw [show spd d (c :: l) = if c = d then [] :: spd d l else glue [c] (spd d l) from rfl] at hx
    split at hx
    · rcases List.mem_cons.1 hx with rfl | hx
      · simp
      · have := ih x hx; simp; omega
    · have h := spd_ne d l
      cases e : spd d l with
      | nil => exact absurd e h
      | cons a y =>
        rw [e] at hx ih
        rcases List.mem_cons.1 hx with rfl | hx
        · have := ih a (List.mem_cons_self ..); simp; omega
        · have := ih x (List.mem_cons_of_mem _ hx); simp; omega
/-- What strings.SplitSeq yields. -/
theorem spc_eq (c : UInt8) : ∀ (n : Nat) (s : ByteArray), s.size ≤ n → spc c n s = (spd c s.data.toList).map bmk
  | 0, s, h => by
    have hl := len_text s
    have e : s.data.toList = [] := List.eq_nil_of_length_eq_zero (by omega)
    rw [e]
    show [s] = [bmk []]
    rw [← bmk_list s, e]
  | n + 1, s, h => by
    have hl := len_text s
    obtain ⟨sn, sp⟩ := spd_idx c s.data.toList
    unfold spc
    by_cases hi : Lib.indexByte s.data.toList c < 0
    · rw [if_pos hi, sn hi]
      simp [bmk_list]
    · rw [if_neg hi]
      obtain ⟨m, hm⟩ := Int.eq_ofNat_of_zero_le (Int.not_lt.1 hi)
      have e1 : s.extract 0 m = bmk (s.data.toList.take m) := text_ext (by rw [cut_list, list_bmk, List.drop_zero])
      have e2 : (s.extract (m + 1) s.size).data.toList = s.data.toList.drop (m + 1) := by rw [cut_list, ← hl, List.take_length]
      have hlt := idx_lt s.data.toList c
      rw [sp m hm, hm, Int.toNat_natCast, spc_eq c n _ (by rw [ByteArray.size_extract]; omega), e1, e2]
      rfl
theorem r10split_ev (s : ByteArray) (hs : s.size ≤ 1000000) : quitclaimref10_Split.f s = some ((spd 47 s.data.toList).map bmk) := by
  have hl := len_text s
  refine quitclaimref10_Split.in _ ?_
  have := wh_list (F := fun r1 (v2 : ((ByteArray × List ByteArray × Int × Int × Unit) × Unit × Unit)) => if decide (v2.1.2.2.2.1 < (↑v2.1.1.size : Int)) then ((bx v2.1.1 v2.1.2.2.2.1).bind fun x3 => if decide (x3 = 47) then ((sub v2.1.1 v2.1.2.2.1 v2.1.2.2.2.1).bind fun x4 => (app 16 v2.1.2.1 [x4]).bind fun x5 => r1 ((v2.1.1, x5, w64 (v2.1.2.2.2.1 + 1), w64 (v2.1.2.2.2.1 + 1), ()), (), ())) else r1 ((v2.1.1, v2.1.2.1, v2.1.2.2.1, w64 (v2.1.2.2.2.1 + 1), ()), (), ())) else (sub v2.1.1 v2.1.2.2.1 (↑v2.1.1.size : Int)).bind fun x6 => (app 16 v2.1.2.1 [x6]).bind fun x7 => some x7)
    s.data.toList (fun i (p : Nat × List ByteArray) => ((s, p.2, (p.1 : Int), i, ()), (), ())) (fun i p => p.1 ≤ i ∧ p.2.length ≤ i) (fun l p => p.2 ++ (glue ((s.data.toList.take (s.data.toList.length - l.length)).drop p.1) (spd 47 l)).map bmk) (fun p r hI => ?_) (fun i p r h hI hr => ?_) (0, []) ⟨Nat.le_refl _, Nat.le_refl _⟩
  · simp only [Nat.sub_self, List.take_zero, List.drop_nil, List.nil_append, glue_nil (spd_ne _ _)] at this
    exact this
  · obtain ⟨f, out⟩ := p
    simp only at hI
    simp (disch := omega) only [decide_eq_true_eq, hl, if_neg, sub_, Option.bind_some]
    rw [app_ (by rw [List.length_singleton]; omega)]
    have e1 : s.extract f s.size = bmk ((s.data.toList.take s.data.toList.length).drop f) := text_ext (by rw [cut_list, list_bmk, hl])
    rw [e1]
    simp [spd, glue]
  · obtain ⟨f, out⟩ := p
    simp only at hI hr
    have e1 : s.extract f i = bmk ((s.data.toList.take i).drop f) := text_ext (by rw [cut_list, list_bmk])
    have l0 : s.data.toList.length - (s.data.toList[i] :: s.data.toList.drop (i + 1)).length = i := by simp; omega
    have l1 : s.data.toList.length - (s.data.toList.drop (i + 1)).length = i + 1 := by simp; omega
    rw [l0]
    simp only [l1] at hr
    simp (disch := omega) only [decide_eq_true_eq, if_pos, bx_, Option.bind_some, wS]
    rw [show spd 47 (s.data.toList[i] :: s.data.toList.drop (i + 1)) = if s.data.toList[i] = 47 then [] :: spd 47 (s.data.toList.drop (i + 1)) else glue [s.data.toList[i]] (spd 47 (s.data.toList.drop (i + 1))) from rfl]
    by_cases hc : s.data.toList[i] = 47
    · have hr := hr (i + 1, out ++ [bmk ((s.data.toList.take i).drop f)]) ⟨Nat.le_refl _, by simp; omega⟩
      simp only at hr
      rw [if_pos hc, if_pos (by rw [hc]; rfl), sub_ (by omega) (by omega), Option.bind_some, app_ (by rw [List.length_singleton]; omega), Option.bind_some, e1, hr,
        show (s.data.toList.take (i + 1)).drop (i + 1) = [] from List.drop_eq_nil_of_le (by rw [List.length_take]; omega), glue_nil (spd_ne _ _)]
      simp [glue]
    · have hr := hr (f, out) ⟨by simp only; omega, by simp only; omega⟩
      simp only at hr
      rw [if_neg hc, if_neg (fun h => hc ((u8_lit (a := s.data.toList[i]) (n := 47) (by omega)).1 h)), hr,
        List.take_succ_eq_append_getElem h, List.drop_append_of_le_length (by rw [List.length_take]; omega), glue_glue _ _ (spd_ne _ _)]

/-! ### paths -/
def right (s : ByteArray) : Bool := decide (s.size ≤ 200) && (((spd 47 s.data.toList).map bmk).all part && decide ((spd 47 s.data.toList).length ≤ 16))
theorem rright_ev (s : ByteArray) : quitclaimref10_Right.f s = some (right s) := by
  have hl := len_text s
  refine quitclaimref10_Right.in _ ?_
  unfold right
  by_cases h : s.size ≤ 200
  · simp (disch := omega) only [decide_eq_true_eq, if_neg, r10split_ev, Option.bind_some]
    rw [decide_eq_true h, Bool.true_and]
    have h2 := spd_len 47 s.data.toList
    have hlen : ((spd 47 s.data.toList).map bmk).length = (spd 47 s.data.toList).length := List.length_map ..
    have hsz : ∀ t ∈ (spd 47 s.data.toList).map bmk, t.size ≤ 200 := fun t ht => by
      obtain ⟨x, hx, rfl⟩ := List.mem_map.1 ht
      have := spd_size _ _ x hx
      rw [size_bmk]; omega
    rw [← hlen]
    generalize (spd 47 s.data.toList).map bmk = xs at hsz hlen
    refine wh_list xs (fun i (_ : Unit) => (xs, i, ())) (fun _ _ => True) (fun l _ => l.all part && decide (xs.length ≤ 16)) (fun _ r _ => ?_) (fun i _ r h _ hr => ?_) () trivial
    · simp; omega
    · have hr := hr () trivial
      have := hsz _ (List.getElem_mem h)
      simp (disch := omega) only [decide_eq_true_eq, if_pos, ix_, Option.bind_some, wS, rpart_ev, hr]
      rw [List.all_cons]
      cases part xs[i] <;> rfl
  · simp (disch := omega) only [decide_eq_true_eq, if_pos]
    rw [decide_eq_false h, Bool.false_and]
theorem right_ev (s : ByteArray) : path_Right.f s = some (right s) := by
  have hl := len_text s
  refine path_Right.in _ ?_
  unfold right
  by_cases h : s.size ≤ 200
  · have e0 : strings_SplitSeq.f s ⟨⟨[47]⟩⟩ = some (((), (), (), ()), s, ⟨⟨[47]⟩⟩, 0, ()) := strings_SplitSeq.in _ _ (by rw [strings_splitSeq.in _ _ _ rfl]; rfl)
    have e1 : spl (⟨⟨[47]⟩⟩ : ByteArray) s 0 = some ((spd 47 s.data.toList).map bmk) := by
      unfold spl
      rw [if_pos ⟨rfl, by omega⟩]
      exact congrArg some (spc_eq 47 _ s (Nat.le_refl _))
    simp (disch := omega) only [decide_eq_true_eq, if_neg, e0, e1, Option.bind_some]
    rw [decide_eq_true h, Bool.true_and]
    have hlen : ((spd 47 s.data.toList).map bmk).length = (spd 47 s.data.toList).length := List.length_map ..
    have hsz : ∀ t ∈ (spd 47 s.data.toList).map bmk, t.size ≤ 200 := fun t ht => by
      obtain ⟨x, hx, rfl⟩ := List.mem_map.1 ht
      have := spd_size _ _ x hx
      rw [size_bmk]; omega
    rw [← hlen]
    generalize (spd 47 s.data.toList).map bmk = xs at hsz
    have key : ∀ (xs : List ByteArray) (n : Nat), (∀ t ∈ xs, t.size ≤ 200) → n ≤ 16 → rng (fun r3 (x4 : ByteArray) n5 (v6 : (Bool × Int × Unit × Unit × Unit × Unit)) => (gd (!decide (w64 (v6.2.1 + 1) > 16)) (path_part.f x4)).bind fun x7 => if decide (w64 (v6.2.1 + 1) > 16) || !x7 then some false else r3 (v6.1, w64 (v6.2.1 + 1), (), (), (), ())) (fun v6 => some true) xs (false, (n : Int), (), (), (), ()) = some (xs.all part && decide (n + xs.length ≤ 16)) := by
      intro xs
      induction xs with
      | nil => intro n _ hn; simp [rng, hn]
      | cons x xs ih =>
        intro n hs hn
        unfold rng
        rw [path_part_ev x (by have := hs x (by simp); omega)]
        simp (disch := omega) only [wS]
        by_cases h16 : n + 1 > 16
        · rw [decide_eq_true (show ((n + 1 : Nat) : Int) > 16 by omega), decide_eq_false (show ¬ (n + (x :: xs).length ≤ 16) by simp; omega), Bool.and_false]
          rfl
        · rw [decide_eq_false (show ¬ ((n + 1 : Nat) : Int) > 16 by omega)]
          show ((some (part x)).bind fun x7 => if (false || !x7) = true then some false else _) = _
          rw [Option.bind_some, List.all_cons]
          cases part x with
          | false => rfl
          | true =>
            rw [if_neg (by decide), ih (n + 1) (fun t ht => hs t (by simp [ht])) (by omega), List.length_cons, show n + 1 + xs.length = n + (xs.length + 1) by omega]; rfl
    have := key xs 0 hsz (by omega)
    rw [Nat.zero_add] at this
    exact this
  · simp (disch := omega) only [decide_eq_true_eq, if_pos]
    rw [decide_eq_false h, Bool.false_and]

/-! ### covering -/
def cov (p s : ByteArray) : Bool := p.data.toList == [] || (p.data.toList == s.data.toList || (decide (p.size < s.size) && (s.data.toList.take (p.size + 1) == p.data.toList ++ [47])))
theorem take_app {l q : List UInt8} {c : UInt8} {n : Nat} (hq : q.length = n) (h : n < l.length) : l.take (n + 1) = q ++ [c] ↔ l.take n = q ∧ l[n] = c := by
  subst hq
  rw [List.take_succ_eq_append_getElem h]
  constructor
  · intro e
    obtain ⟨a, b⟩ := List.append_inj e (by rw [List.length_take]; omega)
    exact ⟨a, by simpa using b⟩
  · rintro ⟨a, b⟩
    rw [a, b]
/-- path.Beside. -/
def bes (a b : ByteArray) : Bool := right a && (right b && (!cov a b && !cov b a))
theorem right_size {s : ByteArray} (h : right s = true) : s.size ≤ 200 := by
  unfold right at h
  simp only [Bool.and_eq_true, decide_eq_true_eq] at h
  exact h.1
end Go.Proofs.YtmjkflppajienaaDoor.R.Pu
