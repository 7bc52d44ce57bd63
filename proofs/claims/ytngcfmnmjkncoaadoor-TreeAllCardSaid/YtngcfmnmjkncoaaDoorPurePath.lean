/- Paths: what the functions of the package path and of its reference answer, as one; no condition. -/
import Derived.Test.YtngcfmnmjkncoaaDoorQV
import Derived.Test.YtngcfmnmjkncoaaDoorQF0
namespace Go.Proofs.YtngcfmnmjkncoaaDoor.PureP
open Go Go.RowKit Go.Proofs.YtngcfmnmjkncoaaDoor.Q Go.Proofs.YtngcfmnmjkncoaaDoor.Pu
set_option linter.unusedVariables false

/-! ### parts -/
def lt (b : Int) : Bool := decide ((97 ≤ b ∧ b ≤ 122) ∨ (48 ≤ b ∧ b ≤ 57) ∨ b = 46 ∨ b = 95 ∨ b = 45)
def lets (l : List UInt8) : Bool := l.all fun c => lt (c.toNat : Int)
theorem lt_eq (b : Int) : (((((decide (b ≥ 97) && decide (b ≤ 122)) || (decide (b ≥ 48) && decide (b ≤ 57))) || decide (b = 46)) || decide (b = 95)) || decide (b = 45)) = lt b := by
  unfold lt
  rw [Bool.eq_iff_iff]
  simp only [Bool.or_eq_true, Bool.and_eq_true, decide_eq_true_eq]
  omega
theorem part_loop (s : ByteArray) (hs : s.size ≤ 1000) : ∀ (n i : Nat), i + n = s.size → Ev (fun k => path_part.l0 s k (i : Int)) (lets (s.data.toList.drop i)) := by
  have hl : s.data.toList.length = s.size := Array.length_toList
  intro n
  induction n with
  | zero =>
    intro i hi
    have e0 : s.data.toList.drop i = [] := List.drop_eq_nil_of_le (by omega)
    rw [e0]
    exact Ev.stepc fun k => by rw [path_part.l0, if_neg (by omega)]; rfl
  | succ n ih =>
    intro i hi
    have h1 : i < s.data.toList.length := by omega
    rw [List.drop_eq_getElem_cons h1]
    unfold lets
    rw [List.all_cons]
    have st : ∀ k, path_part.l0 s (k + 1) (i : Int) = if lt ((s.data.toList[i]).toNat : Int) = true then path_part.l0 s k ((i + 1 : Nat) : Int) else some false := fun k => by
      rw [path_part.l0, if_pos (by omega), bx_ h1, Option.bind_some, lt_eq, w (by omega) (by omega)]; rfl
    cases hb : lt ((s.data.toList[i]).toNat : Int) with
    | false => exact Ev.stepc fun k => by rw [st, hb, if_neg (by decide)]; rfl
    | true => exact Ev.step (ih (i + 1) (by omega)) fun k => by rw [st, hb, if_pos rfl]
def part (s : ByteArray) : Bool := !(s.data.toList == []) && (!(s.data.toList == [46]) && (!(s.data.toList == [46, 46]) && lets s.data.toList))
theorem eqb (s : ByteArray) (l : List UInt8) : decide (s = ⟨l.toArray⟩) = (s.data.toList == l) := by
  rw [Bool.eq_iff_iff, decide_eq_true_eq, beq_iff_eq]
  constructor
  · rintro rfl; simp
  · intro h
    obtain ⟨⟨x⟩⟩ := s
    have h' : x = l := h
    rw [h']
theorem part_ev (s : ByteArray) (hs : s.size ≤ 1000) : Ev (fun k => path_part.f k s) (part s) := by
  unfold path_part.f part
  rw [show decide (s = ⟨#[]⟩) = _ from eqb s [], show decide (s = ⟨#[46]⟩) = _ from eqb s [46], show decide (s = ⟨#[46, 46]⟩) = _ from eqb s [46, 46]]
  cases s.data.toList == [] with
  | true => exact Ev.pos rfl (Ev.const false)
  | false =>
    cases s.data.toList == [46] with
    | true => exact Ev.pos rfl (Ev.const false)
    | false =>
      cases s.data.toList == [46, 46] with
      | true => exact Ev.pos rfl (Ev.const false)
      | false => exact Ev.neg (by decide) (part_loop s hs s.size 0 (by omega))
theorem letter_loop (b : Int) : ∀ (n i : Nat), i + n = 39 → Ev (fun k => quitclaimref10_letter.l0 b k (i : Int)) ((([97, 98, 99, 100, 101, 102, 103, 104, 105, 106, 107, 108, 109, 110, 111, 112, 113, 114, 115, 116, 117, 118, 119, 120, 121, 122, 48, 49, 50, 51, 52, 53, 54, 55, 56, 57, 46, 95, 45] : List UInt8).drop i).any fun c => decide ((c.toNat : Int) = b)) := by
  intro n
  induction n with
  | zero =>
    intro i hi
    obtain rfl : i = 39 := by omega
    exact Ev.stepc fun k => by rw [quitclaimref10_letter.l0, if_neg (by decide)]; rfl
  | succ n ih =>
    intro i hi
    have h1 : i < ([97, 98, 99, 100, 101, 102, 103, 104, 105, 106, 107, 108, 109, 110, 111, 112, 113, 114, 115, 116, 117, 118, 119, 120, 121, 122, 48, 49, 50, 51, 52, 53, 54, 55, 56, 57, 46, 95, 45] : List UInt8).length := by show i < 39; omega
    rw [List.drop_eq_getElem_cons h1, List.any_cons]
    have e := bx_ (s := ⟨#[97, 98, 99, 100, 101, 102, 103, 104, 105, 106, 107, 108, 109, 110, 111, 112, 113, 114, 115, 116, 117, 118, 119, 120, 121, 122, 48, 49, 50, 51, 52, 53, 54, 55, 56, 57, 46, 95, 45]⟩) (i := i) h1
    have st : ∀ k, quitclaimref10_letter.l0 b (k + 1) (i : Int) = if (([97, 98, 99, 100, 101, 102, 103, 104, 105, 106, 107, 108, 109, 110, 111, 112, 113, 114, 115, 116, 117, 118, 119, 120, 121, 122, 48, 49, 50, 51, 52, 53, 54, 55, 56, 57, 46, 95, 45] : List UInt8)[i].toNat : Int) = b then some true else quitclaimref10_letter.l0 b k ((i + 1 : Nat) : Int) := fun k => by
      rw [quitclaimref10_letter.l0, if_pos (by show (i : Int) < 39; omega), e, Option.bind_some, w (by omega) (by omega)]; rfl
    by_cases hb : (([97, 98, 99, 100, 101, 102, 103, 104, 105, 106, 107, 108, 109, 110, 111, 112, 113, 114, 115, 116, 117, 118, 119, 120, 121, 122, 48, 49, 50, 51, 52, 53, 54, 55, 56, 57, 46, 95, 45] : List UInt8)[i].toNat : Int) = b
    · rw [decide_eq_true hb, Bool.true_or]
      exact Ev.stepc fun k => by rw [st, if_pos hb]
    · rw [decide_eq_false hb, Bool.false_or]
      exact Ev.step (ih (i + 1) (by omega)) fun k => by rw [st, if_neg hb]
def abc : List UInt8 := [97, 98, 99, 100, 101, 102, 103, 104, 105, 106, 107, 108, 109, 110, 111, 112, 113, 114, 115, 116, 117, 118, 119, 120, 121, 122, 48, 49, 50, 51, 52, 53, 54, 55, 56, 57, 46, 95, 45]
theorem abc_lt : ∀ n : Fin 256, (abc.any fun c => decide ((c.toNat : Int) = (n.val : Int))) = lt (n.val : Int) := by decide +kernel
theorem letter_ev (c : UInt8) : Ev (fun k => quitclaimref10_letter.f k (c.toNat : Int)) (lt (c.toNat : Int)) := by
  have q := letter_loop (c.toNat : Int) 39 0 (by decide)
  have e := abc_lt ⟨c.toNat, c.toNat_lt⟩
  rw [List.drop_zero] at q
  exact e ▸ q
theorem rpart_loop (s : ByteArray) (hs : s.size ≤ 1000) : ∀ (n i : Nat), i + n = s.size → Ev (fun k => quitclaimref10_Part.l0 s k (i : Int)) (lets (s.data.toList.drop i)) := by
  have hl : s.data.toList.length = s.size := Array.length_toList
  intro n
  induction n with
  | zero =>
    intro i hi
    have e0 : s.data.toList.drop i = [] := List.drop_eq_nil_of_le (by omega)
    rw [e0]
    exact Ev.stepc fun k => by rw [quitclaimref10_Part.l0, if_neg (by omega)]; rfl
  | succ n ih =>
    intro i hi
    have h1 : i < s.data.toList.length := by omega
    rw [List.drop_eq_getElem_cons h1]
    unfold lets
    rw [List.all_cons]
    refine Ev.step (f := fun k => (quitclaimref10_letter.f k ((s.data.toList[i]).toNat : Int)).bind fun t => if (!t) = true then some false else quitclaimref10_Part.l0 s k ((i + 1 : Nat) : Int)) (Ev.bind (letter_ev _) ?_) fun k => ?_
    · cases hb : lt ((s.data.toList[i]).toNat : Int) with
      | false => exact Ev.pos rfl (Ev.const false)
      | true => exact Ev.neg (by decide) (ih (i + 1) (by omega))
    · rw [quitclaimref10_Part.l0, if_pos (by omega), bx_ h1, Option.bind_some, w (by omega) (by omega)]
      rfl
theorem size_nil (s : ByteArray) : decide ((s.size : Int) = 0) = (s.data.toList == []) := by
  have hl : s.data.toList.length = s.size := Array.length_toList
  rw [Bool.eq_iff_iff, decide_eq_true_eq, beq_iff_eq, ← List.length_eq_zero_iff]
  omega
theorem rpart_ev (s : ByteArray) (hs : s.size ≤ 1000) : Ev (fun k => quitclaimref10_Part.f k s) (part s) := by
  unfold quitclaimref10_Part.f part
  rw [size_nil, show decide (s = ⟨#[46]⟩) = _ from eqb s [46], show decide (s = ⟨#[46, 46]⟩) = _ from eqb s [46, 46]]
  cases s.data.toList == [] with
  | true => exact Ev.pos rfl (Ev.const false)
  | false =>
    cases s.data.toList == [46] with
    | true => exact Ev.pos rfl (Ev.const false)
    | false =>
      cases s.data.toList == [46, 46] with
      | true => exact Ev.pos rfl (Ev.const false)
      | false => exact Ev.neg (by decide) (rpart_loop s hs s.size 0 (by omega))

/-! ### what stands between slashes -/
def mk (l : List UInt8) : ByteArray := ⟨l.toArray⟩
theorem mk_list (s : ByteArray) : mk s.data.toList = s := by cases s; simp [mk]
theorem list_mk (l : List UInt8) : (mk l).data.toList = l := by simp [mk]
theorem ext {x y : ByteArray} (h : x.data.toList = y.data.toList) : x = y := by rw [← mk_list x, ← mk_list y, h]
theorem size_mk (l : List UInt8) : (mk l).size = l.length := by show l.toArray.size = _; simp
theorem cut_list (s : ByteArray) (a b : Nat) : (s.extract a b).data.toList = (s.data.toList.take b).drop a := by
  rw [ByteArray.data_extract, Array.toList_extract, List.extract_eq_take_drop, ← List.drop_take]
def glue (p : List UInt8) : List (List UInt8) → List (List UInt8)
  | [] => [p]
  | x :: xs => (p ++ x) :: xs
def spl : List UInt8 → List (List UInt8)
  | [] => [[]]
  | c :: l => if c = 47 then [] :: spl l else glue [c] (spl l)
theorem glue_ne (p : List UInt8) (x : List (List UInt8)) : glue p x ≠ [] := by cases x <;> simp [glue]
theorem spl_ne (l : List UInt8) : spl l ≠ [] := by
  cases l with
  | nil => simp [spl]
  | cons c l =>
    unfold spl
    split
    · simp
    · exact glue_ne _ _
theorem glue_nil {x : List (List UInt8)} (h : x ≠ []) : glue [] x = x := by
  cases x with
  | nil => exact absurd rfl h
  | cons a x => rfl
theorem glue_glue (p q : List UInt8) {x : List (List UInt8)} (h : x ≠ []) : glue p (glue q x) = glue (p ++ q) x := by
  cases x with
  | nil => exact absurd rfl h
  | cons a x => simp [glue]
theorem spl_len (l : List UInt8) : (spl l).length ≤ l.length + 1 := by
  induction l with
  | nil => simp [spl]
  | cons c l ih =>
    unfold spl
    split
    · simp; omega
    · have h := spl_ne l
      cases e : spl l with
      | nil => exact absurd e h
      | cons a x => rw [e] at ih; simp [glue] at ih ⊢; omega
/-- By the first slash. -/
theorem spl_idx (l : List UInt8) : (Lib.indexByte l 47 < 0 → spl l = [l]) ∧ (∀ m : Nat, Lib.indexByte l 47 = (m : Int) → spl l = l.take m :: spl (l.drop (m + 1))) := by
  induction l with
  | nil => exact ⟨fun _ => rfl, fun m h => by unfold Lib.indexByte at h; omega⟩
  | cons c l ih =>
    have ge := Lib.indexByte_ge l 47
    unfold Lib.indexByte
    rw [show spl (c :: l) = if c = 47 then [] :: spl l else glue [c] (spl l) from rfl]
    by_cases hc : c = 47
    · rw [if_pos (by rw [hc]; rfl), if_pos hc]
      refine ⟨fun h => by omega, fun m h => ?_⟩
      obtain rfl : m = 0 := by omega
      rfl
    · rw [if_neg (by simpa using hc), if_neg hc]
      split
      next h =>
        have h1 := beq_iff_eq.1 h
        refine ⟨fun _ => ?_, fun m hm => by omega⟩
        rw [ih.1 (by omega)]
        rfl
      next h =>
        have h1 : Lib.indexByte l 47 ≠ -1 := fun e => h (by rw [e]; rfl)
        refine ⟨fun hh => by omega, fun m hm => ?_⟩
        obtain ⟨j, hj⟩ := Int.eq_ofNat_of_zero_le (show 0 ≤ Lib.indexByte l 47 by omega)
        obtain rfl : m = j + 1 := by omega
        rw [ih.2 j hj]
        simp [glue]
theorem split_loop (s : ByteArray) (hs : s.size ≤ 1000) : ∀ (n i f : Nat) (out : List ByteArray), i + n = s.size → f ≤ i → out.length ≤ i →
    Ev (fun k => quitclaimref10_Split.l0 s k out (f : Int) (i : Int)) (out ++ (glue ((s.data.toList.take i).drop f) (spl (s.data.toList.drop i))).map mk) := by
  have hl : s.data.toList.length = s.size := Array.length_toList
  intro n
  induction n with
  | zero =>
    intro i f out hi hf ho
    have e0 : s.data.toList.drop i = [] := List.drop_eq_nil_of_le (by omega)
    have e1 : s.extract f s.size = mk ((s.data.toList.take i).drop f) := ext (by rw [cut_list, list_mk, show s.size = i from by omega])
    rw [e0]
    refine Ev.stepc fun k => ?_
    rw [quitclaimref10_Split.l0, if_neg (by omega), sub_ (by omega) (Nat.le_refl _), Option.bind_some, ap_ (by rw [List.length_singleton]; omega), Option.bind_some, e1]
    simp [spl, glue]
  | succ n ih =>
    intro i f out hi hf ho
    have h1 : i < s.data.toList.length := by omega
    have e1 : s.extract f i = mk ((s.data.toList.take i).drop f) := ext (by rw [cut_list, list_mk])
    rw [List.drop_eq_getElem_cons h1]
    unfold spl
    by_cases hc : s.data.toList[i] = 47
    · rw [if_pos hc]
      have q := ih (i + 1) (i + 1) (out ++ [mk ((s.data.toList.take i).drop f)]) (by omega) (by omega) (by simp; omega)
      have e2 : (s.data.toList.take (i + 1)).drop (i + 1) = [] := List.drop_eq_nil_of_le (by rw [List.length_take]; omega)
      rw [e2, glue_nil (spl_ne _), List.append_assoc] at q
      have e3 : (glue ((s.data.toList.take i).drop f) ([] :: spl (s.data.toList.drop (i + 1)))).map mk = [mk ((s.data.toList.take i).drop f)] ++ (spl (s.data.toList.drop (i + 1))).map mk := by simp [glue]
      rw [e3]
      refine Ev.step q fun k => ?_
      rw [quitclaimref10_Split.l0, if_pos (by omega), bx_ h1, Option.bind_some, if_pos (by rw [hc]; rfl), sub_ (by omega) (by omega), Option.bind_some, ap_ (by rw [List.length_singleton]; omega), Option.bind_some, e1, w (by omega) (by omega)]
      rfl
    · rw [if_neg hc]
      have q := ih (i + 1) f out (by omega) (by omega) (by omega)
      have e2 : (s.data.toList.take (i + 1)).drop f = (s.data.toList.take i).drop f ++ [s.data.toList[i]] := by
        rw [List.take_succ_eq_append_getElem h1, List.drop_append_of_le_length (by rw [List.length_take]; omega)]
      rw [e2, ← glue_glue _ _ (spl_ne _)] at q
      refine Ev.step q fun k => ?_
      rw [quitclaimref10_Split.l0, if_pos (by omega), bx_ h1, Option.bind_some, if_neg (by
        intro h
        apply hc
        apply UInt8.toNat.inj
        have : (s.data.toList[i]).toNat = 47 := by omega
        exact this), w (by omega) (by omega)]
      rfl
theorem split_ev (s : ByteArray) (hs : s.size ≤ 1000) : Ev (fun k => quitclaimref10_Split.f k s) ((spl s.data.toList).map mk) := by
  have q := split_loop s hs s.size 0 0 [] (by omega) (by omega) (by simp)
  rw [List.take_zero, List.drop_nil, List.drop_zero, glue_nil (spl_ne _), List.nil_append] at q
  exact q

/-! ### paths -/
def right (s : ByteArray) : Bool := decide (s.size ≤ 200) && (((spl s.data.toList).map mk).all part && decide ((spl s.data.toList).length ≤ 16))
theorem spl_size (l : List UInt8) : ∀ x ∈ spl l, x.length ≤ l.length := by
  induction l with
  | nil => intro x hx; simp [spl] at hx; simp [hx]
  | cons c l ih =>
    intro x hx
    rw [show spl (c :: l) = if c = 47 then [] :: spl l else glue [c] (spl l) from rfl] at hx
    split at hx
    · rcases List.mem_cons.1 hx with rfl | hx
      · simp
      · have := ih x hx; simp; omega
    · have h := spl_ne l
      cases e : spl l with
      | nil => exact absurd e h
      | cons a y =>
        rw [e] at hx ih
        rcases List.mem_cons.1 hx with rfl | hx
        · have := ih a (List.mem_cons_self ..); simp; omega
        · have := ih x (List.mem_cons_of_mem _ hx); simp; omega
theorem rright_loop (x : List ByteArray) (hx : x.length ≤ 1000) (hs : ∀ s ∈ x, s.size ≤ 1000) : ∀ (n i : Nat), i + n = x.length →
    Ev (fun k => quitclaimref10_Right.l0 x k (i : Int)) ((x.drop i).all part && decide (x.length ≤ 16)) := by
  intro n
  induction n with
  | zero =>
    intro i hi
    have e0 : x.drop i = [] := List.drop_eq_nil_of_le (by omega)
    rw [e0]
    refine Ev.stepc fun k => ?_
    rw [quitclaimref10_Right.l0, if_neg (by omega)]
    simp
    omega
  | succ n ih =>
    intro i hi
    have h1 : i < x.length := by omega
    rw [List.drop_eq_getElem_cons h1, List.all_cons]
    refine Ev.step (f := fun k => (quitclaimref10_Part.f k x[i]).bind fun t => if (!t) = true then some false else quitclaimref10_Right.l0 x k ((i + 1 : Nat) : Int)) (Ev.bind (rpart_ev _ (hs _ (List.getElem_mem h1))) ?_) fun k => ?_
    · cases hb : part x[i] with
      | false => exact Ev.pos rfl (Ev.const _)
      | true => exact Ev.neg (by decide) (ih (i + 1) (by omega))
    · rw [quitclaimref10_Right.l0, if_pos (by omega), ix_ h1, Option.bind_some, w (by omega) (by omega)]
      rfl
theorem rright_ev (s : ByteArray) : Ev (fun k => quitclaimref10_Right.f k s) (right s) := by
  unfold quitclaimref10_Right.f right
  by_cases h : s.size ≤ 200
  · refine Ev.neg (by omega) ?_
    rw [decide_eq_true h, Bool.true_and]
    have hl : s.data.toList.length = s.size := Array.length_toList
    have h2 := spl_len s.data.toList
    have q := rright_loop ((spl s.data.toList).map mk) (by rw [List.length_map]; omega) (fun t ht => by
      obtain ⟨x, hx, rfl⟩ := List.mem_map.1 ht
      have := spl_size _ x hx
      rw [size_mk]; omega) (spl s.data.toList).length 0 (by rw [List.length_map]; omega)
    rw [List.drop_zero, List.length_map] at q
    exact Ev.bind (split_ev s (by omega)) q
  · refine Ev.pos (by omega) ?_
    rw [decide_eq_false h, Bool.false_and]
    exact Ev.const false
theorem go_ev : ∀ (f : Nat) (s : ByteArray) (n : Nat), s.size ≤ 1000 → 17 ≤ f + n → n ≤ 16 →
    Ev (fun k => Go.Proofs.YtngcfmnmjkncoaaDoor.Right.go (path_part.f k) f s (n : Int)) (((spl s.data.toList).map mk).all part && decide (n + (spl s.data.toList).length ≤ 16)) := by
  intro f
  induction f with
  | zero => intro s n hs hf hn; omega
  | succ f ih =>
    intro s n hs hf hn
    have hl : s.data.toList.length = s.size := Array.length_toList
    have ne : 0 < (spl s.data.toList).length := Nat.pos_of_ne_zero fun e => spl_ne _ (List.eq_nil_of_length_eq_zero e)
    unfold Go.Proofs.YtngcfmnmjkncoaaDoor.Right.go
    by_cases h16 : (n : Int) + 1 > 16
    · refine Ev.pos h16 ?_
      rw [decide_eq_false (show ¬ (n + (spl s.data.toList).length ≤ 16) by omega), Bool.and_false]
      exact Ev.const false
    · refine Ev.neg h16 ?_
      obtain ⟨sn, sp⟩ := spl_idx s.data.toList
      by_cases hi : Go.Proofs.YtngcfmnmjkncoaaDoor.Right.idx s < 0
      · have hp : Go.Proofs.YtngcfmnmjkncoaaDoor.Right.piece s = s := if_pos hi
        rw [hp, sn hi]
        refine Ev.bind (part_ev s hs) ?_
        have e : ([s.data.toList].map mk).all part = part s := by simp [mk_list]
        rw [e, List.length_singleton, decide_eq_true (show n + 1 ≤ 16 by omega), Bool.and_true]
        cases part s with
        | false => exact Ev.neg (by decide) (Ev.const false)
        | true => exact Ev.pos rfl (Ev.pos hi (Ev.const true))
      · obtain ⟨m, hm⟩ := Int.eq_ofNat_of_zero_le (Int.not_lt.1 hi)
        have hp : Go.Proofs.YtngcfmnmjkncoaaDoor.Right.piece s = mk (s.data.toList.take m) := by
          unfold Go.Proofs.YtngcfmnmjkncoaaDoor.Right.piece
          rw [if_neg hi, hm]
          refine ext ?_
          rw [cut_list, list_mk, List.drop_zero]
          rfl
        have ht : Go.Proofs.YtngcfmnmjkncoaaDoor.Right.tail s = mk (s.data.toList.drop (m + 1)) := by
          unfold Go.Proofs.YtngcfmnmjkncoaaDoor.Right.tail
          rw [hm]
          refine ext ?_
          rw [cut_list, list_mk, show s.size = s.data.toList.length from hl.symm, List.take_length]
          rfl
        rw [sp m hm, List.map_cons, List.all_cons, List.length_cons, ← hp]
        refine Ev.bind (part_ev (Go.Proofs.YtngcfmnmjkncoaaDoor.Right.piece s) (by rw [hp, size_mk, List.length_take]; omega)) ?_
        cases part (Go.Proofs.YtngcfmnmjkncoaaDoor.Right.piece s) with
        | false =>
          rw [Bool.false_and, Bool.false_and]
          exact Ev.neg (by decide) (Ev.const false)
        | true =>
          refine Ev.pos rfl (Ev.neg hi ?_)
          have q := ih (Go.Proofs.YtngcfmnmjkncoaaDoor.Right.tail s) (n + 1) (by rw [ht, size_mk, List.length_drop]; omega) (by omega) (by omega)
          rw [show (Go.Proofs.YtngcfmnmjkncoaaDoor.Right.tail s).data.toList = s.data.toList.drop (m + 1) from by rw [ht, list_mk], show n + 1 + (spl (s.data.toList.drop (m + 1))).length = n + ((spl (s.data.toList.drop (m + 1))).length + 1) from by omega] at q
          rw [Bool.true_and]
          exact q
theorem right_ev (s : ByteArray) : Ev (fun k => path_Right.f k s) (right s) := by
  unfold path_Right.f Go.Proofs.YtngcfmnmjkncoaaDoor.Right.rightF right
  by_cases h : s.size ≤ 200
  · refine Ev.neg (by omega) ?_
    rw [decide_eq_true h, Bool.true_and]
    have q := go_ev 18 s 0 (by omega) (by omega) (by omega)
    rw [Nat.zero_add] at q
    exact q
  · refine Ev.pos (by omega) ?_
    rw [decide_eq_false h, Bool.false_and]
    exact Ev.const false

/-! ### covering -/
def cov (p s : ByteArray) : Bool := p.data.toList == [] || (p.data.toList == s.data.toList || (decide (p.size < s.size) && (s.data.toList.take (p.size + 1) == p.data.toList ++ [47])))
theorem app_list (x y : ByteArray) : (x ++ y).data.toList = x.data.toList ++ y.data.toList := by
  rw [ByteArray.data_append, Array.toList_append]
theorem take_app {l q : List UInt8} {c : UInt8} {n : Nat} (hq : q.length = n) (h : n < l.length) : l.take (n + 1) = q ++ [c] ↔ l.take n = q ∧ l[n] = c := by
  subst hq
  rw [List.take_succ_eq_append_getElem h]
  constructor
  · intro e
    obtain ⟨a, b⟩ := List.append_inj e (by rw [List.length_take]; omega)
    exact ⟨a, by simpa using b⟩
  · rintro ⟨a, b⟩
    rw [a, b]
theorem eqd (x y : ByteArray) : decide (x = y) = (x.data.toList == y.data.toList) := by
  rw [Bool.eq_iff_iff, decide_eq_true_eq, beq_iff_eq]
  exact ⟨fun h => by rw [h], ext⟩
theorem covers_eq (p s : ByteArray) (hp : p.size ≤ 1000) : path_covers.f p s = some (cov p s) := by
  have lp : p.data.toList.length = p.size := Array.length_toList
  have ls : s.data.toList.length = s.size := Array.length_toList
  unfold path_covers.f cov
  rw [show decide (p = ⟨#[]⟩) = _ from eqb p [], eqd s p]
  cases h0 : (p.data.toList == []) with
  | true => rfl
  | false =>
    have hsym : (p.data.toList == s.data.toList) = (s.data.toList == p.data.toList) := by rw [Bool.eq_iff_iff, beq_iff_eq, beq_iff_eq]; exact eq_comm
    rw [hsym]
    cases h1 : (s.data.toList == p.data.toList) with
    | true => rfl
    | false =>
      have z : (p ++ (⟨#[47]⟩ : ByteArray)).size = p.size + 1 := by rw [ByteArray.size_append]; rfl
      have hc : cat p (⟨#[47]⟩ : ByteArray) = some (p ++ (⟨#[47]⟩ : ByteArray)) := by unfold cat; rw [if_pos (by show p.size + 1 ≤ _; omega)]
      rw [hc]
      show ((strings_HasPrefix.f s (p ++ (⟨#[47]⟩ : ByteArray))).bind fun x2 => some (false || x2)) = _
      unfold strings_HasPrefix.f internal_stringslite_HasPrefix.f
      rw [z]
      by_cases h2 : p.size < s.size
      · rw [decide_eq_true (show ((s.size : Int) ≥ ((p.size + 1 : Nat) : Int)) by omega), decide_eq_true h2]
        have hs := sub_ (s := s) (i := 0) (j := p.size + 1) (by omega) (by omega)
        show ((((sub s 0 ((p.size + 1 : Nat) : Int)).bind fun x1 => some (true && decide (x1 = p ++ (⟨#[47]⟩ : ByteArray)))).bind fun x1 => some x1).bind fun x2 => some (false || x2)) = _
        rw [show sub s 0 ((p.size + 1 : Nat) : Int) = _ from hs, Option.bind_some, Option.bind_some, Option.bind_some, eqd, cut_list, List.drop_zero, app_list]
        rfl
      · rw [decide_eq_false (show ¬ ((s.size : Int) ≥ ((p.size + 1 : Nat) : Int)) by omega), decide_eq_false h2]
        rfl
theorem rcovers_eq (p s : ByteArray) : quitclaimref10_Covers.f p s = some (cov p s) := by
  have lp : p.data.toList.length = p.size := Array.length_toList
  have ls : s.data.toList.length = s.size := Array.length_toList
  unfold quitclaimref10_Covers.f cov
  rw [show decide (p = ⟨#[]⟩) = _ from eqb p [], eqd p s]
  cases h0 : (p.data.toList == []) with
  | true => rfl
  | false =>
    cases h1 : (p.data.toList == s.data.toList) with
    | true => rfl
    | false =>
      rw [if_neg (by decide)]
      by_cases h2 : p.size < s.size
      · rw [decide_eq_true (show ((s.size : Int) > (p.size : Int)) by omega), decide_eq_true h2]
        have h3 : p.size < s.data.toList.length := by omega
        have hs := sub_ (s := s) (i := 0) (j := p.size) (by omega) (by omega)
        show ((sub s 0 (p.size : Int)).bind fun x1 => ((gd (true && decide (x1 = p)) (bx s (p.size : Int))).bind fun x2 => some ((true && decide (x1 = p)) && decide (x2 = 47)))) = _
        rw [show sub s 0 (p.size : Int) = _ from hs, Option.bind_some, eqd, cut_list, List.drop_zero]
        have e := take_app (l := s.data.toList) (q := p.data.toList) (c := 47) lp h3
        cases h4 : (s.data.toList.take p.size == p.data.toList) with
        | false =>
          have n4 : ¬ (s.data.toList.take (p.size + 1) = p.data.toList ++ [47]) := fun q => by
            rw [beq_eq_false_iff_ne] at h4; exact h4 (e.1 q).1
          rw [beq_eq_false_iff_ne.2 n4]; rfl
        | true =>
          rw [bx_ h3]
          show some (true && decide (((s.data.toList[p.size]).toNat : Int) = 47)) = some (false || (false || (true && (s.data.toList.take (p.size + 1) == p.data.toList ++ [47]))))
          congr 1
          rw [Bool.eq_iff_iff]
          simp only [Bool.true_and, Bool.false_or, decide_eq_true_eq, beq_iff_eq]
          rw [e]
          constructor
          · intro q
            refine ⟨beq_iff_eq.1 h4, UInt8.toNat.inj ?_⟩
            have : (s.data.toList[p.size]).toNat = 47 := by omega
            exact this
          · rintro ⟨_, q⟩
            rw [q]; rfl
      · rw [decide_eq_false (show ¬ ((s.size : Int) > (p.size : Int)) by omega), decide_eq_false h2]
        rfl
/-- path.Covers. -/
def cv (p s : ByteArray) : Bool := (p.data.toList == [] || right p) && (right s && cov p s)
theorem prefix_ev (p : ByteArray) : Ev (fun k => path_Prefix.f k p) (p.data.toList == [] || right p) := by
  unfold path_Prefix.f
  rw [show decide (p = ⟨#[]⟩) = _ from eqb p []]
  cases (p.data.toList == []) with
  | true => exact Ev.bind (Ev.g0 rfl) (Ev.const _)
  | false => exact Ev.bind (Ev.g1 rfl (right_ev p)) (Ev.const _)
end Go.Proofs.YtngcfmnmjkncoaaDoor.PureP
