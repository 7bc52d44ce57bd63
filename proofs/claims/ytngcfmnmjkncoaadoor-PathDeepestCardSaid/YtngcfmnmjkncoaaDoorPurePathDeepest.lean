/- PathDeepest's pure statement: of any texts the longest that covers a path, the first of several, is told; no condition. -/
import Derived.Test.YtngcfmnmjkncoaaDoorPPathDeepestx3
import Derived.Lib.Strings
import Derived.Lib.IndexAny
namespace Go.Proofs.YtngcfmnmjkncoaaDoor.PureD
open Go.RowKit Go.Proofs.YtngcfmnmjkncoaaDoor.PPathDeepest Go.Proofs.YtngcfmnmjkncoaaDoorW.PrintWords Go.Proofs.YtngcfmnmjkncoaaDoorW.PrintLast Go.Proofs.YtngcfmnmjkncoaaDoorW.PrintMore
open Right (idx piece tail)
theorem w64 {x : Int} (h : -9223372036854775808 ≤ x) (h' : x ≤ 9223372036854775807) : wrap64 x = x := by unfold wrap64; omega
def Ev {α : Type} (f : Nat → Option α) (r : α) : Prop := ∃ K, ∀ k, K ≤ k → f k = some r
theorem Ev.const {α : Type} (r : α) : Ev (fun _ => some r) r := ⟨0, fun _ _ => rfl⟩
theorem Ev.step {α : Type} {f g : Nat → Option α} {r : α} (h : Ev f r) (hg : ∀ k, g (k + 1) = f k) : Ev g r := by
  obtain ⟨K, h⟩ := h
  refine ⟨K + 1, fun k hk => ?_⟩
  obtain ⟨m, rfl⟩ : ∃ m, k = m + 1 := ⟨k - 1, by omega⟩
  rw [hg]; exact h m (by omega)
theorem Ev.stepc {α : Type} {g : Nat → Option α} {r : α} (hg : ∀ k, g (k + 1) = some r) : Ev g r := Ev.step (Ev.const r) hg
theorem Ev.eq {α : Type} {f g : Nat → Option α} {r : α} (h : Ev f r) (hg : ∀ k, g k = f k) : Ev g r := by
  obtain ⟨K, h⟩ := h
  exact ⟨K, fun k hk => by rw [hg]; exact h k hk⟩
theorem Ev.bind {α β : Type} {f : Nat → Option α} {g : Nat → α → Option β} {a : α} {r : β} (h : Ev f a) (hg : Ev (fun k => g k a) r) : Ev (fun k => (f k).bind (g k)) r := by
  obtain ⟨K, h⟩ := h
  obtain ⟨L, hg⟩ := hg
  exact ⟨max K L, fun k hk => by show (f k).bind (g k) = _; rw [h k (by omega)]; exact hg k (by omega)⟩
theorem Ev.now {α β : Type} {o : Option α} {g : Nat → α → Option β} {a : α} {r : β} (h : o = some a) (hg : Ev (fun k => g k a) r) : Ev (fun k => o.bind (g k)) r := Ev.bind ⟨0, fun _ _ => h⟩ hg
theorem Ev.pos {α : Type} {c : Prop} [Decidable c] {f g : Nat → Option α} {r : α} (hc : c) (h : Ev f r) : Ev (fun k => if c then f k else g k) r := h.eq fun _ => if_pos hc
theorem Ev.neg {α : Type} {c : Prop} [Decidable c] {f g : Nat → Option α} {r : α} (hc : ¬ c) (h : Ev g r) : Ev (fun k => if c then f k else g k) r := h.eq fun _ => if_neg hc

theorem tl {x y : ByteArray} : x.toList = y.toList ↔ x = y := by
  rw [ByteArray.toList_eq, ByteArray.toList_eq]
  constructor
  · intro h
    cases x; cases y
    simpa using h
  · rintro rfl; rfl
theorem rd {x : List ByteArray} {i : Nat} (h : i < x.length) : rdOf ByteArray.empty x (i : Int) = x[i] := by
  unfold rdOf; simp [h]

/-! ### parts -/
def lt (b : Int) : Bool := decide ((97 ≤ b ∧ b ≤ 122) ∨ (48 ≤ b ∧ b ≤ 57) ∨ b = 46 ∨ b = 95 ∨ b = 45)
def lets (l : List UInt8) : Bool := l.all fun c => lt (c.toNat : Int)
theorem bt_list {s : ByteArray} {i : Nat} (h : i < s.data.toList.length) : bt s (i : Int) = ((s.data.toList[i]).toNat : Int) := by
  have h' : i < s.size := by rw [Array.length_toList] at h; exact h
  rw [bt, dif_pos (by omega)]
  simp [ByteArray.getElem_eq_getElem_data]
theorem part_step (k : Nat) (s : ByteArray) (i : Nat) (h : i < s.size) (hs : s.size ≤ 1000) :
    path_part.l0 (k + 1) s (s.size : Int) (i : Int) = if lt (bt s (i : Int)) = true then path_part.l0 k s (s.size : Int) ((i + 1 : Nat) : Int) else some false := by
  simp only [path_part.l0]
  rw [if_pos (by omega), if_pos (by omega), if_pos (by omega), w64 (by omega) (by omega), show ((i : Int) + 1) = ((i + 1 : Nat) : Int) from rfl]
  generalize bt s (i : Int) = b
  by_cases hb : lt b = true
  · rw [if_pos hb]
    have hb' := of_decide_eq_true hb
    repeat' split
    all_goals first | rfl | (exfalso; omega)
  · rw [if_neg hb]
    have hb' : ¬ ((97 ≤ b ∧ b ≤ 122) ∨ (48 ≤ b ∧ b ≤ 57) ∨ b = 46 ∨ b = 95 ∨ b = 45) := fun h => hb (decide_eq_true h)
    repeat' split
    all_goals first | rfl | (exfalso; omega)
theorem part_loop (s : ByteArray) (hs : s.size ≤ 1000) : ∀ (n i : Nat), i + n = s.size → Ev (fun k => path_part.l0 k s (s.size : Int) (i : Int)) (lets (s.data.toList.drop i)) := by
  have hl : s.data.toList.length = s.size := Array.length_toList
  intro n
  induction n with
  | zero =>
    intro i hi
    have e0 : s.data.toList.drop i = [] := List.drop_eq_nil_of_le (by omega)
    rw [e0]
    exact Ev.stepc fun k => by simp only [path_part.l0]; rw [if_neg (by omega)]; rfl
  | succ n ih =>
    intro i hi
    have h1 : i < s.data.toList.length := by omega
    rw [List.drop_eq_getElem_cons h1]
    unfold lets
    rw [List.all_cons, ← bt_list h1]
    cases hb : lt (bt s (i : Int)) with
    | false =>
      rw [Bool.false_and]
      exact Ev.stepc fun k => by rw [part_step k s i (by omega) hs, hb, if_neg (by decide)]
    | true =>
      rw [Bool.true_and]
      exact Ev.step (ih (i + 1) (by omega)) fun k => by rw [part_step k s i (by omega) hs, hb, if_pos rfl]
def part (s : ByteArray) : Bool := !(s.data.toList == []) && (!(s.data.toList == [46]) && (!(s.data.toList == [46, 46]) && lets s.data.toList))
theorem part_ev (s : ByteArray) (hs : s.size ≤ 1000) : Ev (fun k => path_part.f k s) (part s) := by
  unfold path_part.f part
  rw [ByteArray.toList_eq]
  have no : Ev (fun k => path_part.j0 k s true) false := Ev.stepc fun k => by simp only [path_part.j0]; rw [if_pos trivial]
  by_cases h0 : s.data.toList = []
  · rw [beq_iff_eq.2 h0]; exact Ev.pos h0 no
  · rw [beq_eq_false_iff_ne.2 h0]
    refine Ev.neg h0 ?_
    by_cases h1 : s.data.toList = [46]
    · rw [beq_iff_eq.2 h1]; exact Ev.pos h1 no
    · rw [beq_eq_false_iff_ne.2 h1]
      refine Ev.neg h1 ?_
      by_cases h2 : s.data.toList = [46, 46]
      · rw [beq_iff_eq.2 h2]; exact no
      · rw [beq_eq_false_iff_ne.2 h2]
        exact Ev.step (part_loop s hs s.size 0 (by omega)) fun k => by simp only [path_part.j0]; rw [if_neg (by decide)]; rfl
theorem letter_loop (b : Int) (S : ByteArray) (hs : S.size ≤ 1000) : ∀ (n i : Nat), i + n = S.size → Ev (fun k => quitclaimref10_letter.l0 k b S (i : Int)) ((S.data.toList.drop i).any fun c => decide ((c.toNat : Int) = b)) := by
  have hl : S.data.toList.length = S.size := Array.length_toList
  intro n
  induction n with
  | zero =>
    intro i hi
    have e0 : S.data.toList.drop i = [] := List.drop_eq_nil_of_le (by omega)
    rw [e0]
    exact Ev.stepc fun k => by simp only [quitclaimref10_letter.l0]; rw [if_neg (by omega)]; rfl
  | succ n ih =>
    intro i hi
    have h1 : i < S.data.toList.length := by omega
    rw [List.drop_eq_getElem_cons h1, List.any_cons, ← bt_list h1]
    by_cases hb : bt S (i : Int) = b
    · rw [decide_eq_true hb, Bool.true_or]
      exact Ev.stepc fun k => by simp only [quitclaimref10_letter.l0]; rw [if_pos (by omega), if_pos (by omega), if_pos hb]
    · rw [decide_eq_false hb, Bool.false_or]
      exact Ev.step (ih (i + 1) (by omega)) fun k => by simp only [quitclaimref10_letter.l0]; rw [if_pos (by omega), if_pos (by omega), if_neg hb, w64 (by omega) (by omega)]; rfl
def abc : List UInt8 := [97, 98, 99, 100, 101, 102, 103, 104, 105, 106, 107, 108, 109, 110, 111, 112, 113, 114, 115, 116, 117, 118, 119, 120, 121, 122, 48, 49, 50, 51, 52, 53, 54, 55, 56, 57, 46, 95, 45]
theorem abc_lt : ∀ n : Fin 256, (abc.any fun c => decide ((c.toNat : Int) = (n.val : Int))) = lt (n.val : Int) := by decide +kernel
theorem letter_ev (c : UInt8) : Ev (fun k => quitclaimref10_letter.f k (c.toNat : Int)) (lt (c.toNat : Int)) := by
  have q := letter_loop (c.toNat : Int) ⟨abc.toArray⟩ (by decide) 39 0 (by decide)
  have e := abc_lt ⟨c.toNat, c.toNat_lt⟩
  rw [List.drop_zero] at q
  exact e ▸ q
theorem rpart_loop (s : ByteArray) (hs : s.size ≤ 1000) : ∀ (n i : Nat), i + n = s.size → Ev (fun k => quitclaimref10_Part.l0 k s (i : Int)) (lets (s.data.toList.drop i)) := by
  have hl : s.data.toList.length = s.size := Array.length_toList
  intro n
  induction n with
  | zero =>
    intro i hi
    have e0 : s.data.toList.drop i = [] := List.drop_eq_nil_of_le (by omega)
    rw [e0]
    exact Ev.stepc fun k => by simp only [quitclaimref10_Part.l0]; rw [if_neg (by omega)]; rfl
  | succ n ih =>
    intro i hi
    have h1 : i < s.data.toList.length := by omega
    rw [List.drop_eq_getElem_cons h1]
    unfold lets
    rw [List.all_cons]
    refine Ev.step (f := fun k => (quitclaimref10_letter.f k ((s.data.toList[i]).toNat : Int)).bind fun t => if t = true then quitclaimref10_Part.l0 k s ((i + 1 : Nat) : Int) else some false) (Ev.bind (letter_ev _) ?_) fun k => ?_
    · cases hb : lt ((s.data.toList[i]).toNat : Int) with
      | false => exact Ev.neg (by decide) (Ev.const false)
      | true => exact Ev.pos rfl (ih (i + 1) (by omega))
    · simp only [quitclaimref10_Part.l0]
      rw [if_pos (by omega), if_pos (by omega), bt_list h1, w64 (by omega) (by omega)]
      rfl
theorem rpart_ev (s : ByteArray) (hs : s.size ≤ 1000) : Ev (fun k => quitclaimref10_Part.f k s) (part s) := by
  unfold quitclaimref10_Part.f part
  rw [ByteArray.toList_eq]
  have hl : s.data.toList.length = s.size := Array.length_toList
  have no : Ev (fun k => quitclaimref10_Part.j0 k s true) false := Ev.stepc fun k => by simp only [quitclaimref10_Part.j0]; rw [if_pos trivial]
  by_cases h0 : s.data.toList = []
  · have z : s.size = 0 := by rw [← hl, h0]; rfl
    rw [beq_iff_eq.2 h0]; exact Ev.pos (by omega) no
  · have z : s.size ≠ 0 := fun e => h0 (List.eq_nil_of_length_eq_zero (by omega))
    rw [beq_eq_false_iff_ne.2 h0]
    refine Ev.neg (by omega) ?_
    by_cases h1 : s.data.toList = [46]
    · rw [beq_iff_eq.2 h1]; exact Ev.pos h1 no
    · rw [beq_eq_false_iff_ne.2 h1]
      refine Ev.neg h1 ?_
      by_cases h2 : s.data.toList = [46, 46]
      · rw [beq_iff_eq.2 h2]; exact no
      · rw [beq_eq_false_iff_ne.2 h2]
        exact Ev.step (rpart_loop s hs s.size 0 (by omega)) fun k => by simp only [quitclaimref10_Part.j0]; rw [if_neg (by decide)]; rfl

/-! ### what stands between slashes -/
def mk (l : List UInt8) : ByteArray := ⟨l.toArray⟩
theorem mk_list (s : ByteArray) : mk s.data.toList = s := by cases s; simp [mk]
theorem list_mk (l : List UInt8) : (mk l).data.toList = l := by simp [mk]
theorem ext {x y : ByteArray} (h : x.data.toList = y.data.toList) : x = y := by rw [← mk_list x, ← mk_list y, h]
theorem size_mk (l : List UInt8) : (mk l).size = l.length := by show l.toArray.size = _; simp
theorem cut_list (s : ByteArray) (a b : Nat) : (s.extract a b).data.toList = (s.data.toList.take b).drop a := by
  rw [ByteArray.data_extract, Array.toList_extract, List.extract_eq_take_drop, ← List.drop_take]
def glue (p : List UInt8) : List (List UInt8) → List (List UInt8)
  | [] => [p]
  | x :: xs => (p ++ x) :: xs
def spl : List UInt8 → List (List UInt8)
  | [] => [[]]
  | c :: l => if c = 47 then [] :: spl l else glue [c] (spl l)
theorem glue_ne (p : List UInt8) (x : List (List UInt8)) : glue p x ≠ [] := by cases x <;> simp [glue]
theorem spl_ne (l : List UInt8) : spl l ≠ [] := by
  cases l with
  | nil => simp [spl]
  | cons c l =>
    unfold spl
    split
    · simp
    · exact glue_ne _ _
theorem glue_nil {x : List (List UInt8)} (h : x ≠ []) : glue [] x = x := by
  cases x with
  | nil => exact absurd rfl h
  | cons a x => rfl
theorem glue_glue (p q : List UInt8) {x : List (List UInt8)} (h : x ≠ []) : glue p (glue q x) = glue (p ++ q) x := by
  cases x with
  | nil => exact absurd rfl h
  | cons a x => simp [glue]
theorem spl_len (l : List UInt8) : (spl l).length ≤ l.length + 1 := by
  induction l with
  | nil => simp [spl]
  | cons c l ih =>
    unfold spl
    split
    · simp; omega
    · have h := spl_ne l
      cases e : spl l with
      | nil => exact absurd e h
      | cons a x => rw [e] at ih; simp [glue] at ih ⊢; omega
/-- By the first slash. -/
theorem spl_idx (l : List UInt8) : (Lib.indexByte l 47 < 0 → spl l = [l]) ∧ (∀ m : Nat, Lib.indexByte l 47 = (m : Int) → spl l = l.take m :: spl (l.drop (m + 1))) := by
  induction l with
  | nil => exact ⟨fun _ => rfl, fun m h => by unfold Lib.indexByte at h; omega⟩
  | cons c l ih =>
    have ge := Lib.indexByte_ge l 47
    unfold Lib.indexByte
    rw [show spl (c :: l) = if c = 47 then [] :: spl l else glue [c] (spl l) from rfl]
    by_cases hc : c = 47
    · rw [if_pos (by rw [hc]; rfl), if_pos hc]
      refine ⟨fun h => by omega, fun m h => ?_⟩
      obtain rfl : m = 0 := by omega
      rfl
    · rw [if_neg (by simpa using hc), if_neg hc]
      split
      next h =>
        have h1 := beq_iff_eq.1 h
        refine ⟨fun _ => ?_, fun m hm => by omega⟩
        rw [ih.1 (by omega)]
        rfl
      next h =>
        have h1 : Lib.indexByte l 47 ≠ -1 := fun e => h (by rw [e]; rfl)
        refine ⟨fun hh => by omega, fun m hm => ?_⟩
        obtain ⟨j, hj⟩ := Int.eq_ofNat_of_zero_le (show 0 ≤ Lib.indexByte l 47 by omega)
        obtain rfl : m = j + 1 := by omega
        rw [ih.2 j hj]
        simp [glue]
theorem split_loop (s : ByteArray) (hs : s.size ≤ 1000) : ∀ (n i f : Nat) (out : List ByteArray), i + n = s.size → f ≤ i → out.length ≤ i →
    Ev (fun k => quitclaimref10_Split.l0 k s out (f : Int) (i : Int)) (out ++ (glue ((s.data.toList.take i).drop f) (spl (s.data.toList.drop i))).map mk) := by
  have hl : s.data.toList.length = s.size := Array.length_toList
  intro n
  induction n with
  | zero =>
    intro i f out hi hf ho
    have e0 : s.data.toList.drop i = [] := List.drop_eq_nil_of_le (by omega)
    have e1 : s.extract f s.size = mk ((s.data.toList.take i).drop f) := ext (by rw [cut_list, list_mk, show s.size = i from by omega])
    rw [e0]
    refine Ev.stepc fun k => ?_
    simp only [quitclaimref10_Split.l0]
    rw [if_neg (by omega), if_pos (by omega), if_pos (by omega), if_pos (by omega), show ((f : Int)).toNat = f from by omega, e1]
    simp [spl, glue]
  | succ n ih =>
    intro i f out hi hf ho
    have h1 : i < s.data.toList.length := by omega
    have e1 : s.extract f i = mk ((s.data.toList.take i).drop f) := ext (by rw [cut_list, list_mk])
    rw [List.drop_eq_getElem_cons h1]
    unfold spl
    by_cases hc : s.data.toList[i] = 47
    · rw [if_pos hc]
      have q := ih (i + 1) (i + 1) (out ++ [mk ((s.data.toList.take i).drop f)]) (by omega) (by omega) (by simp; omega)
      have e2 : (s.data.toList.take (i + 1)).drop (i + 1) = [] := List.drop_eq_nil_of_le (by rw [List.length_take]; omega)
      rw [e2, glue_nil (spl_ne _), List.append_assoc] at q
      have e3 : (glue ((s.data.toList.take i).drop f) ([] :: spl (s.data.toList.drop (i + 1)))).map mk = [mk ((s.data.toList.take i).drop f)] ++ (spl (s.data.toList.drop (i + 1))).map mk := by simp [glue]
      rw [e3]
      refine Ev.step q fun k => ?_
      simp only [quitclaimref10_Split.l0]
      rw [if_pos (by omega), if_pos (by omega), if_pos (by rw [bt_list h1, hc]; rfl), if_pos (by omega), if_pos (by omega), if_pos (by omega), if_pos (by omega), show ((f : Int)).toNat = f from by omega, show ((i : Int)).toNat = i from by omega, e1, w64 (by omega) (by omega)]
      rfl
    · rw [if_neg hc]
      have q := ih (i + 1) f out (by omega) (by omega) (by omega)
      have e2 : (s.data.toList.take (i + 1)).drop f = (s.data.toList.take i).drop f ++ [s.data.toList[i]] := by
        rw [List.take_succ_eq_append_getElem h1, List.drop_append_of_le_length (by rw [List.length_take]; omega)]
      rw [e2, ← glue_glue _ _ (spl_ne _)] at q
      refine Ev.step q fun k => ?_
      simp only [quitclaimref10_Split.l0]
      rw [if_pos (by omega), if_pos (by omega), if_neg (by
        rw [bt_list h1]; intro h
        apply hc
        apply UInt8.toNat.inj
        have : (s.data.toList[i]).toNat = 47 := by omega
        exact this), w64 (by omega) (by omega)]
      rfl
theorem split_ev (s : ByteArray) (hs : s.size ≤ 1000) : Ev (fun k => quitclaimref10_Split.f k s) ((spl s.data.toList).map mk) := by
  have q := split_loop s hs s.size 0 0 [] (by omega) (by omega) (by simp)
  rw [List.take_zero, List.drop_nil, List.drop_zero, glue_nil (spl_ne _), List.nil_append] at q
  exact q

/-! ### paths -/
def right (s : ByteArray) : Bool := decide (s.size ≤ 200) && (((spl s.data.toList).map mk).all part && decide ((spl s.data.toList).length ≤ 16))
theorem spl_size (l : List UInt8) : ∀ x ∈ spl l, x.length ≤ l.length := by
  induction l with
  | nil => intro x hx; simp [spl] at hx; simp [hx]
  | cons c l ih =>
    intro x hx
    rw [show spl (c :: l) = if c = 47 then [] :: spl l else glue [c] (spl l) from rfl] at hx
    split at hx
    · rcases List.mem_cons.1 hx with rfl | hx
      · simp
      · have := ih x hx; simp; omega
    · have h := spl_ne l
      cases e : spl l with
      | nil => exact absurd e h
      | cons a y =>
        rw [e] at hx ih
        rcases List.mem_cons.1 hx with rfl | hx
        · have := ih a (List.mem_cons_self ..); simp; omega
        · have := ih x (List.mem_cons_of_mem _ hx); simp; omega
theorem rright_loop (x : List ByteArray) (hx : x.length ≤ 1000) (hs : ∀ s ∈ x, s.size ≤ 1000) : ∀ (n i : Nat), i + n = x.length →
    Ev (fun k => quitclaimref10_Right.l0 k x (i : Int)) ((x.drop i).all part && decide (x.length ≤ 16)) := by
  intro n
  induction n with
  | zero =>
    intro i hi
    have e0 : x.drop i = [] := List.drop_eq_nil_of_le (by omega)
    rw [e0]
    refine Ev.stepc fun k => ?_
    simp only [quitclaimref10_Right.l0]
    rw [if_neg (by omega)]
    simp
    omega
  | succ n ih =>
    intro i hi
    have h1 : i < x.length := by omega
    rw [List.drop_eq_getElem_cons h1, List.all_cons]
    refine Ev.step (f := fun k => (quitclaimref10_Part.f k x[i]).bind fun t => if t = true then quitclaimref10_Right.l0 k x ((i + 1 : Nat) : Int) else some false) (Ev.bind (rpart_ev _ (hs _ (List.getElem_mem h1))) ?_) fun k => ?_
    · cases hb : part x[i] with
      | false => exact Ev.neg (by decide) (Ev.const _)
      | true => exact Ev.pos rfl (ih (i + 1) (by omega))
    · simp only [quitclaimref10_Right.l0]
      rw [if_pos (by omega), if_pos (by omega), rd h1, w64 (by omega) (by omega)]
      rfl
theorem rright_ev (s : ByteArray) : Ev (fun k => quitclaimref10_Right.f k s) (right s) := by
  unfold quitclaimref10_Right.f right
  by_cases h : s.size ≤ 200
  · refine Ev.neg (by omega) ?_
    rw [decide_eq_true h, Bool.true_and]
    have hl : s.data.toList.length = s.size := Array.length_toList
    have h2 := spl_len s.data.toList
    have q := rright_loop ((spl s.data.toList).map mk) (by rw [List.length_map]; omega) (fun t ht => by
      obtain ⟨x, hx, rfl⟩ := List.mem_map.1 ht
      have := spl_size _ x hx
      rw [size_mk]; omega) (spl s.data.toList).length 0 (by rw [List.length_map]; omega)
    rw [List.drop_zero, List.length_map] at q
    exact Ev.bind (split_ev s (by omega)) q
  · refine Ev.pos (by omega) ?_
    rw [decide_eq_false h, Bool.false_and]
    exact Ev.const false
theorem go_ev : ∀ (f : Nat) (s : ByteArray) (n : Nat), s.size ≤ 1000 → 17 ≤ f + n → n ≤ 16 →
    Ev (fun k => Right.go (path_part.f k) f s (n : Int)) (((spl s.data.toList).map mk).all part && decide (n + (spl s.data.toList).length ≤ 16)) := by
  intro f
  induction f with
  | zero => intro s n hs hf hn; omega
  | succ f ih =>
    intro s n hs hf hn
    have hl : s.data.toList.length = s.size := Array.length_toList
    have ne : 0 < (spl s.data.toList).length := Nat.pos_of_ne_zero fun e => spl_ne _ (List.eq_nil_of_length_eq_zero e)
    unfold Right.go
    by_cases h16 : (n : Int) + 1 > 16
    · refine Ev.pos h16 ?_
      rw [decide_eq_false (show ¬ (n + (spl s.data.toList).length ≤ 16) by omega), Bool.and_false]
      exact Ev.const false
    · refine Ev.neg h16 ?_
      obtain ⟨sn, sp⟩ := spl_idx s.data.toList
      by_cases hi : idx s < 0
      · have hp : piece s = s := if_pos hi
        rw [hp, sn hi]
        refine Ev.bind (part_ev s hs) ?_
        have e : ([s.data.toList].map mk).all part = part s := by simp [mk_list]
        rw [e, List.length_singleton, decide_eq_true (show n + 1 ≤ 16 by omega), Bool.and_true]
        cases part s with
        | false => exact Ev.neg (by decide) (Ev.const false)
        | true => exact Ev.pos rfl (Ev.pos hi (Ev.const true))
      · obtain ⟨m, hm⟩ := Int.eq_ofNat_of_zero_le (Int.not_lt.1 hi)
        have hp : piece s = mk (s.data.toList.take m) := by
          unfold piece
          rw [if_neg hi, hm]
          refine Go.Proofs.YtngcfmnmjkncoaaDoor.PureD.ext ?_
          rw [cut_list, list_mk, List.drop_zero]
          rfl
        have ht : tail s = mk (s.data.toList.drop (m + 1)) := by
          unfold tail
          rw [hm]
          refine Go.Proofs.YtngcfmnmjkncoaaDoor.PureD.ext ?_
          rw [cut_list, list_mk, show s.size = s.data.toList.length from hl.symm, List.take_length]
          rfl
        rw [sp m hm, List.map_cons, List.all_cons, List.length_cons, ← hp]
        refine Ev.bind (part_ev (piece s) (by rw [hp, size_mk, List.length_take]; omega)) ?_
        cases part (piece s) with
        | false =>
          rw [Bool.false_and, Bool.false_and]
          exact Ev.neg (by decide) (Ev.const false)
        | true =>
          refine Ev.pos rfl (Ev.neg hi ?_)
          have q := ih (tail s) (n + 1) (by rw [ht, size_mk, List.length_drop]; omega) (by omega) (by omega)
          rw [show (tail s).data.toList = s.data.toList.drop (m + 1) from by rw [ht, list_mk], show n + 1 + (spl (s.data.toList.drop (m + 1))).length = n + ((spl (s.data.toList.drop (m + 1))).length + 1) from by omega] at q
          rw [Bool.true_and]
          exact q
theorem right_ev (s : ByteArray) : Ev (fun k => path_Right.f k s) (right s) := by
  unfold path_Right.f Right.rightF right
  by_cases h : s.size ≤ 200
  · refine Ev.neg (by omega) ?_
    rw [decide_eq_true h, Bool.true_and]
    have q := go_ev 18 s 0 (by omega) (by omega) (by omega)
    rw [Nat.zero_add] at q
    exact q
  · refine Ev.pos (by omega) ?_
    rw [decide_eq_false h, Bool.false_and]
    exact Ev.const false

/-! ### covering -/
def cov (p s : ByteArray) : Bool := p.data.toList == [] || (p.data.toList == s.data.toList || (decide (p.size < s.size) && ((s.data.toList.take p.size == p.data.toList) && decide (bt s (p.size : Int) = 47))))
theorem app_list (x y : ByteArray) : (x ++ y).data.toList = x.data.toList ++ y.data.toList := by
  rw [ByteArray.data_append, Array.toList_append]
theorem take_app {l q : List UInt8} {c : UInt8} {n : Nat} (hq : q.length = n) (h : n < l.length) : l.take (n + 1) = q ++ [c] ↔ l.take n = q ∧ l[n] = c := by
  subst hq
  rw [List.take_succ_eq_append_getElem h]
  constructor
  · intro e
    obtain ⟨a, b⟩ := List.append_inj e (by rw [List.length_take]; omega)
    exact ⟨a, by simpa using b⟩
  · rintro ⟨a, b⟩
    rw [a, b]
theorem covers_eq (p s : ByteArray) (hp : p.size ≤ 300) : path_covers.f p s = some (cov p s) := by
  have lp : p.data.toList.length = p.size := Array.length_toList
  have ls : s.data.toList.length = s.size := Array.length_toList
  unfold path_covers.f cov
  rw [ByteArray.toList_eq, ByteArray.toList_eq]
  by_cases h0 : p.data.toList = []
  · rw [if_pos h0, h0]; rfl
  · rw [if_neg h0, beq_eq_false_iff_ne.2 h0, Bool.false_or]
    by_cases h1 : s.data.toList = p.data.toList
    · obtain rfl : s = p := ext h1
      rw [if_pos rfl, beq_self_eq_true, Bool.true_or]
    · have h1' : p ≠ s := fun e => h1 (by rw [e])
      rw [if_neg h1, beq_eq_false_iff_ne.2 (fun e => h1 e.symm), Bool.false_or, if_pos (by omega)]
      unfold strings_HasPrefix.f stringslite_HasPrefix.f
      have z : (p ++ (⟨#[47]⟩ : ByteArray)).size = p.size + 1 := by rw [ByteArray.size_append]; rfl
      rw [z]
      by_cases h2 : p.size < s.size
      · rw [if_pos (by omega), if_pos (by omega), if_pos (by omega), decide_eq_true h2, Bool.true_and, ByteArray.toList_eq, ByteArray.toList_eq, show (((p.size + 1 : Nat) : Int)).toNat = p.size + 1 from by omega, cut_list, List.drop_zero, app_list]
        have h3 : p.size < s.data.toList.length := by omega
        have e := take_app (l := s.data.toList) (q := p.data.toList) (c := 47) lp h3
        have hb := bt_list h3
        have e2 : s.data.toList[p.size] = 47 ↔ bt s (p.size : Int) = 47 := by
          rw [hb]
          constructor
          · intro h; rw [h]; rfl
          · intro h
            apply UInt8.toNat.inj
            have : (s.data.toList[p.size]).toNat = 47 := by omega
            exact this
        simp only [Option.bind_some]
        congr 1
        rw [Bool.eq_iff_iff, beq_iff_eq, Bool.and_eq_true, beq_iff_eq, decide_eq_true_iff, ← e2]
        exact e
      · rw [if_neg (by omega), decide_eq_false h2, Bool.false_and]
        rfl
theorem rcovers_eq (p s : ByteArray) : quitclaimref10_Covers.f p s = some (cov p s) := by
  have lp : p.data.toList.length = p.size := Array.length_toList
  unfold quitclaimref10_Covers.f cov
  rw [ByteArray.toList_eq, ByteArray.toList_eq]
  by_cases h0 : p.data.toList = []
  · rw [if_pos h0, h0]; rfl
  · rw [if_neg h0, beq_eq_false_iff_ne.2 h0, Bool.false_or]
    by_cases h1 : p.data.toList = s.data.toList
    · obtain rfl : p = s := ext h1
      rw [if_pos rfl, beq_self_eq_true, Bool.true_or]
    · have h1' : p ≠ s := fun e => h1 (by rw [e])
      rw [if_neg h1, beq_eq_false_iff_ne.2 h1, Bool.false_or]
      by_cases h2 : p.size < s.size
      · rw [if_pos (by omega), if_pos (by omega), if_pos (by omega), decide_eq_true h2, Bool.true_and, ByteArray.toList_eq, show ((p.size : Int)).toNat = p.size from by omega, cut_list, List.drop_zero]
        by_cases h3 : s.data.toList.take p.size = p.data.toList
        · rw [if_pos h3, if_pos (by omega), beq_iff_eq.2 h3, Bool.true_and]
          rfl
        · rw [if_neg h3, beq_eq_false_iff_ne.2 h3, Bool.false_and]
      · rw [if_neg (by omega), decide_eq_false h2, Bool.false_and]
/-- path.Covers. -/
def cv (p s : ByteArray) : Bool := (p.data.toList == [] || right p) && (right s && cov p s)
theorem covers_ev (p s : ByteArray) (hp : p.size ≤ 300) : Ev (fun k => path_Covers.f k p s) (cv p s) := by
  unfold path_Covers.f cv
  have pre : Ev (fun k => path_Prefix.f k p) (p.data.toList == [] || right p) := by
    unfold path_Prefix.f
    rw [ByteArray.toList_eq]
    by_cases h0 : p.data.toList = []
    · rw [h0]; exact Ev.pos rfl (Ev.const true)
    · rw [beq_eq_false_iff_ne.2 h0, Bool.false_or]
      exact Ev.neg h0 (Ev.bind (right_ev p) (Ev.const _))
  refine Ev.bind pre ?_
  cases (p.data.toList == [] || right p) with
  | false => exact Ev.neg (by decide) (Ev.const false)
  | true =>
    refine Ev.pos rfl (Ev.bind (right_ev s) ?_)
    cases right s with
    | false => exact Ev.neg (by decide) (Ev.const false)
    | true => exact Ev.pos rfl (Ev.now (covers_eq p s hp) (Ev.const _))
theorem awake_ev : Ev (fun k => quitclaimlaw10_awake.f k) true := by
  unfold quitclaimlaw10_awake.f
  have c1 : cv (⟨#[97, 47, 98]⟩ : ByteArray) (⟨#[97, 47, 98]⟩ : ByteArray) = true := by decide +kernel
  have c2 : cv (⟨#[97, 47, 98]⟩ : ByteArray) (⟨#[97, 47, 98, 47, 99]⟩ : ByteArray) = true := by decide +kernel
  have c3 : cv (⟨#[97, 47, 98]⟩ : ByteArray) (⟨#[97, 47, 98, 99]⟩ : ByteArray) = false := by decide +kernel
  have q1 := covers_ev (⟨#[97, 47, 98]⟩ : ByteArray) (⟨#[97, 47, 98]⟩ : ByteArray) (by decide)
  have q2 := covers_ev (⟨#[97, 47, 98]⟩ : ByteArray) (⟨#[97, 47, 98, 47, 99]⟩ : ByteArray) (by decide)
  have q3 := covers_ev (⟨#[97, 47, 98]⟩ : ByteArray) (⟨#[97, 47, 98, 99]⟩ : ByteArray) (by decide)
  rw [c1] at q1
  rw [c2] at q2
  rw [c3] at q3
  exact Ev.bind q1 (Ev.pos rfl (Ev.bind q2 (Ev.pos rfl (Ev.bind q3 (Ev.const true)))))

/-! ### the deepest -/
def fin (l : List ByteArray) (s : ByteArray) : Nat → Nat → Int → Bool → Int × Bool
  | 0, _, b, sm => (b, sm)
  | n + 1, i, b, sm => if cv (rdOf ByteArray.empty l (i : Int)) s = true ∧ (sm = true → (rdOf ByteArray.empty l b).size < (rdOf ByteArray.empty l (i : Int)).size) then fin l s n (i + 1) (i : Int) true else fin l s n (i + 1) b sm
theorem deep_loop (l : List ByteArray) (s : ByteArray) (hl : l.length ≤ 1000) (hs : ∀ j : Nat, j < l.length → (rdOf ByteArray.empty l (j : Int)).size ≤ 300) : ∀ (n i : Nat) (b : Int) (sm : Bool), i + n = l.length → (sm = true → 0 ≤ b ∧ b < l.length) →
    Ev (fun k => path_Deepest.l0 k l s b sm l (l.length : Int) (i : Int)) (fin l s n i b sm) := by
  intro n
  induction n with
  | zero =>
    intro i b sm hi hb
    exact Ev.stepc fun k => by simp only [path_Deepest.l0]; rw [if_neg (by omega)]; rfl
  | succ n ih =>
    intro i b sm hi hb
    have hc := covers_ev (rdOf ByteArray.empty l (i : Int)) s (hs i (by omega))
    have e : ∀ k, path_Deepest.l0 (k + 1) l s b sm l (l.length : Int) (i : Int) = (path_Covers.f k (rdOf ByteArray.empty l (i : Int)) s).bind fun t126 => (if t126 = true then (if sm = true then (if 0 ≤ b then (if b < (l.length : Int) then (if ((rdOf ByteArray.empty l (i : Int)).size : Int) > ((rdOf ByteArray.empty l b).size : Int) then (path_Deepest.l0 k l s (i : Int) true l (l.length : Int) ((i + 1 : Nat) : Int)) else (path_Deepest.l0 k l s b sm l (l.length : Int) ((i + 1 : Nat) : Int))) else (none)) else (none)) else (path_Deepest.l0 k l s (i : Int) true l (l.length : Int) ((i + 1 : Nat) : Int))) else (path_Deepest.l0 k l s b sm l (l.length : Int) ((i + 1 : Nat) : Int))) := fun k => by
      simp only [path_Deepest.l0]
      rw [if_pos (by omega), if_pos (by omega), if_pos (by omega), w64 (by omega) (by omega)]
      rfl
    refine Ev.step (Ev.bind hc ?_) e
    have qA := ih (i + 1) (i : Int) true (by omega) (fun _ => ⟨by omega, by omega⟩)
    have qB := ih (i + 1) b sm (by omega) hb
    unfold fin
    cases hv : cv (rdOf ByteArray.empty l (i : Int)) s with
    | false =>
      rw [if_neg (fun h => by cases h.1)]
      exact Ev.neg (by decide) qB
    | true =>
      refine Ev.pos rfl ?_
      cases sm with
      | false =>
        rw [if_pos ⟨rfl, fun h => by cases h⟩]
        exact Ev.neg (by decide) qA
      | true =>
        obtain ⟨b0, b1⟩ := hb rfl
        refine Ev.pos rfl (Ev.pos b0 (Ev.pos b1 ?_))
        by_cases h : (rdOf ByteArray.empty l b).size < (rdOf ByteArray.empty l (i : Int)).size
        · rw [if_pos ⟨rfl, fun _ => h⟩]
          exact Ev.pos (by omega) qA
        · rw [if_neg (fun hh => h (hh.2 rfl))]
          exact Ev.neg (by omega) qB
theorem deep_ev (l : List ByteArray) (s : ByteArray) (hl : l.length ≤ 1000) (hs : ∀ j : Nat, j < l.length → (rdOf ByteArray.empty l (j : Int)).size ≤ 300) : Ev (fun k => path_Deepest.f k l s) (fin l s l.length 0 0 false) :=
  deep_loop l s hl hs l.length 0 0 false (by omega) (fun h => by cases h)
theorem law_loop (l : List ByteArray) (s : ByteArray) (hl : l.length ≤ 40) : ∀ (n i : Nat) (b : Int) (sm : Bool), i + n = l.length → (sm = true → 0 ≤ b ∧ b < l.length) →
    (∀ j : Nat, j < i → (rdOf ByteArray.empty l (j : Int)).size ≤ 300) → fin l s n i b sm = fin l s l.length 0 0 false →
    Ev (fun k => quitclaimlaw10_PathDeepest.l0 k l s b sm l (l.length : Int) (i : Int)) true := by
  intro n
  induction n with
  | zero =>
    intro i b sm hi hb hs hf
    have q := deep_ev l s (by omega) (fun j hj => hs j (by omega))
    rw [← hf] at q
    refine Ev.step (f := fun k => (path_Deepest.f k l s).bind fun bt129 => (if bt129.1 = b then (if (bt129.2 == sm) = true then ((quitclaimlaw10_awake.f k).bind fun t131 => (some t131)) else (some false)) else (some false))) (Ev.bind q (Ev.pos rfl (Ev.pos (by simp [fin]) (Ev.bind awake_ev (Ev.const true))))) fun k => ?_
    simp only [quitclaimlaw10_PathDeepest.l0]
    rw [if_neg (by omega)]
  | succ n ih =>
    intro i b sm hi hb hs hf
    by_cases h3 : (rdOf ByteArray.empty l (i : Int)).size ≤ 300
    · have hs' : ∀ j : Nat, j < i + 1 → (rdOf ByteArray.empty l (j : Int)).size ≤ 300 := fun j hj => by
        rcases Nat.lt_or_ge j i with h | h
        · exact hs j h
        · obtain rfl : j = i := by omega
          exact h3
      have hB : (cv (rdOf ByteArray.empty l (i : Int)) s = true → sm = true ∧ ¬ (rdOf ByteArray.empty l b).size < (rdOf ByteArray.empty l (i : Int)).size) → Ev (fun k => quitclaimlaw10_PathDeepest.l0 k l s b sm l (l.length : Int) ((i + 1 : Nat) : Int)) true := fun h => by
        refine ih (i + 1) b sm (by omega) hb hs' ?_
        rw [← hf]
        unfold fin
        rw [if_neg (fun hh => (h hh.1).2 (hh.2 (h hh.1).1))]
        cases n <;> rfl
      have hA : cv (rdOf ByteArray.empty l (i : Int)) s = true → Ev (fun k => if sm = true then (if 0 ≤ b then (if b < (l.length : Int) then (if ((rdOf ByteArray.empty l (i : Int)).size : Int) > ((rdOf ByteArray.empty l b).size : Int) then (quitclaimlaw10_PathDeepest.l0 k l s (i : Int) true l (l.length : Int) ((i + 1 : Nat) : Int)) else (quitclaimlaw10_PathDeepest.l0 k l s b sm l (l.length : Int) ((i + 1 : Nat) : Int))) else (none)) else (none)) else (quitclaimlaw10_PathDeepest.l0 k l s (i : Int) true l (l.length : Int) ((i + 1 : Nat) : Int))) true := fun hv => by
        have qA : (sm = true → (rdOf ByteArray.empty l b).size < (rdOf ByteArray.empty l (i : Int)).size) → Ev (fun k => quitclaimlaw10_PathDeepest.l0 k l s (i : Int) true l (l.length : Int) ((i + 1 : Nat) : Int)) true := fun h => by
          refine ih (i + 1) (i : Int) true (by omega) (fun _ => ⟨by omega, by omega⟩) hs' ?_
          rw [← hf]
          unfold fin
          rw [if_pos ⟨hv, h⟩]
          cases n <;> rfl
        cases sm with
        | false => exact Ev.neg (by decide) (qA (fun h => by cases h))
        | true =>
          obtain ⟨b0, b1⟩ := hb rfl
          refine Ev.pos rfl (Ev.pos b0 (Ev.pos b1 ?_))
          by_cases h : (rdOf ByteArray.empty l b).size < (rdOf ByteArray.empty l (i : Int)).size
          · exact Ev.pos (by omega) (qA fun _ => h)
          · exact Ev.neg (by omega) (hB fun _ => ⟨rfl, h⟩)
      have tl : Ev (fun k => (quitclaimref10_Right.f k s).bind fun t134 => (if t134 = true then ((quitclaimref10_Covers.f (rdOf ByteArray.empty l (i : Int)) s).bind fun t135 => (if t135 = true then (if sm = true then (if 0 ≤ b then (if b < (l.length : Int) then (if ((rdOf ByteArray.empty l (i : Int)).size : Int) > ((rdOf ByteArray.empty l b).size : Int) then (quitclaimlaw10_PathDeepest.l0 k l s (i : Int) true l (l.length : Int) ((i + 1 : Nat) : Int)) else (quitclaimlaw10_PathDeepest.l0 k l s b sm l (l.length : Int) ((i + 1 : Nat) : Int))) else (none)) else (none)) else (quitclaimlaw10_PathDeepest.l0 k l s (i : Int) true l (l.length : Int) ((i + 1 : Nat) : Int))) else (quitclaimlaw10_PathDeepest.l0 k l s b sm l (l.length : Int) ((i + 1 : Nat) : Int)))) else (quitclaimlaw10_PathDeepest.l0 k l s b sm l (l.length : Int) ((i + 1 : Nat) : Int)))) true ∨ ((rdOf ByteArray.empty l (i : Int)).data.toList == [] || right (rdOf ByteArray.empty l (i : Int))) = false := by
        cases hp : ((rdOf ByteArray.empty l (i : Int)).data.toList == [] || right (rdOf ByteArray.empty l (i : Int))) with
        | false => exact .inr rfl
        | true =>
          left
          refine Ev.bind (rright_ev s) ?_
          cases hr : right s with
          | false => exact Ev.neg (by decide) (hB fun h => by unfold cv at h; rw [hr] at h; simp at h)
          | true =>
            refine Ev.pos rfl (Ev.now (rcovers_eq _ s) ?_)
            cases hc : cov (rdOf ByteArray.empty l (i : Int)) s with
            | false => exact Ev.neg (by decide) (hB fun h => by unfold cv at h; rw [hc] at h; simp at h)
            | true => exact Ev.pos rfl (hA (by unfold cv; rw [hp, hr, hc]; rfl))
      have st : ∀ k, quitclaimlaw10_PathDeepest.l0 (k + 1) l s b sm l (l.length : Int) (i : Int) = _ := fun k => by
        simp only [quitclaimlaw10_PathDeepest.l0]
        rw [if_pos (by omega), if_pos (by omega), if_pos (by omega), if_neg (by omega), w64 (by omega) (by omega), show ((i : Int) + 1) = ((i + 1 : Nat) : Int) from rfl]
      refine Ev.step ?_ st
      by_cases h0 : (rdOf ByteArray.empty l (i : Int)).toList = []
      · refine Ev.pos h0 ?_
        rcases tl with h | h
        · exact h
        · rw [← ByteArray.toList_eq, h0] at h; cases h
      · refine Ev.neg h0 (Ev.bind (rright_ev _) ?_)
        rw [ByteArray.toList_eq] at h0
        cases hr : right (rdOf ByteArray.empty l (i : Int)) with
        | false => exact Ev.neg (by decide) (hB fun h => by unfold cv at h; rw [hr, beq_eq_false_iff_ne.2 h0] at h; simp at h)
        | true =>
          refine Ev.pos rfl ?_
          rcases tl with h | h
          · exact h
          · rw [hr, Bool.or_true] at h; cases h
    · refine Ev.step (f := fun k => (quitclaimlaw10_awake.f k).bind fun t133 => (some t133)) (Ev.bind awake_ev (Ev.const true)) fun k => ?_
      simp only [quitclaimlaw10_PathDeepest.l0]
      rw [if_pos (by omega), if_pos (by omega), if_pos (by omega), if_pos (by omega)]
theorem law (l : List ByteArray) (s : ByteArray) : Ev (fun k => quitclaimlaw10_PathDeepest.f k l s) true := by
  have aw : Ev (fun k => quitclaimlaw10_PathDeepest.j0 k l s true) true := by
    refine Ev.step (f := fun k => (quitclaimlaw10_awake.f k).bind fun t128 => (some t128)) (Ev.bind awake_ev (Ev.const true)) fun k => ?_
    simp only [quitclaimlaw10_PathDeepest.j0]
    rw [if_pos trivial]
  unfold quitclaimlaw10_PathDeepest.f
  by_cases hl : l.length ≤ 40
  · refine Ev.neg (by omega) ?_
    by_cases h3 : (s.size : Int) > 300
    · rw [decide_eq_true h3]; exact aw
    · rw [decide_eq_false h3]
      refine Ev.step (law_loop l s hl l.length 0 0 false (by omega) (fun h => by cases h) (fun j hj => by omega) rfl) fun k => ?_
      simp only [quitclaimlaw10_PathDeepest.j0]
      rw [if_neg (by decide)]
      rfl
  · exact Ev.pos (by omega) aw
end Go.Proofs.YtngcfmnmjkncoaaDoor.PureD
namespace Go.Proofs.YtngcfmnmjkncoaaDoor.Pure
theorem pathDeepest (l : List ByteArray) (s : ByteArray) : ∃ k, Go.Proofs.YtngcfmnmjkncoaaDoor.PPathDeepest.quitclaimlaw10_PathDeepest.f k l s = some true := by
  obtain ⟨K, h⟩ := PureD.law l s
  exact ⟨K, h K (Nat.le_refl _)⟩
end Go.Proofs.YtngcfmnmjkncoaaDoor.Pure
