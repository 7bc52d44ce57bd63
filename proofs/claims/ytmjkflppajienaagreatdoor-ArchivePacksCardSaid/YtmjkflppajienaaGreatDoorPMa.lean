/- Plain laws of what the walks answer (texts joined: Pu PPath PHunk PTree PFrom); no condition but the typed premises. -/
import Derived.Test.YtmjkflppajienaaGreatDoorRCv
import Derived.Test.YtmjkflppajienaaGreatDoorRIt
import Derived.Lib.Strings
import Derived.Lib.IndexAny
import Derived.Test.YtmjkflppajienaaGreatDoorF
import Derived.Lib.Bytealg
namespace Go.Proofs.YtmjkflppajienaaGreatDoor.R.Pu
open Go Go.RowKit
set_option linter.unusedVariables false
set_option linter.unusedSimpArgs false

/-! ### loops -/
theorem wh_ind {ι σ β : Type} {F : (σ → Option β) → σ → Option β} (st : ι → σ) (I : ι → Prop) (μ : ι → Nat) (g : ι → β)
    (step : ∀ i, I i → ∀ r : σ → Option β, (∀ j, I j → μ j < μ i → r (st j) = some (g j)) → F r (st i) = some (g i)) (i : ι) (hi : I i) : wh F (st i) = some (g i) := by
  have key : ∀ m i, I i → μ i < m → iter F m (st i) = some (g i) := by
    intro m
    induction m with
    | zero => intro i _ h; omega
    | succ m ih => intro i hi hm; exact step i hi _ fun j hj hlt => ih j hj (by omega)
  exact lst_of (a := fun n => iter F n (st i)) (N := μ i + 1) fun k hk => key k i hi (by omega)
/-- A loop over a row's places: what is left of the row, and what has come of it. -/
theorem wh_list {α S σ β : Type} {F : (σ → Option β) → σ → Option β} (l : List α) (st : Int → S → σ) (I : Nat → S → Prop) (g : List α → S → β)
    (nil : ∀ s r, I l.length s → F r (st (l.length : Nat) s) = some (g [] s))
    (cons : ∀ (i : Nat) (s : S) (r : σ → Option β) (h : i < l.length), I i s → (∀ s', I (i + 1) s' → r (st ((i + 1 : Nat) : Int) s') = some (g (l.drop (i + 1)) s')) → F r (st (i : Int) s) = some (g (l[i] :: l.drop (i + 1)) s))
    (s : S) (h : I 0 s) : wh F (st 0 s) = some (g l s) := by
  have := wh_ind (F := F) (fun (p : Nat × S) => st (p.1 : Int) p.2) (fun p => p.1 ≤ l.length ∧ I p.1 p.2) (fun p => l.length - p.1) (fun p => g (l.drop p.1) p.2) (fun p hp r hr => by
    obtain ⟨i, s⟩ := p
    obtain ⟨h1, h2⟩ := hp
    by_cases hi : i < l.length
    · show F r (st (i : Int) s) = some (g (l.drop i) s)
      rw [List.drop_eq_getElem_cons hi]
      exact cons i s r hi h2 fun s' hs' => hr (i + 1, s') ⟨hi, hs'⟩ (by show l.length - (i + 1) < l.length - i; omega)
    · obtain rfl : i = l.length := by simp only at h1; omega
      show F r (st (l.length : Nat) s) = some (g (l.drop l.length) s)
      rw [List.drop_length]
      exact nil s r h2) (0, s) ⟨Nat.zero_le _, h⟩
  simpa using this
/-- The like, from some place on. -/
theorem wh_from {α S σ β : Type} {F : (σ → Option β) → σ → Option β} (l : List α) (st : Int → S → σ) (I : Nat → S → Prop) (g : List α → S → β)
    (nil : ∀ s r, I l.length s → F r (st (l.length : Nat) s) = some (g [] s))
    (cons : ∀ (i : Nat) (s : S) (r : σ → Option β) (h : i < l.length), I i s → (∀ s', I (i + 1) s' → r (st ((i + 1 : Nat) : Int) s') = some (g (l.drop (i + 1)) s')) → F r (st (i : Int) s) = some (g (l[i] :: l.drop (i + 1)) s))
    (k : Nat) (hk : k ≤ l.length) (s : S) (h : I k s) : wh F (st (k : Int) s) = some (g (l.drop k) s) :=
  wh_ind (F := F) (fun (p : Nat × S) => st (p.1 : Int) p.2) (fun p => p.1 ≤ l.length ∧ I p.1 p.2) (fun p => l.length - p.1) (fun p => g (l.drop p.1) p.2) (fun p hp r hr => by
    obtain ⟨i, s⟩ := p
    obtain ⟨h1, h2⟩ := hp
    by_cases hi : i < l.length
    · show F r (st (i : Int) s) = some (g (l.drop i) s)
      rw [List.drop_eq_getElem_cons hi]
      exact cons i s r hi h2 fun s' hs' => hr (i + 1, s') ⟨hi, hs'⟩ (by show l.length - (i + 1) < l.length - i; omega)
    · obtain rfl : i = l.length := by simp only at h1; omega
      show F r (st (l.length : Nat) s) = some (g (l.drop l.length) s)
      rw [List.drop_length]
      exact nil s r h2) (k, s) ⟨hk, h⟩

/-! ### numbers, rows -/
theorem w_ {x : Int} (h : -9223372036854775808 ≤ x) (h' : x ≤ 9223372036854775807) : w64 x = x := by
  have e : (2 : Int) ^ IntKind.i64.bits = 18446744073709551616 := by decide
  have e' : (2 : Int) ^ (IntKind.i64.bits - 1) = 9223372036854775808 := by decide
  show IntKind.wrap .i64 x = x
  unfold IntKind.wrap
  simp only [e, e']
  by_cases hc : x % 18446744073709551616 ≥ 9223372036854775808
  · rw [if_pos (by rw [decide_eq_true hc]; rfl)]; omega
  · rw [if_neg (by rw [decide_eq_false hc]; simp)]; omega
theorem wS {i : Nat} (h : i < 9223372036854775807) : w64 ((i : Int) + 1) = ((i + 1 : Nat) : Int) := by rw [w_ (by omega) (by omega)]; rfl
theorem wu8 {x : Int} (h : 0 ≤ x) (h' : x < 256) : IntKind.u8.wrap x = x := by
  have e : (2 : Int) ^ IntKind.u8.bits = 256 := by decide
  unfold IntKind.wrap
  simp only [e]
  rw [if_neg (by simp [IntKind.signed])]
  omega
theorem w8mod (x : Int) : IntKind.u8.wrap x = x % 256 := by
  have e : (2 : Int) ^ IntKind.u8.bits = 256 := by decide
  unfold IntKind.wrap
  simp only [e]
  rw [if_neg (by simp [IntKind.signed])]
theorem ix_ {α : Type} {x : List α} {i : Nat} (h : i < x.length) : ix x (i : Int) = some x[i] := by
  unfold ix; rw [if_pos (by omega), Int.toNat_natCast]; simp [h]
theorem ix0 {α : Type} {x : List α} (h : 0 < x.length) : ix x 0 = some x[0] := ix_ (i := 0) h
theorem app_ {α : Type} {b : Nat} {x y : List α} (h : (x.length + y.length) * b ≤ 140737488355328) : app b x y = some (x ++ y) := by
  unfold app; rw [if_pos h]
theorem cut_ {α : Type} {x : List α} {i j : Nat} (h : i ≤ j) (h' : j ≤ x.length) : cut x (i : Int) (j : Int) = some ((x.take j).drop i) := by
  unfold cut; rw [if_pos (by omega)]; simp
theorem cut0 {α : Type} {x : List α} {j : Nat} (h' : j ≤ x.length) : cut x 0 (j : Int) = some (x.take j) := by
  have := cut_ (x := x) (i := 0) (j := j) (by omega) h'
  simpa using this
theorem chk_ {i n : Nat} (h : i < n) : chk (i : Int) n = some () := by unfold chk; rw [if_pos (by omega)]
theorem wr_ {α : Type} {x : List α} {i : Nat} {y : α} (h : i < x.length) : wr x (i : Int) y = some (x.set i y) := by
  unfold wr; rw [if_pos (by omega), Int.toNat_natCast]
theorem eqn_ {a b : Nat} (h : a = b) : eqn a b = some () := if_pos h
theorem mk0_ {α : Type} {b n : Nat} {z : α} (h : n * b ≤ 140737488355328) (h' : n ≤ 140737488355328) : mk0 b (n : Int) z = some (List.replicate n z) := by
  unfold mk0
  rw [if_pos ⟨by omega, by have : (n : Int) * (b : Int) = ((n * b : Nat) : Int) := by simp
                           omega, by omega⟩, Int.toNat_natCast]
theorem gdT {α : Type} [Inhabited α] {x : Option α} : gd true x = x := rfl
theorem gdF {α : Type} [Inhabited α] {x : Option α} : gd false x = some default := rfl
theorem jn_eq {α β : Type} {f : α} {g : α → Option β} : jn f g = g f := rfl
theorem nq_same {α β : Type} {l : List α} {f : Bool → Option β} {r : β} (h : l = [] → f true = some r) (h' : f false = some r) : nq l f = some r := by
  cases l with
  | nil => simp only [nq]; rw [if_pos ((h rfl).trans h'.symm)]; exact h rfl
  | cons a l => exact h'

/-! ### texts -/
theorem bmk_list (s : ByteArray) : bmk s.data.toList = s := by cases s; simp [bmk]
theorem list_bmk (l : List UInt8) : (bmk l).data.toList = l := by simp [bmk]
theorem text_ext {x y : ByteArray} (h : x.data.toList = y.data.toList) : x = y := by rw [← bmk_list x, ← bmk_list y, h]
theorem size_bmk (l : List UInt8) : (bmk l).size = l.length := by show l.toArray.size = _; simp
theorem len_text (s : ByteArray) : s.data.toList.length = s.size := Array.length_toList
theorem cut_list (s : ByteArray) (a b : Nat) : (s.extract a b).data.toList = (s.data.toList.take b).drop a := by
  rw [ByteArray.data_extract, Array.toList_extract, List.extract_eq_take_drop, ← List.drop_take]
theorem app_list (x y : ByteArray) : (x ++ y).data.toList = x.data.toList ++ y.data.toList := by
  rw [ByteArray.data_append, Array.toList_append]
theorem toList_data (s : ByteArray) : s.toList = s.data.toList := ByteArray.toList_eq s
theorem eqb (s : ByteArray) (l : List UInt8) : decide (s = ⟨⟨l⟩⟩) = (s.data.toList == l) := by
  rw [Bool.eq_iff_iff, decide_eq_true_eq, beq_iff_eq]
  constructor
  · rintro rfl; rfl
  · intro h
    obtain ⟨⟨x⟩⟩ := s
    have h' : x = l := h
    rw [h']
theorem eqd (x y : ByteArray) : decide (x = y) = (x.data.toList == y.data.toList) := by
  rw [Bool.eq_iff_iff, decide_eq_true_eq, beq_iff_eq]
  exact ⟨fun h => by rw [h], text_ext⟩
theorem sub_ {s : ByteArray} {i j : Nat} (h : i ≤ j) (h' : j ≤ s.size) : sub s (i : Int) (j : Int) = some (s.extract i j) := by
  unfold sub; rw [if_pos (by omega)]; simp
theorem sub0 {s : ByteArray} {j : Nat} (h' : j ≤ s.size) : sub s 0 (j : Int) = some (s.extract 0 j) := sub_ (i := 0) (Nat.zero_le _) h'
theorem bx_ {s : ByteArray} {i : Nat} (h : i < s.data.toList.length) : bx s (i : Int) = some ((s.data.toList[i]).toNat : Int) := by
  have h' : i < s.size := by rw [Array.length_toList] at h; exact h
  unfold bx bt; rw [if_pos (by omega), Int.toNat_natCast, List.getD_eq_getElem?_getD, List.getElem?_eq_getElem h]; rfl
theorem cat_ {x y : ByteArray} (h : x.size + y.size ≤ 9223372036854775807) : cat x y = some (x ++ y) := if_pos h
theorem size_app (x y : ByteArray) : (x ++ y).size = x.size + y.size := ByteArray.size_append
theorem u8_eq {a b : UInt8} : ((a.toNat : Int) = (b.toNat : Int)) ↔ a = b := by
  constructor
  · intro h; exact UInt8.toNat.inj (by omega)
  · rintro rfl; rfl
theorem u8_lit {a : UInt8} {n : Nat} (hn : n < 256) : ((a.toNat : Int) = (n : Int)) ↔ a = UInt8.ofNat n := by
  have : (UInt8.ofNat n).toNat = n := by simp [Nat.mod_eq_of_lt hn]
  rw [← u8_eq, this]
end Go.Proofs.YtmjkflppajienaaGreatDoor.R.Pu
namespace Go.Proofs.YtmjkflppajienaaGreatDoor.R.Pu
open Go Go.RowKit
set_option linter.unusedVariables false
set_option linter.unusedSimpArgs false

/-! ### parts -/
def lt (b : Int) : Bool := decide ((97 ≤ b ∧ b ≤ 122) ∨ (48 ≤ b ∧ b ≤ 57) ∨ b = 46 ∨ b = 95 ∨ b = 45)
def lets (l : List UInt8) : Bool := l.all fun c => lt (c.toNat : Int)
theorem lt_eq (b : Int) : (decide (b ≥ 97) && decide (b ≤ 122) || decide (b ≥ 48) && decide (b ≤ 57) || decide (b = 46) || decide (b = 95) || decide (b = 45)) = lt b := by
  unfold lt
  rw [Bool.eq_iff_iff]
  simp only [Bool.or_eq_true, Bool.and_eq_true, decide_eq_true_eq]
  omega
def part (s : ByteArray) : Bool := !(s.data.toList == []) && (!(s.data.toList == [46]) && (!(s.data.toList == [46, 46]) && lets s.data.toList))
theorem path_part_ev (s : ByteArray) (hs : s.size ≤ 9000000000000000000) : path_part.f s = some (part s) := by
  have hl := len_text s
  refine path_part.in _ ?_
  rw [eqb s [], eqb s [46], eqb s [46, 46]]
  unfold part
  cases s.data.toList == [] with
  | true => rfl
  | false =>
  cases s.data.toList == [46] with
  | true => rfl
  | false =>
  cases s.data.toList == [46, 46] with
  | true => rfl
  | false =>
  simp only [Bool.or_false, Bool.not_false, Bool.true_and, Bool.false_eq_true, if_false]
  refine wh_list s.data.toList (fun i (_ : Unit) => (s, (s.size : Int), i, ())) (fun _ _ => True) (fun l _ => lets l) (fun _ r _ => ?_) (fun i _ r h _ hr => ?_) () trivial
  · simp [hl, lets]
  · have hr := hr () trivial
    simp (disch := omega) only [decide_eq_true_eq, if_pos, bx_, Option.bind_some, wS, lt_eq, hr]
    unfold lets
    rw [List.all_cons]
    cases lt ((s.data.toList[i]).toNat : Int) <;> rfl
def abc : List UInt8 := [97, 98, 99, 100, 101, 102, 103, 104, 105, 106, 107, 108, 109, 110, 111, 112, 113, 114, 115, 116, 117, 118, 119, 120, 121, 122, 48, 49, 50, 51, 52, 53, 54, 55, 56, 57, 46, 95, 45]
theorem abc_lt : ∀ n : _root_.Fin 256, (abc.any fun c => decide ((c.toNat : Int) = (n.val : Int))) = lt (n.val : Int) := by decide +kernel
theorem letter_ev (c : UInt8) : quitclaimref10_letter.f (c.toNat : Int) = some (lt (c.toNat : Int)) := by
  refine quitclaimref10_letter.in _ ?_
  have e := abc_lt ⟨c.toNat, c.toNat_lt⟩
  rw [← e]
  refine wh_list abc (fun i (_ : Unit) => ((c.toNat : Int), (⟨⟨abc⟩⟩ : ByteArray), i, ())) (fun _ _ => True) (fun l _ => l.any fun x => decide ((x.toNat : Int) = (c.toNat : Int))) (fun _ r _ => ?_) (fun i _ r h _ hr => ?_) () trivial
  · rfl
  · have hr := hr () trivial
    have h39 : abc.length = 39 := rfl
    have hz : (⟨⟨abc⟩⟩ : ByteArray).size = 39 := rfl
    have hb := bx_ (s := ⟨⟨abc⟩⟩) (i := i) h
    rw [List.any_cons]
    simp (disch := omega) only [decide_eq_true_eq, if_pos, hz, hb, Option.bind_some, wS, hr]
    show (if ((abc[i]).toNat : Int) = (c.toNat : Int) then some true else _) = _
    by_cases hq : ((abc[i]).toNat : Int) = (c.toNat : Int)
    · rw [if_pos hq, decide_eq_true hq]; rfl
    · rw [if_neg hq, decide_eq_false hq]; rfl
theorem size_nil (s : ByteArray) : decide ((s.size : Int) = 0) = (s.data.toList == []) := by
  have hl := len_text s
  rw [Bool.eq_iff_iff, decide_eq_true_eq, beq_iff_eq, ← List.length_eq_zero_iff]
  omega
theorem rpart_ev (s : ByteArray) (hs : s.size ≤ 9000000000000000000) : quitclaimref10_Part.f s = some (part s) := by
  have hl := len_text s
  refine quitclaimref10_Part.in _ ?_
  rw [size_nil, eqb s [46], eqb s [46, 46]]
  unfold part
  cases s.data.toList == [] with
  | true => rfl
  | false =>
  cases s.data.toList == [46] with
  | true => rfl
  | false =>
  cases s.data.toList == [46, 46] with
  | true => rfl
  | false =>
  simp only [Bool.or_false, Bool.not_false, Bool.true_and, Bool.false_eq_true, if_false]
  refine wh_list s.data.toList (fun i (_ : Unit) => (s, i, ())) (fun _ _ => True) (fun l _ => lets l) (fun _ r _ => ?_) (fun i _ r h _ hr => ?_) () trivial
  · simp [hl, lets]
  · have hr := hr () trivial
    simp (disch := omega) only [decide_eq_true_eq, if_pos, bx_, Option.bind_some, wS, letter_ev, hr]
    unfold lets
    rw [List.all_cons]
    cases lt ((s.data.toList[i]).toNat : Int) <;> rfl

/-! ### what stands between slashes -/
def glue (p : List UInt8) : List (List UInt8) → List (List UInt8)
  | [] => [p]
  | x :: xs => (p ++ x) :: xs
/-- What stands between bytes d. -/
def spd (d : UInt8) : List UInt8 → List (List UInt8)
  | [] => [[]]
  | c :: l => if c = d then [] :: spd d l else glue [c] (spd d l)
theorem glue_ne (p : List UInt8) (x : List (List UInt8)) : glue p x ≠ [] := by cases x <;> simp [glue]
theorem spd_ne (d : UInt8) (l : List UInt8) : spd d l ≠ [] := by
  cases l with
  | nil => simp [spd]
  | cons c l =>
    unfold spd
    split
    · simp
    · exact glue_ne _ _
theorem glue_nil {x : List (List UInt8)} (h : x ≠ []) : glue [] x = x := by
  cases x with
  | nil => exact absurd rfl h
  | cons a x => rfl
theorem glue_glue (p q : List UInt8) {x : List (List UInt8)} (h : x ≠ []) : glue p (glue q x) = glue (p ++ q) x := by
  cases x with
  | nil => exact absurd rfl h
  | cons a x => simp [glue]
theorem spd_len (d : UInt8) (l : List UInt8) : (spd d l).length ≤ l.length + 1 := by
  induction l with
  | nil => simp [spd]
  | cons c l ih =>
    unfold spd
    split
    · simp; omega
    · have h := spd_ne d l
      cases e : spd d l with
      | nil => exact absurd e h
      | cons a x => rw [e] at ih; simp [glue] at ih ⊢; omega
/-- By the first such byte. -/
theorem spd_idx (d : UInt8) (l : List UInt8) : (Lib.indexByte l d < 0 → spd d l = [l]) ∧ (∀ m : Nat, Lib.indexByte l d = (m : Int) → spd d l = l.take m :: spd d (l.drop (m + 1))) := by
  induction l with
  | nil => exact ⟨fun _ => rfl, fun m h => by unfold Lib.indexByte at h; omega⟩
  | cons c l ih =>
    have ge := Lib.indexByte_ge l d
    unfold Lib.indexByte
    rw [show spd d (c :: l) = if c = d then [] :: spd d l else glue [c] (spd d l) from rfl]
    by_cases hc : c = d
    · rw [if_pos (by rw [hc]; exact beq_iff_eq.2 rfl), if_pos hc]
      refine ⟨fun h => by omega, fun m h => ?_⟩
      obtain rfl : m = 0 := by omega
      rfl
    · rw [if_neg (by simpa using hc), if_neg hc]
      split
      next h =>
        have h1 := beq_iff_eq.1 h
        refine ⟨fun _ => ?_, fun m hm => by omega⟩
        rw [ih.1 (by omega)]
        rfl
      next h =>
        have h1 : Lib.indexByte l d ≠ -1 := fun e => h (by rw [e]; rfl)
        refine ⟨fun hh => by omega, fun m hm => ?_⟩
        obtain ⟨j, hj⟩ := Int.eq_ofNat_of_zero_le (show 0 ≤ Lib.indexByte l d by omega)
        obtain rfl : m = j + 1 := by omega
        rw [ih.2 j hj]
        simp [glue]
theorem spd_size (d : UInt8) (l : List UInt8) : ∀ x ∈ spd d l, x.length ≤ l.length := by
  induction l with
  | nil => intro x hx; simp [spd] at hx; simp [hx]
  | cons c l ih =>
    intro x hx
    rw [show spd d (c :: l) = if c = d then [] :: spd d l else glue [c] (spd d l) from rfl] at hx
    split at hx
    · rcases List.mem_cons.1 hx with rfl | hx
      · simp
      · have := ih x hx; simp; omega
    · have h := spd_ne d l
      cases e : spd d l with
      | nil => exact absurd e h
      | cons a y =>
        rw [e] at hx ih
        rcases List.mem_cons.1 hx with rfl | hx
        · have := ih a (List.mem_cons_self ..); simp; omega
        · have := ih x (List.mem_cons_of_mem _ hx); simp; omega
/-- What strings.SplitSeq yields. -/
theorem spc_eq (c : UInt8) : ∀ (n : Nat) (s : ByteArray), s.size ≤ n → spc c n s = (spd c s.data.toList).map bmk
  | 0, s, h => by
    have hl := len_text s
    have e : s.data.toList = [] := List.eq_nil_of_length_eq_zero (by omega)
    rw [e]
    show [s] = [bmk []]
    rw [← bmk_list s, e]
  | n + 1, s, h => by
    have hl := len_text s
    obtain ⟨sn, sp⟩ := spd_idx c s.data.toList
    unfold spc
    by_cases hi : Lib.indexByte s.data.toList c < 0
    · rw [if_pos hi, sn hi]
      simp [bmk_list]
    · rw [if_neg hi]
      obtain ⟨m, hm⟩ := Int.eq_ofNat_of_zero_le (Int.not_lt.1 hi)
      have e1 : s.extract 0 m = bmk (s.data.toList.take m) := text_ext (by rw [cut_list, list_bmk, List.drop_zero])
      have e2 : (s.extract (m + 1) s.size).data.toList = s.data.toList.drop (m + 1) := by rw [cut_list, ← hl, List.take_length]
      have hlt := idx_lt s.data.toList c
      rw [sp m hm, hm, Int.toNat_natCast, spc_eq c n _ (by rw [ByteArray.size_extract]; omega), e1, e2]
      rfl
theorem r10split_ev (s : ByteArray) (hs : s.size ≤ 1000000) : quitclaimref10_Split.f s = some ((spd 47 s.data.toList).map bmk) := by
  have hl := len_text s
  refine quitclaimref10_Split.in _ ?_
  have := wh_list (F := fun r1 (v2 : ((ByteArray × List ByteArray × Int × Int × Unit) × Unit × Unit)) => if decide (v2.1.2.2.2.1 < (↑v2.1.1.size : Int)) then ((bx v2.1.1 v2.1.2.2.2.1).bind fun x3 => if decide (x3 = 47) then ((sub v2.1.1 v2.1.2.2.1 v2.1.2.2.2.1).bind fun x4 => (app 16 v2.1.2.1 [x4]).bind fun x5 => r1 ((v2.1.1, x5, w64 (v2.1.2.2.2.1 + 1), w64 (v2.1.2.2.2.1 + 1), ()), (), ())) else r1 ((v2.1.1, v2.1.2.1, v2.1.2.2.1, w64 (v2.1.2.2.2.1 + 1), ()), (), ())) else (sub v2.1.1 v2.1.2.2.1 (↑v2.1.1.size : Int)).bind fun x6 => (app 16 v2.1.2.1 [x6]).bind fun x7 => some x7)
    s.data.toList (fun i (p : Nat × List ByteArray) => ((s, p.2, (p.1 : Int), i, ()), (), ())) (fun i p => p.1 ≤ i ∧ p.2.length ≤ i) (fun l p => p.2 ++ (glue ((s.data.toList.take (s.data.toList.length - l.length)).drop p.1) (spd 47 l)).map bmk) (fun p r hI => ?_) (fun i p r h hI hr => ?_) (0, []) ⟨Nat.le_refl _, Nat.le_refl _⟩
  · simp only [Nat.sub_self, List.take_zero, List.drop_nil, List.nil_append, glue_nil (spd_ne _ _)] at this
    exact this
  · obtain ⟨f, out⟩ := p
    simp only at hI
    simp (disch := omega) only [decide_eq_true_eq, hl, if_neg, sub_, Option.bind_some]
    rw [app_ (by rw [List.length_singleton]; omega)]
    have e1 : s.extract f s.size = bmk ((s.data.toList.take s.data.toList.length).drop f) := text_ext (by rw [cut_list, list_bmk, hl])
    rw [e1]
    simp [spd, glue]
  · obtain ⟨f, out⟩ := p
    simp only at hI hr
    have e1 : s.extract f i = bmk ((s.data.toList.take i).drop f) := text_ext (by rw [cut_list, list_bmk])
    have l0 : s.data.toList.length - (s.data.toList[i] :: s.data.toList.drop (i + 1)).length = i := by simp; omega
    have l1 : s.data.toList.length - (s.data.toList.drop (i + 1)).length = i + 1 := by simp; omega
    rw [l0]
    simp only [l1] at hr
    simp (disch := omega) only [decide_eq_true_eq, if_pos, bx_, Option.bind_some, wS]
    rw [show spd 47 (s.data.toList[i] :: s.data.toList.drop (i + 1)) = if s.data.toList[i] = 47 then [] :: spd 47 (s.data.toList.drop (i + 1)) else glue [s.data.toList[i]] (spd 47 (s.data.toList.drop (i + 1))) from rfl]
    by_cases hc : s.data.toList[i] = 47
    · have hr := hr (i + 1, out ++ [bmk ((s.data.toList.take i).drop f)]) ⟨Nat.le_refl _, by simp; omega⟩
      simp only at hr
      rw [if_pos hc, if_pos (by rw [hc]; rfl), sub_ (by omega) (by omega), Option.bind_some, app_ (by rw [List.length_singleton]; omega), Option.bind_some, e1, hr,
        show (s.data.toList.take (i + 1)).drop (i + 1) = [] from List.drop_eq_nil_of_le (by rw [List.length_take]; omega), glue_nil (spd_ne _ _)]
      simp [glue]
    · have hr := hr (f, out) ⟨by simp only; omega, by simp only; omega⟩
      simp only at hr
      rw [if_neg hc, if_neg (fun h => hc ((u8_lit (a := s.data.toList[i]) (n := 47) (by omega)).1 h)), hr,
        List.take_succ_eq_append_getElem h, List.drop_append_of_le_length (by rw [List.length_take]; omega), glue_glue _ _ (spd_ne _ _)]

/-! ### paths -/
def right (s : ByteArray) : Bool := decide (s.size ≤ 200) && (((spd 47 s.data.toList).map bmk).all part && decide ((spd 47 s.data.toList).length ≤ 16))
theorem rright_ev (s : ByteArray) : quitclaimref10_Right.f s = some (right s) := by
  have hl := len_text s
  refine quitclaimref10_Right.in _ ?_
  unfold right
  by_cases h : s.size ≤ 200
  · simp (disch := omega) only [decide_eq_true_eq, if_neg, r10split_ev, Option.bind_some]
    rw [decide_eq_true h, Bool.true_and]
    have h2 := spd_len 47 s.data.toList
    have hlen : ((spd 47 s.data.toList).map bmk).length = (spd 47 s.data.toList).length := List.length_map ..
    have hsz : ∀ t ∈ (spd 47 s.data.toList).map bmk, t.size ≤ 200 := fun t ht => by
      obtain ⟨x, hx, rfl⟩ := List.mem_map.1 ht
      have := spd_size _ _ x hx
      rw [size_bmk]; omega
    rw [← hlen]
    generalize (spd 47 s.data.toList).map bmk = xs at hsz hlen
    refine wh_list xs (fun i (_ : Unit) => (xs, i, ())) (fun _ _ => True) (fun l _ => l.all part && decide (xs.length ≤ 16)) (fun _ r _ => ?_) (fun i _ r h _ hr => ?_) () trivial
    · simp; omega
    · have hr := hr () trivial
      have := hsz _ (List.getElem_mem h)
      simp (disch := omega) only [decide_eq_true_eq, if_pos, ix_, Option.bind_some, wS, rpart_ev, hr]
      rw [List.all_cons]
      cases part xs[i] <;> rfl
  · simp (disch := omega) only [decide_eq_true_eq, if_pos]
    rw [decide_eq_false h, Bool.false_and]
theorem right_ev (s : ByteArray) : path_Right.f s = some (right s) := by
  have hl := len_text s
  refine path_Right.in _ ?_
  unfold right
  by_cases h : s.size ≤ 200
  · have e0 : strings_SplitSeq.f s ⟨⟨[47]⟩⟩ = some (((), (), (), ()), s, ⟨⟨[47]⟩⟩, 0, ()) := strings_SplitSeq.in _ _ (by rw [strings_splitSeq.in _ _ _ rfl]; rfl)
    have e1 : spl (⟨⟨[47]⟩⟩ : ByteArray) s 0 = some ((spd 47 s.data.toList).map bmk) := by
      unfold spl
      rw [if_pos ⟨rfl, by omega⟩]
      exact congrArg some (spc_eq 47 _ s (Nat.le_refl _))
    simp (disch := omega) only [decide_eq_true_eq, if_neg, e0, e1, Option.bind_some]
    rw [decide_eq_true h, Bool.true_and]
    have hlen : ((spd 47 s.data.toList).map bmk).length = (spd 47 s.data.toList).length := List.length_map ..
    have hsz : ∀ t ∈ (spd 47 s.data.toList).map bmk, t.size ≤ 200 := fun t ht => by
      obtain ⟨x, hx, rfl⟩ := List.mem_map.1 ht
      have := spd_size _ _ x hx
      rw [size_bmk]; omega
    rw [← hlen]
    generalize (spd 47 s.data.toList).map bmk = xs at hsz
    have key : ∀ (xs : List ByteArray) (n : Nat), (∀ t ∈ xs, t.size ≤ 200) → n ≤ 16 → rng (fun r3 (x4 : ByteArray) n5 (v6 : (Bool × Int × Unit × Unit × Unit × Unit)) => (gd (!decide (w64 (v6.2.1 + 1) > 16)) (path_part.f x4)).bind fun x7 => if decide (w64 (v6.2.1 + 1) > 16) || !x7 then some false else r3 (v6.1, w64 (v6.2.1 + 1), (), (), (), ())) (fun v6 => some true) xs (false, (n : Int), (), (), (), ()) = some (xs.all part && decide (n + xs.length ≤ 16)) := by
      intro xs
      induction xs with
      | nil => intro n _ hn; simp [rng, hn]
      | cons x xs ih =>
        intro n hs hn
        unfold rng
        rw [path_part_ev x (by have := hs x (by simp); omega)]
        simp (disch := omega) only [wS]
        by_cases h16 : n + 1 > 16
        · rw [decide_eq_true (show ((n + 1 : Nat) : Int) > 16 by omega), decide_eq_false (show ¬ (n + (x :: xs).length ≤ 16) by simp; omega), Bool.and_false]
          rfl
        · rw [decide_eq_false (show ¬ ((n + 1 : Nat) : Int) > 16 by omega)]
          show ((some (part x)).bind fun x7 => if (false || !x7) = true then some false else _) = _
          rw [Option.bind_some, List.all_cons]
          cases part x with
          | false => rfl
          | true =>
            rw [if_neg (by decide), ih (n + 1) (fun t ht => hs t (by simp [ht])) (by omega), List.length_cons, show n + 1 + xs.length = n + (xs.length + 1) by omega]; rfl
    have := key xs 0 hsz (by omega)
    rw [Nat.zero_add] at this
    exact this
  · simp (disch := omega) only [decide_eq_true_eq, if_pos]
    rw [decide_eq_false h, Bool.false_and]

/-! ### covering -/
def cov (p s : ByteArray) : Bool := p.data.toList == [] || (p.data.toList == s.data.toList || (decide (p.size < s.size) && (s.data.toList.take (p.size + 1) == p.data.toList ++ [47])))
theorem take_app {l q : List UInt8} {c : UInt8} {n : Nat} (hq : q.length = n) (h : n < l.length) : l.take (n + 1) = q ++ [c] ↔ l.take n = q ∧ l[n] = c := by
  subst hq
  rw [List.take_succ_eq_append_getElem h]
  constructor
  · intro e
    obtain ⟨a, b⟩ := List.append_inj e (by rw [List.length_take]; omega)
    exact ⟨a, by simpa using b⟩
  · rintro ⟨a, b⟩
    rw [a, b]
theorem hasPrefix_ev (s p : ByteArray) : strings_HasPrefix.f s p = some (decide (p.size ≤ s.size) && (s.data.toList.take p.size == p.data.toList)) := by
  refine strings_HasPrefix.in _ _ ?_
  rw [internal_stringslite_HasPrefix.in s p (r := decide (p.size ≤ s.size) && (s.data.toList.take p.size == p.data.toList)) ?_]
  · rfl
  · by_cases h : p.size ≤ s.size
    · rw [decide_eq_true (show (s.size : Int) ≥ (p.size : Int) by omega), decide_eq_true h, gdT, sub0 h, Option.bind_some, eqd, cut_list, List.drop_zero]
    · rw [decide_eq_false (show ¬ (s.size : Int) ≥ (p.size : Int) by omega), decide_eq_false h]; rfl
theorem covers_ev (p s : ByteArray) (hp : p.size ≤ 1000000) : path_covers.f p s = some (cov p s) := by
  have lp := len_text p
  have ls := len_text s
  refine path_covers.in _ _ ?_
  rw [eqb p [], eqd s p]
  unfold cov
  cases h0 : (p.data.toList == []) with
  | true => rfl
  | false =>
    have hsym : (p.data.toList == s.data.toList) = (s.data.toList == p.data.toList) := by rw [Bool.eq_iff_iff, beq_iff_eq, beq_iff_eq]; exact eq_comm
    rw [hsym]
    cases h1 : (s.data.toList == p.data.toList) with
    | true => rfl
    | false =>
      have z : (p ++ (⟨⟨[47]⟩⟩ : ByteArray)).size = p.size + 1 := by rw [size_app]; rfl
      rw [cat_ (show p.size + (⟨⟨[47]⟩⟩ : ByteArray).size ≤ _ by show p.size + 1 ≤ _; omega)]
      simp only [Bool.or_false, Bool.not_false, gdT, Option.bind_some, hasPrefix_ev, z, app_list, Bool.false_or, Option.some.injEq]
      rw [Bool.eq_iff_iff]
      simp only [Bool.and_eq_true, decide_eq_true_eq]
      exact ⟨fun ⟨a, b⟩ => ⟨by omega, b⟩, fun ⟨a, b⟩ => ⟨by omega, b⟩⟩
theorem rcovers_ev (p s : ByteArray) : quitclaimref10_Covers.f p s = some (cov p s) := by
  have lp := len_text p
  have ls := len_text s
  refine quitclaimref10_Covers.in _ _ ?_
  rw [eqb p [], eqd p s]
  unfold cov
  cases h0 : (p.data.toList == []) with
  | true => rfl
  | false =>
    cases h1 : (p.data.toList == s.data.toList) with
    | true => rfl
    | false =>
      rw [if_neg (by decide)]
      by_cases h2 : p.size < s.size
      · rw [decide_eq_true (show ((s.size : Int) > (p.size : Int)) by omega), decide_eq_true h2]
        have h3 : p.size < s.data.toList.length := by omega
        rw [gdT, sub0 (by omega), Option.bind_some, eqd, cut_list, List.drop_zero]
        have e := take_app (l := s.data.toList) (q := p.data.toList) (c := 47) lp h3
        cases h4 : (s.data.toList.take p.size == p.data.toList) with
        | false =>
          have n4 : ¬ (s.data.toList.take (p.size + 1) = p.data.toList ++ [47]) := fun q => by
            rw [beq_eq_false_iff_ne] at h4; exact h4 (e.1 q).1
          rw [beq_eq_false_iff_ne.2 n4]; rfl
        | true =>
          rw [bx_ h3]
          show some (true && decide (((s.data.toList[p.size]).toNat : Int) = 47)) = some (false || (false || (true && (s.data.toList.take (p.size + 1) == p.data.toList ++ [47]))))
          congr 1
          rw [Bool.eq_iff_iff]
          simp only [Bool.true_and, Bool.false_or, decide_eq_true_eq, beq_iff_eq]
          rw [e]
          exact ⟨fun q => ⟨beq_iff_eq.1 h4, (u8_lit (n := 47) (by omega)).1 q⟩, fun ⟨_, q⟩ => by rw [q]; rfl⟩
      · rw [decide_eq_false (show ¬ ((s.size : Int) > (p.size : Int)) by omega), decide_eq_false h2]
        rfl
/-- path.Beside. -/
def bes (a b : ByteArray) : Bool := right a && (right b && (!cov a b && !cov b a))
theorem right_size {s : ByteArray} (h : right s = true) : s.size ≤ 200 := by
  unfold right at h
  simp only [Bool.and_eq_true, decide_eq_true_eq] at h
  exact h.1
theorem beside_ev (a b : ByteArray) : path_Beside.f a b = some (bes a b) := by
  refine path_Beside.in _ _ ?_
  rw [right_ev, Option.bind_some, right_ev]
  unfold bes
  cases ha : right a with
  | false => rfl
  | true =>
    cases hb : right b with
    | false => rfl
    | true =>
      have h1 := right_size ha
      have h2 := right_size hb
      rw [covers_ev a b (by omega), covers_ev b a (by omega)]
      simp only [gdT, Option.bind_some, Bool.true_and, Bool.and_true]
      cases cov a b <;> cases cov b a <;> rfl
end Go.Proofs.YtmjkflppajienaaGreatDoor.R.Pu
namespace Go.Proofs.YtmjkflppajienaaGreatDoor.R.Pu
open Go Go.RowKit
set_option linter.unusedVariables false
set_option linter.unusedSimpArgs false

/-! ### lines -/
theorem idx_mem (c : UInt8) : ∀ l : List UInt8, decide (0 ≤ Lib.indexByte l c) = !(l.all fun x => x != c)
  | [] => by simp [Lib.indexByte]
  | b :: l => by
    have ih := idx_mem c l
    have ge := Lib.indexByte_ge l c
    unfold Lib.indexByte
    rw [List.all_cons]
    by_cases hb : b = c
    · rw [if_pos (by rw [hb]; exact beq_iff_eq.2 rfl), hb]; simp
    · rw [if_neg (by simpa using hb), show (b != c) = true from by simpa using hb, Bool.true_and, ← ih]
      split
      next h => have h1 := beq_iff_eq.1 h; rw [h1]
      next h =>
        have h1 : Lib.indexByte l c ≠ -1 := fun e => h (by rw [e]; rfl)
        rw [decide_eq_true (show 0 ≤ Lib.indexByte l c + 1 by omega), decide_eq_true (show 0 ≤ Lib.indexByte l c by omega)]
def lineOk (s : ByteArray) : Bool := decide (s.size ≤ 200) && s.data.toList.all fun c => c != 10
def linesOk (l : List ByteArray) : Bool := decide (l.length ≤ 1000) && l.all lineOk
theorem contains_ev (s : ByteArray) (c : UInt8) : strings_Contains.f s ⟨⟨[c]⟩⟩ = some (!(s.data.toList.all fun x => x != c)) :=
  strings_Contains.in _ _ (by rw [← idx_mem]; rfl)
theorem hunk_Lines_1_ev (s : ByteArray) : hunk_Lines_1.f s = some (!lineOk s) := by
  refine hunk_Lines_1.in _ ?_
  rw [contains_ev]
  unfold lineOk
  by_cases h : s.size ≤ 200
  · rw [decide_eq_false (show ¬ (s.size : Int) > 200 by omega), decide_eq_true h]; simp [gdT]
  · rw [decide_eq_true (show (s.size : Int) > 200 by omega), decide_eq_false h]; rfl
theorem indexFunc_ev (l : List ByteArray) (hl : l.length ≤ 9000000000000000000) : ∃ i, slices_IndexFunc_string_string_hunk_Lines_1.f l = some i ∧ decide (i ≥ 0) = !l.all lineOk := by
  let g : List ByteArray → Int := fun x => if x.all lineOk then -1 else ((l.length - x.length : Nat) : Int) + ((x.findIdx fun s => !lineOk s : Nat) : Int)
  refine ⟨g l, slices_IndexFunc_string_string_hunk_Lines_1.in _ ?_, ?_⟩
  · refine wh_list l (fun i (_ : Unit) => (l, (), (l.length : Int), i, ())) (fun _ _ => True) (fun x _ => g x) (fun _ r _ => ?_) (fun i _ r h _ hr => ?_) () trivial
    · simp [g]
    · have hr := hr () trivial
      simp (disch := omega) only [decide_eq_true_eq, if_pos, ix_, Option.bind_some, wS, hunk_Lines_1_ev, hr]
      have l0 : l.length - (l[i] :: l.drop (i + 1)).length = i := by simp; omega
      have l1 : l.length - (l.drop (i + 1)).length = i + 1 := by simp; omega
      simp only [g, l0, l1, List.all_cons, List.findIdx_cons]
      cases lineOk l[i] with
      | false => simp
      | true =>
        simp only [Bool.not_true, Bool.false_eq_true, if_false, Bool.true_and]
        congr 1
        split
        · rfl
        · simp; omega
  · simp only [g]
    split
    · rename_i h; rw [h]; rfl
    · rename_i h
      rw [Bool.eq_false_iff.2 h]
      simp <;> omega
theorem hunk_Lines_ev (l : List ByteArray) (hl : l.length ≤ 9000000000000000000) : hunk_Lines.f l = some (linesOk l) := by
  refine hunk_Lines.in _ ?_
  obtain ⟨i, h1, h2⟩ := indexFunc_ev l hl
  rw [slices_ContainsFunc_string_string_hunk_Lines_1.in l (r := !l.all lineOk) (by rw [h1, Option.bind_some, h2])]
  unfold linesOk
  by_cases h : l.length ≤ 1000
  · rw [decide_eq_true (show (l.length : Int) ≤ 1000 by omega), decide_eq_true h]; simp [gdT]
  · rw [decide_eq_false (show ¬ (l.length : Int) ≤ 1000 by omega), decide_eq_false h]; rfl
theorem rLine_ev (s : ByteArray) (hs : s.size ≤ 9000000000000000000) : quitclaimref11_Line.f s = some (lineOk s) := by
  have hl := len_text s
  refine quitclaimref11_Line.in _ ?_
  unfold lineOk
  rw [Bool.and_comm]
  refine wh_list s.data.toList (fun i (_ : Unit) => (s, i, ())) (fun _ _ => True) (fun l _ => (l.all fun c => c != 10) && decide (s.size ≤ 200)) (fun _ r _ => ?_) (fun i _ r h _ hr => ?_) () trivial
  · simp [hl]; omega
  · have hr := hr () trivial
    simp (disch := omega) only [decide_eq_true_eq, if_pos, bx_, Option.bind_some, wS, hr]
    rw [List.all_cons]
    by_cases hc : s.data.toList[i] = 10
    · rw [if_pos (by rw [hc]; rfl), hc]; rfl
    · rw [if_neg (show ¬ (((s.data.toList[i]).toNat : Int) = 10) from fun h => hc ((u8_lit (n := 10) (by omega)).1 h)), show (s.data.toList[i] != 10) = true from by simpa using hc, Bool.true_and]
theorem rLines_ev (l : List ByteArray) (hl : l.length ≤ 9000000000000000000) (hs : ∀ s ∈ l, s.size ≤ 9000000000000000000) : quitclaimref11_Lines.f l = some (linesOk l) := by
  refine quitclaimref11_Lines.in _ ?_
  unfold linesOk
  rw [Bool.and_comm]
  refine wh_list l (fun i (_ : Unit) => (l, i, ())) (fun _ _ => True) (fun x _ => x.all lineOk && decide (l.length ≤ 1000)) (fun _ r _ => ?_) (fun i _ r h _ hr => ?_) () trivial
  · simp; omega
  · have hr := hr () trivial
    have hz := hs _ (List.getElem_mem h)
    simp (disch := omega) only [decide_eq_true_eq, if_pos, ix_, Option.bind_some, wS, rLine_ev, hr]
    rw [List.all_cons]
    cases lineOk l[i] <;> rfl

/-! ### strings.Split at a byte -/
theorem count_spd (c : UInt8) : ∀ l : List UInt8, Lib.countByte l c + 1 = (spd c l).length
  | [] => rfl
  | b :: l => by
    have ih := count_spd c l
    have h := spd_ne c l
    rw [show spd c (b :: l) = if b = c then [] :: spd c l else glue [b] (spd c l) from rfl]
    change List.count c l + 1 = _ at ih
    change List.count c (b :: l) + 1 = _
    rw [List.count_cons]
    by_cases hb : b = c
    · rw [if_pos hb, if_pos (by rw [hb]; exact beq_iff_eq.2 rfl), List.length_cons, ← ih]
    · rw [if_neg hb, if_neg (by simpa using hb)]
      cases e : spd c l with
      | nil => exact absurd e h
      | cons a x => rw [e] at ih; simp [glue] at ih ⊢; omega
theorem index_ev (s : ByteArray) (c : UInt8) : strings_Index.f s ⟨⟨[c]⟩⟩ = some (Lib.indexByte s.data.toList c) := strings_Index.in _ _ rfl
theorem count_ev (s : ByteArray) (c : UInt8) : strings_Count.f s ⟨⟨[c]⟩⟩ = some ((Lib.countByte s.data.toList c : Nat) : Int) := strings_Count.in _ _ rfl
theorem split_ev (s : ByteArray) (c : UInt8) (hs : s.size ≤ 1000000000000) : strings_Split.f s ⟨⟨[c]⟩⟩ = some ((spd c s.data.toList).map bmk) := by
  refine strings_Split.in _ _ ?_
  rw [strings_genSplit.in s _ 0 (-1) (r := (spd c s.data.toList).map bmk) ?_]
  · rfl
  rw [if_neg (by decide), eqb _ [], if_neg (by simp)]
  have hl := len_text s
  have hc := count_spd c s.data.toList
  have hle := spd_len c s.data.toList
  obtain ⟨N, hN⟩ : ∃ N, N = (spd c s.data.toList).length := ⟨_, rfl⟩
  rw [← hN] at hc hle
  have e0 : Lib.countByte s.data.toList c = N - 1 := by omega
  simp only [jn_eq]
  rw [if_pos (by decide), count_ev, Option.bind_some, e0]
  have w1 : w64 (((N - 1 : Nat) : Int) + 1) = (N : Int) := by rw [w_ (by omega) (by omega)]; omega
  have w2 : w64 ((s.size : Int) + 1) = ((s.size + 1 : Nat) : Int) := wS (by omega)
  have w3 : (if w64 ((s.size : Int) + 1) < w64 (((N - 1 : Nat) : Int) + 1) then w64 ((s.size : Int) + 1) else w64 (((N - 1 : Nat) : Int) + 1)) = (N : Int) := by rw [w1, w2, if_neg (by omega)]
  have w4 : w64 ((N : Int) - 1) = ((N - 1 : Nat) : Int) := by rw [w_ (by omega) (by omega)]; omega
  simp only [w3, w4, Int.toNat_natCast]
  rw [mk0_ (by omega) (by omega), Option.bind_some]
  have key := wh_ind (F := fun r12 (v13 : ((ByteArray × ByteArray × Int × Int × Nat × Int × Unit) × List ByteArray × Unit)) => if decide (v13.1.2.2.2.2.2.1 < v13.1.2.2.2.1) then ((strings_Index.f v13.1.1 v13.1.2.1).bind fun x14 => if decide (x14 < 0) then ((chk v13.1.2.2.2.2.2.1 v13.1.2.2.2.2.1).bind fun x7 => (ix v13.2.1 v13.1.2.2.2.2.2.1).bind fun x8 => (wr v13.2.1 v13.1.2.2.2.2.2.1 v13.1.1).bind fun x9 => (eqn x9.length v13.1.2.2.2.2.1).bind fun x10 => (cut x9 0 (w64 (v13.1.2.2.2.2.2.1 + 1))).bind fun x11 => some x11) else (sub v13.1.1 0 (w64 (x14 + v13.1.2.2.1))).bind fun x15 => (chk v13.1.2.2.2.2.2.1 v13.1.2.2.2.2.1).bind fun x16 => (ix v13.2.1 v13.1.2.2.2.2.2.1).bind fun x17 => (wr v13.2.1 v13.1.2.2.2.2.2.1 x15).bind fun x18 => (sub v13.1.1 (w64 (x14 + (↑v13.1.2.1.size : Int))) (↑v13.1.1.size : Int)).bind fun x19 => r12 ((x19, v13.1.2.1, v13.1.2.2.1, v13.1.2.2.2.1, v13.1.2.2.2.2.1, w64 (v13.1.2.2.2.2.2.1 + 1), ()), x18, ())) else ((chk v13.1.2.2.2.2.2.1 v13.1.2.2.2.2.1).bind fun x7 => (ix v13.2.1 v13.1.2.2.2.2.2.1).bind fun x8 => (wr v13.2.1 v13.1.2.2.2.2.2.1 v13.1.1).bind fun x9 => (eqn x9.length v13.1.2.2.2.2.1).bind fun x10 => (cut x9 0 (w64 (v13.1.2.2.2.2.2.1 + 1))).bind fun x11 => some x11))
    (fun (p : ByteArray × Nat × List ByteArray) => ((p.1, (⟨⟨[c]⟩⟩ : ByteArray), 0, ((N - 1 : Nat) : Int), N, (p.2.1 : Int), ()), p.2.2, ()))
    (fun p => (spd c p.1.data.toList).length + p.2.1 = N ∧ p.2.2.length = N ∧ p.1.size ≤ s.size) (fun p => p.1.size) (fun p => p.2.2.take p.2.1 ++ (spd c p.1.data.toList).map bmk) (fun p hp r hr => by
      obtain ⟨t, i, a⟩ := p
      obtain ⟨h1, h2, h3⟩ := hp
      simp only at h1 h2 h3 hr
      have ne : 0 < (spd c t.data.toList).length := Nat.pos_of_ne_zero fun e => spd_ne _ _ (List.eq_nil_of_length_eq_zero e)
      obtain ⟨sn, sp⟩ := spd_idx c t.data.toList
      have hlt := idx_lt t.data.toList c
      have htl := len_text t
      have last : Lib.indexByte t.data.toList c < 0 → ((chk (i : Int) N).bind fun x7 => (ix a (i : Int)).bind fun x8 => (wr a (i : Int) t).bind fun x9 => (eqn x9.length N).bind fun x10 => (cut x9 0 (w64 ((i : Int) + 1))).bind fun x11 => some x11) = some (a.take i ++ (spd c t.data.toList).map bmk) := fun hi => by
        rw [sn hi] at h1 ⊢
        rw [List.length_singleton] at h1
        rw [chk_ (by omega), Option.bind_some, ix_ (by omega), Option.bind_some, wr_ (by omega), Option.bind_some, eqn_ (by rw [List.length_set]; exact h2), Option.bind_some, wS (by omega), cut0 (by rw [List.length_set]; omega), Option.bind_some]
        rw [List.take_succ_eq_append_getElem (by rw [List.length_set]; omega), List.getElem_set_self, List.take_set_of_le (Nat.le_refl _)]
        simp [bmk_list]
      by_cases hi : Lib.indexByte t.data.toList c < 0
      · have h1' := h1
        rw [sn hi, List.length_singleton] at h1'
        simp only []
        rw [decide_eq_false (show ¬ ((i : Int) < ((N - 1 : Nat) : Int)) by omega), if_neg (by decide)]
        exact last hi
      · obtain ⟨m, hm⟩ := Int.eq_ofNat_of_zero_le (Int.not_lt.1 hi)
        have e := sp m hm
        have h1' := h1
        rw [e, List.length_cons] at h1'
        have ne' : 0 < (spd c (t.data.toList.drop (m + 1))).length := Nat.pos_of_ne_zero fun e => spd_ne _ _ (List.eq_nil_of_length_eq_zero e)
        have e1 : t.extract 0 m = bmk (t.data.toList.take m) := text_ext (by rw [cut_list, list_bmk, List.drop_zero])
        have e2 : (t.extract (m + 1) t.size).data.toList = t.data.toList.drop (m + 1) := by rw [cut_list, ← htl, List.take_length]
        have e3 : (t.extract (m + 1) t.size).size = t.size - (m + 1) := by rw [ByteArray.size_extract]; omega
        simp only []
        rw [decide_eq_true (show ((i : Int) < ((N - 1 : Nat) : Int)) by omega), if_pos rfl, index_ev, Option.bind_some, hm, decide_eq_false (show ¬ ((m : Int) < 0) by omega), if_neg (by decide)]
        rw [show w64 ((m : Int) + 0) = (m : Int) by rw [w_ (by omega) (by omega)]; omega, sub0 (by omega), Option.bind_some, chk_ (by omega), Option.bind_some, ix_ (by omega), Option.bind_some, wr_ (by omega), Option.bind_some,
          show w64 ((m : Int) + (((⟨⟨[c]⟩⟩ : ByteArray).size : Nat) : Int)) = ((m + 1 : Nat) : Int) from wS (by omega), sub_ (by omega) (by omega), Option.bind_some, wS (by omega)]
        have := hr (t.extract (m + 1) t.size, i + 1, a.set i (t.extract 0 m)) ⟨by show (spd c (t.extract (m + 1) t.size).data.toList).length + (i + 1) = N; rw [e2]; omega, by rw [List.length_set]; exact h2, by simp only; omega⟩ (by simp only; omega)
        simp only at this
        rw [this, e2, e, e1, List.take_succ_eq_append_getElem (by rw [List.length_set]; omega), List.getElem_set_self, List.take_set_of_le (Nat.le_refl _)]
        simp) (s, 0, List.replicate N (⟨⟨[]⟩⟩ : ByteArray)) ⟨by simp only; omega, by simp, Nat.le_refl _⟩
  simpa using key

/-! ### lines of a text, and the text of lines -/
/-- All but the last piece, if the last one is empty. -/
def ends (p : List (List UInt8)) : Bool := p.getLast? == some []
theorem spd_app (d : UInt8) : ∀ l : List UInt8, spd d (l ++ [d]) = spd d l ++ [[]]
  | [] => by simp [spd]
  | c :: l => by
    have ih := spd_app d l
    have h := spd_ne d l
    show (if c = d then [] :: spd d (l ++ [d]) else glue [c] (spd d (l ++ [d]))) = (if c = d then [] :: spd d l else glue [c] (spd d l)) ++ [[]]
    rw [ih]
    split
    · rfl
    · cases e : spd d l with
      | nil => exact absurd e h
      | cons a x => rfl
theorem glue_last {p : List UInt8} (hp : p ≠ []) : ∀ {x : List (List UInt8)}, x ≠ [] → (glue p x).getLast? = if x.length = 1 then (x.getLast?.map (p ++ ·)) else x.getLast?
  | [], h => absurd rfl h
  | [a], _ => by simp [glue]
  | a :: b :: x, _ => by simp [glue]
theorem ends_iff (d : UInt8) : ∀ l : List UInt8, ends (spd d l) = true ↔ l = [] ∨ ∃ x, l = x ++ [d]
  | [] => by simp [spd, ends]
  | c :: l => by
    have ih := ends_iff d l
    have h := spd_ne d l
    unfold ends at ih ⊢
    rw [beq_iff_eq] at ih ⊢
    show (if c = d then [] :: spd d l else glue [c] (spd d l)).getLast? = some [] ↔ _
    constructor
    · intro hh
      refine .inr ?_
      split at hh
      · rename_i hc
        subst hc
        rw [List.getLast?_cons, Option.some.injEq] at hh
        have h2 : (spd c l).getLast? = some [] := by
          cases e : (spd c l).getLast? with
          | none => exact absurd (List.getLast?_eq_none_iff.1 e) h
          | some y => rw [e] at hh; simpa using hh
        rcases ih.1 h2 with rfl | ⟨x, rfl⟩
        · exact ⟨[], rfl⟩
        · exact ⟨c :: x, rfl⟩
      · rename_i hc
        rw [glue_last (by simp) h] at hh
        split at hh
        · rename_i h1
          obtain ⟨y, hy⟩ := List.length_eq_one_iff.1 h1
          rw [hy] at hh; simp at hh
        · rcases ih.1 hh with rfl | ⟨x, rfl⟩
          · rename_i h1; simp [spd] at h1
          · exact ⟨c :: x, rfl⟩
    · rintro (hh | ⟨x, hx⟩)
      · cases hh
      · have : (if c = d then [] :: spd d l else glue [c] (spd d l)) = spd d (c :: l) := rfl
        rw [this, hx, spd_app]
        simp
/-- The lines that a text has, if it is one of lines. -/
def hsplit (s : ByteArray) : List ByteArray × Bool := (((spd 10 s.data.toList).dropLast).map bmk, ends (spd 10 s.data.toList) && linesOk (((spd 10 s.data.toList).dropLast).map bmk))
theorem spd_bytes (d : UInt8) (l : List UInt8) (n : Nat) (h : l.length ≤ n) : ∀ s ∈ (spd d l).map bmk, s.size ≤ n := fun t ht => by
  obtain ⟨x, hx, rfl⟩ := List.mem_map.1 ht
  have := spd_size _ _ x hx
  rw [size_bmk]; omega
theorem dropLast_bytes (d : UInt8) (l : List UInt8) (n : Nat) (h : l.length ≤ n) : ∀ s ∈ ((spd d l).dropLast).map bmk, s.size ≤ n := fun t ht => by
  obtain ⟨x, hx, rfl⟩ := List.mem_map.1 ht
  exact spd_bytes d l n h _ (List.mem_map.2 ⟨x, List.dropLast_subset _ hx, rfl⟩)
theorem hasSuffix_ev (s p : ByteArray) (hs : s.size ≤ 9000000000000000000) (hp : p.size ≤ 9000000000000000000) : internal_stringslite_HasSuffix.f s p = some (decide (p.size ≤ s.size) && (s.data.toList.drop (s.size - p.size) == p.data.toList)) := by
  refine internal_stringslite_HasSuffix.in _ _ ?_
  by_cases h : p.size ≤ s.size
  · have hw : w64 ((s.size : Int) - (p.size : Int)) = ((s.size - p.size : Nat) : Int) := by rw [w_ (by omega) (by omega)]; omega
    rw [decide_eq_true (show (s.size : Int) ≥ (p.size : Int) by omega), decide_eq_true h, gdT, hw, sub_ (by omega) (by omega), Option.bind_some, eqd, cut_list, ← len_text, List.take_length]
  · rw [decide_eq_false (show ¬ (s.size : Int) ≥ (p.size : Int) by omega), decide_eq_false h]; rfl
theorem cutSuffix_ev (s p : ByteArray) (hs : s.size ≤ 9000000000000000000) (hp : p.size ≤ 9000000000000000000) : strings_CutSuffix.f s p = some (if (decide (p.size ≤ s.size) && (s.data.toList.drop (s.size - p.size) == p.data.toList)) = true then (s.extract 0 (s.size - p.size), true, ()) else (s, false, ())) := by
  refine strings_CutSuffix.in _ _ ?_
  rw [internal_stringslite_CutSuffix.in s p (r := if (decide (p.size ≤ s.size) && (s.data.toList.drop (s.size - p.size) == p.data.toList)) = true then (s.extract 0 (s.size - p.size), true, ()) else (s, false, ())) ?_]
  · rfl
  rw [hasSuffix_ev s p hs hp, Option.bind_some]
  cases hb : (decide (p.size ≤ s.size) && (s.data.toList.drop (s.size - p.size) == p.data.toList)) with
  | false => rfl
  | true =>
    have h : p.size ≤ s.size := by simp only [Bool.and_eq_true, decide_eq_true_eq] at hb; exact hb.1
    have hw : w64 ((s.size : Int) - (p.size : Int)) = ((s.size - p.size : Nat) : Int) := by rw [w_ (by omega) (by omega)]; omega
    rw [hw, sub0 (by omega)]; rfl
theorem hunk_Split_ev (s : ByteArray) (hs : s.size ≤ 1000000000) : hunk_Split.f s = some (if (hsplit s).2 = true then ((hsplit s).1, 0, ()) else ([], 3, ())) := by
  have hl := len_text s
  refine hunk_Split.in _ ?_
  rw [eqb s []]
  by_cases h0 : s.data.toList = []
  · rw [h0]
    unfold hsplit
    rw [h0]
    rfl
  · rw [show (s.data.toList == []) = false from by simpa using h0, if_neg (by decide)]
    have z1 : (⟨⟨[10]⟩⟩ : ByteArray).size = 1 := rfl
    have hne : 0 < s.size := by rw [← hl]; exact List.length_pos_iff.2 h0
    rw [cutSuffix_ev s _ (by omega) (by rw [z1]; omega), Option.bind_some, z1, decide_eq_true (show 1 ≤ s.size by omega), Bool.true_and]
    by_cases hd : s.data.toList.drop (s.size - 1) = [10]
    · rw [if_pos (beq_iff_eq.2 hd)]
      have e1 : (s.extract 0 (s.size - 1)).data.toList = s.data.toList.take (s.size - 1) := by rw [cut_list, List.drop_zero]
      have e2 : s.data.toList = s.data.toList.take (s.size - 1) ++ [10] := by rw [← hd, List.take_append_drop]
      have e3 : spd 10 s.data.toList = spd 10 (s.data.toList.take (s.size - 1)) ++ [[]] := by
        have := spd_app 10 (s.data.toList.take (s.size - 1))
        rw [← e2] at this; exact this
      have e4 : ends (spd 10 s.data.toList) = true := (ends_iff 10 _).2 (.inr ⟨_, e2⟩)
      have e5 : (spd 10 s.data.toList).dropLast = spd 10 (s.data.toList.take (s.size - 1)) := by rw [e3, List.dropLast_concat]
      have l1 := spd_len 10 (s.data.toList.take (s.size - 1))
      have l2 : (s.data.toList.take (s.size - 1)).length ≤ s.size := by rw [List.length_take]; omega
      simp only []
      rw [split_ev _ 10 (by rw [ByteArray.size_extract]; omega), Option.bind_some, e1, hunk_Lines_ev _ (by rw [List.length_map]; omega)]
      unfold hsplit
      rw [e4, e5]
      simp only [Bool.not_true, Bool.not_false, gdT, Option.bind_some, Bool.false_or, Bool.true_and]
      cases linesOk ((spd 10 (s.data.toList.take (s.size - 1))).map bmk) <;> rfl
    · rw [if_neg (by rw [beq_iff_eq]; exact hd)]
      have e4 : ends (spd 10 s.data.toList) = false := by
        rw [Bool.eq_false_iff]
        intro h
        rcases (ends_iff 10 _).1 h with h | ⟨x, hx⟩
        · exact h0 h
        · apply hd
          have : s.size - 1 = x.length := by rw [← hl, hx]; simp
          rw [this, hx]; simp
      unfold hsplit
      rw [e4]
      simp only []
      rw [split_ev _ 10 (by omega)]
      rfl
/-- The text of lines. -/
def htext (l : List ByteArray) : List UInt8 := l.flatMap fun s => s.data.toList ++ [10]
theorem htext_split : ∀ l : List UInt8, ends (spd 10 l) = true → htext (((spd 10 l).dropLast).map bmk) = l := by
  have key : ∀ l : List UInt8, ∀ p : List (List UInt8), spd 10 l = p ++ [[]] → htext (p.map bmk) = l := by
    intro l
    induction l with
    | nil =>
      intro p hp
      cases p with
      | nil => rfl
      | cons a p => cases p <;> simp [spd] at hp
    | cons c l ih =>
      intro p hp
      have ne := spd_ne 10 l
      have e : spd 10 (c :: l) = if c = 10 then [] :: spd 10 l else glue [c] (spd 10 l) := rfl
      rw [e] at hp
      split at hp
      · rename_i hc
        subst hc
        cases p with
        | nil => simp at hp; exact absurd hp ne
        | cons a p =>
          simp only [List.cons_append, List.cons.injEq] at hp
          obtain ⟨rfl, hp⟩ := hp
          have := ih p hp
          simp [htext, list_bmk] at this ⊢
          rw [this]
      · cases hs : spd 10 l with
        | nil => exact absurd hs ne
        | cons a x =>
          rw [hs] at hp
          simp only [glue] at hp
          cases p with
          | nil => simp at hp
          | cons b p =>
            simp only [List.cons_append, List.cons.injEq] at hp
            obtain ⟨rfl, rfl⟩ := hp
            have := ih (a :: p) (by rw [hs]; rfl)
            simp [htext, list_bmk] at this ⊢
            rw [this]
  intro l h
  refine key l _ ?_
  unfold ends at h
  rw [beq_iff_eq] at h
  obtain ⟨ys, hy⟩ := List.getLast?_eq_some_iff.1 h
  rw [hy, List.dropLast_concat]
theorem hunk_Text_ev (l : List ByteArray) (hl : l.length ≤ 1000000) (hs : ∀ s ∈ l, s.size ≤ 1000000) : hunk_Text.f l = some (bmk (htext l)) := by
  have hstr : ∀ b : List UInt8, strings_Builder_String.f ((), b, ()) = some (bmk b, ((), b, ()), (), ()) := fun b => strings_Builder_String.in _ rfl
  have hwr : ∀ (s : ByteArray) (b : List UInt8), b.length + s.size ≤ 140737488355328 → strings_Builder_WriteString.f s ((), b, ()) = some (((s.size : Int), false, ()), ((), b ++ s.data.toList, ()), (), ()) := fun s b h =>
    strings_Builder_WriteString.in _ _ (by rw [strings_Builder_copyCheck.in _ rfl, Option.bind_some]; unfold bcat; rw [if_pos h]; rfl)
  refine hunk_Text.in _ ?_
  have key := wh_list (F := fun r1 (v2 : ((Unit × List ByteArray × Int × Int × Unit) × Unit × (Unit × List UInt8 × Unit) × Unit)) => if decide (v2.1.2.2.2.1 < v2.1.2.2.1) then ((ix v2.1.2.1 v2.1.2.2.2.1).bind fun x3 => (cat x3 { data := { toList := [10] } }).bind fun x4 => (strings_Builder_WriteString.f x4 ((), v2.2.2.1.2)).bind fun x5 => r1 (((), v2.1.2.1, v2.1.2.2.1, w64 (v2.1.2.2.2.1 + 1), ()), (), ((), x5.2.1.2), ())) else (strings_Builder_String.f ((), v2.2.2.1.2)).bind fun x6 => some x6.1)
    l (fun i (b : List UInt8) => (((), l, (l.length : Int), i, ()), (), ((), b, ()), ())) (fun i b => b.length ≤ i * 2000000) (fun x b => bmk (b ++ htext x)) (fun b r hI => ?_) (fun i b r h hI hr => ?_) [] (by simp)
  · simpa using key
  · simp (disch := omega) only [decide_eq_true_eq, if_neg, hstr, Option.bind_some]
    simp [htext]
  · have hz := hs _ (List.getElem_mem h)
    have z : (l[i] ++ (⟨⟨[10]⟩⟩ : ByteArray)).size = l[i].size + 1 := by rw [size_app]; rfl
    have hr := hr (b ++ (l[i].data.toList ++ [10])) (by have := len_text l[i]; simp; omega)
    have e1 : (l[i] ++ (⟨⟨[10]⟩⟩ : ByteArray)).data.toList = l[i].data.toList ++ [10] := by rw [app_list]
    simp (disch := omega) only [decide_eq_true_eq, if_pos, ix_, Option.bind_some, wS]
    rw [cat_ (by rw [show (⟨⟨[10]⟩⟩ : ByteArray).size = 1 from rfl]; omega), Option.bind_some, hwr _ _ (by rw [z]; omega), Option.bind_some, e1, hr]
    rw [show htext (l[i] :: l.drop (i + 1)) = (l[i].data.toList ++ [10]) ++ htext (l.drop (i + 1)) from rfl, List.append_assoc]
end Go.Proofs.YtmjkflppajienaaGreatDoor.R.Pu
namespace Go.Proofs.YtmjkflppajienaaGreatDoor.R.Pu
open Go Go.RowKit
set_option linter.unusedVariables false
set_option linter.unusedSimpArgs false

abbrev File : Type := ByteArray × List ByteArray × Unit
/-- A text's bytes. -/
abbrev by_ (s : ByteArray) : List UInt8 := s.data.toList
theorem by_inj {a b : ByteArray} : by_ a = by_ b ↔ a = b := ⟨text_ext, fun h => by rw [h]⟩

/-! ### the order of texts -/
theorem less_eq : ∀ (x y : List UInt8), Op.bytesLess x y = decide (x < y)
  | [], [] => by simp [Op.bytesLess]
  | _ :: _, [] => by simp [Op.bytesLess]
  | [], _ :: _ => by simp [Op.bytesLess]
  | a :: x, b :: y => by
    rw [Op.bytesLess, less_eq x y]
    simp only [List.cons_lt_cons_iff]
    by_cases h1 : a < b <;> by_cases h2 : a = b <;> by_cases h3 : x < y <;> simp [h1, h2, h3]
theorem u8_cases (a b : UInt8) : a < b ∨ a = b ∨ b < a := by
  rcases Nat.lt_trichotomy a.toNat b.toNat with h | h | h
  · exact .inl (UInt8.lt_iff_toNat_lt.2 h)
  · exact .inr (.inl (UInt8.toNat.inj h))
  · exact .inr (.inr (UInt8.lt_iff_toNat_lt.2 h))
theorem u8_asymm {a b : UInt8} (h : a < b) : ¬ b < a := fun k => by have := UInt8.lt_iff_toNat_lt.1 h; have := UInt8.lt_iff_toNat_lt.1 k; omega
theorem u8_irrefl (a : UInt8) : ¬ a < a := fun k => by have := UInt8.lt_iff_toNat_lt.1 k; omega
theorem u8_trans {a b c : UInt8} (h : a < b) (k : b < c) : a < c := UInt8.lt_iff_toNat_lt.2 (by have := UInt8.lt_iff_toNat_lt.1 h; have := UInt8.lt_iff_toNat_lt.1 k; omega)
theorem l_irrefl : ∀ x : List UInt8, ¬ x < x
  | [] => by simp
  | a :: x => by
    rw [List.cons_lt_cons_iff]
    rintro (h | ⟨_, h⟩)
    · exact u8_irrefl a h
    · exact l_irrefl x h
theorem l_trans : ∀ {x y z : List UInt8}, x < y → y < z → x < z
  | x, y, [], h, k => by simp at k
  | [], y, c :: z, h, k => by simp
  | a :: x, [], c :: z, h, k => by simp at h
  | a :: x, b :: y, c :: z, h, k => by
    rw [List.cons_lt_cons_iff] at h k ⊢
    rcases h with h | ⟨rfl, h⟩
    · rcases k with k | ⟨rfl, k⟩
      · exact .inl (u8_trans h k)
      · exact .inl h
    · rcases k with k | ⟨rfl, k⟩
      · exact .inl k
      · exact .inr ⟨rfl, l_trans h k⟩
theorem l_cases : ∀ x y : List UInt8, x < y ∨ x = y ∨ y < x
  | [], [] => .inr (.inl rfl)
  | [], b :: y => .inl (by simp)
  | a :: x, [] => .inr (.inr (by simp))
  | a :: x, b :: y => by
    simp only [List.cons_lt_cons_iff, List.cons.injEq]
    rcases u8_cases a b with h | rfl | h
    · exact .inl (.inl h)
    · rcases l_cases x y with h | rfl | h
      · exact .inl (.inr ⟨rfl, h⟩)
      · exact .inr (.inl ⟨rfl, rfl⟩)
      · exact .inr (.inr (.inr ⟨rfl, h⟩))
    · exact .inr (.inr (.inl h))
theorem cmp_neg : ∀ x y : List UInt8, Lib.compareBytes x y < 0 ↔ x < y
  | [], [] => by simp [Lib.compareBytes]
  | [], b :: y => by simp [Lib.compareBytes]
  | a :: x, [] => by simp [Lib.compareBytes]
  | a :: x, b :: y => by
    rw [Lib.compareBytes, List.cons_lt_cons_iff]
    by_cases h1 : a < b
    · rw [if_pos h1]; simp [h1]
    · rw [if_neg h1]
      by_cases h2 : b < a
      · rw [if_pos h2]
        have : a ≠ b := by rintro rfl; exact h1 h2
        simp [h1, this]
      · rw [if_neg h2]
        have : a = b := by rcases u8_cases a b with h | h | h; exact absurd h h1; exact h; exact absurd h h2
        subst this
        rw [cmp_neg x y]
        simp [h1]
theorem cmp_zero : ∀ x y : List UInt8, Lib.compareBytes x y = 0 ↔ x = y
  | [], [] => by simp [Lib.compareBytes]
  | [], b :: y => by simp [Lib.compareBytes]
  | a :: x, [] => by simp [Lib.compareBytes]
  | a :: x, b :: y => by
    rw [Lib.compareBytes]
    by_cases h1 : a < b
    · rw [if_pos h1]
      have : a ≠ b := by rintro rfl; exact u8_irrefl a h1
      simp [this]
    · rw [if_neg h1]
      by_cases h2 : b < a
      · rw [if_pos h2]
        have : a ≠ b := by rintro rfl; exact h1 h2
        simp [this]
      · rw [if_neg h2]
        have : a = b := by rcases u8_cases a b with h | h | h; exact absurd h h1; exact h; exact absurd h h2
        subst this
        rw [cmp_zero x y]
        simp

/-! ### files in order, and where a path stands -/
def lts (a b : ByteArray) : Bool := decide (by_ a < by_ b)
def Srt (l : List File) : Prop := l.Pairwise fun a b => by_ a.1 < by_ b.1
def pos (l : List File) (s : ByteArray) : Nat := l.countP fun f => lts f.1 s
theorem pos_le (l : List File) (s : ByteArray) : pos l s ≤ l.length := List.countP_le_length
theorem pos_lt (s : ByteArray) : ∀ {l : List File}, Srt l → ∀ {i : Nat} (h : i < l.length), (by_ l[i].1 < by_ s ↔ i < pos l s)
  | [], _, i, h => by simp at h
  | f :: r, hs, i, h => by
    have h1 := List.pairwise_cons.1 hs
    by_cases hf : by_ f.1 < by_ s
    · have e : pos (f :: r) s = pos r s + 1 := by unfold pos; rw [List.countP_cons_of_pos (by simp [lts, hf])]
      cases i with
      | zero => rw [e]; simp [hf]
      | succ i =>
        have := pos_lt s h1.2 (i := i) (by simpa using h)
        rw [e]
        simp only [List.getElem_cons_succ]
        rw [this]; omega
    · have hall : ∀ g ∈ f :: r, ¬ by_ g.1 < by_ s := fun g hg hlt => by
        rcases List.mem_cons.1 hg with rfl | hg
        · exact hf hlt
        · exact hf (l_trans (h1.1 g hg) hlt)
      have e : pos (f :: r) s = 0 := by
        unfold pos
        rw [List.countP_eq_zero]
        intro g hg
        simp [lts, hall g hg]
      rw [e]
      have := hall _ (List.getElem_mem h)
      simp [this]
def fnd (l : List File) (s : ByteArray) : Bool := match l[pos l s]? with
  | some f => decide (f.1 = s)
  | none => false
theorem half_ {a : Nat} (h : a ≤ 1000000) : shr .u64 (IntKind.u64.wrap (w64 (a : Int))) 1 = some ((a / 2 : Nat) : Int) := by
  rw [w_ (by omega) (by omega)]
  have e : IntKind.u64.wrap (a : Int) = (a : Int) := by
    unfold IntKind.wrap
    have e1 : (2 : Int) ^ IntKind.u64.bits = 18446744073709551616 := by decide
    simp only [e1]
    have e2 : IntKind.u64.signed = false := rfl
    rw [e2]
    simp
    omega
  rw [e]
  unfold shr
  rw [if_pos (by decide)]
  have e3 : (2 : Int) ^ (min (1 : Int).toNat IntKind.u64.bits) = 2 := by decide
  rw [e3, Int.fdiv_eq_ediv_of_nonneg _ (by decide)]
  rfl
theorem cmp_ev (f : File) (s : ByteArray) : tree_Tree_find_1.f f s = some (Lib.compareBytes (by_ f.1) (by_ s)) := by
  refine tree_Tree_find_1.in _ _ ?_
  rw [strings_Compare.in f.1 s (r := Lib.compareBytes (by_ f.1) (by_ s)) rfl]; rfl
theorem find_ev (l : List File) (s : ByteArray) (hs : Srt l) (hl : l.length ≤ 100000) : tree_Tree_find.f (l, ()) s = some ((pos l s : Int), fnd l s, ()) := by
  refine tree_Tree_find.in _ _ ?_
  rw [slices_BinarySearchFunc_tree_File_tree_File_string_tree_Tree_find_1.in l s (r := ((pos l s : Int), fnd l s, ())) ?_]
  · rfl
  refine wh_ind (fun (p : Nat × Nat) => (l, s, (), (l.length : Int), (p.1 : Int), (p.2 : Int), ())) (fun p => p.1 ≤ pos l s ∧ pos l s ≤ p.2 ∧ p.2 ≤ l.length) (fun p => p.2 - p.1) (fun _ => ((pos l s : Int), fnd l s, ())) (fun p hp r hr => ?_) (0, l.length) ⟨Nat.zero_le _, pos_le l s, Nat.le_refl _⟩
  obtain ⟨lo, hi⟩ := p
  obtain ⟨h2, h3, h4⟩ := hp
  simp only at h2 h3 h4 hr
  by_cases hlt : lo < hi
  · have hm : (lo + hi) / 2 < l.length := by omega
    have hh := half_ (a := lo + hi) (by omega)
    have hp := pos_lt s hs hm
    have hcast : (lo : Int) + (hi : Int) = ((lo + hi : Nat) : Int) := by omega
    simp only []
    rw [decide_eq_true (show (lo : Int) < (hi : Int) by omega), if_pos rfl, hcast, hh, Option.bind_some, w_ (by omega) (by omega), ix_ hm, Option.bind_some, cmp_ev, Option.bind_some]
    by_cases hc : by_ l[(lo + hi) / 2].1 < by_ s
    · rw [decide_eq_true ((cmp_neg _ _).2 hc), if_pos rfl, wS (by omega)]
      have := hp.1 hc
      exact hr ((lo + hi) / 2 + 1, hi) ⟨by simp only; omega, h3, h4⟩ (by simp only; omega)
    · rw [decide_eq_false (fun h => hc ((cmp_neg _ _).1 h)), if_neg (by decide)]
      have := mt hp.2 hc
      exact hr (lo, (lo + hi) / 2) ⟨h2, by simp only; omega, by simp only; omega⟩ (by simp only; omega)
  · have e : lo = pos l s := by omega
    subst e
    simp only []
    rw [decide_eq_false (show ¬ (pos l s : Int) < (hi : Int) by omega), if_neg (by decide)]
    unfold fnd
    by_cases hp : pos l s < l.length
    · rw [decide_eq_true (show (pos l s : Int) < (l.length : Int) by omega), gdT, ix_ hp, Option.bind_some, gdT, cmp_ev, Option.bind_some, List.getElem?_eq_getElem hp]
      have : decide (Lib.compareBytes (by_ l[pos l s].1) (by_ s) = 0) = decide (l[pos l s].1 = s) := by
        rw [decide_eq_decide, cmp_zero]; exact by_inj
      rw [this]; rfl
    · rw [decide_eq_false (show ¬ (pos l s : Int) < (l.length : Int) by omega), List.getElem?_eq_none (by omega)]
      rfl

/-! ### rows of files -/
theorem grow_ev (n : Nat) (h : n ≤ 1000000) : ∃ x, slices_Grow_tree_File_tree_File.f (n : Int) = some ([], x) := by
  refine ⟨((), ()), slices_Grow_tree_File_tree_File.in _ ?_⟩
  simp only [jn_eq]
  rw [decide_eq_false (show ¬ (n : Int) < 0 by omega), if_neg (by decide)]
  have e : w64 ((n : Int) - w64 (0 - 0)) = (n : Int) := by rw [w_ (x := 0 - 0) (by omega) (by omega), w_ (by omega) (by omega)]; omega
  rw [e]
  by_cases h0 : 0 < n
  · rw [decide_eq_true (show (n : Int) > 0 by omega), if_pos rfl]
    unfold grw
    rw [if_pos (by omega)]; rfl
  · rw [decide_eq_false (show ¬ (n : Int) > 0 by omega), if_neg (by decide)]
theorem concat_ev (xs : List (List File)) (hl : xs.length ≤ 100) (h : xs.flatten.length ≤ 1000000) : slices_Concat_tree_File_tree_File.f xs = some xs.flatten := by
  refine slices_Concat_tree_File_tree_File.in _ ?_
  refine (wh_list xs (fun i (n : Nat) => (xs, (n : Int), xs, (xs.length : Int), i, ())) (fun i n => n + (xs.drop i).flatten.length = xs.flatten.length) (fun _ _ => xs.flatten) (fun n r hI => ?_) (fun i n r hi hI hr => ?_) 0 (by simp)).trans rfl
  · rw [List.drop_length] at hI
    have hI' : n = xs.flatten.length := by simpa using hI
    obtain ⟨x, hx⟩ := grow_ev n (by omega)
    simp (disch := omega) only [decide_eq_true_eq, if_neg, hx, Option.bind_some]
    refine (wh_list xs (fun i (y : List File) => ((y, xs, (xs.length : Int), i, ()), (), ())) (fun i y => y.length + (xs.drop i).flatten.length ≤ 1000000) (fun z y => y ++ z.flatten) (fun y r hI => ?_) (fun i y r hi hI hr => ?_) [] (by simpa using h)).trans ?_
    · simp (disch := omega) only [decide_eq_true_eq, if_neg]
      simp
    · have ed : xs.drop i = xs[i] :: xs.drop (i + 1) := List.drop_eq_getElem_cons hi
      rw [ed, List.flatten_cons, List.length_append] at hI
      have hr := hr (y ++ xs[i]) (by rw [List.length_append]; omega)
      simp (disch := omega) only [decide_eq_true_eq, if_pos, ix_, Option.bind_some, wS, app_, hr]
      rw [List.flatten_cons, List.append_assoc]
    · simp
  · have ed : xs.drop i = xs[i] :: xs.drop (i + 1) := List.drop_eq_getElem_cons hi
    rw [ed, List.flatten_cons, List.length_append] at hI
    have hr := hr (n + xs[i].length) (by omega)
    have e : w64 ((n : Int) + (xs[i].length : Int)) = ((n + xs[i].length : Nat) : Int) := by rw [w_ (by omega) (by omega)]; rfl
    simp (disch := omega) only [decide_eq_true_eq, if_pos, ix_, Option.bind_some, wS, e]
    rw [if_neg (by omega)]
    exact hr

/-! ### a file more, a file fewer -/
theorem fnd_true {l : List File} {s : ByteArray} (h : fnd l s = true) : ∃ hp : pos l s < l.length, l[pos l s].1 = s := by
  unfold fnd at h
  split at h
  · rename_i f hf
    obtain ⟨hp, e⟩ := List.getElem?_eq_some_iff.1 hf
    exact ⟨hp, by rw [e]; exact of_decide_eq_true h⟩
  · cases h
theorem fnd_at {l : List File} {s : ByteArray} (hs : Srt l) {i : Nat} (hi : i < l.length) (e : l[i].1 = s) : i = pos l s ∧ fnd l s = true := by
  have h1 : ¬ i < pos l s := fun h => l_irrefl (by_ s) (by have := (pos_lt s hs hi).2 h; rwa [e] at this)
  have h2 : ¬ pos l s < i := fun h => by
    have hp : pos l s < l.length := by omega
    have h3 := List.pairwise_iff_getElem.1 hs (pos l s) i hp hi h
    rw [e] at h3
    have := (pos_lt s hs hp).1 h3
    omega
  have e' : i = pos l s := by omega
  refine ⟨e', ?_⟩
  unfold fnd
  rw [← e', List.getElem?_eq_getElem hi]
  exact decide_eq_true e
/-- A row with a file at its place. -/
def put (l : List File) (f : File) : List File := l.take (pos l f.1) ++ f :: l.drop (pos l f.1 + (if fnd l f.1 = true then 1 else 0))
def del (l : List File) (s : ByteArray) : List File := if fnd l s = true then l.take (pos l s) ++ l.drop (pos l s + 1) else l
theorem with_ev (l : List File) (f : File) (hs : Srt l) (hl : l.length ≤ 1000) : tree_Tree_with.f (l, ()) f = some (put l f, ()) := by
  refine tree_Tree_with.in _ _ ?_
  rw [find_ev l f.1 hs (by omega), Option.bind_some]
  have hp := pos_le l f.1
  simp only [jn_eq]
  have key : ∀ n : Nat, n ≤ 1 → pos l f.1 + n ≤ l.length → ((cut l 0 (pos l f.1 : Int)).bind fun x4 => (cut l (w64 ((pos l f.1 : Int) + (n : Int))) (↑l.length : Int)).bind fun x5 => (slices_Concat_tree_File_tree_File.f ([x4, [f], x5])).bind fun x6 => some (x6, ())) = some (l.take (pos l f.1) ++ f :: l.drop (pos l f.1 + n), ()) := fun n hn hle => by
    have e2 : w64 ((pos l f.1 : Int) + (n : Int)) = ((pos l f.1 + n : Nat) : Int) := by rw [w_ (by omega) (by omega)]; rfl
    rw [cut0 hp, Option.bind_some, e2, cut_ hle (Nat.le_refl _), Option.bind_some, List.take_length, concat_ev _ (by simp) (by simp; omega)]
    simp
  unfold put
  cases hf : fnd l f.1 with
  | true =>
    obtain ⟨h1, _⟩ := fnd_true hf
    exact key 1 (by omega) (by omega)
  | false => exact key 0 (by omega) (by omega)
theorem mem_take_lt {l : List File} {s : ByteArray} (hs : Srt l) {g : File} (h : g ∈ l.take (pos l s)) : by_ g.1 < by_ s := by
  obtain ⟨i, hi, rfl⟩ := List.mem_iff_getElem.1 h
  rw [List.length_take] at hi
  rw [List.getElem_take]
  exact (pos_lt s hs (by omega)).2 (by omega)
theorem mem_drop_gt {l : List File} {s : ByteArray} (hs : Srt l) {g : File} (h : g ∈ l.drop (pos l s + if fnd l s = true then 1 else 0)) : by_ s < by_ g.1 := by
  obtain ⟨i, hi, rfl⟩ := List.mem_iff_getElem.1 h
  rw [List.length_drop] at hi
  rw [List.getElem_drop]
  have hlt : (pos l s + if fnd l s = true then 1 else 0) + i < l.length := by omega
  have h1 : ¬ by_ l[(pos l s + if fnd l s = true then 1 else 0) + i].1 < by_ s := fun h => by have := (pos_lt s hs hlt).1 h; omega
  rcases l_cases (by_ s) (by_ l[(pos l s + if fnd l s = true then 1 else 0) + i].1) with h | h | h
  · exact h
  · obtain ⟨e, hf⟩ := fnd_at hs hlt (by_inj.1 h).symm
    rw [hf, if_pos rfl] at e
    omega
  · exact absurd h h1
theorem srt_put {l : List File} {f : File} (hs : Srt l) : Srt (put l f) := by
  unfold put Srt
  rw [List.pairwise_append, List.pairwise_cons]
  refine ⟨hs.sublist (List.take_sublist _ _), ⟨fun g hg => mem_drop_gt hs hg, hs.sublist (List.drop_sublist _ _)⟩, fun a ha b hb => ?_⟩
  have h1 := mem_take_lt hs ha
  rcases List.mem_cons.1 hb with rfl | hb
  · exact h1
  · exact l_trans h1 (mem_drop_gt hs hb)
theorem srt_del {l : List File} {s : ByteArray} (hs : Srt l) : Srt (del l s) := by
  unfold del
  split
  · unfold Srt
    rw [← List.eraseIdx_eq_take_drop_succ]
    exact hs.sublist (List.eraseIdx_sublist _ _)
  · exact hs
theorem mem_put {l : List File} {f g : File} (h : g ∈ put l f) : g = f ∨ g ∈ l := by
  unfold put at h
  rcases List.mem_append.1 h with h | h
  · exact .inr (List.mem_of_mem_take h)
  · rcases List.mem_cons.1 h with h | h
    · exact .inl h
    · exact .inr (List.mem_of_mem_drop h)
theorem mem_del {l : List File} {s : ByteArray} {g : File} (h : g ∈ del l s) : g ∈ l := by
  unfold del at h
  split at h
  · rcases List.mem_append.1 h with h | h
    · exact List.mem_of_mem_take h
    · exact List.mem_of_mem_drop h
  · exact h
theorem put_len {l : List File} {f : File} : (put l f).length ≤ l.length + 1 := by
  have := pos_le l f.1
  unfold put
  rw [List.length_append, List.length_take, List.length_cons, List.length_drop]
  omega
theorem del_len {l : List File} {s : ByteArray} : (del l s).length ≤ l.length := by
  unfold del
  split
  · rw [List.length_append, List.length_take, List.length_drop]; omega
  · exact Nat.le_refl _

/-! ### the reference's -/
theorem at_ev (l : List File) (s : ByteArray) (hs : Srt l) (hl : l.length ≤ 1000000) : quitclaimref14_at.f l s = some (if fnd l s = true then (pos l s : Int) else -1) := by
  refine quitclaimref14_at.in _ _ ?_
  refine wh_list l (fun i (_ : Unit) => (l, s, i, ())) (fun i _ => ∀ j (hj : j < l.length), j < i → l[j].1 ≠ s) (fun _ _ => if fnd l s = true then (pos l s : Int) else -1) (fun _ r hno => ?_) (fun i _ r h hno hr => ?_) () (fun j hj h => by omega)
  · have hf : fnd l s = false := by
      cases hf : fnd l s with
      | false => rfl
      | true => obtain ⟨hp, e⟩ := fnd_true hf; exact absurd e (hno _ hp (by omega))
    simp (disch := omega) only [decide_eq_true_eq, if_neg, hf]
    rfl
  · simp (disch := omega) only [decide_eq_true_eq, if_pos, ix_, Option.bind_some, wS]
    by_cases he : l[i].1 = s
    · obtain ⟨e, hf⟩ := fnd_at hs h he
      rw [if_pos he, hf, if_pos rfl, ← e]
    · rw [if_neg he]
      refine hr () fun j hj hji => ?_
      by_cases hjj : j = i
      · subst hjj; exact he
      · exact hno j hj (by omega)
theorem fnd_false {l : List File} {s : ByteArray} (hs : Srt l) (hf : fnd l s = false) {i : Nat} (hi : i < l.length) : l[i].1 ≠ s := fun e => by
  have := (fnd_at hs hi e).2
  rw [hf] at this; cases this
theorem rput_ev (l : List File) (f : File) (hs : Srt l) (hf : fnd l f.1 = false) (hl : l.length ≤ 1000) : quitclaimref14_Put.f l f = some (put l f) := by
  have hp := pos_le l f.1
  have ep : put l f = l.take (pos l f.1) ++ f :: l.drop (pos l f.1) := by unfold put; rw [hf, if_neg (by decide), Nat.add_zero]
  rw [ep]
  have hlt : ∀ {i : Nat} (h1 : i < l.length), Op.bytesLess f.1.toList l[i].1.toList = decide (¬ i < pos l f.1) := fun {i} h1 => by
    rw [toList_data, toList_data, less_eq, decide_eq_decide, ← pos_lt f.1 hs h1]
    rcases l_cases (by_ f.1) (by_ l[i].1) with h | h | h
    · exact ⟨fun _ k => l_irrefl _ (l_trans h k), fun _ => h⟩
    · exact absurd (by_inj.1 h).symm (fnd_false hs hf h1)
    · exact ⟨fun k => absurd (l_trans h k) (l_irrefl _), fun k => absurd h k⟩
  refine quitclaimref14_Put.in _ _ ?_
  refine (wh_list l (fun i (p : Bool × List File) => ((l, (), p.2, p.1, i, ()), f, (), ())) (fun i p => p.2.length ≤ i + 1 ∧ (p.1 = false → i ≤ pos l f.1 ∧ p.2.length ≤ i)) (fun x p => if p.1 = true then p.2 ++ x else p.2 ++ ((l.take (pos l f.1)).drop (l.length - x.length) ++ f :: l.drop (pos l f.1))) (fun p r hI => ?_) (fun i p r h hI hr => ?_) (false, []) ⟨by simp, fun _ => ⟨Nat.zero_le _, by simp⟩⟩).trans ?_
  · obtain ⟨b, out⟩ := p
    obtain ⟨h1, h2⟩ := hI
    simp only at h1 h2
    simp (disch := omega) only [decide_eq_true_eq, if_neg]
    cases b with
    | true => simp
    | false =>
      have := h2 rfl
      rw [app_ (by simp; omega)]
      have e : pos l f.1 = l.length := by have := this.1; omega
      simp [e]
  · obtain ⟨b, out⟩ := p
    obtain ⟨h1, h2⟩ := hI
    simp only at h1 h2 hr
    have lx : l.length - (l[i] :: l.drop (i + 1)).length = i := by simp; omega
    have ly : l.length - (l.drop (i + 1)).length = i + 1 := by simp; omega
    simp only [ly] at hr
    simp (disch := omega) only [decide_eq_true_eq, if_pos, jn_eq, ix_, Option.bind_some, wS, lx]
    cases b with
    | true =>
      have hr := hr (true, out ++ [l[i]]) ⟨by simp; omega, fun h => by cases h⟩
      simp only [if_true] at hr
      simp only [Bool.not_true, gdF, Option.bind_some, Bool.false_and, Bool.false_eq_true, if_false]
      rw [app_ (by simp; omega), Option.bind_some, hr, if_pos trivial, List.append_assoc]
      rfl
    | false =>
      simp only [Bool.not_false, gdT, Option.bind_some, Bool.true_and, hlt h]
      obtain ⟨hip, hol⟩ := h2 rfl
      by_cases hlp : i < pos l f.1
      · have hr := hr (false, out ++ [l[i]]) ⟨by simp; omega, fun _ => ⟨hlp, by simp; omega⟩⟩
        simp only [Bool.false_eq_true, if_false] at hr
        rw [decide_eq_false (show ¬ ¬ i < pos l f.1 by omega), if_neg (by decide), app_ (by simp; omega), Option.bind_some, hr, if_neg (by decide)]
        have h3 : i < (l.take (pos l f.1)).length := by rw [List.length_take]; omega
        rw [List.drop_eq_getElem_cons h3, List.getElem_take]
        simp
      · have e : i = pos l f.1 := by omega
        have hr := hr (true, out ++ [f] ++ [l[i]]) ⟨by simp; omega, fun h => by cases h⟩
        simp only [if_true] at hr
        rw [decide_eq_true hlp, if_pos rfl, app_ (by simp; omega), Option.bind_some, app_ (by simp; omega), Option.bind_some, hr, if_neg (by decide)]
        have e0 : (l.take (pos l f.1)).drop i = [] := List.drop_eq_nil_of_le (by rw [List.length_take]; omega)
        rw [e0, ← e, List.nil_append, List.append_assoc, List.append_assoc, List.drop_eq_getElem_cons h]
        rfl
  · simp

/-! ### room -/
def Good (l : List File) : Prop := ∀ f ∈ l, right f.1 = true
def near (s : ByteArray) (f : File) : Bool := cov f.1 s || cov s f.1
def rm (l : List File) (s : ByteArray) : Int := bif fnd l s then 7 else bif l.any (near s) then 12 else 0
theorem room_ev (l : List File) (s : ByteArray) (hs : Srt l) (hg : Good l) (hr : right s = true) (hl : l.length ≤ 1000) : tree_Tree_room.f (l, ()) s = some (rm l s) := by
  refine tree_Tree_room.in _ _ ?_
  rw [find_ev l s hs (by omega), Option.bind_some]
  unfold rm
  cases fnd l s with
  | true => rfl
  | false =>
    simp only [Bool.false_eq_true, if_false, cond_false]
    refine wh_list l (fun i (_ : Unit) => ((s, l, (l.length : Int), i, ()), (l, ()), ())) (fun _ _ => True) (fun x _ => bif x.any (near s) then 12 else 0) (fun _ r _ => ?_) (fun i _ r h _ hr' => ?_) () trivial
    · simp
    · have hr' := hr' () trivial
      have hb : bes l[i].1 s = !(near s l[i]) := by
        unfold bes near
        rw [hg _ (List.getElem_mem h), hr]
        cases cov l[i].1 s <;> cases cov s l[i].1 <;> rfl
      simp (disch := omega) only [decide_eq_true_eq, if_pos, ix_, Option.bind_some, wS, beside_ev, hb, hr', List.any_cons]
      cases near s l[i] <;> rfl
theorem rroom_ev (l : List File) (s : ByteArray) (hs : Srt l) (hl : l.length ≤ 1000) : quitclaimref14_room.f l s = some (rm l s) := by
  refine quitclaimref14_room.in _ _ ?_
  rw [at_ev l s hs (by omega), Option.bind_some]
  unfold rm
  cases fnd l s with
  | true => simp only [if_true, cond_true]; rw [decide_eq_true (show (pos l s : Int) ≥ 0 by omega)]; rfl
  | false =>
    simp only [Bool.false_eq_true, if_false, cond_false]
    rw [show decide ((-1 : Int) ≥ 0) = false from rfl, if_neg (by decide)]
    refine wh_list l (fun i (_ : Unit) => (l, s, i, ())) (fun _ _ => True) (fun x _ => bif x.any (near s) then 12 else 0) (fun _ r _ => ?_) (fun i _ r h _ hr' => ?_) () trivial
    · simp
    · have hr' := hr' () trivial
      have en : near s l[i] = (cov l[i].1 s || cov s l[i].1) := rfl
      simp (disch := omega) only [decide_eq_true_eq, if_pos, ix_, Option.bind_some, wS, rcovers_ev, hr', List.any_cons, en]
      cases cov l[i].1 s with
      | true => rfl
      | false =>
        simp (disch := omega) only [Bool.not_false, gdT, ix_, Option.bind_some]
        cases cov s l[i].1 <;> rfl
end Go.Proofs.YtmjkflppajienaaGreatDoor.R.Pu
namespace Go.Proofs.YtmjkflppajienaaGreatDoor.R.Pu
open Go Go.RowKit
set_option linter.unusedVariables false
set_option linter.unusedSimpArgs false

theorem clone_ev (x : List ByteArray) (h : x.length ≤ 1000000000) : slices_Clone_string_string.f x = some x := by
  refine slices_Clone_string_string.in _ (nq_same ?_ ?_)
  · rintro rfl; rfl
  · rw [if_neg (by decide), app_ (by simp; omega)]; rfl
theorem tclone_ev (f : File) (h : f.2.1.length ≤ 1000000000) : tree_clone.f f = some f := by
  refine tree_clone.in _ ?_
  rw [clone_ev _ h]; rfl
theorem files_ev (l : List File) (hl : l.length ≤ 100000) (hf : ∀ f ∈ l, f.2.1.length ≤ 1000000000) : tree_Tree_Files.f (l, ()) = some l := by
  refine tree_Tree_Files.in _ ?_
  refine (wh_list l (fun i (x : List File) => ((x, l, (l.length : Int), i, ()), (l, ()), (), ())) (fun i x => x.length ≤ i) (fun y x => x ++ y) (fun x r hI => ?_) (fun i x r h hI hr => ?_) [] (by simp)).trans ?_
  · simp
  · have hr := hr (x ++ [l[i]]) (by simp; omega)
    have hc := tclone_ev l[i] (hf _ (List.getElem_mem h))
    simp (disch := omega) only [decide_eq_true_eq, if_pos, ix_, Option.bind_some, wS, hc]
    rw [app_ (by simp; omega), Option.bind_some, hr, List.append_assoc]; rfl
  · simp
theorem drop_eq_iff {α : Type} {a b : List α} {i : Nat} (ha : i < a.length) (hb : i < b.length) : a.drop i = b.drop i ↔ a[i] = b[i] ∧ a.drop (i + 1) = b.drop (i + 1) := by
  rw [List.drop_eq_getElem_cons ha, List.drop_eq_getElem_cons hb, List.cons.injEq]
theorem same_ev (a b : List ByteArray) (hl : a.length ≤ 1000000000) (hl' : b.length ≤ 1000000000) : quitclaimref05_Same.f a b = some (decide (a = b)) := by
  refine quitclaimref05_Same.in _ _ ?_
  by_cases hn : a.length = b.length
  · rw [decide_eq_true (show (a.length : Int) = (b.length : Int) by omega), if_neg (by decide)]
    have := wh_ind (F := fun r1 (v2 : (List ByteArray × List ByteArray × Int × Unit)) => if decide (v2.2.2.1 < (↑v2.1.length : Int)) then ((ix v2.1 v2.2.2.1).bind fun x3 => (ix v2.2.1 v2.2.2.1).bind fun x4 => if !decide (x3 = x4) then some false else r1 (v2.1, v2.2.1, w64 (v2.2.2.1 + 1), ())) else some true)
      (fun i : Nat => (a, b, (i : Int), ())) (fun i => i ≤ a.length) (fun i => a.length - i) (fun i => decide (a.drop i = b.drop i)) (fun i hi r hr => by
        by_cases h : i < a.length
        · have hb : i < b.length := by omega
          have hr := hr (i + 1) h (by omega)
          simp (disch := omega) only [decide_eq_true_eq, if_pos, ix_, Option.bind_some, wS, hr]
          by_cases he : a[i] = b[i]
          · rw [decide_eq_true he, if_neg (by decide)]
            congr 1
            rw [decide_eq_decide, drop_eq_iff h hb]
            exact ⟨fun h => ⟨he, h⟩, fun h => h.2⟩
          · rw [decide_eq_false he, if_pos (by decide), decide_eq_false (fun h' => he ((drop_eq_iff h hb).1 h').1)]
        · simp (disch := omega) only [decide_eq_true_eq, if_neg]
          rw [List.drop_eq_nil_of_le (by omega), List.drop_eq_nil_of_le (by omega)]; rfl) 0 (Nat.zero_le _)
    simpa using this
  · rw [decide_eq_false (show ¬ (a.length : Int) = (b.length : Int) by omega), if_pos (by decide), decide_eq_false (fun h => hn (by rw [h]))]
theorem equal_ev (a b : List ByteArray) (hl : a.length ≤ 1000000000) (hl' : b.length ≤ 1000000000) : slices_Equal_string_string.f a b = some (decide (a = b)) := by
  refine slices_Equal_string_string.in _ _ ?_
  by_cases hn : a.length = b.length
  · rw [decide_eq_true (show (a.length : Int) = (b.length : Int) by omega), if_neg (by decide)]
    refine (wh_ind (fun i : Nat => (a, b, (a.length : Int), (i : Int), ())) (fun i => i ≤ a.length) (fun i => a.length - i) (fun i => decide (a.drop i = b.drop i)) (fun i hi r hr => ?_) 0 (Nat.zero_le _)).trans (by simp)
    by_cases h : i < a.length
    · have hb : i < b.length := by omega
      have hr := hr (i + 1) h (by omega)
      simp (disch := omega) only [decide_eq_true_eq, if_pos, ix_, Option.bind_some, wS, hr]
      by_cases he : a[i] = b[i]
      · rw [decide_eq_true he, if_neg (by decide)]
        congr 1
        rw [decide_eq_decide, drop_eq_iff h hb]
        exact ⟨fun h => ⟨he, h⟩, fun h => h.2⟩
      · rw [decide_eq_false he, if_pos (by decide), decide_eq_false (fun h' => he ((drop_eq_iff h hb).1 h').1)]
    · simp (disch := omega) only [decide_eq_true_eq, if_neg]
      rw [List.drop_eq_nil_of_le (by omega), List.drop_eq_nil_of_le (by omega)]; rfl
  · rw [decide_eq_false (show ¬ (a.length : Int) = (b.length : Int) by omega), if_pos (by decide), decide_eq_false (fun h => hn (by rw [h]))]
/-! ### a tree of files -/
def frm : List File → List File → List File × Int
  | [], acc => bif decide (200 < acc.length) then ([], 14) else (acc, 0)
  | f :: l, acc => bif !right f.1 || !linesOk f.2.1 then ([], 3) else bif !decide (rm acc f.1 = 0) then ([], rm acc f.1) else frm l (put acc f)
theorem rm_zero {l : List File} {s : ByteArray} (h : rm l s = 0) : fnd l s = false := by
  unfold rm at h
  cases hf : fnd l s with
  | false => rfl
  | true => rw [hf] at h; cases h
theorem good_put {l : List File} {f : File} (h : Good l) (hf : right f.1 = true) : Good (put l f) := fun g hg => by
  rcases mem_put hg with rfl | hg
  · exact hf
  · exact h g hg
theorem linesOk_len {l : List ByteArray} (h : linesOk l = true) : l.length ≤ 1000 ∧ ∀ s ∈ l, s.size ≤ 200 := by
  unfold linesOk at h
  simp only [Bool.and_eq_true, decide_eq_true_eq, List.all_eq_true] at h
  refine ⟨h.1, fun s hs => ?_⟩
  have := h.2 s hs
  unfold lineOk at this
  simp only [Bool.and_eq_true, decide_eq_true_eq] at this
  exact this.1
/-- Files that are a tree's. -/
structure Tr (l : List File) : Prop where
  srt : Srt l
  good : Good l
  lines : ∀ f ∈ l, linesOk f.2.1 = true
theorem Tr.nil : Tr [] := ⟨List.Pairwise.nil, fun f hf => (by cases hf), fun f hf => (by cases hf)⟩
theorem Tr.put {l : List File} {f : File} (T : Tr l) (h1 : right f.1 = true) (h2 : linesOk f.2.1 = true) : Tr (put l f) :=
  ⟨srt_put T.srt, good_put T.good h1, fun g hg => by
    rcases mem_put hg with rfl | hg
    · exact h2
    · exact T.lines g hg⟩
theorem from_ev (l : List File) (hl : l.length ≤ 800) (hf : ∀ f ∈ l, f.2.1.length ≤ 1000000000) : tree_From.f l = some (((frm l []).1, ()), (frm l []).2, ()) := by
  refine tree_From.in _ ?_
  refine (wh_list l (fun i (t : List File) => (((), (), l, (l.length : Int), i, ()), ([], ()), (t, ()), ())) (fun i t => Tr t ∧ t.length ≤ i) (fun x t => (((frm x t).1, ()), (frm x t).2, ())) (fun t r hI => ?_) (fun i t r h hI hr => ?_) [] ⟨Tr.nil, by simp⟩).trans rfl
  · simp (disch := omega) only [decide_eq_true_eq, if_neg]
    rw [tree_Tree_Len.in (t, ()) (r := (t.length : Int)) rfl, Option.bind_some]
    unfold frm
    by_cases h2 : 200 < t.length
    · rw [if_pos (by omega), decide_eq_true h2]; rfl
    · rw [if_neg (by omega), decide_eq_false h2]; rfl
  · obtain ⟨T, ht⟩ := hI
    have hz := hf _ (List.getElem_mem h)
    simp (disch := omega) only [decide_eq_true_eq, if_pos, ix_, Option.bind_some, wS, right_ev, hunk_Lines_ev]
    rw [show frm (l[i] :: l.drop (i + 1)) t = bif !right l[i].1 || !linesOk l[i].2.1 then ([], 3) else bif !decide (rm t l[i].1 = 0) then ([], rm t l[i].1) else frm (l.drop (i + 1)) (put t l[i]) from rfl]
    cases h1 : right l[i].1 with
    | false => rfl
    | true =>
      cases h2 : linesOk l[i].2.1 with
      | false => rfl
      | true =>
        simp only [Bool.not_true, Bool.not_false, gdT, Option.bind_some, Bool.or_false, cond_false, Bool.false_eq_true, if_false, room_ev t l[i].1 T.srt T.good h1 (by omega)]
        cases h3 : decide (rm t l[i].1 = 0) with
        | false => rfl
        | true =>
          simp only [Bool.not_true, cond_false, Bool.false_eq_true, if_false]
          rw [tclone_ev _ hz, Option.bind_some, with_ev t l[i] T.srt (by omega), Option.bind_some]
          have := put_len (l := t) (f := l[i])
          exact hr (put t l[i]) ⟨T.put h1 h2, by omega⟩
theorem frm_tr : ∀ (l acc : List File), Tr acc → Tr (frm l acc).1 ∧ (frm l acc).1.length ≤ acc.length + l.length ∧ (frm l acc).1.length ≤ 200
  | [], acc, T => by
    unfold frm
    by_cases h : 200 < acc.length
    · rw [decide_eq_true h]; exact ⟨Tr.nil, by simp, by simp⟩
    · rw [decide_eq_false h]; exact ⟨T, by simp, by simp only [cond_false]; omega⟩
  | f :: l, acc, T => by
    unfold frm
    cases h1 : right f.1 with
    | false => exact ⟨Tr.nil, by simp, by simp⟩
    | true =>
      cases h2 : linesOk f.2.1 with
      | false => exact ⟨Tr.nil, by simp, by simp⟩
      | true =>
        cases h3 : decide (rm acc f.1 = 0) with
        | false => exact ⟨Tr.nil, by simp, by simp⟩
        | true =>
          have := frm_tr l (Pu.put acc f) (T.put h1 h2)
          have h4 := put_len (l := acc) (f := f)
          simp only [Bool.not_true, Bool.or_false, cond_false, List.length_cons]
          exact ⟨this.1, by omega, this.2.2⟩
end Go.Proofs.YtmjkflppajienaaGreatDoor.R.Pu
