/- Words for what the walks answer: loops by a number that falls, numbers, rows, texts; no condition. -/
import Derived.Test.YtmjkflppajienaaDoorRCv
import Derived.Test.YtmjkflppajienaaDoorRIt
import Derived.Lib.Strings
import Derived.Lib.IndexAny
namespace Go.Proofs.YtmjkflppajienaaDoor.R.Pu
open Go Go.RowKit
set_option linter.unusedVariables false
set_option linter.unusedSimpArgs false

/-! ### loops -/
theorem wh_ind {ι σ β : Type} {F : (σ → Option β) → σ → Option β} (st : ι → σ) (I : ι → Prop) (μ : ι → Nat) (g : ι → β)
    (step : ∀ i, I i → ∀ r : σ → Option β, (∀ j, I j → μ j < μ i → r (st j) = some (g j)) → F r (st i) = some (g i)) (i : ι) (hi : I i) : wh F (st i) = some (g i) := by
  have key : ∀ m i, I i → μ i < m → iter F m (st i) = some (g i) := by
    intro m
    induction m with
    | zero => intro i _ h; omega
    | succ m ih => intro i hi hm; exact step i hi _ fun j hj hlt => ih j hj (by omega)
  exact lst_of (a := fun n => iter F n (st i)) (N := μ i + 1) fun k hk => key k i hi (by omega)
/-- A loop over a row's places: what is left of the row, and what has come of it. -/
theorem wh_list {α S σ β : Type} {F : (σ → Option β) → σ → Option β} (l : List α) (st : Int → S → σ) (I : Nat → S → Prop) (g : List α → S → β)
    (nil : ∀ s r, I l.length s → F r (st (l.length : Nat) s) = some (g [] s))
    (cons : ∀ (i : Nat) (s : S) (r : σ → Option β) (h : i < l.length), I i s → (∀ s', I (i + 1) s' → r (st ((i + 1 : Nat) : Int) s') = some (g (l.drop (i + 1)) s')) → F r (st (i : Int) s) = some (g (l[i] :: l.drop (i + 1)) s))
    (s : S) (h : I 0 s) : wh F (st 0 s) = some (g l s) := by
  have := wh_ind (F := F) (fun (p : Nat × S) => st (p.1 : Int) p.2) (fun p => p.1 ≤ l.length ∧ I p.1 p.2) (fun p => l.length - p.1) (fun p => g (l.drop p.1) p.2) (fun p hp r hr => by
    obtain ⟨i, s⟩ := p
    obtain ⟨h1, h2⟩ := hp
    by_cases hi : i < l.length
    · show F r (st (i : Int) s) = some (g (l.drop i) s)
      rw [List.drop_eq_getElem_cons hi]
      exact cons i s r hi h2 fun s' hs' => hr (i + 1, s') ⟨hi, hs'⟩ (by show l.length - (i + 1) < l.length - i; omega)
    · obtain rfl : i = l.length := by simp only at h1; omega
      show F r (st (l.length : Nat) s) = some (g (l.drop l.length) s)
      rw [List.drop_length]
      exact nil s r h2) (0, s) ⟨Nat.zero_le _, h⟩
  simpa using this
/-- The like, from some place on. -/
theorem wh_from {α S σ β : Type} {F : (σ → Option β) → σ → Option β} (l : List α) (st : Int → S → σ) (I : Nat → S → Prop) (g : List α → S → β)
    (nil : ∀ s r, I l.length s → F r (st (l.length : Nat) s) = some (g [] s))
    (cons : ∀ (i : Nat) (s : S) (r : σ → Option β) (h : i < l.length), I i s → (∀ s', I (i + 1) s' → r (st ((i + 1 : Nat) : Int) s') = some (g (l.drop (i + 1)) s')) → F r (st (i : Int) s) = some (g (l[i] :: l.drop (i + 1)) s))
    (k : Nat) (hk : k ≤ l.length) (s : S) (h : I k s) : wh F (st (k : Int) s) = some (g (l.drop k) s) :=
  wh_ind (F := F) (fun (p : Nat × S) => st (p.1 : Int) p.2) (fun p => p.1 ≤ l.length ∧ I p.1 p.2) (fun p => l.length - p.1) (fun p => g (l.drop p.1) p.2) (fun p hp r hr => by
    obtain ⟨i, s⟩ := p
    obtain ⟨h1, h2⟩ := hp
    by_cases hi : i < l.length
    · show F r (st (i : Int) s) = some (g (l.drop i) s)
      rw [List.drop_eq_getElem_cons hi]
      exact cons i s r hi h2 fun s' hs' => hr (i + 1, s') ⟨hi, hs'⟩ (by show l.length - (i + 1) < l.length - i; omega)
    · obtain rfl : i = l.length := by simp only at h1; omega
      show F r (st (l.length : Nat) s) = some (g (l.drop l.length) s)
      rw [List.drop_length]
      exact nil s r h2) (k, s) ⟨hk, h⟩

/-! ### numbers, rows -/
theorem w_ {x : Int} (h : -9223372036854775808 ≤ x) (h' : x ≤ 9223372036854775807) : w64 x = x := by
  have e : (2 : Int) ^ IntKind.i64.bits = 18446744073709551616 := by decide
  have e' : (2 : Int) ^ (IntKind.i64.bits - 1) = 9223372036854775808 := by decide
  show IntKind.wrap .i64 x = x
  unfold IntKind.wrap
  simp only [e, e']
  by_cases hc : x % 18446744073709551616 ≥ 9223372036854775808
  · rw [if_pos (by rw [decide_eq_true hc]; rfl)]; omega
  · rw [if_neg (by rw [decide_eq_false hc]; simp)]; omega
theorem wS {i : Nat} (h : i < 9223372036854775807) : w64 ((i : Int) + 1) = ((i + 1 : Nat) : Int) := by rw [w_ (by omega) (by omega)]; rfl
theorem wu8 {x : Int} (h : 0 ≤ x) (h' : x < 256) : IntKind.u8.wrap x = x := by
  have e : (2 : Int) ^ IntKind.u8.bits = 256 := by decide
  unfold IntKind.wrap
  simp only [e]
  rw [if_neg (by simp [IntKind.signed])]
  omega
theorem w8mod (x : Int) : IntKind.u8.wrap x = x % 256 := by
  have e : (2 : Int) ^ IntKind.u8.bits = 256 := by decide
  unfold IntKind.wrap
  simp only [e]
  rw [if_neg (by simp [IntKind.signed])]
theorem ix_ {α : Type} {x : List α} {i : Nat} (h : i < x.length) : ix x (i : Int) = some x[i] := by
  unfold ix; rw [if_pos (by omega), Int.toNat_natCast]; simp [h]
theorem ix0 {α : Type} {x : List α} (h : 0 < x.length) : ix x 0 = some x[0] := ix_ (i := 0) h
theorem app_ {α : Type} {b : Nat} {x y : List α} (h : (x.length + y.length) * b ≤ 140737488355328) : app b x y = some (x ++ y) := by
  unfold app; rw [if_pos h]
theorem cut_ {α : Type} {x : List α} {i j : Nat} (h : i ≤ j) (h' : j ≤ x.length) : cut x (i : Int) (j : Int) = some ((x.take j).drop i) := by
  unfold cut; rw [if_pos (by omega)]; simp
theorem cut0 {α : Type} {x : List α} {j : Nat} (h' : j ≤ x.length) : cut x 0 (j : Int) = some (x.take j) := by
  have := cut_ (x := x) (i := 0) (j := j) (by omega) h'
  simpa using this
theorem chk_ {i n : Nat} (h : i < n) : chk (i : Int) n = some () := by unfold chk; rw [if_pos (by omega)]
theorem wr_ {α : Type} {x : List α} {i : Nat} {y : α} (h : i < x.length) : wr x (i : Int) y = some (x.set i y) := by
  unfold wr; rw [if_pos (by omega), Int.toNat_natCast]
theorem eqn_ {a b : Nat} (h : a = b) : eqn a b = some () := if_pos h
theorem mk0_ {α : Type} {b n : Nat} {z : α} (h : n * b ≤ 140737488355328) (h' : n ≤ 140737488355328) : mk0 b (n : Int) z = some (List.replicate n z) := by
  unfold mk0
  rw [if_pos ⟨by omega, by have : (n : Int) * (b : Int) = ((n * b : Nat) : Int) := by simp
                           omega, by omega⟩, Int.toNat_natCast]
theorem gdT {α : Type} [Inhabited α] {x : Option α} : gd true x = x := rfl
theorem gdF {α : Type} [Inhabited α] {x : Option α} : gd false x = some default := rfl
theorem jn_eq {α β : Type} {f : α} {g : α → Option β} : jn f g = g f := rfl
theorem nq_same {α β : Type} {l : List α} {f : Bool → Option β} {r : β} (h : l = [] → f true = some r) (h' : f false = some r) : nq l f = some r := by
  cases l with
  | nil => simp only [nq]; rw [if_pos ((h rfl).trans h'.symm)]; exact h rfl
  | cons a l => exact h'

/-! ### texts -/
theorem bmk_list (s : ByteArray) : bmk s.data.toList = s := by cases s; simp [bmk]
theorem list_bmk (l : List UInt8) : (bmk l).data.toList = l := by simp [bmk]
theorem text_ext {x y : ByteArray} (h : x.data.toList = y.data.toList) : x = y := by rw [← bmk_list x, ← bmk_list y, h]
theorem size_bmk (l : List UInt8) : (bmk l).size = l.length := by show l.toArray.size = _; simp
theorem len_text (s : ByteArray) : s.data.toList.length = s.size := Array.length_toList
theorem cut_list (s : ByteArray) (a b : Nat) : (s.extract a b).data.toList = (s.data.toList.take b).drop a := by
  rw [ByteArray.data_extract, Array.toList_extract, List.extract_eq_take_drop, ← List.drop_take]
theorem app_list (x y : ByteArray) : (x ++ y).data.toList = x.data.toList ++ y.data.toList := by
  rw [ByteArray.data_append, Array.toList_append]
theorem toList_data (s : ByteArray) : s.toList = s.data.toList := ByteArray.toList_eq s
theorem eqb (s : ByteArray) (l : List UInt8) : decide (s = ⟨⟨l⟩⟩) = (s.data.toList == l) := by
  rw [Bool.eq_iff_iff, decide_eq_true_eq, beq_iff_eq]
  constructor
  · rintro rfl; rfl
  · intro h
    obtain ⟨⟨x⟩⟩ := s
    have h' : x = l := h
    rw [h']
theorem eqd (x y : ByteArray) : decide (x = y) = (x.data.toList == y.data.toList) := by
  rw [Bool.eq_iff_iff, decide_eq_true_eq, beq_iff_eq]
  exact ⟨fun h => by rw [h], text_ext⟩
theorem sub_ {s : ByteArray} {i j : Nat} (h : i ≤ j) (h' : j ≤ s.size) : sub s (i : Int) (j : Int) = some (s.extract i j) := by
  unfold sub; rw [if_pos (by omega)]; simp
theorem sub0 {s : ByteArray} {j : Nat} (h' : j ≤ s.size) : sub s 0 (j : Int) = some (s.extract 0 j) := sub_ (i := 0) (Nat.zero_le _) h'
theorem bx_ {s : ByteArray} {i : Nat} (h : i < s.data.toList.length) : bx s (i : Int) = some ((s.data.toList[i]).toNat : Int) := by
  have h' : i < s.size := by rw [Array.length_toList] at h; exact h
  unfold bx bt; rw [if_pos (by omega), Int.toNat_natCast, List.getD_eq_getElem?_getD, List.getElem?_eq_getElem h]; rfl
theorem cat_ {x y : ByteArray} (h : x.size + y.size ≤ 9223372036854775807) : cat x y = some (x ++ y) := if_pos h
theorem size_app (x y : ByteArray) : (x ++ y).size = x.size + y.size := ByteArray.size_append
theorem u8_eq {a b : UInt8} : ((a.toNat : Int) = (b.toNat : Int)) ↔ a = b := by
  constructor
  · intro h; exact UInt8.toNat.inj (by omega)
  · rintro rfl; rfl
theorem u8_lit {a : UInt8} {n : Nat} (hn : n < 256) : ((a.toNat : Int) = (n : Int)) ↔ a = UInt8.ofNat n := by
  have : (UInt8.ofNat n).toNat = n := by simp [Nat.mod_eq_of_lt hn]
  rw [← u8_eq, this]
/-- Bytes as numbers. -/
def ib (l : List UInt8) : List Int := l.map fun b => ((b.toNat : Nat) : Int)
theorem strb_ib (s : ByteArray) : strb s = ib s.data.toList := rfl
theorem bstr_ib (l : List UInt8) : bstr (ib l) = bmk l := by
  unfold bstr ib bmk
  simp [Function.comp_def]
theorem ib_app (a b : List UInt8) : ib (a ++ b) = ib a ++ ib b := List.map_append
theorem bmk_app (a b : List UInt8) : bmk a ++ bmk b = bmk (a ++ b) := text_ext (by rw [app_list, list_bmk, list_bmk, list_bmk])
end Go.Proofs.YtmjkflppajienaaDoor.R.Pu
