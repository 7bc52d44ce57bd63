/- Numbers and texts as bytes, read and written: package pack and its reference, as one; no condition. -/
import Derived.Test.YtmjkflppajienaaDoorPu
import Derived.Test.YtmjkflppajienaaDoorF
namespace Go.Proofs.YtmjkflppajienaaDoor.R.Pu
open Go Go.RowKit
set_option linter.unusedVariables false
set_option linter.unusedSimpArgs false

abbrev Rdr : Type := ByteArray × Int × Int × Unit
/-! ### bits -/
theorem low7 : ∀ n : _root_.Fin 256, IntKind.u8.wrap (↑(BitVec.ofInt 8 (n.val : Int) &&& BitVec.ofInt 8 127).toNat : Int) = ((n.val % 128 : Nat) : Int) := by decide +kernel
theorem low7_ (b : UInt8) : IntKind.u8.wrap (↑(BitVec.ofInt 8 (b.toNat : Int) &&& BitVec.ofInt 8 127).toNat : Int) = ((b.toNat % 128 : Nat) : Int) := low7 ⟨b.toNat, b.toNat_lt⟩
theorem high8 : ∀ n : _root_.Fin 256, IntKind.u8.wrap (↑(BitVec.ofInt 8 (n.val : Int) ||| BitVec.ofInt 8 128).toNat : Int) = ((n.val % 128 + 128 : Nat) : Int) := by decide +kernel
theorem or64 {v y k : Nat} (hv : v < 2 ^ k) (h : v + y * 2 ^ k < 9223372036854775808) : w64 (↑(BitVec.ofInt 64 (v : Int) ||| BitVec.ofInt 64 ((y * 2 ^ k : Nat) : Int)).toNat : Int) = ((v + y * 2 ^ k : Nat) : Int) := by
  have e1 : ∀ n : Nat, n < 18446744073709551616 → (BitVec.ofInt 64 (n : Int)).toNat = n := fun n hn => by
    rw [BitVec.toNat_ofInt]
    have : ((n : Int) % ((2 ^ 64 : Nat) : Int)) = (n : Int) := Int.emod_eq_of_lt (by omega) (by omega)
    rw [this]; rfl
  rw [BitVec.toNat_or, e1 v (by omega), e1 (y * 2 ^ k) (by omega)]
  have e2 : v ||| y * 2 ^ k = v + y * 2 ^ k := by
    have := Nat.two_pow_add_eq_or_of_lt hv y
    rw [Nat.mul_comm] at this
    rw [Nat.or_comm, ← this, Nat.add_comm]
  rw [e2, w_ (by omega) (by omega)]

/-! ### reading -/
/-- A number as groups: what is wrong (or 0), the number, how many bytes. -/
def gn : Nat → Nat → Nat → List UInt8 → Nat × Nat × Nat
  | 0, _, _, _ => (3, 0, 0)
  | _ + 1, _, _, [] => (2, 0, 0)
  | f + 1, i, v, b :: l => bif decide (i = 8) && decide (64 < b.toNat) then (3, 0, 0)
    else bif decide (b.toNat < 128) then (bif (decide (0 < i) && decide (b.toNat = 0)) || decide (4611686018427387904 < v + b.toNat % 128 * 2 ^ (7 * i)) then (3, 0, 0) else (0, v + b.toNat % 128 * 2 ^ (7 * i), i + 1))
    else gn f (i + 1) (v + b.toNat % 128 * 2 ^ (7 * i)) l
theorem bx_one {s : ByteArray} {a : Nat} (h : a < s.data.toList.length) : bx (s.extract a (a + 1)) 0 = some ((s.data.toList[a]).toNat : Int) := by
  have e : (s.extract a (a + 1)).data.toList = [s.data.toList[a]] := by
    rw [cut_list, List.take_succ_eq_append_getElem h, List.drop_append_of_le_length (by rw [List.length_take]; omega), List.drop_eq_nil_of_le (by rw [List.length_take]; omega), List.nil_append]
  have := bx_ (s := s.extract a (a + 1)) (i := 0) (by rw [e]; simp)
  rw [show (0 : Int) = ((0 : Nat) : Int) from rfl, this]
  simp [e]
/-- What a reader is after a number was read. -/
def nres (s : ByteArray) (a : Nat) (g : Nat × Nat × Nat) : Int × Rdr × Unit := bif decide (g.1 = 0) then ((g.2.1 : Int), (s, ((a + g.2.2 : Nat) : Int), 0, ()), ()) else (0, (s, (a : Int), (g.1 : Int), ()), ())
theorem pow7 {i : Nat} (h : i ≤ 8) : 2 ^ (7 * i) ≤ 72057594037927936 := by
  have : 2 ^ (7 * i) ≤ 2 ^ 56 := Nat.pow_le_pow_right (by omega) (by omega)
  omega
theorem pow7s (i : Nat) : 2 ^ (7 * (i + 1)) = 128 * 2 ^ (7 * i) := by rw [Nat.mul_add, Nat.pow_add]; omega
theorem shl_ {y i : Nat} (hy : y < 128) (hi : i ≤ 8) : shl IntKind.i64 (w64 ((y : Nat) : Int)) (w64 (7 * (i : Int))) = some ((y * 2 ^ (7 * i) : Nat) : Int) := by
  have hp := pow7 hi
  have e1 : w64 (7 * (i : Int)) = ((7 * i : Nat) : Int) := by rw [w_ (by omega) (by omega)]; omega
  have e3 : y * 2 ^ (7 * i) ≤ 127 * 72057594037927936 := Nat.mul_le_mul (by omega) hp
  have e2 : ((y : Int) * 2 ^ (7 * i)) = ((y * 2 ^ (7 * i) : Nat) : Int) := by simp
  rw [e1, w_ (by omega) (by omega)]
  unfold shl
  rw [if_pos (by omega), Int.toNat_natCast]
  have e4 : min (7 * i) IntKind.i64.bits = 7 * i := by
    have : IntKind.i64.bits = 64 := rfl
    rw [this]; omega
  rw [e4, e2]
  exact congrArg some (w_ (by omega) (by omega))
theorem gn_le : ∀ (f i v : Nat) (l : List UInt8) (w n : Nat), gn f i v l = (0, w, n) → n ≤ i + l.length ∧ w ≤ 4611686018427387904
  | 0, i, v, l, w, n, h => by cases h
  | f + 1, i, v, [], w, n, h => by cases h
  | f + 1, i, v, b :: l, w, n, h => by
    unfold gn at h
    cases h1 : (decide (i = 8) && decide (64 < b.toNat)) with
    | true => rw [h1] at h; cases h
    | false =>
      rw [h1] at h
      simp only [cond_false] at h
      cases h2 : decide (b.toNat < 128) with
      | true =>
        rw [h2] at h
        simp only [cond_true] at h
        cases h3 : (decide (0 < i) && decide (b.toNat = 0) || decide (4611686018427387904 < v + b.toNat % 128 * 2 ^ (7 * i))) with
        | true => rw [h3] at h; cases h
        | false =>
          rw [h3] at h
          simp only [cond_false, Prod.mk.injEq, true_and] at h
          simp only [Bool.or_eq_false_iff, decide_eq_false_iff_not] at h3
          rw [List.length_cons]
          omega
      | false =>
        rw [h2] at h
        simp only [cond_false] at h
        have := gn_le f (i + 1) _ l w n h
        rw [List.length_cons]
        omega
/-- A number, from a place on. -/
def pnum (s : ByteArray) (a : Nat) (e : Int) : Nat × Nat × Int := bif decide (e = 0) then (bif decide ((gn 9 0 0 (s.data.toList.drop a)).1 = 0) then ((gn 9 0 0 (s.data.toList.drop a)).2.1, a + (gn 9 0 0 (s.data.toList.drop a)).2.2, 0) else (0, a, ((gn 9 0 0 (s.data.toList.drop a)).1 : Int))) else (0, a, e)
theorem pnum_le (s : ByteArray) (a : Nat) (e : Int) (ha : a ≤ s.size) : (pnum s a e).2.1 ≤ s.size ∧ (pnum s a e).1 ≤ 4611686018427387904 ∧ ((pnum s a e).2.2 ≠ 0 → (pnum s a e).2.1 = a) := by
  have hl := len_text s
  unfold pnum
  cases h : decide (e = 0) with
  | false => exact ⟨ha, by simp, fun _ => rfl⟩
  | true =>
    simp only [cond_true]
    cases hg : decide ((gn 9 0 0 (s.data.toList.drop a)).1 = 0) with
    | false => exact ⟨ha, by simp, fun _ => rfl⟩
    | true =>
      have h1 := of_decide_eq_true hg
      have := gn_le 9 0 0 (s.data.toList.drop a) _ _ (show gn 9 0 0 (s.data.toList.drop a) = (0, (gn 9 0 0 (s.data.toList.drop a)).2.1, (gn 9 0 0 (s.data.toList.drop a)).2.2) from Prod.ext h1 rfl)
      rw [List.length_drop] at this
      simp only [cond_true]
      exact ⟨by omega, this.2, fun h => absurd rfl h⟩
/-- A text of at most so many bytes, from a place on. -/
def ptext (most : Nat) (s : ByteArray) (a : Nat) (e : Int) : ByteArray × Nat × Int :=
  bif !decide ((pnum s a e).2.2 = 0) then (⟨⟨[]⟩⟩, a, (pnum s a e).2.2) else bif decide (most < (pnum s a e).1) then (⟨⟨[]⟩⟩, a, 4)
  else bif decide (s.size - (pnum s a e).2.1 < (pnum s a e).1) then (⟨⟨[]⟩⟩, a, 2) else (s.extract (pnum s a e).2.1 ((pnum s a e).2.1 + (pnum s a e).1), (pnum s a e).2.1 + (pnum s a e).1, 0)
theorem ptext_le (most : Nat) (s : ByteArray) (a : Nat) (e : Int) (ha : a ≤ s.size) : (ptext most s a e).2.1 ≤ s.size ∧ (ptext most s a e).1.size ≤ s.size := by
  have := (pnum_le s a e ha).1
  unfold ptext
  cases h1 : (!decide ((pnum s a e).2.2 = 0)) with
  | true => exact ⟨ha, Nat.zero_le _⟩
  | false =>
    cases h2 : decide (most < (pnum s a e).1) with
    | true => exact ⟨ha, Nat.zero_le _⟩
    | false =>
      cases h3 : decide (s.size - (pnum s a e).2.1 < (pnum s a e).1) with
      | true => exact ⟨ha, Nat.zero_le _⟩
      | false =>
        have := of_decide_eq_false h3
        simp only [cond_false]
        exact ⟨by omega, by rw [ByteArray.size_extract]; omega⟩
end Go.Proofs.YtmjkflppajienaaDoor.R.Pu
