/- Numbers and texts as bytes, read and written: package pack and its reference, as one; no condition. -/
import Derived.Test.YtmjkflppajienaaDoorPu
import Derived.Test.YtmjkflppajienaaDoorF
namespace Go.Proofs.YtmjkflppajienaaDoor.R.Pu
open Go Go.RowKit
set_option linter.unusedVariables false
set_option linter.unusedSimpArgs false

abbrev Rdr : Type := ByteArray × Int × Int × Unit
/-! ### bits -/
theorem low7 : ∀ n : _root_.Fin 256, IntKind.u8.wrap (↑(BitVec.ofInt 8 (n.val : Int) &&& BitVec.ofInt 8 127).toNat : Int) = ((n.val % 128 : Nat) : Int) := by decide +kernel
theorem low7_ (b : UInt8) : IntKind.u8.wrap (↑(BitVec.ofInt 8 (b.toNat : Int) &&& BitVec.ofInt 8 127).toNat : Int) = ((b.toNat % 128 : Nat) : Int) := low7 ⟨b.toNat, b.toNat_lt⟩
theorem high8 : ∀ n : _root_.Fin 256, IntKind.u8.wrap (↑(BitVec.ofInt 8 (n.val : Int) ||| BitVec.ofInt 8 128).toNat : Int) = ((n.val % 128 + 128 : Nat) : Int) := by decide +kernel
theorem or64 {v y k : Nat} (hv : v < 2 ^ k) (h : v + y * 2 ^ k < 9223372036854775808) : w64 (↑(BitVec.ofInt 64 (v : Int) ||| BitVec.ofInt 64 ((y * 2 ^ k : Nat) : Int)).toNat : Int) = ((v + y * 2 ^ k : Nat) : Int) := by
  have e1 : ∀ n : Nat, n < 18446744073709551616 → (BitVec.ofInt 64 (n : Int)).toNat = n := fun n hn => by
    rw [BitVec.toNat_ofInt]
    have : ((n : Int) % ((2 ^ 64 : Nat) : Int)) = (n : Int) := Int.emod_eq_of_lt (by omega) (by omega)
    rw [this]; rfl
  rw [BitVec.toNat_or, e1 v (by omega), e1 (y * 2 ^ k) (by omega)]
  have e2 : v ||| y * 2 ^ k = v + y * 2 ^ k := by
    have := Nat.two_pow_add_eq_or_of_lt hv y
    rw [Nat.mul_comm] at this
    rw [Nat.or_comm, ← this, Nat.add_comm]
  rw [e2, w_ (by omega) (by omega)]

/-! ### reading -/
/-- A number as groups: what is wrong (or 0), the number, how many bytes. -/
def gn : Nat → Nat → Nat → List UInt8 → Nat × Nat × Nat
  | 0, _, _, _ => (3, 0, 0)
  | _ + 1, _, _, [] => (2, 0, 0)
  | f + 1, i, v, b :: l => bif decide (i = 8) && decide (64 < b.toNat) then (3, 0, 0)
    else bif decide (b.toNat < 128) then (bif (decide (0 < i) && decide (b.toNat = 0)) || decide (4611686018427387904 < v + b.toNat % 128 * 2 ^ (7 * i)) then (3, 0, 0) else (0, v + b.toNat % 128 * 2 ^ (7 * i), i + 1))
    else gn f (i + 1) (v + b.toNat % 128 * 2 ^ (7 * i)) l
theorem take_ev (s : ByteArray) (n a : Nat) (e : Int) (ha : a ≤ s.size) (hs : s.size ≤ 1000000000000) (hn : n ≤ 9000000000000000000) : pack_Reader_take.f (n : Int) (s, (a : Int), e, ()) =
    some (bif !decide (e = 0) then (((⟨⟨[]⟩⟩ : ByteArray), false, ()), (s, (a : Int), e, ()), ()) else bif decide (s.size - a < n) then (((⟨⟨[]⟩⟩ : ByteArray), false, ()), (s, (a : Int), 2, ()), ()) else ((s.extract a (a + n), true, ()), (s, ((a + n : Nat) : Int), e, ()), ())) := by
  refine pack_Reader_take.in _ _ ?_
  cases he : decide (e = 0) with
  | false => rfl
  | true =>
    rw [if_neg (by decide)]
    simp only []
    have e1 : w64 ((s.size : Int) - (a : Int)) = ((s.size - a : Nat) : Int) := by rw [w_ (by omega) (by omega)]; omega
    rw [e1]
    by_cases h : s.size - a < n
    · rw [decide_eq_true (show (n : Int) > ((s.size - a : Nat) : Int) by omega), if_pos rfl, decide_eq_true h]; rfl
    · rw [decide_eq_false (show ¬ (n : Int) > ((s.size - a : Nat) : Int) by omega), if_neg (by decide), decide_eq_false h]
      have e2 : w64 ((a : Int) + (n : Int)) = ((a + n : Nat) : Int) := by rw [w_ (by omega) (by omega)]; rfl
      have e3 : w64 (((a + n : Nat) : Int) - (n : Int)) = (a : Int) := by rw [w_ (by omega) (by omega)]; omega
      rw [e2, e3, sub_ (by omega) (by omega)]; rfl
theorem take1_ev (s : ByteArray) (a : Nat) (ha : a < s.data.toList.length) (hs : s.size ≤ 1000000000000) : pack_Reader_take.f 1 (s, (a : Int), 0, ()) = some ((s.extract a (a + 1), true, ()), (s, ((a + 1 : Nat) : Int), 0, ()), ()) := by
  have hl := len_text s
  rw [show (1 : Int) = ((1 : Nat) : Int) from rfl, take_ev s 1 a 0 (by omega) hs (by omega), decide_eq_false (show ¬ s.size - a < 1 by omega)]; rfl
theorem take1_end (s : ByteArray) (hs : s.size ≤ 1000000000000) : pack_Reader_take.f 1 (s, (s.size : Int), 0, ()) = some (((⟨⟨[]⟩⟩ : ByteArray), false, ()), (s, (s.size : Int), 2, ()), ()) := by
  rw [show (1 : Int) = ((1 : Nat) : Int) from rfl, take_ev s 1 s.size 0 (by omega) hs (by omega), decide_eq_true (show s.size - s.size < 1 by omega)]; rfl
theorem take_err (s : ByteArray) (n a : Nat) (e : Int) (he : e ≠ 0) (ha : a ≤ s.size) (hs : s.size ≤ 1000000000000) (hn : n ≤ 9000000000000000000) : pack_Reader_take.f (n : Int) (s, (a : Int), e, ()) = some (((⟨⟨[]⟩⟩ : ByteArray), false, ()), (s, (a : Int), e, ()), ()) := by
  rw [take_ev s n a e ha hs hn, decide_eq_false he]; rfl
theorem bx_one {s : ByteArray} {a : Nat} (h : a < s.data.toList.length) : bx (s.extract a (a + 1)) 0 = some ((s.data.toList[a]).toNat : Int) := by
  have e : (s.extract a (a + 1)).data.toList = [s.data.toList[a]] := by
    rw [cut_list, List.take_succ_eq_append_getElem h, List.drop_append_of_le_length (by rw [List.length_take]; omega), List.drop_eq_nil_of_le (by rw [List.length_take]; omega), List.nil_append]
  have := bx_ (s := s.extract a (a + 1)) (i := 0) (by rw [e]; simp)
  rw [show (0 : Int) = ((0 : Nat) : Int) from rfl, this]
  simp [e]
theorem back_ev (a e : Int) (s : ByteArray) (a' e' : Int) : pack_Reader_back.f a e (s, a', e', ()) = some ((), (s, a, (bif decide (e' = 0) then e else e'), ()), ()) := by
  refine pack_Reader_back.in _ _ _ ?_
  simp only [jn_eq]
  cases he : decide (e' = 0) with
  | true => rw [if_pos rfl]; rfl
  | false => rw [if_neg (by decide)]; rfl
theorem fail_ev (e : Int) (s : ByteArray) (a' e' : Int) : pack_Reader_Fail.f e (s, a', e', ()) = some ((), (s, a', (bif decide (e' = 0) then e else e'), ()), ()) := by
  refine pack_Reader_Fail.in _ _ ?_
  simp only []
  cases he : decide (e' = 0) with
  | true => rw [if_pos rfl]; rfl
  | false => rw [if_neg (by decide)]; rfl
theorem rfail_ev (e : Int) (s : ByteArray) (a' e' : Int) : quitclaimref05_Fail.f (s, a', e', ()) e = some (s, a', (bif decide (e' = 0) then e else e'), ()) := by
  refine quitclaimref05_Fail.in _ _ ?_
  simp only []
  cases he : decide (e' = 0) with
  | true => rw [if_pos rfl]; rfl
  | false => rw [if_neg (by decide)]; rfl
/-- What a reader is after a number was read. -/
def nres (s : ByteArray) (a : Nat) (g : Nat × Nat × Nat) : Int × Rdr × Unit := bif decide (g.1 = 0) then ((g.2.1 : Int), (s, ((a + g.2.2 : Nat) : Int), 0, ()), ()) else (0, (s, (a : Int), (g.1 : Int), ()), ())
noncomputable def numF (r7 : ((Unit × Int × Int × Int × Unit) × Rdr × Unit × Unit) → Option (Int × Rdr × Unit)) (v8 : ((Unit × Int × Int × Int × Unit) × Rdr × Unit × Unit)) : Option (Int × Rdr × Unit) := (pack_Reader_take.f 1 v8.2.1).bind fun x9 => if !x9.1.2.1 then ((pack_Reader_back.f v8.1.2.1 x9.2.1.2.2.1 x9.2.1).bind fun x10 => some (0, x10.2)) else (bx x9.1.1 0).bind fun x11 => (shl IntKind.i64 (w64 (IntKind.u8.wrap (↑(BitVec.ofInt 8 x11 &&& BitVec.ofInt 8 127).toNat : Int))) (w64 (7 * v8.1.2.2.2.1))).bind fun x12 => (gd (decide (w64 (v8.1.2.2.2.1 + 1) = 9)) (bx x9.1.1 0)).bind fun x13 => if decide (w64 (v8.1.2.2.2.1 + 1) = 9) && decide (x13 > 64) then ((pack_Reader_Fail.f 3 x9.2.1).bind fun x14 => (pack_Reader_back.f v8.1.2.1 x14.2.1.2.2.1 x14.2.1).bind fun x15 => some (0, x15.2)) else (bx x9.1.1 0).bind fun x16 => if decide (x16 ≥ 128) then r7 (((), v8.1.2.1, w64 (↑(BitVec.ofInt 64 v8.1.2.2.1 ||| BitVec.ofInt 64 x12).toNat : Int), w64 (v8.1.2.2.2.1 + 1), ()), x9.2.1, (), ()) else (gd (decide (w64 (v8.1.2.2.2.1 + 1) > 1)) (bx x9.1.1 0)).bind fun x17 => if decide (w64 (v8.1.2.2.2.1 + 1) > 1) && decide (x17 = 0) || decide (w64 (↑(BitVec.ofInt 64 v8.1.2.2.1 ||| BitVec.ofInt 64 x12).toNat : Int) > 4611686018427387904) then ((pack_Reader_Fail.f 3 x9.2.1).bind fun x18 => (pack_Reader_back.f v8.1.2.1 x18.2.1.2.2.1 x18.2.1).bind fun x19 => some (0, x19.2)) else some (w64 (↑(BitVec.ofInt 64 v8.1.2.2.1 ||| BitVec.ofInt 64 x12).toNat : Int), x9.2)
theorem pow7 {i : Nat} (h : i ≤ 8) : 2 ^ (7 * i) ≤ 72057594037927936 := by
  have : 2 ^ (7 * i) ≤ 2 ^ 56 := Nat.pow_le_pow_right (by omega) (by omega)
  omega
theorem pow7s (i : Nat) : 2 ^ (7 * (i + 1)) = 128 * 2 ^ (7 * i) := by rw [Nat.mul_add, Nat.pow_add]; omega
theorem shl_ {y i : Nat} (hy : y < 128) (hi : i ≤ 8) : shl IntKind.i64 (w64 ((y : Nat) : Int)) (w64 (7 * (i : Int))) = some ((y * 2 ^ (7 * i) : Nat) : Int) := by
  have hp := pow7 hi
  have e1 : w64 (7 * (i : Int)) = ((7 * i : Nat) : Int) := by rw [w_ (by omega) (by omega)]; omega
  have e3 : y * 2 ^ (7 * i) ≤ 127 * 72057594037927936 := Nat.mul_le_mul (by omega) hp
  have e2 : ((y : Int) * 2 ^ (7 * i)) = ((y * 2 ^ (7 * i) : Nat) : Int) := by simp
  rw [e1, w_ (by omega) (by omega)]
  unfold shl
  rw [if_pos (by omega), Int.toNat_natCast]
  have e4 : min (7 * i) IntKind.i64.bits = 7 * i := by
    have : IntKind.i64.bits = 64 := rfl
    rw [this]; omega
  rw [e4, e2]
  exact congrArg some (w_ (by omega) (by omega))
theorem numF_ev (s : ByteArray) (a : Nat) (hs : s.size ≤ 1000000000000) (r : ((Unit × Int × Int × Int × Unit) × Rdr × Unit × Unit) → Option (Int × Rdr × Unit)) (i v : Nat) (hi : i ≤ 8) (hv : v < 2 ^ (7 * i)) (ha : a + i ≤ s.size)
    (hr : ∀ v' : Nat, v' < 2 ^ (7 * (i + 1)) → i + 1 ≤ 8 → a + (i + 1) ≤ s.size → r (((), (a : Int), (v' : Int), ((i + 1 : Nat) : Int), ()), (s, ((a + (i + 1) : Nat) : Int), 0, ()), (), ()) = some (nres s a (gn (8 - i) (i + 1) v' (s.data.toList.drop (a + (i + 1)))))) :
    numF r (((), (a : Int), (v : Int), (i : Int), ()), (s, ((a + i : Nat) : Int), 0, ()), (), ()) = some (nres s a (gn (9 - i) i v (s.data.toList.drop (a + i)))) := by
  have hl := len_text s
  unfold numF
  simp only []
  rw [show 9 - i = (8 - i) + 1 by omega]
  by_cases h : a + i < s.data.toList.length
  · rw [List.drop_eq_getElem_cons h, take1_ev s _ h hs, Option.bind_some]
    obtain ⟨b, hb⟩ : ∃ b, b = s.data.toList[a + i] := ⟨_, rfl⟩
    simp only [Bool.not_true, Bool.false_eq_true, if_false]
    rw [bx_one h, ← hb]
    have hp := pow7 hi
    have hy : b.toNat % 128 * 2 ^ (7 * i) ≤ 127 * 72057594037927936 := Nat.mul_le_mul (by omega) hp
    have hv2 : v + b.toNat % 128 * 2 ^ (7 * i) < 2 ^ (7 * (i + 1)) := by
      rw [pow7s]
      have : b.toNat % 128 * 2 ^ (7 * i) ≤ 127 * 2 ^ (7 * i) := Nat.mul_le_mul_right _ (by omega)
      omega
    simp only [Option.bind_some]
    rw [low7_, shl_ (by omega) hi, Option.bind_some, wS (by omega), or64 hv (by omega)]
    have hbt := b.toNat_lt
    unfold gn
    have c1 : decide (((i + 1 : Nat) : Int) = 9) = decide (i = 8) := by rw [decide_eq_decide]; omega
    have c2 : decide ((b.toNat : Int) > 64) = decide (64 < b.toNat) := by rw [decide_eq_decide]; omega
    rw [c1]
    have c3 : (gd (decide (i = 8)) (some (b.toNat : Int))).bind (fun x13 => if (decide (i = 8) && decide (x13 > 64)) = true then ((pack_Reader_Fail.f 3 (s, ((a + i + 1 : Nat) : Int), 0, ())).bind fun x14 => (pack_Reader_back.f (a : Int) x14.2.1.2.2.1 x14.2.1).bind fun x15 => some (0, x15.2)) else if decide ((b.toNat : Int) ≥ 128) = true then r (((), (a : Int), ((v + b.toNat % 128 * 2 ^ (7 * i) : Nat) : Int), ((i + 1 : Nat) : Int), ()), (s, ((a + i + 1 : Nat) : Int), 0, ()), (), ()) else (gd (decide (((i + 1 : Nat) : Int) > 1)) (some (b.toNat : Int))).bind fun x17 => if (decide (((i + 1 : Nat) : Int) > 1) && decide (x17 = 0) || decide (((v + b.toNat % 128 * 2 ^ (7 * i) : Nat) : Int) > 4611686018427387904)) = true then ((pack_Reader_Fail.f 3 (s, ((a + i + 1 : Nat) : Int), 0, ())).bind fun x18 => (pack_Reader_back.f (a : Int) x18.2.1.2.2.1 x18.2.1).bind fun x19 => some (0, x19.2)) else some (((v + b.toNat % 128 * 2 ^ (7 * i) : Nat) : Int), (s, ((a + i + 1 : Nat) : Int), 0, ()), ()))
      = some (nres s a (bif decide (i = 8) && decide (64 < b.toNat) then (3, 0, 0) else bif decide (b.toNat < 128) then (bif (decide (0 < i) && decide (b.toNat = 0)) || decide (4611686018427387904 < v + b.toNat % 128 * 2 ^ (7 * i)) then (3, 0, 0) else (0, v + b.toNat % 128 * 2 ^ (7 * i), i + 1)) else gn (8 - i) (i + 1) (v + b.toNat % 128 * 2 ^ (7 * i)) (s.data.toList.drop (a + i + 1)))) := by
      simp only [fail_ev, back_ev, Option.bind_some]
      have k1 : ∀ t : Bool, (gd t (some (b.toNat : Int))).bind (fun x13 => if (t && decide (x13 > 64)) = true then (some ((0 : Int), (s, (a : Int), (3 : Int), ()), ())) else if decide ((b.toNat : Int) ≥ 128) = true then r (((), (a : Int), ((v + b.toNat % 128 * 2 ^ (7 * i) : Nat) : Int), ((i + 1 : Nat) : Int), ()), (s, ((a + i + 1 : Nat) : Int), 0, ()), (), ()) else (gd (decide (((i + 1 : Nat) : Int) > 1)) (some (b.toNat : Int))).bind fun x17 => if (decide (((i + 1 : Nat) : Int) > 1) && decide (x17 = 0) || decide (((v + b.toNat % 128 * 2 ^ (7 * i) : Nat) : Int) > 4611686018427387904)) = true then (some ((0 : Int), (s, (a : Int), (3 : Int), ()), ())) else some (((v + b.toNat % 128 * 2 ^ (7 * i) : Nat) : Int), (s, ((a + i + 1 : Nat) : Int), 0, ()), ()))
        = bif t && decide (64 < b.toNat) then some ((0 : Int), (s, (a : Int), (3 : Int), ()), ()) else bif decide (128 ≤ b.toNat) then r (((), (a : Int), ((v + b.toNat % 128 * 2 ^ (7 * i) : Nat) : Int), ((i + 1 : Nat) : Int), ()), (s, ((a + i + 1 : Nat) : Int), 0, ()), (), ()) else bif (decide (0 < i) && decide (b.toNat = 0)) || decide (4611686018427387904 < v + b.toNat % 128 * 2 ^ (7 * i)) then some ((0 : Int), (s, (a : Int), (3 : Int), ()), ()) else some (((v + b.toNat % 128 * 2 ^ (7 * i) : Nat) : Int), (s, ((a + i + 1 : Nat) : Int), 0, ()), ()) := fun t => by
        have d1 : decide ((b.toNat : Int) ≥ 128) = decide (128 ≤ b.toNat) := by rw [decide_eq_decide]; omega
        have d2 : decide (((i + 1 : Nat) : Int) > 1) = decide (0 < i) := by rw [decide_eq_decide]; omega
        have d3 : decide (((v + b.toNat % 128 * 2 ^ (7 * i) : Nat) : Int) > 4611686018427387904) = decide (4611686018427387904 < v + b.toNat % 128 * 2 ^ (7 * i)) := by rw [decide_eq_decide]; omega
        have d4 : decide ((b.toNat : Int) = 0) = decide (b.toNat = 0) := by rw [decide_eq_decide]; omega
        rw [d1, d2, d3]
        have tail : ((gd (decide (0 < i)) (some (b.toNat : Int))).bind fun x17 => if (decide (0 < i) && decide (x17 = 0) || decide (4611686018427387904 < v + b.toNat % 128 * 2 ^ (7 * i))) = true then (some ((0 : Int), (s, (a : Int), (3 : Int), ()), ())) else some (((v + b.toNat % 128 * 2 ^ (7 * i) : Nat) : Int), (s, ((a + i + 1 : Nat) : Int), (0 : Int), ()), ())) = bif (decide (0 < i) && decide (b.toNat = 0)) || decide (4611686018427387904 < v + b.toNat % 128 * 2 ^ (7 * i)) then some ((0 : Int), (s, (a : Int), (3 : Int), ()), ()) else some (((v + b.toNat % 128 * 2 ^ (7 * i) : Nat) : Int), (s, ((a + i + 1 : Nat) : Int), 0, ()), ()) := by
          cases decide (0 < i) with
          | true =>
            rw [gdT, Option.bind_some, d4]
            cases decide (b.toNat = 0) <;> cases decide (4611686018427387904 < v + b.toNat % 128 * 2 ^ (7 * i)) <;> rfl
          | false =>
            cases decide (4611686018427387904 < v + b.toNat % 128 * 2 ^ (7 * i)) <;> rfl
        rw [tail]
        cases t with
        | true =>
          rw [gdT, Option.bind_some, c2]
          cases decide (64 < b.toNat) with
          | true => rfl
          | false => cases decide (128 ≤ b.toNat) <;> rfl
        | false => cases decide (128 ≤ b.toNat) <;> rfl
      refine (k1 (decide (i = 8))).trans ?_
      have d5 : decide (128 ≤ b.toNat) = !decide (b.toNat < 128) := by
        by_cases hh : b.toNat < 128
        · rw [decide_eq_true hh, decide_eq_false (by omega)]; rfl
        · rw [decide_eq_false hh, decide_eq_true (by omega)]; rfl
      rw [d5]
      cases t8 : (decide (i = 8) && decide (64 < b.toNat)) with
      | true => rfl
      | false =>
        cases tb : decide (b.toNat < 128) with
        | true =>
          cases (decide (0 < i) && decide (b.toNat = 0) || decide (4611686018427387904 < v + b.toNat % 128 * 2 ^ (7 * i))) <;> rfl
        | false =>
          have hb' := of_decide_eq_false tb
          have hi8 : i + 1 ≤ 8 := by
            by_cases h8 : i = 8
            · rw [decide_eq_true h8, Bool.true_and] at t8
              have := of_decide_eq_false t8
              omega
            · omega
          exact hr _ hv2 hi8 (by omega)
    exact c3
  · have e : a + i = s.size := by omega
    rw [e, take1_end s hs, Option.bind_some, List.drop_eq_nil_of_le (by omega)]
    simp only [Bool.not_false, if_true, back_ev, Option.bind_some]
    rfl
theorem num_ev (s : ByteArray) (a : Nat) (hs : s.size ≤ 1000000000000) (ha : a ≤ s.size) : pack_Reader_Num.f (s, (a : Int), 0, ()) = some (nres s a (gn 9 0 0 (s.data.toList.drop a))) := by
  refine pack_Reader_Num.in _ ?_
  have key : ∀ (i v : Nat), i ≤ 8 → v < 2 ^ (7 * i) → a + i ≤ s.size → wh numF (((), (a : Int), (v : Int), (i : Int), ()), (s, ((a + i : Nat) : Int), 0, ()), (), ()) = some (nres s a (gn (9 - i) i v (s.data.toList.drop (a + i)))) := fun i v h1 h2 h3 =>
    wh_ind (F := numF) (fun (p : Nat × Nat) => (((), (a : Int), (p.2 : Int), (p.1 : Int), ()), (s, ((a + p.1 : Nat) : Int), 0, ()), (), ())) (fun p => p.1 ≤ 8 ∧ p.2 < 2 ^ (7 * p.1) ∧ a + p.1 ≤ s.size) (fun p => 9 - p.1) (fun p => nres s a (gn (9 - p.1) p.1 p.2 (s.data.toList.drop (a + p.1))))
      (fun p hp r hr => numF_ev s a hs r p.1 p.2 hp.1 hp.2.1 hp.2.2 fun v' g1 g2 g3 => by
        have := hr (p.1 + 1, v') ⟨g2, g1, g3⟩ (by have := hp.1; simp only; omega)
        rw [show 9 - (p.1 + 1) = 8 - p.1 by omega] at this
        exact this) (i, v) ⟨h1, h2, h3⟩
  refine Eq.trans (b := numF (wh numF) (((), (a : Int), 0, 0, ()), (s, (a : Int), 0, ()), (), ())) (by kernel_rfl) ?_
  have := numF_ev s a hs (wh numF) 0 0 (by omega) (by simp) (by omega) fun v' g1 g2 g3 => key 1 v' g2 g1 g3
  exact this
theorem num_err (s : ByteArray) (a : Nat) (e : Int) (he : e ≠ 0) (hs : s.size ≤ 1000000000000) (ha : a ≤ s.size) : pack_Reader_Num.f (s, (a : Int), e, ()) = some (0, (s, (a : Int), e, ()), ()) := by
  refine pack_Reader_Num.in _ ?_
  rw [show (1 : Int) = ((1 : Nat) : Int) from rfl, take_err s 1 a e he ha hs (by omega), Option.bind_some]
  simp only [Bool.not_false, if_true, back_ev, Option.bind_some, decide_eq_false he]
  rfl

theorem gn_le : ∀ (f i v : Nat) (l : List UInt8) (w n : Nat), gn f i v l = (0, w, n) → n ≤ i + l.length ∧ w ≤ 4611686018427387904
  | 0, i, v, l, w, n, h => by cases h
  | f + 1, i, v, [], w, n, h => by cases h
  | f + 1, i, v, b :: l, w, n, h => by
    unfold gn at h
    cases h1 : (decide (i = 8) && decide (64 < b.toNat)) with
    | true => rw [h1] at h; cases h
    | false =>
      rw [h1] at h
      simp only [cond_false] at h
      cases h2 : decide (b.toNat < 128) with
      | true =>
        rw [h2] at h
        simp only [cond_true] at h
        cases h3 : (decide (0 < i) && decide (b.toNat = 0) || decide (4611686018427387904 < v + b.toNat % 128 * 2 ^ (7 * i))) with
        | true => rw [h3] at h; cases h
        | false =>
          rw [h3] at h
          simp only [cond_false, Prod.mk.injEq, true_and] at h
          simp only [Bool.or_eq_false_iff, decide_eq_false_iff_not] at h3
          rw [List.length_cons]
          omega
      | false =>
        rw [h2] at h
        simp only [cond_false] at h
        have := gn_le f (i + 1) _ l w n h
        rw [List.length_cons]
        omega
/-- A number, from a place on. -/
def pnum (s : ByteArray) (a : Nat) (e : Int) : Nat × Nat × Int := bif decide (e = 0) then (bif decide ((gn 9 0 0 (s.data.toList.drop a)).1 = 0) then ((gn 9 0 0 (s.data.toList.drop a)).2.1, a + (gn 9 0 0 (s.data.toList.drop a)).2.2, 0) else (0, a, ((gn 9 0 0 (s.data.toList.drop a)).1 : Int))) else (0, a, e)
theorem pnum_le (s : ByteArray) (a : Nat) (e : Int) (ha : a ≤ s.size) : (pnum s a e).2.1 ≤ s.size ∧ (pnum s a e).1 ≤ 4611686018427387904 ∧ ((pnum s a e).2.2 ≠ 0 → (pnum s a e).2.1 = a) := by
  have hl := len_text s
  unfold pnum
  cases h : decide (e = 0) with
  | false => exact ⟨ha, by simp, fun _ => rfl⟩
  | true =>
    simp only [cond_true]
    cases hg : decide ((gn 9 0 0 (s.data.toList.drop a)).1 = 0) with
    | false => exact ⟨ha, by simp, fun _ => rfl⟩
    | true =>
      have h1 := of_decide_eq_true hg
      have := gn_le 9 0 0 (s.data.toList.drop a) _ _ (show gn 9 0 0 (s.data.toList.drop a) = (0, (gn 9 0 0 (s.data.toList.drop a)).2.1, (gn 9 0 0 (s.data.toList.drop a)).2.2) from Prod.ext h1 rfl)
      rw [List.length_drop] at this
      simp only [cond_true]
      exact ⟨by omega, this.2, fun h => absurd rfl h⟩
theorem pNum_ev (s : ByteArray) (a : Nat) (e : Int) (hs : s.size ≤ 1000000000000) (ha : a ≤ s.size) : pack_Reader_Num.f (s, (a : Int), e, ()) = some (((pnum s a e).1 : Int), (s, ((pnum s a e).2.1 : Int), (pnum s a e).2.2, ()), ()) := by
  unfold pnum
  cases h : decide (e = 0) with
  | false => rw [num_err s a e (of_decide_eq_false h) hs ha]; rfl
  | true =>
    obtain rfl := of_decide_eq_true h
    rw [num_ev s a hs ha]
    unfold nres
    cases hg : decide ((gn 9 0 0 (s.data.toList.drop a)).1 = 0) <;> rfl
theorem rNum_ev (s : ByteArray) (a : Nat) (e : Int) (hs : s.size ≤ 1000000000000) (ha : a ≤ s.size) : quitclaimref05_GetNum.f (s, (a : Int), e, ()) = some ((s, ((pnum s a e).2.1 : Int), (pnum s a e).2.2, ()), ((pnum s a e).1 : Int), ()) := by
  have hl := len_text s
  refine quitclaimref05_GetNum.in _ ?_
  unfold pnum
  cases h : decide (e = 0) with
  | false =>
    rfl
  | true =>
    obtain rfl := of_decide_eq_true h
    rw [if_neg (by decide)]
    simp only [cond_true]
    refine (wh_ind (fun (p : Nat × Nat) => (((), (), (p.2 : Int), ((2 ^ (7 * p.1) : Nat) : Int), (p.1 : Int), ()), (s, (a : Int), 0, ()), ((⟨⟨[]⟩⟩ : ByteArray), 0, 0, ()), ())) (fun p => p.1 ≤ 8 ∧ p.2 < 2 ^ (7 * p.1) ∧ a + p.1 ≤ s.size) (fun p => 9 - p.1)
      (fun p => (bif decide ((gn (9 - p.1) p.1 p.2 (s.data.toList.drop (a + p.1))).1 = 0) then ((s, ((a + (gn (9 - p.1) p.1 p.2 (s.data.toList.drop (a + p.1))).2.2 : Nat) : Int), 0, ()), ((gn (9 - p.1) p.1 p.2 (s.data.toList.drop (a + p.1))).2.1 : Int), ()) else ((s, (a : Int), ((gn (9 - p.1) p.1 p.2 (s.data.toList.drop (a + p.1))).1 : Int), ()), 0, ()))) (fun p hp r hr => ?_) (0, 0) ⟨by simp, by simp, by simp only; omega⟩).trans ?_
    · obtain ⟨i, v⟩ := p
      obtain ⟨hi, hv, ha2⟩ := hp
      simp only at hi hv ha2 hr
      have w1 : w64 ((a : Int) + (i : Int)) = ((a + i : Nat) : Int) := by rw [w_ (by omega) (by omega)]; rfl
      simp only []
      rw [decide_eq_true (show (i : Int) < 9 by omega), if_pos rfl, w1, show 9 - i = (8 - i) + 1 by omega]
      by_cases hlt : a + i < s.data.toList.length
      · rw [decide_eq_false (show ¬ (((a + i : Nat) : Int) ≥ (s.size : Int)) by omega), if_neg (by decide), bx_ hlt, Option.bind_some, List.drop_eq_getElem_cons hlt]
        obtain ⟨b, hb⟩ : ∃ b, b = s.data.toList[a + i] := ⟨_, rfl⟩
        rw [← hb]
        have hbt := b.toNat_lt
        have hp := pow7 hi
        have hy : b.toNat % 128 * 2 ^ (7 * i) ≤ 127 * 72057594037927936 := Nat.mul_le_mul (by omega) hp
        have hv2 : v + b.toNat % 128 * 2 ^ (7 * i) < 2 ^ (7 * (i + 1)) := by
          rw [pow7s]
          have : b.toNat % 128 * 2 ^ (7 * i) ≤ 127 * 2 ^ (7 * i) := Nat.mul_le_mul_right _ (by omega)
          omega
        have wb : w64 (b.toNat : Int) = (b.toNat : Int) := w_ (by omega) (by omega)
        have wi : w64 ((i : Int) + 1) = ((i + 1 : Nat) : Int) := wS (by omega)
        have wa : w64 ((a : Int) + ((i + 1 : Nat) : Int)) = ((a + (i + 1) : Nat) : Int) := by rw [w_ (by omega) (by omega)]; rfl
        simp only [jn_eq, wb, wi, rfail_ev, Option.bind_some, wa]
        unfold gn
        have c1 : decide ((i : Int) = 8) = decide (i = 8) := by rw [decide_eq_decide]; omega
        have c2 : decide ((b.toNat : Int) > 64) = decide (64 < b.toNat) := by rw [decide_eq_decide]; omega
        have c3 : decide ((b.toNat : Int) < 128) = decide (b.toNat < 128) := by rw [decide_eq_decide]; omega
        have c4 : decide ((i : Int) > 0) = decide (0 < i) := by rw [decide_eq_decide]; omega
        have c5 : decide ((b.toNat : Int) = 0) = decide (b.toNat = 0) := by rw [decide_eq_decide]; omega
        rw [c1, c2, c3, c4, c5]
        cases t8 : (decide (i = 8) && decide (64 < b.toNat)) with
        | true => rfl
        | false =>
          rw [if_neg (by decide)]
          by_cases h8 : i < 8
          · rw [decide_eq_true (show (i : Int) < 8 by omega), if_pos rfl]
            have e1 : w64 ((v : Int) + w64 ((b.toNat : Int).tmod 128 * ((2 ^ (7 * i) : Nat) : Int))) = ((v + b.toNat % 128 * 2 ^ (7 * i) : Nat) : Int) := by
              have : (b.toNat : Int).tmod 128 = ((b.toNat % 128 : Nat) : Int) := by rw [Int.tmod_eq_emod_of_nonneg (by omega)]; rfl
              rw [this, show ((b.toNat % 128 : Nat) : Int) * ((2 ^ (7 * i) : Nat) : Int) = ((b.toNat % 128 * 2 ^ (7 * i) : Nat) : Int) by simp, w_ (x := ((b.toNat % 128 * 2 ^ (7 * i) : Nat) : Int)) (by omega) (by omega), w_ (by omega) (by omega)]; rfl
            have hp2 : 2 ^ (7 * (i + 1)) ≤ 72057594037927936 := pow7 (by omega)
            have e2 : w64 (128 * ((2 ^ (7 * i) : Nat) : Int)) = ((2 ^ (7 * (i + 1)) : Nat) : Int) := by rw [pow7s] at hp2 ⊢; rw [w_ (by omega) (by omega)]; simp
            rw [e1, e2]
            have nov : decide (4611686018427387904 < v + b.toNat % 128 * 2 ^ (7 * i)) = false := decide_eq_false (by omega)
            cases tb : decide (b.toNat < 128) with
            | true =>
              rw [if_pos rfl]
              simp only [cond_true, cond_false, nov, Bool.or_false]
              cases (decide (0 < i) && decide (b.toNat = 0)) <;> rfl
            | false =>
              rw [if_neg (by decide)]
              have := hr (i + 1, v + b.toNat % 128 * 2 ^ (7 * i)) ⟨by simp only; omega, hv2, by simp only; omega⟩ (by simp only; omega)
              simp only [show 9 - (i + 1) = 8 - i by omega] at this
              exact this
          · obtain rfl : i = 8 := by omega
            rw [decide_eq_true (rfl : (8 : Nat) = 8), Bool.true_and] at t8
            have hb64 := of_decide_eq_false t8
            rw [decide_eq_false (show ¬ (((8 : Nat) : Int) < 8) by omega), if_neg (by decide), decide_eq_true (show b.toNat < 128 by omega)]
            have e0 : b.toNat % 128 = b.toNat := Nat.mod_eq_of_lt (by omega)
            have ep : (2 : Nat) ^ (7 * 8) = 72057594037927936 := by decide
            rw [e0, ep] at *
            have c6 : decide ((b.toNat : Int) = 64) = decide (b.toNat = 64) := by rw [decide_eq_decide]; omega
            have c7 : decide ((v : Int) > 0) = decide (0 < v) := by rw [decide_eq_decide]; omega
            have c8 : decide (4611686018427387904 < v + b.toNat * 72057594037927936) = (decide (b.toNat = 64) && decide (0 < v)) := by
              rw [Bool.eq_iff_iff]; simp only [Bool.and_eq_true, decide_eq_true_eq]; omega
            rw [c6, c7]
            simp only [cond_true, cond_false, c8]
            cases tv : (decide (b.toNat = 64) && decide (0 < v)) with
            | true => simp
            | false =>
              have e1 : w64 ((v : Int) + w64 ((b.toNat : Int) * ((72057594037927936 : Nat) : Int))) = ((v + b.toNat * 72057594037927936 : Nat) : Int) := by
                have h9 : ¬ (4611686018427387904 < v + b.toNat * 72057594037927936) := by
                  rw [tv] at c8; exact of_decide_eq_false c8
                rw [show (b.toNat : Int) * ((72057594037927936 : Nat) : Int) = ((b.toNat * 72057594037927936 : Nat) : Int) by simp, w_ (x := ((b.toNat * 72057594037927936 : Nat) : Int)) (by omega) (by omega), w_ (by omega) (by omega)]; rfl
              rw [if_neg (by decide), e1]
              cases decide (b.toNat = 0) <;> simp
      · have e : a + i = s.size := by omega
        rw [decide_eq_true (show (((a + i : Nat) : Int) ≥ (s.size : Int)) by omega), if_pos rfl, List.drop_eq_nil_of_le (by omega), rfail_ev]
        rfl
    · simp only [Nat.add_zero, Nat.sub_zero]
      cases hg : decide ((gn 9 0 0 (s.data.toList.drop a)).1 = 0) <;> rfl
/-- A text of at most so many bytes, from a place on. -/
def ptext (most : Nat) (s : ByteArray) (a : Nat) (e : Int) : ByteArray × Nat × Int :=
  bif !decide ((pnum s a e).2.2 = 0) then (⟨⟨[]⟩⟩, a, (pnum s a e).2.2) else bif decide (most < (pnum s a e).1) then (⟨⟨[]⟩⟩, a, 4)
  else bif decide (s.size - (pnum s a e).2.1 < (pnum s a e).1) then (⟨⟨[]⟩⟩, a, 2) else (s.extract (pnum s a e).2.1 ((pnum s a e).2.1 + (pnum s a e).1), (pnum s a e).2.1 + (pnum s a e).1, 0)
theorem ptext_le (most : Nat) (s : ByteArray) (a : Nat) (e : Int) (ha : a ≤ s.size) : (ptext most s a e).2.1 ≤ s.size ∧ (ptext most s a e).1.size ≤ s.size := by
  have := (pnum_le s a e ha).1
  unfold ptext
  cases h1 : (!decide ((pnum s a e).2.2 = 0)) with
  | true => exact ⟨ha, Nat.zero_le _⟩
  | false =>
    cases h2 : decide (most < (pnum s a e).1) with
    | true => exact ⟨ha, Nat.zero_le _⟩
    | false =>
      cases h3 : decide (s.size - (pnum s a e).2.1 < (pnum s a e).1) with
      | true => exact ⟨ha, Nat.zero_le _⟩
      | false =>
        have := of_decide_eq_false h3
        simp only [cond_false]
        exact ⟨by omega, by rw [ByteArray.size_extract]; omega⟩
theorem text_ev (most : Nat) (s : ByteArray) (a : Nat) (e : Int) (hs : s.size ≤ 1000000000000) (ha : a ≤ s.size) : pack_Reader_Text.f (most : Int) (s, (a : Int), e, ()) = some ((ptext most s a e).1, (s, ((ptext most s a e).2.1 : Int), (ptext most s a e).2.2, ()), ()) := by
  refine pack_Reader_Text.in _ _ ?_
  obtain ⟨h1, h2, h3⟩ := pnum_le s a e ha
  have hc : pack_Reader_count.f (most : Int) (s, (a : Int), e, ()) = some (bif decide ((pnum s a e).2.2 = 0) && decide (most < (pnum s a e).1) then ((((pnum s a e).1 : Int), false, ()), (s, (a : Int), 4, ()), ()) else ((((pnum s a e).1 : Int), decide ((pnum s a e).2.2 = 0), ()), (s, ((pnum s a e).2.1 : Int), (pnum s a e).2.2, ()), ())) := by
    refine pack_Reader_count.in _ _ ?_
    rw [pNum_ev s a e hs ha, Option.bind_some]
    simp only [jn_eq]
    have c : decide (((pnum s a e).1 : Int) > (most : Int)) = decide (most < (pnum s a e).1) := by rw [decide_eq_decide]; omega
    rw [c]
    cases hh : (decide ((pnum s a e).2.2 = 0) && decide (most < (pnum s a e).1)) with
    | true =>
      simp only [Bool.and_eq_true] at hh
      rw [if_pos rfl, back_ev, Option.bind_some]
      simp only [hh.1]
      rfl
    | false => rw [if_neg (by decide)]; rfl
  rw [hc, Option.bind_some]
  unfold ptext
  cases h4 : decide ((pnum s a e).2.2 = 0) with
  | false =>
    rw [h3 (of_decide_eq_false h4)]
    rfl
  | true =>
    cases h5 : decide (most < (pnum s a e).1) with
    | true => rfl
    | false =>
      simp only [Bool.and_false, cond_false, Bool.not_true, Bool.false_eq_true, if_false]
      rw [of_decide_eq_true h4, take_ev s _ _ 0 h1 hs (by omega), Option.bind_some]
      cases h6 : decide (s.size - (pnum s a e).2.1 < (pnum s a e).1) with
      | true => simp only [decide_true, Bool.not_true, cond_false, cond_true, Bool.not_false, if_true, back_ev, Option.bind_some]; rfl
      | false => rfl
theorem rtext_ev (most : Nat) (s : ByteArray) (a : Nat) (e : Int) (hs : s.size ≤ 1000000000000) (ha : a ≤ s.size) : quitclaimref05_GetText.f (s, (a : Int), e, ()) (most : Int) = some ((s, ((ptext most s a e).2.1 : Int), (ptext most s a e).2.2, ()), (ptext most s a e).1, ()) := by
  refine quitclaimref05_GetText.in _ _ ?_
  obtain ⟨h1, h2, h3⟩ := pnum_le s a e ha
  have he : (pnum s a e).2.2 = 0 → e = 0 := fun h => by
    unfold pnum at h
    cases h0 : decide (e = 0) with
    | true => exact of_decide_eq_true h0
    | false => rw [h0] at h; exact h
  have hc : quitclaimref05_count.f (s, (a : Int), e, ()) (most : Int) = some (bif decide ((pnum s a e).2.2 = 0) && decide (most < (pnum s a e).1) then ((s, (a : Int), 4, ()), 0, ()) else ((s, ((pnum s a e).2.1 : Int), (pnum s a e).2.2, ()), ((pnum s a e).1 : Int), ())) := by
    refine quitclaimref05_count.in _ _ ?_
    rw [rNum_ev s a e hs ha, Option.bind_some]
    have c : decide (((pnum s a e).1 : Int) > (most : Int)) = decide (most < (pnum s a e).1) := by rw [decide_eq_decide]; omega
    simp only [c]
    cases hh : (decide ((pnum s a e).2.2 = 0) && decide (most < (pnum s a e).1)) with
    | true =>
      simp only [Bool.and_eq_true] at hh
      rw [if_pos rfl, rfail_ev, decide_eq_true (he (of_decide_eq_true hh.1))]; rfl
    | false => rw [if_neg (by decide)]; rfl
  rw [hc, Option.bind_some]
  unfold ptext
  cases h4 : decide ((pnum s a e).2.2 = 0) with
  | false =>
    simp only [Bool.false_and, cond_false, h4]
    rfl
  | true =>
    cases h5 : decide (most < (pnum s a e).1) with
    | true => rfl
    | false =>
      simp only [Bool.and_false, cond_false, h4, Bool.not_true, Bool.false_eq_true, if_false]
      rw [of_decide_eq_true h4]
      rw [quitclaimref05_some.in (s, ((pnum s a e).2.1 : Int), 0, ()) (a : Int) ((pnum s a e).1 : Int) (r := bif decide (s.size - (pnum s a e).2.1 < (pnum s a e).1) then ((s, (a : Int), 2, ()), (⟨⟨[]⟩⟩ : ByteArray), ()) else ((s, (((pnum s a e).2.1 + (pnum s a e).1 : Nat) : Int), 0, ()), s.extract (pnum s a e).2.1 ((pnum s a e).2.1 + (pnum s a e).1), ())) ?_]
      · cases h6 : decide (s.size - (pnum s a e).2.1 < (pnum s a e).1) <;> rfl
      · simp only [decide_true, Bool.not_true, Bool.false_eq_true, if_false]
        have e1 : w64 ((s.size : Int) - ((pnum s a e).2.1 : Int)) = ((s.size - (pnum s a e).2.1 : Nat) : Int) := by rw [w_ (by omega) (by omega)]; omega
        rw [e1]
        by_cases h6 : s.size - (pnum s a e).2.1 < (pnum s a e).1
        · rw [decide_eq_true (show ((pnum s a e).1 : Int) > ((s.size - (pnum s a e).2.1 : Nat) : Int) by omega), if_pos rfl, decide_eq_true h6, rfail_ev]; rfl
        · rw [decide_eq_false (show ¬ ((pnum s a e).1 : Int) > ((s.size - (pnum s a e).2.1 : Nat) : Int) by omega), if_neg (by decide), decide_eq_false h6]
          have e2 : w64 (((pnum s a e).2.1 : Int) + ((pnum s a e).1 : Int)) = (((pnum s a e).2.1 + (pnum s a e).1 : Nat) : Int) := by rw [w_ (by omega) (by omega)]; rfl
          rw [e2, sub_ (by omega) (by omega)]; rfl
end Go.Proofs.YtmjkflppajienaaDoor.R.Pu
