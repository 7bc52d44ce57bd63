/- Plain laws of what the walks answer (texts joined: PPack PPk PLin POp PHap PStep); no condition but the typed premises. -/
import Derived.Test.YtmjkflppajienaaGreatDoorPMa
import Derived.Test.YtmjkflppajienaaGreatDoorF
import Derived.Test.YtmjkflppajienaaGreatDoorRRd
import Derived.Lib.ItoaNum
import Derived.Lib.AtoiAllCases
namespace Go.Proofs.YtmjkflppajienaaGreatDoor.R.Pu
open Go Go.RowKit
set_option linter.unusedVariables false
set_option linter.unusedSimpArgs false

abbrev Rdr : Type := ByteArray × Int × Int × Unit
/-! ### bits -/
theorem low7 : ∀ n : _root_.Fin 256, IntKind.u8.wrap (↑(BitVec.ofInt 8 (n.val : Int) &&& BitVec.ofInt 8 127).toNat : Int) = ((n.val % 128 : Nat) : Int) := by decide +kernel
theorem low7_ (b : UInt8) : IntKind.u8.wrap (↑(BitVec.ofInt 8 (b.toNat : Int) &&& BitVec.ofInt 8 127).toNat : Int) = ((b.toNat % 128 : Nat) : Int) := low7 ⟨b.toNat, b.toNat_lt⟩
theorem high8 : ∀ n : _root_.Fin 256, IntKind.u8.wrap (↑(BitVec.ofInt 8 (n.val : Int) ||| BitVec.ofInt 8 128).toNat : Int) = ((n.val % 128 + 128 : Nat) : Int) := by decide +kernel
theorem or64 {v y k : Nat} (hv : v < 2 ^ k) (h : v + y * 2 ^ k < 9223372036854775808) : w64 (↑(BitVec.ofInt 64 (v : Int) ||| BitVec.ofInt 64 ((y * 2 ^ k : Nat) : Int)).toNat : Int) = ((v + y * 2 ^ k : Nat) : Int) := by
  have e1 : ∀ n : Nat, n < 18446744073709551616 → (BitVec.ofInt 64 (n : Int)).toNat = n := fun n hn => by
    rw [BitVec.toNat_ofInt]
    have : ((n : Int) % ((2 ^ 64 : Nat) : Int)) = (n : Int) := Int.emod_eq_of_lt (by omega) (by omega)
    rw [this]; rfl
  rw [BitVec.toNat_or, e1 v (by omega), e1 (y * 2 ^ k) (by omega)]
  have e2 : v ||| y * 2 ^ k = v + y * 2 ^ k := by
    have := Nat.two_pow_add_eq_or_of_lt hv y
    rw [Nat.mul_comm] at this
    rw [Nat.or_comm, ← this, Nat.add_comm]
  rw [e2, w_ (by omega) (by omega)]

/-! ### reading -/
/-- A number as groups: what is wrong (or 0), the number, how many bytes. -/
def gn : Nat → Nat → Nat → List UInt8 → Nat × Nat × Nat
  | 0, _, _, _ => (3, 0, 0)
  | _ + 1, _, _, [] => (2, 0, 0)
  | f + 1, i, v, b :: l => bif decide (i = 8) && decide (64 < b.toNat) then (3, 0, 0)
    else bif decide (b.toNat < 128) then (bif (decide (0 < i) && decide (b.toNat = 0)) || decide (4611686018427387904 < v + b.toNat % 128 * 2 ^ (7 * i)) then (3, 0, 0) else (0, v + b.toNat % 128 * 2 ^ (7 * i), i + 1))
    else gn f (i + 1) (v + b.toNat % 128 * 2 ^ (7 * i)) l
theorem take_ev (s : ByteArray) (n a : Nat) (e : Int) (ha : a ≤ s.size) (hs : s.size ≤ 1000000000000) (hn : n ≤ 9000000000000000000) : pack_Reader_take.f (n : Int) (s, (a : Int), e, ()) =
    some (bif !decide (e = 0) then (((⟨⟨[]⟩⟩ : ByteArray), false, ()), (s, (a : Int), e, ()), ()) else bif decide (s.size - a < n) then (((⟨⟨[]⟩⟩ : ByteArray), false, ()), (s, (a : Int), 2, ()), ()) else ((s.extract a (a + n), true, ()), (s, ((a + n : Nat) : Int), e, ()), ())) := by
  refine pack_Reader_take.in _ _ ?_
  cases he : decide (e = 0) with
  | false => rfl
  | true =>
    rw [if_neg (by decide)]
    simp only []
    have e1 : w64 ((s.size : Int) - (a : Int)) = ((s.size - a : Nat) : Int) := by rw [w_ (by omega) (by omega)]; omega
    rw [e1]
    by_cases h : s.size - a < n
    · rw [decide_eq_true (show (n : Int) > ((s.size - a : Nat) : Int) by omega), if_pos rfl, decide_eq_true h]; rfl
    · rw [decide_eq_false (show ¬ (n : Int) > ((s.size - a : Nat) : Int) by omega), if_neg (by decide), decide_eq_false h]
      have e2 : w64 ((a : Int) + (n : Int)) = ((a + n : Nat) : Int) := by rw [w_ (by omega) (by omega)]; rfl
      have e3 : w64 (((a + n : Nat) : Int) - (n : Int)) = (a : Int) := by rw [w_ (by omega) (by omega)]; omega
      rw [e2, e3, sub_ (by omega) (by omega)]; rfl
theorem take1_ev (s : ByteArray) (a : Nat) (ha : a < s.data.toList.length) (hs : s.size ≤ 1000000000000) : pack_Reader_take.f 1 (s, (a : Int), 0, ()) = some ((s.extract a (a + 1), true, ()), (s, ((a + 1 : Nat) : Int), 0, ()), ()) := by
  have hl := len_text s
  rw [show (1 : Int) = ((1 : Nat) : Int) from rfl, take_ev s 1 a 0 (by omega) hs (by omega), decide_eq_false (show ¬ s.size - a < 1 by omega)]; rfl
theorem take1_end (s : ByteArray) (hs : s.size ≤ 1000000000000) : pack_Reader_take.f 1 (s, (s.size : Int), 0, ()) = some (((⟨⟨[]⟩⟩ : ByteArray), false, ()), (s, (s.size : Int), 2, ()), ()) := by
  rw [show (1 : Int) = ((1 : Nat) : Int) from rfl, take_ev s 1 s.size 0 (by omega) hs (by omega), decide_eq_true (show s.size - s.size < 1 by omega)]; rfl
theorem take_err (s : ByteArray) (n a : Nat) (e : Int) (he : e ≠ 0) (ha : a ≤ s.size) (hs : s.size ≤ 1000000000000) (hn : n ≤ 9000000000000000000) : pack_Reader_take.f (n : Int) (s, (a : Int), e, ()) = some (((⟨⟨[]⟩⟩ : ByteArray), false, ()), (s, (a : Int), e, ()), ()) := by
  rw [take_ev s n a e ha hs hn, decide_eq_false he]; rfl
theorem bx_one {s : ByteArray} {a : Nat} (h : a < s.data.toList.length) : bx (s.extract a (a + 1)) 0 = some ((s.data.toList[a]).toNat : Int) := by
  have e : (s.extract a (a + 1)).data.toList = [s.data.toList[a]] := by
    rw [cut_list, List.take_succ_eq_append_getElem h, List.drop_append_of_le_length (by rw [List.length_take]; omega), List.drop_eq_nil_of_le (by rw [List.length_take]; omega), List.nil_append]
  have := bx_ (s := s.extract a (a + 1)) (i := 0) (by rw [e]; simp)
  rw [show (0 : Int) = ((0 : Nat) : Int) from rfl, this]
  simp [e]
theorem back_ev (a e : Int) (s : ByteArray) (a' e' : Int) : pack_Reader_back.f a e (s, a', e', ()) = some ((), (s, a, (bif decide (e' = 0) then e else e'), ()), ()) := by
  refine pack_Reader_back.in _ _ _ ?_
  simp only [jn_eq]
  cases he : decide (e' = 0) with
  | true => rw [if_pos rfl]; rfl
  | false => rw [if_neg (by decide)]; rfl
theorem fail_ev (e : Int) (s : ByteArray) (a' e' : Int) : pack_Reader_Fail.f e (s, a', e', ()) = some ((), (s, a', (bif decide (e' = 0) then e else e'), ()), ()) := by
  refine pack_Reader_Fail.in _ _ ?_
  simp only []
  cases he : decide (e' = 0) with
  | true => rw [if_pos rfl]; rfl
  | false => rw [if_neg (by decide)]; rfl
/-- What a reader is after a number was read. -/
def nres (s : ByteArray) (a : Nat) (g : Nat × Nat × Nat) : Int × Rdr × Unit := bif decide (g.1 = 0) then ((g.2.1 : Int), (s, ((a + g.2.2 : Nat) : Int), 0, ()), ()) else (0, (s, (a : Int), (g.1 : Int), ()), ())
noncomputable def numF (r7 : ((Unit × Int × Int × Int × Unit) × Rdr × Unit × Unit) → Option (Int × Rdr × Unit)) (v8 : ((Unit × Int × Int × Int × Unit) × Rdr × Unit × Unit)) : Option (Int × Rdr × Unit) := (pack_Reader_take.f 1 v8.2.1).bind fun x9 => if !x9.1.2.1 then ((pack_Reader_back.f v8.1.2.1 x9.2.1.2.2.1 x9.2.1).bind fun x10 => some (0, x10.2)) else (bx x9.1.1 0).bind fun x11 => (shl IntKind.i64 (w64 (IntKind.u8.wrap (↑(BitVec.ofInt 8 x11 &&& BitVec.ofInt 8 127).toNat : Int))) (w64 (7 * v8.1.2.2.2.1))).bind fun x12 => (gd (decide (w64 (v8.1.2.2.2.1 + 1) = 9)) (bx x9.1.1 0)).bind fun x13 => if decide (w64 (v8.1.2.2.2.1 + 1) = 9) && decide (x13 > 64) then ((pack_Reader_Fail.f 3 x9.2.1).bind fun x14 => (pack_Reader_back.f v8.1.2.1 x14.2.1.2.2.1 x14.2.1).bind fun x15 => some (0, x15.2)) else (bx x9.1.1 0).bind fun x16 => if decide (x16 ≥ 128) then r7 (((), v8.1.2.1, w64 (↑(BitVec.ofInt 64 v8.1.2.2.1 ||| BitVec.ofInt 64 x12).toNat : Int), w64 (v8.1.2.2.2.1 + 1), ()), x9.2.1, (), ()) else (gd (decide (w64 (v8.1.2.2.2.1 + 1) > 1)) (bx x9.1.1 0)).bind fun x17 => if decide (w64 (v8.1.2.2.2.1 + 1) > 1) && decide (x17 = 0) || decide (w64 (↑(BitVec.ofInt 64 v8.1.2.2.1 ||| BitVec.ofInt 64 x12).toNat : Int) > 4611686018427387904) then ((pack_Reader_Fail.f 3 x9.2.1).bind fun x18 => (pack_Reader_back.f v8.1.2.1 x18.2.1.2.2.1 x18.2.1).bind fun x19 => some (0, x19.2)) else some (w64 (↑(BitVec.ofInt 64 v8.1.2.2.1 ||| BitVec.ofInt 64 x12).toNat : Int), x9.2)
theorem pow7 {i : Nat} (h : i ≤ 8) : 2 ^ (7 * i) ≤ 72057594037927936 := by
  have : 2 ^ (7 * i) ≤ 2 ^ 56 := Nat.pow_le_pow_right (by omega) (by omega)
  omega
theorem pow7s (i : Nat) : 2 ^ (7 * (i + 1)) = 128 * 2 ^ (7 * i) := by rw [Nat.mul_add, Nat.pow_add]; omega
theorem shl_ {y i : Nat} (hy : y < 128) (hi : i ≤ 8) : shl IntKind.i64 (w64 ((y : Nat) : Int)) (w64 (7 * (i : Int))) = some ((y * 2 ^ (7 * i) : Nat) : Int) := by
  have hp := pow7 hi
  have e1 : w64 (7 * (i : Int)) = ((7 * i : Nat) : Int) := by rw [w_ (by omega) (by omega)]; omega
  have e3 : y * 2 ^ (7 * i) ≤ 127 * 72057594037927936 := Nat.mul_le_mul (by omega) hp
  have e2 : ((y : Int) * 2 ^ (7 * i)) = ((y * 2 ^ (7 * i) : Nat) : Int) := by simp
  rw [e1, w_ (by omega) (by omega)]
  unfold shl
  rw [if_pos (by omega), Int.toNat_natCast]
  have e4 : min (7 * i) IntKind.i64.bits = 7 * i := by
    have : IntKind.i64.bits = 64 := rfl
    rw [this]; omega
  rw [e4, e2]
  exact congrArg some (w_ (by omega) (by omega))
theorem numF_ev (s : ByteArray) (a : Nat) (hs : s.size ≤ 1000000000000) (r : ((Unit × Int × Int × Int × Unit) × Rdr × Unit × Unit) → Option (Int × Rdr × Unit)) (i v : Nat) (hi : i ≤ 8) (hv : v < 2 ^ (7 * i)) (ha : a + i ≤ s.size)
    (hr : ∀ v' : Nat, v' < 2 ^ (7 * (i + 1)) → i + 1 ≤ 8 → a + (i + 1) ≤ s.size → r (((), (a : Int), (v' : Int), ((i + 1 : Nat) : Int), ()), (s, ((a + (i + 1) : Nat) : Int), 0, ()), (), ()) = some (nres s a (gn (8 - i) (i + 1) v' (s.data.toList.drop (a + (i + 1)))))) :
    numF r (((), (a : Int), (v : Int), (i : Int), ()), (s, ((a + i : Nat) : Int), 0, ()), (), ()) = some (nres s a (gn (9 - i) i v (s.data.toList.drop (a + i)))) := by
  have hl := len_text s
  unfold numF
  simp only []
  rw [show 9 - i = (8 - i) + 1 by omega]
  by_cases h : a + i < s.data.toList.length
  · rw [List.drop_eq_getElem_cons h, take1_ev s _ h hs, Option.bind_some]
    obtain ⟨b, hb⟩ : ∃ b, b = s.data.toList[a + i] := ⟨_, rfl⟩
    simp only [Bool.not_true, Bool.false_eq_true, if_false]
    rw [bx_one h, ← hb]
    have hp := pow7 hi
    have hy : b.toNat % 128 * 2 ^ (7 * i) ≤ 127 * 72057594037927936 := Nat.mul_le_mul (by omega) hp
    have hv2 : v + b.toNat % 128 * 2 ^ (7 * i) < 2 ^ (7 * (i + 1)) := by
      rw [pow7s]
      have : b.toNat % 128 * 2 ^ (7 * i) ≤ 127 * 2 ^ (7 * i) := Nat.mul_le_mul_right _ (by omega)
      omega
    simp only [Option.bind_some]
    rw [low7_, shl_ (by omega) hi, Option.bind_some, wS (by omega), or64 hv (by omega)]
    have hbt := b.toNat_lt
    unfold gn
    have c1 : decide (((i + 1 : Nat) : Int) = 9) = decide (i = 8) := by rw [decide_eq_decide]; omega
    have c2 : decide ((b.toNat : Int) > 64) = decide (64 < b.toNat) := by rw [decide_eq_decide]; omega
    rw [c1]
    have c3 : (gd (decide (i = 8)) (some (b.toNat : Int))).bind (fun x13 => if (decide (i = 8) && decide (x13 > 64)) = true then ((pack_Reader_Fail.f 3 (s, ((a + i + 1 : Nat) : Int), 0, ())).bind fun x14 => (pack_Reader_back.f (a : Int) x14.2.1.2.2.1 x14.2.1).bind fun x15 => some (0, x15.2)) else if decide ((b.toNat : Int) ≥ 128) = true then r (((), (a : Int), ((v + b.toNat % 128 * 2 ^ (7 * i) : Nat) : Int), ((i + 1 : Nat) : Int), ()), (s, ((a + i + 1 : Nat) : Int), 0, ()), (), ()) else (gd (decide (((i + 1 : Nat) : Int) > 1)) (some (b.toNat : Int))).bind fun x17 => if (decide (((i + 1 : Nat) : Int) > 1) && decide (x17 = 0) || decide (((v + b.toNat % 128 * 2 ^ (7 * i) : Nat) : Int) > 4611686018427387904)) = true then ((pack_Reader_Fail.f 3 (s, ((a + i + 1 : Nat) : Int), 0, ())).bind fun x18 => (pack_Reader_back.f (a : Int) x18.2.1.2.2.1 x18.2.1).bind fun x19 => some (0, x19.2)) else some (((v + b.toNat % 128 * 2 ^ (7 * i) : Nat) : Int), (s, ((a + i + 1 : Nat) : Int), 0, ()), ()))
      = some (nres s a (bif decide (i = 8) && decide (64 < b.toNat) then (3, 0, 0) else bif decide (b.toNat < 128) then (bif (decide (0 < i) && decide (b.toNat = 0)) || decide (4611686018427387904 < v + b.toNat % 128 * 2 ^ (7 * i)) then (3, 0, 0) else (0, v + b.toNat % 128 * 2 ^ (7 * i), i + 1)) else gn (8 - i) (i + 1) (v + b.toNat % 128 * 2 ^ (7 * i)) (s.data.toList.drop (a + i + 1)))) := by
      simp only [fail_ev, back_ev, Option.bind_some]
      have k1 : ∀ t : Bool, (gd t (some (b.toNat : Int))).bind (fun x13 => if (t && decide (x13 > 64)) = true then (some ((0 : Int), (s, (a : Int), (3 : Int), ()), ())) else if decide ((b.toNat : Int) ≥ 128) = true then r (((), (a : Int), ((v + b.toNat % 128 * 2 ^ (7 * i) : Nat) : Int), ((i + 1 : Nat) : Int), ()), (s, ((a + i + 1 : Nat) : Int), 0, ()), (), ()) else (gd (decide (((i + 1 : Nat) : Int) > 1)) (some (b.toNat : Int))).bind fun x17 => if (decide (((i + 1 : Nat) : Int) > 1) && decide (x17 = 0) || decide (((v + b.toNat % 128 * 2 ^ (7 * i) : Nat) : Int) > 4611686018427387904)) = true then (some ((0 : Int), (s, (a : Int), (3 : Int), ()), ())) else some (((v + b.toNat % 128 * 2 ^ (7 * i) : Nat) : Int), (s, ((a + i + 1 : Nat) : Int), 0, ()), ()))
        = bif t && decide (64 < b.toNat) then some ((0 : Int), (s, (a : Int), (3 : Int), ()), ()) else bif decide (128 ≤ b.toNat) then r (((), (a : Int), ((v + b.toNat % 128 * 2 ^ (7 * i) : Nat) : Int), ((i + 1 : Nat) : Int), ()), (s, ((a + i + 1 : Nat) : Int), 0, ()), (), ()) else bif (decide (0 < i) && decide (b.toNat = 0)) || decide (4611686018427387904 < v + b.toNat % 128 * 2 ^ (7 * i)) then some ((0 : Int), (s, (a : Int), (3 : Int), ()), ()) else some (((v + b.toNat % 128 * 2 ^ (7 * i) : Nat) : Int), (s, ((a + i + 1 : Nat) : Int), 0, ()), ()) := fun t => by
        have d1 : decide ((b.toNat : Int) ≥ 128) = decide (128 ≤ b.toNat) := by rw [decide_eq_decide]; omega
        have d2 : decide (((i + 1 : Nat) : Int) > 1) = decide (0 < i) := by rw [decide_eq_decide]; omega
        have d3 : decide (((v + b.toNat % 128 * 2 ^ (7 * i) : Nat) : Int) > 4611686018427387904) = decide (4611686018427387904 < v + b.toNat % 128 * 2 ^ (7 * i)) := by rw [decide_eq_decide]; omega
        have d4 : decide ((b.toNat : Int) = 0) = decide (b.toNat = 0) := by rw [decide_eq_decide]; omega
        rw [d1, d2, d3]
        have tail : ((gd (decide (0 < i)) (some (b.toNat : Int))).bind fun x17 => if (decide (0 < i) && decide (x17 = 0) || decide (4611686018427387904 < v + b.toNat % 128 * 2 ^ (7 * i))) = true then (some ((0 : Int), (s, (a : Int), (3 : Int), ()), ())) else some (((v + b.toNat % 128 * 2 ^ (7 * i) : Nat) : Int), (s, ((a + i + 1 : Nat) : Int), (0 : Int), ()), ())) = bif (decide (0 < i) && decide (b.toNat = 0)) || decide (4611686018427387904 < v + b.toNat % 128 * 2 ^ (7 * i)) then some ((0 : Int), (s, (a : Int), (3 : Int), ()), ()) else some (((v + b.toNat % 128 * 2 ^ (7 * i) : Nat) : Int), (s, ((a + i + 1 : Nat) : Int), 0, ()), ()) := by
          cases decide (0 < i) with
          | true =>
            rw [gdT, Option.bind_some, d4]
            cases decide (b.toNat = 0) <;> cases decide (4611686018427387904 < v + b.toNat % 128 * 2 ^ (7 * i)) <;> rfl
          | false =>
            cases decide (4611686018427387904 < v + b.toNat % 128 * 2 ^ (7 * i)) <;> rfl
        rw [tail]
        cases t with
        | true =>
          rw [gdT, Option.bind_some, c2]
          cases decide (64 < b.toNat) with
          | true => rfl
          | false => cases decide (128 ≤ b.toNat) <;> rfl
        | false => cases decide (128 ≤ b.toNat) <;> rfl
      refine (k1 (decide (i = 8))).trans ?_
      have d5 : decide (128 ≤ b.toNat) = !decide (b.toNat < 128) := by
        by_cases hh : b.toNat < 128
        · rw [decide_eq_true hh, decide_eq_false (by omega)]; rfl
        · rw [decide_eq_false hh, decide_eq_true (by omega)]; rfl
      rw [d5]
      cases t8 : (decide (i = 8) && decide (64 < b.toNat)) with
      | true => rfl
      | false =>
        cases tb : decide (b.toNat < 128) with
        | true =>
          cases (decide (0 < i) && decide (b.toNat = 0) || decide (4611686018427387904 < v + b.toNat % 128 * 2 ^ (7 * i))) <;> rfl
        | false =>
          have hb' := of_decide_eq_false tb
          have hi8 : i + 1 ≤ 8 := by
            by_cases h8 : i = 8
            · rw [decide_eq_true h8, Bool.true_and] at t8
              have := of_decide_eq_false t8
              omega
            · omega
          exact hr _ hv2 hi8 (by omega)
    exact c3
  · have e : a + i = s.size := by omega
    rw [e, take1_end s hs, Option.bind_some, List.drop_eq_nil_of_le (by omega)]
    simp only [Bool.not_false, if_true, back_ev, Option.bind_some]
    rfl
theorem num_ev (s : ByteArray) (a : Nat) (hs : s.size ≤ 1000000000000) (ha : a ≤ s.size) : pack_Reader_Num.f (s, (a : Int), 0, ()) = some (nres s a (gn 9 0 0 (s.data.toList.drop a))) := by
  refine pack_Reader_Num.in _ ?_
  have key : ∀ (i v : Nat), i ≤ 8 → v < 2 ^ (7 * i) → a + i ≤ s.size → wh numF (((), (a : Int), (v : Int), (i : Int), ()), (s, ((a + i : Nat) : Int), 0, ()), (), ()) = some (nres s a (gn (9 - i) i v (s.data.toList.drop (a + i)))) := fun i v h1 h2 h3 =>
    wh_ind (F := numF) (fun (p : Nat × Nat) => (((), (a : Int), (p.2 : Int), (p.1 : Int), ()), (s, ((a + p.1 : Nat) : Int), 0, ()), (), ())) (fun p => p.1 ≤ 8 ∧ p.2 < 2 ^ (7 * p.1) ∧ a + p.1 ≤ s.size) (fun p => 9 - p.1) (fun p => nres s a (gn (9 - p.1) p.1 p.2 (s.data.toList.drop (a + p.1))))
      (fun p hp r hr => numF_ev s a hs r p.1 p.2 hp.1 hp.2.1 hp.2.2 fun v' g1 g2 g3 => by
        have := hr (p.1 + 1, v') ⟨g2, g1, g3⟩ (by have := hp.1; simp only; omega)
        rw [show 9 - (p.1 + 1) = 8 - p.1 by omega] at this
        exact this) (i, v) ⟨h1, h2, h3⟩
  refine Eq.trans (b := numF (wh numF) (((), (a : Int), 0, 0, ()), (s, (a : Int), 0, ()), (), ())) (by kernel_rfl) ?_
  have := numF_ev s a hs (wh numF) 0 0 (by omega) (by simp) (by omega) fun v' g1 g2 g3 => key 1 v' g2 g1 g3
  exact this
theorem num_err (s : ByteArray) (a : Nat) (e : Int) (he : e ≠ 0) (hs : s.size ≤ 1000000000000) (ha : a ≤ s.size) : pack_Reader_Num.f (s, (a : Int), e, ()) = some (0, (s, (a : Int), e, ()), ()) := by
  refine pack_Reader_Num.in _ ?_
  rw [show (1 : Int) = ((1 : Nat) : Int) from rfl, take_err s 1 a e he ha hs (by omega), Option.bind_some]
  simp only [Bool.not_false, if_true, back_ev, Option.bind_some, decide_eq_false he]
  rfl

theorem gn_le : ∀ (f i v : Nat) (l : List UInt8) (w n : Nat), gn f i v l = (0, w, n) → n ≤ i + l.length ∧ w ≤ 4611686018427387904
  | 0, i, v, l, w, n, h => by cases h
  | f + 1, i, v, [], w, n, h => by cases h
  | f + 1, i, v, b :: l, w, n, h => by
    unfold gn at h
    cases h1 : (decide (i = 8) && decide (64 < b.toNat)) with
    | true => rw [h1] at h; cases h
    | false =>
      rw [h1] at h
      simp only [cond_false] at h
      cases h2 : decide (b.toNat < 128) with
      | true =>
        rw [h2] at h
        simp only [cond_true] at h
        cases h3 : (decide (0 < i) && decide (b.toNat = 0) || decide (4611686018427387904 < v + b.toNat % 128 * 2 ^ (7 * i))) with
        | true => rw [h3] at h; cases h
        | false =>
          rw [h3] at h
          simp only [cond_false, Prod.mk.injEq, true_and] at h
          simp only [Bool.or_eq_false_iff, decide_eq_false_iff_not] at h3
          rw [List.length_cons]
          omega
      | false =>
        rw [h2] at h
        simp only [cond_false] at h
        have := gn_le f (i + 1) _ l w n h
        rw [List.length_cons]
        omega
/-- A number, from a place on. -/
def pnum (s : ByteArray) (a : Nat) (e : Int) : Nat × Nat × Int := bif decide (e = 0) then (bif decide ((gn 9 0 0 (s.data.toList.drop a)).1 = 0) then ((gn 9 0 0 (s.data.toList.drop a)).2.1, a + (gn 9 0 0 (s.data.toList.drop a)).2.2, 0) else (0, a, ((gn 9 0 0 (s.data.toList.drop a)).1 : Int))) else (0, a, e)
theorem pnum_le (s : ByteArray) (a : Nat) (e : Int) (ha : a ≤ s.size) : (pnum s a e).2.1 ≤ s.size ∧ (pnum s a e).1 ≤ 4611686018427387904 ∧ ((pnum s a e).2.2 ≠ 0 → (pnum s a e).2.1 = a) := by
  have hl := len_text s
  unfold pnum
  cases h : decide (e = 0) with
  | false => exact ⟨ha, by simp, fun _ => rfl⟩
  | true =>
    simp only [cond_true]
    cases hg : decide ((gn 9 0 0 (s.data.toList.drop a)).1 = 0) with
    | false => exact ⟨ha, by simp, fun _ => rfl⟩
    | true =>
      have h1 := of_decide_eq_true hg
      have := gn_le 9 0 0 (s.data.toList.drop a) _ _ (show gn 9 0 0 (s.data.toList.drop a) = (0, (gn 9 0 0 (s.data.toList.drop a)).2.1, (gn 9 0 0 (s.data.toList.drop a)).2.2) from Prod.ext h1 rfl)
      rw [List.length_drop] at this
      simp only [cond_true]
      exact ⟨by omega, this.2, fun h => absurd rfl h⟩
theorem pNum_ev (s : ByteArray) (a : Nat) (e : Int) (hs : s.size ≤ 1000000000000) (ha : a ≤ s.size) : pack_Reader_Num.f (s, (a : Int), e, ()) = some (((pnum s a e).1 : Int), (s, ((pnum s a e).2.1 : Int), (pnum s a e).2.2, ()), ()) := by
  unfold pnum
  cases h : decide (e = 0) with
  | false => rw [num_err s a e (of_decide_eq_false h) hs ha]; rfl
  | true =>
    obtain rfl := of_decide_eq_true h
    rw [num_ev s a hs ha]
    unfold nres
    cases hg : decide ((gn 9 0 0 (s.data.toList.drop a)).1 = 0) <;> rfl
/-- A text of at most so many bytes, from a place on. -/
def ptext (most : Nat) (s : ByteArray) (a : Nat) (e : Int) : ByteArray × Nat × Int :=
  bif !decide ((pnum s a e).2.2 = 0) then (⟨⟨[]⟩⟩, a, (pnum s a e).2.2) else bif decide (most < (pnum s a e).1) then (⟨⟨[]⟩⟩, a, 4)
  else bif decide (s.size - (pnum s a e).2.1 < (pnum s a e).1) then (⟨⟨[]⟩⟩, a, 2) else (s.extract (pnum s a e).2.1 ((pnum s a e).2.1 + (pnum s a e).1), (pnum s a e).2.1 + (pnum s a e).1, 0)
theorem ptext_le (most : Nat) (s : ByteArray) (a : Nat) (e : Int) (ha : a ≤ s.size) : (ptext most s a e).2.1 ≤ s.size ∧ (ptext most s a e).1.size ≤ s.size := by
  have := (pnum_le s a e ha).1
  unfold ptext
  cases h1 : (!decide ((pnum s a e).2.2 = 0)) with
  | true => exact ⟨ha, Nat.zero_le _⟩
  | false =>
    cases h2 : decide (most < (pnum s a e).1) with
    | true => exact ⟨ha, Nat.zero_le _⟩
    | false =>
      cases h3 : decide (s.size - (pnum s a e).2.1 < (pnum s a e).1) with
      | true => exact ⟨ha, Nat.zero_le _⟩
      | false =>
        have := of_decide_eq_false h3
        simp only [cond_false]
        exact ⟨by omega, by rw [ByteArray.size_extract]; omega⟩
theorem text_ev (most : Nat) (s : ByteArray) (a : Nat) (e : Int) (hs : s.size ≤ 1000000000000) (ha : a ≤ s.size) : pack_Reader_Text.f (most : Int) (s, (a : Int), e, ()) = some ((ptext most s a e).1, (s, ((ptext most s a e).2.1 : Int), (ptext most s a e).2.2, ()), ()) := by
  refine pack_Reader_Text.in _ _ ?_
  obtain ⟨h1, h2, h3⟩ := pnum_le s a e ha
  have hc : pack_Reader_count.f (most : Int) (s, (a : Int), e, ()) = some (bif decide ((pnum s a e).2.2 = 0) && decide (most < (pnum s a e).1) then ((((pnum s a e).1 : Int), false, ()), (s, (a : Int), 4, ()), ()) else ((((pnum s a e).1 : Int), decide ((pnum s a e).2.2 = 0), ()), (s, ((pnum s a e).2.1 : Int), (pnum s a e).2.2, ()), ())) := by
    refine pack_Reader_count.in _ _ ?_
    rw [pNum_ev s a e hs ha, Option.bind_some]
    simp only [jn_eq]
    have c : decide (((pnum s a e).1 : Int) > (most : Int)) = decide (most < (pnum s a e).1) := by rw [decide_eq_decide]; omega
    rw [c]
    cases hh : (decide ((pnum s a e).2.2 = 0) && decide (most < (pnum s a e).1)) with
    | true =>
      simp only [Bool.and_eq_true] at hh
      rw [if_pos rfl, back_ev, Option.bind_some]
      simp only [hh.1]
      rfl
    | false => rw [if_neg (by decide)]; rfl
  rw [hc, Option.bind_some]
  unfold ptext
  cases h4 : decide ((pnum s a e).2.2 = 0) with
  | false =>
    rw [h3 (of_decide_eq_false h4)]
    rfl
  | true =>
    cases h5 : decide (most < (pnum s a e).1) with
    | true => rfl
    | false =>
      simp only [Bool.and_false, cond_false, Bool.not_true, Bool.false_eq_true, if_false]
      rw [of_decide_eq_true h4, take_ev s _ _ 0 h1 hs (by omega), Option.bind_some]
      cases h6 : decide (s.size - (pnum s a e).2.1 < (pnum s a e).1) with
      | true => simp only [decide_true, Bool.not_true, cond_false, cond_true, Bool.not_false, if_true, back_ev, Option.bind_some]; rfl
      | false => rfl
end Go.Proofs.YtmjkflppajienaaGreatDoor.R.Pu
namespace Go.Proofs.YtmjkflppajienaaGreatDoor.R.Pu
open Go Go.RowKit
set_option linter.unusedVariables false
set_option linter.unusedSimpArgs false

/-! ### writing -/
/-- Bytes as numbers. -/
def ib (l : List UInt8) : List Int := l.map fun b => ((b.toNat : Nat) : Int)
theorem strb_ib (s : ByteArray) : strb s = ib s.data.toList := rfl
theorem bstr_ib (l : List UInt8) : bstr (ib l) = bmk l := by
  unfold bstr ib bmk
  simp [Function.comp_def]
theorem ib_app (a b : List UInt8) : ib (a ++ b) = ib a ++ ib b := List.map_append
/-- A number as bytes. -/
def enc (n : Nat) : List UInt8 := if h : n < 128 then [UInt8.ofNat n] else UInt8.ofNat (n % 128 + 128) :: enc (n / 128)
termination_by n
theorem enc_len (n : Nat) (h : n ≤ 4611686018427387904) : (enc n).length ≤ 10 := by
  have key : ∀ k n, n < 128 ^ k → 0 < k → (enc n).length ≤ k := by
    intro k
    induction k with
    | zero => intro n _ h; omega
    | succ k ih =>
      intro n hn _
      rw [enc]
      split
      · simp
      · rename_i h128
        have hk : 0 < k := by
          rcases Nat.eq_zero_or_pos k with rfl | h
          · simp at hn; omega
          · exact h
        have : n / 128 < 128 ^ k := by rw [Nat.pow_succ] at hn; omega
        have := ih (n / 128) this hk
        rw [List.length_cons]; omega
  exact key 10 n (by have : (128 : Nat) ^ 10 = 1180591620717411303424 := by decide
                     omega) (by omega)
theorem wbyte_ev (x : Int) (w : List Int) (h : w.length ≤ 100000000000) : pack_Writer_Byte.f x (w, ()) = some ((), (w ++ [x], ()), (), ()) := by
  refine pack_Writer_Byte.in _ _ ?_
  rw [app_ (by simp; omega)]; rfl
theorem shr7 (m : Nat) : shr IntKind.i64 (m : Int) 7 = some ((m / 128 : Nat) : Int) := by
  unfold shr
  rw [if_pos (by decide)]
  have e3 : (2 : Int) ^ (min (7 : Int).toNat IntKind.i64.bits) = 128 := by decide
  rw [e3, Int.fdiv_eq_ediv_of_nonneg _ (by decide)]
  rfl
theorem wnum_ev (n : Nat) (hn : n ≤ 4611686018427387904) (w : List Int) (hw : w.length ≤ 10000000000) : pack_Writer_Num.f (n : Int) (w, ()) = some (true, (w ++ ib (enc n), ()), (), ()) := by
  have hel := enc_len n hn
  refine pack_Writer_Num.in _ _ ?_
  rw [decide_eq_false (show ¬ (n : Int) < 0 by omega), decide_eq_false (show ¬ (n : Int) > 4611686018427387904 by omega), if_neg (by decide)]
  refine wh_ind (fun (p : Nat × List Int) => (((), (p.1 : Int), ()), (p.2, ()), (), (), ())) (fun p => p.2.length + (enc p.1).length = w.length + (enc n).length) (fun p => p.1) (fun p => (true, (p.2 ++ ib (enc p.1), ()), (), ())) ?_ (n, w) rfl
  rintro ⟨m, y⟩ h1 r hr
  simp only at h1 hr
  simp only []
  have e8 : IntKind.u8.wrap (m : Int) = ((m % 256 : Nat) : Int) := by rw [w8mod]; rfl
  by_cases hm : m < 128
  · rw [decide_eq_false (show ¬ (m : Int) ≥ 128 by omega), if_neg (by decide), e8, wbyte_ev _ _ (by omega), Option.bind_some, enc, dif_pos hm]
    have : ((m % 256 : Nat) : Int) = ((UInt8.ofNat m).toNat : Int) := by simp
    rw [this]; rfl
  · have ee : enc m = UInt8.ofNat (m % 128 + 128) :: enc (m / 128) := by rw [enc, dif_neg hm]
    rw [ee, List.length_cons] at h1
    have eh : IntKind.u8.wrap (↑(BitVec.ofInt 8 ((m % 256 : Nat) : Int) ||| BitVec.ofInt 8 128).toNat : Int) = ((UInt8.ofNat (m % 128 + 128)).toNat : Int) := by
      have := high8 ⟨m % 256, Nat.mod_lt _ (by decide)⟩
      simp only at this
      rw [this]
      have e1 : m % 256 % 128 + 128 = m % 128 + 128 := by omega
      have e2 : (UInt8.ofNat (m % 128 + 128)).toNat = m % 128 + 128 := by simp; omega
      rw [e1, e2]
    rw [decide_eq_true (show (m : Int) ≥ 128 by omega), if_pos rfl, e8, eh, wbyte_ev _ _ (by omega), Option.bind_some, shr7, Option.bind_some, ee]
    have := hr (m / 128, y ++ [((UInt8.ofNat (m % 128 + 128)).toNat : Int)]) (by simp only [List.length_append, List.length_singleton]; omega) (by simp only; omega)
    refine this.trans ?_
    simp [ib]
theorem wtext_ev (s : ByteArray) (w : List Int) (hs : s.size ≤ 1000000000) (hw : w.length ≤ 10000000000) : pack_Writer_Text.f s (w, ()) = some ((), (w ++ ib (enc s.size ++ s.data.toList), ()), (), ()) := by
  have hl := len_text s
  have hel := enc_len s.size (by omega)
  refine pack_Writer_Text.in _ _ ?_
  rw [wnum_ev s.size (by omega) w hw, Option.bind_some, app_ (by simp [ib, strb]; omega), Option.bind_some, strb_ib, ib_app, List.append_assoc]
def pkf (f : File) : List UInt8 := enc f.1.size ++ f.1.data.toList ++ (enc (htext f.2.1).length ++ htext f.2.1)
def pk (l : List File) : List UInt8 := [81, 65, 49] ++ (enc l.length ++ l.flatMap pkf)
theorem pack_ev (l : List File) (hl : l.length ≤ 800) (hf : ∀ f ∈ l, f.1.size ≤ 1000 ∧ (htext f.2.1).length ≤ 1000000 ∧ f.2.1.length ≤ 1000000 ∧ ∀ s ∈ f.2.1, s.size ≤ 1000000) : archive_Pack.f (l, ()) = some (bmk (pk l)) := by
  refine archive_Pack.in _ ?_
  refine (wh_list ([81, 65, 49] : List UInt8) (fun i (w : List Int) => (((), (), i, ()), (l, ()), (), (w, ()), ())) (fun i w => w.length = i) (fun x w => bmk ((w.map fun n => UInt8.ofNat n.toNat) ++ (x ++ (enc l.length ++ l.flatMap pkf)))) (fun w r hI => ?_) (fun i w r h hI hr => ?_) [] rfl).trans ?_
  · show (if decide (((3 : Nat) : Int) < 3) = true then _ else _) = _
    have h3 : w.length = 3 := hI
    have hel := enc_len l.length (by omega)
    rw [if_neg (by decide), files_ev l (by omega) (fun f hf' => by have := (hf f hf').2.2.1; omega), Option.bind_some, wnum_ev l.length (by omega) w (by omega), Option.bind_some]
    refine (wh_list l (fun i (y : List Int) => (((), l, (l.length : Int), i, ()), (l, ()), (), (y, ()), ())) (fun i y => y.length ≤ 100 + i * 1002000) (fun x y => bmk ((y.map fun n => UInt8.ofNat n.toNat) ++ x.flatMap pkf)) (fun y r hI => ?_) (fun i y r h hI hr => ?_) (w ++ ib (enc l.length)) (by simp [ib]; omega)).trans ?_
    · simp (disch := omega) only [decide_eq_true_eq, if_neg]
      rw [pack_Writer_String.in (y, ()) (r := (bstr y, (y, ()), (), ())) rfl]
      simp [bstr, bmk]
    · obtain ⟨z1, z2, z3, z4⟩ := hf _ (List.getElem_mem h)
      have e1 := enc_len l[i].1.size (by omega)
      have e2 := enc_len (htext l[i].2.1).length (by omega)
      have ltx := len_text l[i].1
      simp (disch := omega) only [decide_eq_true_eq, if_pos, ix_, Option.bind_some, wS]
      rw [wtext_ev _ _ (by omega) (by omega), Option.bind_some, hunk_Text_ev _ z3 z4, Option.bind_some, wtext_ev _ _ (by rw [size_bmk]; omega) (by simp [ib]; omega), Option.bind_some, size_bmk, list_bmk]
      refine (hr (y ++ ib (enc l[i].1.size ++ l[i].1.data.toList) ++ ib (enc (htext l[i].2.1).length ++ htext l[i].2.1)) (by simp [ib]; omega)).trans ?_
      rw [show (l[i] :: l.drop (i + 1)).flatMap pkf = pkf l[i] ++ (l.drop (i + 1)).flatMap pkf from rfl]
      congr 2
      have ibb : ∀ x : List UInt8, (ib x).map (fun n => UInt8.ofNat n.toNat) = x := fun x => by unfold ib; simp [Function.comp_def]
      rw [List.map_append, List.map_append, ibb, ibb, pkf, List.append_assoc, List.append_assoc]
      simp
    · have ibb : ∀ x : List UInt8, (ib x).map (fun n => UInt8.ofNat n.toNat) = x := fun x => by unfold ib; simp [Function.comp_def]
      rw [List.map_append, ibb]
      simp
  · have h3 : i < 3 := h
    rw [show ([81, 65, 49] : List UInt8).length = 3 from rfl] at h
    have hb := bx_ (s := (⟨⟨[81, 65, 49]⟩⟩ : ByteArray)) (i := i) h
    simp only []
    rw [decide_eq_true (show (i : Int) < 3 by omega), if_pos rfl, hb, Option.bind_some, wbyte_ev _ _ (by omega), Option.bind_some, wS (by omega)]
    refine (hr _ (by simp; omega)).trans ?_
    congr 2
    simp
  · simp [pk]

theorem awake_ev : quitclaimlaw39_awake.f = some true := by
  refine quitclaimlaw39_awake.in ?_
  rw [pack_ev [] (by simp) (fun f hf => by cases hf), Option.bind_some]
  have : bmk (pk []) = ({ data := { toList := [81, 65, 49, 0] } } : ByteArray) := by
    refine text_ext ?_
    rw [list_bmk]
    show [81, 65, 49] ++ (enc 0 ++ []) = _
    rw [enc]; rfl
  rw [this]
  simp
end Go.Proofs.YtmjkflppajienaaGreatDoor.R.Pu
namespace Go.Proofs.YtmjkflppajienaaGreatDoor.R.Pu
open Go Go.RowKit
set_option linter.unusedVariables false
set_option linter.unusedSimpArgs false

/-! ### numbers as texts -/
theorem dig1 : ∀ d : _root_.Fin 10, (⟨⟨[48, 49, 50, 51, 52, 53, 54, 55, 56, 57]⟩⟩ : ByteArray).extract d.val (d.val + 1) = bmk [UInt8.ofNat (48 + d.val)] := by decide +kernel
theorem dd_len : ∀ n : Nat, (Lib.decDigits n).length ≤ n + 1 := by
  intro n
  induction n using Nat.strongRecOn with
  | _ n ih =>
    rw [Lib.decDigits]
    split
    · simp
    · have := ih (n / 10) (by omega)
      rw [List.length_append, List.length_singleton]; omega
theorem bmk_app (a b : List UInt8) : bmk a ++ bmk b = bmk (a ++ b) := text_ext (by rw [app_list, list_bmk, list_bmk, list_bmk])
theorem digits_ev : ∀ n : Nat, n ≤ 1000000000 → quitclaimref35_Digits.f (n : Int) = some (bmk (Lib.decDigits n)) := by
  intro n
  induction n using Nat.strongRecOn with
  | _ n ih =>
    intro h
    refine quitclaimref35_Digits.in _ ?_
    rw [Lib.decDigits]
    have z10 : (⟨⟨[48, 49, 50, 51, 52, 53, 54, 55, 56, 57]⟩⟩ : ByteArray).size = 10 := rfl
    by_cases h10 : n < 10
    · rw [decide_eq_true (show (n : Int) < 10 by omega), if_pos rfl, dif_pos h10, wS (by omega), sub_ (by omega) (by rw [z10]; omega), Option.bind_some, dig1 ⟨n, h10⟩]
    · rw [decide_eq_false (show ¬ (n : Int) < 10 by omega), if_neg (by decide), dif_neg h10]
      have e1 : Int.tdiv (n : Int) 10 = ((n / 10 : Nat) : Int) := rfl
      have e2 : Int.tmod (n : Int) 10 = ((n % 10 : Nat) : Int) := rfl
      have := dd_len (n / 10)
      rw [e1, e2, w_ (by omega) (by omega), ih (n / 10) (by omega) (by omega), Option.bind_some, wS (by omega), sub_ (by omega) (by rw [z10]; omega), Option.bind_some, dig1 ⟨n % 10, Nat.mod_lt _ (by decide)⟩, cat_ (by rw [size_bmk, size_bmk, List.length_singleton]; omega), Option.bind_some, bmk_app]
theorem itoa_ev (n : Nat) (h : n ≤ 1000000000) : strconv_Itoa.f (n : Int) = some (bmk (Lib.decDigits n)) := by
  refine strconv_Itoa.in _ ?_
  unfold strconv_Itoa.g
  rw [if_pos (by omega)]
  unfold Lib.itoa
  rw [if_neg (by omega), Int.toNat_natCast]
  rfl

/-! ### lines -/
def hdl (f : File) : ByteArray := bmk ([61, 61, 32] ++ f.1.data.toList ++ [32] ++ Lib.decDigits f.2.1.length)
def lns (l : List File) : List ByteArray := l.flatMap fun f => hdl f :: f.2.1
theorem hd_eq (f : File) : (⟨⟨[61, 61, 32]⟩⟩ : ByteArray) ++ f.1 ++ ⟨⟨[32]⟩⟩ ++ bmk (Lib.decDigits f.2.1.length) = hdl f := text_ext (by
  unfold hdl
  rw [app_list, app_list, app_list, list_bmk, list_bmk])
theorem lines_ev (l : List File) (T : Tr l) (hl : l.length ≤ 800) : archive_Lines.f (l, ()) = some (lns l) := by
  have hL := fun f hf => linesOk_len (T.lines f hf)
  refine archive_Lines.in _ ?_
  rw [files_ev l (by omega) (fun f hf => by have := (hL f hf).1; omega), Option.bind_some]
  refine (wh_list l (fun i (x : List ByteArray) => ((x, l, (l.length : Int), i, ()), (l, ()), (), ())) (fun i x => x.length ≤ i * 1001) (fun y x => x ++ lns y) (fun x r hI => ?_) (fun i x r h hI hr => ?_) [] (by simp)).trans ?_
  · simp (disch := omega) only [decide_eq_true_eq, if_neg]
    rw [show lns [] = [] from rfl, List.append_nil]
  · obtain ⟨z1, z2⟩ := hL _ (List.getElem_mem h)
    have z3 := right_size (T.good _ (List.getElem_mem h))
    have z4 := dd_len l[i].2.1.length
    have s1 : (⟨⟨[61, 61, 32]⟩⟩ : ByteArray).size = 3 := rfl
    have s2 : (⟨⟨[32]⟩⟩ : ByteArray).size = 1 := rfl
    simp (disch := omega) only [decide_eq_true_eq, if_pos, ix_, Option.bind_some, wS]
    rw [cat_ (by rw [s1]; omega), Option.bind_some, cat_ (by rw [size_app, s1, s2]; omega), Option.bind_some, itoa_ev _ (by omega), Option.bind_some, cat_ (by rw [size_app, size_app, s1, s2, size_bmk]; omega), Option.bind_some, hd_eq, app_ (by simp; omega), Option.bind_some, app_ (by simp; omega), Option.bind_some]
    refine (hr _ (by simp; omega)).trans ?_
    rw [show lns (l[i] :: l.drop (i + 1)) = (hdl l[i] :: l[i].2.1) ++ lns (l.drop (i + 1)) from rfl]
    simp
  · simp
theorem rlin_ev (l : List File) (T : Tr l) (hl : l.length ≤ 800) : quitclaimref39_Lines.f l = some (lns l) := by
  have hL := fun f hf => linesOk_len (T.lines f hf)
  refine quitclaimref39_Lines.in _ ?_
  refine (wh_list l (fun i (x : List ByteArray) => ((l, x, i, ()), (), ())) (fun i x => x.length ≤ i * 1001) (fun y x => x ++ lns y) (fun x r hI => ?_) (fun i x r h hI hr => ?_) [] (by simp)).trans ?_
  · simp (disch := omega) only [decide_eq_true_eq, if_neg]
    rw [show lns [] = [] from rfl, List.append_nil]
  · obtain ⟨z1, z2⟩ := hL _ (List.getElem_mem h)
    have z3 := right_size (T.good _ (List.getElem_mem h))
    have z4 := dd_len l[i].2.1.length
    have s1 : (⟨⟨[61, 61, 32]⟩⟩ : ByteArray).size = 3 := rfl
    have s2 : (⟨⟨[32]⟩⟩ : ByteArray).size = 1 := rfl
    simp (disch := omega) only [decide_eq_true_eq, if_pos, ix_, Option.bind_some, wS]
    rw [cat_ (by rw [s1]; omega), Option.bind_some, cat_ (by rw [size_app, s1, s2]; omega), Option.bind_some, digits_ev _ (by omega), Option.bind_some, cat_ (by rw [size_app, size_app, s1, s2, size_bmk]; omega), Option.bind_some, hd_eq, app_ (by simp; omega), Option.bind_some, app_ (by simp; omega), Option.bind_some]
    refine (hr _ (by simp; omega)).trans ?_
    rw [show lns (l[i] :: l.drop (i + 1)) = (hdl l[i] :: l[i].2.1) ++ lns (l.drop (i + 1)) from rfl]
    simp
  · simp
end Go.Proofs.YtmjkflppajienaaGreatDoor.R.Pu
namespace Go.Proofs.YtmjkflppajienaaGreatDoor.R.Pu
open Go Go.RowKit
set_option linter.unusedVariables false
set_option linter.unusedSimpArgs false
set_option maxRecDepth 100000

abbrev Op : Type := Int × ByteArray × ByteArray × Int × List ByteArray × List ByteArray × Vec Int 32 × Int × Unit
abbrev Hk : Type := Int × List ByteArray × List ByteArray × Unit
def zk : Vec Int 32 := (0, 0, 0, 0, 0, 0, 0, 0, 0, 0, 0, 0, 0, 0, 0, 0, 0, 0, 0, 0, 0, 0, 0, 0, 0, 0, 0, 0, 0, 0, 0, 0, ())
noncomputable def teqK (a b : Vec Int 32) : Bool := teq (Ty.ar 32 (Ty.i IntKind.u8)) a b
def hk (o : Op) : Hk := (o.2.2.2.1, o.2.2.2.2.1, o.2.2.2.2.2.1, ())
def e0 : ByteArray := { data := { toList := [] } }
def hright (h : Hk) : Bool := decide (h.1 ≥ 0) && decide (h.1 ≤ 1000) && linesOk h.2.1 && linesOk h.2.2.1 && (decide (0 < h.2.1.length) || decide (0 < h.2.2.1.length))
def pf (s : ByteArray) : Bool := decide (s = e0) || right s
def nT (o : Op) : Bool := decide (o.2.2.1 = e0)
def nA (o : Op) : Bool := decide (o.2.2.2.1 = 0)
def nO (o : Op) : Bool := decide (o.2.2.2.2.1 = [])
def nN (o : Op) : Bool := decide (o.2.2.2.2.2.1 = [])
noncomputable def nK (o : Op) : Bool := teqK o.2.2.2.2.2.2.1 zk
def nD (o : Op) : Bool := decide (o.2.2.2.2.2.2.2.1 = 0)
/-- Is it formed, by its kind? -/
noncomputable def fm (o : Op) : Bool :=
  bif decide (o.1 = 1) then right o.2.1 && (nT o && (nA o && (nO o && (nN o && (nK o && nD o)))))
  else bif decide (o.1 = 2) then (right o.2.1 && linesOk o.2.2.2.2.1) && (nT o && (nA o && (nN o && (nK o && nD o))))
  else bif decide (o.1 = 3) then (right o.2.1 && hright (hk o)) && (nT o && (nK o && nD o))
  else bif decide (o.1 = 4) then ((right o.2.1 && right o.2.2.1) && !decide (o.2.1 = o.2.2.1)) && (nA o && (nO o && (nN o && (nK o && nD o))))
  else bif decide (o.1 = 5) then pf o.2.1 && (nT o && (nA o && (nO o && nN o)))
  else pf o.2.1 && (nT o && (nA o && (nO o && (nN o && nD o))))
/-- What is wrong with it. -/
noncomputable def wrg (o : Op) : Int := bif decide (o.1 < 1) || decide (o.1 > 6) then 1 else bif !fm o then 3 else bif decide (o.2.2.2.2.2.2.2.1 < 0) || decide (o.2.2.2.2.2.2.2.1 > 8) then 5 else 0

/-! ### the program's -/
def bareS (o : Op) : Op :=
  bif decide (o.1 = 3) then (o.1, o.2.1, e0, o.2.2.2.1, o.2.2.2.2.1, o.2.2.2.2.2.1, zk, 0, ())
  else bif decide (o.1 = 2) then (o.1, o.2.1, e0, 0, o.2.2.2.2.1, [], zk, 0, ())
  else bif decide (o.1 = 4) then (o.1, o.2.1, o.2.2.1, 0, [], [], zk, 0, ())
  else bif decide (o.1 = 5) then (o.1, o.2.1, e0, 0, [], [], o.2.2.2.2.2.2.1, o.2.2.2.2.2.2.2.1, ())
  else bif decide (o.1 = 6) then (o.1, o.2.1, e0, 0, [], [], o.2.2.2.2.2.2.1, 0, ())
  else (o.1, o.2.1, e0, 0, [], [], zk, 0, ())
theorem bare_ev (o : Op) : op_bare.f o = some (bareS o) := by
  refine op_bare.in _ ?_
  simp only [jn_eq]
  unfold bareS
  show _ = some (bif decide (o.1 = 3) then _ else bif decide (o.1 = 2) then _ else bif decide (o.1 = 4) then _ else bif decide (o.1 = 5) then _ else bif decide (o.1 = 6) then _ else _)
  cases decide (o.1 = 3) with
  | true => rfl
  | false =>
  cases decide (o.1 = 2) with
  | true => rfl
  | false =>
  cases decide (o.1 = 4) with
  | true => rfl
  | false =>
  cases decide (o.1 = 5) with
  | true => rfl
  | false =>
  cases decide (o.1 = 6) with
  | true => rfl
  | false => rfl
theorem hsame_ev (a b : Hk) (h1 : a.2.1.length ≤ 1000000) (h2 : a.2.2.1.length ≤ 1000000) (h3 : b.2.1.length ≤ 1000000) (h4 : b.2.2.1.length ≤ 1000000) : hunk_Same.f a b = some (decide (a.1 = b.1) && decide (a.2.1 = b.2.1) && decide (a.2.2.1 = b.2.2.1)) := by
  refine hunk_Same.in _ _ ?_
  rw [equal_ev _ _ (by omega) (by omega), equal_ev _ _ (by omega) (by omega)]
  cases decide (a.1 = b.1) with
  | false => rfl
  | true =>
    cases decide (a.2.1 = b.2.1) with
    | false => rfl
    | true => rfl
noncomputable def smB (a b : Op) : Bool := decide (a.1 = b.1) && decide (a.2.1 = b.2.1) && decide (a.2.2.1 = b.2.2.1) && teqK a.2.2.2.2.2.2.1 b.2.2.2.2.2.2.1 && decide (a.2.2.2.2.2.2.2.1 = b.2.2.2.2.2.2.2.1) && (decide (a.2.2.2.1 = b.2.2.2.1) && decide (a.2.2.2.2.1 = b.2.2.2.2.1) && decide (a.2.2.2.2.2.1 = b.2.2.2.2.2.1))
theorem osame_ev (a b : Op) (h1 : a.2.2.2.2.1.length ≤ 1000000) (h2 : a.2.2.2.2.2.1.length ≤ 1000000) (h3 : b.2.2.2.2.1.length ≤ 1000000) (h4 : b.2.2.2.2.2.1.length ≤ 1000000) : op_Same.f a b = some (smB a b) := by
  refine op_Same.in _ _ ?_
  show (gd (decide (a.1 = b.1) && decide (a.2.1 = b.2.1) && decide (a.2.2.1 = b.2.2.1) && teqK a.2.2.2.2.2.2.1 b.2.2.2.2.2.2.1 && decide (a.2.2.2.2.2.2.2.1 = b.2.2.2.2.2.2.2.1)) (op_Hunk.f a)).bind (fun x1 => (gd (decide (a.1 = b.1) && decide (a.2.1 = b.2.1) && decide (a.2.2.1 = b.2.2.1) && teqK a.2.2.2.2.2.2.1 b.2.2.2.2.2.2.1 && decide (a.2.2.2.2.2.2.2.1 = b.2.2.2.2.2.2.2.1)) (op_Hunk.f b)).bind fun x2 => (gd (decide (a.1 = b.1) && decide (a.2.1 = b.2.1) && decide (a.2.2.1 = b.2.2.1) && teqK a.2.2.2.2.2.2.1 b.2.2.2.2.2.2.1 && decide (a.2.2.2.2.2.2.2.1 = b.2.2.2.2.2.2.2.1)) (hunk_Same.f x1 x2)).bind fun x3 => some (decide (a.1 = b.1) && decide (a.2.1 = b.2.1) && decide (a.2.2.1 = b.2.2.1) && teqK a.2.2.2.2.2.2.1 b.2.2.2.2.2.2.1 && decide (a.2.2.2.2.2.2.2.1 = b.2.2.2.2.2.2.2.1) && x3)) = _
  unfold smB
  generalize (decide (a.1 = b.1) && decide (a.2.1 = b.2.1) && decide (a.2.2.1 = b.2.2.1) && teqK a.2.2.2.2.2.2.1 b.2.2.2.2.2.2.1 && decide (a.2.2.2.2.2.2.2.1 = b.2.2.2.2.2.2.2.1)) = c
  rw [op_Hunk.in a (r := hk a) rfl, op_Hunk.in b (r := hk b) rfl]
  cases c with
  | false => rfl
  | true => rw [gdT, Option.bind_some, gdT, Option.bind_some, gdT, hsame_ev (hk a) (hk b) h1 h2 h3 h4]; rfl
theorem bare_len (o : Op) : (bareS o).2.2.2.2.1.length ≤ o.2.2.2.2.1.length ∧ (bareS o).2.2.2.2.2.1.length ≤ o.2.2.2.2.2.1.length := by
  unfold bareS
  cases decide (o.1 = 3) <;> cases decide (o.1 = 2) <;> cases decide (o.1 = 4) <;> cases decide (o.1 = 5) <;> cases decide (o.1 = 6) <;> exact ⟨by simp, by simp⟩
theorem tail_ev (o : Op) (ok : Bool) (h1 : o.2.2.2.2.1.length ≤ 1000000) (h2 : o.2.2.2.2.2.1.length ≤ 1000000) : ((gd ok (op_bare.f o)).bind fun x4 => (gd ok (op_Same.f o x4)).bind fun x5 => some (ok && x5)) = some (ok && smB o (bareS o)) := by
  obtain ⟨h3, h4⟩ := bare_len o
  cases ok with
  | false => rfl
  | true => rw [gdT, bare_ev, Option.bind_some, gdT, osame_ev _ _ h1 h2 (by omega) (by omega)]; rfl
theorem sm_all (o : Op) : smB o (bareS o) = bif decide (o.1 = 3) then (nT o && (nK o && nD o))
    else bif decide (o.1 = 2) then (nT o && (nA o && (nN o && (nK o && nD o))))
    else bif decide (o.1 = 4) then (nA o && (nO o && (nN o && (nK o && nD o))))
    else bif decide (o.1 = 5) then (nT o && (nA o && (nO o && nN o)))
    else bif decide (o.1 = 6) then (nT o && (nA o && (nO o && (nN o && nD o))))
    else (nT o && (nA o && (nO o && (nN o && (nK o && nD o))))) := by
  have tq : teqK o.2.2.2.2.2.2.1 o.2.2.2.2.2.2.1 = true := teq_iff.2 rfl
  unfold bareS
  cases decide (o.1 = 3) with
  | true =>
    show (decide (o.1 = o.1) && decide (o.2.1 = o.2.1) && nT o && nK o && nD o && (decide (o.2.2.2.1 = o.2.2.2.1) && decide (o.2.2.2.2.1 = o.2.2.2.2.1) && decide (o.2.2.2.2.2.1 = o.2.2.2.2.2.1))) = _
    simp only [decide_true, Bool.true_and, Bool.and_true, cond_true]
    cases nT o <;> cases nK o <;> cases nD o <;> rfl
  | false =>
  cases decide (o.1 = 2) with
  | true =>
    show (decide (o.1 = o.1) && decide (o.2.1 = o.2.1) && nT o && nK o && nD o && (nA o && decide (o.2.2.2.2.1 = o.2.2.2.2.1) && nN o)) = _
    simp only [decide_true, Bool.true_and, Bool.and_true, cond_true, cond_false]
    cases nT o <;> cases nK o <;> cases nD o <;> cases nA o <;> cases nN o <;> rfl
  | false =>
  cases decide (o.1 = 4) with
  | true =>
    show (decide (o.1 = o.1) && decide (o.2.1 = o.2.1) && decide (o.2.2.1 = o.2.2.1) && nK o && nD o && (nA o && nO o && nN o)) = _
    simp only [decide_true, Bool.true_and, Bool.and_true, cond_true, cond_false]
    cases nO o <;> cases nK o <;> cases nD o <;> cases nA o <;> cases nN o <;> rfl
  | false =>
  cases decide (o.1 = 5) with
  | true =>
    show (decide (o.1 = o.1) && decide (o.2.1 = o.2.1) && nT o && teqK o.2.2.2.2.2.2.1 o.2.2.2.2.2.2.1 && decide (o.2.2.2.2.2.2.2.1 = o.2.2.2.2.2.2.2.1) && (nA o && nO o && nN o)) = _
    simp only [tq, decide_true, Bool.true_and, Bool.and_true, cond_true, cond_false]
    cases nO o <;> cases nT o <;> cases nA o <;> cases nN o <;> rfl
  | false =>
  cases decide (o.1 = 6) with
  | true =>
    show (decide (o.1 = o.1) && decide (o.2.1 = o.2.1) && nT o && teqK o.2.2.2.2.2.2.1 o.2.2.2.2.2.2.1 && nD o && (nA o && nO o && nN o)) = _
    simp only [tq, decide_true, Bool.true_and, Bool.and_true, cond_true, cond_false]
    cases nO o <;> cases nT o <;> cases nD o <;> cases nA o <;> cases nN o <;> rfl
  | false =>
    show (decide (o.1 = o.1) && decide (o.2.1 = o.2.1) && nT o && nK o && nD o && (nA o && nO o && nN o)) = _
    simp only [tq, decide_true, Bool.true_and, Bool.and_true, cond_true, cond_false]
    cases nO o <;> cases nT o <;> cases nK o <;> cases nD o <;> cases nA o <;> cases nN o <;> rfl
theorem hright_ev (h : Hk) (h1 : h.2.1.length ≤ 1000000) (h2 : h.2.2.1.length ≤ 1000000) : hunk_Right.f h = some (hright h) := by
  refine hunk_Right.in _ ?_
  rw [hunk_Lines_ev _ (by omega), hunk_Lines_ev _ (by omega), w_ (by omega) (by omega)]
  have e : decide ((h.2.1.length : Int) + (h.2.2.1.length : Int) > 0) = (decide (0 < h.2.1.length) || decide (0 < h.2.2.1.length)) := by
    rw [Bool.eq_iff_iff]; simp only [Bool.or_eq_true, decide_eq_true_eq]; omega
  rw [e]
  unfold hright
  cases decide (h.1 ≥ 0) && decide (h.1 ≤ 1000) with
  | false => rfl
  | true => cases linesOk h.2.1 <;> rfl
theorem pf_ev (s : ByteArray) : path_Prefix.f s = some (pf s) := by
  refine path_Prefix.in _ ?_
  rw [right_ev]
  show (gd (!decide (s = e0)) _).bind (fun x1 => some (decide (s = e0) || x1)) = _
  unfold pf
  cases decide (s = e0) <;> rfl
theorem formed_ev (o : Op) (hb : (decide (o.1 < 1) || decide (o.1 > 6)) = false) (h1 : o.2.2.2.2.1.length ≤ 1000000) (h2 : o.2.2.2.2.2.1.length ≤ 1000000) : op_formed.f o = some (fm o) := by
  refine op_formed.in _ ?_
  have T := fun ok => tail_ev o ok h1 h2
  have S := sm_all o
  simp only [Bool.or_eq_false_iff, decide_eq_false_iff_not] at hb
  rw [right_ev, Option.bind_some]
  simp only [jn_eq]
  show (if decide (o.1 = 2) = true then ((gd (right o.2.1) (hunk_Lines.f o.2.2.2.2.1)).bind fun x6 => _) else if decide (o.1 = 3) = true then ((gd (right o.2.1) (op_Hunk.f o)).bind fun x7 => _) else if decide (o.1 = 4) = true then ((gd (right o.2.1) (path_Right.f o.2.2.1)).bind fun x9 => _) else if decide (o.1 = 5) = true then (if decide (o.1 = 5) = true then ((path_Prefix.f o.2.1).bind fun x12 => _) else _) else (if decide (o.1 = 6) = true then ((path_Prefix.f o.2.1).bind fun x12 => _) else _)) = _
  unfold fm
  by_cases k2 : o.1 = 2
  · rw [decide_eq_true k2, if_pos rfl]
    rw [decide_eq_false (show ¬ o.1 = 3 by omega), decide_eq_true k2] at S
    rw [decide_eq_false (show ¬ o.1 = 1 by omega)]
    simp only [cond_true, cond_false] at S ⊢
    rw [← S, hunk_Lines_ev _ (by omega)]
    cases right o.2.1 with
    | false => exact T false
    | true => exact T _
  rw [decide_eq_false k2, if_neg (by decide)]
  rw [decide_eq_false k2] at S
  by_cases k3 : o.1 = 3
  · rw [decide_eq_true k3, if_pos rfl]
    rw [decide_eq_true k3] at S
    rw [decide_eq_false (show ¬ o.1 = 1 by omega)]
    simp only [cond_true, cond_false] at S ⊢
    rw [← S, op_Hunk.in o (r := hk o) rfl]
    cases right o.2.1 with
    | false => exact T false
    | true => rw [gdT, Option.bind_some, gdT, hright_ev (hk o) h1 h2]; exact T _
  rw [decide_eq_false k3, if_neg (by decide)]
  rw [decide_eq_false k3] at S
  by_cases k4 : o.1 = 4
  · rw [decide_eq_true k4, if_pos rfl]
    rw [decide_eq_true k4] at S
    rw [decide_eq_false (show ¬ o.1 = 1 by omega)]
    simp only [cond_true, cond_false] at S ⊢
    rw [← S, right_ev]
    cases right o.2.1 with
    | false => exact T false
    | true => exact T _
  rw [decide_eq_false k4, if_neg (by decide)]
  rw [decide_eq_false k4] at S
  by_cases k5 : o.1 = 5
  · rw [decide_eq_true k5, if_pos rfl, if_pos rfl, pf_ev, Option.bind_some]
    rw [decide_eq_true k5] at S
    rw [decide_eq_false (show ¬ o.1 = 1 by omega)]
    simp only [cond_true, cond_false] at S ⊢
    rw [← S]
    exact T _
  rw [decide_eq_false k5, if_neg (by decide)]
  rw [decide_eq_false k5] at S
  by_cases k6 : o.1 = 6
  · rw [decide_eq_true k6, if_pos rfl, pf_ev, Option.bind_some]
    rw [decide_eq_true k6] at S
    rw [decide_eq_false (show ¬ o.1 = 1 by omega)]
    simp only [cond_true, cond_false] at S ⊢
    rw [← S]
    exact T _
  rw [decide_eq_false k6, if_neg (by decide)]
  rw [decide_eq_false k6] at S
  rw [decide_eq_true (show o.1 = 1 by omega)]
  simp only [cond_true, cond_false] at S ⊢
  rw [← S]
  exact T _
theorem oright_ev (o : Op) (h1 : o.2.2.2.2.1.length ≤ 1000000) (h2 : o.2.2.2.2.2.1.length ≤ 1000000) : op_Right.f o = some (wrg o) := by
  refine op_Right.in _ ?_
  unfold wrg
  show (if (decide (o.1 < 1) || decide (o.1 > 6)) = true then _ else _) = _
  cases hb : decide (o.1 < 1) || decide (o.1 > 6) with
  | true => rfl
  | false =>
    rw [if_neg (by decide), formed_ev o hb h1 h2, Option.bind_some]
    cases fm o with
    | false => rfl
    | true =>
      show (if (decide (o.2.2.2.2.2.2.2.1 < 0) || decide (o.2.2.2.2.2.2.2.1 > 8)) = true then some 5 else some 0) = some (bif decide (o.2.2.2.2.2.2.2.1 < 0) || decide (o.2.2.2.2.2.2.2.1 > 8) then 5 else 0)
      cases decide (o.2.2.2.2.2.2.2.1 < 0) || decide (o.2.2.2.2.2.2.2.1 > 8) <;> rfl

/-! ### the reference's -/
theorem rhright_ev (h : Hk) (h1 : h.2.1.length ≤ 1000000) (h2 : h.2.2.1.length ≤ 1000000) (h3 : ∀ s ∈ h.2.1, s.size ≤ 1000000) (h4 : ∀ s ∈ h.2.2.1, s.size ≤ 1000000) : quitclaimref11_Right.f h = some (hright h) := by
  refine quitclaimref11_Right.in _ ?_
  rw [rLines_ev _ (by omega) (fun s hs => by have := h3 s hs; omega), rLines_ev _ (by omega) (fun s hs => by have := h4 s hs; omega)]
  have e : ∀ n : Nat, decide ((n : Int) > 0) = decide (0 < n) := fun n => by rw [decide_eq_decide]; omega
  rw [e, e]
  unfold hright
  cases decide (h.1 ≥ 0) && decide (h.1 ≤ 1000) with
  | false => rfl
  | true => cases linesOk h.2.1 <;> rfl
theorem rpf_ev (s : ByteArray) : quitclaimref13_prefix.f s = some (pf s) := by
  refine quitclaimref13_prefix.in _ ?_
  rw [rright_ev]
  show (gd (!decide (s = e0)) _).bind (fun x1 => some (decide (s = e0) || x1)) = _
  unfold pf
  cases decide (s = e0) <;> rfl
noncomputable def has (o : Op) : Nat → Bool
  | 0 => !nT o
  | 1 => !nA o
  | 2 => !nO o
  | 3 => !nN o
  | 4 => !nK o
  | 5 => !nD o
  | _ => false
def nmt : List UInt8 := [84, 65, 79, 78, 75, 68]
noncomputable def onl (o : Op) (s : List UInt8) (i : Nat) : Bool := !(has o i && !(s.any fun c => c == nmt.getD i 0))
noncomputable def onls (o : Op) (s : List UInt8) : Nat → Bool
  | 0 => true
  | n + 1 => onl o s (6 - (n + 1)) && onls o s n
theorem only_ev (o : Op) (s : ByteArray) (hs : s.size ≤ 100) : quitclaimref13_only.f o s = some (onls o s.data.toList 6) := by
  have hl := len_text s
  refine quitclaimref13_only.in _ _ ?_
  have eO : ∀ l : List ByteArray, decide ((l.length : Int) > 0) = !decide (l = []) := fun l => by cases l <;> simp <;> omega
  rw [eO, eO]
  refine (wh_ind (fun i : Nat => ((s, (), (⟨⟨nmt⟩⟩ : ByteArray), (i : Int), ()), o, ((!nT o, !nA o, !nO o, !nN o, !nK o, !nD o, ()) : Vec Bool 6), ())) (fun i => i ≤ 6) (fun i => 6 - i) (fun i => onls o s.data.toList (6 - i)) (fun i hi r hr => ?_) 0 (Nat.zero_le _)).trans rfl
  by_cases h6 : i < 6
  · have hr := hr (i + 1) (by omega) (by omega)
    have hn : bx (⟨⟨nmt⟩⟩ : ByteArray) (i : Int) = some ((nmt.getD i 0).toNat : Int) := by
      rcases (by omega : i = 0 ∨ i = 1 ∨ i = 2 ∨ i = 3 ∨ i = 4 ∨ i = 5) with rfl | rfl | rfl | rfl | rfl | rfl <;> rfl
    have e6 : onls o s.data.toList (6 - i) = (onl o s.data.toList i && onls o s.data.toList (6 - (i + 1))) := by
      obtain ⟨n, hn⟩ : ∃ n, 6 - i = n + 1 := ⟨6 - i - 1, by omega⟩
      rw [hn, show 6 - (i + 1) = n by omega]
      show (onl o s.data.toList (6 - (n + 1)) && onls o s.data.toList n) = _
      rw [show 6 - (n + 1) = i by omega]
    rw [e6]
    simp only []
    rw [decide_eq_true (show (i : Int) < 6 by omega), if_pos rfl]
    refine (wh_list s.data.toList (fun j (a : Bool) => ((s, (), (⟨⟨nmt⟩⟩ : ByteArray), (i : Int), a, j, ()), o, ((!nT o, !nA o, !nO o, !nN o, !nK o, !nD o, ()) : Vec Bool 6), ())) (fun _ _ => True) (fun l a => !(has o i && !(a || l.any fun c => c == nmt.getD i 0)) && onls o s.data.toList (6 - (i + 1))) (fun a r' _ => ?_) (fun j a r' h _ hr' => ?_) false trivial).trans ?_
    · have hsz : (s.data.toList.length : Int) = (s.size : Int) := by omega
      simp only [hsz]
      rw [decide_eq_false (show ¬ (s.size : Int) < (s.size : Int) by omega), if_neg (by decide), wS (by omega)]
      have fin : ∀ b : Bool, (if (b && !a) = true then some false else r ((s, (), (⟨⟨nmt⟩⟩ : ByteArray), ((i + 1 : Nat) : Int), ()), o, ((!nT o, !nA o, !nO o, !nN o, !nK o, !nD o, ()) : Vec Bool 6), ())) = some (!(b && !(a || ([] : List UInt8).any fun c => c == nmt.getD i 0)) && onls o s.data.toList (6 - (i + 1))) := fun b => by
        rw [hr, List.any_nil, Bool.or_false]
        cases b && !a <;> rfl
      rcases (by omega : i = 0 ∨ i = 1 ∨ i = 2 ∨ i = 3 ∨ i = 4 ∨ i = 5) with rfl | rfl | rfl | rfl | rfl | rfl
      · rw [if_pos (by decide)]; exact fin _
      · rw [if_neg (by decide), if_pos (by decide)]; exact fin _
      · rw [if_neg (by decide), if_neg (by decide), if_pos (by decide)]; exact fin _
      · rw [if_neg (by decide), if_neg (by decide), if_neg (by decide), if_pos (by decide)]; exact fin _
      · rw [if_neg (by decide), if_neg (by decide), if_neg (by decide), if_neg (by decide), if_pos (by decide)]; exact fin _
      · rw [if_neg (by decide), if_neg (by decide), if_neg (by decide), if_neg (by decide), if_neg (by decide), if_pos (by decide)]; exact fin _
    · have hb := bx_ (s := s) (i := j) h
      simp only []
      rw [decide_eq_true (show (j : Int) < (s.size : Int) by omega), if_pos rfl, hn, hb, wS (by omega)]
      have e : decide (((s.data.toList[j]).toNat : Int) = ((nmt.getD i 0).toNat : Int)) = (s.data.toList[j] == nmt.getD i 0) := by
        rw [Bool.eq_iff_iff, decide_eq_true_eq, beq_iff_eq]; exact u8_eq
      cases a with
      | true => exact hr' true trivial
      | false =>
        simp only [Bool.not_false, gdT, Option.bind_some, e, Bool.false_or]
        refine (hr' _ trivial).trans ?_
        rw [List.any_cons]
    · rw [Bool.false_or]; rfl
  · obtain rfl : i = 6 := by omega
    rfl
theorem on_ (o : Op) (s : List UInt8) (m0 m1 m2 m3 m4 m5 : Bool) (h : [0, 1, 2, 3, 4, 5].map (fun i => s.any fun c => c == nmt.getD i 0) = [m0, m1, m2, m3, m4, m5]) :
    onls o s 6 = (!(!nT o && !m0) && (!(!nA o && !m1) && (!(!nO o && !m2) && (!(!nN o && !m3) && (!(!nK o && !m4) && !(!nD o && !m5)))))) := by
  simp only [List.map_cons, List.map_nil, List.cons.injEq, and_true] at h
  obtain ⟨h0, h1, h2, h3, h4, h5⟩ := h
  show (onl o s 0 && (onl o s 1 && (onl o s 2 && (onl o s 3 && (onl o s 4 && (onl o s 5 && true)))))) = _
  unfold onl
  rw [h0, h1, h2, h3, h4, h5, Bool.and_true]
  rfl
def fin13 (o : Op) (b : Bool) : Int := bif !b then 3 else bif decide (o.2.2.2.2.2.2.2.1 < 0) || decide (o.2.2.2.2.2.2.2.1 > 8) then 5 else 0
theorem fin13_ev (o : Op) (b : Bool) : (if (!b) = true then some 3 else if (decide (o.2.2.2.2.2.2.2.1 < 0) || decide (o.2.2.2.2.2.2.2.1 > 8)) = true then some 5 else some 0) = some (fin13 o b) := by
  unfold fin13
  cases b with
  | false => rfl
  | true => cases decide (o.2.2.2.2.2.2.2.1 < 0) || decide (o.2.2.2.2.2.2.2.1 > 8) <;> rfl
theorem rright_op (o : Op) (h1 : o.2.2.2.2.1.length ≤ 1000000) (h2 : o.2.2.2.2.2.1.length ≤ 1000000) (h3 : ∀ s ∈ o.2.2.2.2.1, s.size ≤ 1000000) (h4 : ∀ s ∈ o.2.2.2.2.2.1, s.size ≤ 1000000) : quitclaimref13_Right.f o = some (wrg o) := by
  refine quitclaimref13_Right.in _ ?_
  have hw : (decide (o.1 < 1) || decide (o.1 > 6)) = false → wrg o = fin13 o (fm o) := fun hb => by unfold wrg; rw [hb]; rfl
  cases hb : decide (o.1 < 1) || decide (o.1 > 6) with
  | true => unfold wrg; rw [hb]; rfl
  | false =>
    rw [if_neg (by decide), hw hb]
    simp only [Bool.or_eq_false_iff, decide_eq_false_iff_not] at hb
    clear hw
    obtain ⟨k, o⟩ := o
    simp only at h1 h2 h3 h4 hb
    rcases (by omega : k = 1 ∨ k = 2 ∨ k = 3 ∨ k = 4 ∨ k = 5 ∨ k = 6) with rfl | rfl | rfl | rfl | rfl | rfl
    · have e : ∀ x : Op, quitclaimref13_only.f x (⟨⟨[]⟩⟩ : ByteArray) = some (nT x && (nA x && (nO x && (nN x && (nK x && nD x))))) := fun x => (only_ev x _ (by decide)).trans (by rw [on_ x _ false false false false false false rfl]; cases nT x <;> cases nA x <;> cases nO x <;> cases nN x <;> cases nK x <;> cases nD x <;> rfl)
      show (quitclaimref10_Right.f o.1).bind (fun x26 => (gd x26 (quitclaimref13_only.f ((1 : Int), o) (⟨⟨[]⟩⟩ : ByteArray))).bind fun x27 => (if (!(x26 && x27)) = true then some 3 else if (decide (o.2.2.2.2.2.2.1 < 0) || decide (o.2.2.2.2.2.2.1 > 8)) = true then some 5 else some 0)) = _
      rw [rright_ev, Option.bind_some, e, show fm ((1 : Int), o) = (right o.1 && (nT ((1 : Int), o) && (nA ((1 : Int), o) && (nO ((1 : Int), o) && (nN ((1 : Int), o) && (nK ((1 : Int), o) && nD ((1 : Int), o))))))) from rfl]
      cases right o.1 with
      | false => exact fin13_ev ((1 : Int), o) false
      | true => exact fin13_ev ((1 : Int), o) _
    · have e : ∀ x : Op, quitclaimref13_only.f x (⟨⟨[79]⟩⟩ : ByteArray) = some (nT x && (nA x && (nN x && (nK x && nD x)))) := fun x => (only_ev x _ (by decide)).trans (by rw [on_ x _ false false true false false false rfl]; cases nT x <;> cases nA x <;> cases nO x <;> cases nN x <;> cases nK x <;> cases nD x <;> rfl)
      show (quitclaimref10_Right.f o.1).bind (fun x23 => (gd x23 (quitclaimref11_Lines.f o.2.2.2.1)).bind fun x24 => (gd (x23 && x24) (quitclaimref13_only.f ((2 : Int), o) (⟨⟨[79]⟩⟩ : ByteArray))).bind fun x25 => (if (!(x23 && x24 && x25)) = true then some 3 else if (decide (o.2.2.2.2.2.2.1 < 0) || decide (o.2.2.2.2.2.2.1 > 8)) = true then some 5 else some 0)) = _
      rw [rright_ev, Option.bind_some, rLines_ev _ (by omega) (fun s hs => by have := h3 s hs; omega), e, show fm ((2 : Int), o) = ((right o.1 && linesOk o.2.2.2.1) && (nT ((2 : Int), o) && (nA ((2 : Int), o) && (nN ((2 : Int), o) && (nK ((2 : Int), o) && nD ((2 : Int), o)))))) from rfl]
      cases right o.1 with
      | false => exact fin13_ev ((2 : Int), o) false
      | true =>
        cases linesOk o.2.2.2.1 with
        | false => exact fin13_ev ((2 : Int), o) false
        | true => exact fin13_ev ((2 : Int), o) _
    · have e : ∀ x : Op, quitclaimref13_only.f x (⟨⟨[65, 79, 78]⟩⟩ : ByteArray) = some (nT x && (nK x && nD x)) := fun x => (only_ev x _ (by decide)).trans (by rw [on_ x _ false true true true false false rfl]; cases nT x <;> cases nA x <;> cases nO x <;> cases nN x <;> cases nK x <;> cases nD x <;> rfl)
      show (quitclaimref10_Right.f o.1).bind (fun x23 => (gd x23 (quitclaimref11_Right.f (o.2.2.1, o.2.2.2.1, o.2.2.2.2.1, ()))).bind fun x24 => (gd (x23 && x24) (quitclaimref13_only.f ((3 : Int), o) (⟨⟨[65, 79, 78]⟩⟩ : ByteArray))).bind fun x25 => (if (!(x23 && x24 && x25)) = true then some 3 else if (decide (o.2.2.2.2.2.2.1 < 0) || decide (o.2.2.2.2.2.2.1 > 8)) = true then some 5 else some 0)) = _
      rw [rright_ev, Option.bind_some, rhright_ev (o.2.2.1, o.2.2.2.1, o.2.2.2.2.1, ()) h1 h2 h3 h4, e, show fm ((3 : Int), o) = ((right o.1 && hright (o.2.2.1, o.2.2.2.1, o.2.2.2.2.1, ())) && (nT ((3 : Int), o) && (nK ((3 : Int), o) && nD ((3 : Int), o)))) from rfl]
      cases right o.1 with
      | false => exact fin13_ev ((3 : Int), o) false
      | true =>
        cases hright (o.2.2.1, o.2.2.2.1, o.2.2.2.2.1, ()) with
        | false => exact fin13_ev ((3 : Int), o) false
        | true => exact fin13_ev ((3 : Int), o) _
    · have e : ∀ x : Op, quitclaimref13_only.f x (⟨⟨[84]⟩⟩ : ByteArray) = some (nA x && (nO x && (nN x && (nK x && nD x)))) := fun x => (only_ev x _ (by decide)).trans (by rw [on_ x _ true false false false false false rfl]; cases nT x <;> cases nA x <;> cases nO x <;> cases nN x <;> cases nK x <;> cases nD x <;> rfl)
      show (quitclaimref10_Right.f o.1).bind (fun x23 => (gd x23 (quitclaimref10_Right.f o.2.1)).bind fun x24 => (gd (x23 && x24 && !decide (o.1 = o.2.1)) (quitclaimref13_only.f ((4 : Int), o) (⟨⟨[84]⟩⟩ : ByteArray))).bind fun x25 => (if (!(x23 && x24 && !decide (o.1 = o.2.1) && x25)) = true then some 3 else if (decide (o.2.2.2.2.2.2.1 < 0) || decide (o.2.2.2.2.2.2.1 > 8)) = true then some 5 else some 0)) = _
      rw [rright_ev, Option.bind_some, rright_ev, e, show fm ((4 : Int), o) = (((right o.1 && right o.2.1) && !decide (o.1 = o.2.1)) && (nA ((4 : Int), o) && (nO ((4 : Int), o) && (nN ((4 : Int), o) && (nK ((4 : Int), o) && nD ((4 : Int), o)))))) from rfl]
      cases right o.1 with
      | false => exact fin13_ev ((4 : Int), o) false
      | true =>
        rw [gdT, Option.bind_some, Bool.true_and]
        cases right o.2.1 && !decide (o.1 = o.2.1) with
        | false => exact fin13_ev ((4 : Int), o) false
        | true => exact fin13_ev ((4 : Int), o) _
    · have e : ∀ x : Op, quitclaimref13_only.f x (⟨⟨[75, 68]⟩⟩ : ByteArray) = some (nT x && (nA x && (nO x && nN x))) := fun x => (only_ev x _ (by decide)).trans (by rw [on_ x _ false false false false true true rfl]; cases nT x <;> cases nA x <;> cases nO x <;> cases nN x <;> cases nK x <;> cases nD x <;> rfl)
      show (quitclaimref13_prefix.f o.1).bind (fun x26 => (gd x26 (quitclaimref13_only.f ((5 : Int), o) (⟨⟨[75, 68]⟩⟩ : ByteArray))).bind fun x27 => (if (!(x26 && x27)) = true then some 3 else if (decide (o.2.2.2.2.2.2.1 < 0) || decide (o.2.2.2.2.2.2.1 > 8)) = true then some 5 else some 0)) = _
      rw [rpf_ev, Option.bind_some, e, show fm ((5 : Int), o) = (pf o.1 && (nT ((5 : Int), o) && (nA ((5 : Int), o) && (nO ((5 : Int), o) && nN ((5 : Int), o))))) from rfl]
      cases pf o.1 with
      | false => exact fin13_ev ((5 : Int), o) false
      | true => exact fin13_ev ((5 : Int), o) _
    · have e : ∀ x : Op, quitclaimref13_only.f x (⟨⟨[75]⟩⟩ : ByteArray) = some (nT x && (nA x && (nO x && (nN x && nD x)))) := fun x => (only_ev x _ (by decide)).trans (by rw [on_ x _ false false false false true false rfl]; cases nT x <;> cases nA x <;> cases nO x <;> cases nN x <;> cases nK x <;> cases nD x <;> rfl)
      show (quitclaimref13_prefix.f o.1).bind (fun x26 => (gd x26 (quitclaimref13_only.f ((6 : Int), o) (⟨⟨[75]⟩⟩ : ByteArray))).bind fun x27 => (if (!(x26 && x27)) = true then some 3 else if (decide (o.2.2.2.2.2.2.1 < 0) || decide (o.2.2.2.2.2.2.1 > 8)) = true then some 5 else some 0)) = _
      rw [rpf_ev, Option.bind_some, e, show fm ((6 : Int), o) = (pf o.1 && (nT ((6 : Int), o) && (nA ((6 : Int), o) && (nO ((6 : Int), o) && (nN ((6 : Int), o) && nD ((6 : Int), o)))))) from rfl]
      cases pf o.1 with
      | false => exact fin13_ev ((6 : Int), o) false
      | true => exact fin13_ev ((6 : Int), o) _
end Go.Proofs.YtmjkflppajienaaGreatDoor.R.Pu
namespace Go.Proofs.YtmjkflppajienaaGreatDoor.R.Pu
open Go Go.RowKit
set_option linter.unusedVariables false
set_option linter.unusedSimpArgs false

theorem sgrow_ev (n : Nat) (h : n ≤ 1000000) : ∃ x, slices_Grow_string_string.f (n : Int) = some ([], x) := by
  refine ⟨((), ()), slices_Grow_string_string.in _ ?_⟩
  simp only [jn_eq]
  rw [decide_eq_false (show ¬ (n : Int) < 0 by omega), if_neg (by decide)]
  have e : w64 ((n : Int) - w64 (0 - 0)) = (n : Int) := by rw [w_ (x := 0 - 0) (by omega) (by omega), w_ (by omega) (by omega)]; omega
  rw [e]
  by_cases h0 : 0 < n
  · rw [decide_eq_true (show (n : Int) > 0 by omega), if_pos rfl]
    unfold grw
    rw [if_pos (by omega)]; rfl
  · rw [decide_eq_false (show ¬ (n : Int) > 0 by omega), if_neg (by decide)]
theorem sconcat_ev (xs : List (List ByteArray)) (hl : xs.length ≤ 100) (h : xs.flatten.length ≤ 1000000) : slices_Concat_string_string.f xs = some xs.flatten := by
  refine slices_Concat_string_string.in _ ?_
  refine (wh_list xs (fun i (n : Nat) => (xs, (n : Int), xs, (xs.length : Int), i, ())) (fun i n => n + (xs.drop i).flatten.length = xs.flatten.length) (fun _ _ => xs.flatten) (fun n r hI => ?_) (fun i n r hi hI hr => ?_) 0 (by simp)).trans rfl
  · rw [List.drop_length] at hI
    have hI' : n = xs.flatten.length := by simpa using hI
    obtain ⟨x, hx⟩ := sgrow_ev n (by omega)
    simp (disch := omega) only [decide_eq_true_eq, if_neg, hx, Option.bind_some]
    refine (wh_list xs (fun i (y : List ByteArray) => ((y, xs, (xs.length : Int), i, ()), (), ())) (fun i y => y.length + (xs.drop i).flatten.length ≤ 1000000) (fun z y => y ++ z.flatten) (fun y r hI => ?_) (fun i y r hi hI hr => ?_) [] (by simpa using h)).trans ?_
    · simp (disch := omega) only [decide_eq_true_eq, if_neg]
      simp
    · have ed : xs.drop i = xs[i] :: xs.drop (i + 1) := List.drop_eq_getElem_cons hi
      rw [ed, List.flatten_cons, List.length_append] at hI
      have hr := hr (y ++ xs[i]) (by rw [List.length_append]; omega)
      simp (disch := omega) only [decide_eq_true_eq, if_pos, ix_, Option.bind_some, wS, app_, hr]
      rw [List.flatten_cons, List.append_assoc]
    · simp
  · have ed : xs.drop i = xs[i] :: xs.drop (i + 1) := List.drop_eq_getElem_cons hi
    rw [ed, List.flatten_cons, List.length_append] at hI
    have hr := hr (n + xs[i].length) (by omega)
    have e : w64 ((n : Int) + (xs[i].length : Int)) = ((n + xs[i].length : Nat) : Int) := by rw [w_ (by omega) (by omega)]; rfl
    simp (disch := omega) only [decide_eq_true_eq, if_pos, ix_, Option.bind_some, wS, e]
    rw [if_neg (by omega)]
    exact hr

def apl (l : List ByteArray) (h : Hk) : List ByteArray := l.take h.1.toNat ++ h.2.2.1 ++ l.drop (h.1.toNat + h.2.1.length)
def std (l : List ByteArray) (h : Hk) : Bool := decide ((l.drop h.1.toNat).take h.2.1.length = h.2.1)
/-- Lines with a hunk. -/
def ap (l : List ByteArray) (h : Hk) : List ByteArray × Int :=
  bif !linesOk l || !hright h then ([], 3) else bif decide (h.1 > (l.length : Int)) then ([], 5) else bif !std l h then ([], 12) else bif decide (1000 < (apl l h).length) then ([], 4) else (apl l h, 0)
theorem hright_at {h : Hk} (q : hright h = true) : 0 ≤ h.1 ∧ h.1 ≤ 1000 ∧ linesOk h.2.1 = true ∧ linesOk h.2.2.1 = true := by
  unfold hright at q
  simp only [Bool.and_eq_true, decide_eq_true_eq] at q
  exact ⟨q.1.1.1.1, q.1.1.1.2, q.1.1.2, q.1.2⟩
theorem std_le {l : List ByteArray} {h : Hk} (q : std l h = true) : h.2.1.length ≤ (l.drop h.1.toNat).length := by
  have e := congrArg List.length (of_decide_eq_true q)
  rw [List.length_take] at e
  omega
theorem stands_ev (l : List ByteArray) (h : Hk) (h0 : 0 ≤ h.1) (hl : l.length ≤ 1000000) (ho : h.2.1.length ≤ 1000000) (ha : h.1 ≤ (l.length : Int)) : hunk_stands.f l h.1 h.2.1 = some (std l h) := by
  refine hunk_stands.in _ _ _ ?_
  obtain ⟨a, ea⟩ : ∃ a : Nat, h.1 = (a : Int) := ⟨h.1.toNat, by omega⟩
  rw [ea] at ha ⊢
  unfold std
  rw [ea, Int.toNat_natCast, decide_eq_true ha, Bool.true_and, w_ (x := (l.length : Int) - (a : Int)) (by omega) (by omega)]
  by_cases hb : h.2.1.length ≤ l.length - a
  · have e : w64 ((a : Int) + (h.2.1.length : Int)) = ((a + h.2.1.length : Nat) : Int) := by rw [w_ (by omega) (by omega)]; rfl
    rw [decide_eq_true (show (h.2.1.length : Int) ≤ (l.length : Int) - (a : Int) by omega), gdT, e, cut_ (by omega) (by omega), Option.bind_some, gdT, equal_ev _ _ (by simp; omega) (by omega), Option.bind_some, Bool.true_and, List.drop_take]
    congr 3
    simp
  · rw [decide_eq_false (show ¬ (h.2.1.length : Int) ≤ (l.length : Int) - (a : Int) by omega), decide_eq_false (fun e => by
      have := congrArg List.length e
      rw [List.length_take, List.length_drop] at this
      omega)]
    rfl
theorem ap_ev (l : List ByteArray) (h : Hk) (hl : l.length ≤ 1000000) (h1 : h.2.1.length ≤ 1000000) (h2 : h.2.2.1.length ≤ 1000000) : hunk_Apply.f l h = some ((ap l h).1, (ap l h).2, ()) := by
  refine hunk_Apply.in _ _ ?_
  rw [hunk_Lines_ev _ (by omega), Option.bind_some, hright_ev h h1 h2]
  unfold ap
  cases c1 : linesOk l with
  | false => rfl
  | true =>
    cases c2 : hright h with
    | false => rfl
    | true =>
      obtain ⟨q1, q2, q3, q4⟩ := hright_at c2
      have z1 := (linesOk_len c1).1
      have z2 := (linesOk_len q3).1
      have z3 := (linesOk_len q4).1
      simp only [Bool.not_true, Bool.not_false, gdT, Option.bind_some, Bool.or_false, Bool.false_eq_true, if_false, cond_false]
      cases c3 : decide (h.1 > (l.length : Int)) with
      | true => rfl
      | false =>
        have c3' := of_decide_eq_false c3
        rw [if_neg (by decide), stands_ev l h q1 (by omega) (by omega) (by omega), Option.bind_some]
        cases c4 : std l h with
        | false => rfl
        | true =>
          have hs := std_le c4
          rw [List.length_drop] at hs
          have ea : h.1 = (h.1.toNat : Int) := by omega
          have el : (apl l h).length = l.length - h.2.1.length + h.2.2.1.length := by
            unfold apl
            rw [List.length_append, List.length_append, List.length_take, List.length_drop]; omega
          have ew : w64 (w64 ((l.length : Int) - (h.2.1.length : Int)) + (h.2.2.1.length : Int)) = ((apl l h).length : Int) := by
            rw [w_ (x := (l.length : Int) - (h.2.1.length : Int)) (by omega) (by omega), w_ (by omega) (by omega), el]; omega
          rw [ew]
          simp only [Bool.not_true, Bool.false_eq_true, if_false, cond_false]
          by_cases c5 : 1000 < (apl l h).length
          · rw [decide_eq_true (show ((apl l h).length : Int) > 1000 by omega), decide_eq_true c5]; rfl
          · rw [decide_eq_false (show ¬ ((apl l h).length : Int) > 1000 by omega), decide_eq_false c5, if_neg (by decide), if_pos trivial]
            have e1 : cut l 0 h.1 = some (l.take h.1.toNat) := by rw [ea]; exact cut0 (by omega)
            have e2 : w64 (h.1 + (h.2.1.length : Int)) = ((h.1.toNat + h.2.1.length : Nat) : Int) := by rw [w_ (by omega) (by omega)]; omega
            rw [e1, Option.bind_some, e2, cut_ (by omega) (Nat.le_refl _), Option.bind_some, sconcat_ev _ (by simp) ?_, Option.bind_some]
            · unfold apl
              simp
            · simp; omega
theorem take_dec {α : Type} {l : List α} {a i : Nat} (h : a + i < l.length) (n : Nat) : (l.drop (a + i)).take (n + 1) = l[a + i] :: (l.drop (a + (i + 1))).take n := by
  rw [List.drop_eq_getElem_cons h, List.take_succ_cons]; rfl
theorem dec_cons {a b : ByteArray} {x y : List ByteArray} (h : a = b) : decide (a :: x = b :: y) = decide (x = y) := by
  rw [decide_eq_decide, List.cons.injEq]; exact ⟨fun h => h.2, fun k => ⟨h, k⟩⟩
theorem rap_ev (l : List ByteArray) (h : Hk) (hl : l.length ≤ 1000000) (h1 : h.2.1.length ≤ 1000000) (h2 : h.2.2.1.length ≤ 1000000) (hs : ∀ s ∈ l, s.size ≤ 1000000) (h3 : ∀ s ∈ h.2.1, s.size ≤ 1000000) (h4 : ∀ s ∈ h.2.2.1, s.size ≤ 1000000) : quitclaimref11_Apply.f l h = some ((ap l h).1, (ap l h).2, ()) := by
  refine quitclaimref11_Apply.in _ _ ?_
  rw [rLines_ev _ (by omega) (fun s h => by have := hs s h; omega), Option.bind_some, rhright_ev h h1 h2 h3 h4]
  unfold ap
  cases c1 : linesOk l with
  | false => rfl
  | true =>
    cases c2 : hright h with
    | false => rfl
    | true =>
      obtain ⟨q1, q2, q3, q4⟩ := hright_at c2
      have z1 := (linesOk_len c1).1
      have z2 := (linesOk_len q3).1
      have z3 := (linesOk_len q4).1
      simp only [Bool.not_true, Bool.not_false, gdT, Option.bind_some, Bool.or_false, Bool.false_eq_true, if_false, cond_false]
      cases c3 : decide (h.1 > (l.length : Int)) with
      | true => rfl
      | false =>
        have c3' := of_decide_eq_false c3
        rw [if_neg (by decide)]
        obtain ⟨a, ea⟩ : ∃ a : Nat, a = h.1.toNat := ⟨_, rfl⟩
        have ea' : h.1 = (a : Int) := by omega
        have hla : (l.take a).length = a := by rw [List.length_take]; omega
        simp only [cond_false]
        generalize hg : (bif !std l h then (([], 12) : List ByteArray × Int) else bif decide (1000 < (apl l h).length) then ([], 4) else (apl l h, 0)) = res
        refine (wh_list (l.take a) (fun i (x : List ByteArray) => ((l, (), x, i, ()), h, (), ())) (fun i x => x = l.take i) (fun _ _ => (res.1, res.2, ())) (fun x r hI => ?_) (fun i x r hi hI hr => ?_) [] rfl).trans ?_
        · rw [hla] at hI ⊢
          subst hI
          simp only []
          rw [ea', decide_eq_false (show ¬ (a : Int) < (a : Int) by omega), if_neg (by decide)]
          refine (wh_list h.2.2.1 (fun i (x : List ByteArray) => ((l, (), x, i, ()), h, (), ())) (fun i x => x = l.take a ++ h.2.2.1.take i) (fun _ _ => (res.1, res.2, ())) (fun x r hI => ?_) (fun i x r hi hI hr => ?_) (l.take a) (by simp)).trans rfl
          · rw [List.take_length] at hI
            subst hI
            simp only []
            rw [decide_eq_false (show ¬ (h.2.2.1.length : Int) < (h.2.2.1.length : Int) by omega), if_neg (by decide)]
            refine (wh_ind (fun i : Nat => ((l, (), l.take a ++ h.2.2.1, (i : Int), ()), h, (), ())) (fun i => i ≤ h.2.1.length ∧ a + i ≤ l.length) (fun i => h.2.1.length - i)
              (fun i => bif !decide ((l.drop (a + i)).take (h.2.1.length - i) = h.2.1.drop i) then ([], 12, ()) else bif decide (1000 < (l.take a ++ h.2.2.1 ++ l.drop (a + h.2.1.length)).length) then ([], 4, ()) else (l.take a ++ h.2.2.1 ++ l.drop (a + h.2.1.length), 0, ())) (fun i hi r hr => ?_) 0 ⟨Nat.zero_le _, by omega⟩).trans ?_
            · obtain ⟨hi1, hi2⟩ := hi
              simp only []
              by_cases hi : i < h.2.1.length
              · have hr := hr (i + 1)
                have ew : w64 (h.1 + (i : Int)) = ((a + i : Nat) : Int) := by rw [w_ (by omega) (by omega)]; omega
                rw [decide_eq_true (show (i : Int) < (h.2.1.length : Int) by omega), if_pos rfl, ew]
                by_cases hx : a + i < l.length
                · rw [decide_eq_false (show ¬ ((a + i : Nat) : Int) ≥ (l.length : Int) by omega)]
                  simp only [Bool.not_false, gdT, Bool.false_or]
                  rw [ix_ hx, Option.bind_some, ix_ hi, Option.bind_some, wS (by omega)]
                  obtain ⟨n, hn⟩ : ∃ n, h.2.1.length - i = n + 1 := ⟨h.2.1.length - i - 1, by omega⟩
                  have hn' : h.2.1.length - (i + 1) = n := by omega
                  rw [hn, take_dec hx, List.drop_eq_getElem_cons hi]
                  by_cases he : l[a + i] = h.2.1[i]
                  · rw [decide_eq_true he, if_neg (by decide), hr ⟨by omega, by omega⟩ (by omega), hn', dec_cons he]
                  · rw [decide_eq_false he, if_pos (by decide), decide_eq_false (fun e => he (List.cons.inj e).1)]
                    rfl
                · rw [decide_eq_true (show ((a + i : Nat) : Int) ≥ (l.length : Int) by omega)]
                  have hd : l.drop (a + i) = [] := List.drop_eq_nil_of_le (by omega)
                  rw [hd, List.take_nil, List.drop_eq_getElem_cons hi]
                  rfl
              · obtain rfl : i = h.2.1.length := by omega
                rw [decide_eq_false (show ¬ (h.2.1.length : Int) < (h.2.1.length : Int) by omega), if_neg (by decide)]
                have ew : w64 (h.1 + (h.2.1.length : Int)) = ((a + h.2.1.length : Nat) : Int) := by rw [w_ (by omega) (by omega)]; omega
                rw [ew]
                refine (wh_from l (fun i (x : List ByteArray) => ((l, x, i, ()), h, (), ())) (fun i x => x.length + (l.length - i) ≤ 100000) (fun z x => bif decide (1000 < (x ++ z).length) then ([], 4, ()) else (x ++ z, 0, ())) (fun x r hI => ?_) (fun i x r hi hI hr => ?_) (a + h.2.1.length) hi2 (l.take a ++ h.2.2.1) (by simp; omega)).trans ?_
                · simp only []
                  rw [decide_eq_false (show ¬ (l.length : Int) < (l.length : Int) by omega), if_neg (by decide), List.append_nil]
                  by_cases c5 : 1000 < x.length
                  · rw [decide_eq_true (show (x.length : Int) > 1000 by omega), decide_eq_true c5]; rfl
                  · rw [decide_eq_false (show ¬ (x.length : Int) > 1000 by omega), decide_eq_false c5]; rfl
                · have hr := hr (x ++ [l[i]]) (by simp; omega)
                  simp (disch := omega) only [decide_eq_true_eq, if_pos, ix_, Option.bind_some, wS]
                  rw [app_ (by simp; omega), Option.bind_some, hr, List.append_assoc]; rfl
                · simp
            · rw [← hg]
              unfold std apl
              rw [← ea, Nat.add_zero, Nat.sub_zero, List.drop_zero]
              cases decide ((l.drop a).take h.2.1.length = h.2.1) with
              | false => rfl
              | true => cases decide (1000 < (l.take a ++ h.2.2.1 ++ l.drop (a + h.2.1.length)).length) <;> rfl
          · subst hI
            have hr := hr (l.take a ++ h.2.2.1.take (i + 1)) rfl
            simp (disch := omega) only [decide_eq_true_eq, if_pos, ix_, Option.bind_some, wS]
            rw [app_ (by simp; omega), Option.bind_some, ← hr, List.append_assoc]
            congr 5
            rw [List.take_succ_eq_append_getElem hi]
        · subst hI
          rw [hla] at hi
          have hr := hr (l.take (i + 1)) rfl
          have hil : i < l.length := by omega
          simp only []
          rw [ea', decide_eq_true (show (i : Int) < (a : Int) by omega), if_pos rfl, ix_ hil, Option.bind_some, app_ (by simp; omega), Option.bind_some, wS (by omega), ← hr]
          congr 5
          rw [List.take_succ_eq_append_getElem hil]
        · rw [← hg]
end Go.Proofs.YtmjkflppajienaaGreatDoor.R.Pu
namespace Go.Proofs.YtmjkflppajienaaGreatDoor.R.Pu
open Go Go.RowKit
set_option linter.unusedVariables false
set_option linter.unusedSimpArgs false

/-! ### places -/
theorem pos_split {a b : List File} {s : ByteArray} (ha : ∀ g ∈ a, by_ g.1 < by_ s) (hb : ∀ g ∈ b, ¬ by_ g.1 < by_ s) : pos (a ++ b) s = a.length := by
  unfold pos
  rw [List.countP_append, List.countP_eq_length.2 (fun g hg => by simp [lts, ha g hg]), List.countP_eq_zero.2 (fun g hg => by simp [lts, hb g hg]), Nat.add_zero]
theorem fnd_iff {l : List File} {s : ByteArray} (hs : Srt l) : fnd l s = true ↔ ∃ g ∈ l, g.1 = s := by
  constructor
  · intro h
    obtain ⟨hp, e⟩ := fnd_true h
    exact ⟨_, List.getElem_mem hp, e⟩
  · rintro ⟨g, hg, e⟩
    obtain ⟨i, hi, rfl⟩ := List.mem_iff_getElem.1 hg
    exact (fnd_at hs hi e).2
theorem fnd_del {l : List File} {s t : ByteArray} (hs : Srt l) (hn : s ≠ t) : fnd (del l s) t = fnd l t := by
  rw [Bool.eq_iff_iff, fnd_iff (srt_del hs), fnd_iff hs]
  constructor
  · rintro ⟨g, hg, e⟩; exact ⟨g, mem_del hg, e⟩
  · rintro ⟨g, hg, e⟩
    refine ⟨g, ?_, e⟩
    unfold del
    cases hf : fnd l s with
    | false => rw [if_neg (by decide)]; exact hg
    | true =>
      rw [if_pos rfl]
      obtain ⟨hp, e2⟩ := fnd_true hf
      obtain ⟨i, hi, rfl⟩ := List.mem_iff_getElem.1 hg
      rcases Nat.lt_trichotomy i (pos l s) with h | h | h
      · exact List.mem_append_left _ (List.mem_take_iff_getElem.2 ⟨i, by omega, rfl⟩)
      · subst h; exact absurd (e2.symm.trans e) hn
      · refine List.mem_append_right _ (List.mem_drop_iff_getElem.2 ⟨i - (pos l s + 1), by omega, ?_⟩)
        congr 1; omega
theorem pos_del {l : List File} {s : ByteArray} (hs : Srt l) (hf : fnd l s = true) : pos (del l s) s = pos l s ∧ fnd (del l s) s = false := by
  obtain ⟨hp, e⟩ := fnd_true hf
  have hd : del l s = l.take (pos l s) ++ l.drop (pos l s + 1) := by unfold del; rw [if_pos hf]
  have h1 : pos (del l s) s = pos l s := by
    rw [hd, pos_split (fun g hg => mem_take_lt hs hg) (fun g hg h => by
      have := mem_drop_gt (g := g) hs (by rw [hf, if_pos rfl]; exact hg)
      exact l_irrefl _ (l_trans h this)), List.length_take]
    omega
  refine ⟨h1, ?_⟩
  cases hx : fnd (del l s) s with
  | false => rfl
  | true =>
    obtain ⟨g, hg, e3⟩ := (fnd_iff (srt_del hs)).1 hx
    rw [hd] at hg
    rcases List.mem_append.1 hg with hg | hg
    · have := mem_take_lt hs hg; rw [e3] at this; exact absurd this (l_irrefl _)
    · have := mem_drop_gt (g := g) hs (by rw [hf, if_pos rfl]; exact hg); rw [e3] at this; exact absurd this (l_irrefl _)
theorem put_del {l : List File} {f : File} (hs : Srt l) (hf : fnd l f.1 = true) : put (del l f.1) f = put l f := by
  obtain ⟨h1, h2⟩ := pos_del hs hf
  have hp := (fnd_true hf).1
  unfold put
  rw [h1, h2, hf, if_neg (by decide), if_pos rfl, Nat.add_zero]
  have hd : del l f.1 = l.take (pos l f.1) ++ l.drop (pos l f.1 + 1) := by unfold del; rw [if_pos hf]
  rw [hd]
  have hl : (l.take (pos l f.1)).length = pos l f.1 := by rw [List.length_take]; omega
  rw [List.take_left' hl, List.drop_left' hl]

/-! ### one operation -/
def lno (l : List File) (s : ByteArray) : List ByteArray := match l[pos l s]? with
  | some f => f.2.1
  | none => []
noncomputable def stp (l : List File) (o : Op) : List File × Int :=
  bif !decide (wrg o = 0) then ([], wrg o)
  else bif decide (o.1 > 4) then (l, 0)
  else bif decide (o.1 = 1) then (bif !decide (rm l o.2.1 = 0) then ([], rm l o.2.1) else bif decide (200 ≤ l.length) then ([], 14) else (put l (o.2.1, [], ()), 0))
  else bif !fnd l o.2.1 then ([], 6)
  else bif decide (o.1 = 2) then (bif !decide (lno l o.2.1 = o.2.2.2.2.1) then ([], 12) else (del l o.2.1, 0))
  else bif decide (o.1 = 3) then (bif !decide ((ap (lno l o.2.1) (hk o)).2 = 0) then ([], (ap (lno l o.2.1) (hk o)).2) else (put l (o.2.1, (ap (lno l o.2.1) (hk o)).1, ()), 0))
  else bif !decide (rm (del l o.2.1) o.2.2.1 = 0) then ([], rm (del l o.2.1) o.2.2.1) else (put (del l o.2.1) (o.2.2.1, lno l o.2.1, ()), 0)
theorem lno_at {l : List File} {s : ByteArray} (hf : fnd l s = true) : ∃ hp : pos l s < l.length, lno l s = l[pos l s].2.1 := by
  obtain ⟨hp, _⟩ := fnd_true hf
  exact ⟨hp, by unfold lno; rw [List.getElem?_eq_getElem hp]⟩
theorem wrg_fm {o : Op} (hw : wrg o = 0) : (1 ≤ o.1 ∧ o.1 ≤ 6) ∧ fm o = true := by
  unfold wrg at hw
  cases hb : decide (o.1 < 1) || decide (o.1 > 6) with
  | true => rw [hb] at hw; cases hw
  | false =>
    rw [hb] at hw
    simp only [Bool.or_eq_false_iff, decide_eq_false_iff_not] at hb
    refine ⟨by omega, ?_⟩
    cases hf : fm o with
    | true => rfl
    | false => rw [hf] at hw; cases hw
theorem fm_path {o : Op} (hw : wrg o = 0) (h4 : o.1 ≤ 4) : right o.2.1 = true := by
  obtain ⟨⟨h1, h6⟩, hf⟩ := wrg_fm hw
  unfold fm at hf
  rcases (by omega : o.1 = 1 ∨ o.1 = 2 ∨ o.1 = 3 ∨ o.1 = 4) with k | k | k | k <;> rw [k] at hf
  · have hf : (right o.2.1 && _) = true := hf
    exact (Bool.and_eq_true_iff.1 hf).1
  · have hf : ((right o.2.1 && _) && _) = true := hf
    exact (Bool.and_eq_true_iff.1 (Bool.and_eq_true_iff.1 hf).1).1
  · have hf : ((right o.2.1 && _) && _) = true := hf
    exact (Bool.and_eq_true_iff.1 (Bool.and_eq_true_iff.1 hf).1).1
  · have hf : (((right o.2.1 && _) && _) && _) = true := hf
    exact (Bool.and_eq_true_iff.1 (Bool.and_eq_true_iff.1 (Bool.and_eq_true_iff.1 hf).1).1).1
theorem fm_to {o : Op} (hw : wrg o = 0) (k : o.1 = 4) : right o.2.2.1 = true ∧ o.2.1 ≠ o.2.2.1 := by
  obtain ⟨⟨h1, h6⟩, hf⟩ := wrg_fm hw
  unfold fm at hf
  rw [k] at hf
  have hf : (((right o.2.1 && right o.2.2.1) && !decide (o.2.1 = o.2.2.1)) && _) = true := hf
  have h2 := (Bool.and_eq_true_iff.1 hf).1
  have h3 := Bool.and_eq_true_iff.1 h2
  refine ⟨(Bool.and_eq_true_iff.1 h3.1).2, fun e => ?_⟩
  have := h3.2
  rw [decide_eq_true e] at this
  cases this
theorem without_ev (l : List File) (s : ByteArray) (hs : Srt l) (hl : l.length ≤ 1000) : tree_Tree_without.f (l, ()) s = some (del l s, ()) := by
  refine tree_Tree_without.in _ _ ?_
  rw [find_ev l s hs (by omega), Option.bind_some]
  unfold del
  cases hf : fnd l s with
  | false => rfl
  | true =>
    obtain ⟨hp, _⟩ := fnd_true hf
    simp only [Bool.not_true, Bool.false_eq_true, if_false]
    rw [cut0 (by omega), Option.bind_some, wS (by omega), cut_ (by omega) (Nat.le_refl _), Option.bind_some, concat_ev _ (by simp) (by simp; omega), Option.bind_some, if_pos trivial]
    simp
theorem get_ev (l : List File) (s : ByteArray) (hs : Srt l) (hl : l.length ≤ 1000) (hf : ∀ f ∈ l, f.2.1.length ≤ 1000000) : tree_Tree_Get.f (l, ()) s = some (bif fnd l s then (lno l s, true, ()) else ([], false, ())) := by
  refine tree_Tree_Get.in _ _ ?_
  rw [find_ev l s hs (by omega), Option.bind_some]
  cases hn : fnd l s with
  | false => rfl
  | true =>
    obtain ⟨hp, e⟩ := lno_at hn
    simp only [Bool.not_true, Bool.false_eq_true, if_false]
    rw [ix_ hp, Option.bind_some, clone_ev _ (by have := hf _ (List.getElem_mem hp); omega), Option.bind_some, e]
    rfl
theorem create_ev (l : List File) (s : ByteArray) (T : Tr l) (hl : l.length ≤ 200) (hr : right s = true) : tree_Tree_create.f (l, ()) s = some (bif !decide (rm l s = 0) then ((l, ()), rm l s, ()) else bif decide (200 ≤ l.length) then ((l, ()), 14, ()) else ((put l (s, [], ()), ()), 0, ())) := by
  refine tree_Tree_create.in _ _ ?_
  rw [room_ev l s T.srt T.good hr (by omega), Option.bind_some]
  simp only [jn_eq]
  have e : decide ((l.length : Int) ≥ 200) = decide (200 ≤ l.length) := by rw [decide_eq_decide]; omega
  rw [e]
  cases h0 : decide (rm l s = 0) with
  | false => simp only [Bool.false_and, Bool.false_eq_true, if_false, Bool.not_false, if_true, cond_true, h0]
  | true =>
    cases h2 : decide (200 ≤ l.length) with
    | true => rfl
    | false =>
      simp only [Bool.and_false, Bool.false_eq_true, if_false, Bool.not_true, h0]
      rw [with_ev l (s, [], ()) T.srt (by omega)]
      rfl
theorem apply_ev (l : List File) (o : Op) (T : Tr l) (hl : l.length ≤ 200) (h1 : o.2.2.2.2.1.length ≤ 1000000) (h2 : o.2.2.2.2.2.1.length ≤ 1000000) : tree_Tree_Apply.f (l, ()) o = some (((stp l o).1, ()), (stp l o).2, ()) := by
  have hL := fun f hf => linesOk_len (T.lines f hf)
  refine tree_Tree_Apply.in _ _ ?_
  rw [oright_ev o h1 h2, Option.bind_some]
  unfold stp
  cases hw : decide (wrg o = 0) with
  | false => rfl
  | true =>
    have hw' := of_decide_eq_true hw
    obtain ⟨⟨r1, r6⟩, _⟩ := wrg_fm hw'
    simp only [Bool.not_true, Bool.false_eq_true, if_false, cond_false, jn_eq]
    rw [op_Policy.in o (r := decide (o.1 = 5) || decide (o.1 = 6)) rfl, Option.bind_some]
    by_cases k5 : o.1 > 4
    · have e : (decide (o.1 = 5) || decide (o.1 = 6)) = true := by simp only [Bool.or_eq_true, decide_eq_true_eq]; omega
      rw [e, decide_eq_true k5]; rfl
    · have e : (decide (o.1 = 5) || decide (o.1 = 6)) = false := by simp only [Bool.or_eq_false_iff, decide_eq_false_iff_not]; omega
      have hp := fm_path hw' (by omega)
      rw [e, decide_eq_false k5, if_neg (by decide)]
      simp only [cond_false]
      by_cases k1 : o.1 = 1
      · rw [decide_eq_true k1, if_pos rfl, create_ev l o.2.1 T hl hp, Option.bind_some]
        cases h0 : decide (rm l o.2.1 = 0) with
        | false => simp only [Bool.not_false, cond_true, h0, if_true]
        | true =>
          cases h3 : decide (200 ≤ l.length) with
          | true => rfl
          | false => rfl
      · rw [decide_eq_false k1, if_neg (by decide), get_ev l o.2.1 T.srt (by omega) (fun f hf => by have := (hL f hf).1; omega), Option.bind_some]
        simp only [cond_false]
        cases hn : fnd l o.2.1 with
        | false => rfl
        | true =>
          obtain ⟨hpo, elno⟩ := lno_at hn
          have hlno : (lno l o.2.1).length ≤ 1000 := by rw [elno]; exact (hL _ (List.getElem_mem hpo)).1
          simp only [cond_true, cond_false, Bool.not_true, Bool.false_eq_true, if_false]
          by_cases k2 : o.1 = 2
          · rw [decide_eq_true k2]
            have hc : tree_Tree_change.f (l, ()) o (lno l o.2.1) = some (bif !decide (lno l o.2.1 = o.2.2.2.2.1) then ((l, ()), 12, ()) else ((del l o.2.1, ()), 0, ())) := by
              refine tree_Tree_change.in _ _ _ ?_
              rw [decide_eq_true k2, if_pos rfl, equal_ev _ _ (by omega) (by omega), Option.bind_some]
              cases decide (lno l o.2.1 = o.2.2.2.2.1) with
              | false => rfl
              | true => simp only [Bool.not_true, Bool.false_eq_true, if_false]; rw [without_ev l _ T.srt (by omega)]; rfl
            rw [hc, Option.bind_some]
            cases decide (lno l o.2.1 = o.2.2.2.2.1) <;> rfl
          · rw [decide_eq_false k2]
            simp only [cond_false]
            by_cases k3 : o.1 = 3
            · rw [decide_eq_true k3]
              have hc : tree_Tree_change.f (l, ()) o (lno l o.2.1) = some (bif !decide ((ap (lno l o.2.1) (hk o)).2 = 0) then ((l, ()), (ap (lno l o.2.1) (hk o)).2, ()) else ((put l (o.2.1, (ap (lno l o.2.1) (hk o)).1, ()), ()), 0, ())) := by
                refine tree_Tree_change.in _ _ _ ?_
                rw [decide_eq_false k2, if_neg (by decide), decide_eq_true k3, if_pos rfl, op_Hunk.in o (r := hk o) rfl, Option.bind_some, ap_ev _ (hk o) (by omega) h1 h2, Option.bind_some]
                cases h0 : decide ((ap (lno l o.2.1) (hk o)).2 = 0) with
                | false => simp only [h0, Bool.not_false, if_true, cond_true]
                | true =>
                  simp only [h0, Bool.not_true, Bool.false_eq_true, if_false, cond_false]
                  rw [with_ev l _ T.srt (by omega)]; rfl
              rw [hc, Option.bind_some]
              cases h0 : decide ((ap (lno l o.2.1) (hk o)).2 = 0) with
              | false => simp only [h0, Bool.not_false, if_true, cond_true]
              | true => rfl
            · rw [decide_eq_false k3]
              obtain ⟨ht, hne⟩ := fm_to hw' (by omega)
              have T' : Srt (del l o.2.1) := srt_del T.srt
              have hdl := del_len (l := l) (s := o.2.1)
              have hc : tree_Tree_change.f (l, ()) o (lno l o.2.1) = some (bif !decide (rm (del l o.2.1) o.2.2.1 = 0) then ((l, ()), rm (del l o.2.1) o.2.2.1, ()) else ((put (del l o.2.1) (o.2.2.1, lno l o.2.1, ()), ()), 0, ())) := by
                refine tree_Tree_change.in _ _ _ ?_
                rw [decide_eq_false k2, if_neg (by decide), decide_eq_false k3, if_neg (by decide), without_ev l _ T.srt (by omega), Option.bind_some, find_ev l _ T.srt (by omega), Option.bind_some]
                cases hx : fnd l o.2.2.1 with
                | true =>
                  have : rm (del l o.2.1) o.2.2.1 = 7 := by unfold rm; rw [fnd_del T.srt hne, hx]; rfl
                  rw [this]; rfl
                | false =>
                  simp only [Bool.false_eq_true, if_false]
                  rw [room_ev (del l o.2.1) _ T' (fun g hg => T.good g (mem_del hg)) ht (by omega), Option.bind_some]
                  cases h0 : decide (rm (del l o.2.1) o.2.2.1 = 0) with
                  | false => rfl
                  | true =>
                    simp only [Bool.not_true, Bool.false_eq_true, if_false, cond_false]
                    rw [with_ev _ _ T' (by omega)]; rfl
              rw [hc, Option.bind_some]
              simp only [cond_false]
              cases h0 : decide (rm (del l o.2.1) o.2.2.1 = 0) with
              | false => simp only [h0, Bool.not_false, if_true, cond_true]
              | true => rfl

/-! ### the reference's -/
theorem drop_ev (l : List File) (k : Nat) (hl : l.length ≤ 1000) : quitclaimref14_drop.f l (k : Int) = some (l.take k ++ l.drop (k + 1)) := by
  refine quitclaimref14_drop.in _ _ ?_
  refine (wh_list l (fun i (x : List File) => ((l, (k : Int), x, i, ()), (), ())) (fun i x => x = l.take (min i k) ++ (l.take i).drop (k + 1)) (fun _ _ => l.take k ++ l.drop (k + 1)) (fun x r hI => ?_) (fun i x r h hI hr => ?_) [] (by simp)).trans rfl
  · simp (disch := omega) only [decide_eq_true_eq, if_neg]
    rw [hI, List.take_length]
    congr 2
    rcases Nat.le_total l.length k with h | h
    · rw [Nat.min_eq_left h, List.take_length, List.take_of_length_le h]
    · rw [Nat.min_eq_right h]
  · simp only []
    rw [decide_eq_true (show (i : Int) < (l.length : Int) by omega), if_pos rfl]
    have e : decide ((i : Int) = (k : Int)) = decide (i = k) := by rw [decide_eq_decide]; omega
    rw [e, wS (by omega)]
    by_cases hk : i = k
    · rw [decide_eq_true hk, if_neg (by decide)]
      refine hr _ ?_
      rw [hI, hk, Nat.min_eq_right (by omega : k ≤ k + 1), Nat.min_self, List.drop_eq_nil_of_le (by simp; omega), List.drop_eq_nil_of_le (by simp; omega)]
    · rw [decide_eq_false hk, if_pos (by decide), ix_ h, Option.bind_some]
      have hx : x.length ≤ i := by rw [hI, List.length_append, List.length_take, List.length_drop, List.length_take]; omega
      rw [app_ (by simp; omega), Option.bind_some]
      refine hr _ ?_
      rw [hI, List.take_succ_eq_append_getElem h]
      rcases Nat.lt_or_gt_of_ne hk with h1 | h1
      · rw [Nat.min_eq_left (by omega : i ≤ k), Nat.min_eq_left (by omega : i + 1 ≤ k), List.take_succ_eq_append_getElem h, List.drop_eq_nil_of_le (by simp; omega), List.drop_eq_nil_of_le (by simp; omega)]
        simp
      · rw [Nat.min_eq_right (by omega : k ≤ i), Nat.min_eq_right (by omega : k ≤ i + 1), List.drop_append_of_le_length (by simp; omega), List.append_assoc]
theorem rapply_ev (l : List File) (o : Op) (T : Tr l) (hl : l.length ≤ 200) (h1 : o.2.2.2.2.1.length ≤ 1000000) (h2 : o.2.2.2.2.2.1.length ≤ 1000000) (h3 : ∀ s ∈ o.2.2.2.2.1, s.size ≤ 1000000) (h4 : ∀ s ∈ o.2.2.2.2.2.1, s.size ≤ 1000000) : quitclaimref14_Apply.f l o = some ((stp l o).1, (stp l o).2, ()) := by
  have hL := fun f hf => linesOk_len (T.lines f hf)
  refine quitclaimref14_Apply.in _ _ ?_
  rw [rright_op o h1 h2 h3 h4, Option.bind_some]
  unfold stp
  cases hw : decide (wrg o = 0) with
  | false => rfl
  | true =>
    have hw' := of_decide_eq_true hw
    obtain ⟨⟨r1, r6⟩, _⟩ := wrg_fm hw'
    simp only [Bool.not_true, Bool.false_eq_true, if_false, cond_false]
    by_cases k5 : o.1 > 4
    · rw [decide_eq_true k5]; rfl
    · rw [decide_eq_false k5, if_neg (by decide), at_ev l o.2.1 T.srt (by omega), Option.bind_some]
      simp only [cond_false]
      by_cases k1 : o.1 = 1
      · rw [decide_eq_true k1, if_pos rfl, rroom_ev l o.2.1 T.srt (by omega), Option.bind_some]
        cases h0 : decide (rm l o.2.1 = 0) with
        | false => simp only [Bool.not_false, cond_true, if_true]
        | true =>
          have e : decide ((l.length : Int) ≥ 200) = decide (200 ≤ l.length) := by rw [decide_eq_decide]; omega
          rw [e]
          simp only [Bool.not_true, Bool.false_eq_true, if_false, cond_true, cond_false]
          cases h3 : decide (200 ≤ l.length) with
          | true => rfl
          | false =>
            simp only [Bool.false_eq_true, if_false, cond_false]
            rw [rput_ev l _ T.srt (rm_zero (of_decide_eq_true h0)) (by omega)]; rfl
      · rw [decide_eq_false k1, if_neg (by decide)]
        simp only [cond_false]
        cases hn : fnd l o.2.1 with
        | false => rfl
        | true =>
          obtain ⟨hpo, elno⟩ := lno_at hn
          obtain ⟨_, epa⟩ := fnd_true hn
          have hd : l.take (pos l o.2.1) ++ l.drop (pos l o.2.1 + 1) = del l o.2.1 := by unfold del; rw [if_pos hn]
          have hlno : (lno l o.2.1).length ≤ 1000 := by rw [elno]; exact (hL _ (List.getElem_mem hpo)).1
          have hlnz : ∀ s ∈ lno l o.2.1, s.size ≤ 1000000 := by rw [elno]; exact fun s hs => by have := (hL _ (List.getElem_mem hpo)).2 s hs; omega
          have T' : Srt (del l o.2.1) := srt_del T.srt
          have hdl := del_len (l := l) (s := o.2.1)
          obtain ⟨hpd, hfd⟩ := pos_del T.srt hn
          simp only [Bool.not_true, cond_false, if_true]
          rw [decide_eq_false (show ¬ ((pos l o.2.1 : Nat) : Int) < 0 by omega), if_neg (by decide), drop_ev l _ (by omega), hd, Option.bind_some]
          by_cases k2 : o.1 = 2
          · rw [decide_eq_true k2, if_pos rfl, ix_ hpo, Option.bind_some, ← elno, same_ev _ _ (by omega) (by omega), Option.bind_some]
            cases decide (lno l o.2.1 = o.2.2.2.2.1) <;> rfl
          · rw [decide_eq_false k2, if_neg (by decide)]
            simp only [cond_false]
            by_cases k3 : o.1 = 3
            · rw [decide_eq_true k3, if_pos rfl, ix_ hpo, Option.bind_some, ← elno, show ((o.2.2.2.1, o.2.2.2.2.1, o.2.2.2.2.2.1, ()) : Hk) = hk o from rfl, rap_ev (lno l o.2.1) (hk o) (by omega) h1 h2 hlnz h3 h4, Option.bind_some]
              cases h0 : decide ((ap (lno l o.2.1) (hk o)).2 = 0) with
              | false => simp only [h0, Bool.not_false, if_true, cond_true]
              | true =>
                simp only [h0, Bool.not_true, Bool.false_eq_true, if_false, cond_true, cond_false]
                rw [rput_ev (del l o.2.1) (o.2.1, (ap (lno l o.2.1) (hk o)).1, ()) T' hfd (by omega), Option.bind_some]
                have := put_del (l := l) (f := (o.2.1, (ap (lno l o.2.1) (hk o)).1, ())) T.srt hn
                rw [this]
            · rw [decide_eq_false k3, if_neg (by decide), rroom_ev _ _ T' (by omega), Option.bind_some]
              simp only [cond_false]
              cases h0 : decide (rm (del l o.2.1) o.2.2.1 = 0) with
              | false => simp only [Bool.not_false, if_true, cond_true]
              | true =>
                simp only [Bool.not_true, Bool.false_eq_true, if_false, cond_false]
                rw [ix_ hpo, Option.bind_some]
                have e : ((o.2.2.1, l[pos l o.2.1].2) : File) = (o.2.2.1, lno l o.2.1, ()) := by rw [elno]
                rw [e, rput_ev (del l o.2.1) (o.2.2.1, lno l o.2.1, ()) T' (rm_zero (of_decide_eq_true h0)) (by omega)]; rfl

/-! ### a tree stays one -/
theorem del_len1 {l : List File} {s : ByteArray} (hf : fnd l s = true) : (del l s).length + 1 = l.length := by
  obtain ⟨hp, _⟩ := fnd_true hf
  unfold del
  rw [if_pos hf, List.length_append, List.length_take, List.length_drop]; omega
theorem put_len1 {l : List File} {f : File} (hf : fnd l f.1 = true) : (put l f).length = l.length := by
  obtain ⟨hp, _⟩ := fnd_true hf
  unfold put
  rw [hf, if_pos rfl, List.length_append, List.length_take, List.length_cons, List.length_drop]; omega
theorem Tr.del {l : List File} {s : ByteArray} (T : Tr l) : Tr (del l s) := ⟨srt_del T.srt, fun g hg => T.good g (mem_del hg), fun g hg => T.lines g (mem_del hg)⟩
theorem ap_ok {l : List ByteArray} {h : Hk} (q : (ap l h).2 = 0) : linesOk (ap l h).1 = true := by
  unfold ap at q ⊢
  cases c1 : linesOk l with
  | false => rw [c1] at q; cases q
  | true =>
    cases c2 : hright h with
    | false => rw [c1, c2] at q; cases q
    | true =>
      rw [c1, c2] at q
      simp only [Bool.not_true, Bool.or_false, cond_false] at q ⊢
      cases c3 : decide (h.1 > (l.length : Int)) with
      | true => rw [c3] at q; cases q
      | false =>
        rw [c3] at q
        simp only [cond_false] at q ⊢
        cases c4 : std l h with
        | false => rw [c4] at q; cases q
        | true =>
          rw [c4] at q
          simp only [Bool.not_true, cond_false] at q ⊢
          cases c5 : decide (1000 < (apl l h).length) with
          | true => rw [c5] at q; cases q
          | false =>
            simp only [cond_false]
            have c5' := of_decide_eq_false c5
            obtain ⟨_, _, _, q4⟩ := hright_at c2
            unfold linesOk at c1 q4 ⊢
            simp only [Bool.and_eq_true, decide_eq_true_eq, List.all_eq_true] at c1 q4 ⊢
            refine ⟨by omega, fun x hx => ?_⟩
            unfold apl at hx
            rcases List.mem_append.1 hx with hx | hx
            · rcases List.mem_append.1 hx with hx | hx
              · exact c1.2 x (List.mem_of_mem_take hx)
              · exact q4.2 x hx
            · exact c1.2 x (List.mem_of_mem_drop hx)
theorem stp_tr {l : List File} {o : Op} (T : Tr l) (hl : l.length ≤ 200) : Tr (stp l o).1 ∧ (stp l o).1.length ≤ 200 := by
  have N : Tr ([] : List File) ∧ ([] : List File).length ≤ 200 := ⟨Tr.nil, by simp⟩
  unfold stp
  cases hw : decide (wrg o = 0) with
  | false => exact N
  | true =>
    have hw' := of_decide_eq_true hw
    obtain ⟨⟨r1, r6⟩, _⟩ := wrg_fm hw'
    simp only [Bool.not_true, cond_false]
    by_cases k5 : o.1 > 4
    · rw [decide_eq_true k5]; exact ⟨T, hl⟩
    · have hp := fm_path hw' (by omega)
      rw [decide_eq_false k5]
      simp only [cond_false]
      by_cases k1 : o.1 = 1
      · rw [decide_eq_true k1]
        simp only [cond_true]
        cases decide (rm l o.2.1 = 0) with
        | false => exact N
        | true =>
          cases h3 : decide (200 ≤ l.length) with
          | true => exact N
          | false =>
            have := of_decide_eq_false h3
            have := put_len (l := l) (f := (o.2.1, [], ()))
            exact ⟨T.put hp rfl, by simp only [Bool.not_true, cond_false]; omega⟩
      · rw [decide_eq_false k1]
        simp only [cond_false]
        cases hn : fnd l o.2.1 with
        | false => exact N
        | true =>
          obtain ⟨hpo, elno⟩ := lno_at hn
          have hdl := del_len1 hn
          simp only [Bool.not_true, cond_false]
          by_cases k2 : o.1 = 2
          · rw [decide_eq_true k2]
            simp only [cond_true]
            cases decide (lno l o.2.1 = o.2.2.2.2.1) with
            | false => exact N
            | true => exact ⟨T.del, by simp only [Bool.not_true, cond_false]; omega⟩
          · rw [decide_eq_false k2]
            simp only [cond_false]
            by_cases k3 : o.1 = 3
            · rw [decide_eq_true k3]
              simp only [cond_true]
              cases h0 : decide ((ap (lno l o.2.1) (hk o)).2 = 0) with
              | false => exact N
              | true =>
                have := put_len1 (l := l) (f := (o.2.1, (ap (lno l o.2.1) (hk o)).1, ())) hn
                exact ⟨T.put hp (ap_ok (of_decide_eq_true h0)), by simp only [Bool.not_true, cond_false]; omega⟩
            · rw [decide_eq_false k3]
              obtain ⟨ht, hne⟩ := fm_to hw' (by omega)
              simp only [cond_false]
              cases decide (rm (del l o.2.1) o.2.2.1 = 0) with
              | false => exact N
              | true =>
                have := put_len (l := del l o.2.1) (f := (o.2.2.1, lno l o.2.1, ()))
                exact ⟨T.del.put ht (by show linesOk (lno l o.2.1) = true; rw [elno]; exact T.lines l[pos l o.2.1] (List.getElem_mem hpo)), by simp only [Bool.not_true, cond_false]; omega⟩

/-! ### all of a row -/
noncomputable def alls (l0 : List File) : List Op → Nat → List File → List File × Int × Int
  | [], i, t => (t, i, 0)
  | o :: os, i, t => bif !decide ((stp t o).2 = 0) then (l0, i, (stp t o).2) else alls l0 os (i + 1) (stp t o).1
theorem alls_tr {l0 : List File} (T0 : Tr l0) (h0 : l0.length ≤ 200) : ∀ (os : List Op) (i : Nat) (t : List File), Tr t → t.length ≤ 200 → Tr (alls l0 os i t).1 ∧ (alls l0 os i t).1.length ≤ 200
  | [], i, t, T, h => ⟨T, h⟩
  | o :: os, i, t, T, h => by
    obtain ⟨a, b⟩ := stp_tr (o := o) T h
    unfold alls
    cases decide ((stp t o).2 = 0) with
    | false => exact ⟨T0, h0⟩
    | true => exact alls_tr T0 h0 os (i + 1) _ a b
/-- What is not long. -/
structure Sh1 (o : Op) : Prop where
  p : o.2.1.size ≤ 300
  t : o.2.2.1.size ≤ 300
  a : o.2.2.2.2.1.length ≤ 40
  b : o.2.2.2.2.2.1.length ≤ 40
  c : ∀ s ∈ o.2.2.2.2.1, s.size ≤ 300
  d : ∀ s ∈ o.2.2.2.2.2.1, s.size ≤ 300
theorem all_ev (l : List File) (os : List Op) (T : Tr l) (hl : l.length ≤ 200) (ho : os.length ≤ 1000000) (hs : ∀ o ∈ os, Sh1 o) : tree_Tree_All.f (l, ()) os = some (((alls l os 0 l).1, ()), (alls l os 0 l).2.1, (alls l os 0 l).2.2, ()) := by
  refine tree_Tree_All.in _ _ ?_
  refine (wh_list os (fun i (t : Nat × List File) => ((os, (), (), (), os, (os.length : Int), i, ()), (l, ()), ([], ()), (t.2, ()), ())) (fun i t => t.1 = i ∧ Tr t.2 ∧ t.2.length ≤ 200) (fun x t => (((alls l x t.1 t.2).1, ()), (alls l x t.1 t.2).2.1, (alls l x t.1 t.2).2.2, ())) (fun t r hI => ?_) (fun i t r h hI hr => ?_) (0, l) ⟨rfl, T, hl⟩).trans rfl
  · obtain ⟨i, t⟩ := t
    obtain ⟨h1, T1, h2⟩ := hI
    simp only at h1
    subst h1
    simp (disch := omega) only [decide_eq_true_eq, if_neg]
    rfl
  · obtain ⟨j, t⟩ := t
    obtain ⟨h1, T1, h2⟩ := hI
    simp only at h1 h2 T1
    subst h1
    have q := hs _ (List.getElem_mem h)
    obtain ⟨a, b⟩ := stp_tr (o := os[j]) T1 h2
    simp (disch := omega) only [decide_eq_true_eq, if_pos, ix_, Option.bind_some, wS]
    rw [apply_ev t os[j] T1 h2 (by have := q.a; omega) (by have := q.b; omega), Option.bind_some]
    unfold alls
    cases h0 : decide ((stp t os[j]).2 = 0) with
    | false => simp only [h0, Bool.not_false, if_true, cond_true]
    | true =>
      simp only [h0, Bool.not_true, Bool.false_eq_true, if_false, cond_false]
      exact hr (j + 1, (stp t os[j]).1) ⟨rfl, a, b⟩
theorem rall_ev (l : List File) (os : List Op) (T : Tr l) (hl : l.length ≤ 200) (ho : os.length ≤ 1000000) (hs : ∀ o ∈ os, Sh1 o) : quitclaimref14_All.f l os = some ((alls l os 0 l).1, (alls l os 0 l).2.1, (alls l os 0 l).2.2, ()) := by
  refine quitclaimref14_All.in _ _ ?_
  refine (wh_list os (fun i (t : Nat × List File) => (l, os, t.2, i, ())) (fun i t => t.1 = i ∧ Tr t.2 ∧ t.2.length ≤ 200) (fun x t => ((alls l x t.1 t.2).1, (alls l x t.1 t.2).2.1, (alls l x t.1 t.2).2.2, ())) (fun t r hI => ?_) (fun i t r h hI hr => ?_) (0, l) ⟨rfl, T, hl⟩).trans rfl
  · obtain ⟨i, t⟩ := t
    obtain ⟨h1, T1, h2⟩ := hI
    simp only at h1
    subst h1
    simp (disch := omega) only [decide_eq_true_eq, if_neg]
    rfl
  · obtain ⟨j, t⟩ := t
    obtain ⟨h1, T1, h2⟩ := hI
    simp only at h1 h2 T1
    subst h1
    have q := hs _ (List.getElem_mem h)
    obtain ⟨a, b⟩ := stp_tr (o := os[j]) T1 h2
    simp (disch := omega) only [decide_eq_true_eq, if_pos, ix_, Option.bind_some, wS]
    rw [rapply_ev t os[j] T1 h2 (by have := q.a; omega) (by have := q.b; omega) (fun s h => by have := q.c s h; omega) (fun s h => by have := q.d s h; omega), Option.bind_some]
    unfold alls
    cases h0 : decide ((stp t os[j]).2 = 0) with
    | false => simp only [h0, Bool.not_false, if_true, cond_true]
    | true =>
      simp only [h0, Bool.not_true, Bool.false_eq_true, if_false, cond_false]
      exact hr (j + 1, (stp t os[j]).1) ⟨rfl, a, b⟩
end Go.Proofs.YtmjkflppajienaaGreatDoor.R.Pu
