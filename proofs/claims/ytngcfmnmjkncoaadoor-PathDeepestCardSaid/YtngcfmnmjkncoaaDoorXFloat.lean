/- This session's words: whole numbers as floats (IEEE 754 double): sums, differences and products of whole numbers below 2^53 are exact; no condition. -/
import Derived.Laws.ComplexArith
namespace Go.Proofs.YtngcfmnmjkncoaaDoorW.XF
open Ieee

theorem least : double.leastPlace = -1074 := by decide
theorem binade_ : double.binade = 2 ^ 52 := rfl
theorem infR : double.infRung = 2047 * 2 ^ 52 := by decide
theorem signW : double.signWeight = 2 ^ 63 := rfl

/-- the sign of a number; a zero's is told beside -/
def sgn (v : Int) (z : Bool) : Bool := if v = 0 then z else decide (v < 0)
/-- a datum stands for a whole number -/
def Is (d : Datum) (v : Int) (z : Bool) : Prop := ∃ j : Nat, d = .number (sgn v z) (v.natAbs * 2 ^ j) (-(j : Int))
/-- the bits of a whole number; a zero's sign is told beside -/
def B (v : Int) (z : Bool) : Nat := double.write (.number (sgn v z) v.natAbs 0)

theorem cut_exact (s : Bool) (q d : Nat) (hq : q ≠ 0) : Toward.even.cut s (q * 2 ^ d) d = q := by
  have hne : q * 2 ^ d ≠ 0 := Nat.mul_ne_zero hq (Nat.ne_of_gt (Nat.two_pow_pos d))
  have hl : d ≤ (q * 2 ^ d).log2 := (Nat.le_log2 hne).2 (Nat.le_mul_of_pos_left _ (Nat.pos_of_ne_zero hq))
  have hm : min d ((q * 2 ^ d).log2 + 2) = d := by omega
  unfold Toward.cut
  simp only [hm, Nat.one_shiftLeft]
  have h1 : q * 2 ^ d % 2 ^ d = 0 := Nat.mul_mod_left _ _
  have h2 : q * 2 ^ d / 2 ^ d = q := Nat.mul_div_cancel _ (Nat.two_pow_pos d)
  have hp : 0 < 2 ^ d := Nat.two_pow_pos d
  rw [h1, h2]
  have : (decide (2 ^ d < 2 * 0) || 2 ^ d == 2 * 0 && q % 2 == 1) = false := by
    have a1 : decide (2 ^ d < 2 * 0) = false := by simp
    have a2 : (2 ^ d == 2 * 0) = false := by rw [beq_eq_false_iff_ne]; omega
    rw [a1, a2]; rfl
  rw [this]; rfl

theorem log2_mul (m j : Nat) (hm : m ≠ 0) : (m * 2 ^ j).log2 = m.log2 + j := by
  have hp := Nat.two_pow_pos j
  have hne : m * 2 ^ j ≠ 0 := Nat.mul_ne_zero hm (Nat.ne_of_gt hp)
  have h1 : 2 ^ m.log2 ≤ m := (Nat.le_log2 hm).1 (Nat.le_refl _)
  have h2 : m < 2 ^ (m.log2 + 1) := Nat.lt_log2_self
  apply Nat.le_antisymm
  · have : (m * 2 ^ j).log2 < m.log2 + 1 + j := (Nat.log2_lt hne).2 (by rw [Nat.pow_add]; exact Nat.mul_lt_mul_of_pos_right h2 hp)
    omega
  · rw [Nat.le_log2 hne, Nat.pow_add]
    exact Nat.mul_le_mul_right _ h1

/-- the rung of a whole number -/
def rung (m : Nat) : Nat := (m.log2 + 1022) * 2 ^ 52 + m * 2 ^ (52 - m.log2)

theorem log2_le (m : Nat) (hm : m ≠ 0) (h : m < 2 ^ 53) : m.log2 ≤ 52 := by
  have := (Nat.log2_lt hm).2 h
  omega

theorem top_le (m : Nat) (hm : m ≠ 0) (h : m < 2 ^ 53) : 2 ^ 52 ≤ m * 2 ^ (52 - m.log2) ∧ m * 2 ^ (52 - m.log2) < 2 ^ 53 := by
  have hl := log2_le m hm h
  have h1 : 2 ^ m.log2 ≤ m := (Nat.le_log2 hm).1 (Nat.le_refl _)
  have h2 : m < 2 ^ (m.log2 + 1) := Nat.lt_log2_self
  have hp := Nat.two_pow_pos (52 - m.log2)
  constructor
  · have : 2 ^ 52 = 2 ^ m.log2 * 2 ^ (52 - m.log2) := by rw [← Nat.pow_add]; congr 1; omega
    rw [this]; exact Nat.mul_le_mul_right _ h1
  · have : 2 ^ 53 = 2 ^ (m.log2 + 1) * 2 ^ (52 - m.log2) := by rw [← Nat.pow_add]; congr 1; omega
    rw [this]; exact Nat.mul_lt_mul_of_pos_right h2 hp

theorem nearest_scaled (s : Bool) (m j : Nat) (hm : m ≠ 0) (h : m < 2 ^ 53) : double.nearest s (m * 2 ^ j) (-(j : Int)) = double.word s (rung m) := by
  have hl := log2_le m hm h
  have hne : m * 2 ^ j ≠ 0 := Nat.mul_ne_zero hm (Nat.ne_of_gt (Nat.two_pow_pos j))
  have ht := top_le m hm h
  unfold Format.nearest
  rw [if_neg hne]
  simp only [log2_mul m j hm, least, binade_, infR]
  have hf : (double.fractionBits : Int) = 52 := rfl
  rw [hf]
  have hlast : max (-(j : Int) + ((m.log2 + j : Nat) : Int) - 52) (-1074) = (m.log2 : Int) - 52 := by omega
  rw [hlast]
  have h3 : ((m.log2 : Int) - 52 - -1074).toNat = m.log2 + 1022 := by omega
  rw [h3]
  have hk : Toward.even.cut s ((m * 2 ^ j) <<< (-(j : Int) - ((m.log2 : Int) - 52)).toNat) ((m.log2 : Int) - 52 - -(j : Int)).toNat = m * 2 ^ (52 - m.log2) := by
    by_cases hj : j ≤ 52 - m.log2
    · have e1 : (-(j : Int) - ((m.log2 : Int) - 52)).toNat = 52 - m.log2 - j := by omega
      have e2 : ((m.log2 : Int) - 52 - -(j : Int)).toNat = 0 := by omega
      rw [e1, e2, Nat.shiftLeft_eq]
      have e3 : m * 2 ^ j * 2 ^ (52 - m.log2 - j) = m * 2 ^ (52 - m.log2) := by
        rw [Nat.mul_assoc, ← Nat.pow_add]; congr 2; omega
      rw [e3]
      have := cut_exact s (m * 2 ^ (52 - m.log2)) 0 (by omega)
      simpa using this
    · have e1 : (-(j : Int) - ((m.log2 : Int) - 52)).toNat = 0 := by omega
      have e2 : ((m.log2 : Int) - 52 - -(j : Int)).toNat = j - (52 - m.log2) := by omega
      rw [e1, e2, Nat.shiftLeft_zero]
      have e3 : m * 2 ^ j = m * 2 ^ (52 - m.log2) * 2 ^ (j - (52 - m.log2)) := by
        rw [Nat.mul_assoc, ← Nat.pow_add]; congr 2; omega
      rw [e3]
      exact cut_exact s _ _ (by omega)
  rw [hk]
  have : min ((m.log2 + 1022) * 2 ^ 52 + m * 2 ^ (52 - m.log2)) (2047 * 2 ^ 52) = rung m := by
    unfold rung
    omega
  rw [this]

theorem write_is {d : Datum} {v : Int} {z : Bool} (h : Is d v z) (hv : v.natAbs < 2 ^ 53) : double.write d = B v z := by
  obtain ⟨j, rfl⟩ := h
  unfold B
  simp only [Format.write]
  by_cases h0 : v.natAbs = 0
  · simp [h0, Format.nearest]
  · rw [nearest_scaled _ _ j h0 hv]
    have := nearest_scaled (sgn v z) _ 0 h0 hv
    simpa using this.symm

theorem B_word {v : Int} {z : Bool} (h0 : v ≠ 0) (hv : v.natAbs < 2 ^ 53) : B v z = double.word (sgn v z) (rung v.natAbs) := by
  have := nearest_scaled (sgn v z) v.natAbs 0 (by omega) hv
  simp only [Nat.pow_zero, Nat.mul_one] at this
  exact this
theorem B_zero (z : Bool) : B 0 z = if z then 2 ^ 63 else 0 := by cases z <;> decide

theorem read_word (s : Bool) (r : Nat) (h1 : 2 ^ 52 ≤ r) (h2 : r < 2047 * 2 ^ 52) : double.read (double.word s r) = .number s (2 ^ 52 + r % 2 ^ 52) (-1074 + (r / 2 ^ 52 - 1 : Nat)) := by
  unfold Format.read
  simp only [signW, binade_, infR, least]
  have e1 : (double.word s r / 2 ^ 63 % 2 == 1) = s := by
    cases s
    · simp [Format.word]; omega
    · simp only [Format.word, signW, if_true]; rw [beq_iff_eq]; omega
  have e2 : double.word s r % 2 ^ 63 = r := by
    cases s
    · simp [Format.word]; omega
    · simp only [Format.word, signW, if_true]; omega
  rw [e1, e2, if_neg (by omega), if_pos h2]

theorem read_B (v : Int) (z : Bool) (hv : v.natAbs < 2 ^ 53) : Is (double.read (B v z)) v z := by
  by_cases h0 : v = 0
  · subst h0
    obtain ⟨J, hJ⟩ : ∃ J : Nat, J = 1074 := ⟨_, rfl⟩
    refine ⟨J, ?_⟩
    rw [Int.natAbs_zero, Nat.zero_mul, hJ]
    cases z <;> decide
  · rw [B_word h0 hv]
    have hm : v.natAbs ≠ 0 := by omega
    generalize hmm : v.natAbs = m at *
    have hl := log2_le m hm hv
    have ht := top_le m hm hv
    rw [read_word _ _ (by unfold rung; omega) (by unfold rung; omega)]
    refine ⟨52 - m.log2, ?_⟩
    have e1 : 2 ^ 52 + rung m % 2 ^ 52 = m * 2 ^ (52 - m.log2) := by unfold rung; omega
    have e2 : rung m / 2 ^ 52 = m.log2 + 1023 := by unfold rung; omega
    have e3 : (-1074 + ((m.log2 + 1023 - 1 : Nat) : Int)) = -((52 - m.log2 : Nat) : Int) := by omega
    rw [e1, e2, e3, hmm]

theorem signed_is (v : Int) (z : Bool) (j up : Nat) : signed (sgn v z) (v.natAbs * 2 ^ j) up = v * 2 ^ (j + up) := by
  have e : ((v.natAbs * 2 ^ j) <<< up : Nat) = v.natAbs * 2 ^ (j + up) := by rw [Nat.shiftLeft_eq, Nat.mul_assoc, ← Nat.pow_add]
  unfold signed
  rw [e]
  by_cases h0 : v = 0
  · subst h0; simp
  · unfold sgn
    rw [if_neg h0]
    by_cases hn : v < 0
    · rw [if_pos (by simpa using hn)]
      have : (v.natAbs : Int) = -v := by omega
      rw [Int.natCast_mul, this, Int.natCast_pow]
      simp [Int.neg_mul]
    · rw [if_neg (by simpa using hn)]
      have : (v.natAbs : Int) = v := by omega
      rw [Int.natCast_mul, this, Int.natCast_pow]
      simp

theorem natAbs_mul_pow (v : Int) (j : Nat) : (v * 2 ^ j).natAbs = v.natAbs * 2 ^ j := by
  rw [Int.natAbs_mul, Int.natAbs_pow]; rfl

theorem sgn_mul_pow (v : Int) (j : Nat) : decide (v * 2 ^ j < 0) = decide (v < 0) := by
  have hp : (0 : Int) < 2 ^ j := Int.pow_pos (by decide)
  congr 1
  exact propext ⟨fun h => by
      rcases Int.lt_or_le v 0 with g | g
      · exact g
      · have := Int.mul_nonneg g (Int.le_of_lt hp); omega, fun h => Int.mul_neg_of_neg_of_pos h hp⟩

theorem is_sum {d1 d2 : Datum} {v1 v2 : Int} {z1 z2 : Bool} (h1 : Is d1 v1 z1) (h2 : Is d2 v2 z2) : ∃ d, d1.sum d2 = some d ∧ Is d (v1 + v2) (sgn v1 z1 && sgn v2 z2) := by
  obtain ⟨j1, rfl⟩ := h1
  obtain ⟨j2, rfl⟩ := h2
  refine ⟨_, rfl, max j1 j2, ?_⟩
  have hb : min (-(j1 : Int)) (-(j2 : Int)) = -((max j1 j2 : Nat) : Int) := by omega
  rw [hb]
  have e1 : (-(j1 : Int) - -((max j1 j2 : Nat) : Int)).toNat = max j1 j2 - j1 := by omega
  have e2 : (-(j2 : Int) - -((max j1 j2 : Nat) : Int)).toNat = max j1 j2 - j2 := by omega
  rw [e1, e2, signed_is, signed_is, show j1 + (max j1 j2 - j1) = max j1 j2 by omega, show j2 + (max j1 j2 - j2) = max j1 j2 by omega, ← Int.add_mul]
  have hp : (0 : Int) < 2 ^ (max j1 j2) := Int.pow_pos (by decide)
  rw [natAbs_mul_pow, sgn_mul_pow]
  congr 1
  unfold sgn
  by_cases h0 : v1 + v2 = 0
  · rw [h0]; simp
  · rw [if_neg (Int.mul_ne_zero h0 (Int.ne_of_gt hp)), if_neg h0]

theorem is_opposite {d : Datum} {v : Int} {z : Bool} (h : Is d v z) : Is d.opposite (-v) (!z) := by
  obtain ⟨j, rfl⟩ := h
  refine ⟨j, ?_⟩
  simp only [Datum.opposite, Int.natAbs_neg]
  congr 1
  unfold sgn
  by_cases h0 : v = 0
  · simp [h0]
  · rw [if_neg h0, if_neg (by omega)]
    by_cases hn : v < 0
    · rw [decide_eq_true hn, decide_eq_false (by omega)]; rfl
    · rw [decide_eq_false hn, decide_eq_true (by omega)]; rfl

theorem is_product {d1 d2 : Datum} {v1 v2 : Int} {z1 z2 : Bool} (h1 : Is d1 v1 z1) (h2 : Is d2 v2 z2) : ∃ d, d1.product d2 = some d ∧ Is d (v1 * v2) (sgn v1 z1 ^^ sgn v2 z2) := by
  obtain ⟨j1, rfl⟩ := h1
  obtain ⟨j2, rfl⟩ := h2
  refine ⟨_, rfl, j1 + j2, ?_⟩
  have e1 : v1.natAbs * 2 ^ j1 * (v2.natAbs * 2 ^ j2) = (v1 * v2).natAbs * 2 ^ (j1 + j2) := by
    rw [Int.natAbs_mul, Nat.pow_add]
    rw [Nat.mul_assoc, Nat.mul_assoc, Nat.mul_left_comm (2 ^ j1)]
  have e2 : -(j1 : Int) + -(j2 : Int) = -((j1 + j2 : Nat) : Int) := by omega
  rw [e1, e2]
  congr 1
  unfold sgn
  by_cases h0 : v1 = 0
  · simp [h0]
  by_cases h0' : v2 = 0
  · simp [h0']
  rw [if_neg h0, if_neg h0', if_neg (Int.mul_ne_zero h0 h0')]
  rcases Int.lt_or_gt_of_ne h0 with a | a <;> rcases Int.lt_or_gt_of_ne h0' with b | b
  · have := Int.mul_pos_of_neg_of_neg a b
    rw [decide_eq_true a, decide_eq_true b, decide_eq_false (by omega)]; rfl
  · have := Int.mul_neg_of_neg_of_pos a b
    rw [decide_eq_true a, decide_eq_false (by omega), decide_eq_true this]; rfl
  · have := Int.mul_neg_of_pos_of_neg a b
    rw [decide_eq_false (by omega), decide_eq_true b, decide_eq_true this]; rfl
  · have := Int.mul_pos a b
    rw [decide_eq_false (by omega), decide_eq_false (by omega), decide_eq_false (by omega)]; rfl

theorem add_B (v1 v2 : Int) (z1 z2 : Bool) (h1 : v1.natAbs < 2 ^ 53) (h2 : v2.natAbs < 2 ^ 53) (h : (v1 + v2).natAbs < 2 ^ 53) : double.add (B v1 z1) (B v2 z2) = some (B (v1 + v2) (sgn v1 z1 && sgn v2 z2)) := by
  obtain ⟨d, hd, hi⟩ := is_sum (read_B v1 z1 h1) (read_B v2 z2 h2)
  unfold Format.add
  rw [hd, Option.map_some, write_is hi h]
theorem sub_B (v1 v2 : Int) (z1 z2 : Bool) (h1 : v1.natAbs < 2 ^ 53) (h2 : v2.natAbs < 2 ^ 53) (h : (v1 - v2).natAbs < 2 ^ 53) : double.sub (B v1 z1) (B v2 z2) = some (B (v1 - v2) (sgn v1 z1 && sgn (-v2) (!z2))) := by
  obtain ⟨d, hd, hi⟩ := is_sum (read_B v1 z1 h1) (is_opposite (read_B v2 z2 h2))
  unfold Format.sub
  rw [← Int.sub_eq_add_neg] at hi
  rw [hd, Option.map_some, write_is hi h]
theorem mul_B (v1 v2 : Int) (z1 z2 : Bool) (h1 : v1.natAbs < 2 ^ 53) (h2 : v2.natAbs < 2 ^ 53) (h : (v1 * v2).natAbs < 2 ^ 53) : double.mul (B v1 z1) (B v2 z2) = some (B (v1 * v2) (sgn v1 z1 ^^ sgn v2 z2)) := by
  obtain ⟨d, hd, hi⟩ := is_product (read_B v1 z1 h1) (read_B v2 z2 h2)
  unfold Format.mul
  rw [hd, Option.map_some, write_is hi h]

theorem order_B (v1 v2 : Int) (z1 z2 : Bool) (h1 : v1.natAbs < 2 ^ 53) (h2 : v2.natAbs < 2 ^ 53) : double.order (B v1 z1) (B v2 z2) = some (compare v1 v2) := by
  unfold Format.order
  obtain ⟨j1, e1⟩ := read_B v1 z1 h1
  obtain ⟨j2, e2⟩ := read_B v2 z2 h2
  rw [e1, e2]
  simp only [Datum.order]
  have hb : min (-(j1 : Int)) (-(j2 : Int)) = -((max j1 j2 : Nat) : Int) := by omega
  rw [hb]
  have e1 : (-(j1 : Int) - -((max j1 j2 : Nat) : Int)).toNat = max j1 j2 - j1 := by omega
  have e2 : (-(j2 : Int) - -((max j1 j2 : Nat) : Int)).toNat = max j1 j2 - j2 := by omega
  rw [e1, e2, signed_is, signed_is, show j1 + (max j1 j2 - j1) = max j1 j2 by omega, show j2 + (max j1 j2 - j2) = max j1 j2 by omega]
  have hp : (0 : Int) < 2 ^ (max j1 j2) := Int.pow_pos (by decide)
  congr 1
  show compareOfLessAndEq _ _ = compareOfLessAndEq v1 v2
  unfold compareOfLessAndEq
  have a1 : (v1 * 2 ^ (max j1 j2) < v2 * 2 ^ (max j1 j2)) = (v1 < v2) := propext ⟨fun h => Int.lt_of_mul_lt_mul_right h (Int.le_of_lt hp), fun h => Int.mul_lt_mul_of_pos_right h hp⟩
  have a2 : (v1 * 2 ^ (max j1 j2) = v2 * 2 ^ (max j1 j2)) = (v1 = v2) := propext ⟨fun h => Int.eq_of_mul_eq_mul_right (Int.ne_of_gt hp) h, fun h => by rw [h]⟩
  simp only [a1, a2]

theorem cut_zero (s : Bool) (q d : Nat) : Toward.zero.cut s (q * 2 ^ d) d = q := by
  unfold Toward.cut
  by_cases hq : q = 0
  · subst hq; simp
  have hne : q * 2 ^ d ≠ 0 := Nat.mul_ne_zero hq (Nat.ne_of_gt (Nat.two_pow_pos d))
  have hl : d ≤ (q * 2 ^ d).log2 := (Nat.le_log2 hne).2 (Nat.le_mul_of_pos_left _ (Nat.pos_of_ne_zero hq))
  have hm : min d ((q * 2 ^ d).log2 + 2) = d := by omega
  simp only [hm, Nat.one_shiftLeft]
  rw [Nat.mul_div_cancel _ (Nat.two_pow_pos d)]
  rfl

theorem toInt_B (v : Int) (z : Bool) (h : v.natAbs < 2 ^ 53) : (double.read (B v z)).toInt .zero = some v := by
  obtain ⟨j, e⟩ := read_B v z h
  rw [e]
  simp only [Datum.toInt, Datum.integral]
  have e1 : (-(j : Int)).toNat = 0 := by omega
  have e2 : (- -(j : Int)).toNat = j := by omega
  rw [e1, e2, Nat.shiftLeft_zero, cut_zero]
  have := signed_is v z 0 0
  simpa using this

theorem ofInt_B (v : Int) : floatOfInt .f64 v = B v false := by
  unfold B
  show double.write (.number (decide (v < 0)) v.natAbs 0) = _
  congr 2
  unfold sgn
  by_cases h : v = 0
  · simp [h]
  · rw [if_neg h]

theorem B_inj {v1 v2 : Int} {z1 z2 : Bool} (h1 : v1.natAbs < 2 ^ 53) (h2 : v2.natAbs < 2 ^ 53) (h : B v1 z1 = B v2 z2) : v1 = v2 := by
  have a := toInt_B v1 z1 h1
  rw [h, toInt_B v2 z2 h2] at a
  exact (Option.some.inj a).symm

end Go.Proofs.YtngcfmnmjkncoaaDoorW.XF
