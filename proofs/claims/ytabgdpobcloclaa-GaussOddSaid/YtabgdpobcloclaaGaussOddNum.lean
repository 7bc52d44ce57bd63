/- Any float by its value times 2^1074: what 'whole' tells of it; no condition. -/
import Derived.Test.YtabgdpobcloclaaGaussNum
namespace Go.Proofs.Ytabgdpobcloclaa.GO
open Go.RowKit Go.Proofs.YtabgdpobcloclaaW.PrintWords Go.Proofs.YtabgdpobcloclaaW.XF Go.Proofs.YtabgdpobcloclaaW.XG Go.Proofs.Ytabgdpobcloclaa.Gauss Go.Proofs.Ytabgdpobcloclaa.GN
open Ieee

/-- how far below the point the last digit of any float may stand -/
def J : Nat := 1074
theorem least_J : double.leastPlace = -(J : Int) := by decide
attribute [irreducible] J
/-- a datum is a number whose value times 2^J is V -/
def Num (d : Datum) (s : Bool) (V : Int) : Prop := ∃ (m : Nat) (u : Nat), d = .number s m ((u : Int) - J) ∧ V = signed s m u
theorem signed_eq (s : Bool) (m u : Nat) : signed s m u = (if s then -1 else 1) * ((m * 2 ^ u : Nat) : Int) := by
  unfold signed
  rw [Nat.shiftLeft_eq]
  cases s <;> simp
theorem order_num {d1 d2 : Datum} {s1 s2 : Bool} {V1 V2 : Int} (h1 : Num d1 s1 V1) (h2 : Num d2 s2 V2) : d1.order d2 = some (compare V1 V2) := by
  obtain ⟨m1, u1, rfl, rfl⟩ := h1
  obtain ⟨m2, u2, rfl, rfl⟩ := h2
  simp only [Datum.order]
  have hb : min ((u1 : Int) - J) ((u2 : Int) - J) = ((min u1 u2 : Nat) : Int) - J := by omega
  rw [hb]
  have e1 : ((u1 : Int) - J - (((min u1 u2 : Nat) : Int) - J)).toNat = u1 - min u1 u2 := by omega
  have e2 : ((u2 : Int) - J - (((min u1 u2 : Nat) : Int) - J)).toNat = u2 - min u1 u2 := by omega
  rw [e1, e2]
  have hp : (0 : Int) < 2 ^ (min u1 u2) := Int.pow_pos (by decide)
  have key : ∀ (s : Bool) (m u k : Nat), k ≤ u → signed s m u = signed s m (u - k) * 2 ^ k := by
    intro s m u k hk
    rw [signed_eq, signed_eq, Int.mul_assoc]
    congr 1
    have : u = (u - k) + k := by omega
    conv => lhs; rw [this, Nat.pow_add, ← Nat.mul_assoc]
    simp
  rw [key s1 m1 u1 (min u1 u2) (Nat.min_le_left _ _), key s2 m2 u2 (min u1 u2) (Nat.min_le_right _ _)]
  generalize signed s1 m1 (u1 - min u1 u2) = a
  generalize signed s2 m2 (u2 - min u1 u2) = b
  congr 1
  show compareOfLessAndEq a b = compareOfLessAndEq _ _
  unfold compareOfLessAndEq
  have a1 : (a * 2 ^ (min u1 u2) < b * 2 ^ (min u1 u2)) = (a < b) := propext ⟨fun h => Int.lt_of_mul_lt_mul_right h (Int.le_of_lt hp), fun h => Int.mul_lt_mul_of_pos_right h hp⟩
  have a2 : (a * 2 ^ (min u1 u2) = b * 2 ^ (min u1 u2)) = (a = b) := propext ⟨fun h => Int.eq_of_mul_eq_mul_right (Int.ne_of_gt hp) h, fun h => by rw [h]⟩
  simp only [a1, a2]

/-- what a word may be -/
theorem read_cases (b : Nat) : (∃ s V, Num (double.read b) s V ∧ s = (b / 2 ^ 63 % 2 == 1) ∧ (V = 0 → b % 2 ^ 63 = 0)) ∨ (∃ s, double.read b = .infinity s) ∨ (∃ s t, double.read b = .nan s t) := by
  unfold Format.read
  simp only [signW, binade_, infR, least_J]
  by_cases h1 : b % 2 ^ 63 < 2 ^ 52
  · rw [if_pos h1]
    refine .inl ⟨_, _, ⟨b % 2 ^ 63, 0, by simp, rfl⟩, rfl, fun h => ?_⟩
    rw [signed_eq] at h
    rcases Int.mul_eq_zero.1 h with h | h
    · split at h <;> omega
    · simp at h; omega
  · rw [if_neg h1]
    by_cases h2 : b % 2 ^ 63 < 2047 * 2 ^ 52
    · rw [if_pos h2]
      refine .inl ⟨_, _, ⟨2 ^ 52 + b % 2 ^ 63 % 2 ^ 52, (b % 2 ^ 63 / 2 ^ 52 - 1), by congr 1; omega, rfl⟩, rfl, fun h => ?_⟩
      rw [signed_eq] at h
      exfalso
      rcases Int.mul_eq_zero.1 h with h | h
      · split at h <;> omega
      · have : (2 ^ 52 + b % 2 ^ 63 % 2 ^ 52) * 2 ^ (b % 2 ^ 63 / 2 ^ 52 - 1) = 0 := by exact_mod_cast h
        rcases Nat.mul_eq_zero.1 this with h | h
        · omega
        · exact absurd h (Nat.ne_of_gt (Nat.two_pow_pos _))
    · rw [if_neg h2]
      by_cases h3 : b % 2 ^ 63 = 2047 * 2 ^ 52
      · rw [if_pos h3]; exact .inr (.inl ⟨_, rfl⟩)
      · rw [if_neg h3]; exact .inr (.inr ⟨_, _, rfl⟩)

theorem num_B (v : Int) (z : Bool) (h0 : 0 ≤ v) (h : v < 70000) : Num (double.read (B v z)) (sgn v z) (v * 2 ^ J) := by
  obtain ⟨j, e⟩ := read_B v z (by rw [lim53]; omega)
  by_cases hv : v = 0
  · subst hv
    refine ⟨0, 0, ?_, by simp [signed_eq]⟩
    have : double.read (B 0 z) = .number (sgn 0 z) 0 (-(J : Int)) := by
      rw [← least_J]; cases z <;> decide
    rw [this]; simp
  · have hs : sgn v z = false := by
      unfold sgn; rw [if_neg hv]; simpa using h0
    rw [hs] at e ⊢
    have hj : j ≤ J := by
      rcases read_cases (B v z) with ⟨s, V, ⟨m, u, e', _⟩, _⟩ | ⟨s, e'⟩ | ⟨s, t, e'⟩
      · rw [e] at e'
        injection e' with _ _ h3
        omega
      · rw [e] at e'; cases e'
      · rw [e] at e'; cases e'
    refine ⟨v.natAbs * 2 ^ j, J - j, by rw [e]; congr 1; omega, ?_⟩
    rw [signed_eq, Nat.mul_assoc, ← Nat.pow_add, show j + (J - j) = J by omega]
    obtain ⟨n, rfl⟩ := Int.eq_ofNat_of_zero_le h0
    simp

theorem cut_zero_any (s : Bool) (n d : Nat) : Toward.zero.cut s n d = n / 2 ^ d := by
  unfold Toward.cut
  by_cases h : d ≤ n.log2 + 2
  · have hm : min d (n.log2 + 2) = d := by omega
    simp only [hm, Nat.one_shiftLeft]
    rfl
  · have hm : min d (n.log2 + 2) = n.log2 + 2 := by omega
    simp only [hm, Nat.one_shiftLeft]
    have h1 : n < 2 ^ (n.log2 + 2) := Nat.lt_of_lt_of_le Nat.lt_log2_self (Nat.pow_le_pow_right (by decide) (by omega))
    have h2 : n < 2 ^ d := Nat.lt_of_lt_of_le h1 (Nat.pow_le_pow_right (by decide) (by omega))
    rw [Nat.div_eq_of_lt h1, Nat.div_eq_of_lt h2]
    rfl

theorem cut_num (s : Bool) (m u : Nat) : Toward.zero.cut s (m <<< ((u : Int) - J).toNat) (-((u : Int) - J)).toNat = m * 2 ^ u / 2 ^ J := by
  rw [cut_zero_any, Nat.shiftLeft_eq]
  by_cases h : J ≤ u
  · have e1 : ((u : Int) - J).toNat = u - J := by omega
    have e2 : (-((u : Int) - J)).toNat = 0 := by omega
    rw [e1, e2, Nat.pow_zero, Nat.div_one]
    have : 2 ^ u = 2 ^ (u - J) * 2 ^ J := by rw [← Nat.pow_add]; congr 1; omega
    rw [this, ← Nat.mul_assoc, Nat.mul_div_cancel _ (Nat.two_pow_pos J)]
  · have e1 : ((u : Int) - J).toNat = 0 := by omega
    have e2 : (-((u : Int) - J)).toNat = J - u := by omega
    rw [e1, e2, Nat.pow_zero, Nat.mul_one]
    have : 2 ^ J = 2 ^ (J - u) * 2 ^ u := by rw [← Nat.pow_add]; congr 1; omega
    rw [this, Nat.mul_div_mul_right _ _ (Nat.two_pow_pos u)]

/-- a number that isn't below 0: its whole part -/
theorem int_num {d : Datum} {s : Bool} {V : Int} (h : Num d s V) (h0 : 0 ≤ V) : ∃ n : Nat, (n : Int) = V / 2 ^ J ∧ d.integral .zero = .number s n 0 ∧ d.toInt .zero = some (n : Int) ∧ (n ≠ 0 → s = false) := by
  obtain ⟨m, u, rfl, rfl⟩ := h
  rw [signed_eq] at h0
  have hpos : 0 < 2 ^ u := Nat.two_pow_pos u
  have hcast : ((2 : Int) ^ J) = ((2 ^ J : Nat) : Int) := by simp
  have hs : s = true → m = 0 := by
    rintro rfl
    simp only [if_true] at h0
    refine Decidable.byContradiction fun hm => ?_
    have : 0 < m * 2 ^ u := Nat.mul_pos (Nat.pos_of_ne_zero hm) hpos
    omega
  have hV : signed s m u = ((m * 2 ^ u : Nat) : Int) := by
    rw [signed_eq]
    cases s
    · simp
    · rw [hs rfl]; simp
  refine ⟨m * 2 ^ u / 2 ^ J, ?_, ?_, ?_, ?_⟩
  · rw [hV, hcast]; exact Int.natCast_ediv _ _
  · simp only [Datum.integral, cut_num]
  · simp only [Datum.toInt, Datum.integral, cut_num]
    congr 1
    rw [signed_eq]
    cases s
    · simp
    · rw [hs rfl]; simp
  · intro hn
    cases s with
    | false => rfl
    | true => rw [hs rfl] at hn; simp at hn

def oneF : Nat := 4607182418800017408
/-- 1/v > 0 -/
def gtInv (b : Nat) : Bool := match floatBits .quo .f64 oneF b with
  | some q => FloatKind.f64.format.order q 0 == some .gt
  | none => false
/-- what the statement's own test tells -/
def oddB (b : Nat) : Bool :=
  if feq b 0 then gtInv b else if feq b (B 1 false) then true else if feq b (B 2 false) then true else if feq b (B 65518 false) then true else if feq b (B 65519 false) then false else if feq b (B 300 false) then true
  else geB b 0 && (ltB b PB && feq b (floatOfInt .f64 ((floatToIntVal .f64 b .i64).getD 0)))

section
variable {b : Nat} {s : Bool} {V : Int} (h : Num (double.read b) s V)
include h
theorem feq_num (v : Int) (z : Bool) (h0 : 0 ≤ v) (h1 : v < 70000) : feq b (B v z) = decide (V = v * 2 ^ J) := by
  unfold feq
  have e : FloatKind.f64.format.order b (B v z) = some (compare V (v * 2 ^ J)) := order_num h (num_B v z h0 h1)
  rw [e]
  by_cases hv : V = v * 2 ^ J
  · rw [decide_eq_true hv, beq_iff_eq]; congr 1; exact Int.compare_eq_eq.2 hv
  · rw [decide_eq_false hv, beq_eq_false_iff_ne]
    exact fun e => hv (Int.compare_eq_eq.1 (Option.some.inj e))
theorem ge_num : geB b 0 = decide (0 ≤ V) := by
  unfold geB
  have e : FloatKind.f64.format.order b (B 0 false) = some (compare V (0 * 2 ^ J)) := order_num h (num_B 0 false (by decide) (by decide))
  rw [zeroB, Int.zero_mul] at e
  simp only [e]
  rcases Int.lt_trichotomy V 0 with hv | hv | hv
  · rw [Int.compare_eq_lt.2 hv, decide_eq_false (by omega)]; rfl
  · rw [Int.compare_eq_eq.2 hv, decide_eq_true (by omega)]; rfl
  · rw [Int.compare_eq_gt.2 hv, decide_eq_true (by omega)]; rfl
theorem lt_num : ltB b PB = decide (V < 65519 * 2 ^ J) := by
  unfold ltB
  have e : FloatKind.f64.format.order b (B 65519 false) = some (compare V (65519 * 2 ^ J)) := order_num h (num_B 65519 false (by decide) (by decide))
  rw [primeB] at e
  rw [e]
  generalize (65519 * 2 ^ J : Int) = M
  rcases Int.lt_trichotomy V M with hv | hv | hv
  · rw [Int.compare_eq_lt.2 hv, decide_eq_true hv]; rfl
  · rw [Int.compare_eq_eq.2 hv, decide_eq_false (by omega)]; rfl
  · rw [Int.compare_eq_gt.2 hv, decide_eq_false (by omega)]; rfl
theorem small_num (h0 : 0 ≤ V) (h1 : V < 65519 * 2 ^ J) : ∃ n : Int, 0 ≤ n ∧ n < 65519 ∧ n = V / 2 ^ J ∧ floatToIntVal .f64 b .i64 = some n ∧ tr b = B n s := by
  obtain ⟨n, hn, hi, ht, hs⟩ := int_num h h0
  have hp : (0 : Int) < 2 ^ J := Int.pow_pos (by decide)
  have hlt : (n : Int) < 65519 := by
    rw [hn]; exact Int.ediv_lt_of_lt_mul hp h1
  refine ⟨n, by omega, hlt, hn, ?_, ?_⟩
  · unfold floatToIntVal
    have e : FloatKind.f64.decode b = double.read b := rfl
    rw [e, ht]
    have hmin : IntKind.i64.min = -9223372036854775808 := by decide
    have hmax : IntKind.i64.max = 9223372036854775807 := by decide
    simp only [hmin, hmax]
    rw [if_pos (by omega)]
  · unfold tr
    have e : FloatKind.f64.decode b = double.read b := rfl
    rw [e, hi]
    unfold B
    show double.write _ = _
    congr 2
    unfold sgn
    split
    · rfl
    · rename_i hne
      rw [hs (by omega), decide_eq_false (by omega)]
end
theorem sgnb_eq {b : Nat} (hb : b < 2 ^ 64) : sgnb b = (b / 2 ^ 63 % 2 == 1) := by
  unfold sgnb
  by_cases h : b < 2 ^ 63
  · have : wrap64 (b : Int) = b := by unfold wrap64; omega
    rw [this, decide_eq_false (by omega)]
    symm; rw [beq_eq_false_iff_ne]; omega
  · have : wrap64 (b : Int) = b - 18446744073709551616 := by unfold wrap64; omega
    rw [this, decide_eq_true (by omega)]
    symm; rw [beq_iff_eq]; omega

theorem order_inf (f : Format) (b c : Nat) (s s' : Bool) (m : Nat) (e : Int) (h : f.read b = .infinity s) (h' : f.read c = .number s' m e) : f.order b c = some (if s then .lt else .gt) := by
  unfold Format.order; rw [h, h']; rfl
theorem inf_no {b : Nat} {s : Bool} (h : double.read b = .infinity s) : (∀ v z, 0 ≤ v → v < 70000 → feq b (B v z) = false) ∧ (geB b 0 && ltB b PB) = false := by
  have key : ∀ v z, 0 ≤ v → v < 70000 → FloatKind.f64.format.order b (B v z) = some (if s then .lt else .gt) := by
    intro v z h0 h1
    obtain ⟨m, u, e, _⟩ := num_B v z h0 h1
    exact order_inf double b _ s _ m _ h e
  constructor
  · intro v z h0 h1
    unfold feq
    rw [key v z h0 h1]; cases s <;> rfl
  · have e0 := key 0 false (by decide) (by decide)
    have e1 := key 65519 false (by decide) (by decide)
    rw [zeroB] at e0
    rw [primeB] at e1
    unfold geB ltB
    simp only [e0, e1]
    cases s <;> rfl
theorem nan_no {b : Nat} {s : Bool} {t : Nat} (h : double.read b = .nan s t) : (∀ c, feq b c = false) ∧ geB b 0 = false := by
  have key : ∀ c, FloatKind.f64.format.order b c = none := fun c => order_nan double b c s t h
  constructor
  · intro c; unfold feq; rw [key]; rfl
  · unfold geB; simp only [key]; rfl

theorem quo_zero {b : Nat} {s : Bool} {e : Int} (h : double.read b = .number s 0 e) : gtInv b = !s := by
  have e1 : double.div oneF b = some (double.write (.infinity s)) := by
    unfold Format.div
    have h1 : double.read oneF = .number false 4503599627370496 (-52) := by decide
    rw [h, h1]
    cases s <;> rfl
  have e2 : floatBits .quo .f64 oneF b = some (double.write (.infinity s)) := e1
  unfold gtInv
  rw [e2]
  cases s <;> decide

theorem oddB_whole {b : Nat} (hb : b < 2 ^ 64) : oddB b = whole b := by
  have h0 : (0 : Nat) = B 0 false := zeroB.symm
  rcases read_cases b with ⟨s, V, h, hs, hz⟩ | ⟨s, h⟩ | ⟨s, t, h⟩
  · have hp : (0 : Int) < 2 ^ J := Int.pow_pos (by decide)
    have f0 : feq b 0 = decide (V = 0) := by
      have := feq_num h 0 false (by decide) (by decide)
      rw [zeroB, Int.zero_mul] at this
      exact this
    by_cases hV : V = 0
    · -- a zero
      have hb0 : b % 2 ^ 63 = 0 := hz hV
      have hbb : b = 0 ∨ b = 2 ^ 63 := by omega
      unfold oddB
      rw [f0, decide_eq_true hV, if_pos rfl]
      rcases hbb with rfl | rfl
      · rw [quo_zero (b := 0) (s := false) (e := -1074) (by decide)]
        rw [← zeroB, whole_B 0 (by decide) (by decide)]; rfl
      · rw [quo_zero (b := 2 ^ 63) (s := true) (e := -1074) (by decide)]
        have : sgnb (2 ^ 63) = true := by rw [sgnb_eq (by decide)]; decide
        unfold whole
        rw [this]
        simp
    · have hsV : 0 ≤ V → s = false := by
        intro hge
        obtain ⟨m, u, _, e⟩ := h
        cases s with
        | false => rfl
        | true =>
          exfalso
          rw [signed_eq] at e
          simp only [if_true] at e
          have : (0 : Int) ≤ ((m * 2 ^ u : Nat) : Int) := Int.natCast_nonneg _
          omega
      have hw : ∀ (n : Int), 0 ≤ V → V < 65519 * 2 ^ J → n = V / 2 ^ J → whole b = decide (V = n * 2 ^ J) := by
        intro n hge hlt hn
        obtain ⟨n', a, c, hn', _, ht⟩ := small_num h hge hlt
        obtain rfl : n = n' := hn.trans hn'.symm
        unfold whole
        rw [ge_num h, decide_eq_true hge, lt_num h, decide_eq_true hlt, ht, feq_num h n s a (by omega), sgnb_eq hb, ← hs, hsV hge]
        simp
      have yes : ∀ v : Int, 0 < v → v < 65519 → V = v * 2 ^ J → whole b = true := by
        intro v a c e
        have hge : 0 ≤ V := by rw [e]; exact Int.mul_nonneg (by omega) (Int.le_of_lt hp)
        have hlt : V < 65519 * 2 ^ J := by rw [e]; exact Int.mul_lt_mul_of_pos_right c hp
        rw [hw v hge hlt (by rw [e, Int.mul_ediv_cancel _ (Int.ne_of_gt hp)]), decide_eq_true e]
      unfold oddB
      rw [f0, decide_eq_false hV, if_neg (by simp), feq_num h 1 false (by decide) (by decide), feq_num h 2 false (by decide) (by decide), feq_num h 65518 false (by decide) (by decide), feq_num h 65519 false (by decide) (by decide), feq_num h 300 false (by decide) (by decide)]
      by_cases c1 : V = 1 * 2 ^ J
      · rw [decide_eq_true c1, if_pos rfl, yes 1 (by decide) (by decide) c1]
      rw [decide_eq_false c1, if_neg (by simp)]
      by_cases c2 : V = 2 * 2 ^ J
      · rw [decide_eq_true c2, if_pos rfl, yes 2 (by decide) (by decide) c2]
      rw [decide_eq_false c2, if_neg (by simp)]
      by_cases c3 : V = 65518 * 2 ^ J
      · rw [decide_eq_true c3, if_pos rfl, yes 65518 (by decide) (by decide) c3]
      rw [decide_eq_false c3, if_neg (by simp)]
      by_cases c4 : V = 65519 * 2 ^ J
      · rw [decide_eq_true c4, if_pos rfl]
        unfold whole
        rw [lt_num h, decide_eq_false (by rw [c4]; exact Int.lt_irrefl _)]
        simp
      rw [decide_eq_false c4, if_neg (by simp)]
      by_cases c5 : V = 300 * 2 ^ J
      · rw [decide_eq_true c5, if_pos rfl, yes 300 (by decide) (by decide) c5]
      rw [decide_eq_false c5, if_neg (by simp)]
      by_cases hge : 0 ≤ V
      · by_cases hlt : V < 65519 * 2 ^ J
        · obtain ⟨n, a, c, hn, hi, ht⟩ := small_num h hge hlt
          rw [hi, Option.getD_some, ofInt_B, feq_num h n false a (by omega), hw n hge hlt hn, ge_num h, decide_eq_true hge, lt_num h, decide_eq_true hlt]
          simp
        · unfold whole
          rw [lt_num h, decide_eq_false hlt]
          simp
      · unfold whole
        rw [ge_num h, decide_eq_false hge]
        simp
  · obtain ⟨h1, h2⟩ := inf_no h
    have f0 : feq b 0 = false := by rw [h0]; exact h1 0 false (by decide) (by decide)
    unfold oddB whole
    rw [f0, h1 1 false (by decide) (by decide), h1 2 false (by decide) (by decide), h1 65518 false (by decide) (by decide), h1 65519 false (by decide) (by decide), h1 300 false (by decide) (by decide)]
    simp only [Bool.false_eq_true, if_false]
    rw [← Bool.and_assoc, ← Bool.and_assoc, h2]
    rfl
  · obtain ⟨h1, h2⟩ := nan_no h
    unfold oddB whole
    rw [h1, h1, h1, h1, h1, h1, h2]
    rfl
end Go.Proofs.Ytabgdpobcloclaa.GO
