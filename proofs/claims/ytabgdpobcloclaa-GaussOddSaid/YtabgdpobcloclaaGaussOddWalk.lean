/- The contract of the test inside GaussOdd, walked by hand; no condition. -/
import Derived.Test.YtabgdpobcloclaaGaussOddNum
import Derived.LoopTactic
namespace Go.Proofs.Ytabgdpobcloclaa.GO
open Go.RowKit Go.Proofs.YtabgdpobcloclaaW.PrintWords Go.Proofs.YtabgdpobcloclaaW.XF Go.Proofs.Ytabgdpobcloclaa.Gauss Go.Proofs.Ytabgdpobcloclaa.GN
set_option linter.unusedVariables false

theorem quo_some {b : Nat} (h : feq b 0 = true) : ∃ q, floatBits .quo .f64 oneF b = some q ∧ gtInv b = (FloatKind.f64.format.order q 0 == some .gt) := by
  rcases read_cases b with ⟨s, V, hn, _, _⟩ | ⟨s, hn⟩ | ⟨s, t, hn⟩
  · have := feq_num hn 0 false (by decide) (by decide)
    rw [zeroB, h] at this
    have hV : V = 0 * 2 ^ J := of_decide_eq_true this.symm
    rw [Int.zero_mul] at hV
    obtain ⟨m, u, e1, e2⟩ := hn
    have hm : m = 0 := by
      rw [e2, signed_eq] at hV
      rcases Int.mul_eq_zero.1 hV with h | h
      · split at h <;> omega
      · have : m * 2 ^ u = 0 := by exact_mod_cast h
        rcases Nat.mul_eq_zero.1 this with h | h
        · exact h
        · exact absurd h (Nat.ne_of_gt (Nat.two_pow_pos _))
    subst hm
    refine ⟨Ieee.double.write (.infinity s), ?_, ?_⟩
    · show Ieee.double.div oneF b = _
      unfold Ieee.Format.div
      have h1 : Ieee.double.read oneF = .number false 4503599627370496 (-52) := by decide
      rw [e1, h1]
      cases s <;> rfl
    · rw [quo_zero e1]
      cases s <;> decide
  · have := (inf_no hn).1 0 false (by decide) (by decide)
    rw [zeroB, h] at this; cases this
  · have := (nan_no hn).1 0
    rw [h] at this; cases this

/-- the numbers that are asked -/
def lits : List Nat := [0, 4607182418800017408, 4611686018427387904, 4679237538936782848, 4679237676375736320, 4643985272004935680]

theorem two_ : B 2 false = 4611686018427387904 := by decide
theorem three_ : B 300 false = 4643985272004935680 := by decide
theorem prime_ : B 65519 false = 4679237676375736320 := by decide
theorem odd_form (b : Nat) : oddB b = if feq b 0 then gtInv b else if feq b 4607182418800017408 then true else if feq b 4611686018427387904 then true else if feq b 4679237538936782848 then true else if feq b 4679237676375736320 then false else if feq b 4643985272004935680 then true
  else geB b 0 && (ltB b PB && feq b (floatOfInt .f64 ((floatToIntVal .f64 b .i64).getD 0))) := by
  unfold oddB
  rw [oneB, two_, topB, prime_, three_]
theorem int_some {b : Nat} (h1 : geB b 0 = true) (h2 : ltB b PB = true) : ∃ n, floatToIntVal .f64 b .i64 = some n := by
  rcases read_cases b with ⟨s, V, hn, _, _⟩ | ⟨s, hn⟩ | ⟨s, t, hn⟩
  · rw [ge_num hn] at h1
    rw [lt_num hn] at h2
    obtain ⟨n, _, _, _, h, _⟩ := small_num hn (of_decide_eq_true h1) (of_decide_eq_true h2)
    exact ⟨n, h⟩
  · have := (inf_no hn).2
    rw [h1, h2] at this; cases this
  · have := (nan_no hn).2
    rw [h1] at this; cases this
set_option maxHeartbeats 4000000 in
theorem odd_calls (b : Nat) (w : World) :
    Calls Try.prog 39 #[.float .f64 b] w fun e w' => e = .returned (.bool (oddB b)) ∧ Below w.heap.size w w' := by
  go_enter Try.func39, Try.ntmps39
  go_wp2
  go_loop [7] (fun i => ∃ k : Nat, k ≤ 6 ∧ i = .int .i64 k ∧ Aside0 (∀ j, j < k → feq b (lits.getD j 0) = false)) (fun i => 6 - (intOf i).toNat)
  case atStart => exact ⟨0, by omega, rfl, ⟨fun j h => by omega⟩⟩
  case round =>
    obtain ⟨k, hk, rfl, hno⟩ := hrel
    obtain rfl | rfl | rfl | rfl | rfl | rfl | rfl : k = 0 ∨ k = 1 ∨ k = 2 ∨ k = 3 ∨ k = 4 ∨ k = 5 ∨ k = 6 := by omega
    · cases hf : feq b 0
      · have r := hf
        simp only [feq] at r
        have r' : (FloatKind.f64.format.order b 0 = some Ordering.eq) = False := eq_false (beq_eq_false_iff_ne.1 r)
        have Hf := Aside0.mk hf
        clear hf
        go_wp2
        go_round
        case rel =>
          refine ⟨1, by omega, rfl, ⟨fun j hj => ?_⟩⟩
          rcases Nat.lt_succ_iff_lt_or_eq.1 hj with h | h
          · exact hno.out j h
          · rw [h]; exact Hf.out
        case measure => simp [intOf]
      · obtain ⟨q, hq, hg⟩ := quo_some hf
        have ho : oddB b = (FloatKind.f64.format.order q 0 == some Ordering.gt) := by rw [odd_form b, hf, if_pos rfl, hg]
        have Ho := Aside0.mk ho
        have r := hf
        simp only [feq] at r
        have r' : (FloatKind.f64.format.order b 0 = some Ordering.eq) = True := eq_true (beq_iff_eq.1 r)
        have g1 : (FloatKind.f64.format.order b 0 != some Ordering.eq) = false := by rw [bne_eq_false_iff_eq]; exact beq_iff_eq.1 r
        have l1 : (FloatKind.f64.format.order 0 4679237676375736320 == some Ordering.lt) = true := by decide
        have l1' : (FloatKind.f64.format.order 0 4679237676375736320 = some Ordering.lt) = True := eq_true (beq_iff_eq.1 l1)
        have hq' := fun w => run_float_arith (P := Try.prog) w .quo 59 .f64 _ _ _ hq
        unfold oneF at hq'
        clear hf hg ho hq hno
        go_wp2
        go_ret
        exact ⟨by rw [Ho.out]; rfl, by repeat (first | exact Below.refl _ _ | apply below_alloc)⟩
    · cases hf : feq b 4607182418800017408
      · have r := hf
        simp only [feq] at r
        have r' : (FloatKind.f64.format.order b 4607182418800017408 = some Ordering.eq) = False := eq_false (beq_eq_false_iff_ne.1 r)
        have Hf := Aside0.mk hf
        clear hf
        go_wp2
        go_round
        case rel =>
          refine ⟨2, by omega, rfl, ⟨fun j hj => ?_⟩⟩
          rcases Nat.lt_succ_iff_lt_or_eq.1 hj with h | h
          · exact hno.out j h
          · rw [h]; exact Hf.out
        case measure => simp [intOf]
      · have f0 : feq b 0 = false := hno.out 0 (by decide)
        have ho : oddB b = true := by rw [odd_form b, f0, if_neg (by simp), hf]; rfl
        have Ho := Aside0.mk ho
        have r := hf
        simp only [feq] at r f0
        have r' : (FloatKind.f64.format.order b 4607182418800017408 = some Ordering.eq) = True := eq_true (beq_iff_eq.1 r)
        have g0 : (FloatKind.f64.format.order b 0 = some Ordering.eq) = False := eq_false (beq_eq_false_iff_ne.1 f0)
        have g1 : (FloatKind.f64.format.order b 0 != some Ordering.eq) = true := by rw [bne_iff_ne]; exact beq_eq_false_iff_ne.1 f0
        have l1 : (FloatKind.f64.format.order 4607182418800017408 4679237676375736320 == some Ordering.lt) = true := by decide
        have l1' : (FloatKind.f64.format.order 4607182418800017408 4679237676375736320 = some Ordering.lt) = True := eq_true (beq_iff_eq.1 l1)
        clear hf ho hno
        go_wp2
        go_ret
        exact ⟨by rw [Ho.out]; rfl, by repeat (first | exact Below.refl _ _ | apply below_alloc)⟩
    · cases hf : feq b 4611686018427387904
      · have r := hf
        simp only [feq] at r
        have r' : (FloatKind.f64.format.order b 4611686018427387904 = some Ordering.eq) = False := eq_false (beq_eq_false_iff_ne.1 r)
        have Hf := Aside0.mk hf
        clear hf
        go_wp2
        go_round
        case rel =>
          refine ⟨3, by omega, rfl, ⟨fun j hj => ?_⟩⟩
          rcases Nat.lt_succ_iff_lt_or_eq.1 hj with h | h
          · exact hno.out j h
          · rw [h]; exact Hf.out
        case measure => simp [intOf]
      · have f0 : feq b 0 = false := hno.out 0 (by decide)
        have f1 : feq b 4607182418800017408 = false := hno.out 1 (by decide)
        have ho : oddB b = true := by rw [odd_form b, f0, if_neg (by simp), f1, if_neg (by simp), hf]; rfl
        have Ho := Aside0.mk ho
        have r := hf
        simp only [feq] at r f0
        have r' : (FloatKind.f64.format.order b 4611686018427387904 = some Ordering.eq) = True := eq_true (beq_iff_eq.1 r)
        have g0 : (FloatKind.f64.format.order b 0 = some Ordering.eq) = False := eq_false (beq_eq_false_iff_ne.1 f0)
        have g1 : (FloatKind.f64.format.order b 0 != some Ordering.eq) = true := by rw [bne_iff_ne]; exact beq_eq_false_iff_ne.1 f0
        have l1 : (FloatKind.f64.format.order 4611686018427387904 4679237676375736320 == some Ordering.lt) = true := by decide
        have l1' : (FloatKind.f64.format.order 4611686018427387904 4679237676375736320 = some Ordering.lt) = True := eq_true (beq_iff_eq.1 l1)
        clear hf ho hno f1
        go_wp2
        go_ret
        exact ⟨by rw [Ho.out]; rfl, by repeat (first | exact Below.refl _ _ | apply below_alloc)⟩
    · cases hf : feq b 4679237538936782848
      · have r := hf
        simp only [feq] at r
        have r' : (FloatKind.f64.format.order b 4679237538936782848 = some Ordering.eq) = False := eq_false (beq_eq_false_iff_ne.1 r)
        have Hf := Aside0.mk hf
        clear hf
        go_wp2
        go_round
        case rel =>
          refine ⟨4, by omega, rfl, ⟨fun j hj => ?_⟩⟩
          rcases Nat.lt_succ_iff_lt_or_eq.1 hj with h | h
          · exact hno.out j h
          · rw [h]; exact Hf.out
        case measure => simp [intOf]
      · have f0 : feq b 0 = false := hno.out 0 (by decide)
        have f1 : feq b 4607182418800017408 = false := hno.out 1 (by decide)
        have f2 : feq b 4611686018427387904 = false := hno.out 2 (by decide)
        have ho : oddB b = true := by rw [odd_form b, f0, if_neg (by simp), f1, if_neg (by simp), f2, if_neg (by simp), hf]; rfl
        have Ho := Aside0.mk ho
        have r := hf
        simp only [feq] at r f0
        have r' : (FloatKind.f64.format.order b 4679237538936782848 = some Ordering.eq) = True := eq_true (beq_iff_eq.1 r)
        have g0 : (FloatKind.f64.format.order b 0 = some Ordering.eq) = False := eq_false (beq_eq_false_iff_ne.1 f0)
        have g1 : (FloatKind.f64.format.order b 0 != some Ordering.eq) = true := by rw [bne_iff_ne]; exact beq_eq_false_iff_ne.1 f0
        have l1 : (FloatKind.f64.format.order 4679237538936782848 4679237676375736320 == some Ordering.lt) = true := by decide
        have l1' : (FloatKind.f64.format.order 4679237538936782848 4679237676375736320 = some Ordering.lt) = True := eq_true (beq_iff_eq.1 l1)
        clear hf ho hno f1 f2
        go_wp2
        go_ret
        exact ⟨by rw [Ho.out]; rfl, by repeat (first | exact Below.refl _ _ | apply below_alloc)⟩
    · cases hf : feq b 4679237676375736320
      · have r := hf
        simp only [feq] at r
        have r' : (FloatKind.f64.format.order b 4679237676375736320 = some Ordering.eq) = False := eq_false (beq_eq_false_iff_ne.1 r)
        have Hf := Aside0.mk hf
        clear hf
        go_wp2
        go_round
        case rel =>
          refine ⟨5, by omega, rfl, ⟨fun j hj => ?_⟩⟩
          rcases Nat.lt_succ_iff_lt_or_eq.1 hj with h | h
          · exact hno.out j h
          · rw [h]; exact Hf.out
        case measure => simp [intOf]
      · have f0 : feq b 0 = false := hno.out 0 (by decide)
        have f1 : feq b 4607182418800017408 = false := hno.out 1 (by decide)
        have f2 : feq b 4611686018427387904 = false := hno.out 2 (by decide)
        have f3 : feq b 4679237538936782848 = false := hno.out 3 (by decide)
        have ho : oddB b = false := by rw [odd_form b, f0, if_neg (by simp), f1, if_neg (by simp), f2, if_neg (by simp), f3, if_neg (by simp), hf]; rfl
        have Ho := Aside0.mk ho
        have r := hf
        simp only [feq] at r f0
        have r' : (FloatKind.f64.format.order b 4679237676375736320 = some Ordering.eq) = True := eq_true (beq_iff_eq.1 r)
        have g0 : (FloatKind.f64.format.order b 0 = some Ordering.eq) = False := eq_false (beq_eq_false_iff_ne.1 f0)
        have g1 : (FloatKind.f64.format.order b 0 != some Ordering.eq) = true := by rw [bne_iff_ne]; exact beq_eq_false_iff_ne.1 f0
        have l1 : (FloatKind.f64.format.order 4679237676375736320 4679237676375736320 == some Ordering.lt) = false := by decide
        have l1' : (FloatKind.f64.format.order 4679237676375736320 4679237676375736320 = some Ordering.lt) = False := eq_false (beq_eq_false_iff_ne.1 l1)
        clear hf ho hno f1 f2 f3
        go_wp2
        go_ret
        exact ⟨by rw [Ho.out]; rfl, by repeat (first | exact Below.refl _ _ | apply below_alloc)⟩
    · cases hf : feq b 4643985272004935680
      · have r := hf
        simp only [feq] at r
        have r' : (FloatKind.f64.format.order b 4643985272004935680 = some Ordering.eq) = False := eq_false (beq_eq_false_iff_ne.1 r)
        have Hf := Aside0.mk hf
        clear hf
        go_wp2
        go_round
        case rel =>
          refine ⟨6, by omega, rfl, ⟨fun j hj => ?_⟩⟩
          rcases Nat.lt_succ_iff_lt_or_eq.1 hj with h | h
          · exact hno.out j h
          · rw [h]; exact Hf.out
        case measure => simp [intOf]
      · have f0 : feq b 0 = false := hno.out 0 (by decide)
        have f1 : feq b 4607182418800017408 = false := hno.out 1 (by decide)
        have f2 : feq b 4611686018427387904 = false := hno.out 2 (by decide)
        have f3 : feq b 4679237538936782848 = false := hno.out 3 (by decide)
        have f4 : feq b 4679237676375736320 = false := hno.out 4 (by decide)
        have ho : oddB b = true := by rw [odd_form b, f0, if_neg (by simp), f1, if_neg (by simp), f2, if_neg (by simp), f3, if_neg (by simp), f4, if_neg (by simp), hf]; rfl
        have Ho := Aside0.mk ho
        have r := hf
        simp only [feq] at r f0
        have r' : (FloatKind.f64.format.order b 4643985272004935680 = some Ordering.eq) = True := eq_true (beq_iff_eq.1 r)
        have g0 : (FloatKind.f64.format.order b 0 = some Ordering.eq) = False := eq_false (beq_eq_false_iff_ne.1 f0)
        have g1 : (FloatKind.f64.format.order b 0 != some Ordering.eq) = true := by rw [bne_iff_ne]; exact beq_eq_false_iff_ne.1 f0
        have l1 : (FloatKind.f64.format.order 4643985272004935680 4679237676375736320 == some Ordering.lt) = true := by decide
        have l1' : (FloatKind.f64.format.order 4643985272004935680 4679237676375736320 = some Ordering.lt) = True := eq_true (beq_iff_eq.1 l1)
        clear hf ho hno f1 f2 f3 f4
        go_wp2
        go_ret
        exact ⟨by rw [Ho.out]; rfl, by repeat (first | exact Below.refl _ _ | apply below_alloc)⟩
    · have f0 : feq b 0 = false := hno.out 0 (by decide)
      have f1 : feq b 4607182418800017408 = false := hno.out 1 (by decide)
      have f2 : feq b 4611686018427387904 = false := hno.out 2 (by decide)
      have f3 : feq b 4679237538936782848 = false := hno.out 3 (by decide)
      have f4 : feq b 4679237676375736320 = false := hno.out 4 (by decide)
      have f5 : feq b 4643985272004935680 = false := hno.out 5 (by decide)
      have ho : oddB b = (geB b 0 && (ltB b PB && feq b (floatOfInt .f64 ((floatToIntVal .f64 b .i64).getD 0)))) := by rw [odd_form b, f0, if_neg (by simp), f1, if_neg (by simp), f2, if_neg (by simp), f3, if_neg (by simp), f4, if_neg (by simp), f5, if_neg (by simp)]
      clear f0 f1 f2 f3 f4 f5 hno
      cases h1 : geB b 0
      · rw [h1, Bool.false_and] at ho
        have Ho := Aside0.mk ho
        have r1 := h1
        simp only [geB] at r1
        clear h1 ho
        go_wp2
        go_ret
        exact ⟨by rw [Ho.out]; rfl, by repeat (first | exact Below.refl _ _ | apply below_alloc)⟩
      · rw [h1, Bool.true_and] at ho
        cases h2 : ltB b PB
        · rw [h2, Bool.false_and] at ho
          have Ho := Aside0.mk ho
          have r1 := h1
          simp only [geB] at r1
          have r2 := h2
          simp only [ltB, PB] at r2
          have r2' : (FloatKind.f64.format.order b 4679237676375736320 = some Ordering.lt) = False := eq_false (beq_eq_false_iff_ne.1 r2)
          clear h1 h2 ho
          go_wp2
          go_ret
          exact ⟨by rw [Ho.out]; rfl, by repeat (first | exact Below.refl _ _ | apply below_alloc)⟩
        · rw [h2, Bool.true_and] at ho
          obtain ⟨n, hn⟩ := int_some h1 h2
          have r1 := h1
          simp only [geB] at r1
          have r2 := h2
          simp only [ltB, PB] at r2
          have r2' : (FloatKind.f64.format.order b 4679237676375736320 = some Ordering.lt) = True := eq_true (beq_iff_eq.1 r2)
          have hcv := cvt b n hn
          rw [hn, Option.getD_some] at ho
          have e : feq b (floatOfInt .f64 n) = (FloatKind.f64.format.order b (floatOfInt .f64 n) == some Ordering.eq) := rfl
          rw [e] at ho
          have Ho := Aside0.mk ho
          clear h1 h2 hn e ho
          go_wp2
          go_ret
          exact ⟨by rw [Ho.out]; rfl, by repeat (first | exact Below.refl _ _ | apply below_alloc)⟩
end Go.Proofs.Ytabgdpobcloclaa.GO
