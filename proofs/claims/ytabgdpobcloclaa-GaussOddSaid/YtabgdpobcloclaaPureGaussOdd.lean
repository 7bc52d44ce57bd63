/- GaussOdd's pure statement: of any floats it is told whether they are a residue's parts; of those that aren't nothing is reckoned; no condition. -/
import Derived.Test.YtabgdpobcloclaaPGaussOddx1
import Derived.Test.YtabgdpobcloclaaGaussNum
namespace Go.Proofs.Ytabgdpobcloclaa.Pure
open Go.RowKit Go.Proofs.Ytabgdpobcloclaa.PGaussOdd Go.Proofs.YtabgdpobcloclaaW.PrintWords Go.Proofs.YtabgdpobcloclaaW.PrintLast Go.Proofs.YtabgdpobcloclaaW.PrintMore
open Go.Proofs.YtabgdpobcloclaaW.XF Go.Proofs.YtabgdpobcloclaaW.XG Go.Proofs.Ytabgdpobcloclaa.GN

namespace GDD
theorem w64 {x : Int} (h : -9223372036854775808 ≤ x) (h' : x ≤ 9223372036854775807) : wrap64 x = x := by unfold wrap64; omega
theorem tmod_pos {x : Int} (h : 0 ≤ x) (n : Int) : Int.tmod x n = x % n := Int.tmod_eq_emod_of_nonneg h
theorem tmod_neg {x : Int} (h : x < 0) (n : Int) : Int.tmod x n = -((-x) % n) := by
  rw [← Int.neg_neg x, Int.neg_tmod, tmod_pos (by omega)]
  simp
theorem one_enc : ((4607182418800017408, 0) : Nat × Nat) = enc (1, 0) := by unfold enc; rw [oneB, zeroB]
theorem zero_enc : ((0, 0) : Nat × Nat) = enc (0, 0) := by unfold enc; rw [zeroB]
theorem i_enc : ((0, 4607182418800017408) : Nat × Nat) = enc (0, 1) := by unfold enc; rw [oneB, zeroB]
theorem ni_enc : ((0, 4679237538936782848) : Nat × Nat) = enc (0, 65518) := by unfold enc; rw [topB, zeroB]
theorem in_one : In (1, 0) := ⟨by decide, by decide, by decide, by decide⟩
theorem in_zero : In (0, 0) := ⟨by decide, by decide, by decide, by decide⟩
theorem in_i : In (0, 1) := ⟨by decide, by decide, by decide, by decide⟩
theorem in_ni : In (0, 65518) := ⟨by decide, by decide, by decide, by decide⟩
theorem and_mask (x : Int) (j : Nat) (m : Int) (hm : (BitVec.ofInt 64 m).toNat = 2 ^ j - 1) (hj : j ≤ 5) : Go.bits .and .i64 x m = x % 2 ^ j := by
  have h : (BitVec.ofInt 64 x &&& BitVec.ofInt 64 m).toNat = (x % 2 ^ j).toNat := by
    rw [BitVec.toNat_and, hm, Nat.and_two_pow_sub_one_eq_mod, BitVec.toNat_ofInt]
    rcases j with _ | _ | _ | _ | _ | _ | j
    all_goals first | omega | (simp only [Nat.reduceAdd, Nat.reducePow, Int.reducePow]; omega)
  have hb : Go.bits .and .i64 x m = IntKind.i64.wrap (((BitVec.ofInt 64 x &&& BitVec.ofInt 64 m).toNat : Nat) : Int) := rfl
  rw [hb, h, IntKind.wrap_i64]
  rcases j with _ | _ | _ | _ | _ | _ | j
  all_goals first | omega | (simp only [Nat.reduceAdd, Int.reducePow]; omega)
theorem and1 (x : Int) : Go.bits .and .i64 x 1 = x % 2 := by
  have := and_mask x 1 1 (by decide) (by decide)
  simpa using this
theorem and3 (x : Int) : Go.bits .and .i64 x 3 = x % 4 := by
  have := and_mask x 2 3 (by decide) (by decide)
  simpa using this

theorem right_eq {p : Int × Int} (h : In p) : gauss_Right.f (enc p) = some true := by unfold gauss_Right.f; rw [right_enc h]
theorem mul_eq {p q : Int × Int} (hp : In p) (hq : In q) : gauss_Mul.f (enc p) (enc q) = some (enc (mulP p q)) := mul_enc hp hq
theorem power_loop (k : Nat) : ∀ (n : Nat) (x acc : Int × Int), n < 2 ^ k → In x → In acc → gauss_Power.l0 (k + 1) (enc x) n (enc acc) = some (enc (mulP acc (powP x n))) := by
  induction k with
  | zero =>
    intro n x acc hn hx ha
    obtain rfl : n = 0 := by omega
    simp only [gauss_Power.l0]
    rw [if_neg (by omega)]
    show some (enc acc) = some (enc (mulP acc (1, 0)))
    rw [mulP_one ha]
  | succ k ih =>
    intro n x acc hn hx ha
    rw [gauss_Power.l0]
    by_cases h0 : n = 0
    · subst h0
      rw [if_neg (by omega)]
      show some (enc acc) = some (enc (mulP acc (1, 0)))
      rw [mulP_one ha]
    · rw [if_pos (by omega), and1]
      have e2 : (n : Int) / 2 = ((n / 2 : Nat) : Int) := by omega
      have hlt : n / 2 < 2 ^ k := by rw [Nat.pow_succ] at hn; omega
      by_cases h1 : (n : Int) % 2 = 1
      · rw [if_pos h1, mul_eq ha hx, mul_eq hx hx]
        simp only [Option.bind_some]
        rw [e2, ih _ _ _ hlt (mulP_in _ _) (mulP_in _ _), powP_sq, mulP_assoc]
        congr 3
        have e3 : n = 1 + 2 * (n / 2) := by omega
        conv => rhs; rw [e3]
        rw [powP_add, powP_one hx]
      · rw [if_neg h1, mul_eq hx hx]
        simp only [Option.bind_some]
        rw [e2, ih _ _ _ hlt (mulP_in _ _) ha, powP_sq]
        have e3 : 2 * (n / 2) = n := by omega
        rw [e3]
theorem power_eq (k n : Nat) (hn : n < 2 ^ k) {x : Int × Int} (hx : In x) : gauss_Power.f (k + 1) (enc x) n = some (enc (powP x n)) := by
  unfold gauss_Power.f
  rw [right_eq hx]
  simp only [Option.bind_some, if_true]
  rw [one_enc, power_loop k n x (1, 0) hn hx in_one, one_mulP (powP_in _ _)]
theorem inverse_eq (k : Nat) (hk : 17 ≤ k) {p : Int × Int} (hp : In p) (hne : p ≠ (0, 0)) : gauss_Inverse.f (k + 2) (enc p) = some (enc (invP p), true) := by
  unfold gauss_Inverse.f
  rw [right_eq hp]
  simp only [Option.bind_some, if_true]
  rw [zero_enc, ceq_enc hp in_zero, decide_eq_false hne]
  simp only [gauss_Inverse.j0]
  rw [if_neg (by simp)]
  have hr : gauss_residue.f ((enc p).1, Go.Op.negFloat .f64 (enc p).2) = some (enc (conj p)) := conj_enc hp
  rw [hr]
  simp only [Option.bind_some]
  rw [mul_eq hp (conj_in hp)]
  simp only [Option.bind_some]
  have hpow : 65517 < 2 ^ k := Nat.lt_of_lt_of_le (by decide : 65517 < 2 ^ 17) (Nat.pow_le_pow_right (by decide) hk)
  have he := power_eq k pm2 (by unfold pm2; exact hpow) (mulP_in p (conj p))
  have hc : ((pm2 : Nat) : Int) = 65517 := rfl
  rw [hc] at he
  rw [he]
  simp only [Option.bind_some]
  rw [mul_eq (conj_in hp) (powP_in _ _)]
  rfl
theorem inv_i : invP (0, 1) = (0, 65518) := by
  have h := mul_inv in_i (by decide)
  have e : mulP (0, 65518) (0, 1) = (1, 0) := by decide
  rw [← one_mulP (inv_in (0, 1)), ← e, mulP_assoc, h, mulP_one in_ni]
theorem awake_eq (k : Nat) (hk : 17 ≤ k) : quitclaimlaw22_awake.f (k + 2) = some true := by
  unfold quitclaimlaw22_awake.f
  rw [i_enc, inverse_eq k hk in_i (by decide), inv_i]
  simp only [Option.bind_some, if_true]
  rw [ni_enc, ceq_enc in_ni in_ni, decide_eq_true rfl]
  rfl

theorem whole_of (b : Nat) (h : (Lit.float .f64 b).wf = true) : quitclaimlaw22_GaussOdd_1.f b = some (Gauss.whole b) := by
  have hb : b < 2 ^ 64 := by simpa [Lit.wf] using h
  unfold quitclaimlaw22_GaussOdd_1.f
  rw [GO.oddB_whole hb]
theorem zz : ceq ((0, 0) : Nat × Nat) ((0, 0) : Nat × Nat) = true := by rw [zero_enc, ceq_enc in_zero in_zero, decide_eq_true rfl]
theorem inv_no {c : Nat × Nat} (h : Gauss.rightB c = false) (k : Nat) : gauss_Inverse.f (k + 1) c = some (((0, 0) : Nat × Nat), false) := by
  unfold gauss_Inverse.f gauss_Right.f
  rw [h, Option.bind_some, if_neg (by simp)]
  simp only [gauss_Inverse.j0]
  rw [if_pos True.intro]
theorem body_eq (k : Nat) (hk : 20 ≤ k) (n : Int) (c : Nat × Nat) : quitclaimlaw22_GaussOdd.j0 (k + 3) n c (Gauss.rightB c) = some true := by
  have hr : gauss_Right.f c = some (Gauss.rightB c) := rfl
  rw [quitclaimlaw22_GaussOdd.j0, hr, Option.bind_some, if_neg (by simp)]
  cases h : Gauss.rightB c
  · rw [if_neg (by simp), inv_no h, Option.bind_some]
    have hd : gauss_Divide.f (k + 2) ((4607182418800017408, 0) : Nat × Nat) c = some (((0, 0) : Nat × Nat), false) := by
      unfold gauss_Divide.f
      rw [inv_no h, Option.bind_some, if_neg (by simp)]
    have ha : gauss_Add.f c ((4607182418800017408, 0) : Nat × Nat) = some ((0, 0) : Nat × Nat) := by
      unfold gauss_Add.f Gauss.addB
      rw [h, Bool.false_and, if_neg (by simp)]
    have hs : gauss_Sub.f ((4607182418800017408, 0) : Nat × Nat) c = some ((0, 0) : Nat × Nat) := by
      unfold gauss_Sub.f Gauss.subB
      rw [h, Bool.and_false, if_neg (by simp)]
    have hm : ∀ d, gauss_Mul.f c d = some ((0, 0) : Nat × Nat) := by
      intro d
      unfold gauss_Mul.f Gauss.mulB
      rw [h, Bool.false_and, if_neg (by simp)]
    have hp : gauss_Power.f (k + 2) c n = some ((0, 0) : Nat × Nat) := by
      unfold gauss_Power.f gauss_Right.f
      rw [h, Option.bind_some, if_neg (by simp)]
    have ht : gauss_Turn.f (k + 2) c n = some ((0, 0) : Nat × Nat) := by
      obtain ⟨m, hm4⟩ : ∃ m : Nat, n % 4 = m := ⟨(n % 4).toNat, by omega⟩
      have h4 : m < 2 ^ (k + 1) := Nat.lt_of_lt_of_le (show m < 2 ^ 2 by omega) (Nat.pow_le_pow_right (by decide) (by omega))
      unfold gauss_Turn.f
      rw [and3, hm4, i_enc, power_eq (k + 1) m h4 in_i, Option.bind_some, hm, Option.bind_some]
    rw [hd, Option.bind_some, ha, Option.bind_some, zz, if_pos rfl, hs, Option.bind_some, zz, if_pos rfl, hm, Option.bind_some, zz, if_pos rfl, hp, Option.bind_some, zz, if_pos rfl, ht, Option.bind_some, zz, if_pos rfl, if_pos rfl, if_neg (by simp), if_pos rfl, if_neg (by simp), awake_eq k (by omega)]
    rfl
  · rw [if_pos rfl, awake_eq k (by omega)]
    rfl
end GDD
open GDD

theorem GaussOdd : quitclaimlaw22_GaussOdd.Pure := by
  intro a b n ha hb _
  refine ⟨23, ?_⟩
  unfold quitclaimlaw22_GaussOdd.f
  rw [whole_of a ha, Option.bind_some]
  have h := body_eq 20 (by decide) n (a, b)
  unfold Gauss.rightB at h
  simp only at h
  cases hw : Gauss.whole a
  · rw [if_neg (by simp)]
    rw [hw, Bool.false_and] at h
    exact h
  · rw [if_pos rfl, whole_of b hb, Option.bind_some]
    rw [hw, Bool.true_and] at h
    exact h

end Go.Proofs.Ytabgdpobcloclaa.Pure
