/- GaussInverses' pure statement: each residue but 0 has an inverse, whose product with it is 1; what is divided and multiplied again is as it was; no condition. -/
import Derived.Test.YtabgdpobcloclaaPGaussInversesx3
import Derived.Test.YtabgdpobcloclaaGaussNum
namespace Go.Proofs.Ytabgdpobcloclaa.Pure
open Go.RowKit Go.Proofs.Ytabgdpobcloclaa.PGaussInverses Go.Proofs.YtabgdpobcloclaaW.PrintWords Go.Proofs.YtabgdpobcloclaaW.PrintLast Go.Proofs.YtabgdpobcloclaaW.PrintMore
open Go.Proofs.YtabgdpobcloclaaW.XF Go.Proofs.YtabgdpobcloclaaW.XG Go.Proofs.Ytabgdpobcloclaa.GN

namespace GI
theorem w64 {x : Int} (h : -9223372036854775808 ≤ x) (h' : x ≤ 9223372036854775807) : wrap64 x = x := by unfold wrap64; omega
theorem tmod_pos {x : Int} (h : 0 ≤ x) (n : Int) : Int.tmod x n = x % n := Int.tmod_eq_emod_of_nonneg h
theorem tmod_neg {x : Int} (h : x < 0) (n : Int) : Int.tmod x n = -((-x) % n) := by
  rw [← Int.neg_neg x, Int.neg_tmod, tmod_pos (by omega)]
  simp
theorem one_enc : ((4607182418800017408, 0) : Nat × Nat) = enc (1, 0) := by unfold enc; rw [oneB, zeroB]
theorem zero_enc : ((0, 0) : Nat × Nat) = enc (0, 0) := by unfold enc; rw [zeroB]
theorem i_enc : ((0, 4607182418800017408) : Nat × Nat) = enc (0, 1) := by unfold enc; rw [oneB, zeroB]
theorem ni_enc : ((0, 4679237538936782848) : Nat × Nat) = enc (0, 65518) := by unfold enc; rw [topB, zeroB]
theorem in_one : In (1, 0) := ⟨by decide, by decide, by decide, by decide⟩
theorem in_zero : In (0, 0) := ⟨by decide, by decide, by decide, by decide⟩
theorem in_i : In (0, 1) := ⟨by decide, by decide, by decide, by decide⟩
theorem in_ni : In (0, 65518) := ⟨by decide, by decide, by decide, by decide⟩
theorem and_mask (x : Int) (j : Nat) (m : Int) (hm : (BitVec.ofInt 64 m).toNat = 2 ^ j - 1) (hj : j ≤ 5) : Go.bits .and .i64 x m = x % 2 ^ j := by
  have h : (BitVec.ofInt 64 x &&& BitVec.ofInt 64 m).toNat = (x % 2 ^ j).toNat := by
    rw [BitVec.toNat_and, hm, Nat.and_two_pow_sub_one_eq_mod, BitVec.toNat_ofInt]
    rcases j with _ | _ | _ | _ | _ | _ | j
    all_goals first | omega | (simp only [Nat.reduceAdd, Nat.reducePow, Int.reducePow]; omega)
  have hb : Go.bits .and .i64 x m = IntKind.i64.wrap (((BitVec.ofInt 64 x &&& BitVec.ofInt 64 m).toNat : Nat) : Int) := rfl
  rw [hb, h, IntKind.wrap_i64]
  rcases j with _ | _ | _ | _ | _ | _ | j
  all_goals first | omega | (simp only [Nat.reduceAdd, Int.reducePow]; omega)
theorem and1 (x : Int) : Go.bits .and .i64 x 1 = x % 2 := by
  have := and_mask x 1 1 (by decide) (by decide)
  simpa using this
theorem and3 (x : Int) : Go.bits .and .i64 x 3 = x % 4 := by
  have := and_mask x 2 3 (by decide) (by decide)
  simpa using this

theorem pair_eq (a b : Int) (ha : 0 ≤ a ∧ a ≤ 65535) (hb : 0 ≤ b ∧ b ≤ 65535) : quitclaimlaw22_pair.f a b = some (a % 65519, b % 65519) := by
  unfold quitclaimlaw22_pair.f
  rw [w64 (by omega) (by omega), w64 (by omega) (by omega), tmod_pos ha.1, tmod_pos hb.1]
theorem number_eq (p : Int × Int) : quitclaimlaw22_Number.f p.1 p.2 = some (enc p) := by
  unfold quitclaimlaw22_Number.f
  rw [ofInt_enc]
theorem right_eq {p : Int × Int} (h : In p) : gauss_Right.f (enc p) = some true := by unfold gauss_Right.f; rw [right_enc h]
theorem mul_eq {p q : Int × Int} (hp : In p) (hq : In q) : gauss_Mul.f (enc p) (enc q) = some (enc (mulP p q)) := mul_enc hp hq
theorem power_loop (k : Nat) : ∀ (n : Nat) (x acc : Int × Int), n < 2 ^ k → In x → In acc → gauss_Power.l0 (k + 1) (enc x) n (enc acc) = some (enc (mulP acc (powP x n))) := by
  induction k with
  | zero =>
    intro n x acc hn hx ha
    obtain rfl : n = 0 := by omega
    simp only [gauss_Power.l0]
    rw [if_neg (by omega)]
    show some (enc acc) = some (enc (mulP acc (1, 0)))
    rw [mulP_one ha]
  | succ k ih =>
    intro n x acc hn hx ha
    rw [gauss_Power.l0]
    by_cases h0 : n = 0
    · subst h0
      rw [if_neg (by omega)]
      show some (enc acc) = some (enc (mulP acc (1, 0)))
      rw [mulP_one ha]
    · rw [if_pos (by omega), and1]
      have e2 : (n : Int) / 2 = ((n / 2 : Nat) : Int) := by omega
      have hlt : n / 2 < 2 ^ k := by rw [Nat.pow_succ] at hn; omega
      by_cases h1 : (n : Int) % 2 = 1
      · rw [if_pos h1, mul_eq ha hx, mul_eq hx hx]
        simp only [Option.bind_some]
        rw [e2, ih _ _ _ hlt (mulP_in _ _) (mulP_in _ _), powP_sq, mulP_assoc]
        congr 3
        have e3 : n = 1 + 2 * (n / 2) := by omega
        conv => rhs; rw [e3]
        rw [powP_add, powP_one hx]
      · rw [if_neg h1, mul_eq hx hx]
        simp only [Option.bind_some]
        rw [e2, ih _ _ _ hlt (mulP_in _ _) ha, powP_sq]
        have e3 : 2 * (n / 2) = n := by omega
        rw [e3]
theorem power_eq (k n : Nat) (hn : n < 2 ^ k) {x : Int × Int} (hx : In x) : gauss_Power.f (k + 1) (enc x) n = some (enc (powP x n)) := by
  unfold gauss_Power.f
  rw [right_eq hx]
  simp only [Option.bind_some, if_true]
  rw [one_enc, power_loop k n x (1, 0) hn hx in_one, one_mulP (powP_in _ _)]
theorem inverse_eq (k : Nat) (hk : 17 ≤ k) {p : Int × Int} (hp : In p) (hne : p ≠ (0, 0)) : gauss_Inverse.f (k + 2) (enc p) = some (enc (invP p), true) := by
  unfold gauss_Inverse.f
  rw [right_eq hp]
  simp only [Option.bind_some, if_true]
  rw [zero_enc, ceq_enc hp in_zero, decide_eq_false hne]
  simp only [gauss_Inverse.j0]
  rw [if_neg (by simp)]
  have hr : gauss_residue.f ((enc p).1, Go.Op.negFloat .f64 (enc p).2) = some (enc (conj p)) := conj_enc hp
  rw [hr]
  simp only [Option.bind_some]
  rw [mul_eq hp (conj_in hp)]
  simp only [Option.bind_some]
  have hpow : 65517 < 2 ^ k := Nat.lt_of_lt_of_le (by decide : 65517 < 2 ^ 17) (Nat.pow_le_pow_right (by decide) hk)
  have he := power_eq k pm2 (by unfold pm2; exact hpow) (mulP_in p (conj p))
  have hc : ((pm2 : Nat) : Int) = 65517 := rfl
  rw [hc] at he
  rw [he]
  simp only [Option.bind_some]
  rw [mul_eq (conj_in hp) (powP_in _ _)]
  rfl
theorem inv_i : invP (0, 1) = (0, 65518) := by
  have h := mul_inv in_i (by decide)
  have e : mulP (0, 65518) (0, 1) = (1, 0) := by decide
  rw [← one_mulP (inv_in (0, 1)), ← e, mulP_assoc, h, mulP_one in_ni]
theorem awake_eq (k : Nat) (hk : 17 ≤ k) : quitclaimlaw22_awake.f (k + 2) = some true := by
  unfold quitclaimlaw22_awake.f
  rw [i_enc, inverse_eq k hk in_i (by decide), inv_i]
  simp only [Option.bind_some, if_true]
  rw [ni_enc, ceq_enc in_ni in_ni, decide_eq_true rfl]
  rfl
theorem u16 {a : Int} (h : (Lit.int .u16 a).wf = true) : 0 ≤ a ∧ a ≤ 65535 := by
  simpa [Lit.wf, IntKind.min, IntKind.max, IntKind.signed, IntKind.bits] using h
theorem in_mod (a b : Int) : In (a % 65519, b % 65519) := by unfold In; simp only; omega

theorem pinv_no (k : Nat) : gauss_Inverse.f (k + 1) (enc (0, 0)) = some (enc (0, 0), false) := by
  unfold gauss_Inverse.f
  rw [right_eq in_zero]
  simp only [Option.bind_some, if_true]
  rw [zero_enc, ceq_enc in_zero in_zero, decide_eq_true rfl]
  simp only [gauss_Inverse.j0]
  rfl
theorem f_eq {k : Nat} {a b c d A1 A2 C D : Int} {P Q : Nat × Nat} (h1 : quitclaimlaw22_pair.f a b = some (A1, A2)) (h2 : quitclaimlaw22_pair.f c d = some (C, D))
    (n1 : quitclaimlaw22_Number.f A1 A2 = some P) (n2 : quitclaimlaw22_Number.f C D = some Q) :
    quitclaimlaw22_GaussInverses.f k a b c d = ((gauss_Inverse.f k Q).bind fun bt126 => ((gauss_Divide.f k P Q).bind fun bt128 => (if (C == 0 && (D == 0)) = true then (if (ceq bt126.1 ((0, 0) : Nat × Nat)) = true then (if bt126.2 = true then (some false) else (if (ceq bt128.1 ((0, 0) : Nat × Nat)) = true then (if bt128.2 = true then (some false) else ((quitclaimlaw22_awake.f k).bind fun t130 => (some t130))) else (some false))) else (some false)) else (if bt126.2 = true then (if bt128.2 = true then ((gauss_Right.f bt126.1).bind fun t131 => (if t131 = true then ((gauss_Right.f bt128.1).bind fun t132 => (if t132 = true then ((gauss_Mul.f Q bt126.1).bind fun t133 => (if (ceq t133 ((4607182418800017408, 0) : Nat × Nat)) = true then ((gauss_Mul.f bt128.1 Q).bind fun t134 => (if (ceq t134 P) = true then ((quitclaimlaw22_awake.f k).bind fun t135 => (some t135)) else (some false))) else (some false))) else (some false))) else (some false))) else (some false)) else (some false))))) := by
  unfold quitclaimlaw22_GaussInverses.f
  rw [h1, Option.bind_some, h2, Option.bind_some]
  rw [n1, Option.bind_some, n2, Option.bind_some]
end GI
open GI

theorem GaussInverses : quitclaimlaw22_GaussInverses.Pure := by
  intro a b c d ha hb hc hd
  obtain ⟨k, hk⟩ : ∃ k : Nat, 300 ≤ k := ⟨300, by omega⟩
  refine ⟨k + 4, ?_⟩
  obtain ⟨A1, A2, hp, h1⟩ : ∃ x y : Int, In (x, y) ∧ quitclaimlaw22_pair.f a b = some (x, y) := ⟨_, _, in_mod a b, pair_eq a b (u16 ha) (u16 hb)⟩
  obtain ⟨C, D, hq, h2⟩ : ∃ x y : Int, In (x, y) ∧ quitclaimlaw22_pair.f c d = some (x, y) := ⟨_, _, in_mod c d, pair_eq c d (u16 hc) (u16 hd)⟩
  rw [f_eq h1 h2 (number_eq (A1, A2)) (number_eq (C, D))]
  generalize ((A1, A2) : Int × Int) = p at hp
  by_cases h0 : ((C, D) : Int × Int) = (0, 0)
  · obtain ⟨rfl, rfl⟩ := Prod.mk.inj h0
    rw [pinv_no, Option.bind_some]
    have hd : gauss_Divide.f (k + 4) (enc p) (enc (0, 0)) = some (enc (0, 0), false) := by
      unfold gauss_Divide.f
      rw [pinv_no]
      simp [zero_enc]
    rw [hd, Option.bind_some, if_pos (by simp), zero_enc, ceq_enc in_zero in_zero, decide_eq_true rfl, if_pos rfl, if_neg (by simp), if_pos rfl, if_neg (by simp), awake_eq (k + 2) (by omega)]
    rfl
  · have hnz : (C == 0 && (D == 0)) = false := by
      rw [Bool.and_eq_false_iff, beq_eq_false_iff_ne, beq_eq_false_iff_ne]
      rcases Decidable.em (C = 0) with e | e
      · right
        intro e'
        exact h0 (by rw [e, e'])
      · exact .inl e
    generalize ((C, D) : Int × Int) = q at hq h0
    rw [inverse_eq (k + 2) (by omega) hq h0, Option.bind_some]
    have hd : gauss_Divide.f (k + 4) (enc p) (enc q) = some (enc (mulP p (invP q)), true) := by
      unfold gauss_Divide.f
      rw [inverse_eq (k + 2) (by omega) hq h0]
      simp only [Option.bind_some]
      simp [right_eq hp, mul_eq hp (inv_in q)]
    rw [hd, Option.bind_some, if_neg (by rw [hnz]; simp), if_pos rfl, if_pos rfl, right_eq (inv_in q), Option.bind_some, if_pos rfl, right_eq (mulP_in _ _), Option.bind_some, if_pos rfl]
    rw [mul_eq hq (inv_in q), mul_inv hq h0, Option.bind_some, one_enc, ceq_enc in_one in_one, decide_eq_true rfl, if_pos rfl]
    rw [mul_eq (mulP_in _ _) hq, mulP_assoc, mulP_comm (invP q), mul_inv hq h0, mulP_one hp, Option.bind_some, ceq_enc hp hp, decide_eq_true rfl, if_pos rfl, awake_eq (k + 2) (by omega)]
    rfl

end Go.Proofs.Ytabgdpobcloclaa.Pure
