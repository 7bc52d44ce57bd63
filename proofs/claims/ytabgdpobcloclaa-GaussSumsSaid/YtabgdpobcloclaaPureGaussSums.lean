/- GaussSums' pure statement: sums, differences, products, powers and turns of Gaussian residues are the reference's; no condition. -/
import Derived.Test.YtabgdpobcloclaaPGaussSumsx3
import Derived.Test.YtabgdpobcloclaaGaussNum
namespace Go.Proofs.Ytabgdpobcloclaa.Pure
open Go.RowKit Go.Proofs.Ytabgdpobcloclaa.PGaussSums Go.Proofs.YtabgdpobcloclaaW.PrintWords Go.Proofs.YtabgdpobcloclaaW.PrintLast Go.Proofs.YtabgdpobcloclaaW.PrintMore
open Go.Proofs.YtabgdpobcloclaaW.XF Go.Proofs.YtabgdpobcloclaaW.XG Go.Proofs.Ytabgdpobcloclaa.GN

namespace GS
theorem w64 {x : Int} (h : -9223372036854775808 ≤ x) (h' : x ≤ 9223372036854775807) : wrap64 x = x := by unfold wrap64; omega
theorem tmod_pos {x : Int} (h : 0 ≤ x) (n : Int) : Int.tmod x n = x % n := Int.tmod_eq_emod_of_nonneg h
theorem tmod_neg {x : Int} (h : x < 0) (n : Int) : Int.tmod x n = -((-x) % n) := by
  rw [← Int.neg_neg x, Int.neg_tmod, tmod_pos (by omega)]
  simp
theorem one_enc : ((4607182418800017408, 0) : Nat × Nat) = enc (1, 0) := by unfold enc; rw [oneB, zeroB]
theorem zero_enc : ((0, 0) : Nat × Nat) = enc (0, 0) := by unfold enc; rw [zeroB]
theorem i_enc : ((0, 4607182418800017408) : Nat × Nat) = enc (0, 1) := by unfold enc; rw [oneB, zeroB]
theorem ni_enc : ((0, 4679237538936782848) : Nat × Nat) = enc (0, 65518) := by unfold enc; rw [topB, zeroB]
theorem in_one : In (1, 0) := ⟨by decide, by decide, by decide, by decide⟩
theorem in_zero : In (0, 0) := ⟨by decide, by decide, by decide, by decide⟩
theorem in_i : In (0, 1) := ⟨by decide, by decide, by decide, by decide⟩
theorem in_ni : In (0, 65518) := ⟨by decide, by decide, by decide, by decide⟩
theorem and_mask (x : Int) (j : Nat) (m : Int) (hm : (BitVec.ofInt 64 m).toNat = 2 ^ j - 1) (hj : j ≤ 5) : Go.bits .and .i64 x m = x % 2 ^ j := by
  have h : (BitVec.ofInt 64 x &&& BitVec.ofInt 64 m).toNat = (x % 2 ^ j).toNat := by
    rw [BitVec.toNat_and, hm, Nat.and_two_pow_sub_one_eq_mod, BitVec.toNat_ofInt]
    rcases j with _ | _ | _ | _ | _ | _ | j
    all_goals first | omega | (simp only [Nat.reduceAdd, Nat.reducePow, Int.reducePow]; omega)
  have hb : Go.bits .and .i64 x m = IntKind.i64.wrap (((BitVec.ofInt 64 x &&& BitVec.ofInt 64 m).toNat : Nat) : Int) := rfl
  rw [hb, h, IntKind.wrap_i64]
  rcases j with _ | _ | _ | _ | _ | _ | j
  all_goals first | omega | (simp only [Nat.reduceAdd, Int.reducePow]; omega)
theorem and1 (x : Int) : Go.bits .and .i64 x 1 = x % 2 := by
  have := and_mask x 1 1 (by decide) (by decide)
  simpa using this
theorem and3 (x : Int) : Go.bits .and .i64 x 3 = x % 4 := by
  have := and_mask x 2 3 (by decide) (by decide)
  simpa using this

theorem pair_eq (a b : Int) (ha : 0 ≤ a ∧ a ≤ 65535) (hb : 0 ≤ b ∧ b ≤ 65535) : quitclaimlaw22_pair.f a b = some (a % 65519, b % 65519) := by
  unfold quitclaimlaw22_pair.f
  rw [w64 (by omega) (by omega), w64 (by omega) (by omega), tmod_pos ha.1, tmod_pos hb.1]
theorem number_eq (p : Int × Int) : quitclaimlaw22_Number.f p.1 p.2 = some (enc p) := by
  unfold quitclaimlaw22_Number.f
  rw [ofInt_enc]
theorem right_eq {p : Int × Int} (h : In p) : gauss_Right.f (enc p) = some true := by unfold gauss_Right.f; rw [right_enc h]
theorem mul_eq {p q : Int × Int} (hp : In p) (hq : In q) : gauss_Mul.f (enc p) (enc q) = some (enc (mulP p q)) := mul_enc hp hq
theorem power_loop (k : Nat) : ∀ (n : Nat) (x acc : Int × Int), n < 2 ^ k → In x → In acc → gauss_Power.l0 (k + 1) (enc x) n (enc acc) = some (enc (mulP acc (powP x n))) := by
  induction k with
  | zero =>
    intro n x acc hn hx ha
    obtain rfl : n = 0 := by omega
    simp only [gauss_Power.l0]
    rw [if_neg (by omega)]
    show some (enc acc) = some (enc (mulP acc (1, 0)))
    rw [mulP_one ha]
  | succ k ih =>
    intro n x acc hn hx ha
    rw [gauss_Power.l0]
    by_cases h0 : n = 0
    · subst h0
      rw [if_neg (by omega)]
      show some (enc acc) = some (enc (mulP acc (1, 0)))
      rw [mulP_one ha]
    · rw [if_pos (by omega), and1]
      have e2 : (n : Int) / 2 = ((n / 2 : Nat) : Int) := by omega
      have hlt : n / 2 < 2 ^ k := by rw [Nat.pow_succ] at hn; omega
      by_cases h1 : (n : Int) % 2 = 1
      · rw [if_pos h1, mul_eq ha hx, mul_eq hx hx]
        simp only [Option.bind_some]
        rw [e2, ih _ _ _ hlt (mulP_in _ _) (mulP_in _ _), powP_sq, mulP_assoc]
        congr 3
        have e3 : n = 1 + 2 * (n / 2) := by omega
        conv => rhs; rw [e3]
        rw [powP_add, powP_one hx]
      · rw [if_neg h1, mul_eq hx hx]
        simp only [Option.bind_some]
        rw [e2, ih _ _ _ hlt (mulP_in _ _) ha, powP_sq]
        have e3 : 2 * (n / 2) = n := by omega
        rw [e3]
theorem power_eq (k n : Nat) (hn : n < 2 ^ k) {x : Int × Int} (hx : In x) : gauss_Power.f (k + 1) (enc x) n = some (enc (powP x n)) := by
  unfold gauss_Power.f
  rw [right_eq hx]
  simp only [Option.bind_some, if_true]
  rw [one_enc, power_loop k n x (1, 0) hn hx in_one, one_mulP (powP_in _ _)]
theorem inverse_eq (k : Nat) (hk : 17 ≤ k) {p : Int × Int} (hp : In p) (hne : p ≠ (0, 0)) : gauss_Inverse.f (k + 2) (enc p) = some (enc (invP p), true) := by
  unfold gauss_Inverse.f
  rw [right_eq hp]
  simp only [Option.bind_some, if_true]
  rw [zero_enc, ceq_enc hp in_zero, decide_eq_false hne]
  simp only [gauss_Inverse.j0]
  rw [if_neg (by simp)]
  have hr : gauss_residue.f ((enc p).1, Go.Op.negFloat .f64 (enc p).2) = some (enc (conj p)) := conj_enc hp
  rw [hr]
  simp only [Option.bind_some]
  rw [mul_eq hp (conj_in hp)]
  simp only [Option.bind_some]
  have hpow : 65517 < 2 ^ k := Nat.lt_of_lt_of_le (by decide : 65517 < 2 ^ 17) (Nat.pow_le_pow_right (by decide) hk)
  have he := power_eq k pm2 (by unfold pm2; exact hpow) (mulP_in p (conj p))
  have hc : ((pm2 : Nat) : Int) = 65517 := rfl
  rw [hc] at he
  rw [he]
  simp only [Option.bind_some]
  rw [mul_eq (conj_in hp) (powP_in _ _)]
  rfl
theorem inv_i : invP (0, 1) = (0, 65518) := by
  have h := mul_inv in_i (by decide)
  have e : mulP (0, 65518) (0, 1) = (1, 0) := by decide
  rw [← one_mulP (inv_in (0, 1)), ← e, mulP_assoc, h, mulP_one in_ni]
theorem awake_eq (k : Nat) (hk : 17 ≤ k) : quitclaimlaw22_awake.f (k + 2) = some true := by
  unfold quitclaimlaw22_awake.f
  rw [i_enc, inverse_eq k hk in_i (by decide), inv_i]
  simp only [Option.bind_some, if_true]
  rw [ni_enc, ceq_enc in_ni in_ni, decide_eq_true rfl]
  rfl
theorem u16 {a : Int} (h : (Lit.int .u16 a).wf = true) : 0 ≤ a ∧ a ≤ 65535 := by
  simpa [Lit.wf, IntKind.min, IntKind.max, IntKind.signed, IntKind.bits] using h
theorem in_mod (a b : Int) : In (a % 65519, b % 65519) := by unfold In; simp only; omega

theorem mod_eq (v : Int) : quitclaimref22_mod.f v = some (v % 65519) := by
  unfold quitclaimref22_mod.f
  rcases Int.lt_or_le v 0 with h0 | h0
  · rw [tmod_neg h0]
    by_cases h1 : -((-v) % 65519) < 0
    · rw [if_pos h1, w64 (by omega) (by omega)]; congr 1; omega
    · rw [if_neg h1]; congr 1; omega
  · rw [tmod_pos h0, if_neg (by omega)]
theorem radd_eq {p q : Int × Int} (hp : In p) (hq : In q) : quitclaimref22_Add.f p.1 p.2 q.1 q.2 = some ((p.1 + q.1) % 65519, (p.2 + q.2) % 65519) := by
  obtain ⟨a, b, c, d⟩ := hp
  obtain ⟨a', b', c', d'⟩ := hq
  unfold quitclaimref22_Add.f
  rw [w64 (by omega) (by omega), w64 (by omega) (by omega), mod_eq _, mod_eq _]
  rfl
theorem rsub_eq {p q : Int × Int} (hp : In p) (hq : In q) : quitclaimref22_Sub.f p.1 p.2 q.1 q.2 = some ((p.1 - q.1) % 65519, (p.2 - q.2) % 65519) := by
  obtain ⟨a, b, c, d⟩ := hp
  obtain ⟨a', b', c', d'⟩ := hq
  unfold quitclaimref22_Sub.f
  rw [w64 (by omega) (by omega), w64 (by omega) (by omega), mod_eq _, mod_eq _]
  rfl
theorem rmul_eq {p q : Int × Int} (hp : In p) (hq : In q) : quitclaimref22_Mul.f p.1 p.2 q.1 q.2 = some (mulP p q) := by
  obtain ⟨a, b, c, d⟩ := hp
  obtain ⟨a', b', c', d'⟩ := hq
  have m1 := GN.prod_bound a b a' b'
  have m2 := GN.prod_bound c d c' d'
  have m3 := GN.prod_bound a b c' d'
  have m4 := GN.prod_bound c d a' b'
  unfold quitclaimref22_Mul.f
  rw [w64 (x := p.1 * q.1) (by omega) (by omega), w64 (x := p.2 * q.2) (by omega) (by omega), w64 (x := p.1 * q.2) (by omega) (by omega), w64 (x := p.2 * q.1) (by omega) (by omega)]
  rw [w64 (by omega) (by omega), w64 (by omega) (by omega), mod_eq _, mod_eq _]
  rfl
theorem rpower_loop (x : Int × Int) (hx : In x) (k : Nat) : ∀ (d i n : Nat), i + d = n → n ≤ 255 → d < k → quitclaimref22_Power.l0 k n i x.1 x.2 (powP x i).1 (powP x i).2 = some (powP x n) := by
  induction k with
  | zero => intro d _ _ _ _ h; omega
  | succ k ih =>
    intro d i n hd hn hk
    rw [quitclaimref22_Power.l0]
    rcases d with _ | d
    · rw [if_neg (by omega), show i = n by omega]
    · rw [if_pos (by omega), rmul_eq (powP_in x i) hx]
      simp only [Option.bind_some]
      rw [w64 (by omega) (by omega), show ((i : Int) + 1) = ((i + 1 : Nat) : Int) by omega]
      exact ih d (i + 1) n (by omega) hn (by omega)
theorem rpower_eq (k n : Nat) (hn : n ≤ 255) (hk : n < k) {x : Int × Int} (hx : In x) : quitclaimref22_Power.f k x.1 x.2 n = some (powP x n) := by
  unfold quitclaimref22_Power.f
  exact rpower_loop x hx k n 0 n (by omega) hn hk
theorem turn_eq (k : Nat) (hk : 17 ≤ k) (n : Int) (m : Nat) (hm : n % 4 = m) {p : Int × Int} (hp : In p) : gauss_Turn.f (k + 1) (enc p) n = some (enc (mulP p (powP (0, 1) m))) := by
  unfold gauss_Turn.f
  have h4 : m < 2 ^ k := Nat.lt_of_lt_of_le (show m < 2 ^ 2 by omega) (Nat.pow_le_pow_right (by decide) (by omega))
  rw [and3, hm, i_enc, power_eq k m h4 in_i]
  simp only [Option.bind_some]
  rw [mul_eq hp (powP_in _ _)]
  rfl
theorem body_eq (k : Nat) (hk : 300 ≤ k) (n : Int) (m : Nat) (hn : n = m) (hm : m ≤ 255) (t : Int) (r : Nat) (hr : t % 4 = r) {p q : Int × Int} (hp : In p) (hq : In q) :
    quitclaimlaw22_GaussSums.j0 (k + 3) n t (enc p) (enc q) r p.1 p.2 q.1 q.2 = some true := by
  subst hn
  rw [quitclaimlaw22_GaussSums.j0]
  rw [right_eq hp]
  simp only [Option.bind_some, if_true]
  have ha : gauss_Add.f (enc p) (enc q) = _ := add_enc hp hq
  have hs : gauss_Sub.f (enc p) (enc q) = _ := sub_enc hp hq
  rw [ha, radd_eq hp hq]
  simp only [Option.bind_some]
  have num : ∀ c : Int × Int, quitclaimlaw22_Number.f c.1 c.2 = some (enc c) := number_eq
  rw [num (_, _)]
  simp only [Option.bind_some]
  rw [ceq_enc (in_mod _ _) (in_mod _ _), decide_eq_true rfl, hs, rsub_eq hp hq]
  simp only [Option.bind_some, if_true]
  rw [num (_, _)]
  simp only [Option.bind_some]
  rw [ceq_enc (in_mod _ _) (in_mod _ _), decide_eq_true rfl, mul_eq hp hq, rmul_eq hp hq]
  simp only [Option.bind_some, if_true]
  rw [num (mulP p q)]
  simp only [Option.bind_some]
  rw [ceq_enc (mulP_in _ _) (mulP_in _ _), decide_eq_true rfl]
  have hpw : m < 2 ^ (k + 1) := Nat.lt_of_le_of_lt hm (Nat.lt_of_lt_of_le (show 255 < 2 ^ 17 by decide) (Nat.pow_le_pow_right (by decide) (by omega)))
  rw [w64 (by omega) (by omega), power_eq (k + 1) m hpw hp, rpower_eq (k + 2) m hm (by omega) hp]
  simp only [Option.bind_some, if_true]
  rw [num (powP p m)]
  simp only [Option.bind_some]
  rw [ceq_enc (powP_in _ _) (powP_in _ _), decide_eq_true rfl, turn_eq (k + 1) (by omega) t r hr hp]
  have hri := rpower_eq (k + 2) r (by omega) (by omega) in_i
  simp only at hri
  rw [hri]
  simp only [Option.bind_some, if_true]
  rw [rmul_eq hp (powP_in _ _)]
  simp only [Option.bind_some]
  rw [num (mulP p _)]
  simp only [Option.bind_some]
  rw [ceq_enc (mulP_in _ _) (mulP_in _ _), decide_eq_true rfl, awake_eq k (by omega)]
  rfl
theorem f_eq {k : Nat} {a b c d n t A1 A2 C1 C2 : Int} {P Q : Nat × Nat} (h1 : quitclaimlaw22_pair.f a b = some (A1, A2)) (h2 : quitclaimlaw22_pair.f c d = some (C1, C2))
    (n1 : quitclaimlaw22_Number.f A1 A2 = some P) (n2 : quitclaimlaw22_Number.f C1 C2 = some Q) :
    quitclaimlaw22_GaussSums.f k a b c d n t = if (Int.tmod t 4) < 0 then (quitclaimlaw22_GaussSums.j0 k n t P Q (wrap64 ((Int.tmod t 4) + 4)) A1 A2 C1 C2) else (quitclaimlaw22_GaussSums.j0 k n t P Q (Int.tmod t 4) A1 A2 C1 C2) := by
  unfold quitclaimlaw22_GaussSums.f
  rw [h1, Option.bind_some, h2, Option.bind_some]
  rw [n1, Option.bind_some, n2, Option.bind_some]
end GS
open GS

theorem GaussSums : quitclaimlaw22_GaussSums.Pure := by
  intro a b c d n t ha hb hc hd hn ht
  have bn : 0 ≤ n ∧ n ≤ 255 := by
    simpa [Lit.wf, IntKind.min, IntKind.max, IntKind.signed, IntKind.bits] using hn
  have bt : -9223372036854775808 ≤ t ∧ t ≤ 9223372036854775807 := by
    simpa [Lit.wf, IntKind.min, IntKind.max, IntKind.signed, IntKind.bits] using ht
  obtain ⟨m, rfl⟩ := Int.eq_ofNat_of_zero_le bn.1
  obtain ⟨k, hk⟩ : ∃ k : Nat, 300 ≤ k := ⟨300, by omega⟩
  refine ⟨k + 3, ?_⟩
  obtain ⟨A1, A2, hp, h1⟩ : ∃ x y : Int, In (x, y) ∧ quitclaimlaw22_pair.f a b = some (x, y) := ⟨_, _, in_mod a b, pair_eq a b (u16 ha) (u16 hb)⟩
  obtain ⟨C1, C2, hq, h2⟩ : ∃ x y : Int, In (x, y) ∧ quitclaimlaw22_pair.f c d = some (x, y) := ⟨_, _, in_mod c d, pair_eq c d (u16 hc) (u16 hd)⟩
  rw [f_eq h1 h2 (number_eq (A1, A2)) (number_eq (C1, C2))]
  obtain ⟨r, hr⟩ : ∃ r : Nat, t % 4 = r := ⟨(t % 4).toNat, by omega⟩
  have fin := body_eq k hk m m rfl (by omega) t r hr hp hq
  rcases Int.lt_or_le t 0 with h0 | h0
  · rw [tmod_neg h0]
    by_cases h1 : -((-t) % 4) < 0
    · rw [if_pos h1, w64 (by omega) (by omega), show -((-t) % 4) + 4 = (r : Int) by omega]
      exact fin
    · rw [if_neg h1, show -((-t) % 4) = (r : Int) by omega]
      exact fin
  · rw [tmod_pos h0, if_neg (by omega), hr]
    exact fin

end Go.Proofs.Ytabgdpobcloclaa.Pure
