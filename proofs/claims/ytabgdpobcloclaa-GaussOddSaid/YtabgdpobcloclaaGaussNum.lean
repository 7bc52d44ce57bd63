/- What the package gauss answers at residues, as numbers: the bits of the sums, differences and products; no condition. -/
import Derived.Test.YtabgdpobcloclaaGauss
import Derived.Test.YtabgdpobcloclaaXGauss
namespace Go.Proofs.Ytabgdpobcloclaa.GN
open Go.RowKit Go.Proofs.YtabgdpobcloclaaW.PrintWords Go.Proofs.YtabgdpobcloclaaW.XF Go.Proofs.YtabgdpobcloclaaW.XG Go.Proofs.Ytabgdpobcloclaa.Gauss

/-- a residue's bits -/
def enc (p : Int × Int) : Nat × Nat := (B p.1 false, B p.2 false)

theorem lim53 : (2 : Nat) ^ 53 = 9007199254740992 := by decide
theorem fmt : FloatKind.f64.format = Ieee.double := rfl
theorem zeroB : B 0 false = 0 := by decide
theorem oneB : B 1 false = 4607182418800017408 := by decide
theorem topB : B 65518 false = 4679237538936782848 := by decide
theorem primeB : B 65519 false = PB := by decide

theorem ofInt_enc (a b : Int) : ((floatOfInt .f64 a, floatOfInt .f64 b) : Nat × Nat) = enc (a, b) := by
  rw [ofInt_B, ofInt_B]; rfl

theorem order_fmt (v1 v2 : Int) (h1 : v1.natAbs < 2 ^ 53) (h2 : v2.natAbs < 2 ^ 53) : FloatKind.f64.format.order (B v1 false) (B v2 false) = some (compare v1 v2) := by
  rw [fmt]; exact order_B v1 v2 false false h1 h2

theorem feq_B (v1 v2 : Int) (h1 : v1.natAbs < 2 ^ 53) (h2 : v2.natAbs < 2 ^ 53) : feq (B v1 false) (B v2 false) = decide (v1 = v2) := by
  unfold feq
  rw [order_fmt v1 v2 h1 h2]
  by_cases h : v1 = v2
  · subst h
    rw [decide_eq_true rfl, beq_iff_eq]
    congr 1
    exact Int.compare_eq_eq.2 rfl
  · rw [decide_eq_false h, beq_eq_false_iff_ne]
    intro e
    exact h (Int.compare_eq_eq.1 (Option.some.inj e))
theorem ge_B (v : Int) (h : v.natAbs < 2 ^ 53) (h0 : 0 ≤ v) : geB (B v false) 0 = true := by
  unfold geB
  have e := order_fmt v 0 h (by decide)
  rw [zeroB] at e
  simp only [e]
  by_cases h1 : v = 0
  · subst h1; rfl
  · have : compare v 0 = .gt := Int.compare_eq_gt.2 (by omega)
    rw [this]; rfl
theorem lt_B (v : Int) (h : v.natAbs < 2 ^ 53) (h0 : v < 65519) : ltB (B v false) PB = true := by
  unfold ltB
  rw [← primeB, order_fmt v 65519 h (by decide), Int.compare_eq_lt.2 h0]
  rfl
theorem tr_B (v : Int) (h : v.natAbs < 2 ^ 53) : tr (B v false) = B v false := by
  unfold tr
  obtain ⟨j, e⟩ := read_B v false h
  have e' : FloatKind.f64.decode (B v false) = .number (sgn v false) (v.natAbs * 2 ^ j) (-(j : Int)) := e
  rw [e']
  simp only [Ieee.Datum.integral]
  have e1 : (-(j : Int)).toNat = 0 := by omega
  have e2 : (- -(j : Int)).toNat = j := by omega
  rw [e1, e2, Nat.shiftLeft_zero, cut_zero]
  rfl
theorem B_small (v : Int) (h : v.natAbs < 2 ^ 53) (h0 : 0 ≤ v) : B v false < 9223372036854775808 := by
  by_cases h1 : v = 0
  · subst h1; decide
  · rw [B_word h1 h]
    have hm : v.natAbs ≠ 0 := by omega
    have hl := log2_le _ hm h
    have ht := top_le _ hm h
    have hs : sgn v false = false := by unfold sgn; rw [if_neg h1]; simpa using h0
    rw [hs]
    have hw : Ieee.double.word false (rung v.natAbs) = rung v.natAbs := rfl
    rw [hw]
    unfold rung
    omega
theorem sgnb_B (v : Int) (h : v.natAbs < 2 ^ 53) (h0 : 0 ≤ v) : sgnb (B v false) = false := by
  have := B_small v h h0
  generalize B v false = b at this
  unfold sgnb
  have : wrap64 (b : Int) = b := by unfold wrap64; omega
  rw [this]
  exact decide_eq_false (by omega)
theorem whole_B (v : Int) (h0 : 0 ≤ v) (h1 : v < 65519) : whole (B v false) = true := by
  have h : v.natAbs < 2 ^ 53 := by rw [lim53]; omega
  unfold whole
  rw [ge_B v h h0, lt_B v h h1, tr_B v h, feq_B v v h h, sgnb_B v h h0]
  simp
theorem right_enc {p : Int × Int} (h : In p) : rightB (enc p) = true := by
  obtain ⟨a, b, c, d⟩ := h
  unfold rightB enc
  simp only
  rw [whole_B _ a b, whole_B _ c d]; rfl
theorem part_B (v : Int) (z : Bool) (h : v.natAbs < 2 ^ 53) : partB (B v z) = some (B (v % 65519) false) := by
  rw [lim53] at h
  unfold partB
  have e : floatToIntVal .f64 (B v z) .i64 = some v := by
    unfold floatToIntVal
    have e : FloatKind.f64.decode (B v z) = Ieee.double.read (B v z) := rfl
    rw [e, toInt_B v z (by rw [lim53]; exact h)]
    have hmin : IntKind.i64.min = -9223372036854775808 := by decide
    have hmax : IntKind.i64.max = 9223372036854775807 := by decide
    simp only [hmin, hmax]
    rw [if_pos (by omega)]
  rw [e]
  simp only [Option.bind_some]
  rw [if_pos (by omega), if_pos (by omega), ofInt_B]
theorem residue_B (v u : Int) (z y : Bool) (h : v.natAbs < 2 ^ 53) (h' : u.natAbs < 2 ^ 53) : residueB (B v z, B u y) = some (enc (v % 65519, u % 65519)) := by
  unfold residueB
  simp only
  rw [part_B v z h, part_B u y h']
  rfl
theorem fb_add (v u : Int) (z y : Bool) (h1 : v.natAbs < 2 ^ 53) (h2 : u.natAbs < 2 ^ 53) (h : (v + u).natAbs < 2 ^ 53) : floatBits .add .f64 (B v z) (B u y) = some (B (v + u) (sgn v z && sgn u y)) := add_B v u z y h1 h2 h
theorem fb_sub (v u : Int) (z y : Bool) (h1 : v.natAbs < 2 ^ 53) (h2 : u.natAbs < 2 ^ 53) (h : (v - u).natAbs < 2 ^ 53) : floatBits .sub .f64 (B v z) (B u y) = some (B (v - u) (sgn v z && sgn (-u) (!y))) := sub_B v u z y h1 h2 h
theorem fb_mul (v u : Int) (z y : Bool) (h1 : v.natAbs < 2 ^ 53) (h2 : u.natAbs < 2 ^ 53) (h : (v * u).natAbs < 2 ^ 53) : floatBits .mul .f64 (B v z) (B u y) = some (B (v * u) (sgn v z ^^ sgn u y)) := mul_B v u z y h1 h2 h

theorem prod_bound {a b : Int} (h0 : 0 ≤ a) (h1 : a < 65519) (h2 : 0 ≤ b) (h3 : b < 65519) : 0 ≤ a * b ∧ a * b ≤ 4292608324 := by
  constructor
  · exact Int.mul_nonneg h0 h2
  · have := Int.mul_le_mul (show a ≤ 65518 by omega) (show b ≤ 65518 by omega) h2 (by decide)
    omega
theorem add_enc {p q : Int × Int} (hp : In p) (hq : In q) : addB (enc p) (enc q) = some (enc ((p.1 + q.1) % 65519, (p.2 + q.2) % 65519)) := by
  unfold addB
  rw [right_enc hp, right_enc hq, Bool.and_self, if_pos (rfl : true = true)]
  obtain ⟨a, b, c, d⟩ := hp
  obtain ⟨a', b', c', d'⟩ := hq
  unfold cSumBits enc
  simp only
  rw [fb_add _ _ _ _ (by rw [lim53]; omega) (by rw [lim53]; omega) (by rw [lim53]; omega), fb_add _ _ _ _ (by rw [lim53]; omega) (by rw [lim53]; omega) (by rw [lim53]; omega)]
  simp only [Option.bind_some]
  exact residue_B _ _ _ _ (by rw [lim53]; omega) (by rw [lim53]; omega)
theorem sub_enc {p q : Int × Int} (hp : In p) (hq : In q) : subB (enc p) (enc q) = some (enc ((p.1 - q.1) % 65519, (p.2 - q.2) % 65519)) := by
  unfold subB
  rw [right_enc hp, right_enc hq, Bool.and_self, if_pos (rfl : true = true)]
  obtain ⟨a, b, c, d⟩ := hp
  obtain ⟨a', b', c', d'⟩ := hq
  unfold cSumBits enc
  simp only
  rw [fb_sub _ _ _ _ (by rw [lim53]; omega) (by rw [lim53]; omega) (by rw [lim53]; omega), fb_sub _ _ _ _ (by rw [lim53]; omega) (by rw [lim53]; omega) (by rw [lim53]; omega)]
  simp only [Option.bind_some]
  exact residue_B _ _ _ _ (by rw [lim53]; omega) (by rw [lim53]; omega)
theorem mul_enc {p q : Int × Int} (hp : In p) (hq : In q) : mulB (enc p) (enc q) = some (enc (mulP p q)) := by
  unfold mulB
  rw [right_enc hp, right_enc hq, Bool.and_self, if_pos (rfl : true = true)]
  obtain ⟨a, b, c, d⟩ := hp
  obtain ⟨a', b', c', d'⟩ := hq
  have m1 := prod_bound a b a' b'
  have m2 := prod_bound c d c' d'
  have m3 := prod_bound a b c' d'
  have m4 := prod_bound c d a' b'
  unfold cMulBits enc mulP
  simp only
  rw [fb_mul p.1 q.1 _ _ (by rw [lim53]; omega) (by rw [lim53]; omega) (by rw [lim53]; omega), fb_mul p.2 q.2 _ _ (by rw [lim53]; omega) (by rw [lim53]; omega) (by rw [lim53]; omega)]
  simp only [Option.bind_some]
  rw [fb_sub _ _ _ _ (by rw [lim53]; omega) (by rw [lim53]; omega) (by rw [lim53]; omega), fb_mul p.1 q.2 _ _ (by rw [lim53]; omega) (by rw [lim53]; omega) (by rw [lim53]; omega), fb_mul p.2 q.1 _ _ (by rw [lim53]; omega) (by rw [lim53]; omega) (by rw [lim53]; omega)]
  simp only [Option.bind_some]
  rw [fb_add _ _ _ _ (by rw [lim53]; omega) (by rw [lim53]; omega) (by rw [lim53]; omega)]
  simp only [Option.bind_some]
  exact residue_B _ _ _ _ (by rw [lim53]; omega) (by rw [lim53]; omega)
theorem ceq_enc {p q : Int × Int} (hp : In p) (hq : In q) : ceq (enc p) (enc q) = decide (p = q) := by
  obtain ⟨a, b, c, d⟩ := hp
  obtain ⟨a', b', c', d'⟩ := hq
  unfold ceq enc
  simp only
  rw [feq_B _ _ (by rw [lim53]; omega) (by rw [lim53]; omega), feq_B _ _ (by rw [lim53]; omega) (by rw [lim53]; omega), ← Bool.decide_and]
  congr 1
  exact propext ⟨fun ⟨x, y⟩ => Prod.ext x y, fun h => by rw [h]; exact ⟨rfl, rfl⟩⟩
theorem neg_B (v : Int) (h : v.natAbs < 2 ^ 53) (h0 : 0 ≤ v) : ∃ z, Op.negFloat .f64 (B v false) = B (-v) z := by
  refine ⟨true, ?_⟩
  have hx : ∀ r : Nat, r < 2 ^ 63 → r ^^^ 2 ^ (FloatKind.f64.format.exponentBits + FloatKind.f64.format.fractionBits) = 2 ^ 63 + r := by
    intro r hr
    have e : FloatKind.f64.format.exponentBits + FloatKind.f64.format.fractionBits = 63 := rfl
    rw [e, Nat.xor_comm]
    have := Nat.two_pow_add_eq_or_of_lt hr 1
    rw [Nat.mul_one] at this
    rw [this]
    apply Nat.eq_of_testBit_eq
    intro i
    rw [Nat.testBit_xor, Nat.testBit_or, Nat.testBit_two_pow]
    by_cases hi : i = 63
    · subst hi
      rw [Nat.testBit_lt_two_pow hr]; simp
    · have : decide (63 = i) = false := decide_eq_false (by omega)
      rw [this]; simp
  unfold Op.negFloat
  rw [hx _ (by have := B_small v h h0; omega)]
  by_cases h1 : v = 0
  · subst h1; decide
  · rw [B_word h1 h, B_word (by omega) (by omega)]
    have s1 : sgn v false = false := by unfold sgn; rw [if_neg h1]; simpa using h0
    have s2 : sgn (-v) true = true := by unfold sgn; rw [if_neg (by omega)]; simp; omega
    rw [s1, s2, Int.natAbs_neg]
    rfl
theorem conj_enc {p : Int × Int} (hp : In p) : residueB ((enc p).1, Op.negFloat .f64 (enc p).2) = some (enc (conj p)) := by
  obtain ⟨a, b, c, d⟩ := hp
  unfold enc
  simp only
  obtain ⟨z, hz⟩ := neg_B p.2 (by rw [lim53]; omega) c
  rw [hz, residue_B _ _ _ _ (by rw [lim53]; omega) (by rw [lim53]; omega)]
  unfold conj enc
  simp only
  rw [Int.emod_eq_of_lt a b]
end Go.Proofs.Ytabgdpobcloclaa.GN
