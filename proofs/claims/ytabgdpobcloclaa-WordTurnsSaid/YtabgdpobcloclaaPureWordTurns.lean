/- WordTurns' pure statement: turning a word left and right is what the reference reckons bit by bit; no condition. -/
import Derived.Test.YtabgdpobcloclaaPWordTurnsx1
namespace Go.Proofs.Ytabgdpobcloclaa.Pure
open Go.RowKit Go.Proofs.Ytabgdpobcloclaa.PWordTurns Go.Proofs.YtabgdpobcloclaaW.PrintWords Go.Proofs.YtabgdpobcloclaaW.PrintLast Go.Proofs.YtabgdpobcloclaaW.PrintMore

theorem w64 {x : Int} (h : -9223372036854775808 ≤ x) (h' : x ≤ 9223372036854775807) : wrap64 x = x := by unfold wrap64; omega

theorem and31 (x : Int) : Go.bits .and .i64 x 31 = x % 32 := by
  have h : (BitVec.ofInt 64 x &&& BitVec.ofInt 64 31).toNat = (x % 32).toNat := by
    have e : (BitVec.ofInt 64 31).toNat = 2 ^ 5 - 1 := by decide
    rw [BitVec.toNat_and, e, Nat.and_two_pow_sub_one_eq_mod, BitVec.toNat_ofInt]
    omega
  have hb : Go.bits .and .i64 x 31 = IntKind.i64.wrap (((BitVec.ofInt 64 x &&& BitVec.ofInt 64 31).toNat : Nat) : Int) := rfl
  rw [hb, h, IntKind.wrap_i64]
  omega

theorem tmod_pos {x : Int} (h : 0 ≤ x) (n : Int) : Int.tmod x n = x % n := Int.tmod_eq_emod_of_nonneg h

theorem turn_eq (n : Int) (h : (Lit.int .i64 n).wf = true) : quitclaimref01_Turn.f n = some (n % 32) := by
  have hb : -9223372036854775808 ≤ n ∧ n ≤ 9223372036854775807 := by
    simpa [Lit.wf, IntKind.min, IntKind.max, IntKind.signed, IntKind.bits] using h
  unfold quitclaimref01_Turn.f
  have e : Int.tmod n 32 = if 0 ≤ n then n % 32 else -((-n) % 32) := by
    split
    · exact tmod_pos ‹_› _
    · rw [← Int.neg_neg n, Int.neg_tmod, tmod_pos (by omega)]
      simp
  rw [e]
  by_cases h0 : 0 ≤ n
  · rw [if_pos h0, if_neg (by omega)]
  · rw [if_neg h0]
    by_cases h1 : -((-n) % 32) < 0
    · rw [if_pos h1, w64 (by omega) (by omega)]; congr 1; omega
    · rw [if_neg h1]; congr 1; omega

/-- what Left makes -/
def turnL (w k : Nat) : Nat := w % 2 ^ (32 - k) * 2 ^ k + w / 2 ^ (32 - k)

theorem pow_split {k : Nat} (h : k ≤ 32) : 2 ^ (32 - k) * 2 ^ k = 2 ^ 32 := by
  rw [← Nat.pow_add]; congr 1; omega

theorem left_eq (w k : Nat) (n : Int) (hw : w < 2 ^ 32) (hk : k < 32) (hn : n % 32 = k) : word_Left.f w n = some (turnL w k : Int) := by
  unfold word_Left.f
  rw [and31, hn]
  have e1 : wrap64 (32 - (k : Int)) = ((32 - k : Nat) : Int) := by rw [w64 (by omega) (by omega)]; omega
  rw [e1, if_pos (by omega), if_pos (by omega)]
  have e2 : shl .u32 (w : Int) (k : Int) = ((w % 2 ^ (32 - k) * 2 ^ k : Nat) : Int) := by
    unfold shl
    rw [IntKind.wrap_u32]
    have : min ((k : Int)).toNat IntKind.u32.bits = k := by
      have hb : IntKind.u32.bits = 32 := rfl
      rw [hb]; omega
    rw [this]
    rw [← Nat.mul_mod_mul_right, pow_split (by omega)]
    simp
  have e3 : shr .u32 (w : Int) ((32 - k : Nat) : Int) = ((w / 2 ^ (32 - k) : Nat) : Int) := by
    unfold shr
    have : min (((32 - k : Nat) : Int)).toNat IntKind.u32.bits = 32 - k := by
      have hb : IntKind.u32.bits = 32 := rfl
      rw [hb]; omega
    rw [this]
    simp
  rw [e2, e3]
  have hp := pow_split (k := k) (by omega)
  have hpos : 0 < 2 ^ (32 - k) := Nat.two_pow_pos _
  have h1 : w % 2 ^ (32 - k) * 2 ^ k < 2 ^ 32 := by
    rw [← hp]
    exact Nat.mul_lt_mul_of_pos_right (Nat.mod_lt _ hpos) (Nat.two_pow_pos _)
  have h2 : w / 2 ^ (32 - k) < 2 ^ k := by
    rw [Nat.div_lt_iff_lt_mul hpos, Nat.mul_comm, hp]; exact hw
  have h3 : 2 ^ k ≤ 2 ^ 32 := Nat.pow_le_pow_right (by decide) (by omega)
  congr 1
  rw [bits_join .u32 32 (by decide) (fun n h0 h1 => by rw [IntKind.wrap_u32]; omega) k _ _ (Int.natCast_nonneg _) (by
      have : (w % 2 ^ (32 - k) * 2 ^ k) % 2 ^ k = 0 := Nat.mul_mod_left _ _
      exact_mod_cast this) (by exact_mod_cast h1) (Int.natCast_nonneg _) (by exact_mod_cast h2) (by exact_mod_cast Nat.lt_of_lt_of_le h2 h3)]
  unfold turnL
  simp

theorem turnL_lt (w k : Nat) (hw : w < 2 ^ 32) (hk : k ≤ 32) : turnL w k < 2 ^ 32 := by
  have hp := pow_split hk
  have hpos : 0 < 2 ^ (32 - k) := Nat.two_pow_pos _
  have h2 : w / 2 ^ (32 - k) < 2 ^ k := by
    rw [Nat.div_lt_iff_lt_mul hpos, Nat.mul_comm, hp]; exact hw
  have h1 : (w % 2 ^ (32 - k) + 1) * 2 ^ k ≤ 2 ^ 32 := by
    rw [← hp]
    exact Nat.mul_le_mul_right _ (Nat.mod_lt _ hpos)
  unfold turnL
  rw [Nat.add_mul] at h1
  omega

theorem turn_back (w k : Nat) (hw : w < 2 ^ 32) (hk : k < 32) : turnL (turnL w k) ((32 - k) % 32) = w := by
  rcases Nat.eq_zero_or_pos k with rfl | h0
  · have e : turnL w 0 = w := by
      unfold turnL
      rw [Nat.sub_zero, Nat.pow_zero, Nat.mul_one, Nat.mod_eq_of_lt hw, Nat.div_eq_of_lt hw, Nat.add_zero]
    rw [e]; exact e
  · have e : (32 - k) % 32 = 32 - k := Nat.mod_eq_of_lt (by omega)
    have e' : 32 - (32 - k) = k := by omega
    have hp := pow_split (k := k) (by omega)
    have hpos : 0 < 2 ^ (32 - k) := Nat.two_pow_pos _
    have h2 : w / 2 ^ (32 - k) < 2 ^ k := by
      rw [Nat.div_lt_iff_lt_mul hpos, Nat.mul_comm, hp]; exact hw
    rw [e]
    show turnL w k % 2 ^ (32 - (32 - k)) * 2 ^ (32 - k) + turnL w k / 2 ^ (32 - (32 - k)) = w
    rw [e']
    have hm : turnL w k % 2 ^ k = w / 2 ^ (32 - k) := by
      unfold turnL
      rw [Nat.mul_comm, Nat.mul_add_mod, Nat.mod_eq_of_lt h2]
    have hd : turnL w k / 2 ^ k = w % 2 ^ (32 - k) := by
      unfold turnL
      rw [Nat.mul_comm, Nat.mul_add_div (Nat.two_pow_pos _), Nat.div_eq_of_lt h2]; omega
    rw [hm, hd]
    exact Nat.div_add_mod' w _

/-! ### the reference -/
def bl (w : Nat) : Nat → List Int
  | 0 => []
  | n + 1 => ((w / 2 ^ n % 2 : Nat) : Int) :: bl w n

theorem bl_length (w n : Nat) : (bl w n).length = n := by induction n <;> simp [bl, *]

theorem bl_split (w a b : Nat) : bl w (a + b) = bl (w / 2 ^ b) a ++ bl w b := by
  induction a with
  | zero => simp [bl]
  | succ a ih =>
    rw [Nat.add_right_comm]
    simp only [bl, ih, List.cons_append]
    congr 2
    rw [Nat.div_div_eq_div_mul, ← Nat.pow_add, Nat.add_comm b a]

theorem bits_loop (w : Nat) (hw : w < 2 ^ 32) : ∀ (n : Nat) (k : Nat) (acc : List Int), n ≤ 32 → n < k → acc.length ≤ 32 - n →
    quitclaimref01_Bits.l0 k w acc ((n : Int) - 1) = some (acc ++ bl w n) := by
  intro n
  induction n with
  | zero =>
    intro k acc _ hk _
    obtain ⟨k, rfl⟩ : ∃ m, k = m + 1 := ⟨k - 1, by omega⟩
    simp only [quitclaimref01_Bits.l0]
    rw [if_neg (by omega)]
    simp [bl]
  | succ n ih =>
    intro k acc h32 hk hl
    obtain ⟨k, rfl⟩ : ∃ m, k = m + 1 := ⟨k - 1, by omega⟩
    simp only [quitclaimref01_Bits.l0]
    rw [if_pos (by omega), if_pos (by omega), if_pos (by omega)]
    have e : (((n + 1 : Nat) : Int) - 1) = (n : Int) := by omega
    rw [e, w64 (x := (n : Int) - 1) (by omega) (by omega)]
    have e3 : shr .u32 (w : Int) (n : Int) = ((w / 2 ^ n : Nat) : Int) := by
      unfold shr
      have : min ((n : Int)).toNat IntKind.u32.bits = n := by
        have hb : IntKind.u32.bits = 32 := rfl
        rw [hb]; omega
      rw [this]; simp
    have hle : w / 2 ^ n ≤ w := Nat.div_le_self _ _
    generalize hq : w / 2 ^ n = q at e3 hle
    rw [e3, w64 (by omega) (by omega), tmod_pos (by omega)]
    rw [ih k _ (by omega) (by omega) (by simp; omega)]
    simp [bl, hq]

theorem bits_eq (w : Nat) (hw : w < 2 ^ 32) (k : Nat) (hk : 32 < k) : quitclaimref01_Bits.f k w = some (bl w 32) := by
  have := bits_loop w hw 32 k [] (by omega) hk (by simp)
  simpa [quitclaimref01_Bits.f] using this

def val (acc : Int) (l : List Int) : Int := l.foldl (fun a b => 2 * a + b) acc

theorem val_bl (w n : Nat) (acc : Nat) : val acc (bl w n) = ((acc * 2 ^ n + w % 2 ^ n : Nat) : Int) := by
  induction n generalizing acc with
  | zero => simp [val, bl, Nat.mod_one]
  | succ n ih =>
    have h : val acc (bl w (n + 1)) = val ((2 * acc + w / 2 ^ n % 2 : Nat) : Int) (bl w n) := by
      simp [val, bl]
    rw [h, ih]
    congr 1
    rw [Nat.pow_succ, Nat.mod_mul, Nat.add_mul]
    have : 2 * acc * 2 ^ n = acc * (2 ^ n * 2) := by rw [Nat.mul_comm 2 acc, Nat.mul_assoc, Nat.mul_comm 2]
    rw [this, Nat.mul_comm (w / 2 ^ n % 2)]
    omega

theorem word_loop (x0 : List Int) (hx : x0.length = 32) (hb : ∀ b ∈ x0, b = 0 ∨ b = 1) : ∀ (d i k : Nat) (acc : Int), i + d = 32 → d < k → 0 ≤ acc → acc < 2 ^ i →
    quitclaimref01_Word.l0 k x0 acc i = some (val acc (x0.drop i)) := by
  intro d
  induction d with
  | zero =>
    intro i k acc hi hk h0 h1
    obtain ⟨k, rfl⟩ : ∃ m, k = m + 1 := ⟨k - 1, by omega⟩
    simp only [quitclaimref01_Word.l0]
    rw [if_neg (by omega), List.drop_of_length_le (by omega)]
    rfl
  | succ d ih =>
    intro i k acc hi hk h0 h1
    obtain ⟨k, rfl⟩ : ∃ m, k = m + 1 := ⟨k - 1, by omega⟩
    simp only [quitclaimref01_Word.l0]
    rw [if_pos (by omega), if_pos (by omega), if_pos (by omega), w64 (by omega) (by omega)]
    have hr : rd x0 (i : Int) = x0[i]'(by omega) := by
      simp [rd, List.getD_eq_getElem?_getD, List.getElem?_eq_getElem (show i < x0.length by omega)]
    have hm := hb (x0[i]'(by omega)) (List.getElem_mem _)
    have hp : (2 : Int) ^ (i + 1) = 2 * 2 ^ i := by rw [Int.pow_succ, Int.mul_comm]
    have hq : (2 : Int) ^ (i + 1) ≤ 2 ^ 32 := by
      have : (2 : Nat) ^ (i + 1) ≤ 2 ^ 32 := Nat.pow_le_pow_right (by decide) (by omega)
      exact_mod_cast this
    have e : ((2 * acc) % 4294967296 + (rd x0 (i : Int)) % 4294967296) % 4294967296 = 2 * acc + x0[i]'(by omega) := by
      rw [hr]; omega
    rw [e, show ((i : Int) + 1) = ((i + 1 : Nat) : Int) by omega, ih (i + 1) k _ (by omega) (by omega) (by omega) (by omega)]
    conv => rhs; rw [List.drop_eq_getElem_cons (show i < x0.length by omega)]
    rfl

theorem left_loop (n : Nat) (hn : n < 32) (x5 : List Int) (hx : x5.length = 32) (hb : ∀ b ∈ x5, b = 0 ∨ b = 1) : ∀ (d i k : Nat) (x6 : List Int), i + d = 32 → d + 33 < k → x6 = (x5.drop n ++ x5.take n).take i →
    quitclaimref01_Left.l0 k n x5 x6 i = some (val 0 (x5.drop n ++ x5.take n)) := by
  intro d
  induction d with
  | zero =>
    intro i k x6 hi hk h6
    obtain ⟨k, rfl⟩ : ∃ m, k = m + 1 := ⟨k - 1, by omega⟩
    simp only [quitclaimref01_Left.l0]
    rw [if_neg (by omega)]
    rw [List.take_of_length_le (by simp; omega)] at h6
    subst h6
    have := word_loop (x5.drop n ++ x5.take n) (by simp; omega) (by
      intro b h
      rcases List.mem_append.1 h with h | h
      · exact hb _ (List.mem_of_mem_drop h)
      · exact hb _ (List.mem_of_mem_take h)) 32 0 k 0 (by omega) (by omega) (by omega) (by omega)
    unfold quitclaimref01_Word.f
    rw [show ((0 : Nat) : Int) = 0 from rfl] at this
    rw [this]
    simp
  | succ d ih =>
    intro i k x6 hi hk h6
    obtain ⟨k, rfl⟩ : ∃ m, k = m + 1 := ⟨k - 1, by omega⟩
    simp only [quitclaimref01_Left.l0]
    have e : Int.tmod (wrap64 ((i : Int) + (n : Int))) 32 = (((i + n) % 32 : Nat) : Int) := by
      rw [w64 (by omega) (by omega), tmod_pos (by omega)]; omega
    have h6l : x6.length = i := by rw [h6]; simp; omega
    rw [if_pos (by omega), e, if_pos (by omega), if_pos (by omega), if_pos (by omega), w64 (by omega) (by omega)]
    rw [show ((i : Int) + 1) = ((i + 1 : Nat) : Int) by omega]
    refine ih (i + 1) k _ (by omega) (by omega) ?_
    have hlt : i < (x5.drop n ++ x5.take n).length := by simp; omega
    rw [List.take_succ_eq_append_getElem hlt, ← h6]
    congr 2
    have hlt2 : (i + n) % 32 < x5.length := by omega
    have hr : rd x5 (((i + n) % 32 : Nat) : Int) = x5[(i + n) % 32] := by
      simp only [rd, Int.toNat_natCast, List.getD_eq_getElem?_getD, List.getElem?_eq_getElem hlt2, Option.getD_some]
    rw [hr, List.getElem_append]
    split
    · rename_i h
      simp at h
      rw [List.getElem_drop]
      congr 1
      omega
    · rename_i h
      simp at h
      rw [List.getElem_take]
      congr 1
      simp
      omega

theorem bl_bits (w n : Nat) : ∀ b ∈ bl w n, b = 0 ∨ b = 1 := by
  induction n with
  | zero => simp [bl]
  | succ n ih =>
    intro b h
    rcases List.mem_cons.1 h with rfl | h
    · omega
    · exact ih b h

theorem ref_left (w n : Nat) (hw : w < 2 ^ 32) (hn : n < 32) (k : Nat) (hk : 66 < k) : quitclaimref01_Left.f k w n = some (turnL w n : Int) := by
  unfold quitclaimref01_Left.f
  rw [bits_eq w hw k (by omega)]
  simp only [Option.bind_some]
  have := left_loop n hn (bl w 32) (bl_length _ _) (bl_bits _ _) 32 0 k [] (by omega) (by omega) (by simp)
  rw [show ((0 : Nat) : Int) = 0 from rfl] at this
  rw [this]
  congr 1
  have e : bl w 32 = bl (w / 2 ^ (32 - n)) n ++ bl w (32 - n) := by
    have := bl_split w n (32 - n)
    rwa [show n + (32 - n) = 32 by omega] at this
  have h1 : (bl w 32).drop n = bl w (32 - n) := by rw [e, List.drop_left' (bl_length _ _)]
  have h2 : (bl w 32).take n = bl (w / 2 ^ (32 - n)) n := by rw [e, List.take_left' (bl_length _ _)]
  rw [h1, h2]
  unfold val
  rw [List.foldl_append]
  have a1 := val_bl w (32 - n) 0
  unfold val at a1
  rw [show ((0 : Nat) : Int) = 0 from rfl] at a1
  rw [a1]
  have a2 := val_bl (w / 2 ^ (32 - n)) n (0 * 2 ^ (32 - n) + w % 2 ^ (32 - n))
  unfold val at a2
  rw [a2]
  unfold turnL
  have hp := pow_split (k := n) (by omega)
  have h2 : w / 2 ^ (32 - n) < 2 ^ n := by
    rw [Nat.div_lt_iff_lt_mul (Nat.two_pow_pos _), Nat.mul_comm, hp]; exact hw
  rw [Nat.mod_eq_of_lt h2]
  simp

theorem awake_eq : quitclaimlaw01_awake.f = some true := by
  have h1 : word_Left.f 2147483649 1 = some 3 := by decide +kernel
  have h2 : word_Bit.f (⟨#[64]⟩ : ByteArray) 1 = some (1, true) := by decide +kernel
  unfold quitclaimlaw01_awake.f
  rw [h1, h2]
  simp

theorem right_eq (w k : Nat) (n : Int) (hw : w < 2 ^ 32) (hk : k < 32) (hn : n % 32 = k) : word_Right.f w n = some (turnL w ((32 - k) % 32) : Int) := by
  unfold word_Right.f
  rw [and31, hn]
  have e1 : wrap64 (32 - (k : Int)) = ((32 - k : Nat) : Int) := by rw [w64 (by omega) (by omega)]; omega
  rw [e1, left_eq w ((32 - k) % 32) ((32 - k : Nat) : Int) hw (by omega) (by omega)]
  rfl

theorem WordTurns : quitclaimlaw01_WordTurns.Pure := by
  intro a0 a1 h0 h1
  have hb0 : 0 ≤ a0 ∧ a0 ≤ 4294967295 := by
    simpa [Lit.wf, IntKind.min, IntKind.max, IntKind.signed, IntKind.bits] using h0
  obtain ⟨w, rfl⟩ := Int.eq_ofNat_of_zero_le hb0.1
  have hw : w < 2 ^ 32 := by omega
  obtain ⟨n, hn⟩ : ∃ n : Nat, a1 % 32 = (n : Int) := ⟨(a1 % 32).toNat, by omega⟩
  have hn32 : n < 32 := by omega
  obtain ⟨k, hk⟩ : ∃ k : Nat, 66 < k := ⟨67, by omega⟩
  refine ⟨k, ?_⟩
  unfold quitclaimlaw01_WordTurns.f
  rw [turn_eq a1 h1, hn]
  simp only [Option.bind_some]
  rw [left_eq w n a1 hw hn32 hn, right_eq w n a1 hw hn32 hn, ref_left w n hw hn32 k (by omega)]
  simp only [Option.bind_some, if_true]
  have e : Int.tmod (wrap64 (32 - (n : Int))) 32 = (((32 - n) % 32 : Nat) : Int) := by
    rw [w64 (by omega) (by omega), tmod_pos (by omega)]; omega
  rw [e, ref_left w ((32 - n) % 32) hw (by omega) k (by omega)]
  simp only [Option.bind_some, if_true]
  rw [right_eq (turnL w n) n a1 (turnL_lt w n hw (by omega)) hn32 hn, turn_back w n hw hn32]
  simp only [Option.bind_some, if_true, awake_eq]

end Go.Proofs.Ytabgdpobcloclaa.Pure
