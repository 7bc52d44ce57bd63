/- WordNumbers' pure statement: numbers as bytes, bytes as numbers and the bits of a text are the reference's; no condition. -/
import Derived.Test.YtabgdpobcloclaaPWordNumbersx2
namespace Go.Proofs.Ytabgdpobcloclaa.Pure
open Go.RowKit Go.Proofs.Ytabgdpobcloclaa.PWordNumbers Go.Proofs.YtabgdpobcloclaaW.PrintWords Go.Proofs.YtabgdpobcloclaaW.PrintLast Go.Proofs.YtabgdpobcloclaaW.PrintMore

namespace WN
theorem w64 {x : Int} (h : -9223372036854775808 ≤ x) (h' : x ≤ 9223372036854775807) : wrap64 x = x := by unfold wrap64; omega
theorem wu64 (x : Int) : IntKind.u64.wrap x = x % 18446744073709551616 := by
  unfold IntKind.wrap
  rw [if_neg (by simp [IntKind.signed]), show (2 : Int) ^ IntKind.u64.bits = 18446744073709551616 by decide]
theorem tmod_pos {x : Int} (h : 0 ≤ x) (n : Int) : Int.tmod x n = x % n := Int.tmod_eq_emod_of_nonneg h
theorem tdiv_pos {x : Int} (h : 0 ≤ x) (n : Int) : Int.tdiv x n = x / n := Int.tdiv_eq_ediv_of_nonneg h

/-- the numbers of a text's bytes -/
def nl (s : ByteArray) : List Int := s.data.toList.map fun b => (b.toNat : Int)
theorem pow256 : ∀ i : Nat, i < 8 → (256 : Int) ^ i ≤ 72057594037927936 := by decide
theorem nl_length (s : ByteArray) : (nl s).length = s.size := by unfold nl; rw [List.length_map, Array.length_toList]; rfl
theorem nl_range (s : ByteArray) : ∀ b ∈ nl s, 0 ≤ b ∧ b < 256 := by
  intro b h
  obtain ⟨c, _, rfl⟩ := List.mem_map.1 h
  have := c.toNat_lt
  omega
theorem bt_nl (s : ByteArray) (i : Nat) (h : i < s.size) : bt s i = (nl s)[i]'(by rw [nl_length]; exact h) := by
  have h' : ((i : Int)).toNat < s.size := by omega
  rw [bt, dif_pos h']
  simp [nl, ByteArray.getElem_eq_getElem_data]
theorem nl_str (xs : List Int) (h : ∀ x ∈ xs, 0 ≤ x ∧ x < 256) : nl (strOfNums xs) = xs := by
  unfold nl strOfNums
  simp only [List.map_map]
  conv => rhs; rw [← List.map_id xs]
  refine List.map_congr_left fun x hx => ?_
  have := h x hx
  simp only [Function.comp, id]
  have e : (UInt8.ofNat x.toNat).toNat = x.toNat := by
    rw [UInt8.toNat_ofNat']; omega
  rw [e]; omega
theorem str_size (xs : List Int) : (strOfNums xs).size = xs.length := by simp [strOfNums, ByteArray.size]
theorem str_append (xs ys : List Int) : strOfNums xs ++ strOfNums ys = strOfNums (xs ++ ys) := by
  apply ByteArray.ext
  simp [strOfNums]
theorem str_nil : strOfNums [] = (⟨#[]⟩ : ByteArray) := rfl

/-- a number's bytes, the highest first -/
def be : Nat → Int → List Int
  | 0, _ => []
  | n + 1, v => be n (v / 256) ++ [v % 256]
theorem be_length (n : Nat) (v : Int) : (be n v).length = n := by induction n generalizing v <;> simp [be, *]
theorem be_range (n : Nat) (v : Int) : ∀ b ∈ be n v, 0 ≤ b ∧ b < 256 := by
  induction n generalizing v with
  | zero => simp [be]
  | succ n ih =>
    intro b h
    rcases List.mem_append.1 h with h | h
    · exact ih _ b h
    · obtain rfl := List.mem_singleton.1 h
      omega
def val (l : List Int) : Int := l.foldl (fun a b => 256 * a + b) 0
theorem val_snoc (l : List Int) (b : Int) : val (l ++ [b]) = 256 * val l + b := by simp [val]
theorem val_be (n : Nat) (v : Int) (h0 : 0 ≤ v) (h : v < 256 ^ n) : val (be n v) = v := by
  induction n generalizing v with
  | zero => simp at h; simp [be, val]; omega
  | succ n ih =>
    have hp : (256 : Int) ^ (n + 1) = 256 * 256 ^ n := by rw [Int.pow_succ, Int.mul_comm]
    rw [be, val_snoc, ih (v / 256) (by omega) (by omega)]
    omega
theorem val_lt (l : List Int) (h : ∀ b ∈ l, 0 ≤ b ∧ b < 256) : 0 ≤ val l ∧ val l < 256 ^ l.length := by
  have key : ∀ (l : List Int) (a : Int) (m : Nat), (∀ b ∈ l, 0 ≤ b ∧ b < 256) → 0 ≤ a → a < 256 ^ m → 0 ≤ l.foldl (fun a b => 256 * a + b) a ∧ l.foldl (fun a b => 256 * a + b) a < 256 ^ (m + l.length) := by
    intro l
    induction l with
    | nil => intro a m _ h0 h1; exact ⟨h0, h1⟩
    | cons b l ih =>
      intro a m hl h0 h1
      have hb := hl b (by simp)
      have hp : (256 : Int) ^ (m + 1) = 256 * 256 ^ m := by rw [Int.pow_succ, Int.mul_comm]
      have := ih (256 * a + b) (m + 1) (fun c hc => hl c (by simp [hc])) (by omega) (by omega)
      simpa [Nat.add_assoc, Nat.add_comm 1] using this
  have := key l 0 0 h (by omega) (by simp)
  simpa [val] using this

/-! Number -/
theorem number_loop (k : Nat) : ∀ (m : Nat) (v : Int) (tail : List Int), m ≤ 8 → m < k → 0 ≤ v → v < 18446744073709551616 →
    word_Number.l0 k v (List.replicate m 0 ++ tail) ((m : Int) - 1) = some (strOfNums (be m v ++ tail), true) := by
  induction k with
  | zero => intro m _ _ _ h; omega
  | succ k ih =>
    intro m v tail h8 hk h0 h1
    simp only [word_Number.l0]
    rcases m with _ | m
    · rw [if_neg (by omega)]; simp [be]
    · have e : (((m + 1 : Nat) : Int) - 1) = (m : Int) := by omega
      rw [e, if_pos (by omega), if_pos (by omega), if_pos (by simp; omega), w64 (by omega) (by omega)]
      have es : (List.replicate (m + 1) (0 : Int) ++ tail).set ((m : Int)).toNat (v % 256) = List.replicate m 0 ++ (v % 256 :: tail) := by
        rw [Int.toNat_natCast, List.replicate_succ', List.append_assoc, List.set_append_right _ _ (by simp)]
        simp
      rw [es, ih m (v / 256) _ (by omega) (by omega) (by omega) (by omega)]
      simp [be]

theorem ref_loop (k : Nat) : ∀ (d i n : Nat) (v : Int) (tail : List Int), i + d = n → n ≤ 8 → d < k → 0 ≤ v → v < 18446744073709551616 → tail.length ≤ i →
    quitclaimref01_Number.l0 k v n (strOfNums tail) i = some (strOfNums (be d v ++ tail), true) := by
  induction k with
  | zero => intro d _ _ _ _ _ _ h; omega
  | succ k ih =>
    intro d i n v tail hd h8 hk h0 h1 hl
    simp only [quitclaimref01_Number.l0]
    rcases d with _ | d
    · rw [if_neg (by omega)]; simp [be]
    · rw [if_pos (by omega)]
      simp only [Option.bind_some]
      rw [if_pos (by rw [str_size, str_size]; simp; omega), str_append, w64 (by omega) (by omega), tmod_pos h0, tdiv_pos h0, wu64]
      have e1 : v % 256 % 256 = v % 256 := by omega
      have e2 : v / 256 % 18446744073709551616 = v / 256 := by omega
      rw [e1, e2, show ((i : Int) + 1) = ((i + 1 : Nat) : Int) by omega, ih d (i + 1) n _ _ (by omega) h8 (by omega) (by omega) (by omega) (by simp; omega)]
      simp [be]

theorem power_loop (k : Nat) : ∀ (d i n : Nat) (a : Int), i + d = n → n < 8 → d < k → a = 256 ^ i → quitclaimref01_power.l0 k n a i = some (256 ^ n) := by
  induction k with
  | zero => intro d _ _ _ _ _ h; omega
  | succ k ih =>
    intro d i n a hd h8 hk ha
    simp only [quitclaimref01_power.l0]
    rcases d with _ | d
    · rw [if_neg (by omega), ha]; congr 2
    · have hb := pow256 (i + 1) (by omega)
      have hp : (256 : Int) ^ (i + 1) = 256 * 256 ^ i := by rw [Int.pow_succ, Int.mul_comm]
      have hpos : (0 : Int) < 256 ^ i := Int.pow_pos (by decide)
      have hm : 256 * (256 : Int) ^ i % 18446744073709551616 = 256 ^ (i + 1) := by omega
      rw [if_pos (by omega), w64 (by omega) (by omega), wu64, ha, hm, show ((i : Int) + 1) = ((i + 1 : Nat) : Int) by omega]
      rw [ih d (i + 1) n _ (by omega) h8 (by omega) rfl]

theorem shr_fit (v : Int) (n : Nat) (h0 : 0 ≤ v) (hn : n < 8) : (shr .u64 v ((8 * n : Nat) : Int) != 0) = decide (v ≥ 256 ^ n) := by
  have hb : IntKind.u64.bits = 64 := rfl
  have e : shr .u64 v ((8 * n : Nat) : Int) = v / 256 ^ n := by
    unfold shr
    rw [hb, show min (((8 * n : Nat) : Int)).toNat 64 = 8 * n by omega]
    congr 1
    rw [Int.pow_mul]; rfl
  rw [e]
  have hpos : (0 : Int) < 256 ^ n := Int.pow_pos (by decide)
  rcases Int.lt_or_le v (256 ^ n) with h | h
  · rw [Int.ediv_eq_zero_of_lt h0 h]
    symm; simp; omega
  · have : 1 ≤ v / 256 ^ n := by
      rw [Int.le_ediv_iff_mul_le hpos]; omega
    have h2 : decide (v ≥ 256 ^ n) = true := by simpa using h
    rw [h2, bne_iff_ne]; omega

/-- what Number tells -/
def num (v n : Int) : ByteArray × Bool := if n < 0 ∨ 8 < n ∨ (n < 8 ∧ 256 ^ n.toNat ≤ v) then (⟨#[]⟩, false) else (strOfNums (be n.toNat v), true)

theorem number_eq (k : Nat) (hk : 12 ≤ k) (v n : Int) (h0 : 0 ≤ v) (h1 : v < 18446744073709551616) : word_Number.f k v n = some (num v n) := by
  have bad : ∀ k, 1 ≤ k → word_Number.j0 k v n true = some (⟨#[]⟩, false) := by
    intro k hk
    obtain ⟨k, rfl⟩ : ∃ m, k = m + 1 := ⟨k - 1, by omega⟩
    simp [word_Number.j0]
  have good : ∀ k, 11 ≤ k → 0 ≤ n → n ≤ 8 → word_Number.j0 k v n false = some (strOfNums (be n.toNat v), true) := by
    intro k hk hn hn8
    obtain ⟨k, rfl⟩ : ∃ m, k = m + 1 := ⟨k - 1, by omega⟩
    obtain ⟨m, rfl⟩ := Int.eq_ofNat_of_zero_le hn
    simp only [word_Number.j0]
    rw [if_neg (by simp), if_pos (by omega), if_pos (by omega), w64 (by omega) (by omega), Int.toNat_natCast]
    have := number_loop k m v [] (by omega) (by omega) h0 h1
    simpa using this
  unfold word_Number.f num
  by_cases c1 : n < 0
  · rw [if_pos c1, if_pos (.inl c1), bad k (by omega)]
  rw [if_neg c1]
  by_cases c2 : n > 8
  · rw [if_pos c2, if_pos (.inr (.inl c2)), bad k (by omega)]
  rw [if_neg c2]
  by_cases c3 : n < 8
  · obtain ⟨m, rfl⟩ := Int.eq_ofNat_of_zero_le (Int.not_lt.1 c1)
    rw [if_pos c3, w64 (by omega) (by omega), if_pos (by omega), show (8 : Int) * (m : Int) = ((8 * m : Nat) : Int) by omega, shr_fit v m h0 (by omega)]
    by_cases c4 : v ≥ 256 ^ m
    · rw [decide_eq_true c4, bad k (by omega), if_pos (.inr (.inr ⟨c3, by simpa using c4⟩))]
    · rw [decide_eq_false c4, good k (by omega) (by omega) (by omega), if_neg]
      rintro (h | h | ⟨_, h⟩)
      · omega
      · omega
      · exact c4 (by simpa using h)
  · rw [if_neg c3, good k (by omega) (by omega) (by omega), if_neg]
    rintro (h | h | ⟨h, _⟩) <;> omega

theorem ref_number_eq (k : Nat) (hk : 12 ≤ k) (v n : Int) (h0 : 0 ≤ v) (h1 : v < 18446744073709551616) : quitclaimref01_Number.f k v n = some (num v n) := by
  have bad : ∀ k, 1 ≤ k → quitclaimref01_Number.j0 k v n true = some (⟨#[]⟩, false) := by
    intro k hk
    obtain ⟨k, rfl⟩ : ∃ m, k = m + 1 := ⟨k - 1, by omega⟩
    simp [quitclaimref01_Number.j0]
  have good : ∀ k, 11 ≤ k → 0 ≤ n → n ≤ 8 → quitclaimref01_Number.j0 k v n false = some (strOfNums (be n.toNat v), true) := by
    intro k hk hn hn8
    obtain ⟨k, rfl⟩ : ∃ m, k = m + 1 := ⟨k - 1, by omega⟩
    obtain ⟨m, rfl⟩ := Int.eq_ofNat_of_zero_le hn
    simp only [quitclaimref01_Number.j0]
    rw [if_neg (by simp), Int.toNat_natCast]
    have := ref_loop k m 0 m v [] (by omega) (by omega) (by omega) h0 h1 (by simp)
    simpa [str_nil] using this
  unfold quitclaimref01_Number.f num
  by_cases c1 : n < 0
  · rw [if_pos c1, if_pos (.inl c1), bad k (by omega)]
  rw [if_neg c1]
  by_cases c2 : n > 8
  · rw [if_pos c2, if_pos (.inr (.inl c2)), bad k (by omega)]
  rw [if_neg c2]
  by_cases c3 : n < 8
  · obtain ⟨m, rfl⟩ := Int.eq_ofNat_of_zero_le (Int.not_lt.1 c1)
    have hp : quitclaimref01_power.f k m = some (256 ^ m) := by
      unfold quitclaimref01_power.f
      exact power_loop k m 0 m 1 (by omega) (by omega) (by omega) (by simp)
    rw [if_pos c3, hp]
    simp only [Option.bind_some]
    by_cases c4 : v ≥ 256 ^ m
    · rw [decide_eq_true c4, bad k (by omega), if_pos (.inr (.inr ⟨c3, by simpa using c4⟩))]
    · rw [decide_eq_false c4, good k (by omega) (by omega) (by omega), if_neg]
      rintro (h | h | ⟨_, h⟩)
      · omega
      · omega
      · exact c4 (by simpa using h)
  · rw [if_neg c3, good k (by omega) (by omega) (by omega), if_neg]
    rintro (h | h | ⟨h, _⟩) <;> omega

/-! Value -/
theorem take_snoc (l : List Int) (i : Nat) (h : i < l.length) : l.take (i + 1) = l.take i ++ [l[i]] := List.take_succ_eq_append_getElem h

theorem or_join (a b : Int) (h0 : 0 ≤ a) (h1 : a < 18446744073709551616) (hm : a % 256 = 0) (h2 : 0 ≤ b) (h3 : b < 256) : Go.bits .or .u64 a b = a + b :=
  bits_join .u64 64 (by decide) (fun n h0 h1 => by rw [wu64]; omega) 8 a b h0 (by omega) (by omega) h2 (by omega) (by omega)

theorem value_loop (s : ByteArray) (h8 : s.size ≤ 8) (k : Nat) : ∀ (d i : Nat), i + d = s.size → d < k →
    word_Value.l0 k s (val ((nl s).take i)) s.size i = some (val (nl s), true) ∧ quitclaimref01_Value.l0 k s (val ((nl s).take i)) i = some (val (nl s)) := by
  induction k with
  | zero => intro d _ _ h; omega
  | succ k ih =>
    intro d i hd hk
    simp only [word_Value.l0, quitclaimref01_Value.l0]
    rcases d with _ | d
    · rw [if_neg (by omega), if_neg (by omega), List.take_of_length_le (by rw [nl_length]; omega)]
      exact ⟨rfl, rfl⟩
    · have hlt : i < (nl s).length := by rw [nl_length]; omega
      have hr := val_lt ((nl s).take i) (fun b hb => nl_range s b (List.mem_of_mem_take hb))
      have hlen : ((nl s).take i).length = i := by simp; omega
      rw [hlen] at hr
      have hp := pow256 i (by omega)
      have hb := nl_range s _ (List.getElem_mem hlt)
      have e := val_snoc ((nl s).take i) ((nl s)[i])
      rw [← take_snoc _ _ hlt] at e
      obtain ⟨i1, i2⟩ := ih d (i + 1) (by omega) (by omega)
      generalize val ((nl s).take i) = a at hr e
      rw [if_pos (by omega), if_pos (by omega), if_pos (by omega), if_pos (by omega), if_pos (by omega), bt_nl s i (by omega), w64 (by omega) (by omega)]
      generalize (nl s)[i] = b at hb e
      simp only [wu64]
      have e1 : a * 256 % 18446744073709551616 = a * 256 := by omega
      have e2 : b % 18446744073709551616 = b := by omega
      have e3 : (256 * a % 18446744073709551616 + b) % 18446744073709551616 = 256 * a + b := by omega
      rw [e1, e2, or_join _ _ (by omega) (by omega) (by omega) (by omega) (by omega), e3, show ((i : Int) + 1) = ((i + 1 : Nat) : Int) by omega]
      rw [show a * 256 + b = 256 * a + b by omega, ← e]
      exact ⟨i1, i2⟩

theorem value_eq (s : ByteArray) (k : Nat) (hk : 12 ≤ k) : word_Value.f k s = some (if s.size ≤ 8 then val (nl s) else 0, decide (s.size ≤ 8)) := by
  unfold word_Value.f
  by_cases h : s.size ≤ 8
  · have := (value_loop s h k s.size 0 (by omega) (by omega)).1
    rw [if_neg (by omega), if_pos h, decide_eq_true h]
    simpa [val] using this
  · rw [if_pos (by omega), if_neg h, decide_eq_false h]

theorem ref_value_eq (s : ByteArray) (h : s.size ≤ 8) (k : Nat) (hk : 12 ≤ k) : quitclaimref01_Value.f k s = some (val (nl s)) := by
  have := (value_loop s h k s.size 0 (by omega) (by omega)).2
  unfold quitclaimref01_Value.f
  simpa [val] using this

/-! Bit -/
theorem bit_loop (k : Nat) : ∀ (d : Nat) (v : Nat) (i : Nat), i + d = 7 → d < k → v < 256 → quitclaimref01_Bit.l0 k v i = some ((v / 2 ^ d % 2 : Nat) : Int) := by
  induction k with
  | zero => intro d _ _ _ h; omega
  | succ k ih =>
    intro d v i hd hk hv
    simp only [quitclaimref01_Bit.l0]
    rcases d with _ | d
    · rw [if_neg (by omega), tmod_pos (by omega)]; simp
    · rw [if_pos (by omega), tdiv_pos (by omega), w64 (by omega) (by omega), w64 (by omega) (by omega)]
      rw [show (v : Int) / 2 = ((v / 2 : Nat) : Int) by omega, show ((i : Int) + 1) = ((i + 1 : Nat) : Int) by omega, ih d (v / 2) (i + 1) (by omega) (by omega) (by omega)]
      congr 2
      rw [Nat.div_div_eq_div_mul, Nat.pow_succ, Nat.mul_comm]

theorem and1 (x : Int) (h0 : 0 ≤ x) (h1 : x < 256) : Go.bits .and .u8 x 1 = x % 2 := bits_mask .u8 8 (by decide) wraps_u8 1 (by decide) x h0 h1

theorem bit_eq (s : ByteArray) (i : Int) (h0 : 0 ≤ i) (h1 : wrap64 (Int.tdiv i 8) < s.size) (hi : i ≤ 9223372036854775807) (k : Nat) (hk : 12 ≤ k) :
    ∃ b : Int, word_Bit.f s i = some (b, true) ∧ quitclaimref01_Bit.f k s i = some b := by
  obtain ⟨n, rfl⟩ := Int.eq_ofNat_of_zero_le h0
  have e : wrap64 (Int.tdiv (n : Int) 8) = ((n / 8 : Nat) : Int) := by
    rw [tdiv_pos h0, w64 (by omega) (by omega)]; omega
  rw [e] at h1
  have hr := bt_range s ((n / 8 : Nat) : Int)
  obtain ⟨v, hv⟩ : ∃ v : Nat, bt s ((n / 8 : Nat) : Int) = v := ⟨_, (Int.toNat_of_nonneg hr.1).symm⟩
  rw [hv] at hr
  have e2 : Int.tmod (n : Int) 8 = ((n % 8 : Nat) : Int) := by rw [tmod_pos h0]; omega
  have e3 : wrap64 (7 - ((n % 8 : Nat) : Int)) = ((7 - n % 8 : Nat) : Int) := by rw [w64 (by omega) (by omega)]; omega
  have e4 : shr .u8 (v : Int) ((7 - n % 8 : Nat) : Int) = ((v / 2 ^ (7 - n % 8) : Nat) : Int) := by
    unfold shr
    have hb : IntKind.u8.bits = 8 := rfl
    rw [hb, show min (((7 - n % 8 : Nat) : Int)).toNat 8 = 7 - n % 8 by omega]
    simp
  have hle : v / 2 ^ (7 - n % 8) ≤ v := Nat.div_le_self _ _
  refine ⟨((v / 2 ^ (7 - n % 8) % 2 : Nat) : Int), ?_, ?_⟩
  · unfold word_Bit.f
    rw [if_neg (by omega), e, if_neg (by omega), if_pos (by omega), if_pos (by omega), hv, e2, e3, if_pos (by omega), e4]
    generalize v / 2 ^ (7 - n % 8) = q at hle
    rw [and1 _ (by omega) (by omega), w64 (by omega) (by omega)]
    simp
  · unfold quitclaimref01_Bit.f
    rw [e, if_pos (by omega), if_pos (by omega), hv, w64 (by omega) (by omega), e2]
    exact bit_loop k (7 - n % 8) v (n % 8) (by omega) (by omega) (by omega)

theorem awake_eq : quitclaimlaw01_awake.f = some true := by
  have h1 : word_Left.f 2147483649 1 = some 3 := by decide +kernel
  have h2 : word_Bit.f (⟨#[64]⟩ : ByteArray) 1 = some (1, true) := by decide +kernel
  unfold quitclaimlaw01_awake.f
  rw [h1, h2]
  simp

theorem j3_eq (k : Nat) (hk : 14 ≤ k) (s : ByteArray) (i : Int) (h0 : -9223372036854775808 ≤ i) (h1 : i ≤ 9223372036854775807) :
    quitclaimlaw01_WordNumbers.j2 k s i false = some true := by
  obtain ⟨k, rfl⟩ : ∃ m, k = m + 1 := ⟨k - 1, by omega⟩
  obtain ⟨k, rfl⟩ : ∃ m, k = m + 1 := ⟨k - 1, by omega⟩
  simp only [quitclaimlaw01_WordNumbers.j2]
  rw [if_neg (by simp)]
  by_cases c : i < 0
  · have hb : word_Bit.f s i = some (0, false) := by unfold word_Bit.f; rw [if_pos c]
    rw [hb]
    simp only [Option.bind_some]
    rw [if_pos c]
    simp [quitclaimlaw01_WordNumbers.j3, awake_eq]
  · by_cases c2 : wrap64 (Int.tdiv i 8) ≥ s.size
    · have hb : word_Bit.f s i = some (0, false) := by unfold word_Bit.f; rw [if_neg c, if_pos c2]
      rw [hb]
      simp only [Option.bind_some]
      rw [if_neg c, decide_eq_true c2]
      simp [quitclaimlaw01_WordNumbers.j3, awake_eq]
    · obtain ⟨b, hb, hb'⟩ := bit_eq s i (by omega) (by omega) h1 k (by omega)
      rw [hb]
      simp only [Option.bind_some]
      rw [if_neg c, decide_eq_false c2]
      simp [quitclaimlaw01_WordNumbers.j3, awake_eq, hb']

theorem j1_eq (k : Nat) (hk : 15 ≤ k) (s : ByteArray) (i : Int) (h0 : -9223372036854775808 ≤ i) (h1 : i ≤ 9223372036854775807) :
    quitclaimlaw01_WordNumbers.j1 k s i false = some true := by
  obtain ⟨k, rfl⟩ : ∃ m, k = m + 1 := ⟨k - 1, by omega⟩
  simp only [quitclaimlaw01_WordNumbers.j1]
  rw [if_neg (by simp), value_eq s k (by omega)]
  simp only [Option.bind_some]
  have e : (decide (s.size ≤ 8) != decide ((s.size : Int) ≤ 8)) = false := by
    rw [bne_eq_false_iff_eq]
    congr 1
    exact propext ⟨fun h => by omega, fun h => by omega⟩
  rw [e, if_neg (by simp)]
  by_cases c : s.size ≤ 8
  · rw [decide_eq_true c, if_pos rfl, if_pos c, ref_value_eq s c k (by omega)]
    simp only [Option.bind_some, if_true]
    rw [j3_eq k (by omega) s i h0 h1]
  · rw [decide_eq_false c, if_neg (by simp), if_neg c]
    rw [show ((0 : Int) != 0) = false from rfl, j3_eq k (by omega) s i h0 h1]
end WN
open WN

theorem WordNumbers : quitclaimlaw01_WordNumbers.Pure := by
  intro v n s i hv hn hs hi
  have bv : 0 ≤ v ∧ v ≤ 18446744073709551615 := by
    simpa [Lit.wf, IntKind.min, IntKind.max, IntKind.signed, IntKind.bits] using hv
  have bi : -9223372036854775808 ≤ i ∧ i ≤ 9223372036854775807 := by
    simpa [Lit.wf, IntKind.min, IntKind.max, IntKind.signed, IntKind.bits] using hi
  obtain ⟨k, hk⟩ : ∃ k : Nat, 16 ≤ k := ⟨16, by omega⟩
  refine ⟨k, ?_⟩
  unfold quitclaimlaw01_WordNumbers.f
  by_cases c : (s.size : Int) > 100
  · rw [if_pos c, awake_eq]; rfl
  rw [if_neg c, number_eq k (by omega) v n (by omega) (by omega), ref_number_eq k (by omega) v n (by omega) (by omega)]
  simp only [Option.bind_some, if_true, bne_self_eq_false]
  obtain ⟨k, rfl⟩ : ∃ m, k = m + 1 := ⟨k - 1, by omega⟩
  simp only [quitclaimlaw01_WordNumbers.j0]
  rw [if_neg (by simp), value_eq _ k (by omega)]
  simp only [Option.bind_some]
  unfold num
  split
  · rw [if_neg (by simp), j1_eq k (by omega) s i (by omega) (by omega)]
  · rename_i hc
    rw [if_pos rfl]
    have hn0 : 0 ≤ n := Int.not_lt.1 fun h => hc (.inl h)
    have hn8 : n ≤ 8 := Int.not_lt.1 fun h => hc (.inr (.inl h))
    have hfit : v < 256 ^ n.toNat := by
      rcases Int.lt_or_le n 8 with h | h
      · exact Int.not_le.1 fun hle => hc (.inr (.inr ⟨h, hle⟩))
      · have : n.toNat = 8 := by omega
        rw [this]; omega
    have hsz : (strOfNums (be n.toNat v)).size ≤ 8 := by rw [str_size, be_length]; omega
    rw [if_pos hsz, nl_str _ (be_range _ _), val_be _ _ (by omega) hfit, if_pos rfl, decide_eq_true hsz]
    rw [show (!true) = false from rfl, j1_eq k (by omega) s i (by omega) (by omega)]

end Go.Proofs.Ytabgdpobcloclaa.Pure
