/- WordBytes' pure statement: words as bytes and bytes as words are the reference's, and lead back; no condition. -/
import Derived.Test.YtabgdpobcloclaaPWordBytesx2
namespace Go.Proofs.Ytabgdpobcloclaa.Pure
open Go.RowKit Go.Proofs.Ytabgdpobcloclaa.PWordBytes Go.Proofs.YtabgdpobcloclaaW.PrintWords Go.Proofs.YtabgdpobcloclaaW.PrintLast Go.Proofs.YtabgdpobcloclaaW.PrintMore

namespace WB
theorem w64 {x : Int} (h : -9223372036854775808 ≤ x) (h' : x ≤ 9223372036854775807) : wrap64 x = x := by unfold wrap64; omega
theorem tmod_pos {x : Int} (h : 0 ≤ x) (n : Int) : Int.tmod x n = x % n := Int.tmod_eq_emod_of_nonneg h
theorem tdiv_pos {x : Int} (h : 0 ≤ x) (n : Int) : Int.tdiv x n = x / n := Int.tdiv_eq_ediv_of_nonneg h

def nl (s : ByteArray) : List Int := s.data.toList.map fun b => (b.toNat : Int)
theorem nl_length (s : ByteArray) : (nl s).length = s.size := by unfold nl; rw [List.length_map, Array.length_toList]; rfl
theorem bt_nl (s : ByteArray) (i : Nat) (h : i < s.size) : (nl s)[i]? = some (bt s i) := by
  have h' : ((i : Int)).toNat < s.size := by omega
  rw [bt, dif_pos h', List.getElem?_eq_getElem (by rw [nl_length]; exact h)]
  simp [nl, ByteArray.getElem_eq_getElem_data]
theorem str_nl (s : ByteArray) : strOfNums (nl s) = s := by
  apply ByteArray.ext
  unfold strOfNums nl
  simp only [List.map_map]
  have : (List.map ((fun n => UInt8.ofNat n.toNat) ∘ fun b : UInt8 => (b.toNat : Int)) s.data.toList) = s.data.toList := by
    conv => rhs; rw [← List.map_id s.data.toList]
    refine List.map_congr_left fun x _ => ?_
    simp
  rw [this]
theorem nl_str (xs : List Int) (h : ∀ x ∈ xs, 0 ≤ x ∧ x < 256) : nl (strOfNums xs) = xs := by
  unfold nl strOfNums
  simp only [List.map_map]
  conv => rhs; rw [← List.map_id xs]
  refine List.map_congr_left fun x hx => ?_
  have := h x hx
  simp only [Function.comp, id]
  have e : (UInt8.ofNat x.toNat).toNat = x.toNat := by
    rw [UInt8.toNat_ofNat']; omega
  rw [e]; omega

def quad (x : Int) : List Int := [x / 16777216 % 256, x / 65536 % 256, x / 256 % 256, x % 256]
def enc (l : List Int) : List Int := l.flatMap quad
theorem enc_length (l : List Int) : (enc l).length = 4 * l.length := by
  induction l with
  | nil => rfl
  | cons x l ih => simp [enc, quad] at *; omega
theorem enc_snoc (l : List Int) (x : Int) : enc (l ++ [x]) = enc l ++ quad x := by simp [enc]
theorem enc_range (l : List Int) : ∀ b ∈ enc l, 0 ≤ b ∧ b < 256 := by
  intro b h
  obtain ⟨x, _, hb⟩ := List.mem_flatMap.1 h
  simp [quad] at hb
  omega
theorem enc_get (l : List Int) : ∀ (i j : Nat) (h : i < l.length), j < 4 → (enc l)[4 * i + j]? = (quad (l[i]))[j]? := by
  induction l with
  | nil => intro i j h; simp at h
  | cons x l ih =>
    intro i j h hj
    have e : enc (x :: l) = quad x ++ enc l := rfl
    rw [e]
    rcases i with _ | i
    · rw [List.getElem?_append_left (by simp [quad]; omega)]; simp
    · rw [List.getElem?_append_right (by simp [quad]; omega), show 4 * (i + 1) + j - (quad x).length = 4 * i + j by simp [quad]; omega, ih i j (by simpa using h) hj]
      rfl

theorem bytes_loop (l : List Int) (hl : l.length ≤ 1000) (hw : ∀ x ∈ l, 0 ≤ x ∧ x ≤ 4294967295) (k : Nat) : ∀ (d i : Nat), i + d = l.length → d < k →
    word_Bytes.l0 k (enc (l.take i)) l l.length i = some (strOfNums (enc l)) ∧ quitclaimref01_Bytes.l0 k l (enc (l.take i)) i = some (strOfNums (enc l)) := by
  induction k with
  | zero => intro d _ _ h; omega
  | succ k ih =>
    intro d i hd hk
    simp only [word_Bytes.l0, quitclaimref01_Bytes.l0]
    rcases d with _ | d
    · rw [if_neg (by omega), if_neg (by omega), List.take_of_length_le (by omega)]
      exact ⟨rfl, rfl⟩
    · have hlt : i < l.length := by omega
      have hr : rd l (i : Int) = l[i] := by
        simp [rd, List.getD_eq_getElem?_getD, List.getElem?_eq_getElem hlt]
      have hx := hw _ (List.getElem_mem hlt)
      obtain ⟨i1, i2⟩ := ih d (i + 1) (by omega) (by omega)
      rw [List.take_succ_eq_append_getElem hlt, enc_snoc] at i1 i2
      have hen : (enc (l.take i)).length ≤ 4000 := by rw [enc_length, List.length_take]; omega
      rw [if_pos (by omega), if_pos (by omega), if_pos (by omega), if_pos (by omega), if_pos (by omega)]
      simp only [Option.bind_some]
      rw [if_pos (by simp only [List.length_cons, List.length_nil]; omega), if_pos (by simp only [List.length_cons, List.length_nil]; omega), hr, w64 (by omega) (by omega), show ((i : Int) + 1) = ((i + 1 : Nat) : Int) by omega]
      generalize l[i] = x at hx i1 i2
      rw [tdiv_pos hx.1, tdiv_pos hx.1, tdiv_pos hx.1, tmod_pos hx.1]
      have e : [x / 16777216 % 4294967296 % 256, x / 65536 % 4294967296 % 256, x / 256 % 4294967296 % 256, x % 256 % 256] = quad x := by
        unfold quad
        congr 1
        · omega
        congr 1
        · omega
        congr 1
        · omega
        congr 1
        omega
      rw [e]
      exact ⟨i1, i2⟩

theorem bytes_eq (l : List Int) (hl : l.length ≤ 1000) (hw : ∀ x ∈ l, 0 ≤ x ∧ x ≤ 4294967295) (k : Nat) (hk : l.length < k) :
    word_Bytes.f k l = some (strOfNums (enc l)) ∧ quitclaimref01_Bytes.f k l = some (strOfNums (enc l)) := by
  obtain ⟨a, b⟩ := bytes_loop l hl hw k l.length 0 (by omega) hk
  unfold word_Bytes.f quitclaimref01_Bytes.f
  rw [w64 (by omega) (by omega), if_pos (by omega), if_pos (by omega)]
  exact ⟨a, b⟩

/-! words -/
def wd (s : ByteArray) (i : Nat) : Int := ((bt s ((4 * i : Nat) : Int) * 256 + bt s ((4 * i + 1 : Nat) : Int)) * 256 + bt s ((4 * i + 2 : Nat) : Int)) * 256 + bt s ((4 * i + 3 : Nat) : Int)
def dec (s : ByteArray) (n : Nat) : List Int := (List.range n).map (wd s)
theorem dec_length (s : ByteArray) (n : Nat) : (dec s n).length = n := by simp [dec]

theorem or_join (a b : Int) (h0 : 0 ≤ a) (h1 : a < 4294967296) (hm : a % 256 = 0) (h2 : 0 ≤ b) (h3 : b < 256) : Go.bits .or .u32 a b = a + b :=
  bits_join .u32 32 (by decide) (fun n h0 h1 => by rw [IntKind.wrap_u32]; omega) 8 a b h0 (by omega) (by omega) h2 (by omega) (by omega)

theorem words_step (s : ByteArray) (hs : s.size ≤ 4000) (k : Nat) (acc : List Int) (i : Nat) (hi : 4 * i + 4 ≤ s.size) (w n : Int) (j : Nat) (hj : j < 4) (h0 : 0 ≤ w) (h1 : w < 16777216) :
    word_Words.l1 (k + 1) s acc i w n i j = word_Words.l1 k s acc i (w * 256 + bt s ((4 * i + j : Nat) : Int)) n i ((j + 1 : Nat) : Int) := by
  simp only [word_Words.l1]
  have e : wrap64 (wrap64 (4 * (i : Int)) + (j : Int)) = ((4 * i + j : Nat) : Int) := by
    rw [w64 (x := 4 * (i : Int)) (by omega) (by omega), w64 (by omega) (by omega)]; omega
  have hb := bt_range s ((4 * i + j : Nat) : Int)
  rw [if_pos (by omega), e, if_pos (by omega), if_pos (by omega), w64 (x := (j : Int) + 1) (by omega) (by omega)]
  generalize bt s ((4 * i + j : Nat) : Int) = b at hb
  have e1 : w * 256 % 4294967296 = w * 256 := by omega
  have e2 : b % 4294967296 = b := by omega
  rw [e1, e2, or_join _ _ (by omega) (by omega) (by omega) (by omega) (by omega)]
  rfl

theorem words_loop (s : ByteArray) (n : Nat) (hs : s.size ≤ 4000) (hn : s.size = 4 * n) (k : Nat) : ∀ (d i : Nat), i + d = n → 6 * d < k →
    word_Words.l0 k s (dec s i) n i = some (dec s n, 0) := by
  induction k using Nat.strongRecOn with
  | _ k ih =>
    intro d i hd hk
    obtain ⟨k, rfl⟩ : ∃ m, k = m + 1 := ⟨k - 1, by omega⟩
    simp only [word_Words.l0]
    rcases d with _ | d
    · rw [if_neg (by omega), show i = n by omega]
    · obtain ⟨k, rfl⟩ : ∃ m, k = m + 5 := ⟨k - 5, by omega⟩
      rw [if_pos (by omega)]
      have b0 := bt_range s ((4 * i + 0 : Nat) : Int)
      have b1 := bt_range s ((4 * i + 1 : Nat) : Int)
      have b2 := bt_range s ((4 * i + 2 : Nat) : Int)
      have b3 := bt_range s ((4 * i + 3 : Nat) : Int)
      have s0 := words_step s hs (k + 4) (dec s i) i (by omega) 0 n 0 (by omega) (by omega) (by omega)
      have s1 := words_step s hs (k + 3) (dec s i) i (by omega) (0 * 256 + bt s ((4 * i + 0 : Nat) : Int)) n 1 (by omega) (by omega) (by omega)
      have s2 := words_step s hs (k + 2) (dec s i) i (by omega) ((0 * 256 + bt s ((4 * i + 0 : Nat) : Int)) * 256 + bt s ((4 * i + 1 : Nat) : Int)) n 2 (by omega) (by omega) (by omega)
      have s3 := words_step s hs (k + 1) (dec s i) i (by omega) (((0 * 256 + bt s ((4 * i + 0 : Nat) : Int)) * 256 + bt s ((4 * i + 1 : Nat) : Int)) * 256 + bt s ((4 * i + 2 : Nat) : Int)) n 3 (by omega) (by omega) (by omega)
      rw [show ((0 : Nat) : Int) = 0 from rfl] at s0
      rw [show k + 5 = k + 4 + 1 from rfl, s0, s1, s2, s3]
      simp only [word_Words.l1]
      have hl := dec_length s i
      rw [if_neg (by omega), if_pos (by omega), w64 (by omega) (by omega), show ((i : Int) + 1) = ((i + 1 : Nat) : Int) by omega]
      have e : dec s i ++ [(((0 * 256 + bt s ((4 * i + 0 : Nat) : Int)) * 256 + bt s ((4 * i + 1 : Nat) : Int)) * 256 + bt s ((4 * i + 2 : Nat) : Int)) * 256 + bt s ((4 * i + 3 : Nat) : Int)] = dec s (i + 1) := by
        unfold dec
        rw [List.range_succ, List.map_append]
        simp [wd]
      rw [e]
      exact ih k (by omega) d (i + 1) (by omega) (by omega)

theorem words_eq (s : ByteArray) (n : Nat) (hs : s.size ≤ 4000) (hn : s.size = 4 * n) (k : Nat) (hk : 6 * n < k) : word_Words.f k s = some (dec s n, 0) := by
  unfold word_Words.f
  rw [if_pos (by omega)]
  have := words_loop s n hs hn k n 0 (by omega) hk
  rw [w64 (by omega) (by omega), show ((s.size : Int) / 4) = (n : Int) by omega]
  exact this

theorem quad_wd (s : ByteArray) (i : Nat) : quad (wd s i) = [bt s ((4 * i : Nat) : Int), bt s ((4 * i + 1 : Nat) : Int), bt s ((4 * i + 2 : Nat) : Int), bt s ((4 * i + 3 : Nat) : Int)] := by
  have b0 := bt_range s ((4 * i : Nat) : Int)
  have b1 := bt_range s ((4 * i + 1 : Nat) : Int)
  have b2 := bt_range s ((4 * i + 2 : Nat) : Int)
  have b3 := bt_range s ((4 * i + 3 : Nat) : Int)
  unfold quad wd
  generalize bt s ((4 * i : Nat) : Int) = x0 at *
  generalize bt s ((4 * i + 1 : Nat) : Int) = x1 at *
  generalize bt s ((4 * i + 2 : Nat) : Int) = x2 at *
  generalize bt s ((4 * i + 3 : Nat) : Int) = x3 at *
  congr 1
  · omega
  congr 1
  · omega
  congr 1
  · omega
  congr 1
  omega

theorem enc_dec (s : ByteArray) (n : Nat) (hn : s.size = 4 * n) : strOfNums (enc (dec s n)) = s := by
  have : enc (dec s n) = nl s := by
    apply List.ext_getElem?
    intro p
    by_cases hp : p < s.size
    · obtain ⟨i, j, hj, rfl⟩ : ∃ i j, j < 4 ∧ p = 4 * i + j := ⟨p / 4, p % 4, by omega, by omega⟩
      rw [enc_get _ i j (by rw [dec_length]; omega) hj, bt_nl s _ hp]
      have e : (dec s n)[i]'(by rw [dec_length]; omega) = wd s i := by simp [dec]
      rw [e, quad_wd]
      rcases j with _ | _ | _ | _ | j
      · rfl
      · rfl
      · rfl
      · rfl
      · omega
    · rw [List.getElem?_eq_none (by rw [enc_length, dec_length]; omega), List.getElem?_eq_none (by rw [nl_length]; omega)]
  rw [this, str_nl]

theorem dec_enc (l : List Int) (hw : ∀ x ∈ l, 0 ≤ x ∧ x ≤ 4294967295) : dec (strOfNums (enc l)) l.length = l := by
  have hsz : (strOfNums (enc l)).size = 4 * l.length := by
    rw [← enc_length]; simp [strOfNums, ByteArray.size]
  apply List.ext_getElem
  · rw [dec_length]
  intro i h1 h2
  have e : (dec (strOfNums (enc l)) l.length)[i] = wd (strOfNums (enc l)) i := by simp [dec]
  rw [e]
  have hb : ∀ j (hj : j < 4), some (bt (strOfNums (enc l)) ((4 * i + j : Nat) : Int)) = (quad (l[i]))[j]? := by
    intro j hj
    rw [← bt_nl _ _ (by omega), nl_str _ (enc_range l), enc_get l i j h2 hj]
  have hx := hw _ (List.getElem_mem h2)
  have h0 := hb 0 (by omega)
  have h1 := hb 1 (by omega)
  have h2 := hb 2 (by omega)
  have h3 := hb 3 (by omega)
  simp only [quad, Nat.add_zero, List.getElem?_cons_zero, List.getElem?_cons_succ, Option.some.injEq] at h0 h1 h2 h3
  unfold wd
  rw [h0, h1, h2, h3]
  omega

theorem awake_eq : quitclaimlaw01_awake.f = some true := by
  have h1 : word_Left.f 2147483649 1 = some 3 := by decide +kernel
  have h2 : word_Bit.f (⟨#[64]⟩ : ByteArray) 1 = some (1, true) := by decide +kernel
  unfold quitclaimlaw01_awake.f
  rw [h1, h2]
  simp

theorem tail_eq (s : ByteArray) (hs : s.size ≤ 400) (x0 : List Int) (hx : x0.length ≤ 100) (k : Nat) : ∀ (d i : Nat), i + d = x0.length → 1000 + d < k →
    quitclaimlaw01_WordBytes.l0 k x0 s x0 x0.length i = some true := by
  induction k with
  | zero => intro d _ _ h; omega
  | succ k ih =>
    intro d i hd hk
    simp only [quitclaimlaw01_WordBytes.l0]
    rcases d with _ | d
    · rw [if_neg (by omega)]
      by_cases hm : s.size % 4 = 0
      · obtain ⟨n, hn⟩ : ∃ n, s.size = 4 * n := ⟨s.size / 4, by omega⟩
        rw [words_eq s n (by omega) hn k (by omega)]
        simp only [Option.bind_some]
        have hr : ∀ x ∈ dec s n, 0 ≤ x ∧ x ≤ 4294967295 := by
          intro x h
          obtain ⟨i, _, rfl⟩ := List.mem_map.1 h
          have b0 := bt_range s ((4 * i : Nat) : Int)
          have b1 := bt_range s ((4 * i + 1 : Nat) : Int)
          have b2 := bt_range s ((4 * i + 2 : Nat) : Int)
          have b3 := bt_range s ((4 * i + 3 : Nat) : Int)
          unfold wd
          omega
        rw [if_pos (by omega), if_pos True.intro, dec_length, w64 (by omega) (by omega), if_pos (by omega), (bytes_eq (dec s n) (by rw [dec_length]; omega) hr k (by rw [dec_length]; omega)).2]
        simp only [Option.bind_some]
        rw [enc_dec s n hn, if_pos rfl, awake_eq]
        rfl
      · have hf : word_Words.f k s = some ([], 3) := by
          unfold word_Words.f; rw [if_neg (by omega)]
        rw [hf]
        simp only [Option.bind_some]
        rw [if_neg (by omega), if_pos (by simp), if_pos True.intro, awake_eq]
        rfl
    · rw [if_pos (by omega), if_pos (by omega), if_pos (by omega), if_pos (by omega), if_pos True.intro, w64 (by omega) (by omega), show ((i : Int) + 1) = ((i + 1 : Nat) : Int) by omega]
      exact ih d (i + 1) (by omega) (by omega)
end WB
open WB

theorem WordBytes : quitclaimlaw01_WordBytes.Pure := by
  intro l s _ _ hw _
  have hw' : ∀ x ∈ l, 0 ≤ x ∧ x ≤ 4294967295 := by
    intro x hx
    have := hw x hx
    simpa [Lit.wf, IntKind.min, IntKind.max, IntKind.signed, IntKind.bits] using this
  obtain ⟨k, hk⟩ : ∃ k : Nat, 2000 ≤ k := ⟨2000, by omega⟩
  have far : ∀ k, quitclaimlaw01_WordBytes.j0 (k + 1) l s true = some true := by
    intro k
    simp only [quitclaimlaw01_WordBytes.j0]
    rw [if_pos True.intro, awake_eq]; rfl
  refine ⟨k + 2, ?_⟩
  unfold quitclaimlaw01_WordBytes.f
  by_cases c : (l.length : Int) > 100
  · rw [if_pos c, far]
  rw [if_neg c]
  by_cases c2 : (s.size : Int) > 400
  · rw [decide_eq_true c2, far]
  rw [decide_eq_false c2]
  simp only [quitclaimlaw01_WordBytes.j0]
  have hsz : (strOfNums (enc l)).size = 4 * l.length := by
    rw [← enc_length]; simp [strOfNums, ByteArray.size]
  obtain ⟨b1, b2⟩ := bytes_eq l (by omega) hw' (k + 1) (by omega)
  rw [if_neg (by simp), b1]
  simp only [Option.bind_some]
  rw [words_eq _ l.length (by omega) hsz (k + 1) (by omega), b2]
  simp only [Option.bind_some]
  rw [if_pos True.intro, if_pos True.intro, dec_enc l hw']
  simp only [quitclaimlaw01_WordBytes.j1, bne_self_eq_false]
  rw [if_neg (by simp)]
  exact tail_eq s (by omega) l (by omega) k l.length 0 (by omega) (by omega)

end Go.Proofs.Ytabgdpobcloclaa.Pure
