/- Trees: files by paths, found by halves; the program's and the reference's, as one; no condition. -/
import Derived.Test.YtmjkflppajienaaDoorPHunk
import Derived.Lib.Bytealg
namespace Go.Proofs.YtmjkflppajienaaDoor.R.Pu
open Go Go.RowKit
set_option linter.unusedVariables false
set_option linter.unusedSimpArgs false

abbrev File : Type := ByteArray × List ByteArray × Unit
/-- A text's bytes. -/
abbrev by_ (s : ByteArray) : List UInt8 := s.data.toList
theorem by_inj {a b : ByteArray} : by_ a = by_ b ↔ a = b := ⟨text_ext, fun h => by rw [h]⟩

/-! ### the order of texts -/
theorem less_eq : ∀ (x y : List UInt8), Op.bytesLess x y = decide (x < y)
  | [], [] => by simp [Op.bytesLess]
  | _ :: _, [] => by simp [Op.bytesLess]
  | [], _ :: _ => by simp [Op.bytesLess]
  | a :: x, b :: y => by
    rw [Op.bytesLess, less_eq x y]
    simp only [List.cons_lt_cons_iff]
    by_cases h1 : a < b <;> by_cases h2 : a = b <;> by_cases h3 : x < y <;> simp [h1, h2, h3]
theorem u8_cases (a b : UInt8) : a < b ∨ a = b ∨ b < a := by
  rcases Nat.lt_trichotomy a.toNat b.toNat with h | h | h
  · exact .inl (UInt8.lt_iff_toNat_lt.2 h)
  · exact .inr (.inl (UInt8.toNat.inj h))
  · exact .inr (.inr (UInt8.lt_iff_toNat_lt.2 h))
theorem u8_asymm {a b : UInt8} (h : a < b) : ¬ b < a := fun k => by have := UInt8.lt_iff_toNat_lt.1 h; have := UInt8.lt_iff_toNat_lt.1 k; omega
theorem u8_irrefl (a : UInt8) : ¬ a < a := fun k => by have := UInt8.lt_iff_toNat_lt.1 k; omega
theorem u8_trans {a b c : UInt8} (h : a < b) (k : b < c) : a < c := UInt8.lt_iff_toNat_lt.2 (by have := UInt8.lt_iff_toNat_lt.1 h; have := UInt8.lt_iff_toNat_lt.1 k; omega)
theorem l_irrefl : ∀ x : List UInt8, ¬ x < x
  | [] => by simp
  | a :: x => by
    rw [List.cons_lt_cons_iff]
    rintro (h | ⟨_, h⟩)
    · exact u8_irrefl a h
    · exact l_irrefl x h
theorem l_trans : ∀ {x y z : List UInt8}, x < y → y < z → x < z
  | x, y, [], h, k => by simp at k
  | [], y, c :: z, h, k => by simp
  | a :: x, [], c :: z, h, k => by simp at h
  | a :: x, b :: y, c :: z, h, k => by
    rw [List.cons_lt_cons_iff] at h k ⊢
    rcases h with h | ⟨rfl, h⟩
    · rcases k with k | ⟨rfl, k⟩
      · exact .inl (u8_trans h k)
      · exact .inl h
    · rcases k with k | ⟨rfl, k⟩
      · exact .inl k
      · exact .inr ⟨rfl, l_trans h k⟩
theorem l_cases : ∀ x y : List UInt8, x < y ∨ x = y ∨ y < x
  | [], [] => .inr (.inl rfl)
  | [], b :: y => .inl (by simp)
  | a :: x, [] => .inr (.inr (by simp))
  | a :: x, b :: y => by
    simp only [List.cons_lt_cons_iff, List.cons.injEq]
    rcases u8_cases a b with h | rfl | h
    · exact .inl (.inl h)
    · rcases l_cases x y with h | rfl | h
      · exact .inl (.inr ⟨rfl, h⟩)
      · exact .inr (.inl ⟨rfl, rfl⟩)
      · exact .inr (.inr (.inr ⟨rfl, h⟩))
    · exact .inr (.inr (.inl h))
theorem cmp_neg : ∀ x y : List UInt8, Lib.compareBytes x y < 0 ↔ x < y
  | [], [] => by simp [Lib.compareBytes]
  | [], b :: y => by simp [Lib.compareBytes]
  | a :: x, [] => by simp [Lib.compareBytes]
  | a :: x, b :: y => by
    rw [Lib.compareBytes, List.cons_lt_cons_iff]
    by_cases h1 : a < b
    · rw [if_pos h1]; simp [h1]
    · rw [if_neg h1]
      by_cases h2 : b < a
      · rw [if_pos h2]
        have : a ≠ b := by rintro rfl; exact h1 h2
        simp [h1, this]
      · rw [if_neg h2]
        have : a = b := by rcases u8_cases a b with h | h | h; exact absurd h h1; exact h; exact absurd h h2
        subst this
        rw [cmp_neg x y]
        simp [h1]
theorem cmp_zero : ∀ x y : List UInt8, Lib.compareBytes x y = 0 ↔ x = y
  | [], [] => by simp [Lib.compareBytes]
  | [], b :: y => by simp [Lib.compareBytes]
  | a :: x, [] => by simp [Lib.compareBytes]
  | a :: x, b :: y => by
    rw [Lib.compareBytes]
    by_cases h1 : a < b
    · rw [if_pos h1]
      have : a ≠ b := by rintro rfl; exact u8_irrefl a h1
      simp [this]
    · rw [if_neg h1]
      by_cases h2 : b < a
      · rw [if_pos h2]
        have : a ≠ b := by rintro rfl; exact h1 h2
        simp [this]
      · rw [if_neg h2]
        have : a = b := by rcases u8_cases a b with h | h | h; exact absurd h h1; exact h; exact absurd h h2
        subst this
        rw [cmp_zero x y]
        simp

/-! ### files in order, and where a path stands -/
def lts (a b : ByteArray) : Bool := decide (by_ a < by_ b)
def Srt (l : List File) : Prop := l.Pairwise fun a b => by_ a.1 < by_ b.1
def pos (l : List File) (s : ByteArray) : Nat := l.countP fun f => lts f.1 s
theorem pos_le (l : List File) (s : ByteArray) : pos l s ≤ l.length := List.countP_le_length
theorem pos_lt (s : ByteArray) : ∀ {l : List File}, Srt l → ∀ {i : Nat} (h : i < l.length), (by_ l[i].1 < by_ s ↔ i < pos l s)
  | [], _, i, h => by simp at h
  | f :: r, hs, i, h => by
    have h1 := List.pairwise_cons.1 hs
    by_cases hf : by_ f.1 < by_ s
    · have e : pos (f :: r) s = pos r s + 1 := by unfold pos; rw [List.countP_cons_of_pos (by simp [lts, hf])]
      cases i with
      | zero => rw [e]; simp [hf]
      | succ i =>
        have := pos_lt s h1.2 (i := i) (by simpa using h)
        rw [e]
        simp only [List.getElem_cons_succ]
        rw [this]; omega
    · have hall : ∀ g ∈ f :: r, ¬ by_ g.1 < by_ s := fun g hg hlt => by
        rcases List.mem_cons.1 hg with rfl | hg
        · exact hf hlt
        · exact hf (l_trans (h1.1 g hg) hlt)
      have e : pos (f :: r) s = 0 := by
        unfold pos
        rw [List.countP_eq_zero]
        intro g hg
        simp [lts, hall g hg]
      rw [e]
      have := hall _ (List.getElem_mem h)
      simp [this]
def fnd (l : List File) (s : ByteArray) : Bool := match l[pos l s]? with
  | some f => decide (f.1 = s)
  | none => false
theorem half_ {a : Nat} (h : a ≤ 1000000) : shr .u64 (IntKind.u64.wrap (w64 (a : Int))) 1 = some ((a / 2 : Nat) : Int) := by
  rw [w_ (by omega) (by omega)]
  have e : IntKind.u64.wrap (a : Int) = (a : Int) := by
    unfold IntKind.wrap
    have e1 : (2 : Int) ^ IntKind.u64.bits = 18446744073709551616 := by decide
    simp only [e1]
    have e2 : IntKind.u64.signed = false := rfl
    rw [e2]
    simp
    omega
  rw [e]
  unfold shr
  rw [if_pos (by decide)]
  have e3 : (2 : Int) ^ (min (1 : Int).toNat IntKind.u64.bits) = 2 := by decide
  rw [e3, Int.fdiv_eq_ediv_of_nonneg _ (by decide)]
  rfl
/-! ### a file more, a file fewer -/
theorem fnd_true {l : List File} {s : ByteArray} (h : fnd l s = true) : ∃ hp : pos l s < l.length, l[pos l s].1 = s := by
  unfold fnd at h
  split at h
  · rename_i f hf
    obtain ⟨hp, e⟩ := List.getElem?_eq_some_iff.1 hf
    exact ⟨hp, by rw [e]; exact of_decide_eq_true h⟩
  · cases h
theorem fnd_at {l : List File} {s : ByteArray} (hs : Srt l) {i : Nat} (hi : i < l.length) (e : l[i].1 = s) : i = pos l s ∧ fnd l s = true := by
  have h1 : ¬ i < pos l s := fun h => l_irrefl (by_ s) (by have := (pos_lt s hs hi).2 h; rwa [e] at this)
  have h2 : ¬ pos l s < i := fun h => by
    have hp : pos l s < l.length := by omega
    have h3 := List.pairwise_iff_getElem.1 hs (pos l s) i hp hi h
    rw [e] at h3
    have := (pos_lt s hs hp).1 h3
    omega
  have e' : i = pos l s := by omega
  refine ⟨e', ?_⟩
  unfold fnd
  rw [← e', List.getElem?_eq_getElem hi]
  exact decide_eq_true e
/-- A row with a file at its place. -/
def put (l : List File) (f : File) : List File := l.take (pos l f.1) ++ f :: l.drop (pos l f.1 + (if fnd l f.1 = true then 1 else 0))
def del (l : List File) (s : ByteArray) : List File := if fnd l s = true then l.take (pos l s) ++ l.drop (pos l s + 1) else l
theorem mem_take_lt {l : List File} {s : ByteArray} (hs : Srt l) {g : File} (h : g ∈ l.take (pos l s)) : by_ g.1 < by_ s := by
  obtain ⟨i, hi, rfl⟩ := List.mem_iff_getElem.1 h
  rw [List.length_take] at hi
  rw [List.getElem_take]
  exact (pos_lt s hs (by omega)).2 (by omega)
theorem mem_drop_gt {l : List File} {s : ByteArray} (hs : Srt l) {g : File} (h : g ∈ l.drop (pos l s + if fnd l s = true then 1 else 0)) : by_ s < by_ g.1 := by
  obtain ⟨i, hi, rfl⟩ := List.mem_iff_getElem.1 h
  rw [List.length_drop] at hi
  rw [List.getElem_drop]
  have hlt : (pos l s + if fnd l s = true then 1 else 0) + i < l.length := by omega
  have h1 : ¬ by_ l[(pos l s + if fnd l s = true then 1 else 0) + i].1 < by_ s := fun h => by have := (pos_lt s hs hlt).1 h; omega
  rcases l_cases (by_ s) (by_ l[(pos l s + if fnd l s = true then 1 else 0) + i].1) with h | h | h
  · exact h
  · obtain ⟨e, hf⟩ := fnd_at hs hlt (by_inj.1 h).symm
    rw [hf, if_pos rfl] at e
    omega
  · exact absurd h h1
theorem srt_put {l : List File} {f : File} (hs : Srt l) : Srt (put l f) := by
  unfold put Srt
  rw [List.pairwise_append, List.pairwise_cons]
  refine ⟨hs.sublist (List.take_sublist _ _), ⟨fun g hg => mem_drop_gt hs hg, hs.sublist (List.drop_sublist _ _)⟩, fun a ha b hb => ?_⟩
  have h1 := mem_take_lt hs ha
  rcases List.mem_cons.1 hb with rfl | hb
  · exact h1
  · exact l_trans h1 (mem_drop_gt hs hb)
theorem srt_del {l : List File} {s : ByteArray} (hs : Srt l) : Srt (del l s) := by
  unfold del
  split
  · unfold Srt
    rw [← List.eraseIdx_eq_take_drop_succ]
    exact hs.sublist (List.eraseIdx_sublist _ _)
  · exact hs
theorem mem_put {l : List File} {f g : File} (h : g ∈ put l f) : g = f ∨ g ∈ l := by
  unfold put at h
  rcases List.mem_append.1 h with h | h
  · exact .inr (List.mem_of_mem_take h)
  · rcases List.mem_cons.1 h with h | h
    · exact .inl h
    · exact .inr (List.mem_of_mem_drop h)
theorem mem_del {l : List File} {s : ByteArray} {g : File} (h : g ∈ del l s) : g ∈ l := by
  unfold del at h
  split at h
  · rcases List.mem_append.1 h with h | h
    · exact List.mem_of_mem_take h
    · exact List.mem_of_mem_drop h
  · exact h
theorem put_len {l : List File} {f : File} : (put l f).length ≤ l.length + 1 := by
  have := pos_le l f.1
  unfold put
  rw [List.length_append, List.length_take, List.length_cons, List.length_drop]
  omega
theorem del_len {l : List File} {s : ByteArray} : (del l s).length ≤ l.length := by
  unfold del
  split
  · rw [List.length_append, List.length_take, List.length_drop]; omega
  · exact Nat.le_refl _

theorem fnd_false {l : List File} {s : ByteArray} (hs : Srt l) (hf : fnd l s = false) {i : Nat} (hi : i < l.length) : l[i].1 ≠ s := fun e => by
  have := (fnd_at hs hi e).2
  rw [hf] at this; cases this
/-! ### room -/
def Good (l : List File) : Prop := ∀ f ∈ l, right f.1 = true
def near (s : ByteArray) (f : File) : Bool := cov f.1 s || cov s f.1
def rm (l : List File) (s : ByteArray) : Int := bif fnd l s then 7 else bif l.any (near s) then 12 else 0
end Go.Proofs.YtmjkflppajienaaDoor.R.Pu
