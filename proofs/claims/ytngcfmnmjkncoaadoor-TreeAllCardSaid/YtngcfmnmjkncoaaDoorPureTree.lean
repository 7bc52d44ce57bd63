/- Trees: files by paths, found by halves; no condition. -/
import Derived.Test.YtngcfmnmjkncoaaDoorPureOp
import Derived.Test.YtngcfmnmjkncoaaDoorPureClone
import Derived.Lib.Bytealg
namespace Go.Proofs.YtngcfmnmjkncoaaDoor.PureT
open Go Go.RowKit Go.Proofs.YtngcfmnmjkncoaaDoor.Q Go.Proofs.YtngcfmnmjkncoaaDoor.Pu
set_option linter.unusedVariables false

abbrev File := S_F
/-- A text's bytes. -/
abbrev by_ (s : ByteArray) : List UInt8 := s.data.toList
theorem by_inj {a b : ByteArray} : by_ a = by_ b ↔ a = b := ⟨PureP.ext, fun h => by rw [h]⟩

/-! ### the order of texts -/
theorem less_eq : ∀ (x y : List UInt8), Op.bytesLess x y = decide (x < y)
  | [], [] => by simp [Op.bytesLess]
  | _ :: _, [] => by simp [Op.bytesLess]
  | [], _ :: _ => by simp [Op.bytesLess]
  | a :: x, b :: y => by
    rw [Op.bytesLess, less_eq x y]
    simp only [List.cons_lt_cons_iff]
    by_cases h1 : a < b <;> by_cases h2 : a = b <;> by_cases h3 : x < y <;> simp [h1, h2, h3]
theorem u8_cases (a b : UInt8) : a < b ∨ a = b ∨ b < a := by
  rcases Nat.lt_trichotomy a.toNat b.toNat with h | h | h
  · exact .inl (UInt8.lt_iff_toNat_lt.2 h)
  · exact .inr (.inl (UInt8.toNat.inj h))
  · exact .inr (.inr (UInt8.lt_iff_toNat_lt.2 h))
theorem u8_asymm {a b : UInt8} (h : a < b) : ¬ b < a := fun k => by have := UInt8.lt_iff_toNat_lt.1 h; have := UInt8.lt_iff_toNat_lt.1 k; omega
theorem u8_irrefl (a : UInt8) : ¬ a < a := fun k => by have := UInt8.lt_iff_toNat_lt.1 k; omega
theorem u8_trans {a b c : UInt8} (h : a < b) (k : b < c) : a < c := UInt8.lt_iff_toNat_lt.2 (by have := UInt8.lt_iff_toNat_lt.1 h; have := UInt8.lt_iff_toNat_lt.1 k; omega)
theorem l_irrefl : ∀ x : List UInt8, ¬ x < x
  | [] => by simp
  | a :: x => by
    rw [List.cons_lt_cons_iff]
    rintro (h | ⟨_, h⟩)
    · exact u8_irrefl a h
    · exact l_irrefl x h
theorem l_trans : ∀ {x y z : List UInt8}, x < y → y < z → x < z
  | x, y, [], h, k => by simp at k
  | [], y, c :: z, h, k => by simp
  | a :: x, [], c :: z, h, k => by simp at h
  | a :: x, b :: y, c :: z, h, k => by
    rw [List.cons_lt_cons_iff] at h k ⊢
    rcases h with h | ⟨rfl, h⟩
    · rcases k with k | ⟨rfl, k⟩
      · exact .inl (u8_trans h k)
      · exact .inl h
    · rcases k with k | ⟨rfl, k⟩
      · exact .inl k
      · exact .inr ⟨rfl, l_trans h k⟩
theorem l_cases : ∀ x y : List UInt8, x < y ∨ x = y ∨ y < x
  | [], [] => .inr (.inl rfl)
  | [], b :: y => .inl (by simp)
  | a :: x, [] => .inr (.inr (by simp))
  | a :: x, b :: y => by
    simp only [List.cons_lt_cons_iff, List.cons.injEq]
    rcases u8_cases a b with h | rfl | h
    · exact .inl (.inl h)
    · rcases l_cases x y with h | rfl | h
      · exact .inl (.inr ⟨rfl, h⟩)
      · exact .inr (.inl ⟨rfl, rfl⟩)
      · exact .inr (.inr (.inr ⟨rfl, h⟩))
    · exact .inr (.inr (.inl h))
theorem cmp_neg : ∀ x y : List UInt8, Lib.compareBytes x y < 0 ↔ x < y
  | [], [] => by simp [Lib.compareBytes]
  | [], b :: y => by simp [Lib.compareBytes]
  | a :: x, [] => by simp [Lib.compareBytes]
  | a :: x, b :: y => by
    rw [Lib.compareBytes, List.cons_lt_cons_iff]
    by_cases h1 : a < b
    · rw [if_pos h1]; simp [h1]
    · rw [if_neg h1]
      by_cases h2 : b < a
      · rw [if_pos h2]
        have : a ≠ b := by rintro rfl; exact h1 h2
        simp [h1, this]
      · rw [if_neg h2]
        have : a = b := by rcases u8_cases a b with h | h | h; exact absurd h h1; exact h; exact absurd h h2
        subst this
        rw [cmp_neg x y]
        simp [h1]
theorem cmp_zero : ∀ x y : List UInt8, Lib.compareBytes x y = 0 ↔ x = y
  | [], [] => by simp [Lib.compareBytes]
  | [], b :: y => by simp [Lib.compareBytes]
  | a :: x, [] => by simp [Lib.compareBytes]
  | a :: x, b :: y => by
    rw [Lib.compareBytes]
    by_cases h1 : a < b
    · rw [if_pos h1]
      have : a ≠ b := by rintro rfl; exact u8_irrefl a h1
      simp [this]
    · rw [if_neg h1]
      by_cases h2 : b < a
      · rw [if_pos h2]
        have : a ≠ b := by rintro rfl; exact h1 h2
        simp [this]
      · rw [if_neg h2]
        have : a = b := by rcases u8_cases a b with h | h | h; exact absurd h h1; exact h; exact absurd h h2
        subst this
        rw [cmp_zero x y]
        simp

/-! ### files in order, and where a path stands -/
def lts (a b : ByteArray) : Bool := decide (by_ a < by_ b)
def Srt (l : List File) : Prop := l.Pairwise fun a b => by_ a.f0_Path < by_ b.f0_Path
def pos (l : List File) (s : ByteArray) : Nat := l.countP fun f => lts f.f0_Path s
theorem pos_le (l : List File) (s : ByteArray) : pos l s ≤ l.length := List.countP_le_length
theorem pos_lt (s : ByteArray) : ∀ {l : List File}, Srt l → ∀ {i : Nat} (h : i < l.length), (by_ l[i].f0_Path < by_ s ↔ i < pos l s)
  | [], _, i, h => by simp at h
  | f :: r, hs, i, h => by
    have h1 := List.pairwise_cons.1 hs
    by_cases hf : by_ f.f0_Path < by_ s
    · have e : pos (f :: r) s = pos r s + 1 := by unfold pos; rw [List.countP_cons_of_pos (by simp [lts, hf])]
      cases i with
      | zero => rw [e]; simp [hf]
      | succ i =>
        have := pos_lt s h1.2 (i := i) (by simpa using h)
        rw [e]
        simp only [List.getElem_cons_succ]
        rw [this]; omega
    · have hall : ∀ g ∈ f :: r, ¬ by_ g.f0_Path < by_ s := fun g hg hlt => by
        rcases List.mem_cons.1 hg with rfl | hg
        · exact hf hlt
        · exact hf (l_trans (h1.1 g hg) hlt)
      have e : pos (f :: r) s = 0 := by
        unfold pos
        rw [List.countP_eq_zero]
        intro g hg
        simp [lts, hall g hg]
      rw [e]
      have := hall _ (List.getElem_mem h)
      simp [this]
def fnd (l : List File) (s : ByteArray) : Bool := match l[pos l s]? with
  | some f => decide (f.f0_Path = s)
  | none => false
theorem half_ {a : Nat} (h : a ≤ 1000000) : shr .u64 (IntKind.u64.wrap (w64 (a : Int))) 1 = some ((a / 2 : Nat) : Int) := by
  rw [w (by omega) (by omega)]
  have e : IntKind.u64.wrap (a : Int) = (a : Int) := by
    unfold IntKind.wrap
    have e1 : (2 : Int) ^ IntKind.u64.bits = 18446744073709551616 := by decide
    simp only [e1]
    have e2 : IntKind.u64.signed = false := rfl
    rw [e2]
    simp
    omega
  rw [e]
  unfold shr
  rw [if_pos (by decide)]
  have e3 : (2 : Int) ^ (min (1 : Int).toNat IntKind.u64.bits) = 2 := by decide
  rw [e3, Int.fdiv_eq_ediv_of_nonneg _ (by decide)]
  rfl
theorem search_ (l : List File) (s : ByteArray) (hs : Srt l) (hl : l.length ≤ 100000) : ∀ (n lo hi : Nat), hi - lo ≤ n → lo ≤ pos l s → pos l s ≤ hi → hi ≤ l.length →
    Ev (fun k => slices_BinarySearchFunc_tree_File_tree_File_string_tree_Tree_find_1.l0 l s k (lo : Int) (hi : Int)) ((pos l s : Int), fnd l s) := by
  intro n
  induction n with
  | zero =>
    intro lo hi h1 h2 h3 h4
    have e : lo = pos l s := by omega
    have e' : hi = pos l s := by omega
    rw [e, e']
    refine Ev.stepc fun k => ?_
    rw [slices_BinarySearchFunc_tree_File_tree_File_string_tree_Tree_find_1.l0, if_neg (by omega)]
    unfold fnd
    by_cases hp : pos l s < l.length
    · rw [decide_eq_true (show (pos l s : Int) < (l.length : Int) by omega), ix_ hp, List.getElem?_eq_getElem hp]
      show some ((pos l s : Int), (true && decide (Lib.compareBytes l[pos l s].f0_Path.data.toList s.data.toList = 0))) = _
      have : decide (Lib.compareBytes l[pos l s].f0_Path.data.toList s.data.toList = 0) = decide (l[pos l s].f0_Path = s) := by
        rw [decide_eq_decide, cmp_zero]; exact by_inj
      rw [this, Bool.true_and]
    · rw [decide_eq_false (show ¬ (pos l s : Int) < (l.length : Int) by omega), List.getElem?_eq_none (by omega)]
      rfl
  | succ n ih =>
    intro lo hi h1 h2 h3 h4
    by_cases hlt : lo < hi
    · have hm : (lo + hi) / 2 < l.length := by omega
      have hh := half_ (a := lo + hi) (by omega)
      have hp := pos_lt s hs hm
      have hcast : (lo : Int) + (hi : Int) = ((lo + hi : Nat) : Int) := by omega
      by_cases hc : by_ l[(lo + hi) / 2].f0_Path < by_ s
      · refine Ev.step (ih ((lo + hi) / 2 + 1) hi (by omega) (by have := hp.1 hc; omega) h3 h4) fun k => ?_
        rw [slices_BinarySearchFunc_tree_File_tree_File_string_tree_Tree_find_1.l0, if_pos (by omega), hcast, hh, Option.bind_some, w (by omega) (by omega), ix_ hm, Option.bind_some]
        show (if Lib.compareBytes l[(lo + hi) / 2].f0_Path.data.toList s.data.toList < 0 then _ else _) = _
        rw [if_pos ((cmp_neg _ _).2 hc), w (by omega) (by omega)]
        rfl
      · refine Ev.step (ih lo ((lo + hi) / 2) (by omega) h2 (by have := mt hp.2 hc; omega) (by omega)) fun k => ?_
        rw [slices_BinarySearchFunc_tree_File_tree_File_string_tree_Tree_find_1.l0, if_pos (by omega), hcast, hh, Option.bind_some, w (by omega) (by omega), ix_ hm, Option.bind_some]
        show (if Lib.compareBytes l[(lo + hi) / 2].f0_Path.data.toList s.data.toList < 0 then _ else _) = _
        rw [if_neg (fun h => hc ((cmp_neg _ _).1 h))]
    · exact ih lo hi (by omega) h2 h3 h4
theorem find_ev (l : List File) (s : ByteArray) (hs : Srt l) (hl : l.length ≤ 100000) : Ev (fun k => tree_Tree_find.f k ⟨l⟩ s) ((pos l s : Int), fnd l s) := by
  unfold tree_Tree_find.f
  exact Ev.bind (search_ l s hs hl l.length 0 l.length (by omega) (by omega) (pos_le l s) (by omega)) (Ev.const _)

/-! ### rows of files -/
theorem apF {x y : List File} (h : x.length + y.length ≤ 1000000) : app 40 x y = some (x ++ y) := by
  unfold app; rw [if_pos (by omega)]
theorem cutF {l : List File} {i j : Nat} (h : i ≤ j) (h' : j ≤ l.length) : cut l (i : Int) (j : Int) = some ((l.take j).drop i) := by
  unfold cut; rw [if_pos (by omega), Int.toNat_natCast, Int.toNat_natCast]
theorem concat_l3 (xs : List (List File)) (hl : xs.length ≤ 100) : ∀ (c i : Nat) (x : List File), i + c = xs.length → x.length + (xs.drop i).flatten.length ≤ 1000000 →
    Ev (fun k => slices_Concat_tree_File_tree_File.l3 xs k x (i : Int)) (x ++ (xs.drop i).flatten) := by
  intro c
  induction c with
  | zero =>
    intro i x hi hx
    rw [List.drop_eq_nil_of_le (by omega)]
    exact Ev.stepc fun k => by rw [slices_Concat_tree_File_tree_File.l3, if_neg (by omega)]; simp
  | succ c ih =>
    intro i x hi hx
    have h1 : i < xs.length := by omega
    have ed : xs.drop i = xs[i] :: xs.drop (i + 1) := List.drop_eq_getElem_cons h1
    rw [ed] at hx ⊢
    rw [List.flatten_cons, List.length_append] at hx
    have q := ih (i + 1) (x ++ xs[i]) (by omega) (by rw [List.length_append]; omega)
    rw [List.flatten_cons, ← List.append_assoc]
    refine Ev.step q fun k => ?_
    rw [slices_Concat_tree_File_tree_File.l3, if_pos (by omega), ix_ h1, Option.bind_some, apF (by omega), Option.bind_some, w (by omega) (by omega)]
    rfl
theorem concat_l2 (xs : List (List File)) (hl : xs.length ≤ 100) (hf : xs.flatten.length ≤ 1000000) : ∀ (c i n : Nat), i + c = xs.length → n + (xs.drop i).flatten.length = xs.flatten.length →
    Ev (fun k => slices_Concat_tree_File_tree_File.l2 xs k (n : Int) (i : Int)) xs.flatten := by
  intro c
  induction c with
  | zero =>
    intro i n hi hx
    have q := concat_l3 xs hl xs.length 0 [] (by omega) (by rw [List.drop_zero]; simp; simpa using hf)
    rw [List.drop_zero, List.nil_append] at q
    refine Ev.step q fun k => ?_
    rw [List.drop_eq_nil_of_le (by omega)] at hx
    have hx' : n = xs.flatten.length := by simpa using hx
    rw [slices_Concat_tree_File_tree_File.l2, if_neg (by omega)]
    unfold grw
    rw [if_pos (by omega), Option.bind_some]
    rfl
  | succ c ih =>
    intro i n hi hx
    have h1 : i < xs.length := by omega
    have ed : xs.drop i = xs[i] :: xs.drop (i + 1) := List.drop_eq_getElem_cons h1
    rw [ed, List.flatten_cons, List.length_append] at hx
    refine Ev.step (ih (i + 1) (n + xs[i].length) (by omega) (by omega)) fun k => ?_
    have e : w64 ((n : Int) + (xs[i].length : Int)) = ((n + xs[i].length : Nat) : Int) := by rw [w (by omega) (by omega)]; rfl
    rw [slices_Concat_tree_File_tree_File.l2, if_pos (by omega), ix_ h1, Option.bind_some, e, if_neg (by omega), w (by omega) (by omega)]
    rfl
theorem concat_ev (xs : List (List File)) (hl : xs.length ≤ 100) (h : xs.flatten.length ≤ 1000000) : Ev (fun k => slices_Concat_tree_File_tree_File.f k xs) xs.flatten :=
  concat_l2 xs hl h xs.length 0 0 (by omega) (by rw [List.drop_zero]; omega)

/-! ### a file more, a file fewer -/
theorem fnd_true {l : List File} {s : ByteArray} (h : fnd l s = true) : ∃ hp : pos l s < l.length, l[pos l s].f0_Path = s := by
  unfold fnd at h
  split at h
  · rename_i f hf
    obtain ⟨hp, e⟩ := List.getElem?_eq_some_iff.1 hf
    exact ⟨hp, by rw [e]; exact of_decide_eq_true h⟩
  · cases h
theorem fnd_at {l : List File} {s : ByteArray} (hs : Srt l) {i : Nat} (hi : i < l.length) (e : l[i].f0_Path = s) : i = pos l s ∧ fnd l s = true := by
  have h1 : ¬ i < pos l s := fun h => l_irrefl (by_ s) (by have := (pos_lt s hs hi).2 h; rwa [e] at this)
  have h2 : ¬ pos l s < i := fun h => by
    have hp : pos l s < l.length := by omega
    have h3 := List.pairwise_iff_getElem.1 hs (pos l s) i hp hi h
    rw [e] at h3
    have := (pos_lt s hs hp).1 h3
    omega
  have e' : i = pos l s := by omega
  refine ⟨e', ?_⟩
  unfold fnd
  rw [← e', List.getElem?_eq_getElem hi]
  exact decide_eq_true e
/-- A row with a file at its place. -/
def put (l : List File) (f : File) : List File := l.take (pos l f.f0_Path) ++ f :: l.drop (pos l f.f0_Path + (if fnd l f.f0_Path = true then 1 else 0))
def del (l : List File) (s : ByteArray) : List File := if fnd l s = true then l.take (pos l s) ++ l.drop (pos l s + 1) else l
theorem with_ev (l : List File) (f : File) (hs : Srt l) (hl : l.length ≤ 1000) : Ev (fun k => tree_Tree_with.f k ⟨l⟩ f) ⟨put l f⟩ := by
  unfold tree_Tree_with.f jn
  refine Ev.bind (find_ev l f.f0_Path hs (by omega)) ?_
  dsimp only
  have hp := pos_le l f.f0_Path
  have key : ∀ n : Nat, n ≤ 1 → pos l f.f0_Path + n ≤ l.length → Ev (fun k => ((cut l 0 (pos l f.f0_Path : Int)).bind fun x3 => ((cut l (w64 ((pos l f.f0_Path : Int) + (n : Int))) (l.length : Int)).bind fun x4 => ((slices_Concat_tree_File_tree_File.f k [x3, [f], x4]).bind fun x5 => some (⟨x5⟩ : S_files))))) (⟨l.take (pos l f.f0_Path) ++ f :: l.drop (pos l f.f0_Path + n)⟩ : S_files) := fun n hn hle => by
    have e1 : cut l 0 (pos l f.f0_Path : Int) = some (l.take (pos l f.f0_Path)) := (cutF (i := 0) (by omega) hp).trans (by rw [List.drop_zero])
    have e2 : cut l (w64 ((pos l f.f0_Path : Int) + (n : Int))) (l.length : Int) = some (l.drop (pos l f.f0_Path + n)) := by
      rw [w (by omega) (by omega)]
      exact (cutF (i := pos l f.f0_Path + n) (by omega) (Nat.le_refl _)).trans (by rw [List.take_length])
    refine Ev.now e1 (Ev.now e2 ?_)
    have c := (concat_ev [l.take (pos l f.f0_Path), [f], l.drop (pos l f.f0_Path + n)] (by simp) (by simp; omega)).to (s := l.take (pos l f.f0_Path) ++ f :: l.drop (pos l f.f0_Path + n)) (by simp)
    exact Ev.bind c (Ev.const _)
  unfold put
  cases hf : fnd l f.f0_Path with
  | true =>
    obtain ⟨h1, _⟩ := fnd_true hf
    refine Ev.pos rfl ?_
    exact key 1 (by omega) (by omega)
  | false => exact Ev.neg (by decide) (key 0 (by omega) (by omega))
theorem without_ev (l : List File) (s : ByteArray) (hs : Srt l) (hl : l.length ≤ 1000) : Ev (fun k => tree_Tree_without.f k ⟨l⟩ s) ⟨del l s⟩ := by
  unfold tree_Tree_without.f
  refine Ev.bind (find_ev l s hs (by omega)) ?_
  dsimp only
  unfold del
  have hp := pos_le l s
  cases hf : fnd l s with
  | false => exact Ev.pos rfl (Ev.const _)
  | true =>
    obtain ⟨h1, _⟩ := fnd_true hf
    refine Ev.neg (by decide) ?_
    have e1 : cut l 0 (pos l s : Int) = some (l.take (pos l s)) := (cutF (i := 0) (by omega) hp).trans (by rw [List.drop_zero])
    have e2 : cut l (w64 ((pos l s : Int) + 1)) (l.length : Int) = some (l.drop (pos l s + 1)) := by
      rw [w (by omega) (by omega)]
      exact (cutF (i := pos l s + 1) (by omega) (Nat.le_refl _)).trans (by rw [List.take_length])
    refine Ev.now e1 (Ev.now e2 ?_)
    have c := (concat_ev [l.take (pos l s), l.drop (pos l s + 1)] (by simp) (by simp; omega)).to (s := l.take (pos l s) ++ l.drop (pos l s + 1)) (by simp)
    exact Ev.bind c (Ev.const _)

/-! ### the reference's -/
theorem at_loop (l : List File) (s : ByteArray) (hs : Srt l) (hl : l.length ≤ 1000) : ∀ (n i : Nat), i + n = l.length → (∀ j (hj : j < l.length), j < i → l[j].f0_Path ≠ s) → Ev (fun k => quitclaimref14_at.l0 l s k (i : Int)) (if fnd l s = true then (pos l s : Int) else -1) := by
  intro n
  induction n with
  | zero =>
    intro i hi hno
    have hf : fnd l s = false := by
      cases hf : fnd l s with
      | false => rfl
      | true => obtain ⟨hp, e⟩ := fnd_true hf; exact absurd e (hno _ hp (by omega))
    rw [hf]
    exact Ev.stepc fun k => by rw [quitclaimref14_at.l0, if_neg (by omega)]; rfl
  | succ n ih =>
    intro i hi hno
    have h1 : i < l.length := by omega
    by_cases he : l[i].f0_Path = s
    · obtain ⟨e, hf⟩ := fnd_at hs h1 he
      rw [hf, if_pos rfl, ← e]
      exact Ev.stepc fun k => by rw [quitclaimref14_at.l0, if_pos (by omega), ix_ h1, Option.bind_some, if_pos he]
    · refine Ev.step (ih (i + 1) (by omega) fun j hj hji => ?_) fun k => ?_
      · by_cases hjj : j = i
        · subst hjj; exact he
        · exact hno j hj (by omega)
      · rw [quitclaimref14_at.l0, if_pos (by omega), ix_ h1, Option.bind_some, if_neg he, w (by omega) (by omega)]
        rfl
theorem at_ev (l : List File) (s : ByteArray) (hs : Srt l) (hl : l.length ≤ 1000) : Ev (fun k => quitclaimref14_at.f k l s) (if fnd l s = true then (pos l s : Int) else -1) := at_loop l s hs hl l.length 0 (by omega) (fun j _ h => by omega)
theorem drop_loop (l : List File) (i0 : Nat) (hi0 : i0 < l.length) (hl : l.length ≤ 1000) : ∀ (n j : Nat) (acc : List File), j + n = l.length → acc.length ≤ j → Ev (fun k => quitclaimref14_drop.l0 l (i0 : Int) k acc (j : Int)) (acc ++ (if j ≤ i0 then (l.take i0).drop j ++ l.drop (i0 + 1) else l.drop j)) := by
  intro n
  induction n with
  | zero =>
    intro j acc hj ha
    rw [if_neg (by omega), List.drop_eq_nil_of_le (by omega), List.append_nil]
    exact Ev.stepc fun k => by rw [quitclaimref14_drop.l0, if_neg (by omega)]
  | succ n ih =>
    intro j acc hj ha
    have h1 : j < l.length := by omega
    by_cases he : j = i0
    · subst he
      refine Ev.to (Ev.step (ih (j + 1) acc (by omega) (by omega)) fun k => ?_) ?_
      · rw [quitclaimref14_drop.l0, if_pos (by omega), if_neg (by simp), w (by omega) (by omega)]
        rfl
      · have e0 : (l.take j).drop j = [] := List.drop_eq_nil_of_le (by rw [List.length_take]; omega)
        rw [if_neg (by omega), if_pos (Nat.le_refl _), e0, List.nil_append]
    · refine Ev.to (Ev.step (ih (j + 1) (acc ++ [l[j]]) (by omega) (by simp; omega)) fun k => ?_) ?_
      · rw [quitclaimref14_drop.l0, if_pos (by omega), if_pos (by simp; omega), ix_ h1, Option.bind_some, apF (by simp; omega), Option.bind_some, w (by omega) (by omega)]
        rfl
      · rw [List.append_assoc]
        congr 1
        by_cases hlt : j ≤ i0
        · rw [if_pos (by omega), if_pos hlt, ← List.append_assoc]
          congr 1
          have h2 : j < (l.take i0).length := by rw [List.length_take]; omega
          rw [List.drop_eq_getElem_cons h2, List.getElem_take]
          rfl
        · rw [if_neg (by omega), if_neg hlt, List.drop_eq_getElem_cons h1]
          rfl
theorem drop_ev (l : List File) (i0 : Nat) (hi0 : i0 < l.length) (hl : l.length ≤ 1000) : Ev (fun k => quitclaimref14_drop.f k l (i0 : Int)) (l.take i0 ++ l.drop (i0 + 1)) := by
  have := drop_loop l i0 hi0 hl l.length 0 [] (by omega) (by simp)
  rw [if_pos (by omega), List.drop_zero, List.nil_append] at this
  exact this

/-! ### a file put in -/
theorem fnd_false {l : List File} {s : ByteArray} (hs : Srt l) (hf : fnd l s = false) {i : Nat} (hi : i < l.length) : l[i].f0_Path ≠ s := fun e => by
  have := (fnd_at hs hi e).2
  rw [hf] at this; cases this
theorem put_done (l : List File) (f : File) (hl : l.length ≤ 1000) : ∀ (n i : Nat) (out : List File), i + n = l.length → out.length ≤ i + 1 → Ev (fun k => quitclaimref14_Put.l0 l f k out true (i : Int)) (out ++ l.drop i) := by
  intro n
  induction n with
  | zero =>
    intro i out hi ho
    rw [List.drop_eq_nil_of_le (by omega), List.append_nil]
    exact Ev.stepc fun k => by rw [quitclaimref14_Put.l0, if_neg (by omega)]; rfl
  | succ n ih =>
    intro i out hi ho
    have h1 : i < l.length := by omega
    refine Ev.to (Ev.step (ih (i + 1) (out ++ [l[i]]) (by omega) (by simp; omega)) fun k => ?_) (by rw [List.append_assoc, List.drop_eq_getElem_cons h1]; rfl)
    rw [quitclaimref14_Put.l0, if_pos (by omega)]
    unfold jn
    show (ix l (i : Int)).bind _ = _
    rw [ix_ h1, Option.bind_some, apF (by simp; omega), Option.bind_some, w (by omega) (by omega)]
    rfl
theorem put_loop (l : List File) (f : File) (hs : Srt l) (hf : fnd l f.f0_Path = false) (hl : l.length ≤ 1000) : ∀ (n i : Nat) (out : List File), i + n = l.length → i ≤ pos l f.f0_Path → out.length ≤ i →
    Ev (fun k => quitclaimref14_Put.l0 l f k out false (i : Int)) (out ++ ((l.take (pos l f.f0_Path)).drop i ++ f :: l.drop (pos l f.f0_Path))) := by
  have hp := pos_le l f.f0_Path
  intro n
  induction n with
  | zero =>
    intro i out hi hip ho
    have e : pos l f.f0_Path = l.length := by omega
    rw [e, List.take_length, List.drop_eq_nil_of_le (by omega), List.drop_eq_nil_of_le (Nat.le_refl _)]
    refine Ev.stepc fun k => ?_
    rw [quitclaimref14_Put.l0, if_neg (by omega)]
    show ((app 40 out [f]).bind fun x30 => some x30) = _
    rw [apF (by simp; omega)]
    rfl
  | succ n ih =>
    intro i out hi hip ho
    have h1 : i < l.length := by omega
    have hlt : Op.bytesLess f.f0_Path.toList l[i].f0_Path.toList = decide (¬ i < pos l f.f0_Path) := by
      rw [Lib.toList_data, Lib.toList_data, less_eq, decide_eq_decide, ← pos_lt f.f0_Path hs h1]
      rcases l_cases (by_ f.f0_Path) (by_ l[i].f0_Path) with h | h | h
      · exact ⟨fun _ k => l_irrefl _ (l_trans h k), fun _ => h⟩
      · exact absurd (by_inj.1 h).symm (fnd_false hs hf h1)
      · exact ⟨fun k => absurd (l_trans h k) (l_irrefl _), fun k => absurd h k⟩
    by_cases hlp : i < pos l f.f0_Path
    · refine Ev.to (Ev.step (ih (i + 1) (out ++ [l[i]]) (by omega) (by omega) (by simp; omega)) fun k => ?_) ?_
      · rw [quitclaimref14_Put.l0, if_pos (by omega)]
        unfold jn
        dsimp only
        show ((ix l (i : Int)).bind fun x26 => _) = _
        rw [ix_ h1, Option.bind_some, hlt, decide_eq_false (by omega)]
        show ((app 40 out [l[i]]).bind fun x29 => quitclaimref14_Put.l0 l f k x29 false (w64 ((i : Int) + 1))) = _
        rw [apF (by simp; omega), Option.bind_some, w (by omega) (by omega)]
        rfl
      · rw [List.append_assoc]
        congr 1
        have h2 : i < (l.take (pos l f.f0_Path)).length := by rw [List.length_take]; omega
        rw [List.drop_eq_getElem_cons h2, List.getElem_take]
        rfl
    · have e : i = pos l f.f0_Path := by omega
      refine Ev.to (Ev.step (put_done l f hl n (i + 1) (out ++ [f] ++ [l[i]]) (by omega) (by simp; omega)) fun k => ?_) ?_
      · rw [quitclaimref14_Put.l0, if_pos (by omega)]
        unfold jn
        dsimp only
        show ((ix l (i : Int)).bind fun x26 => _) = _
        rw [ix_ h1, Option.bind_some, hlt, decide_eq_true hlp]
        show ((app 40 out [f]).bind fun x27 => _) = _
        rw [apF (by simp; omega), Option.bind_some]
        show ((app 40 (out ++ [f]) [l[i]]).bind fun x29 => quitclaimref14_Put.l0 l f k x29 true (w64 ((i : Int) + 1))) = _
        rw [apF (by simp; omega), Option.bind_some, w (by omega) (by omega)]
        rfl
      · have e0 : (l.take (pos l f.f0_Path)).drop i = [] := List.drop_eq_nil_of_le (by rw [List.length_take]; omega)
        rw [e0, ← e, List.nil_append, List.append_assoc, List.append_assoc, List.drop_eq_getElem_cons h1]
        rfl
theorem rput_ev (l : List File) (f : File) (hs : Srt l) (hf : fnd l f.f0_Path = false) (hl : l.length ≤ 1000) : Ev (fun k => quitclaimref14_Put.f k l f) (put l f) := by
  have := put_loop l f hs hf hl l.length 0 [] (by omega) (by omega) (by simp)
  rw [List.drop_zero, List.nil_append] at this
  unfold put
  rw [hf, if_neg (by decide), Nat.add_zero]
  exact this

/-! ### room -/
def Good (l : List File) : Prop := ∀ f ∈ l, PureP.right f.f0_Path = true
theorem right_size {s : ByteArray} (h : PureP.right s = true) : s.size ≤ 200 := by
  unfold PureP.right at h; simp only [Bool.and_eq_true, decide_eq_true_eq] at h; exact h.1
def near (s : ByteArray) (f : File) : Bool := PureP.cov f.f0_Path s || PureP.cov s f.f0_Path
def rm (l : List File) (s : ByteArray) : Int := if fnd l s = true then 7 else if l.any (near s) = true then 12 else 0
theorem beside_ev {a b : ByteArray} (ha : PureP.right a = true) (hb : PureP.right b = true) : Ev (fun k => path_Beside.f k a b) (!(PureP.cov a b || PureP.cov b a)) := by
  unfold path_Beside.f
  refine Ev.bind ((PureP.right_ev a).to ha) (Ev.bind (Ev.g1 rfl ((PureP.right_ev b).to hb)) ?_)
  refine Ev.bind (Ev.g1 rfl (Ev.ev (PureP.covers_eq a b (by have := right_size ha; omega)))) ?_
  cases PureP.cov a b with
  | true => exact Ev.bind (Ev.g0 rfl) (Ev.const _)
  | false =>
    refine Ev.bind (Ev.g1 rfl (Ev.ev (PureP.covers_eq b a (by have := right_size hb; omega)))) ?_
    cases PureP.cov b a <;> exact Ev.const _
theorem room_loop (l : List File) (s : ByteArray) (hg : Good l) (hr : PureP.right s = true) (hl : l.length ≤ 1000) : ∀ (n i : Nat), i + n = l.length → Ev (fun k => tree_Tree_room.l0 ⟨l⟩ s k (i : Int)) (if (l.drop i).any (near s) = true then 12 else 0) := by
  intro n
  induction n with
  | zero =>
    intro i hi
    rw [List.drop_eq_nil_of_le (by omega)]
    exact Ev.stepc fun k => by rw [tree_Tree_room.l0, if_neg (by show ¬ (i : Int) < (l.length : Int); omega)]; rfl
  | succ n ih =>
    intro i hi
    have h1 : i < l.length := by omega
    obtain ⟨K, hb⟩ := beside_ev (hg _ (List.getElem_mem h1)) hr
    obtain ⟨K', q⟩ := ih (i + 1) (by omega)
    refine ⟨K + K' + 1, fun k hk => ?_⟩
    obtain ⟨k, rfl⟩ : ∃ m, k = m + 1 := ⟨k - 1, by omega⟩
    have hb := hb k (by omega)
    have q := q k (by omega)
    dsimp only at hb q ⊢
    rw [tree_Tree_room.l0, if_pos (by show (i : Int) < (l.length : Int); omega)]
    show (ix l (i : Int)).bind _ = _
    rw [ix_ h1, Option.bind_some, hb, Option.bind_some, List.drop_eq_getElem_cons h1, List.any_cons]
    have en : near s l[i] = (PureP.cov l[i].f0_Path s || PureP.cov s l[i].f0_Path) := rfl
    rw [en]
    cases (PureP.cov l[i].f0_Path s || PureP.cov s l[i].f0_Path) with
    | true => rfl
    | false =>
      rw [if_neg (by decide), w (by omega) (by omega), Bool.false_or]
      exact q
theorem room_ev (l : List File) (s : ByteArray) (hs : Srt l) (hg : Good l) (hr : PureP.right s = true) (hl : l.length ≤ 1000) : Ev (fun k => tree_Tree_room.f k ⟨l⟩ s) (rm l s) := by
  unfold tree_Tree_room.f rm
  refine Ev.bind (find_ev l s hs (by omega)) ?_
  dsimp only
  cases fnd l s with
  | true => exact Ev.pos rfl (Ev.const _)
  | false =>
    refine Ev.neg (by decide) ?_
    exact room_loop l s hg hr hl l.length 0 (by omega)
theorem rroom_loop (l : List File) (s : ByteArray) (hl : l.length ≤ 1000) : ∀ (n i : Nat), i + n = l.length → Ev (fun k => quitclaimref14_room.l0 l s k (i : Int)) (if (l.drop i).any (near s) = true then 12 else 0) := by
  intro n
  induction n with
  | zero =>
    intro i hi
    rw [List.drop_eq_nil_of_le (by omega)]
    exact Ev.stepc fun k => by rw [quitclaimref14_room.l0, if_neg (by omega)]; rfl
  | succ n ih =>
    intro i hi
    have h1 : i < l.length := by omega
    rw [List.drop_eq_getElem_cons h1, List.any_cons]
    have en : near s l[i] = (PureP.cov l[i].f0_Path s || PureP.cov s l[i].f0_Path) := rfl
    rw [en]
    cases h2 : PureP.cov l[i].f0_Path s with
    | true =>
      refine Ev.stepc fun k => ?_
      rw [quitclaimref14_room.l0, if_pos (by omega), ix_ h1, Option.bind_some, PureP.rcovers_eq, h2, Option.bind_some]
      rfl
    | false =>
      cases h3 : PureP.cov s l[i].f0_Path with
      | true =>
        refine Ev.stepc fun k => ?_
        rw [quitclaimref14_room.l0, if_pos (by omega), ix_ h1, Option.bind_some, PureP.rcovers_eq, h2, Option.bind_some]
        show ((quitclaimref10_Covers.f s l[i].f0_Path).bind fun x14 => _) = _
        rw [PureP.rcovers_eq, h3]
        rfl
      | false =>
        refine Ev.step (ih (i + 1) (by omega)) fun k => ?_
        rw [quitclaimref14_room.l0, if_pos (by omega), ix_ h1, Option.bind_some, PureP.rcovers_eq, h2, Option.bind_some]
        show ((quitclaimref10_Covers.f s l[i].f0_Path).bind fun x14 => _) = _
        rw [PureP.rcovers_eq, h3, Option.bind_some, if_neg (by decide), w (by omega) (by omega)]
        rfl
theorem rroom_ev (l : List File) (s : ByteArray) (hs : Srt l) (hl : l.length ≤ 1000) : Ev (fun k => quitclaimref14_room.f k l s) (rm l s) := by
  unfold quitclaimref14_room.f rm
  refine Ev.bind (at_ev l s hs hl) ?_
  cases fnd l s with
  | true => exact Ev.pos (by rw [if_pos rfl]; omega) (Ev.const _)
  | false => exact Ev.neg (by rw [if_neg (by decide)]; decide) (rroom_loop l s hl l.length 0 (by omega))
theorem get_ev (l : List File) (s : ByteArray) (hs : Srt l) (hl : l.length ≤ 1000) (hg : ∀ f ∈ l, f.f1_Lines.length ≤ 1000) : Ev (fun k => tree_Tree_Get.f k ⟨l⟩ s) (match l[pos l s]? with | some f => if f.f0_Path = s then (f.f1_Lines, true) else ([], false) | none => ([], false)) := by
  unfold tree_Tree_Get.f
  refine Ev.bind (find_ev l s hs (by omega)) ?_
  dsimp only
  cases hf : fnd l s with
  | false =>
    refine Ev.to (Ev.pos rfl (Ev.const ([], false))) ?_
    cases hh : l[pos l s]? with
    | none => rfl
    | some f =>
      unfold fnd at hf
      rw [hh] at hf
      dsimp only at hf ⊢
      rw [if_neg (of_decide_eq_false hf)]
  | true =>
    obtain ⟨hp, e⟩ := fnd_true hf
    refine Ev.neg (by decide) (Ev.now (ix_ hp) (Ev.now (PureC.clone_ _ (hg _ (List.getElem_mem hp))) ?_))
    rw [List.getElem?_eq_getElem hp]
    dsimp only
    rw [if_pos e]
    exact Ev.const _
end Go.Proofs.YtngcfmnmjkncoaaDoor.PureT
