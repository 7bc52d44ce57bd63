/- Archives, packed; no condition but the typed premises. -/
import Derived.Test.YtmjkflppajienaaDoorPFrom
import Derived.Test.YtmjkflppajienaaDoorPPack
import Derived.Test.YtmjkflppajienaaDoorRRd
namespace Go.Proofs.YtmjkflppajienaaDoor.R.Pu
open Go Go.RowKit
set_option linter.unusedVariables false
set_option linter.unusedSimpArgs false

/-! ### writing -/
/-- Bytes as numbers. -/
def ib (l : List UInt8) : List Int := l.map fun b => ((b.toNat : Nat) : Int)
theorem strb_ib (s : ByteArray) : strb s = ib s.data.toList := rfl
theorem bstr_ib (l : List UInt8) : bstr (ib l) = bmk l := by
  unfold bstr ib bmk
  simp [Function.comp_def]
theorem ib_app (a b : List UInt8) : ib (a ++ b) = ib a ++ ib b := List.map_append
/-- A number as bytes. -/
def enc (n : Nat) : List UInt8 := if h : n < 128 then [UInt8.ofNat n] else UInt8.ofNat (n % 128 + 128) :: enc (n / 128)
termination_by n
theorem enc_len (n : Nat) (h : n ≤ 4611686018427387904) : (enc n).length ≤ 10 := by
  have key : ∀ k n, n < 128 ^ k → 0 < k → (enc n).length ≤ k := by
    intro k
    induction k with
    | zero => intro n _ h; omega
    | succ k ih =>
      intro n hn _
      rw [enc]
      split
      · simp
      · rename_i h128
        have hk : 0 < k := by
          rcases Nat.eq_zero_or_pos k with rfl | h
          · simp at hn; omega
          · exact h
        have : n / 128 < 128 ^ k := by rw [Nat.pow_succ] at hn; omega
        have := ih (n / 128) this hk
        rw [List.length_cons]; omega
  exact key 10 n (by have : (128 : Nat) ^ 10 = 1180591620717411303424 := by decide
                     omega) (by omega)
theorem wbyte_ev (x : Int) (w : List Int) (h : w.length ≤ 100000000000) : pack_Writer_Byte.f x (w, ()) = some ((), (w ++ [x], ()), (), ()) := by
  refine pack_Writer_Byte.in _ _ ?_
  rw [app_ (by simp; omega)]; rfl
theorem shr7 (m : Nat) : shr IntKind.i64 (m : Int) 7 = some ((m / 128 : Nat) : Int) := by
  unfold shr
  rw [if_pos (by decide)]
  have e3 : (2 : Int) ^ (min (7 : Int).toNat IntKind.i64.bits) = 128 := by decide
  rw [e3, Int.fdiv_eq_ediv_of_nonneg _ (by decide)]
  rfl
theorem wnum_ev (n : Nat) (hn : n ≤ 4611686018427387904) (w : List Int) (hw : w.length ≤ 10000000000) : pack_Writer_Num.f (n : Int) (w, ()) = some (true, (w ++ ib (enc n), ()), (), ()) := by
  have hel := enc_len n hn
  refine pack_Writer_Num.in _ _ ?_
  rw [decide_eq_false (show ¬ (n : Int) < 0 by omega), decide_eq_false (show ¬ (n : Int) > 4611686018427387904 by omega), if_neg (by decide)]
  refine wh_ind (fun (p : Nat × List Int) => (((), (p.1 : Int), ()), (p.2, ()), (), (), ())) (fun p => p.2.length + (enc p.1).length = w.length + (enc n).length) (fun p => p.1) (fun p => (true, (p.2 ++ ib (enc p.1), ()), (), ())) ?_ (n, w) rfl
  rintro ⟨m, y⟩ h1 r hr
  simp only at h1 hr
  simp only []
  have e8 : IntKind.u8.wrap (m : Int) = ((m % 256 : Nat) : Int) := by rw [w8mod]; rfl
  by_cases hm : m < 128
  · rw [decide_eq_false (show ¬ (m : Int) ≥ 128 by omega), if_neg (by decide), e8, wbyte_ev _ _ (by omega), Option.bind_some, enc, dif_pos hm]
    have : ((m % 256 : Nat) : Int) = ((UInt8.ofNat m).toNat : Int) := by simp
    rw [this]; rfl
  · have ee : enc m = UInt8.ofNat (m % 128 + 128) :: enc (m / 128) := by rw [enc, dif_neg hm]
    rw [ee, List.length_cons] at h1
    have eh : IntKind.u8.wrap (↑(BitVec.ofInt 8 ((m % 256 : Nat) : Int) ||| BitVec.ofInt 8 128).toNat : Int) = ((UInt8.ofNat (m % 128 + 128)).toNat : Int) := by
      have := high8 ⟨m % 256, Nat.mod_lt _ (by decide)⟩
      simp only at this
      rw [this]
      have e1 : m % 256 % 128 + 128 = m % 128 + 128 := by omega
      have e2 : (UInt8.ofNat (m % 128 + 128)).toNat = m % 128 + 128 := by simp; omega
      rw [e1, e2]
    rw [decide_eq_true (show (m : Int) ≥ 128 by omega), if_pos rfl, e8, eh, wbyte_ev _ _ (by omega), Option.bind_some, shr7, Option.bind_some, ee]
    have := hr (m / 128, y ++ [((UInt8.ofNat (m % 128 + 128)).toNat : Int)]) (by simp only [List.length_append, List.length_singleton]; omega) (by simp only; omega)
    refine this.trans ?_
    simp [ib]
theorem wtext_ev (s : ByteArray) (w : List Int) (hs : s.size ≤ 1000000000) (hw : w.length ≤ 10000000000) : pack_Writer_Text.f s (w, ()) = some ((), (w ++ ib (enc s.size ++ s.data.toList), ()), (), ()) := by
  have hl := len_text s
  have hel := enc_len s.size (by omega)
  refine pack_Writer_Text.in _ _ ?_
  rw [wnum_ev s.size (by omega) w hw, Option.bind_some, app_ (by simp [ib, strb]; omega), Option.bind_some, strb_ib, ib_app, List.append_assoc]
def pkf (f : File) : List UInt8 := enc f.1.size ++ f.1.data.toList ++ (enc (htext f.2.1).length ++ htext f.2.1)
def pk (l : List File) : List UInt8 := [81, 65, 49] ++ (enc l.length ++ l.flatMap pkf)
theorem pack_ev (l : List File) (hl : l.length ≤ 800) (hf : ∀ f ∈ l, f.1.size ≤ 1000 ∧ (htext f.2.1).length ≤ 1000000 ∧ f.2.1.length ≤ 1000000 ∧ ∀ s ∈ f.2.1, s.size ≤ 1000000) : archive_Pack.f (l, ()) = some (bmk (pk l)) := by
  refine archive_Pack.in _ ?_
  refine (wh_list ([81, 65, 49] : List UInt8) (fun i (w : List Int) => (((), (), i, ()), (l, ()), (), (w, ()), ())) (fun i w => w.length = i) (fun x w => bmk ((w.map fun n => UInt8.ofNat n.toNat) ++ (x ++ (enc l.length ++ l.flatMap pkf)))) (fun w r hI => ?_) (fun i w r h hI hr => ?_) [] rfl).trans ?_
  · show (if decide (((3 : Nat) : Int) < 3) = true then _ else _) = _
    have h3 : w.length = 3 := hI
    have hel := enc_len l.length (by omega)
    rw [if_neg (by decide), files_ev l (by omega) (fun f hf' => (hf f hf').2.2.1), Option.bind_some, wnum_ev l.length (by omega) w (by omega), Option.bind_some]
    refine (wh_list l (fun i (y : List Int) => (((), l, (l.length : Int), i, ()), (l, ()), (), (y, ()), ())) (fun i y => y.length ≤ 100 + i * 1002000) (fun x y => bmk ((y.map fun n => UInt8.ofNat n.toNat) ++ x.flatMap pkf)) (fun y r hI => ?_) (fun i y r h hI hr => ?_) (w ++ ib (enc l.length)) (by simp [ib]; omega)).trans ?_
    · simp (disch := omega) only [decide_eq_true_eq, if_neg]
      rw [pack_Writer_String.in (y, ()) (r := (bstr y, (y, ()), (), ())) rfl]
      simp [bstr, bmk]
    · obtain ⟨z1, z2, z3, z4⟩ := hf _ (List.getElem_mem h)
      have e1 := enc_len l[i].1.size (by omega)
      have e2 := enc_len (htext l[i].2.1).length (by omega)
      have ltx := len_text l[i].1
      simp (disch := omega) only [decide_eq_true_eq, if_pos, ix_, Option.bind_some, wS]
      rw [wtext_ev _ _ (by omega) (by omega), Option.bind_some, hunk_Text_ev _ z3 z4, Option.bind_some, wtext_ev _ _ (by rw [size_bmk]; omega) (by simp [ib]; omega), Option.bind_some, size_bmk, list_bmk]
      refine (hr (y ++ ib (enc l[i].1.size ++ l[i].1.data.toList) ++ ib (enc (htext l[i].2.1).length ++ htext l[i].2.1)) (by simp [ib]; omega)).trans ?_
      rw [show (l[i] :: l.drop (i + 1)).flatMap pkf = pkf l[i] ++ (l.drop (i + 1)).flatMap pkf from rfl]
      congr 2
      have ibb : ∀ x : List UInt8, (ib x).map (fun n => UInt8.ofNat n.toNat) = x := fun x => by unfold ib; simp [Function.comp_def]
      rw [List.map_append, List.map_append, ibb, ibb, pkf, List.append_assoc, List.append_assoc]
      simp
    · have ibb : ∀ x : List UInt8, (ib x).map (fun n => UInt8.ofNat n.toNat) = x := fun x => by unfold ib; simp [Function.comp_def]
      rw [List.map_append, ibb]
      simp
  · have h3 : i < 3 := h
    rw [show ([81, 65, 49] : List UInt8).length = 3 from rfl] at h
    have hb := bx_ (s := (⟨⟨[81, 65, 49]⟩⟩ : ByteArray)) (i := i) h
    simp only []
    rw [decide_eq_true (show (i : Int) < 3 by omega), if_pos rfl, hb, Option.bind_some, wbyte_ev _ _ (by omega), Option.bind_some, wS (by omega)]
    refine (hr _ (by simp; omega)).trans ?_
    congr 2
    simp
  · simp [pk]

theorem awake_ev : quitclaimlaw39_awake.f = some true := by
  refine quitclaimlaw39_awake.in ?_
  rw [pack_ev [] (by simp) (fun f hf => by cases hf), Option.bind_some]
  have : bmk (pk []) = ({ data := { toList := [81, 65, 49, 0] } } : ByteArray) := by
    refine text_ext ?_
    rw [list_bmk]
    show [81, 65, 49] ++ (enc 0 ++ []) = _
    rw [enc]; rfl
  rw [this]
  simp
end Go.Proofs.YtmjkflppajienaaDoor.R.Pu
