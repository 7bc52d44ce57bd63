/- A tree as lines, and back; no condition but the typed premises. -/
import Derived.Test.YtmjkflppajienaaDoorPFrom
import Derived.Lib.ItoaNum
import Derived.Lib.AtoiAllCases
namespace Go.Proofs.YtmjkflppajienaaDoor.R.Pu
open Go Go.RowKit
set_option linter.unusedVariables false
set_option linter.unusedSimpArgs false

/-! ### numbers as texts -/
theorem dig1 : ∀ d : _root_.Fin 10, (⟨⟨[48, 49, 50, 51, 52, 53, 54, 55, 56, 57]⟩⟩ : ByteArray).extract d.val (d.val + 1) = bmk [UInt8.ofNat (48 + d.val)] := by decide +kernel
theorem dd_len : ∀ n : Nat, (Lib.decDigits n).length ≤ n + 1 := by
  intro n
  induction n using Nat.strongRecOn with
  | _ n ih =>
    rw [Lib.decDigits]
    split
    · simp
    · have := ih (n / 10) (by omega)
      rw [List.length_append, List.length_singleton]; omega
theorem bmk_app (a b : List UInt8) : bmk a ++ bmk b = bmk (a ++ b) := text_ext (by rw [app_list, list_bmk, list_bmk, list_bmk])
theorem digits_ev : ∀ n : Nat, n ≤ 1000000000 → quitclaimref35_Digits.f (n : Int) = some (bmk (Lib.decDigits n)) := by
  intro n
  induction n using Nat.strongRecOn with
  | _ n ih =>
    intro h
    refine quitclaimref35_Digits.in _ ?_
    rw [Lib.decDigits]
    have z10 : (⟨⟨[48, 49, 50, 51, 52, 53, 54, 55, 56, 57]⟩⟩ : ByteArray).size = 10 := rfl
    by_cases h10 : n < 10
    · rw [decide_eq_true (show (n : Int) < 10 by omega), if_pos rfl, dif_pos h10, wS (by omega), sub_ (by omega) (by rw [z10]; omega), Option.bind_some, dig1 ⟨n, h10⟩]
    · rw [decide_eq_false (show ¬ (n : Int) < 10 by omega), if_neg (by decide), dif_neg h10]
      have e1 : Int.tdiv (n : Int) 10 = ((n / 10 : Nat) : Int) := rfl
      have e2 : Int.tmod (n : Int) 10 = ((n % 10 : Nat) : Int) := rfl
      have := dd_len (n / 10)
      rw [e1, e2, w_ (by omega) (by omega), ih (n / 10) (by omega) (by omega), Option.bind_some, wS (by omega), sub_ (by omega) (by rw [z10]; omega), Option.bind_some, dig1 ⟨n % 10, Nat.mod_lt _ (by decide)⟩, cat_ (by rw [size_bmk, size_bmk, List.length_singleton]; omega), Option.bind_some, bmk_app]
theorem itoa_ev (n : Nat) (h : n ≤ 1000000000) : strconv_Itoa.f (n : Int) = some (bmk (Lib.decDigits n)) := by
  refine strconv_Itoa.in _ ?_
  unfold strconv_Itoa.g
  rw [if_pos (by omega)]
  unfold Lib.itoa
  rw [if_neg (by omega), Int.toNat_natCast]
  rfl

/-! ### lines -/
def hdl (f : File) : ByteArray := bmk ([61, 61, 32] ++ f.1.data.toList ++ [32] ++ Lib.decDigits f.2.1.length)
def lns (l : List File) : List ByteArray := l.flatMap fun f => hdl f :: f.2.1
theorem hd_eq (f : File) : (⟨⟨[61, 61, 32]⟩⟩ : ByteArray) ++ f.1 ++ ⟨⟨[32]⟩⟩ ++ bmk (Lib.decDigits f.2.1.length) = hdl f := text_ext (by
  unfold hdl
  rw [app_list, app_list, app_list, list_bmk, list_bmk])
theorem lines_ev (l : List File) (T : Tr l) (hl : l.length ≤ 800) : archive_Lines.f (l, ()) = some (lns l) := by
  have hL := fun f hf => linesOk_len (T.lines f hf)
  refine archive_Lines.in _ ?_
  rw [files_ev l (by omega) (fun f hf => by have := (hL f hf).1; omega), Option.bind_some]
  refine (wh_list l (fun i (x : List ByteArray) => ((x, l, (l.length : Int), i, ()), (l, ()), (), ())) (fun i x => x.length ≤ i * 1001) (fun y x => x ++ lns y) (fun x r hI => ?_) (fun i x r h hI hr => ?_) [] (by simp)).trans ?_
  · simp (disch := omega) only [decide_eq_true_eq, if_neg]
    rw [show lns [] = [] from rfl, List.append_nil]
  · obtain ⟨z1, z2⟩ := hL _ (List.getElem_mem h)
    have z3 := right_size (T.good _ (List.getElem_mem h))
    have z4 := dd_len l[i].2.1.length
    have s1 : (⟨⟨[61, 61, 32]⟩⟩ : ByteArray).size = 3 := rfl
    have s2 : (⟨⟨[32]⟩⟩ : ByteArray).size = 1 := rfl
    simp (disch := omega) only [decide_eq_true_eq, if_pos, ix_, Option.bind_some, wS]
    rw [cat_ (by rw [s1]; omega), Option.bind_some, cat_ (by rw [size_app, s1, s2]; omega), Option.bind_some, itoa_ev _ (by omega), Option.bind_some, cat_ (by rw [size_app, size_app, s1, s2, size_bmk]; omega), Option.bind_some, hd_eq, app_ (by simp; omega), Option.bind_some, app_ (by simp; omega), Option.bind_some]
    refine (hr _ (by simp; omega)).trans ?_
    rw [show lns (l[i] :: l.drop (i + 1)) = (hdl l[i] :: l[i].2.1) ++ lns (l.drop (i + 1)) from rfl]
    simp
  · simp
theorem rlin_ev (l : List File) (T : Tr l) (hl : l.length ≤ 800) : quitclaimref39_Lines.f l = some (lns l) := by
  have hL := fun f hf => linesOk_len (T.lines f hf)
  refine quitclaimref39_Lines.in _ ?_
  refine (wh_list l (fun i (x : List ByteArray) => ((l, x, i, ()), (), ())) (fun i x => x.length ≤ i * 1001) (fun y x => x ++ lns y) (fun x r hI => ?_) (fun i x r h hI hr => ?_) [] (by simp)).trans ?_
  · simp (disch := omega) only [decide_eq_true_eq, if_neg]
    rw [show lns [] = [] from rfl, List.append_nil]
  · obtain ⟨z1, z2⟩ := hL _ (List.getElem_mem h)
    have z3 := right_size (T.good _ (List.getElem_mem h))
    have z4 := dd_len l[i].2.1.length
    have s1 : (⟨⟨[61, 61, 32]⟩⟩ : ByteArray).size = 3 := rfl
    have s2 : (⟨⟨[32]⟩⟩ : ByteArray).size = 1 := rfl
    simp (disch := omega) only [decide_eq_true_eq, if_pos, ix_, Option.bind_some, wS]
    rw [cat_ (by rw [s1]; omega), Option.bind_some, cat_ (by rw [size_app, s1, s2]; omega), Option.bind_some, digits_ev _ (by omega), Option.bind_some, cat_ (by rw [size_app, size_app, s1, s2, size_bmk]; omega), Option.bind_some, hd_eq, app_ (by simp; omega), Option.bind_some, app_ (by simp; omega), Option.bind_some]
    refine (hr _ (by simp; omega)).trans ?_
    rw [show lns (l[i] :: l.drop (i + 1)) = (hdl l[i] :: l[i].2.1) ++ lns (l.drop (i + 1)) from rfl]
    simp
  · simp
end Go.Proofs.YtmjkflppajienaaDoor.R.Pu
