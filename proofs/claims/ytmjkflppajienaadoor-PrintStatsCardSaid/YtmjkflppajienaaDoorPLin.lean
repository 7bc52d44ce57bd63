/- A tree as lines, and back; no condition but the typed premises. -/
import Derived.Test.YtmjkflppajienaaDoorPFrom
import Derived.Lib.ItoaNum
import Derived.Lib.AtoiAllCases
namespace Go.Proofs.YtmjkflppajienaaDoor.R.Pu
open Go Go.RowKit
set_option linter.unusedVariables false
set_option linter.unusedSimpArgs false

/-! ### numbers as texts -/
theorem dig1 : ∀ d : _root_.Fin 10, (⟨⟨[48, 49, 50, 51, 52, 53, 54, 55, 56, 57]⟩⟩ : ByteArray).extract d.val (d.val + 1) = bmk [UInt8.ofNat (48 + d.val)] := by decide +kernel
theorem dd_len : ∀ n : Nat, (Lib.decDigits n).length ≤ n + 1 := by
  intro n
  induction n using Nat.strongRecOn with
  | _ n ih =>
    rw [Lib.decDigits]
    split
    · simp
    · have := ih (n / 10) (by omega)
      rw [List.length_append, List.length_singleton]; omega
theorem itoa_ev (n : Nat) (h : n ≤ 1000000000) : strconv_Itoa.f (n : Int) = some (bmk (Lib.decDigits n)) := by
  refine strconv_Itoa.in _ ?_
  unfold strconv_Itoa.g
  rw [if_pos (by omega)]
  unfold Lib.itoa
  rw [if_neg (by omega), Int.toNat_natCast]
  rfl

/-! ### lines -/
def hdl (f : File) : ByteArray := bmk ([61, 61, 32] ++ f.1.data.toList ++ [32] ++ Lib.decDigits f.2.1.length)
def lns (l : List File) : List ByteArray := l.flatMap fun f => hdl f :: f.2.1
theorem hd_eq (f : File) : (⟨⟨[61, 61, 32]⟩⟩ : ByteArray) ++ f.1 ++ ⟨⟨[32]⟩⟩ ++ bmk (Lib.decDigits f.2.1.length) = hdl f := text_ext (by
  unfold hdl
  rw [app_list, app_list, app_list, list_bmk, list_bmk])
end Go.Proofs.YtmjkflppajienaaDoor.R.Pu
