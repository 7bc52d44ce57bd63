/- What the walk answers for what its callees answer, and for what follows, it answers for all that answer at least so much; no condition. -/
import Derived.Test.YtmjkflppajienaaDoorRY
namespace Go.Proofs.YtmjkflppajienaaDoor.R
open Go Go.RowKit
set_option linter.unusedVariables false
set_option linter.unusedSimpArgs false
/-- What is answered here is answered there, from some number on. -/
def Cv {β : Type} (a0 : Option β) (a : Nat → Option β) : Prop := ∀ r, a0 = some r → ∃ N, ∀ k, N ≤ k → a k = some r
section
variable {β γ : Type}
theorem Cv.none {a : Nat → Option β} : Cv none a := fun r h => by cases h
theorem Cv.const (x : Option β) : Cv x (fun _ => x) := fun r h => ⟨0, fun k _ => h⟩
theorem Cv.ite {c : Prop} [Decidable c] {a0 b0 : Option β} {a b : Nat → Option β} (ha : Cv a0 a) (hb : Cv b0 b) : Cv (if c then a0 else b0) (fun k => if c then a k else b k) := by
  by_cases h : c
  · simpa only [if_pos h] using ha
  · simpa only [if_neg h] using hb
theorem Cv.bif {c : Bool} {a0 b0 : Option β} {a b : Nat → Option β} (ha : Cv a0 a) (hb : Cv b0 b) : Cv (bif c then a0 else b0) (fun k => bif c then a k else b k) := by
  cases c
  · exact hb
  · exact ha
theorem Cv.bind {x : Option γ} {f0 : γ → Option β} {f : Nat → γ → Option β} (h : ∀ y, Cv (f0 y) (fun k => f k y)) : Cv (x.bind f0) (fun k => x.bind (f k)) := by
  cases x with
  | none => exact .none
  | some y => exact h y
theorem Cv.bind2 {x0 : Option γ} {x : Nat → Option γ} {f0 : γ → Option β} {f : Nat → γ → Option β} (hx : Cv x0 x) (h : ∀ y, Cv (f0 y) (fun k => f k y)) : Cv (x0.bind f0) (fun k => (x k).bind (f k)) := fun r hr => by
  obtain ⟨y, hy, hr⟩ := bd hr
  obtain ⟨N, hN⟩ := hx y hy
  obtain ⟨M, hM⟩ := h y r hr
  exact ⟨N + M, fun k hk => by show (x k).bind (f k) = some r; rw [hN k (by omega)]; exact hM k (by omega)⟩
theorem Cv.mono {x y : Option β} (h : Cv x fun _ => y) {r : β} (hx : x = some r) : y = some r := by
  obtain ⟨N, hN⟩ := h r hx
  exact hN N (Nat.le_refl _)
theorem Cv.le {x y : Option β} (h : ∀ r, x = some r → y = some r) : Cv x fun _ => y := fun r hr => ⟨0, fun _ _ => h r hr⟩
theorem Cv.gd [Inhabited β] {t : Bool} {x0 : Option β} {x : Nat → Option β} (h : Cv x0 x) : Cv (gd t x0) (fun k => gd t (x k)) := by
  unfold R.gd
  exact Cv.ite h (Cv.const _)
theorem gds_cv [Inhabited γ] {E : Env} {A : Tg} : ∀ {B : Tg} {x0 : Option γ} {x : Nat → Option γ}, Cv x0 x → Cv (gds E A B x0) (fun k => gds E A B (x k))
  | [], x0, x, h => h
  | (u, b) :: B, x0, x, h => by
    unfold gds
    split
    · refine gds_cv ?_
      cases b
      · exact h.gd
      · exact h.gd
    · exact .none
theorem nq_cv {l : List γ} {f0 : Bool → Option β} {f : Nat → Bool → Option β} (h : ∀ b, Cv (f0 b) (fun k => f k b)) : Cv (nq l f0) (fun k => nq l (f k)) := fun r hr => by
  cases l with
  | nil =>
    simp only [nq] at hr
    split at hr
    · rename_i he
      obtain ⟨N, hN⟩ := h true r hr
      obtain ⟨M, hM⟩ := h false r (he ▸ hr)
      refine ⟨N + M, fun k hk => ?_⟩
      have h1 : f k true = some r := hN k (by omega)
      have h2 : f k false = some r := hM k (by omega)
      simp only [nq]
      rw [if_pos (h1.trans h2.symm)]
      exact h1
    · cases hr
  | cons x l => exact h false r hr
theorem obo_cv {x : Option γ} {f0 : γ → Option β} {f : Nat → γ → Option β} (h : ∀ y, Cv (f0 y) (fun k => f k y)) : Cv (obo x f0) (fun k => obo x (f k)) := by
  cases x with
  | none => exact .none
  | some y => exact h y
end
section
variable {P : Program} {T : Tab} {β : Type}
theorem pIndex_cv {t : Nat} {a : Operand} {c : Operand} {E : Env} {A : Tg} {K0 : SV → Option β} {K : Nat → SV → Option β} (hK : ∀ s, Cv (K0 s) (fun k => K k s)) : Cv (pIndex T t a c E A K0) (fun k => pIndex T t a c E A (K k)) := by
  unfold pIndex
  repeat' first | exact Cv.none | exact hK _ | apply Cv.bif | (refine Cv.bind fun _ => ?_) | apply Cv.ite | split
theorem pIndexAddr_cv {t : Nat} {a : Operand} {c : Operand} {E : Env} {A : Tg} {K0 : SV → Option β} {K : Nat → SV → Option β} (hK : ∀ s, Cv (K0 s) (fun k => K k s)) : Cv (pIndexAddr T t a c E A K0) (fun k => pIndexAddr T t a c E A (K k)) := by
  unfold pIndexAddr
  repeat' first | exact Cv.none | exact hK _ | apply Cv.bif | (refine Cv.bind fun _ => ?_) | apply Cv.ite | split
theorem pSlice_cv {t : Nat} {a : Operand} {lo : Option Operand} {hi : Option Operand} {E : Env} {A : Tg} {K0 : SV → Option β} {K : Nat → SV → Option β} (hK : ∀ s, Cv (K0 s) (fun k => K k s)) : Cv (pSlice T t a lo hi E A K0) (fun k => pSlice T t a lo hi E A (K k)) := by
  unfold pSlice
  repeat' first | exact Cv.none | exact hK _ | apply Cv.bif | (refine Cv.bind fun _ => ?_) | apply Cv.ite | split
theorem pBin_cv {op : BinOp} {a : Operand} {c : Operand} {E : Env} {A : Tg} {K0 : SV → Option β} {K : Nat → SV → Option β} (hK : ∀ s, Cv (K0 s) (fun k => K k s)) : Cv (pBin op a c E A K0) (fun k => pBin op a c E A (K k)) := by
  unfold pBin
  repeat' first | exact Cv.none | exact hK _ | apply Cv.bif | (refine Cv.bind fun _ => ?_) | apply Cv.ite | split
theorem pEqAr_cv {op : BinOp} {t : Nat} {x : Operand} {y : Operand} {E : Env} {A : Tg} {K0 : SV → Option β} {K : Nat → SV → Option β} (hK : ∀ s, Cv (K0 s) (fun k => K k s)) : Cv (pEqAr P T op t x y E A K0) (fun k => pEqAr P T op t x y E A (K k)) := by
  unfold pEqAr
  repeat' first | exact Cv.none | exact hK _ | apply Cv.bif | (refine Cv.bind fun _ => ?_) | apply Cv.ite | split
theorem pEqC_cv {op : BinOp} {x : Operand} {y : Operand} {E : Env} {A : Tg} {K0 : SV → Option β} {K : Nat → SV → Option β} (hK : ∀ s, Cv (K0 s) (fun k => K k s)) : Cv (pEqC op x y E A K0) (fun k => pEqC op x y E A (K k)) := by
  unfold pEqC
  repeat' first | exact Cv.none | exact hK _ | apply Cv.bif | (refine Cv.bind fun _ => ?_) | apply Cv.ite | split
theorem pEqE_cv {op : BinOp} {t : Nat} {x : Operand} {y : Operand} {E : Env} {A : Tg} {K0 : SV → Option β} {K : Nat → SV → Option β} (hK : ∀ s, Cv (K0 s) (fun k => K k s)) : Cv (pEqE P op t x y E A K0) (fun k => pEqE P op t x y E A (K k)) := by
  unfold pEqE
  repeat' first | exact Cv.none | exact hK _ | apply Cv.bif | (refine Cv.bind fun _ => ?_) | apply Cv.ite | split
theorem pSlice3_cv {t : Nat} {x : Operand} {y : Operand} {z : Operand} {E : Env} {A : Tg} {K0 : SV → Option β} {K : Nat → SV → Option β} (hK : ∀ s, Cv (K0 s) (fun k => K k s)) : Cv (pSlice3 T t x y z E A K0) (fun k => pSlice3 T t x y z E A (K k)) := by
  unfold pSlice3
  repeat' first | exact Cv.none | exact hK _ | apply Cv.bif | (refine Cv.bind fun _ => ?_) | apply Cv.ite | split
theorem arrK_cv {off sz b : Nat} {iv : Int} {K0 : SV → Option β} {K : Nat → SV → Option β} (hK : ∀ s, Cv (K0 s) (fun k => K k s)) : ∀ {n i : Nat}, Cv (arrK off sz b iv K0 n i) (fun k => arrK off sz b iv (K k) n i)
  | 0, _ => Cv.none
  | n + 1, i => by
    unfold arrK
    repeat' first | exact Cv.none | exact hK _ | exact arrK_cv hK | apply Cv.ite | apply Cv.bif | split
theorem pArr_cv {t : Nat} {x : Operand} {y : Operand} {E : Env} {A : Tg} {K0 : SV → Option β} {K : Nat → SV → Option β} (hK : ∀ s, Cv (K0 s) (fun k => K k s)) : Cv (pArr T t x y E A K0) (fun k => pArr T t x y E A (K k)) := by
  unfold pArr
  repeat' first | exact Cv.none | exact hK _ | exact arrK_cv hK | apply Cv.bif | (refine Cv.bind fun _ => ?_) | apply Cv.ite | split
theorem pLit_cv {t : Nat} {len : Nat} {parts : List (Nat × Operand)} {E : Env} {A : Tg} {K0 : SV → Option β} {K : Nat → SV → Option β} (hK : ∀ s, Cv (K0 s) (fun k => K k s)) : Cv (pLit T t len parts E A K0) (fun k => pLit T t len parts E A (K k)) := by
  unfold pLit
  repeat' first | exact Cv.none | exact hK _ | apply Cv.bif | (refine Cv.bind fun _ => ?_) | apply Cv.ite | split
theorem pNil_cv {a : Operand} {E : Env} {A : Tg} {K0 : SV → Option β} {K : Nat → SV → Option β} (hK : ∀ s, Cv (K0 s) (fun k => K k s)) : Cv (pNil a E A K0) (fun k => pNil a E A (K k)) := by
  unfold pNil
  repeat' first | exact Cv.none | exact hK _ | apply Cv.bif | (refine Cv.bind fun _ => ?_) | apply Cv.ite | split
theorem pSliceN_cv {t : Nat} {a : Operand} {lo : Option Operand} {hi : Option Operand} {E : Env} {A : Tg} {K0 : SV → Option β} {K : Nat → SV → Option β} (hK : ∀ s, Cv (K0 s) (fun k => K k s)) : Cv (pSliceN T t a lo hi E A K0) (fun k => pSliceN T t a lo hi E A (K k)) := by
  unfold pSliceN
  repeat' first | exact Cv.none | exact hK _ | exact pSlice_cv hK | apply Cv.bif | (refine Cv.bind fun _ => ?_) | apply Cv.ite | split
theorem pLen0_cv {c : Call} {E : Env} {A : Tg} {K0 : SV → Option β} {K : Nat → SV → Option β} (hK : ∀ s, Cv (K0 s) (fun k => K k s)) : Cv (pLen0 T c E A K0) (fun k => pLen0 T c E A (K k)) := by
  unfold pLen0
  repeat' first | exact Cv.none | exact hK _ | apply Cv.bif | (refine Cv.bind fun _ => ?_) | apply Cv.ite | split
theorem eZero_cv {nt : Nat} {c : Call} {d : Option Nat} {E : Env} {h : List Ob} {K0 : Env → List Ob → Option β} {K : Nat → Env → List Ob → Option β} (hK : ∀ E h, Cv (K0 E h) (fun k => K k E h)) : Cv (eZero T nt c d E h K0) (fun k => eZero T nt c d E h (K k)) := by
  unfold eZero
  repeat' first | exact Cv.none | exact hK _ _ | apply Cv.bif | (refine Cv.bind fun _ => ?_) | apply Cv.ite | split
theorem eMv_cv {nt : Nat} {t : Nat} {x : Operand} {d : Option Nat} {E : Env} {h : List Ob} {K0 : Env → List Ob → Option β} {K : Nat → Env → List Ob → Option β} (hK : ∀ E h, Cv (K0 E h) (fun k => K k E h)) : Cv (eMv T nt t x d E h K0) (fun k => eMv T nt t x d E h (K k)) := by
  unfold eMv
  repeat' first | exact Cv.none | exact hK _ _ | apply Cv.bif | (refine Cv.bind fun _ => ?_) | apply Cv.ite | split
theorem pIndexN_cv {t : Nat} {a : Operand} {c : Operand} {E : Env} {A : Tg} {K0 : SV → Option β} {K : Nat → SV → Option β} (hK : ∀ s, Cv (K0 s) (fun k => K k s)) : Cv (pIndexN T t a c E A K0) (fun k => pIndexN T t a c E A (K k)) := by
  unfold pIndexN
  repeat' first | exact Cv.none | exact hK _ | exact pIndex_cv hK | apply Cv.bif | (refine Cv.bind fun _ => ?_) | apply Cv.ite | split
theorem pConv_cv {src : Nat} {dst : Nat} {x : Operand} {E : Env} {A : Tg} {K0 : SV → Option β} {K : Nat → SV → Option β} (hK : ∀ s, Cv (K0 s) (fun k => K k s)) : Cv (pConv T src dst x E A K0) (fun k => pConv T src dst x E A (K k)) := by
  unfold pConv
  repeat' first | exact Cv.none | exact hK _ | apply Cv.bif | (refine Cv.bind fun _ => ?_) | apply Cv.ite | split
theorem eAppS_cv {nt : Nat} {c : Call} {d : Option Nat} {E : Env} {h : List Ob} {K0 : Env → List Ob → Option β} {K : Nat → Env → List Ob → Option β} (hK : ∀ E h, Cv (K0 E h) (fun k => K k E h)) : Cv (eAppS T nt c d E h K0) (fun k => eAppS T nt c d E h (K k)) := by
  unfold eAppS
  repeat' first | exact Cv.none | exact hK _ _ | apply Cv.bif | (refine Cv.bind fun _ => ?_) | apply Cv.ite | split
theorem eNew_cv {nt : Nat} {t : Nat} {cs : List SV} {d : Nat} {E : Env} {h : List Ob} {K0 : Env → List Ob → Option β} {K : Nat → Env → List Ob → Option β} (hK : ∀ E h, Cv (K0 E h) (fun k => K k E h)) : Cv (eNew T nt t cs d E h K0) (fun k => eNew T nt t cs d E h (K k)) := by
  unfold eNew
  repeat' first | exact Cv.none | exact hK _ _ | apply Cv.bif | (refine Cv.bind fun _ => ?_) | apply Cv.ite | split
theorem eAllocO_cv {nt : Nat} {t : Nat} {d : Option Nat} {E : Env} {h : List Ob} {K0 : Env → List Ob → Option β} {K : Nat → Env → List Ob → Option β} (hK : ∀ E h, Cv (K0 E h) (fun k => K k E h)) : Cv (eAllocO T nt t d E h K0) (fun k => eAllocO T nt t d E h (K k)) := by
  unfold eAllocO
  repeat' first | exact Cv.none | exact hK _ _ | exact eNew_cv hK | apply Cv.bif | (refine Cv.bind fun _ => ?_) | apply Cv.ite | split
theorem eBoxO_cv {nt : Nat} {t : Nat} {x : Operand} {d : Option Nat} {E : Env} {h : List Ob} {K0 : Env → List Ob → Option β} {K : Nat → Env → List Ob → Option β} (hK : ∀ E h, Cv (K0 E h) (fun k => K k E h)) : Cv (eBoxO T nt t x d E h K0) (fun k => eBoxO T nt t x d E h (K k)) := by
  unfold eBoxO
  repeat' first | exact Cv.none | exact hK _ _ | exact eNew_cv hK | apply Cv.bif | (refine Cv.bind fun _ => ?_) | apply Cv.ite | split
theorem eAppB_cv {nt : Nat} {c : Call} {d : Option Nat} {E : Env} {h : List Ob} {K0 : Env → List Ob → Option β} {K : Nat → Env → List Ob → Option β} (hK : ∀ E h, Cv (K0 E h) (fun k => K k E h)) : Cv (eAppB T nt c d E h K0) (fun k => eAppB T nt c d E h (K k)) := by
  unfold eAppB
  repeat' first | exact Cv.none | exact hK _ _ | apply Cv.bif | (refine Cv.bind fun _ => ?_) | apply Cv.ite | split
theorem eMake_cv {nt : Nat} {t : Nat} {x : Operand} {y : Operand} {d : Option Nat} {E : Env} {h : List Ob} {K0 : Env → List Ob → Option β} {K : Nat → Env → List Ob → Option β} (hK : ∀ E h, Cv (K0 E h) (fun k => K k E h)) : Cv (eMake T nt t x y d E h K0) (fun k => eMake T nt t x y d E h (K k)) := by
  unfold eMake
  repeat' first | exact Cv.none | exact hK _ _ | apply Cv.bif | (refine Cv.bind fun _ => ?_) | apply Cv.ite | split
theorem pRowAt_cv {t : Nat} {x : Operand} {y : Operand} {E : Env} {A : Tg} {K0 : SV → Option β} {K : Nat → SV → Option β} (hK : ∀ s, Cv (K0 s) (fun k => K k s)) : Cv (pRowAt T t x y E A K0) (fun k => pRowAt T t x y E A (K k)) := by
  unfold pRowAt
  repeat' first | exact Cv.none | exact hK _ | apply Cv.bif | (refine Cv.bind fun _ => ?_) | apply Cv.ite | split
theorem pRowLd_cv {t : Nat} {x : Operand} {E : Env} {A : Tg} {h : List Ob} {K0 : SV → Option β} {K : Nat → SV → Option β} (hK : ∀ s, Cv (K0 s) (fun k => K k s)) : Cv (pRowLd T t x E A h K0) (fun k => pRowLd T t x E A h (K k)) := by
  unfold pRowLd
  repeat' first | exact Cv.none | exact hK _ | apply Cv.bif | (refine Cv.bind fun _ => ?_) | apply Cv.ite | split
theorem eStoreR_cv {t : Nat} {x : Operand} {y : Operand} {d : Option Nat} {E : Env} {h : List Ob} {K0 : Env → List Ob → Option β} {K : Nat → Env → List Ob → Option β} (hK : ∀ E h, Cv (K0 E h) (fun k => K k E h)) : Cv (eStoreR T t x y d E h K0) (fun k => eStoreR T t x y d E h (K k)) := by
  unfold eStoreR
  repeat' first | exact Cv.none | exact hK _ _ | apply Cv.bif | (refine Cv.bind fun _ => ?_) | apply Cv.ite | split
theorem eMake0_cv {nt : Nat} {t : Nat} {y : Operand} {d : Option Nat} {E : Env} {h : List Ob} {K0 : Env → List Ob → Option β} {K : Nat → Env → List Ob → Option β} (hK : ∀ E h, Cv (K0 E h) (fun k => K k E h)) : Cv (eMake0 T nt t y d E h K0) (fun k => eMake0 T nt t y d E h (K k)) := by
  unfold eMake0
  repeat' first | exact Cv.none | exact hK _ _ | apply Cv.bif | (refine Cv.bind fun _ => ?_) | apply Cv.ite | split
theorem pArrV_cv {t : Nat} {x : Operand} {y : Operand} {E : Env} {A : Tg} {K0 : SV → Option β} {K : Nat → SV → Option β} (hK : ∀ s, Cv (K0 s) (fun k => K k s)) : Cv (pArrV T t x y E A K0) (fun k => pArrV T t x y E A (K k)) := by
  unfold pArrV
  repeat' first | exact Cv.none | exact hK _ | apply Cv.bif | (refine Cv.bind fun _ => ?_) | apply Cv.ite | split
theorem pCellLd_cv {t : Nat} {x : Operand} {E : Env} {A : Tg} {h : List Ob} {K0 : SV → Option β} {K : Nat → SV → Option β} (hK : ∀ s, Cv (K0 s) (fun k => K k s)) : Cv (pCellLd T t x E A h K0) (fun k => pCellLd T t x E A h (K k)) := by
  unfold pCellLd
  repeat' first | exact Cv.none | exact hK _ | apply Cv.bif | (refine Cv.bind fun _ => ?_) | apply Cv.ite | split
theorem eStoreC_cv {t : Nat} {x : Operand} {y : Operand} {d : Option Nat} {E : Env} {h : List Ob} {K0 : Env → List Ob → Option β} {K : Nat → Env → List Ob → Option β} (hK : ∀ E h, Cv (K0 E h) (fun k => K k E h)) : Cv (eStoreC T t x y d E h K0) (fun k => eStoreC T t x y d E h (K k)) := by
  unfold eStoreC
  repeat' first | exact Cv.none | exact hK _ _ | apply Cv.bif | (refine Cv.bind fun _ => ?_) | apply Cv.ite | split
theorem pArrSl_cv {t : Nat} {x : Operand} {E : Env} {A : Tg} {K0 : SV → Option β} {K : Nat → SV → Option β} (hK : ∀ s, Cv (K0 s) (fun k => K k s)) : Cv (pArrSl T t x E A K0) (fun k => pArrSl T t x E A (K k)) := by
  unfold pArrSl
  repeat' first | exact Cv.none | exact hK _ | apply Cv.bif | (refine Cv.bind fun _ => ?_) | apply Cv.ite | split
theorem pToArr_cv {t : Nat} {x : Operand} {E : Env} {A : Tg} {K0 : SV → Option β} {K : Nat → SV → Option β} (hK : ∀ s, Cv (K0 s) (fun k => K k s)) : Cv (pToArr T t x E A K0) (fun k => pToArr T t x E A (K k)) := by
  unfold pToArr
  repeat' first | exact Cv.none | exact hK _ | apply Cv.bif | (refine Cv.bind fun _ => ?_) | apply Cv.ite | split
theorem eCopy_cv {nt : Nat} {c : Call} {d : Option Nat} {E : Env} {h : List Ob} {K0 : Env → List Ob → Option β} {K : Nat → Env → List Ob → Option β} (hK : ∀ E h, Cv (K0 E h) (fun k => K k E h)) : Cv (eCopy T nt c d E h K0) (fun k => eCopy T nt c d E h (K k)) := by
  unfold eCopy
  repeat' first | exact Cv.none | exact hK _ _ | apply Cv.bif | (refine Cv.bind fun _ => ?_) | apply Cv.ite | split
theorem eMakeMap_cv {nt : Nat} {t : Nat} {d : Option Nat} {E : Env} {h : List Ob} {K0 : Env → List Ob → Option β} {K : Nat → Env → List Ob → Option β} (hK : ∀ E h, Cv (K0 E h) (fun k => K k E h)) : Cv (eMakeMap P T nt t d E h K0) (fun k => eMakeMap P T nt t d E h (K k)) := by
  unfold eMakeMap
  repeat' first | exact Cv.none | exact hK _ _ | apply Cv.bif | (refine Cv.bind fun _ => ?_) | apply Cv.ite | split
theorem pLookup_cv {t : Nat} {x : Operand} {y : Operand} {ok : Bool} {E : Env} {A : Tg} {h : List Ob} {K0 : SV → Option β} {K : Nat → SV → Option β} (hK : ∀ s, Cv (K0 s) (fun k => K k s)) : Cv (pLookup P T t x y ok E A h K0) (fun k => pLookup P T t x y ok E A h (K k)) := by
  unfold pLookup
  repeat' first | exact Cv.none | exact hK _ | apply Cv.bif | (refine Cv.bind fun _ => ?_) | apply Cv.ite | split
theorem pMapLen_cv {c : Call} {E : Env} {A : Tg} {h : List Ob} {K0 : SV → Option β} {K : Nat → SV → Option β} (hK : ∀ s, Cv (K0 s) (fun k => K k s)) : Cv (pMapLen P c E A h K0) (fun k => pMapLen P c E A h (K k)) := by
  unfold pMapLen
  repeat' first | exact Cv.none | exact hK _ | apply Cv.bif | (refine Cv.bind fun _ => ?_) | apply Cv.ite | split
theorem eMapPut_cv {t : Nat} {x : Operand} {y : Operand} {z : Operand} {d : Option Nat} {E : Env} {h : List Ob} {K0 : Env → List Ob → Option β} {K : Nat → Env → List Ob → Option β} (hK : ∀ E h, Cv (K0 E h) (fun k => K k E h)) : Cv (eMapPut P T t x y z d E h K0) (fun k => eMapPut P T t x y z d E h (K k)) := by
  unfold eMapPut
  repeat' first | exact Cv.none | exact hK _ _ | apply Cv.bif | (refine Cv.bind fun _ => ?_) | apply Cv.ite | split
theorem eNil_cv {nt : Nat} {t : Nat} {d : Nat} {E : Env} {h : List Ob} {K0 : Env → List Ob → Option β} {K : Nat → Env → List Ob → Option β} (hK : ∀ E h, Cv (K0 E h) (fun k => K k E h)) : Cv (eNil T nt t d E h K0) (fun k => eNil T nt t d E h (K k)) := by
  unfold eNil
  repeat' first | exact Cv.none | exact hK _ _ | apply Cv.bif | (refine Cv.bind fun _ => ?_) | apply Cv.ite | split
theorem eBox_cv {nt : Nat} {t : Nat} {x : Operand} {d : Option Nat} {E : Env} {h : List Ob} {K0 : Env → List Ob → Option β} {K : Nat → Env → List Ob → Option β} (hK : ∀ E h, Cv (K0 E h) (fun k => K k E h)) : Cv (eBox T nt t x d E h K0) (fun k => eBox T nt t x d E h (K k)) := by
  unfold eBox
  repeat' first | exact Cv.none | exact hK _ _ | apply Cv.bif | (refine Cv.bind fun _ => ?_) | apply Cv.ite | split
theorem eAlloc_cv {nt : Nat} {t : Nat} {d : Option Nat} {E : Env} {h : List Ob} {K0 : Env → List Ob → Option β} {K : Nat → Env → List Ob → Option β} (hK : ∀ E h, Cv (K0 E h) (fun k => K k E h)) : Cv (eAlloc T nt t d E h K0) (fun k => eAlloc T nt t d E h (K k)) := by
  unfold eAlloc
  repeat' first | exact Cv.none | exact hK _ _ | apply Cv.bif | (refine Cv.bind fun _ => ?_) | apply Cv.ite | split
theorem eStore_cv {t : Nat} {x : Operand} {y : Operand} {d : Option Nat} {E : Env} {h : List Ob} {K0 : Env → List Ob → Option β} {K : Nat → Env → List Ob → Option β} (hK : ∀ E h, Cv (K0 E h) (fun k => K k E h)) : Cv (eStore T t x y d E h K0) (fun k => eStore T t x y d E h (K k)) := by
  unfold eStore
  repeat' first | exact Cv.none | exact hK _ _ | apply Cv.bif | (refine Cv.bind fun _ => ?_) | apply Cv.ite | split
theorem eAppend_cv {nt : Nat} {c : Call} {d : Option Nat} {E : Env} {h : List Ob} {K0 : Env → List Ob → Option β} {K : Nat → Env → List Ob → Option β} (hK : ∀ E h, Cv (K0 E h) (fun k => K k E h)) : Cv (eAppend T nt c d E h K0) (fun k => eAppend T nt c d E h (K k)) := by
  unfold eAppend
  repeat' first | exact Cv.none | exact hK _ _ | apply Cv.bif | (refine Cv.bind fun _ => ?_) | apply Cv.ite | split
theorem eLit_cv {nt : Nat} {t : Nat} {len : Nat} {parts : List (Nat × Operand)} {d : Option Nat} {E : Env} {h : List Ob} {K0 : Env → List Ob → Option β} {K : Nat → Env → List Ob → Option β} (hK : ∀ E h, Cv (K0 E h) (fun k => K k E h)) : Cv (eLit T nt t len parts d E h K0) (fun k => eLit T nt t len parts d E h (K k)) := by
  unfold eLit
  repeat' first | exact Cv.none | exact hK _ _ | apply Cv.bif | (refine Cv.bind fun _ => ?_) | apply Cv.ite | split
theorem eExact_cv {nt : Nat} {t : Nat} {x : Operand} {y : Operand} {z : Operand} {d : Option Nat} {E : Env} {h : List Ob} {K0 : Env → List Ob → Option β} {K : Nat → Env → List Ob → Option β} (hK : ∀ E h, Cv (K0 E h) (fun k => K k E h)) : Cv (eExact T nt t x y z d E h K0) (fun k => eExact T nt t x y z d E h (K k)) := by
  unfold eExact
  repeat' first | exact Cv.none | exact hK _ _ | apply Cv.bif | (refine Cv.bind fun _ => ?_) | apply Cv.ite | split
/-! ### Calls, regions, code -/
theorem pCall_cv {rec0 : Rec} {rec : Nat → Rec} (hrec : ∀ I x, Cv (rec0 I x) (fun k => rec k I x)) {inst : InstF} {c : Call} {E : Env} {A : Tg} {K0 : SV → Option β} {K : Nat → SV → Option β} (hK : ∀ s, Cv (K0 s) (fun k => K k s)) : Cv (pCall P T rec0 inst c E A K0) (fun k => pCall P T (rec k) inst c E A (K k)) := by
  unfold pCall
  repeat' first | exact Cv.none | apply Cv.bif | (refine Cv.bind2 (gds_cv (hrec _ _)) fun _ => hK _) | split
theorem eNilEq_cv {nt t : Nat} {x : Operand} {d : Option Nat} {E : Env} {K0 : Env → Option β} {K : Nat → Env → Option β} (hK : ∀ E, Cv (K0 E) (fun k => K k E)) : Cv (eNilEq T nt t x d E K0) (fun k => eNilEq T nt t x d E (K k)) := by
  unfold eNilEq
  repeat' first | exact Cv.none | apply Cv.bif | (refine nq_cv fun _ => hK _) | split
theorem eCall_cv {nt : Nat} {rec0 : Rec} {rec : Nat → Rec} (hrec : ∀ I x, Cv (rec0 I x) (fun k => rec k I x)) {inst : InstF} {c : Call} {d : Option Nat} {E : Env} {h : List Ob} {K0 : Env → List Ob → Option β} {K : Nat → Env → List Ob → Option β} (hK : ∀ E h, Cv (K0 E h) (fun k => K k E h)) : Cv (eCall P T nt rec0 inst c d E h K0) (fun k => eCall P T nt (rec k) inst c d E h (K k)) := by
  unfold eCall
  repeat' first | exact Cv.none | apply Cv.bif | (refine Cv.bind2 (hrec _ _) fun _ => ?_) | exact hK _ _ | split
theorem denY_cv {rec0 : Rec} {rec : Nat → Rec} (hrec : ∀ I x, Cv (rec0 I x) (fun k => rec k I x)) {inst : InstF} {o : Oper} {E : Env} {A : Tg} {h : List Ob} {K0 : SV → Option β} {K : Nat → SV → Option β} (hK : ∀ s, Cv (K0 s) (fun k => K k s)) : Cv (denY P T rec0 inst o E A h K0) (fun k => denY P T (rec k) inst o E A h (K k)) := by
  unfold denY
  repeat' first | exact Cv.none | exact hK _ | exact pIndex_cv hK | exact pIndexAddr_cv hK | exact pSlice_cv hK | exact pBin_cv hK | exact pEqAr_cv hK | exact pEqC_cv hK | exact pEqE_cv hK | exact pSlice3_cv hK | exact pArr_cv hK | exact pLit_cv hK | exact pNil_cv hK | exact pSliceN_cv hK | exact pLen0_cv hK | exact pIndexN_cv hK | exact pConv_cv hK | exact pRowAt_cv hK | exact pRowLd_cv hK | exact pArrV_cv hK | exact pCellLd_cv hK | exact pArrSl_cv hK | exact pToArr_cv hK | exact pLookup_cv hK | exact pMapLen_cv hK | exact pCall_cv hrec hK | apply Cv.bif | split
theorem denE_cv {nt : Nat} {rec0 : Rec} {rec : Nat → Rec} (hrec : ∀ I x, Cv (rec0 I x) (fun k => rec k I x)) {inst : InstF} {al : List Nat} {o : Oper} {E : Env} {h : List Ob} {K0 : Env → List Ob → Option β} {K : Nat → Env → List Ob → Option β} (hK : ∀ E h, Cv (K0 E h) (fun k => K k E h)) : Cv (denE P T nt rec0 inst al o E h K0) (fun k => denE P T nt (rec k) inst al o E h (K k)) := by
  unfold denE
  repeat' first | exact Cv.none | exact eZero_cv hK | exact eMv_cv hK | exact eAppS_cv hK | exact eNew_cv hK | exact eAllocO_cv hK | exact eBoxO_cv hK | exact eAppB_cv hK | exact eMake_cv hK | exact eStoreR_cv hK | exact eMake0_cv hK | exact eStoreC_cv hK | exact eCopy_cv hK | exact eMakeMap_cv hK | exact eMapPut_cv hK | exact eNil_cv hK | exact eBox_cv hK | exact eAlloc_cv hK | exact eStore_cv hK | exact eAppend_cv hK | exact eLit_cv hK | exact eExact_cv hK | exact eNilEq_cv (fun E => hK E _) | exact eCall_cv hrec hK | apply Cv.bif | split
theorem denG_cv {rec0 : Rec} {rec : Nat → Rec} (hrec : ∀ I x, Cv (rec0 I x) (fun k => rec k I x)) {nt : Nat} {inst : InstF} {ops : Array Oper} {o : Oper} {E : Env} {h : List Ob} {K0 : Env → Option β} {K : Nat → Env → Option β} (hK : ∀ E, Cv (K0 E) (fun k => K k E)) : Cv (denG P T nt rec0 inst ops o E h K0) (fun k => denG P T nt (rec k) inst ops o E h (K k)) := by
  unfold denG
  repeat' first | exact Cv.none | (refine denY_cv hrec fun _ => ?_) | apply Cv.bif | exact hK _ | split
theorem frzT_cv {t : Nat} {E : Env} {h : List Ob} {K0 : Env → List Ob → Option β} {K : Nat → Env → List Ob → Option β} (hK : ∀ E h, Cv (K0 E h) (fun k => K k E h)) : Cv (frzT t E h K0) (fun k => frzT t E h (K k)) := by
  unfold frzT
  repeat' first | exact hK _ _ | apply Cv.bif | (refine Cv.bind fun _ => ?_) | split
theorem frzTP_cv {t : Nat} {E : Env} {h : List Ob} {K0 : Env → List Ob → Option β} {K : Nat → Env → List Ob → Option β} (hK : ∀ E h, Cv (K0 E h) (fun k => K k E h)) : Cv (frzTP t E h K0) (fun k => frzTP t E h (K k)) := by
  unfold frzTP
  repeat' first | exact hK _ _ | exact frzT_cv hK | apply Cv.bif | split
theorem frzOps_cv : ∀ {l : List Operand} {E : Env} {h : List Ob} {K0 : Env → List Ob → Option β} {K : Nat → Env → List Ob → Option β} (hK : ∀ E h, Cv (K0 E h) (fun k => K k E h)), Cv (frzOps l E h K0) (fun k => frzOps l E h (K k))
  | [], E, h, K0, K, hK => hK _ _
  | x :: l, E, h, K0, K, hK => by
    cases x with
    | tmp t => exact frzTP_cv fun E h => frzOps_cv (l := l) hK
    | _ => exact frzOps_cv (l := l) hK
theorem frzRes_cv : ∀ {l : List ResultVar} {E : Env} {h : List Ob} {K0 : Env → List Ob → Option β} {K : Nat → Env → List Ob → Option β} (hK : ∀ E h, Cv (K0 E h) (fun k => K k E h)), Cv (frzRes l E h K0) (fun k => frzRes l E h (K k))
  | [], E, h, K0, K, hK => hK _ _
  | x :: l, E, h, K0, K, hK => by
    cases x with
    | tmp t => exact frzT_cv fun E h => frzRes_cv (l := l) hK
    | _ => exact frzRes_cv (l := l) hK
theorem fitE_cv : ∀ {l : ESh} {E : Env} {h : List Ob} {K0 : Env → List Ob → Option β} {K : Nat → Env → List Ob → Option β} (hK : ∀ E h, Cv (K0 E h) (fun k => K k E h)), Cv (fitE l E h K0) (fun k => fitE l E h (K k))
  | [], E, h, K0, K, hK => hK _ _
  | (t, s) :: l, E, h, K0, K, hK => by
    cases s with
    | p τ => exact frzT_cv fun E h => fitE_cv (l := l) hK
    | _ => exact fitE_cv (l := l) hK
theorem frzPre_cv {ap : List Nat × List Nat × List Nat} {o : Oper} {E : Env} {h : List Ob} {K0 : Env → List Ob → Option β} {K : Nat → Env → List Ob → Option β} (hK : ∀ E h, Cv (K0 E h) (fun k => K k E h)) : Cv (frzPre ap o E h K0) (fun k => frzPre ap o E h (K k)) := by
  unfold frzPre
  exact Cv.bif (frzOps_cv hK) (hK _ _)
theorem frzReg_cv {ap : List Nat × List Nat × List Nat} : ∀ {l : List Oper} {E : Env} {h : List Ob} {K0 : Env → List Ob → Option β} {K : Nat → Env → List Ob → Option β} (hK : ∀ E h, Cv (K0 E h) (fun k => K k E h)), Cv (frzReg ap l E h K0) (fun k => frzReg ap l E h (K k))
  | [], E, h, K0, K, hK => hK _ _
  | o :: l, E, h, K0, K, hK => frzPre_cv fun E h => frzReg_cv (l := l) hK
theorem denOps_cv {rec0 : Rec} {rec : Nat → Rec} (hrec : ∀ I x, Cv (rec0 I x) (fun k => rec k I x)) {nt : Nat} {inst : InstF} {ap : List Nat × List Nat × List Nat} {ops : Array Oper} : ∀ {l : List Oper} {E : Env} {h : List Ob} {K0 : Env → List Ob → Option β} {K : Nat → Env → List Ob → Option β} (hK : ∀ E h, Cv (K0 E h) (fun k => K k E h)), Cv (denOps P T nt rec0 inst ap ops l E h K0) (fun k => denOps P T nt (rec k) inst ap ops l E h (K k))
  | [], E, h, K0, K, hK => hK _ _
  | o :: l, E, h, K0, K, hK => by
    simp only [denOps]
    refine frzPre_cv fun E h => ?_
    repeat' first | exact Cv.none | exact denOps_cv hrec (l := l) hK | (refine denE_cv hrec fun _ _ => ?_) | (refine denG_cv hrec fun _ => ?_) | (refine eCall_cv hrec fun _ _ => ?_) | apply Cv.bif | apply Cv.ite | split
theorem denHd_cv {rec0 : Rec} {rec : Nat → Rec} (hrec : ∀ I x, Cv (rec0 I x) (fun k => rec k I x)) {nt : Nat} {inst : InstF} {ops : Array Oper} : ∀ {n : Nat} {l : List Oper} {E : Env} {h : List Ob} {K0 : List Oper → Env → Option β} {K : Nat → List Oper → Env → Option β} (hK : ∀ l E, Cv (K0 l E) (fun k => K k l E)), Cv (denHd P T nt rec0 inst ops n l E h K0) (fun k => denHd P T nt (rec k) inst ops n l E h (K k))
  | 0, l, E, h, K0, K, hK => hK _ _
  | n + 1, [], E, h, K0, K, hK => Cv.none
  | n + 1, o :: l, E, h, K0, K, hK => denG_cv hrec fun E => denHd_cv hrec hK
theorem denHg_cv {rec0 : Rec} {rec : Nat → Rec} (hrec : ∀ I x, Cv (rec0 I x) (fun k => rec k I x)) {nt : Nat} {inst : InstF} : ∀ {n : Nat} {l : List Oper} {E : Env} {h : List Ob} {rs : List (Bool × Option Nat)} {K0 : List Oper → Env → List Ob → List (Bool × Option Nat) → Option β} {K : Nat → List Oper → Env → List Ob → List (Bool × Option Nat) → Option β} (hK : ∀ l E h rs, Cv (K0 l E h rs) (fun k => K k l E h rs)), Cv (denHg P T nt rec0 inst n l E h rs K0) (fun k => denHg P T nt (rec k) inst n l E h rs (K k))
  | 0, l, E, h, rs, K0, K, hK => hK _ _ _ _
  | n + 1, [], E, h, rs, K0, K, hK => Cv.none
  | n + 1, o :: l, E, h, rs, K0, K, hK => by
    simp only [denHg]
    repeat' first | exact Cv.none | exact denHg_cv hrec hK | (refine denY_cv hrec fun _ => ?_) | apply Cv.bif | split
theorem denR_cv {rec0 : Rec} {rec : Nat → Rec} (hrec : ∀ I x, Cv (rec0 I x) (fun k => rec k I x)) {nt : Nat} {inst : InstF} {ap : List Nat × List Nat × List Nat} {ops : Array Oper} {draw : Bool} {E : Env} {h : List Ob} {K0 : Env → List Ob → Option β} {K : Nat → Env → List Ob → Option β} (hK : ∀ E h, Cv (K0 E h) (fun k => K k E h)) : Cv (denR P T nt rec0 inst ap ops draw E h K0) (fun k => denR P T nt (rec k) inst ap ops draw E h (K k)) := by
  unfold denR
  repeat' first | exact Cv.none | exact denOps_cv hrec hK | (refine denHd_cv hrec fun _ _ => ?_) | (refine denHg_cv hrec fun _ _ _ _ => ?_) | (refine frzReg_cv fun _ _ => ?_) | apply Cv.bif | split
theorem fit_cv {σ : StS} {E : Env} {h : List Ob} {f0 : σ.ty.den → Option β} {f : Nat → σ.ty.den → Option β} (hf : ∀ v, Cv (f0 v) (fun k => f k v)) : Cv (fit σ E h f0) (fun k => fit σ E h (f k)) := fitE_cv fun E h => obo_cv hf
theorem iter_cv {α : Type} {F0 : (α → Option β) → α → Option β} {F : Nat → (α → Option β) → α → Option β} (hF : ∀ r0 (r : Nat → α → Option β), (∀ v, Cv (r0 v) (fun k => r k v)) → ∀ v, Cv (F0 r0 v) (fun k => F k (r k) v)) : ∀ n v, Cv (iter F0 n v) (fun k => iter (F k) n v)
  | 0, v => Cv.none
  | n + 1, v => hF (iter F0 n) (fun k => iter (F k) n) (iter_cv hF n) v
theorem iter_le {α : Type} {F : (α → Option β) → α → Option β} (hF : ∀ r r' : α → Option β, (∀ v x, r v = some x → r' v = some x) → ∀ v x, F r v = some x → F r' v = some x) : ∀ m n, m ≤ n → ∀ v x, iter F m v = some x → iter F n v = some x
  | 0, n, h, v, x, hx => by cases hx
  | m + 1, 0, h, v, x, hx => by omega
  | m + 1, n + 1, h, v, x, hx => hF _ _ (iter_le hF m n (by omega)) v x hx
theorem wh_eq {α : Type} {F : (α → Option β) → α → Option β} (hF : ∀ r r' : α → Option β, (∀ v x, r v = some x → r' v = some x) → ∀ v x, F r v = some x → F r' v = some x) {n : Nat} {v : α} {x : β} (h : iter F n v = some x) : wh F v = some x :=
  lst_of (a := fun n => iter F n v) fun k hk => iter_le hF n k hk v x h
theorem wh_cv {α : Type} {F0 : (α → Option β) → α → Option β} {F : Nat → (α → Option β) → α → Option β} (hF : ∀ r0 (r : Nat → α → Option β), (∀ v, Cv (r0 v) (fun k => r k v)) → ∀ v, Cv (F0 r0 v) (fun k => F k (r k) v))
    (hM : ∀ k r r', (∀ v x, r v = some x → r' v = some x) → ∀ v x, F k r v = some x → F k r' v = some x) (v : α) : Cv (wh F0 v) (fun k => wh (F k) v) := fun x hx => by
  obtain ⟨n, hn⟩ := wh_some hx
  obtain ⟨N, hN⟩ := iter_cv hF n v x hn
  exact ⟨N, fun k hk => wh_eq (hM k) (hN k hk)⟩
theorem rng_cv {α σ : Type} {F0 : (σ → Option β) → α → Nat → σ → Option β} {F : Nat → (σ → Option β) → α → Nat → σ → Option β} {z0 : σ → Option β} {z : Nat → σ → Option β} (hz : ∀ v, Cv (z0 v) (fun k => z k v))
    (hF : ∀ r0 (r : Nat → σ → Option β), (∀ v, Cv (r0 v) (fun k => r k v)) → ∀ x n v, Cv (F0 r0 x n v) (fun k => F k (r k) x n v)) : ∀ (xs : List α) v, Cv (rng F0 z0 xs v) (fun k => rng (F k) (z k) xs v)
  | [], v => hz v
  | x :: xs, v => hF _ (fun k => rng (F k) (z k) xs) (rng_cv hz hF xs) x xs.length v
theorem stay_cv {σ : HSh} {h : List Ob} {K0 : σ.ty.den → Option β} {K : Nat → σ.ty.den → Option β} (hK : ∀ v, Cv (K0 v) (fun k => K k v)) : Cv (stay σ h K0) (fun k => stay σ h (K k)) := by
  unfold stay
  repeat' first | exact Cv.none | exact hK _ | apply Cv.bif | split
theorem onN_cv {K0 : Kt β} {K : Nat → Kt β} (hK : ∀ x E h, Cv (K0 x E h) (fun k => K k x E h)) {N0 : Env → List Ob → Option β} {N : Nat → Env → List Ob → Option β} (hN : ∀ E h, Cv (N0 E h) (fun k => N k E h)) : ∀ x E h, Cv (onN K0 N0 x E h) (fun k => onN (K k) (N k) x E h) := fun x E h => by
  cases x with
  | normal => exact hN _ _
  | _ => exact hK _ _ _
theorem onB_cv {id : Nat} {K0 : Kt β} {K : Nat → Kt β} (hK : ∀ x E h, Cv (K0 x E h) (fun k => K k x E h)) : ∀ x E h, Cv (onB id K0 x E h) (fun k => onB id (K k) x E h) := fun x E h => by
  cases x with
  | exit i => exact Cv.bif (hK _ _ _) (hK _ _ _)
  | _ => exact hK _ _ _
theorem noJ_cv {K0 : Kt β} {K : Nat → Kt β} (hK : ∀ x E h, Cv (K0 x E h) (fun k => K k x E h)) : ∀ x E h, Cv (noJ K0 x E h) (fun k => noJ (K k) x E h) := fun x E h => by
  cases x with
  | goto l => exact Cv.none
  | _ => exact hK _ _ _
theorem bkJ_cv {sc : List (Nat × List Nat)} {l : Nat} {K0 : Kt β} {K : Nat → Kt β} (hK : ∀ x E h, Cv (K0 x E h) (fun k => K k x E h)) {b0 : Env → List Ob → Option β} {b : Nat → Env → List Ob → Option β} (hb : ∀ E h, Cv (b0 E h) (fun k => b k E h))
    {f0 : Nat → Env → List Ob → Option β} {f : Nat → Nat → Env → List Ob → Option β} (hf : ∀ l E h, Cv (f0 l E h) (fun k => f k l E h)) : ∀ x E h, Cv (bkJ K0 sc l b0 f0 x E h) (fun k => bkJ (K k) sc l (b k) (f k) x E h) := fun x E h => by
  cases x with
  | goto l' =>
    simp only [bkJ]
    refine Cv.bif (hb _ _) ?_
    split
    · exact Cv.none
    · exact hf _ _ _
  | _ => exact hK _ _ _
theorem toJ_cv {sc : List (Nat × List Nat)} {K0 : Kt β} {K : Nat → Kt β} (hK : ∀ x E h, Cv (K0 x E h) (fun k => K k x E h)) {b0 : Nat → List Nat → Env → List Ob → Option β} {b : Nat → Nat → List Nat → Env → List Ob → Option β} (hb : ∀ l ts E h, Cv (b0 l ts E h) (fun k => b k l ts E h))
    {f0 : Nat → Env → List Ob → Option β} {f : Nat → Nat → Env → List Ob → Option β} (hf : ∀ l E h, Cv (f0 l E h) (fun k => f k l E h)) : ∀ x E h, Cv (toJ K0 sc b0 f0 x E h) (fun k => toJ (K k) sc (b k) (f k) x E h) := fun x E h => by
  cases x with
  | goto l' =>
    simp only [toJ]
    split
    · exact hb _ _ _ _
    · exact hf _ _ _
  | _ => exact hK _ _ _
mutual
theorem den_cv {nt : Nat} {inst : InstF} {it : ItF} {H : Hint} : ∀ (c : Code) {rec0 : Rec} {rec : Nat → Rec} (hrec : ∀ I x, Cv (rec0 I x) (fun k => rec k I x)) {E : Env} {h : List Ob} {K0 : Kt β} {K : Nat → Kt β} (hK : ∀ x E h, Cv (K0 x E h) (fun k => K k x E h)), Cv (den P T nt rec0 inst it H c E h K0) (fun k => den P T nt (rec k) inst it H c E h (K k))
  | .skip, _, _, hrec, E, h, K0, K, hK => hK _ _ _
  | .label _, _, _, hrec, E, h, K0, K, hK => hK _ _ _
  | .ret, _, _, hrec, E, h, K0, K, hK => hK _ _ _
  | .exit i, _, _, hrec, E, h, K0, K, hK => hK _ _ _
  | .goto l, _, _, hrec, E, h, K0, K, hK => hK _ _ _
  | .refuse _, _, _, hrec, E, h, K0, K, hK => by simp only [den]; exact Cv.none
  | .region id ops draw, _, _, hrec, E, h, K0, K, hK => by simp only [den]; exact denR_cv hrec fun _ _ => hK _ _ _
  | .seq x y, _, _, hrec, E, h, K0, K, hK => by
    simp only [den]
    split
    · exact den_cv x hrec (onN_cv hK fun _ _ => den_cv y hrec hK)
    · exact obo_cv fun σ => den_cv x hrec (onN_cv hK fun _ _ => fit_cv fun v => den_cv y hrec hK)
  | .cond c x y, _, _, hrec, E, h, K0, K, hK => by
    simp only [den]
    split
    · exact Cv.ite (den_cv x hrec hK) (den_cv y hrec hK)
    · exact Cv.none
  | .block id c, _, _, hrec, E, h, K0, K, hK => by simp only [den]; exact den_cv c hrec (onB_cv hK)
  | .loop c, rec0, rec, hrec, E, h, K0, K, hK => by
    simp only [den]
    refine obo_cv fun l => obo_cv fun σ => fit_cv fun v => wh_cv (F0 := fun rec' v => den P T nt rec0 inst it H c (σ.env v) (σ.heap v) (onN K0 fun E h => fit σ E h rec')) (F := fun k rec' v => den P T nt (rec k) inst it H c (σ.env v) (σ.heap v) (onN (K k) fun E h => fit σ E h rec'))
      (fun r0 r hr v => den_cv c hrec (onN_cv hK fun _ _ => fit_cv hr)) (fun k r r' hr v x hx => ?_) v
    exact Cv.mono (y := den P T nt (rec k) inst it H c (σ.env v) (σ.heap v) (onN (K k) fun E h => fit σ E h r')) (den_cv c (rec0 := rec k) (rec := fun _ => rec k) (fun _ _ => Cv.const _) (K0 := onN (K k) fun E h => fit σ E h r) (K := fun _ => onN (K k) fun E h => fit σ E h r')
      (onN_cv (K := fun _ => K k) (fun _ _ _ => Cv.const _) (N := fun _ E h => fit σ E h r') fun _ _ => fit_cv (f := fun _ => r') fun v => Cv.le (hr v))) hx
  | .rangeFunc g ps assign body, _, _, hrec, E, h, K0, K, hK => by
    simp only [den]
    repeat' first | exact Cv.none | apply Cv.bif | (refine Cv.bind fun _ => ?_) | (refine obo_cv fun _ => ?_) | split
    refine rng_cv (fun v => hK _ _ _) (fun r0 r hr x n v => den_cv assign hrec fun e E2 h2 => ?_) _ _
    cases e with
    | normal =>
      refine den_cv body hrec fun e E3 h3 => ?_
      cases e with
      | normal => exact stay_cv hr
      | ret => exact stay_cv fun v => hK _ _ _
      | _ => exact Cv.none
    | _ => exact Cv.none
  | .scope c, rec0, rec, hrec, E, h, K0, K, hK => by
    simp only [den]
    refine den_cv c hrec (toJ_cv hK (fun l ts E h => obo_cv fun σ => obo_cv fun v => ?_) fun l E h => frm_cv c l hrec (noJ_cv hK))
    refine wh_cv (F0 := fun rec' v => frm P T nt rec0 inst it H c l (σ.env v) (σ.heap v) (bkJ K0 H.sc l (fun E h => obo (σ.get E h) rec') (fun l E h => frm P T nt rec0 inst it H c l E h (noJ K0))))
      (F := fun k rec' v => frm P T nt (rec k) inst it H c l (σ.env v) (σ.heap v) (bkJ (K k) H.sc l (fun E h => obo (σ.get E h) rec') (fun l E h => frm P T nt (rec k) inst it H c l E h (noJ (K k)))))
      (fun r0 r hr v => frm_cv c l hrec (bkJ_cv hK (fun _ _ => obo_cv hr) fun _ _ _ => frm_cv c _ hrec (noJ_cv hK))) (fun k r r' hr v x hx => ?_) v
    exact Cv.mono (y := frm P T nt (rec k) inst it H c l (σ.env v) (σ.heap v) (bkJ (K k) H.sc l (fun E h => obo (σ.get E h) r') (fun l E h => frm P T nt (rec k) inst it H c l E h (noJ (K k)))))
      (frm_cv c l (rec0 := rec k) (rec := fun _ => rec k) (fun _ _ => Cv.const _) (K0 := bkJ (K k) H.sc l (fun E h => obo (σ.get E h) r) (fun l E h => frm P T nt (rec k) inst it H c l E h (noJ (K k)))) (K := fun _ => bkJ (K k) H.sc l (fun E h => obo (σ.get E h) r') (fun l E h => frm P T nt (rec k) inst it H c l E h (noJ (K k))))
        (bkJ_cv (K := fun _ => K k) (fun _ _ _ => Cv.const _) (b := fun _ E h => obo (σ.get E h) r') (fun _ _ => obo_cv (f := fun _ => r') fun v => Cv.le (hr v)) (f := fun _ l E h => frm P T nt (rec k) inst it H c l E h (noJ (K k))) fun _ _ _ => Cv.const _)) hx
theorem frm_cv {nt : Nat} {inst : InstF} {it : ItF} {H : Hint} : ∀ (c : Code) (l : Nat) {rec0 : Rec} {rec : Nat → Rec} (hrec : ∀ I x, Cv (rec0 I x) (fun k => rec k I x)) {E : Env} {h : List Ob} {K0 : Kt β} {K : Nat → Kt β} (hK : ∀ x E h, Cv (K0 x E h) (fun k => K k x E h)), Cv (frm P T nt rec0 inst it H c l E h K0) (fun k => frm P T nt (rec k) inst it H c l E h (K k))
  | .seq x y, l, _, _, hrec, E, h, K0, K, hK => by
    simp only [frm]
    split
    · exact frm_cv x l hrec (onN_cv hK fun _ _ => den_cv y hrec hK)
    · exact frm_cv y l hrec hK
  | .label l', l, _, _, hrec, E, h, K0, K, hK => by simp only [frm]; exact Cv.bif (hK _ _ _) Cv.none
  | .skip, l, _, _, hrec, E, h, K0, K, hK => by simp only [frm]; exact Cv.none
  | .region _ _ _, l, _, _, hrec, E, h, K0, K, hK => by simp only [frm]; exact Cv.none
  | .cond _ _ _, l, _, _, hrec, E, h, K0, K, hK => by simp only [frm]; exact Cv.none
  | .block _ _, l, _, _, hrec, E, h, K0, K, hK => by simp only [frm]; exact Cv.none
  | .loop _, l, _, _, hrec, E, h, K0, K, hK => by simp only [frm]; exact Cv.none
  | .rangeFunc _ _ _ _, l, _, _, hrec, E, h, K0, K, hK => by simp only [frm]; exact Cv.none
  | .exit _, l, _, _, hrec, E, h, K0, K, hK => by simp only [frm]; exact Cv.none
  | .scope _, l, _, _, hrec, E, h, K0, K, hK => by simp only [frm]; exact Cv.none
  | .goto _, l, _, _, hrec, E, h, K0, K, hK => by simp only [frm]; exact Cv.none
  | .ret, l, _, _, hrec, E, h, K0, K, hK => by simp only [frm]; exact Cv.none
  | .refuse _, l, _, _, hrec, E, h, K0, K, hK => by simp only [frm]; exact Cv.none
end
theorem fin_cv {rs : List ResultVar} {I : Inst} : ∀ x E h, Cv (fin T rs I x E h) (fun _ => fin T rs I x E h) := fun _ _ _ => Cv.const _
theorem denF_cv {rec0 : Rec} {rec : Nat → Rec} (hrec : ∀ I x, Cv (rec0 I x) (fun k => rec k I x)) {inst : InstF} {it : ItF} {H : Hint} {I : Inst} {x : I.tin.den} : Cv (denF P T rec0 inst it H I x) (fun k => denF P T (rec k) inst it H I x) := by
  unfold denF
  repeat' first | exact Cv.none | apply Cv.bif | exact den_cv _ hrec (K0 := fin T _ I) (K := fun _ => fin T _ I) fin_cv | split
end
/-! ### Functions, to whatever depth -/
section
variable {P : Program} {T : Tab} {G : Giv} {inst : InstF} {it : ItF} {H : Nat → Hint}
/-- One step of a function, by what its callees answer. -/
noncomputable def stp1 (P : Program) (T : Tab) (G : Giv) (inst : InstF) (it : ItF) (H : Nat → Hint) (rec : Rec) (I : Inst) (x : I.tin.den) : Option I.tout.den := match G I with
  | some g => g x
  | none => denF P T rec inst it (H I.f) I x
theorem stp1_cv {rec0 : Rec} {rec : Nat → Rec} (hrec : ∀ I x, Cv (rec0 I x) (fun k => rec k I x)) {I : Inst} {x : I.tin.den} : Cv (stp1 P T G inst it H rec0 I x) (fun k => stp1 P T G inst it H (rec k) I x) := by
  unfold stp1
  split
  · exact Cv.const _
  · exact denF_cv hrec
theorem run_succ {k : Nat} {I : Inst} {x : I.tin.den} : run P T G inst it H (k + 1) I x = stp1 P T G inst it H (run P T G inst it H k) I x := by
  simp only [run, stp1]
  rfl
theorem run_le : ∀ m n, m ≤ n → ∀ I x r, run P T G inst it H m I x = some r → run P T G inst it H n I x = some r
  | 0, n, h, I, x, r, hr => by cases hr
  | m + 1, 0, h, I, x, r, hr => by omega
  | m + 1, n + 1, h, I, x, r, hr => by
    rw [run_succ] at hr ⊢
    exact Cv.mono (stp1_cv (rec := fun _ => run P T G inst it H n) fun I x => Cv.le (run_le m n (by omega) I x)) hr
/-- What a function answers. -/
noncomputable def lim (P : Program) (T : Tab) (G : Giv) (inst : InstF) (it : ItF) (H : Nat → Hint) : Rec := fun I x => lst fun k => run P T G inst it H k I x
theorem lim_cv (I : Inst) (x : I.tin.den) : Cv (lim P T G inst it H I x) (fun k => run P T G inst it H k I x) := fun r hr => by
  obtain ⟨N, hN⟩ := lst_some hr
  exact ⟨N, fun k hk => run_le N k hk I x r hN⟩
theorem lim_of {I : Inst} {x : I.tin.den} {r : I.tout.den} (h : stp1 P T G inst it H (lim P T G inst it H) I x = some r) : lim P T G inst it H I x = some r := by
  obtain ⟨N, hN⟩ := stp1_cv (rec := fun k => run P T G inst it H k) lim_cv r h
  have h1 : stp1 P T G inst it H (run P T G inst it H N) I x = some r := hN N (Nat.le_refl _)
  rw [← run_succ] at h1
  exact lst_of (a := fun k => run P T G inst it H k I x) fun k hk => run_le (N + 1) k hk I x r h1
theorem lim_ok (hT : TOk P T) (hm : P.follows .mixedOrders = true) (hG : GOk P G) (hit : ItOk P it) (I : Inst) (x : I.tin.den) (r : I.tout.den) (h : lim P T G inst it H I x = some r) : CF P I x r := by
  obtain ⟨k, hk⟩ := lst_some h
  exact run_ok hT hm hG hit k I x r hk
theorem lim_in {I : Inst} {x : I.tin.den} {b : Option I.tout.den} {r : I.tout.den} (e : stp1 P T G inst it H (lim P T G inst it H) I x = b) (h : b = some r) : lim P T G inst it H I x = some r := lim_of (e.trans h)
end
end Go.Proofs.YtmjkflppajienaaDoor.R
