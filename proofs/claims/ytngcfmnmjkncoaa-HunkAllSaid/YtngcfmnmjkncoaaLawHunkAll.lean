/- HunkAll holds; no condition. -/
import Derived.Test.YtngcfmnmjkncoaaRows
import Derived.Test.YtngcfmnmjkncoaaQQ
import Derived.Test.YtngcfmnmjkncoaaPureHunkAll
import Derived.SliceStrings
import Derived.WalkKit
import Derived.ProofKit
import Derived.OpenShut
import Derived.ShutString
import Derived.ChangeOld
import Derived.Below
import Derived.SizedLaws
import Derived.Lib.SmallJoins
namespace Go.Proofs.Ytngcfmnmjkncoaa.hunkAll
open Go.ChangeShapes Go.WideShapes Go.ChangeAt Go.RowKit
open Go.ChangeMaps (open_string shut_string)
open Go.Proofs.Ytngcfmnmjkncoaa.Q
set_option linter.unusedVariables false
theorem own : ownKnob Try.prog.godebug = none := by kernel_rfl
theorem laidOut : laidOutB Try.prog = true := by kernel_rfl
set_option maxRecDepth 100000 in
theorem lifted (os : Os) (started : os.Started) (H : Type) (enc : TypeId × Value → H) :
    ReturnsInHanded {} Try.checked os 5 .any (Rows.hunkAllSpec.pre6 enc Try.prog Try.f5 Rows.hunkAllRow.domain false) (Rows.hunkAllSpec.post enc Try.prog Try.f5 false true false false) := by
  refine returnsInHanded_of_change_sized (C := Try.checked) own started (by kernel_rfl) Try.func5
    (ChangeSpec.witness6 (enc := enc) (C := Try.checked) false ⟨#[], #[.slice none 0 0, .slice none 0 0], []⟩ 8 (by kernel_rfl) (by kernel_rfl) (by kernel_rfl) (by kernel_rfl)) ?_
  intro W base args ds gs before hval0 hW hcnd hsz0 _
  have hval : ∀ (j : Nat) t v, Try.f5.params[j]? = some t → args[j]? = some v → Value.okWide Try.prog W .any base t v := hval0
  have hW' := hW
  obtain ⟨p, q, hA0, hV, rfl, hfz, hnd⟩ := hW
  have hA : DataW.TrodAll enc Try.prog W 0 (fun _ => true) true Try.f5.params.toList args.toList ds p := hA0
  rw [Try.params5] at hA hval
  obtain ⟨v0, vs0, d0, ds0, p0, q0, hargs, rfl, rfl, h0, r0⟩ := trodAll_cons hA
  obtain ⟨v1, vs1, d1, ds1, p1, q1, rfl, rfl, rfl, h1, r1⟩ := trodAll_cons r0
  obtain ⟨rfl, rfl, rfl⟩ := trodAll_nil r1
  obtain rfl : args = #[v0, v1] := by cases args; simp_all
  obtain ⟨rfl, rfl⟩ := trodVars_none hV
  have k0 := h0
  have lt0 : ∀ x ∈ p0, x.block < W.heap.size := by obtain ⟨m, hm⟩ := k0; exact DataW.trod_lt m _ _ _ hm
  have k1 := h1
  have lt1 : ∀ x ∈ p1, x.block < W.heap.size := by obtain ⟨m, hm⟩ := k1; exact DataW.trod_lt m _ _ _ hm
  obtain ⟨l0, g0, y0⟩ := Reads.pslice (Reads.sl (P := Try.prog) (t := 22) (e := 9) (n := 1) (enc := eS) Try.underlying22 (by kernel_rfl) (Reads.string (P := Try.prog) (t := 9) Try.underlying9 (by kernel_rfl)) (by decide)) Try.underlying22 (hval 0 22 v0 rfl rfl) h0
  obtain ⟨l1, g1, y1⟩ := Reads.pslice (Reads.sl (P := Try.prog) (t := 45) (e := 24) (n := 3) (enc := eS_At_Old_New) Try.underlying45 (by kernel_rfl) (Reads.st (P := Try.prog) (t := 24) (m := 3) (enc := eS_At_Old_New) Try.underlying24 (by kernel_rfl) rfl (ReadsF.cons (P := Try.prog) (k := 0) (n := 1) (m := 3) (Reads.int (P := Try.prog) (t := 3) (k := .i64) Try.underlying3 (by kernel_rfl)) rfl (by decide) (ReadsF.cons (P := Try.prog) (k := 1) (n := 1) (m := 3) (Reads.sl (P := Try.prog) (t := 22) (e := 9) (n := 1) (enc := eS) Try.underlying22 (by kernel_rfl) (Reads.string (P := Try.prog) (t := 9) Try.underlying9 (by kernel_rfl)) (by decide)) rfl (by decide) (ReadsF.cons (P := Try.prog) (k := 2) (n := 1) (m := 3) (Reads.sl (P := Try.prog) (t := 22) (e := 9) (n := 1) (enc := eS) Try.underlying22 (by kernel_rfl) (Reads.string (P := Try.prog) (t := 9) Try.underlying9 (by kernel_rfl)) (by decide)) rfl (by decide) (ReadsF.nil (P := Try.prog) (m := 3))))) (fun p => (⟨p.1, p.2.1, p.2.2.1⟩ : S_At_Old_New)) (fun _ => rfl)) (by decide)) Try.underlying45 (hval 1 45 v1 rfl rfl) h1
  clear hA0 hval0 hsz0
  obtain ⟨k, hk⟩ := Pure.hunkAll l0 l1
  refine ((quitclaimlaw11_HunkAll.ok k l0 l1 true hk).calls (w := W) (F := FA W) (fun b o h => h) (.cons g0 (.cons g1 .nil))).mono fun e W' ⟨he, bel⟩ => ?_
  subst he
  exact ⟨_, rfl, _, _, _, [], _, [], hW', trodAll_mk1 (shut_bool Try.underlying4 _), (trodAll_cons_mk (Below.trod laidOut (by kernel_rfl) (of_decide_eq_true (by kernel_rfl)) k0 bel lt0) (trodAll_cons_mk (Below.trod laidOut (by kernel_rfl) (of_decide_eq_true (by kernel_rfl)) k1 bel lt1) trodAll_mk0)), rfl, bel.frame _, fun h => by cases h⟩
theorem over : Rows.hunkAllRow.holds Try.pinned (OpenSpec.ofChange Rows.hunkAllSpec) :=
  OpenClaim.holds_of_wide 5 Try.f5 rfl rfl rfl rfl rfl rfl rfl ⟨rfl, rfl, rfl, rfl, rfl⟩ rfl rfl rfl rfl rfl (by kernel_rfl) Try.func5 (by kernel_rfl)
    (of_decide_eq_true (by kernel_rfl)) (by unfold Func.isWrapper; first | (rw [if_pos (by decide +kernel)]; kernel_rfl) | (rw [if_neg (by decide +kernel)]; exact ⟨rfl, rfl⟩))
    (fun os started H enc _ => lifted os started H enc)
theorem proved : Rows.HunkAllSaid := over
#print axioms proved
end Go.Proofs.Ytngcfmnmjkncoaa.hunkAll
namespace Go.Proofs.Ytngcfmnmjkncoaa
/-- The row, under a short name, for the claim. -/
theorem hunkAll_holds : Rows.HunkAllSaid := hunkAll.proved
end Go.Proofs.Ytngcfmnmjkncoaa
