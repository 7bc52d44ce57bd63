import Derived.Test.YtngcfmnmjkncoaaHunk
import Derived.Test.YtngcfmnmjkncoaaPHunkAppliesx6
import Derived.Test.YtngcfmnmjkncoaaPureHunkApplies
import Derived.WalkKit
import Derived.ProofKit
import Derived.OpenShut
import Derived.ShutString
import Derived.ChangeOld
import Derived.Below
import Derived.SizedLaws
import Derived.Lib.SmallJoins
namespace Go.Proofs.Ytngcfmnmjkncoaa.hunkApplies
open Go.ChangeShapes Go.WideShapes Go.ChangeAt Go.RowKit Go.Joins
open Go.Proofs.YtngcfmnmjkncoaaW.PrintWords Go.Proofs.YtngcfmnmjkncoaaW.PrintLast Go.Proofs.YtngcfmnmjkncoaaW.PrintMore
set_option linter.unusedVariables false
theorem own : ownKnob Try.prog.godebug = none := by kernel_rfl
theorem laidOut : laidOutB Try.prog = true := by kernel_rfl
set_option maxRecDepth 100000 in
theorem lifted (os : Os) (started : os.Started) (H : Type) (enc : TypeId × Value → H) :
    ReturnsInHanded {} Try.checked os 3 .any (Rows.hunkAppliesSpec.pre6 enc Try.prog Try.f3 Rows.hunkAppliesRow.domain false) (Rows.hunkAppliesSpec.post enc Try.prog Try.f3 false true false false) := by
  refine returnsInHanded_of_change_sized (C := Try.checked) own started (by kernel_rfl) Try.func3
    (ChangeSpec.witness6 (enc := enc) (C := Try.checked) false ⟨#[], #[.slice none 0 0, .agg #[.int .i64 0, .slice none 0 0, .slice none 0 0]], []⟩ 8 (by kernel_rfl) (by kernel_rfl) (by kernel_rfl) (by kernel_rfl)) ?_
  intro W base args ds gs before hval0 hW hcnd hsz0 _
  have hval : ∀ (j : Nat) t v, Try.f3.params[j]? = some t → args[j]? = some v → Value.okWide Try.prog W .any base t v := hval0
  have hW' := hW
  obtain ⟨p, q, hA0, hV, rfl, hfz, hnd⟩ := hW
  have hA : DataW.TrodAll enc Try.prog W 0 (fun _ => true) true Try.f3.params.toList args.toList ds p := hA0
  rw [Try.params3] at hA hval
  obtain ⟨v0, vs0, d0, ds0, p0, q0, hargs, rfl, rfl, h0, r0⟩ := trodAll_cons hA
  obtain ⟨v1, vs1, d1, ds1, p1, q1, rfl, rfl, rfl, h1, r1⟩ := trodAll_cons r0
  obtain ⟨rfl, rfl, rfl⟩ := trodAll_nil r1
  obtain rfl : args = #[v0, v1] := by cases args; simp_all
  obtain ⟨rfl, rfl⟩ := trodVars_none hV
  have k0 := h0
  have k1 := h1
  have lt0 : ∀ x ∈ p0, x.block < W.heap.size := by obtain ⟨m, hm⟩ := k0; exact DataW.trod_lt m _ _ _ hm
  have lt1 : ∀ x ∈ p1, x.block < W.heap.size := by obtain ⟨m, hm⟩ := k1; exact DataW.trod_lt m _ _ _ hm
  obtain ⟨a0, len0, cap0, rfl⟩ := okWide_slice Try.underlying22 (hval 0 22 v0 rfl rfl)
  obtain ⟨fuel0, hf0⟩ := h0
  obtain ⟨A0, l0, c0, e0, hc0, hr0⟩ := Hunk.row_strings (c := .slice a0 len0 cap0) (by simpa [Value.cells] using hf0)
  obtain ⟨b0, b1, b2, y0, y1, y2, m, rfl, rfl, rfl, g0, g1, g2⟩ := open_agg3 Try.underlying24 (by kernel_rfl) (by kernel_rfl) (hval 1 24 v1 rfl rfl) h1
  obtain ⟨z, ez, rfl, wz⟩ := DataW.trod_int Try.underlying3 g0
  simp at ez
  subst ez
  obtain ⟨A1, l1, c1, rfl, hc1, hr1⟩ := Hunk.row_strings g1
  obtain ⟨A2, l2, c2, rfl, hc2, hr2⟩ := Hunk.row_strings g2
  rw [e0] at k0 hW' ⊢
  clear hA0 hval0 hsz0
  obtain ⟨k, hk⟩ := Pure.hunkApplies l0 z l1 l2 hr0.2.1 hr1.2.1 hr2.2.1 (bounds_i64 wz)
  refine (PHunkApplies.quitclaimlaw11_HunkApplies.calls k _ A0 c0 l0 z _ A1 c1 l1 _ A2 c2 l2 true W (Hunk.row_shared hc0 hr0) (Hunk.row_shared hc1 hr1) (Hunk.row_shared hc2 hr2) hk ⟨rfl⟩).mono fun e W' ⟨he, bel⟩ => ?_
  subst he
  exact ⟨_, rfl, _, _, _, [], _, [], hW', trodAll_mk1 (shut_bool Try.underlying4 _), (trodAll_cons_mk (Below.trod laidOut (by kernel_rfl) (of_decide_eq_true (by kernel_rfl)) k0 bel lt0) (trodAll_cons_mk (Below.trod laidOut (by kernel_rfl) (of_decide_eq_true (by kernel_rfl)) k1 bel lt1) trodAll_mk0)), rfl, bel.frame _, fun h => by cases h⟩
theorem over : Rows.hunkAppliesRow.holds Try.pinned (OpenSpec.ofChange Rows.hunkAppliesSpec) :=
  OpenClaim.holds_of_wide 3 Try.f3 rfl rfl rfl rfl rfl rfl rfl ⟨rfl, rfl, rfl, rfl, rfl⟩ rfl rfl rfl rfl rfl (by kernel_rfl) Try.func3 (by kernel_rfl)
    (of_decide_eq_true (by kernel_rfl)) (by unfold Func.isWrapper; first | (rw [if_pos (by decide +kernel)]; kernel_rfl) | (rw [if_neg (by decide +kernel)]; exact ⟨rfl, rfl⟩))
    (fun os started H enc _ => lifted os started H enc)
theorem proved : Rows.HunkAppliesSaid := over
#print axioms proved
end Go.Proofs.Ytngcfmnmjkncoaa.hunkApplies
namespace Go.Proofs.Ytngcfmnmjkncoaa
/-- The row, under a short name, for the claim. -/
theorem hunkApplies_holds : Rows.HunkAppliesSaid := hunkApplies.proved
end Go.Proofs.Ytngcfmnmjkncoaa
