/- HunkSwaps holds for every input; no condition. -/
import Derived.Test.YtngcfmnmjkncoaaRows
import Derived.Test.YtngcfmnmjkncoaaQO
import Derived.Test.YtngcfmnmjkncoaaPureHunkSwaps
import Derived.WalkKit
import Derived.ProofKit
import Derived.OpenShut
import Derived.ShutString
import Derived.ChangeOld
import Derived.Below
import Derived.SizedLaws
import Derived.Lib.SmallJoins
namespace Go.Proofs.Ytngcfmnmjkncoaa.hunkSwaps
open Go.ChangeShapes Go.WideShapes Go.ChangeAt Go.RowKit Go.Joins Go.Proofs.Ytngcfmnmjkncoaa.Q
set_option linter.unusedVariables false
theorem own : ownKnob Try.prog.godebug = none := by kernel_rfl
theorem laidOut : laidOutB Try.prog = true := by kernel_rfl
/-- A hunk that came in. -/
theorem rd_hunk {W : World} {z : Int} {v1 v2 : Value} {l1 l2 : List ByteArray} (h1 : Rd W (FA W) v1 (.sl 1 ByteArray eS l1)) (h2 : Rd W (FA W) v2 (.sl 1 ByteArray eS l2)) (o1 : v1.oneCell' = true) (o2 : v2.oneCell' = true) :
    Rd W (FA W) (.agg #[.int .i64 z, v1, v2]) (.agg [.s (.int .i64 z), .sl 1 ByteArray eS l1, .sl 1 ByteArray eS l2]) :=
  .agg (.cons rfl (.s _) (.cons o1 h1 (.cons o2 h2 .nil)))
set_option maxRecDepth 100000 in
theorem lifted (os : Os) (started : os.Started) (H : Type) (enc : TypeId × Value → H) :
    ReturnsInHanded {} Try.checked os 4 .any (Rows.hunkSwapsSpec.pre6 enc Try.prog Try.f4 Rows.hunkSwapsRow.domain false) (Rows.hunkSwapsSpec.post enc Try.prog Try.f4 false true false false) := by
  refine returnsInHanded_of_change_sized (C := Try.checked) own started (by kernel_rfl) Try.func4
    (ChangeSpec.witness6 (enc := enc) (C := Try.checked) false ⟨#[], #[.slice none 0 0, .agg #[.int .i64 0, .slice none 0 0, .slice none 0 0], .agg #[.int .i64 0, .slice none 0 0, .slice none 0 0]], []⟩ 8 (by kernel_rfl) (by kernel_rfl) (by kernel_rfl) (by kernel_rfl)) ?_
  intro W base args ds gs before hval0 hW hcnd hsz0 _
  have hval : ∀ (j : Nat) t v, Try.f4.params[j]? = some t → args[j]? = some v → Value.okWide Try.prog W .any base t v := hval0
  have hW' := hW
  obtain ⟨p, q, hA0, hV, rfl, hfz, hnd⟩ := hW
  have hA : DataW.TrodAll enc Try.prog W 0 (fun _ => true) true Try.f4.params.toList args.toList ds p := hA0
  rw [Try.params4] at hA hval
  obtain ⟨v0, vs0, d0, ds0, p0, q0, hargs, rfl, rfl, h0, r0⟩ := trodAll_cons hA
  obtain ⟨v1, vs1, d1, ds1, p1, q1, rfl, rfl, rfl, h1, r1⟩ := trodAll_cons r0
  obtain ⟨v2, vs2, d2, ds2, p2, q2, rfl, rfl, rfl, h2, r2⟩ := trodAll_cons r1
  obtain ⟨rfl, rfl, rfl⟩ := trodAll_nil r2
  obtain rfl : args = #[v0, v1, v2] := by cases args; simp_all
  obtain ⟨rfl, rfl⟩ := trodVars_none hV
  have k0 := h0
  have k1 := h1
  have k2 := h2
  have lt0 : ∀ x ∈ p0, x.block < W.heap.size := by obtain ⟨m, hm⟩ := k0; exact DataW.trod_lt m _ _ _ hm
  have lt1 : ∀ x ∈ p1, x.block < W.heap.size := by obtain ⟨m, hm⟩ := k1; exact DataW.trod_lt m _ _ _ hm
  have lt2 : ∀ x ∈ p2, x.block < W.heap.size := by obtain ⟨m, hm⟩ := k2; exact DataW.trod_lt m _ _ _ hm
  obtain ⟨a0, len0, cap0, rfl⟩ := okWide_slice Try.underlying22 (hval 0 22 v0 rfl rfl)
  obtain ⟨fuel0, hf0⟩ := h0
  obtain ⟨l, hl, ol, _, _⟩ := rd_strings (c := .slice a0 len0 cap0) Try.underlying22 Try.underlying9 (by kernel_rfl) (by simpa [Value.cells] using hf0)
  obtain ⟨b0, b1, b2, y0, y1, y2, m, rfl, rfl, rfl, g0, g1, g2⟩ := open_agg3 Try.underlying24 (by kernel_rfl) (by kernel_rfl) (hval 1 24 v1 rfl rfl) h1
  obtain ⟨z, ez, rfl, wz⟩ := DataW.trod_int Try.underlying3 g0
  simp at ez
  subst ez
  obtain ⟨l1, hl1, ol1, _, _⟩ := rd_strings Try.underlying22 Try.underlying9 (by kernel_rfl) g1
  obtain ⟨l2, hl2, ol2, _, _⟩ := rd_strings Try.underlying22 Try.underlying9 (by kernel_rfl) g2
  obtain ⟨c0, c1, c2, x0, x1, x2, m', rfl, rfl, rfl, i0, i1, i2⟩ := open_agg3 Try.underlying24 (by kernel_rfl) (by kernel_rfl) (hval 2 24 v2 rfl rfl) h2
  obtain ⟨z', ez', rfl, wz'⟩ := DataW.trod_int Try.underlying3 i0
  simp at ez'
  subst ez'
  obtain ⟨l3, hl3, ol3, _, _⟩ := rd_strings Try.underlying22 Try.underlying9 (by kernel_rfl) i1
  obtain ⟨l4, hl4, ol4, _, _⟩ := rd_strings Try.underlying22 Try.underlying9 (by kernel_rfl) i2
  clear hA0 hval0 hsz0
  obtain ⟨k, hk⟩ := Pure.hunkSwaps l ⟨z, l1, l2⟩ ⟨z', l3, l4⟩
  refine ((quitclaimlaw11_HunkSwaps.ok k l ⟨z, l1, l2⟩ ⟨z', l3, l4⟩ true hk).calls (w := W) (F := FA W) (fun b o h => h) (.cons (.p hl) (.cons (.p (rd_hunk hl1 hl2 ol1 ol2)) (.cons (.p (rd_hunk hl3 hl4 ol3 ol4)) .nil)))).mono fun e W' ⟨he, bel⟩ => ?_
  subst he
  exact ⟨_, rfl, _, _, _, [], _, [], hW', trodAll_mk1 (shut_bool Try.underlying4 _), (trodAll_cons_mk (Below.trod laidOut (by kernel_rfl) (of_decide_eq_true (by kernel_rfl)) k0 bel lt0) (trodAll_cons_mk (Below.trod laidOut (by kernel_rfl) (of_decide_eq_true (by kernel_rfl)) k1 bel lt1) (trodAll_cons_mk (Below.trod laidOut (by kernel_rfl) (of_decide_eq_true (by kernel_rfl)) k2 bel lt2) trodAll_mk0))), rfl, bel.frame _, fun h => by cases h⟩
theorem over : Rows.hunkSwapsRow.holds Try.pinned (OpenSpec.ofChange Rows.hunkSwapsSpec) :=
  OpenClaim.holds_of_wide 4 Try.f4 rfl rfl rfl rfl rfl rfl rfl ⟨rfl, rfl, rfl, rfl, rfl⟩ rfl rfl rfl rfl rfl (by kernel_rfl) Try.func4 (by kernel_rfl)
    (of_decide_eq_true (by kernel_rfl)) (by unfold Func.isWrapper; first | (rw [if_pos (by decide +kernel)]; kernel_rfl) | (rw [if_neg (by decide +kernel)]; exact ⟨rfl, rfl⟩))
    (fun os started H enc _ => lifted os started H enc)
theorem proved : Rows.HunkSwapsSaid := over
#print axioms proved
end Go.Proofs.Ytngcfmnmjkncoaa.hunkSwaps
namespace Go.Proofs.Ytngcfmnmjkncoaa
/-- The row, under a short name, for the claim. -/
theorem hunkSwaps_holds : Rows.HunkSwapsSaid := hunkSwaps.proved
end Go.Proofs.Ytngcfmnmjkncoaa
