/- TreeAll's card holds; no condition. -/
import Derived.Test.YtngcfmnmjkncoaaDoorRows
import Derived.Test.YtngcfmnmjkncoaaDoorCards
import Derived.Test.YtngcfmnmjkncoaaDoorTie
import Derived.Test.YtngcfmnmjkncoaaDoorQQ
import Derived.Test.YtngcfmnmjkncoaaDoorPureTreeAll
import Derived.SliceStrings
import Derived.WalkKit
import Derived.ProofKit
import Derived.OpenShut
import Derived.ShutString
import Derived.ChangeOld
import Derived.Below
import Derived.SizedLaws
import Derived.Lay
import Derived.LaidMore
import Derived.SevenTiedAt
import Derived.Handed
namespace Go.Proofs.YtngcfmnmjkncoaaDoor.treeAll
open Go.ChangeShapes Go.WideShapes Go.ChangeAt Go.RowKit
open Go.ChangeMaps (open_string shut_string)
open Go.Proofs.YtngcfmnmjkncoaaDoor.Q
set_option linter.unusedVariables false
theorem own : ownKnob Tryd.prog.godebug = none := by kernel_rfl
theorem laidOut : laidOutB Tryd.prog = true := by kernel_rfl
set_option maxRecDepth 100000 in
theorem lifted (os : Os) (started : os.Started) (H : Type) (enc : TypeId × Value → H) :
    ReturnsInHanded {} Tryd.checked os 7 .any (fun w args => (Rows.treeAllSpec.pre enc Tryd.prog Tryd.f7 [] false w args ∧ laidMetH Tryd.prog Rows.treeAllRow.laid w) ∧ sizedMet enc Tryd.prog Tryd.f7 (OpenSpec.ofChange Rows.treeAllSpec) false w args)
      (Rows.treeAllSpec.post enc Tryd.prog Tryd.f7 false true false false) := by
  refine returnsInHanded_of_change_and (C := Tryd.checked) (X := fun w _ => laidMetH Tryd.prog Rows.treeAllRow.laid w) (fun _ _ _ hh h => h.of_heap hh) own started (by kernel_rfl) Tryd.func7
    (ChangeSpec.witness_at (enc := enc) (C := Tryd.checked) (os := os) (X := fun w _ => laidMetH Tryd.prog Rows.treeAllRow.laid w) false (World.laidAll Tryd.prog os Rows.treeAllRow.laid) #[.slice none 0 0] 8 (World.laidAll_os _ _ _) (by kernel_rfl) (by kernel_rfl) (by kernel_rfl) (by kernel_rfl) (by kernel_rfl)
      (by rw [MakeChecks.laidMetH_plain _ _ _ (by kernel_rfl)]; exact laidMet_laidAll _ (by kernel_rfl) (by kernel_rfl))) ?_
  intro W base args ds gs before hval0 hW _ _ hL _
  have hval : ∀ (j : Nat) t v, Tryd.f7.params[j]? = some t → args[j]? = some v → Value.okWide Tryd.prog W .any base t v := hval0
  have hW' := hW
  obtain ⟨p, q, hA0, hV, rfl, hfz, hnd⟩ := hW
  have hA : DataW.TrodAll enc Tryd.prog W 0 (fun _ => true) true Tryd.f7.params.toList args.toList ds p := hA0
  rw [Tryd.params7] at hA hval
  obtain ⟨v0, vs0, d0, ds0, p0, q0, hargs, rfl, rfl, h0, r0⟩ := trodAll_cons hA
  obtain ⟨rfl, rfl, rfl⟩ := trodAll_nil r0
  obtain rfl : args = #[v0] := by cases args; simp_all
  obtain ⟨rfl, rfl⟩ := trodVars_none hV
  have k0 := h0
  have lt0 : ∀ x ∈ p0, x.block < W.heap.size := by obtain ⟨m, hm⟩ := k0; exact DataW.trod_lt m _ _ _ hm
  obtain ⟨l0, g0, y0⟩ := Reads.pslice (Reads.sl (P := Tryd.prog) (t := 42) (e := 57) (n := 39) (enc := eS_Op) Tryd.underlying42 (by kernel_rfl) (Reads.st (P := Tryd.prog) (t := 57) (m := 39) (enc := eS_Op) Tryd.underlying57 (by kernel_rfl) rfl (ReadsF.cons (P := Tryd.prog) (k := 0) (n := 1) (m := 39) (Reads.int (P := Tryd.prog) (t := 3) (k := .i64) Tryd.underlying3 (by kernel_rfl)) rfl (by decide) (ReadsF.cons (P := Tryd.prog) (k := 1) (n := 1) (m := 39) (Reads.string (P := Tryd.prog) (t := 9) Tryd.underlying9 (by kernel_rfl)) rfl (by decide) (ReadsF.cons (P := Tryd.prog) (k := 2) (n := 1) (m := 39) (Reads.string (P := Tryd.prog) (t := 9) Tryd.underlying9 (by kernel_rfl)) rfl (by decide) (ReadsF.cons (P := Tryd.prog) (k := 3) (n := 1) (m := 39) (Reads.int (P := Tryd.prog) (t := 3) (k := .i64) Tryd.underlying3 (by kernel_rfl)) rfl (by decide) (ReadsF.cons (P := Tryd.prog) (k := 4) (n := 1) (m := 39) (Reads.sl (P := Tryd.prog) (t := 22) (e := 9) (n := 1) (enc := eS) Tryd.underlying22 (by kernel_rfl) (Reads.string (P := Tryd.prog) (t := 9) Tryd.underlying9 (by kernel_rfl)) (by decide)) rfl (by decide) (ReadsF.cons (P := Tryd.prog) (k := 5) (n := 1) (m := 39) (Reads.sl (P := Tryd.prog) (t := 22) (e := 9) (n := 1) (enc := eS) Tryd.underlying22 (by kernel_rfl) (Reads.string (P := Tryd.prog) (t := 9) Tryd.underlying9 (by kernel_rfl)) (by decide)) rfl (by decide) (ReadsF.cons (P := Tryd.prog) (k := 6) (n := 32) (m := 39) (Reads.arr (P := Tryd.prog) (t := 55) (e := 5) (k := .u8) (m := 32) Tryd.underlying55 (by kernel_rfl) Tryd.underlying5 (by kernel_rfl)) rfl (by decide) (ReadsF.cons (P := Tryd.prog) (k := 38) (n := 1) (m := 39) (Reads.int (P := Tryd.prog) (t := 3) (k := .i64) Tryd.underlying3 (by kernel_rfl)) rfl (by decide) (ReadsF.nil (P := Tryd.prog) (m := 39)))))))))) (fun p => (⟨p.1, p.2.1, p.2.2.1, p.2.2.2.1, p.2.2.2.2.1, p.2.2.2.2.2.1, p.2.2.2.2.2.2.1, p.2.2.2.2.2.2.2.1⟩ : S_Op)) (fun _ => rfl)) (by decide)) Tryd.underlying42 (hval 0 42 v0 rfl rfl) h0
  clear hA0 hval0
  obtain ⟨k, hk⟩ := Pure.treeAll l0 (by have := y0.1; unfold maxLen at this; omega)
  refine ((quitclaimlaw14_TreeAll.ok k l0 true hk).calls (w := W) (F := FA W) (fun b o h => h) (.cons g0 .nil)).mono fun e W' ⟨he, bel⟩ => ?_
  subst he
  exact ⟨_, rfl, _, _, _, [], _, [], hW', trodAll_mk1 (shut_bool Tryd.underlying4 _), (trodAll_cons_mk (Below.trod laidOut (by kernel_rfl) (of_decide_eq_true (by kernel_rfl)) k0 bel lt0) trodAll_mk0), rfl, bel.frame _, fun h => by cases h⟩
theorem over : Rows.treeAllRow.holds Tryd.pinned (OpenSpec.ofChange Rows.treeAllSpec) :=
  OpenClaim.holds_of_wide 7 Tryd.f7 rfl rfl rfl rfl rfl rfl rfl ⟨rfl, rfl, rfl, rfl, rfl⟩ rfl rfl rfl rfl rfl (by kernel_rfl) Tryd.func7 (by kernel_rfl)
    (of_decide_eq_true (by kernel_rfl)) (by unfold Func.isWrapper; first | (rw [if_pos (by decide +kernel)]; kernel_rfl) | (rw [if_neg (by decide +kernel)]; exact ⟨rfl, rfl⟩))
    (fun os started H enc _ => lifted os started H enc)
theorem proved : Rows.TreeAllCardSaid :=
  Claim7.holds_tied_plain_at .later [] [.data, .pinned] true (true, "dd66d5a5f3a64c2d4a931af10c052fa99c215564bfab26ee158c47a86e04b647") false
    over (fun _ h => by cases h) (by kernel_rfl) (fun _ h => by cases h) treeAll_row_tie rfl ⟨rfl, rfl⟩ (by kernel_rfl) rfl
    (fun f fn hf hfn => by
      obtain rfl : f = 7 := Option.some.inj ((show Tryd.prog.funcNamed "quitclaim/quitclaimlaw14.TreeAll" = some 7 by kernel_rfl).symm.trans hf) |>.symm
      obtain rfl : fn = Tryd.f7 := (Option.some.inj (Tryd.func7.symm.trans hfn)).symm
      exact ⟨by kernel_rfl, fun j t ht => by
        rw [Tryd.params7] at ht
        rcases j with _ | j
        · obtain rfl : (42 : TypeId) = t := by simpa using ht
          exact (show Tryd.prog.wantsStandIn 42 = false by kernel_rfl)
        · simp at ht⟩)
    (by kernel_rfl)
#print axioms proved
end Go.Proofs.YtngcfmnmjkncoaaDoor.treeAll
namespace Go.Proofs.YtngcfmnmjkncoaaDoor
/-- The card, under a short name, for the claim. -/
theorem treeAll_holds : Rows.TreeAllCardSaid := treeAll.proved
end Go.Proofs.YtngcfmnmjkncoaaDoor
