/- ArchivePacks's card holds; no condition. -/
import Derived.Test.YtmjkflppajienaaGreatDoorRows
import Derived.Test.YtmjkflppajienaaGreatDoorCards
import Derived.Test.YtmjkflppajienaaGreatDoorTie
import Derived.Test.YtmjkflppajienaaGreatDoorRKv
import Derived.Test.YtmjkflppajienaaGreatDoorRRd
import Derived.Test.YtmjkflppajienaaGreatDoorPMd
import Derived.WalkKit
import Derived.ProofKit
import Derived.OpenShut
import Derived.ShutString
import Derived.ChangeOld
import Derived.Below
import Derived.SizedLaws
import Derived.Lay
import Derived.LaidMore
import Derived.SevenTiedAt
import Derived.Handed
namespace Go.Proofs.YtmjkflppajienaaGreatDoor.archivePacks
open Go Go.ChangeShapes Go.WideShapes Go.ChangeAt Go.RowKit
open Go.Proofs.YtmjkflppajienaaGreatDoor.R
set_option linter.unusedVariables false
theorem own : ownKnob Tryz.prog.godebug = none := by kernel_rfl
theorem laidOut : laidOutB Tryz.prog = true := by kernel_rfl
set_option maxRecDepth 100000 in
theorem lifted (os : Os) (started : os.Started) (H : Type) (enc : TypeId × Value → H) :
    ReturnsInHanded {} Tryz.checked os 8 .any (fun w args => (Rows.archivePacksSpec.pre enc Tryz.prog Tryz.f8 [] false w args ∧ laidMetH Tryz.prog Rows.archivePacksRow.laid w) ∧ sizedMet enc Tryz.prog Tryz.f8 (OpenSpec.ofChange Rows.archivePacksSpec) false w args)
      (Rows.archivePacksSpec.post enc Tryz.prog Tryz.f8 false true false false) := by
  refine returnsInHanded_of_change_and (C := Tryz.checked) (X := fun w _ => laidMetH Tryz.prog Rows.archivePacksRow.laid w) (fun _ _ _ hh h => h.of_heap hh) own started (by kernel_rfl) Tryz.func8
    (ChangeSpec.witness_at (enc := enc) (C := Tryz.checked) (os := os) (X := fun w _ => laidMetH Tryz.prog Rows.archivePacksRow.laid w) false (World.laidAll Tryz.prog os Rows.archivePacksRow.laid) #[.slice none 0 0] 8 (World.laidAll_os _ _ _) (by kernel_rfl) (by kernel_rfl) (by kernel_rfl) (by kernel_rfl) (by kernel_rfl)
      (by rw [MakeChecks.laidMetH_plain _ _ _ (by kernel_rfl)]; exact laidMet_laidAll _ (by kernel_rfl) (by kernel_rfl))) ?_
  intro W base args ds gs before hval0 hW _ _ hL _
  have hval : ∀ (j : Nat) t v, Tryz.f8.params[j]? = some t → args[j]? = some v → Value.okWide Tryz.prog W .any base t v := hval0
  have hW' := hW
  obtain ⟨p, q, hA0, hV, rfl, hfz, hnd⟩ := hW
  have hA : DataW.TrodAll enc Tryz.prog W 0 (fun _ => true) true Tryz.f8.params.toList args.toList ds p := hA0
  rw [Tryz.params8] at hA hval
  obtain ⟨v0, vs0, d0, ds0, p0, q0, hargs, rfl, rfl, h0, r0⟩ := trodAll_cons hA
  obtain ⟨rfl, rfl, rfl⟩ := trodAll_nil r0
  obtain rfl : args = #[v0] := by cases args; simp_all
  obtain ⟨rfl, rfl⟩ := trodVars_none hV
  have k0 := h0
  have lt0 : ∀ x ∈ p0, x.block < W.heap.size := by obtain ⟨m, hm⟩ := k0; exact DataW.trod_lt m _ _ _ hm
  obtain ⟨l0, g0, y0⟩ := param (t := 28) (τ := (.sl 39 c31)) 9 (by kernel_rfl) (hval 0 28 v0 rfl rfl) h0
  clear hA0 hval0
  have hk := Pure.archivePacks l0 y0
  have hL' := hL
  rw [MakeChecks.laidMetH_plain _ _ _ (by kernel_rfl)] at hL'
  have kn0 : (KV.tab 1 ((List.range 20).map fun i => Value.int .u64 ((10 ^ i : Nat) : Int))).holds fun b o v => FA W b o ∧ W.cell? ⟨b, o, none⟩ = v := KV.tab_of (t := 237) (e := 221) (m := 20) (zs := Go.Lib.pow10Tab) (by kernel_rfl) (by kernel_rfl) (by kernel_rfl) (by kernel_rfl) (by kernel_rfl) (by kernel_rfl) (by kernel_rfl) (laid_rd hL' (n := "internal/strconv.uint64pow10") (d := Rows.laid_internal_strconv_uint64pow10) (by simp [Rows.archivePacksRow]))
  have kn1 : (KV.err 3).holds fun b o v => FA W b o ∧ W.cell? ⟨b, o, none⟩ = v := KV.err_of (t := 95) (ms := Tryz.prog.methodsAt 95) (by kernel_rfl) (by kernel_rfl) (by kernel_rfl) (laid_rd hL' (n := "strconv.ErrRange") (d := Rows.laid_strconv_ErrRange) (by simp [Rows.archivePacksRow]))
  have kn2 : (KV.err 2).holds fun b o v => FA W b o ∧ W.cell? ⟨b, o, none⟩ = v := KV.err_of (t := 95) (ms := Tryz.prog.methodsAt 95) (by kernel_rfl) (by kernel_rfl) (by kernel_rfl) (laid_rd hL' (n := "strconv.ErrSyntax") (d := Rows.laid_strconv_ErrSyntax) (by simp [Rows.archivePacksRow]))
  have kn : Known fun b o v => FA W b o ∧ W.cell? ⟨b, o, none⟩ = v := by
    intro k hk
    simp only [kvs, List.mem_cons, List.not_mem_nil, or_false] at hk
    rcases hk with rfl | rfl | rfl
    · exact kn0
    · exact kn1
    · exact kn2
  refine ((CF.pf' (rn_ok _ _ _ hk) rfl).calls (w := W) (F := FA W) (fun b o h => h) (kn) (.cons g0 .nil)).mono fun e W' ⟨he, bel⟩ => ?_
  subst he
  exact ⟨_, rfl, _, _, _, [], _, [], hW', trodAll_mk1 (shut_bool Tryz.underlying4 _), (trodAll_cons_mk (Below.trod laidOut (by kernel_rfl) (of_decide_eq_true (by kernel_rfl)) k0 bel lt0) trodAll_mk0), rfl, bel.frame _, fun h => by cases h⟩
theorem over : Rows.archivePacksRow.holds Tryz.pinned (OpenSpec.ofChange Rows.archivePacksSpec) :=
  OpenClaim.holds_of_wide 8 Tryz.f8 rfl rfl rfl rfl rfl rfl rfl ⟨rfl, rfl, rfl, rfl, rfl⟩ rfl rfl rfl rfl rfl (by kernel_rfl) Tryz.func8 (by kernel_rfl)
    (of_decide_eq_true (by kernel_rfl)) (by unfold Func.isWrapper; first | (rw [if_pos (by decide +kernel)]; kernel_rfl) | (rw [if_neg (by decide +kernel)]; exact ⟨rfl, rfl⟩))
    (fun os started H enc _ => lifted os started H enc)
theorem proved : Rows.ArchivePacksCardSaid :=
  Claim7.holds_tied_plain_at .later [] [.data, .data, .data, .data, .sentinel, .sentinel, .pinned] true (true, "3bb753614d1433565ae112797e4cb8332c7cf0e90d772b8d8914c0b7a2958a86") true
    over (fun _ h => by cases h) (by kernel_rfl) (fun _ h => by cases h) archivePacks_row_tie rfl ⟨rfl, rfl⟩ (by kernel_rfl) rfl
    (fun f fn hf hfn => by
      obtain rfl : f = 8 := Option.some.inj ((show Tryz.prog.funcNamed "quitclaim/quitclaimlaw39.ArchivePacks" = some 8 by kernel_rfl).symm.trans hf) |>.symm
      obtain rfl : fn = Tryz.f8 := (Option.some.inj (Tryz.func8.symm.trans hfn)).symm
      exact ⟨by kernel_rfl, fun j t ht => by
        rw [Tryz.params8] at ht
        rcases j with _ | j
        · obtain rfl : (28 : TypeId) = t := by simpa using ht
          exact (show Tryz.prog.wantsStandIn 28 = false by kernel_rfl)
        · simp at ht⟩)
    (by kernel_rfl)
#print axioms proved
end Go.Proofs.YtmjkflppajienaaGreatDoor.archivePacks
namespace Go.Proofs.YtmjkflppajienaaGreatDoor
/-- The card, under a short name, for the claim. -/
theorem archivePacks_holds : Rows.ArchivePacksCardSaid := archivePacks.proved
end Go.Proofs.YtmjkflppajienaaGreatDoor
