/- Go functions as Lean functions, and that the code answers what they say; no condition but the typed premises. -/
import Derived.Test.YtngcfmnmjkncoaaDoorQT
import Derived.Test.YtngcfmnmjkncoaaDoorQFc
namespace Go.Proofs.YtngcfmnmjkncoaaDoor.Q
open Go Go.RowKit
set_option maxRecDepth 100000
set_option maxHeartbeats 20000000
set_option linter.unusedVariables false
set_option linter.unusedSimpArgs false
/-! ### quitclaim/quitclaimlaw14.TreeAll: function 7 -/
def quitclaimlaw14_TreeAll.r2 (a0 : List S_Op) (x24 : Int) (x25 : S_files) (x38 : S_Op) (x40 : List S_Op) (x42 : S_files × Int × Int) : Env := [(0, [], .p (.sl 39 S_Op eS_Op a0)), (9, [], .ptr 1 0), (10, [], vi x24), (11, [], .ptr 2 0), (12, [], vi x42.2.1), (78, [], .tup [.p (.agg [(.sl 2 S_F eS_F x42.1.f0_files)]), vi x42.2.1, vi x42.2.2]), (79, [], .p (.agg [(.sl 2 S_F eS_F x25.f0_files)])), (80, [], .p (.sl 39 S_Op eS_Op a0)), (81, [], vi x24), (82, [], .padr [(.s (.int .i64 x38.f0_Kind)), (.s (.string x38.f1_Path)), (.s (.string x38.f2_To)), (.s (.int .i64 x38.f3_At)), (.sl 1 ByteArray eS x38.f4_Old), (.sl 1 ByteArray eS x38.f5_New), (.s (.int .u8 (x38.f6_Key.getD 0 0))), (.s (.int .u8 (x38.f6_Key.getD 1 0))), (.s (.int .u8 (x38.f6_Key.getD 2 0))), (.s (.int .u8 (x38.f6_Key.getD 3 0))), (.s (.int .u8 (x38.f6_Key.getD 4 0))), (.s (.int .u8 (x38.f6_Key.getD 5 0))), (.s (.int .u8 (x38.f6_Key.getD 6 0))), (.s (.int .u8 (x38.f6_Key.getD 7 0))), (.s (.int .u8 (x38.f6_Key.getD 8 0))), (.s (.int .u8 (x38.f6_Key.getD 9 0))), (.s (.int .u8 (x38.f6_Key.getD 10 0))), (.s (.int .u8 (x38.f6_Key.getD 11 0))), (.s (.int .u8 (x38.f6_Key.getD 12 0))), (.s (.int .u8 (x38.f6_Key.getD 13 0))), (.s (.int .u8 (x38.f6_Key.getD 14 0))), (.s (.int .u8 (x38.f6_Key.getD 15 0))), (.s (.int .u8 (x38.f6_Key.getD 16 0))), (.s (.int .u8 (x38.f6_Key.getD 17 0))), (.s (.int .u8 (x38.f6_Key.getD 18 0))), (.s (.int .u8 (x38.f6_Key.getD 19 0))), (.s (.int .u8 (x38.f6_Key.getD 20 0))), (.s (.int .u8 (x38.f6_Key.getD 21 0))), (.s (.int .u8 (x38.f6_Key.getD 22 0))), (.s (.int .u8 (x38.f6_Key.getD 23 0))), (.s (.int .u8 (x38.f6_Key.getD 24 0))), (.s (.int .u8 (x38.f6_Key.getD 25 0))), (.s (.int .u8 (x38.f6_Key.getD 26 0))), (.s (.int .u8 (x38.f6_Key.getD 27 0))), (.s (.int .u8 (x38.f6_Key.getD 28 0))), (.s (.int .u8 (x38.f6_Key.getD 29 0))), (.s (.int .u8 (x38.f6_Key.getD 30 0))), (.s (.int .u8 (x38.f6_Key.getD 31 0))), (.s (.int .i64 x38.f7_Depth))]), (83, [], .p (.agg [(.s (.int .i64 x38.f0_Kind)), (.s (.string x38.f1_Path)), (.s (.string x38.f2_To)), (.s (.int .i64 x38.f3_At)), (.sl 1 ByteArray eS x38.f4_Old), (.sl 1 ByteArray eS x38.f5_New), (.s (.int .u8 (x38.f6_Key.getD 0 0))), (.s (.int .u8 (x38.f6_Key.getD 1 0))), (.s (.int .u8 (x38.f6_Key.getD 2 0))), (.s (.int .u8 (x38.f6_Key.getD 3 0))), (.s (.int .u8 (x38.f6_Key.getD 4 0))), (.s (.int .u8 (x38.f6_Key.getD 5 0))), (.s (.int .u8 (x38.f6_Key.getD 6 0))), (.s (.int .u8 (x38.f6_Key.getD 7 0))), (.s (.int .u8 (x38.f6_Key.getD 8 0))), (.s (.int .u8 (x38.f6_Key.getD 9 0))), (.s (.int .u8 (x38.f6_Key.getD 10 0))), (.s (.int .u8 (x38.f6_Key.getD 11 0))), (.s (.int .u8 (x38.f6_Key.getD 12 0))), (.s (.int .u8 (x38.f6_Key.getD 13 0))), (.s (.int .u8 (x38.f6_Key.getD 14 0))), (.s (.int .u8 (x38.f6_Key.getD 15 0))), (.s (.int .u8 (x38.f6_Key.getD 16 0))), (.s (.int .u8 (x38.f6_Key.getD 17 0))), (.s (.int .u8 (x38.f6_Key.getD 18 0))), (.s (.int .u8 (x38.f6_Key.getD 19 0))), (.s (.int .u8 (x38.f6_Key.getD 20 0))), (.s (.int .u8 (x38.f6_Key.getD 21 0))), (.s (.int .u8 (x38.f6_Key.getD 22 0))), (.s (.int .u8 (x38.f6_Key.getD 23 0))), (.s (.int .u8 (x38.f6_Key.getD 24 0))), (.s (.int .u8 (x38.f6_Key.getD 25 0))), (.s (.int .u8 (x38.f6_Key.getD 26 0))), (.s (.int .u8 (x38.f6_Key.getD 27 0))), (.s (.int .u8 (x38.f6_Key.getD 28 0))), (.s (.int .u8 (x38.f6_Key.getD 29 0))), (.s (.int .u8 (x38.f6_Key.getD 30 0))), (.s (.int .u8 (x38.f6_Key.getD 31 0))), (.s (.int .i64 x38.f7_Depth))])), (84, [], .p (.sl 39 S_Op eS_Op x40)), (85, [], .tup [.p (.agg [(.sl 2 S_F eS_F x42.1.f0_files)]), vi x42.2.1, vi x42.2.2]), (86, [], .p (.agg [(.sl 2 S_F eS_F x42.1.f0_files)])), (87, [], vi x42.2.1), (88, [], vi x42.2.2)]
def quitclaimlaw14_TreeAll.l0 (a0 : List S_Op) : Nat → Int → S_files → Option Bool
  | 0, _, _ => none
  | k + 1, x24, x25 => (if x24 ≥ 0 then ((ix a0 x24).bind fun x37 => (if x37.f0_Kind > 4 then quitclaimlaw14_TreeAll.l0 a0 k (w64 (x24 - 1)) x25 else ((ix a0 x24).bind fun x38 => ((quitclaimref13_Inverse.f x38).bind fun x40 => ((tree_Tree_All.f k x25 x40).bind fun x42 => ((gd (!(!decide (x42.2.2 = 0))) (ix a0 x24)).bind fun x44 => ((gd (!(!decide (x42.2.2 = 0))) (quitclaimref13_Inverse.f x44)).bind fun x45 => (if (!decide (x42.2.2 = 0) || !decide (x42.2.1 = (x45.length : Int))) = true then some false else quitclaimlaw14_TreeAll.l0 a0 k (w64 (x24 - 1)) x42.1)))))))) else ((tree_Tree_Len.f x25).bind fun x46 => ((gd (decide (x46 = 0)) (quitclaimlaw14_awake.f k)).bind fun x47 => some (decide (x46 = 0) && x47))))
def quitclaimlaw14_TreeAll.f (k : Nat) (a0 : List S_Op) : Option Bool := ((quitclaimlaw14_few.f k a0).bind fun x1 => (if (!x1) = true then ((quitclaimlaw14_awake.f k).bind fun x2 => some x2) else ((tree_Tree_All.f k (⟨[]⟩ : S_files) a0).bind fun x3 => ((quitclaimref14_All.f k [] a0).bind fun x4 => ((quitclaimlaw14_Plain.f k x3.1).bind fun x5 => ((quitclaimref14_Same.f k x5 x4.1).bind fun x6 => (if ((!x6 || !decide (x3.2.1 = x4.2.1)) || !decide (x3.2.2 = x4.2.2)) = true then some false else (jn (fun (x9 : S_files) (x10 : S_files) => quitclaimlaw14_TreeAll.l0 a0 k (w64 (x4.2.1 - 1)) x10) fun j0 => (if (!decide (x4.2.2 = 0)) = true then ((cut a0 0 x4.2.1).bind fun x11 => ((tree_Tree_All.f k (⟨[]⟩ : S_files) x11).bind fun x12 => (if (!decide (x12.2.2 = 0) || !decide (x12.2.1 = x4.2.1)) = true then some false else j0 x12.1 x12.1))) else j0 x3.1 x3.1)))))))))
theorem quitclaimlaw14_TreeAll.ok (k : Nat) (a0 : List S_Op) (r : Bool) (H : quitclaimlaw14_TreeAll.f k a0 = some r) : PF Tryd.prog 7 [.p (.sl 39 S_Op eS_Op a0)] (vb r) := by
  refine PF_mk T_ok Tryd.func7 rfl (by kernel_rfl) (by kernel_rfl) ?_
  unfold quitclaimlaw14_TreeAll.f at H
  refine qs ?_
  refine qr T_ok [0] (E2 := [(0, [], .p (.sl 39 S_Op eS_Op a0))]) (by kernel_rfl) ?_
  refine qs ?_
  refine qs ?_
  refine qg ?_
  refine qm T_ok 1 (k := 1) (by kernel_rfl) (by kernel_rfl) (by kernel_rfl) ?_
  obtain ⟨x1, hx, H⟩ := bd H
  refine qy rfl (zc (T := T) (quitclaimlaw14_few.ok k a0 _ hx) Tryd.func30 rfl rfl (caps := []) (by kernel_rfl) (by kernel_rfl) (by kernel_rfl) (by kernel_rfl) (by kernel_rfl) (by kernel_rfl)) rfl (by kernel_rfl) rfl ?_
  clear hx
  refine qz T_ok 1 [0, 16] 0 (E2 := [(0, [], .p (.sl 39 S_Op eS_Op a0)), (16, [], vb (!x1))]) (h1 := []) (by kernel_rfl) (by kernel_rfl) (by kernel_rfl) (by kernel_rfl) (by kernel_rfl) ?_
  refine qi (t := !x1) (by kernel_rfl) (fun c => ?_) (fun c => ?_)
  · rw [if_pos c] at H
    clear c
    refine qs ?_
    refine qg ?_
    obtain ⟨x2, hx, H⟩ := bd H
    refine qy rfl (zc (T := T) (quitclaimlaw14_awake.ok k _ hx) Tryd.func31 rfl rfl (caps := []) (by kernel_rfl) (by kernel_rfl) (by kernel_rfl) (by kernel_rfl) (by kernel_rfl) (by kernel_rfl)) rfl (by kernel_rfl) rfl ?_
    clear hx
    refine qz T_ok 1 [2] 0 (E2 := [(2, [], vb x2)]) (h1 := []) (by kernel_rfl) (by kernel_rfl) (by kernel_rfl) (by kernel_rfl) (by kernel_rfl) ?_
    refine qt ?_
    obtain rfl := Option.some.inj H
    exact ⟨vb x2, by kernel_rfl, rfl⟩
  · rw [if_neg (by rw [c]; exact Bool.false_ne_true)] at H
    clear c
    refine qw [0] rfl ?_
    refine qk ?_
    refine qs ?_
    refine qg ?_
    refine qm T_ok 2 (k := 2) (by kernel_rfl) (by kernel_rfl) (by kernel_rfl) ?_
    obtain ⟨x3, hx, H⟩ := bd H
    refine qy rfl (zc (T := T) (tree_Tree_All.ok k (⟨[]⟩ : S_files) a0 _ hx) Tryd.func32 rfl rfl (caps := []) (by kernel_rfl) (by kernel_rfl) (by kernel_rfl) (by kernel_rfl) (by kernel_rfl) (by kernel_rfl)) rfl (by kernel_rfl) rfl ?_
    clear hx
    refine qm T_ok 4 (k := 7) (by kernel_rfl) (by kernel_rfl) (by kernel_rfl) ?_
    refine xa T_ok (j := 0) (ti := ti46) rfl rfl rfl rfl (by kernel_rfl) (by kernel_rfl) rfl ?_
    refine xs T_ok (u := 46) (b := 0) (off := 0) (vs := [.p (.sl 2 S_F eS_F x3.1.f0_files)]) (cs := [.p (.sl 2 S_F eS_F [])]) (ti := ti46) rfl rfl rfl rfl (by kernel_rfl) (by kernel_rfl) (by kernel_rfl) (by kernel_rfl) (by kernel_rfl) (by kernel_rfl) rfl ?_
    refine qz T_ok 2 [0, 3, 4, 5] 1 (E2 := [(0, [], .p (.sl 39 S_Op eS_Op a0)), (3, [], .ptr 0 0), (4, [], vi x3.2.1), (5, [], vi x3.2.2)]) (h1 := [.cells 46 [.p (.sl 2 S_F eS_F x3.1.f0_files)]]) (by kernel_rfl) (by kernel_rfl) (by kernel_rfl) (by kernel_rfl) (by kernel_rfl) ?_
    refine qs ?_
    refine qg ?_
    refine qm T_ok 1 (k := 1) (by kernel_rfl) (by kernel_rfl) (by kernel_rfl) ?_
    obtain ⟨x4, hx, H⟩ := bd H
    refine qy rfl (zc (T := T) (quitclaimref14_All.ok k [] a0 _ hx) Tryd.func33 rfl rfl (caps := []) (by kernel_rfl) (by kernel_rfl) (by kernel_rfl) (by kernel_rfl) (by kernel_rfl) (by kernel_rfl)) rfl (by kernel_rfl) rfl ?_
    clear hx
    refine qz T_ok 7 [0, 3, 4, 5, 6, 7, 8] 1 (E2 := [(0, [], .p (.sl 39 S_Op eS_Op a0)), (3, [], .ptr 0 0), (4, [], vi x3.2.1), (5, [], vi x3.2.2), (6, [], .p (.sl 2 S_F eS_F x4.1)), (7, [], vi x4.2.1), (8, [], vi x4.2.2)]) (h1 := [.cells 46 [.p (.sl 2 S_F eS_F x3.1.f0_files)]]) (by kernel_rfl) (by kernel_rfl) (by kernel_rfl) (by kernel_rfl) (by kernel_rfl) ?_
    refine qs ?_
    refine qs ?_
    refine qg ?_
    refine qm T_ok 1 (k := 1) (by kernel_rfl) (by kernel_rfl) (by kernel_rfl) ?_
    obtain ⟨x5, hx, H⟩ := bd H
    refine qy rfl (zc (T := T) (quitclaimlaw14_Plain.ok k x3.1 _ hx) Tryd.func35 rfl rfl (caps := []) (by kernel_rfl) (by kernel_rfl) (by kernel_rfl) (by kernel_rfl) (by kernel_rfl) (by kernel_rfl)) rfl (by kernel_rfl) rfl ?_
    clear hx
    refine qm T_ok 1 (k := 3) (by kernel_rfl) (by kernel_rfl) (by kernel_rfl) ?_
    obtain ⟨x6, hx, H⟩ := bd H
    refine qy rfl (zc (T := T) (quitclaimref14_Same.ok k x5 x4.1 _ hx) Tryd.func34 rfl rfl (caps := []) (by kernel_rfl) (by kernel_rfl) (by kernel_rfl) (by kernel_rfl) (by kernel_rfl) (by kernel_rfl)) rfl (by kernel_rfl) rfl ?_
    clear hx
    refine qz T_ok 11 [0, 3, 7, 8, 45] 1 (E2 := [(0, [], .p (.sl 39 S_Op eS_Op a0)), (3, [], .ptr 0 0), (7, [], vi x4.2.1), (8, [], vi x4.2.2), (45, [], vb ((!x6 || !decide (x3.2.1 = x4.2.1)) || !decide (x3.2.2 = x4.2.2)))]) (h1 := [.cells 46 [.p (.sl 2 S_F eS_F x3.1.f0_files)]]) (by kernel_rfl) (by kernel_rfl) (by kernel_rfl) (by kernel_rfl) (by kernel_rfl) ?_
    refine qi (t := ((!x6 || !decide (x3.2.1 = x4.2.1)) || !decide (x3.2.2 = x4.2.2))) (by kernel_rfl) (fun c => ?_) (fun c => ?_)
    · rw [if_pos c] at H
      clear c
      refine qs ?_
      refine qg ?_
      refine qz T_ok 1 [2] 0 (E2 := [(2, [], vb false)]) (h1 := []) (by kernel_rfl) (by kernel_rfl) (by kernel_rfl) (by kernel_rfl) (by kernel_rfl) ?_
      refine qt ?_
      obtain rfl := Option.some.inj H
      exact ⟨vb false, by kernel_rfl, rfl⟩
    · rw [if_neg (by rw [c]; exact Bool.false_ne_true)] at H
      clear c
      refine qw [0, 3, 7, 8] rfl ?_
      refine qk ?_
      refine qs ?_
      refine qg ?_
      refine qm T_ok 1 (k := 1) (by kernel_rfl) (by kernel_rfl) (by kernel_rfl) ?_
      refine xa T_ok (j := 1) (ti := ti46) rfl rfl rfl rfl (by kernel_rfl) (by kernel_rfl) rfl ?_
      refine xs T_ok (u := 46) (b := 1) (off := 0) (vs := [.p (.sl 2 S_F eS_F x3.1.f0_files)]) (cs := [.p (.sl 2 S_F eS_F [])]) (ti := ti46) rfl rfl rfl rfl (by kernel_rfl) (by kernel_rfl) (by kernel_rfl) (by kernel_rfl) (by kernel_rfl) (by kernel_rfl) rfl ?_
      refine qz T_ok 0 [0, 3, 7, 8, 9] 2 (E2 := [(0, [], .p (.sl 39 S_Op eS_Op a0)), (3, [], .ptr 0 0), (7, [], vi x4.2.1), (8, [], vi x4.2.2), (9, [], .ptr 1 0)]) (h1 := [.cells 46 [.p (.sl 2 S_F eS_F x3.1.f0_files)], .cells 46 [.p (.sl 2 S_F eS_F x3.1.f0_files)]]) (by kernel_rfl) (by kernel_rfl) (by kernel_rfl) (by kernel_rfl) (by kernel_rfl) ?_
      obtain ⟨j0, hj, H⟩ := jn_of H
      refine qc (fun E h => ∃ x9 : S_files, ∃ x10 : S_files, E = [(0, [], .p (.sl 39 S_Op eS_Op a0)), (7, [], vi x4.2.1), (9, [], .ptr 1 0)] ∧ h = [.cells 46 [.p (.sl 2 S_F eS_F x9.f0_files)], .cells 46 [.p (.sl 2 S_F eS_F x10.f0_files)]] ∧ j0 x9 x10 = some r) ?_ ?_
      · clear hj
        refine qs ?_
        refine qr T_ok [0, 3, 7, 9, 48] (E2 := [(0, [], .p (.sl 39 S_Op eS_Op a0)), (3, [], .ptr 0 0), (7, [], vi x4.2.1), (9, [], .ptr 1 0), (48, [], vb (!decide (x4.2.2 = 0)))]) (by kernel_rfl) ?_
        refine qi (t := !decide (x4.2.2 = 0)) (by kernel_rfl) (fun c => ?_) (fun c => ?_)
        · rw [if_pos c] at H
          clear c
          refine qs ?_
          refine qg ?_
          refine qm T_ok 3 (k := 3) (by kernel_rfl) (by kernel_rfl) (by kernel_rfl) ?_
          obtain ⟨x11, hx, H⟩ := bd H
          refine qy rfl (zt T_ok (enc := eS_Op) (l := a0) (e := 57) (n := 39) (ei := ti57) (sa := (.p (.sl 39 S_Op eS_Op a0))) hx rfl (by kernel_rfl) (by kernel_rfl) rfl (by kernel_rfl) (by kernel_rfl) rfl ⟨.i64, by kernel_rfl⟩) rfl (by kernel_rfl) rfl ?_
          clear hx
          obtain ⟨x12, hx, H⟩ := bd H
          refine qy rfl (zc (T := T) (tree_Tree_All.ok k (⟨[]⟩ : S_files) x11 _ hx) Tryd.func32 rfl rfl (caps := []) (by kernel_rfl) (by kernel_rfl) (by kernel_rfl) (by kernel_rfl) (by kernel_rfl) (by kernel_rfl)) rfl (by kernel_rfl) rfl ?_
          clear hx
          refine qm T_ok 4 (k := 9) (by kernel_rfl) (by kernel_rfl) (by kernel_rfl) ?_
          refine xs T_ok (u := 46) (b := 0) (off := 0) (vs := [.p (.sl 2 S_F eS_F x12.1.f0_files)]) (cs := [.p (.sl 2 S_F eS_F x3.1.f0_files)]) (ti := ti46) rfl rfl rfl rfl (by kernel_rfl) (by kernel_rfl) (by kernel_rfl) (by kernel_rfl) (by kernel_rfl) (by kernel_rfl) rfl ?_
          refine qz T_ok 2 [0, 3, 4, 5, 7, 9] 2 (E2 := [(0, [], .p (.sl 39 S_Op eS_Op a0)), (3, [], .ptr 0 0), (4, [], vi x12.2.1), (5, [], vi x12.2.2), (7, [], vi x4.2.1), (9, [], .ptr 1 0)]) (h1 := [.cells 46 [.p (.sl 2 S_F eS_F x12.1.f0_files)], .cells 46 [.p (.sl 2 S_F eS_F x3.1.f0_files)]]) (by kernel_rfl) (by kernel_rfl) (by kernel_rfl) (by kernel_rfl) (by kernel_rfl) ?_
          refine qs ?_
          refine qs ?_
          refine qr T_ok [0, 3, 7, 9, 64] (E2 := [(0, [], .p (.sl 39 S_Op eS_Op a0)), (3, [], .ptr 0 0), (7, [], vi x4.2.1), (9, [], .ptr 1 0), (64, [], vb (!decide (x12.2.2 = 0) || !decide (x12.2.1 = x4.2.1)))]) (by kernel_rfl) ?_
          refine qi (t := (!decide (x12.2.2 = 0) || !decide (x12.2.1 = x4.2.1))) (by kernel_rfl) (fun c => ?_) (fun c => ?_)
          · rw [if_pos c] at H
            clear c
            refine qs ?_
            refine qg ?_
            refine qz T_ok 1 [2] 0 (E2 := [(2, [], vb false)]) (h1 := []) (by kernel_rfl) (by kernel_rfl) (by kernel_rfl) (by kernel_rfl) (by kernel_rfl) ?_
            refine qt ?_
            obtain rfl := Option.some.inj H
            exact ⟨vb false, by kernel_rfl, rfl⟩
          · rw [if_neg (by rw [c]; exact Bool.false_ne_true)] at H
            clear c
            refine qw [0, 3, 7, 9] rfl ?_
            refine qk ?_
            refine qg ?_
            refine qm T_ok 1 (k := 1) (by kernel_rfl) (by kernel_rfl) (by kernel_rfl) ?_
            refine xs T_ok (u := 46) (b := 1) (off := 0) (vs := [.p (.sl 2 S_F eS_F x12.1.f0_files)]) (cs := [.p (.sl 2 S_F eS_F x3.1.f0_files)]) (ti := ti46) rfl rfl rfl rfl (by kernel_rfl) (by kernel_rfl) (by kernel_rfl) (by kernel_rfl) (by kernel_rfl) (by kernel_rfl) rfl ?_
            refine qz T_ok 0 [0, 7, 9] 2 (E2 := [(0, [], .p (.sl 39 S_Op eS_Op a0)), (7, [], vi x4.2.1), (9, [], .ptr 1 0)]) (h1 := [.cells 46 [.p (.sl 2 S_F eS_F x12.1.f0_files)], .cells 46 [.p (.sl 2 S_F eS_F x12.1.f0_files)]]) (by kernel_rfl) (by kernel_rfl) (by kernel_rfl) (by kernel_rfl) (by kernel_rfl) ?_
            exact ⟨x12.1, x12.1, rfl, rfl, H⟩
        · rw [if_neg (by rw [c]; exact Bool.false_ne_true)] at H
          clear c
          refine qw [0, 7, 9] rfl ?_
          refine qk ?_
          exact ⟨x3.1, x3.1, rfl, rfl, H⟩
      · clear H
        rintro E h ⟨x9, x10, rfl, rfl, H⟩
        subst hj
        dsimp only at H
        refine qs ?_
        refine qs ?_
        refine qr T_ok [0, 9, 10] (E2 := [(0, [], .p (.sl 39 S_Op eS_Op a0)), (9, [], .ptr 1 0), (10, [], vi (w64 (x4.2.1 - 1)))]) (by kernel_rfl) ?_
        refine qb ?_
        refine qp (fun k E h => ∃ x24 : Int, ∃ x25 : S_files, E = [(0, [], .p (.sl 39 S_Op eS_Op a0)), (9, [], .ptr 1 0), (10, [], vi x24)] ∧ h = [.cells 46 [.p (.sl 2 S_F eS_F x9.f0_files)], .cells 46 [.p (.sl 2 S_F eS_F x25.f0_files)]] ∧ quitclaimlaw14_TreeAll.l0 a0 k x24 x25 = some r) k ⟨w64 (x4.2.1 - 1), x10, rfl, rfl, H⟩ ?_
        clear H
        rintro k E h ⟨x24, x25, rfl, rfl, H⟩
        cases k with
        | zero => exact nomatch (show none = some r from H)
        | succ k =>
          rw [quitclaimlaw14_TreeAll.l0] at H
          refine qs ?_
          refine qs ?_
          refine qr T_ok [0, 9, 10, 69] (E2 := [(0, [], .p (.sl 39 S_Op eS_Op a0)), (9, [], .ptr 1 0), (10, [], vi x24), (69, [], vb (decide (x24 ≥ 0)))]) (by kernel_rfl) ?_
          refine qi (t := decide (x24 ≥ 0)) (by kernel_rfl) (fun c => ?_) (fun c => ?_)
          · rw [if_pos (of_decide_eq_true c)] at H
            clear c
            refine qw [0, 9, 10] rfl ?_
            refine qk ?_
            refine qs ?_
            refine qb ?_
            refine qs ?_
            refine qs ?_
            refine qg ?_
            refine qm T_ok 2 (k := 2) (by kernel_rfl) (by kernel_rfl) (by kernel_rfl) ?_
            obtain ⟨x37, hx, H⟩ := bd H
            refine qy rfl (zi T_ok .i64 (enc := eS_Op) (l := a0) (e := 57) (n := 39) (ei := ti57) (sa := (.p (.sl 39 S_Op eS_Op a0))) hx rfl (by kernel_rfl) (by kernel_rfl) rfl (by kernel_rfl) (by kernel_rfl) (by kernel_rfl)) rfl (by kernel_rfl) rfl ?_
            clear hx
            refine qz T_ok 3 [0, 9, 10, 77] 2 (E2 := [(0, [], .p (.sl 39 S_Op eS_Op a0)), (9, [], .ptr 1 0), (10, [], vi x24), (77, [], vb (decide (x37.f0_Kind > 4)))]) (h1 := [.cells 46 [.p (.sl 2 S_F eS_F x9.f0_files)], .cells 46 [.p (.sl 2 S_F eS_F x25.f0_files)]]) (by kernel_rfl) (by kernel_rfl) (by kernel_rfl) (by kernel_rfl) (by kernel_rfl) ?_
            refine qi (t := decide (x37.f0_Kind > 4)) (by kernel_rfl) (fun c => ?_) (fun c => ?_)
            · rw [if_pos (of_decide_eq_true c)] at H
              clear c
              refine qw [0, 9, 10] rfl ?_
              refine qx ?_
              refine qr T_ok [0, 9, 10] (E2 := [(0, [], .p (.sl 39 S_Op eS_Op a0)), (9, [], .ptr 1 0), (10, [], vi (w64 (x24 - 1)))]) (by kernel_rfl) ?_
              exact ⟨_, Nat.lt_succ_self _, w64 (x24 - 1), x25, rfl, rfl, H⟩
            · rw [if_neg (of_decide_eq_false c)] at H
              clear c
              refine qw [0, 9, 10] rfl ?_
              refine qk ?_
              refine qs ?_
              obtain ⟨x38, hx39, H⟩ := bd H
              obtain ⟨x40, hx41, H⟩ := bd H
              obtain ⟨x42, hx43, H⟩ := bd H
              refine qI (by kernel_rfl) (n := 15) (l0 := #[false, false, false, false, false, false, false, false, false, false, false, false, false, false, false]) rfl rfl ?_
              refine ih_ (k := 0) (l := #[true, true, true, true, true, true, true, true, true, true, true, true, true, true, true]) (E := [(0, [], .p (.sl 39 S_Op eS_Op a0)), (9, [], .ptr 1 0), (10, [], vi x24), (11, [], .ptr 2 0), (12, [], vi x42.2.1), (13, [], vi x42.2.2)]) (h := [.cells 46 [.p (.sl 2 S_F eS_F x9.f0_files)], .cells 46 [.p (.sl 2 S_F eS_F x25.f0_files)], .cells 46 [.p (.sl 2 S_F eS_F x42.1.f0_files)]]) (id_ (by kernel_rfl) ?_) (fun s32767 => ?_)
              · refine qs ?_
                refine qs ?_
                refine qg ?_
                refine qm T_ok 6 (k := 6) (by kernel_rfl) (by kernel_rfl) (by kernel_rfl) ?_
                obtain ⟨x44, hx, H⟩ := bd H
                refine qyg rfl (tg := []) (Yld.under (u := 91) (b := false) (t := !decide (x42.2.2 = 0)) (by kernel_rfl) (by simp) fun g0_ => (zi T_ok .i64 (enc := eS_Op) (l := a0) (e := 57) (n := 39) (ei := ti57) (sa := (.p (.sl 39 S_Op eS_Op a0))) (gd0 hx g0_) rfl (by kernel_rfl) (by kernel_rfl) rfl (by kernel_rfl) (by kernel_rfl) (by kernel_rfl))) rfl rfl (by kernel_rfl) (by kernel_rfl) rfl ?_
                clear hx
                refine qm T_ok 1 (k := 8) (by kernel_rfl) (by kernel_rfl) (by kernel_rfl) ?_
                obtain ⟨x45, hx, H⟩ := bd H
                refine qyg rfl (tg := []) (Yld.under (u := 91) (b := false) (t := !decide (x42.2.2 = 0)) (by kernel_rfl) (by simp) fun g0_ => (zc (T := T) (quitclaimref13_Inverse.ok x44 _ (gd0 hx g0_)) Tryd.func36 rfl rfl (caps := []) (by kernel_rfl) (by kernel_rfl) (by kernel_rfl) (by kernel_rfl) (by kernel_rfl) (by kernel_rfl))) rfl rfl (by kernel_rfl) (by kernel_rfl) rfl ?_
                clear hx
                refine qz T_ok 3 [0, 9, 10, 11, 100] 3 (E2 := [(0, [], .p (.sl 39 S_Op eS_Op a0)), (9, [], .ptr 1 0), (10, [], vi x24), (11, [], .ptr 2 0), (100, [], vb (!decide (x42.2.2 = 0) || !decide (x42.2.1 = (x45.length : Int))))]) (h1 := [.cells 46 [.p (.sl 2 S_F eS_F x9.f0_files)], .cells 46 [.p (.sl 2 S_F eS_F x25.f0_files)], .cells 46 [.p (.sl 2 S_F eS_F x42.1.f0_files)]]) (by kernel_rfl) (by kernel_rfl) (by kernel_rfl) (by kernel_rfl) (by kernel_rfl) ?_
                refine qi (t := (!decide (x42.2.2 = 0) || !decide (x42.2.1 = (x45.length : Int)))) (by kernel_rfl) (fun c => ?_) (fun c => ?_)
                · rw [if_pos c] at H
                  clear c
                  refine qs ?_
                  refine qg ?_
                  refine qz T_ok 1 [2] 0 (E2 := [(2, [], vb false)]) (h1 := []) (by kernel_rfl) (by kernel_rfl) (by kernel_rfl) (by kernel_rfl) (by kernel_rfl) ?_
                  refine qt ?_
                  obtain rfl := Option.some.inj H
                  exact ⟨vb false, by kernel_rfl, rfl⟩
                · rw [if_neg (by rw [c]; exact Bool.false_ne_true)] at H
                  clear c
                  refine qw [0, 9, 10, 11] rfl ?_
                  refine qk ?_
                  refine qg ?_
                  refine qm T_ok 1 (k := 1) (by kernel_rfl) (by kernel_rfl) (by kernel_rfl) ?_
                  refine xs T_ok (u := 46) (b := 1) (off := 0) (vs := [.p (.sl 2 S_F eS_F x42.1.f0_files)]) (cs := [.p (.sl 2 S_F eS_F x25.f0_files)]) (ti := ti46) rfl rfl rfl rfl (by kernel_rfl) (by kernel_rfl) (by kernel_rfl) (by kernel_rfl) (by kernel_rfl) (by kernel_rfl) rfl ?_
                  refine qz T_ok 0 [0, 9, 10] 2 (E2 := [(0, [], .p (.sl 39 S_Op eS_Op a0)), (9, [], .ptr 1 0), (10, [], vi x24)]) (h1 := [.cells 46 [.p (.sl 2 S_F eS_F x9.f0_files)], .cells 46 [.p (.sl 2 S_F eS_F x42.1.f0_files)]]) (by kernel_rfl) (by kernel_rfl) (by kernel_rfl) (by kernel_rfl) (by kernel_rfl) ?_
                  refine qr T_ok [0, 9, 10] (E2 := [(0, [], .p (.sl 39 S_Op eS_Op a0)), (9, [], .ptr 1 0), (10, [], vi (w64 (x24 - 1)))]) (by kernel_rfl) ?_
                  exact ⟨_, Nat.lt_succ_self _, w64 (x24 - 1), x42.1, rfl, rfl, H⟩
              · refine ih_ (k := 1) (l := #[true, true, true, true, true, true, true, true, true, true, true, true, true, true, false]) (E := Env.keep (quitclaimlaw14_TreeAll.r2 a0 x24 x25 x38 x40 x42) [0, 9, 10, 11, 12, 78, 79, 80, 81, 82, 83, 84, 85, 86, 87, 88]) (h := [.cells 46 [.p (.sl 2 S_F eS_F x9.f0_files)], .cells 46 [.p (.sl 2 S_F eS_F x25.f0_files)], .cells 46 [.p (.sl 2 S_F eS_F x42.1.f0_files)]]) ?_ (fun s16383 => ?_)
                · refine im_ (js := [14]) (by kernel_rfl) (by simp) (ic_ ?_ ia_)
                  · refine is_ rfl rfl (l' := #[true, true, true, true, true, true, true, true, true, true, true, true, true, true, true]) rfl ?_
                    refine qm T_ok 1 (k := 1) (by kernel_rfl) (by kernel_rfl) (by kernel_rfl) ?_
                    refine qz T_ok 0 [0, 9, 10, 11, 12, 13] 3 (E2 := [(0, [], .p (.sl 39 S_Op eS_Op a0)), (9, [], .ptr 1 0), (10, [], vi x24), (11, [], .ptr 2 0), (12, [], vi x42.2.1), (13, [], vi x42.2.2)]) (h1 := [.cells 46 [.p (.sl 2 S_F eS_F x9.f0_files)], .cells 46 [.p (.sl 2 S_F eS_F x25.f0_files)], .cells 46 [.p (.sl 2 S_F eS_F x42.1.f0_files)]]) (by kernel_rfl) (by kernel_rfl) (by kernel_rfl) (by kernel_rfl) (by kernel_rfl) ?_
                    exact ⟨rfl, s32767⟩
                refine ih_ (k := 2) (l := #[true, true, true, true, true, true, true, true, true, true, true, true, true, false, false]) (E := Env.keep (quitclaimlaw14_TreeAll.r2 a0 x24 x25 x38 x40 x42) [0, 9, 10, 11, 78, 79, 80, 81, 82, 83, 84, 85, 86, 87, 88]) (h := [.cells 46 [.p (.sl 2 S_F eS_F x9.f0_files)], .cells 46 [.p (.sl 2 S_F eS_F x25.f0_files)], .cells 46 [.p (.sl 2 S_F eS_F x42.1.f0_files)]]) ?_ (fun s8191 => ?_)
                · refine im_ (js := [13]) (by kernel_rfl) (by simp) (ic_ ?_ ia_)
                  · refine is_ rfl rfl (l' := #[true, true, true, true, true, true, true, true, true, true, true, true, true, true, false]) rfl ?_
                    refine qm T_ok 1 (k := 1) (by kernel_rfl) (by kernel_rfl) (by kernel_rfl) ?_
                    refine qz T_ok 0 [0, 9, 10, 11, 12, 78, 79, 80, 81, 82, 83, 84, 85, 86, 87, 88] 3 (E2 := Env.keep (quitclaimlaw14_TreeAll.r2 a0 x24 x25 x38 x40 x42) [0, 9, 10, 11, 12, 78, 79, 80, 81, 82, 83, 84, 85, 86, 87, 88]) (h1 := [.cells 46 [.p (.sl 2 S_F eS_F x9.f0_files)], .cells 46 [.p (.sl 2 S_F eS_F x25.f0_files)], .cells 46 [.p (.sl 2 S_F eS_F x42.1.f0_files)]]) (by kernel_rfl) (by kernel_rfl) (by kernel_rfl) (by kernel_rfl) (by kernel_rfl) ?_
                    exact ⟨rfl, s16383⟩
                refine ih_ (k := 2) (l := #[true, true, true, true, true, true, true, true, true, true, false, true, true, true, false]) (E := Env.keep (quitclaimlaw14_TreeAll.r2 a0 x24 x25 x38 x40 x42) [0, 9, 10, 11, 12, 78, 79, 80, 81, 82, 83, 84, 85, 86, 87]) (h := [.cells 46 [.p (.sl 2 S_F eS_F x9.f0_files)], .cells 46 [.p (.sl 2 S_F eS_F x25.f0_files)], .cells 46 [.p (.sl 2 S_F eS_F x42.1.f0_files)]]) ?_ (fun s15359 => ?_)
                · refine im_ (js := [10]) (by kernel_rfl) (by simp) (ic_ ?_ ia_)
                  · refine is_ rfl rfl (l' := #[true, true, true, true, true, true, true, true, true, true, true, true, true, true, false]) rfl ?_
                    refine qm T_ok 1 (k := 1) (by kernel_rfl) (by kernel_rfl) (by kernel_rfl) ?_
                    refine qz T_ok 0 [0, 9, 10, 11, 12, 78, 79, 80, 81, 82, 83, 84, 85, 86, 87, 88] 3 (E2 := Env.keep (quitclaimlaw14_TreeAll.r2 a0 x24 x25 x38 x40 x42) [0, 9, 10, 11, 12, 78, 79, 80, 81, 82, 83, 84, 85, 86, 87, 88]) (h1 := [.cells 46 [.p (.sl 2 S_F eS_F x9.f0_files)], .cells 46 [.p (.sl 2 S_F eS_F x25.f0_files)], .cells 46 [.p (.sl 2 S_F eS_F x42.1.f0_files)]]) (by kernel_rfl) (by kernel_rfl) (by kernel_rfl) (by kernel_rfl) (by kernel_rfl) ?_
                    exact ⟨rfl, s16383⟩
                refine ih_ (k := 3) (l := #[true, true, true, true, true, true, true, true, true, true, true, true, false, false, false]) (E := Env.keep (quitclaimlaw14_TreeAll.r2 a0 x24 x25 x38 x40 x42) [0, 9, 10, 11, 78, 79, 80, 81, 82, 83, 84, 85, 86, 87, 88]) (h := [.cells 46 [.p (.sl 2 S_F eS_F x9.f0_files)], .cells 46 [.p (.sl 2 S_F eS_F x25.f0_files)], .cells 46 [.p (.sl 2 S_F eS_F [])]]) ?_ (fun s4095 => ?_)
                · refine im_ (js := [12]) (by kernel_rfl) (by simp) (ic_ ?_ ia_)
                  · refine is_ rfl rfl (l' := #[true, true, true, true, true, true, true, true, true, true, true, true, true, false, false]) rfl ?_
                    refine xs T_ok (u := 46) (b := 2) (off := 0) (vs := [.p (.sl 2 S_F eS_F x42.1.f0_files)]) (cs := [.p (.sl 2 S_F eS_F [])]) (ti := ti46) rfl rfl rfl rfl (by kernel_rfl) (by kernel_rfl) (by kernel_rfl) (by kernel_rfl) (by kernel_rfl) (by kernel_rfl) rfl ?_
                    refine qz T_ok 0 [0, 9, 10, 11, 78, 79, 80, 81, 82, 83, 84, 85, 86, 87, 88] 3 (E2 := Env.keep (quitclaimlaw14_TreeAll.r2 a0 x24 x25 x38 x40 x42) [0, 9, 10, 11, 78, 79, 80, 81, 82, 83, 84, 85, 86, 87, 88]) (h1 := [.cells 46 [.p (.sl 2 S_F eS_F x9.f0_files)], .cells 46 [.p (.sl 2 S_F eS_F x25.f0_files)], .cells 46 [.p (.sl 2 S_F eS_F x42.1.f0_files)]]) (by kernel_rfl) (by kernel_rfl) (by kernel_rfl) (by kernel_rfl) (by kernel_rfl) ?_
                    exact ⟨rfl, s8191⟩
                refine ih_ (k := 3) (l := #[true, true, true, true, true, true, true, true, true, true, false, true, true, false, false]) (E := Env.keep (quitclaimlaw14_TreeAll.r2 a0 x24 x25 x38 x40 x42) [0, 9, 10, 11, 78, 79, 80, 81, 82, 83, 84, 85, 86, 87]) (h := [.cells 46 [.p (.sl 2 S_F eS_F x9.f0_files)], .cells 46 [.p (.sl 2 S_F eS_F x25.f0_files)], .cells 46 [.p (.sl 2 S_F eS_F x42.1.f0_files)]]) ?_ (fun s7167 => ?_)
                · refine im_ (js := [10, 13]) (by kernel_rfl) (by simp) (ic_ ?_ (ic_ ?_ ia_))
                  · refine is_ rfl rfl (l' := #[true, true, true, true, true, true, true, true, true, true, true, true, true, false, false]) rfl ?_
                    refine qm T_ok 1 (k := 1) (by kernel_rfl) (by kernel_rfl) (by kernel_rfl) ?_
                    refine qz T_ok 0 [0, 9, 10, 11, 78, 79, 80, 81, 82, 83, 84, 85, 86, 87, 88] 3 (E2 := Env.keep (quitclaimlaw14_TreeAll.r2 a0 x24 x25 x38 x40 x42) [0, 9, 10, 11, 78, 79, 80, 81, 82, 83, 84, 85, 86, 87, 88]) (h1 := [.cells 46 [.p (.sl 2 S_F eS_F x9.f0_files)], .cells 46 [.p (.sl 2 S_F eS_F x25.f0_files)], .cells 46 [.p (.sl 2 S_F eS_F x42.1.f0_files)]]) (by kernel_rfl) (by kernel_rfl) (by kernel_rfl) (by kernel_rfl) (by kernel_rfl) ?_
                    exact ⟨rfl, s8191⟩
                  · refine is_ rfl rfl (l' := #[true, true, true, true, true, true, true, true, true, true, false, true, true, true, false]) rfl ?_
                    refine qm T_ok 1 (k := 1) (by kernel_rfl) (by kernel_rfl) (by kernel_rfl) ?_
                    refine qz T_ok 0 [0, 9, 10, 11, 12, 78, 79, 80, 81, 82, 83, 84, 85, 86, 87] 3 (E2 := Env.keep (quitclaimlaw14_TreeAll.r2 a0 x24 x25 x38 x40 x42) [0, 9, 10, 11, 12, 78, 79, 80, 81, 82, 83, 84, 85, 86, 87]) (h1 := [.cells 46 [.p (.sl 2 S_F eS_F x9.f0_files)], .cells 46 [.p (.sl 2 S_F eS_F x25.f0_files)], .cells 46 [.p (.sl 2 S_F eS_F x42.1.f0_files)]]) (by kernel_rfl) (by kernel_rfl) (by kernel_rfl) (by kernel_rfl) (by kernel_rfl) ?_
                    exact ⟨rfl, s15359⟩
                refine ih_ (k := 3) (l := #[true, true, true, true, true, true, true, true, true, false, true, true, true, false, false]) (E := Env.keep (quitclaimlaw14_TreeAll.r2 a0 x24 x25 x38 x40 x42) [0, 9, 10, 11, 78, 79, 80, 81, 82, 83, 84, 85, 86, 88]) (h := [.cells 46 [.p (.sl 2 S_F eS_F x9.f0_files)], .cells 46 [.p (.sl 2 S_F eS_F x25.f0_files)], .cells 46 [.p (.sl 2 S_F eS_F x42.1.f0_files)]]) ?_ (fun s7679 => ?_)
                · refine im_ (js := [9]) (by kernel_rfl) (by simp) (ic_ ?_ ia_)
                  · refine is_ rfl rfl (l' := #[true, true, true, true, true, true, true, true, true, true, true, true, true, false, false]) rfl ?_
                    refine qm T_ok 1 (k := 1) (by kernel_rfl) (by kernel_rfl) (by kernel_rfl) ?_
                    refine qz T_ok 0 [0, 9, 10, 11, 78, 79, 80, 81, 82, 83, 84, 85, 86, 87, 88] 3 (E2 := Env.keep (quitclaimlaw14_TreeAll.r2 a0 x24 x25 x38 x40 x42) [0, 9, 10, 11, 78, 79, 80, 81, 82, 83, 84, 85, 86, 87, 88]) (h1 := [.cells 46 [.p (.sl 2 S_F eS_F x9.f0_files)], .cells 46 [.p (.sl 2 S_F eS_F x25.f0_files)], .cells 46 [.p (.sl 2 S_F eS_F x42.1.f0_files)]]) (by kernel_rfl) (by kernel_rfl) (by kernel_rfl) (by kernel_rfl) (by kernel_rfl) ?_
                    exact ⟨rfl, s8191⟩
                refine ih_ (k := 4) (l := #[true, true, true, true, true, true, true, true, true, true, true, false, false, false, false]) (E := Env.keep (quitclaimlaw14_TreeAll.r2 a0 x24 x25 x38 x40 x42) [0, 9, 10, 78, 79, 80, 81, 82, 83, 84, 85, 86, 87, 88]) (h := [.cells 46 [.p (.sl 2 S_F eS_F x9.f0_files)], .cells 46 [.p (.sl 2 S_F eS_F x25.f0_files)]]) ?_ (fun s2047 => ?_)
                · refine im_ (js := [11]) (by kernel_rfl) (by simp) (ic_ ?_ ia_)
                  · refine is_ rfl rfl (l' := #[true, true, true, true, true, true, true, true, true, true, true, true, false, false, false]) rfl ?_
                    refine xa T_ok (j := 2) (ti := ti46) rfl rfl rfl rfl (by kernel_rfl) (by kernel_rfl) rfl ?_
                    refine qz T_ok 0 [0, 9, 10, 11, 78, 79, 80, 81, 82, 83, 84, 85, 86, 87, 88] 3 (E2 := Env.keep (quitclaimlaw14_TreeAll.r2 a0 x24 x25 x38 x40 x42) [0, 9, 10, 11, 78, 79, 80, 81, 82, 83, 84, 85, 86, 87, 88]) (h1 := [.cells 46 [.p (.sl 2 S_F eS_F x9.f0_files)], .cells 46 [.p (.sl 2 S_F eS_F x25.f0_files)], .cells 46 [.p (.sl 2 S_F eS_F [])]]) (by kernel_rfl) (by kernel_rfl) (by kernel_rfl) (by kernel_rfl) (by kernel_rfl) ?_
                    exact ⟨rfl, s4095⟩
                refine ih_ (k := 4) (l := #[true, true, true, true, true, true, true, true, true, true, false, true, false, false, false]) (E := Env.keep (quitclaimlaw14_TreeAll.r2 a0 x24 x25 x38 x40 x42) [0, 9, 10, 11, 78, 79, 80, 81, 82, 83, 84, 85, 86, 87]) (h := [.cells 46 [.p (.sl 2 S_F eS_F x9.f0_files)], .cells 46 [.p (.sl 2 S_F eS_F x25.f0_files)], .cells 46 [.p (.sl 2 S_F eS_F [])]]) ?_ (fun s3071 => ?_)
                · refine im_ (js := [10, 12]) (by kernel_rfl) (by simp) (ic_ ?_ (ic_ ?_ ia_))
                  · refine is_ rfl rfl (l' := #[true, true, true, true, true, true, true, true, true, true, true, true, false, false, false]) rfl ?_
                    refine qm T_ok 1 (k := 1) (by kernel_rfl) (by kernel_rfl) (by kernel_rfl) ?_
                    refine qz T_ok 0 [0, 9, 10, 11, 78, 79, 80, 81, 82, 83, 84, 85, 86, 87, 88] 3 (E2 := Env.keep (quitclaimlaw14_TreeAll.r2 a0 x24 x25 x38 x40 x42) [0, 9, 10, 11, 78, 79, 80, 81, 82, 83, 84, 85, 86, 87, 88]) (h1 := [.cells 46 [.p (.sl 2 S_F eS_F x9.f0_files)], .cells 46 [.p (.sl 2 S_F eS_F x25.f0_files)], .cells 46 [.p (.sl 2 S_F eS_F [])]]) (by kernel_rfl) (by kernel_rfl) (by kernel_rfl) (by kernel_rfl) (by kernel_rfl) ?_
                    exact ⟨rfl, s4095⟩
                  · refine is_ rfl rfl (l' := #[true, true, true, true, true, true, true, true, true, true, false, true, true, false, false]) rfl ?_
                    refine xs T_ok (u := 46) (b := 2) (off := 0) (vs := [.p (.sl 2 S_F eS_F x42.1.f0_files)]) (cs := [.p (.sl 2 S_F eS_F [])]) (ti := ti46) rfl rfl rfl rfl (by kernel_rfl) (by kernel_rfl) (by kernel_rfl) (by kernel_rfl) (by kernel_rfl) (by kernel_rfl) rfl ?_
                    refine qz T_ok 0 [0, 9, 10, 11, 78, 79, 80, 81, 82, 83, 84, 85, 86, 87] 3 (E2 := Env.keep (quitclaimlaw14_TreeAll.r2 a0 x24 x25 x38 x40 x42) [0, 9, 10, 11, 78, 79, 80, 81, 82, 83, 84, 85, 86, 87]) (h1 := [.cells 46 [.p (.sl 2 S_F eS_F x9.f0_files)], .cells 46 [.p (.sl 2 S_F eS_F x25.f0_files)], .cells 46 [.p (.sl 2 S_F eS_F x42.1.f0_files)]]) (by kernel_rfl) (by kernel_rfl) (by kernel_rfl) (by kernel_rfl) (by kernel_rfl) ?_
                    exact ⟨rfl, s7167⟩
                refine ih_ (k := 4) (l := #[true, true, true, true, true, true, true, true, true, false, true, true, false, false, false]) (E := Env.keep (quitclaimlaw14_TreeAll.r2 a0 x24 x25 x38 x40 x42) [0, 9, 10, 11, 78, 79, 80, 81, 82, 83, 84, 85, 86, 88]) (h := [.cells 46 [.p (.sl 2 S_F eS_F x9.f0_files)], .cells 46 [.p (.sl 2 S_F eS_F x25.f0_files)], .cells 46 [.p (.sl 2 S_F eS_F [])]]) ?_ (fun s3583 => ?_)
                · refine im_ (js := [9, 12]) (by kernel_rfl) (by simp) (ic_ ?_ (ic_ ?_ ia_))
                  · refine is_ rfl rfl (l' := #[true, true, true, true, true, true, true, true, true, true, true, true, false, false, false]) rfl ?_
                    refine qm T_ok 1 (k := 1) (by kernel_rfl) (by kernel_rfl) (by kernel_rfl) ?_
                    refine qz T_ok 0 [0, 9, 10, 11, 78, 79, 80, 81, 82, 83, 84, 85, 86, 87, 88] 3 (E2 := Env.keep (quitclaimlaw14_TreeAll.r2 a0 x24 x25 x38 x40 x42) [0, 9, 10, 11, 78, 79, 80, 81, 82, 83, 84, 85, 86, 87, 88]) (h1 := [.cells 46 [.p (.sl 2 S_F eS_F x9.f0_files)], .cells 46 [.p (.sl 2 S_F eS_F x25.f0_files)], .cells 46 [.p (.sl 2 S_F eS_F [])]]) (by kernel_rfl) (by kernel_rfl) (by kernel_rfl) (by kernel_rfl) (by kernel_rfl) ?_
                    exact ⟨rfl, s4095⟩
                  · refine is_ rfl rfl (l' := #[true, true, true, true, true, true, true, true, true, false, true, true, true, false, false]) rfl ?_
                    refine xs T_ok (u := 46) (b := 2) (off := 0) (vs := [.p (.sl 2 S_F eS_F x42.1.f0_files)]) (cs := [.p (.sl 2 S_F eS_F [])]) (ti := ti46) rfl rfl rfl rfl (by kernel_rfl) (by kernel_rfl) (by kernel_rfl) (by kernel_rfl) (by kernel_rfl) (by kernel_rfl) rfl ?_
                    refine qz T_ok 0 [0, 9, 10, 11, 78, 79, 80, 81, 82, 83, 84, 85, 86, 88] 3 (E2 := Env.keep (quitclaimlaw14_TreeAll.r2 a0 x24 x25 x38 x40 x42) [0, 9, 10, 11, 78, 79, 80, 81, 82, 83, 84, 85, 86, 88]) (h1 := [.cells 46 [.p (.sl 2 S_F eS_F x9.f0_files)], .cells 46 [.p (.sl 2 S_F eS_F x25.f0_files)], .cells 46 [.p (.sl 2 S_F eS_F x42.1.f0_files)]]) (by kernel_rfl) (by kernel_rfl) (by kernel_rfl) (by kernel_rfl) (by kernel_rfl) ?_
                    exact ⟨rfl, s7679⟩
                refine ih_ (k := 4) (l := #[true, true, true, true, true, true, true, true, false, true, true, true, false, false, false]) (E := Env.keep (quitclaimlaw14_TreeAll.r2 a0 x24 x25 x38 x40 x42) [0, 9, 10, 11, 78, 79, 80, 81, 82, 83, 84, 85, 87, 88]) (h := [.cells 46 [.p (.sl 2 S_F eS_F x9.f0_files)], .cells 46 [.p (.sl 2 S_F eS_F x25.f0_files)], .cells 46 [.p (.sl 2 S_F eS_F [])]]) ?_ (fun s3839 => ?_)
                · refine im_ (js := [8]) (by kernel_rfl) (by simp) (ic_ ?_ ia_)
                  · refine is_ rfl rfl (l' := #[true, true, true, true, true, true, true, true, true, true, true, true, false, false, false]) rfl ?_
                    refine qm T_ok 1 (k := 1) (by kernel_rfl) (by kernel_rfl) (by kernel_rfl) ?_
                    refine qz T_ok 0 [0, 9, 10, 11, 78, 79, 80, 81, 82, 83, 84, 85, 86, 87, 88] 3 (E2 := Env.keep (quitclaimlaw14_TreeAll.r2 a0 x24 x25 x38 x40 x42) [0, 9, 10, 11, 78, 79, 80, 81, 82, 83, 84, 85, 86, 87, 88]) (h1 := [.cells 46 [.p (.sl 2 S_F eS_F x9.f0_files)], .cells 46 [.p (.sl 2 S_F eS_F x25.f0_files)], .cells 46 [.p (.sl 2 S_F eS_F [])]]) (by kernel_rfl) (by kernel_rfl) (by kernel_rfl) (by kernel_rfl) (by kernel_rfl) ?_
                    exact ⟨rfl, s4095⟩
                refine ih_ (k := 4) (l := #[true, true, true, true, true, true, true, true, true, false, false, true, true, false, false]) (E := Env.keep (quitclaimlaw14_TreeAll.r2 a0 x24 x25 x38 x40 x42) [0, 9, 10, 11, 78, 79, 80, 81, 82, 83, 84, 85, 86]) (h := [.cells 46 [.p (.sl 2 S_F eS_F x9.f0_files)], .cells 46 [.p (.sl 2 S_F eS_F x25.f0_files)], .cells 46 [.p (.sl 2 S_F eS_F x42.1.f0_files)]]) ?_ (fun s6655 => ?_)
                · refine im_ (js := [9, 10]) (by kernel_rfl) (by simp) (ic_ ?_ (ic_ ?_ ia_))
                  · refine is_ rfl rfl (l' := #[true, true, true, true, true, true, true, true, true, true, false, true, true, false, false]) rfl ?_
                    refine qm T_ok 1 (k := 1) (by kernel_rfl) (by kernel_rfl) (by kernel_rfl) ?_
                    refine qz T_ok 0 [0, 9, 10, 11, 78, 79, 80, 81, 82, 83, 84, 85, 86, 87] 3 (E2 := Env.keep (quitclaimlaw14_TreeAll.r2 a0 x24 x25 x38 x40 x42) [0, 9, 10, 11, 78, 79, 80, 81, 82, 83, 84, 85, 86, 87]) (h1 := [.cells 46 [.p (.sl 2 S_F eS_F x9.f0_files)], .cells 46 [.p (.sl 2 S_F eS_F x25.f0_files)], .cells 46 [.p (.sl 2 S_F eS_F x42.1.f0_files)]]) (by kernel_rfl) (by kernel_rfl) (by kernel_rfl) (by kernel_rfl) (by kernel_rfl) ?_
                    exact ⟨rfl, s7167⟩
                  · refine is_ rfl rfl (l' := #[true, true, true, true, true, true, true, true, true, false, true, true, true, false, false]) rfl ?_
                    refine qm T_ok 1 (k := 1) (by kernel_rfl) (by kernel_rfl) (by kernel_rfl) ?_
                    refine qz T_ok 0 [0, 9, 10, 11, 78, 79, 80, 81, 82, 83, 84, 85, 86, 88] 3 (E2 := Env.keep (quitclaimlaw14_TreeAll.r2 a0 x24 x25 x38 x40 x42) [0, 9, 10, 11, 78, 79, 80, 81, 82, 83, 84, 85, 86, 88]) (h1 := [.cells 46 [.p (.sl 2 S_F eS_F x9.f0_files)], .cells 46 [.p (.sl 2 S_F eS_F x25.f0_files)], .cells 46 [.p (.sl 2 S_F eS_F x42.1.f0_files)]]) (by kernel_rfl) (by kernel_rfl) (by kernel_rfl) (by kernel_rfl) (by kernel_rfl) ?_
                    exact ⟨rfl, s7679⟩
                refine ih_ (k := 5) (l := #[true, true, true, true, true, true, true, true, true, true, false, false, false, false, false]) (E := Env.keep (quitclaimlaw14_TreeAll.r2 a0 x24 x25 x38 x40 x42) [0, 9, 10, 78, 79, 80, 81, 82, 83, 84, 85, 86, 87]) (h := [.cells 46 [.p (.sl 2 S_F eS_F x9.f0_files)], .cells 46 [.p (.sl 2 S_F eS_F x25.f0_files)]]) ?_ (fun s1023 => ?_)
                · refine im_ (js := [10, 11]) (by kernel_rfl) (by simp) (ic_ ?_ (ic_ ?_ ia_))
                  · refine is_ rfl rfl (l' := #[true, true, true, true, true, true, true, true, true, true, true, false, false, false, false]) rfl ?_
                    refine qm T_ok 1 (k := 1) (by kernel_rfl) (by kernel_rfl) (by kernel_rfl) ?_
                    refine qz T_ok 0 [0, 9, 10, 78, 79, 80, 81, 82, 83, 84, 85, 86, 87, 88] 2 (E2 := Env.keep (quitclaimlaw14_TreeAll.r2 a0 x24 x25 x38 x40 x42) [0, 9, 10, 78, 79, 80, 81, 82, 83, 84, 85, 86, 87, 88]) (h1 := [.cells 46 [.p (.sl 2 S_F eS_F x9.f0_files)], .cells 46 [.p (.sl 2 S_F eS_F x25.f0_files)]]) (by kernel_rfl) (by kernel_rfl) (by kernel_rfl) (by kernel_rfl) (by kernel_rfl) ?_
                    exact ⟨rfl, s2047⟩
                  · refine is_ rfl rfl (l' := #[true, true, true, true, true, true, true, true, true, true, false, true, false, false, false]) rfl ?_
                    refine xa T_ok (j := 2) (ti := ti46) rfl rfl rfl rfl (by kernel_rfl) (by kernel_rfl) rfl ?_
                    refine qz T_ok 0 [0, 9, 10, 11, 78, 79, 80, 81, 82, 83, 84, 85, 86, 87] 3 (E2 := Env.keep (quitclaimlaw14_TreeAll.r2 a0 x24 x25 x38 x40 x42) [0, 9, 10, 11, 78, 79, 80, 81, 82, 83, 84, 85, 86, 87]) (h1 := [.cells 46 [.p (.sl 2 S_F eS_F x9.f0_files)], .cells 46 [.p (.sl 2 S_F eS_F x25.f0_files)], .cells 46 [.p (.sl 2 S_F eS_F [])]]) (by kernel_rfl) (by kernel_rfl) (by kernel_rfl) (by kernel_rfl) (by kernel_rfl) ?_
                    exact ⟨rfl, s3071⟩
                refine ih_ (k := 5) (l := #[true, true, true, true, true, true, true, true, true, false, true, false, false, false, false]) (E := Env.keep (quitclaimlaw14_TreeAll.r2 a0 x24 x25 x38 x40 x42) [0, 9, 10, 78, 79, 80, 81, 82, 83, 84, 85, 86, 88]) (h := [.cells 46 [.p (.sl 2 S_F eS_F x9.f0_files)], .cells 46 [.p (.sl 2 S_F eS_F x25.f0_files)]]) ?_ (fun s1535 => ?_)
                · refine im_ (js := [9, 11]) (by kernel_rfl) (by simp) (ic_ ?_ (ic_ ?_ ia_))
                  · refine is_ rfl rfl (l' := #[true, true, true, true, true, true, true, true, true, true, true, false, false, false, false]) rfl ?_
                    refine qm T_ok 1 (k := 1) (by kernel_rfl) (by kernel_rfl) (by kernel_rfl) ?_
                    refine qz T_ok 0 [0, 9, 10, 78, 79, 80, 81, 82, 83, 84, 85, 86, 87, 88] 2 (E2 := Env.keep (quitclaimlaw14_TreeAll.r2 a0 x24 x25 x38 x40 x42) [0, 9, 10, 78, 79, 80, 81, 82, 83, 84, 85, 86, 87, 88]) (h1 := [.cells 46 [.p (.sl 2 S_F eS_F x9.f0_files)], .cells 46 [.p (.sl 2 S_F eS_F x25.f0_files)]]) (by kernel_rfl) (by kernel_rfl) (by kernel_rfl) (by kernel_rfl) (by kernel_rfl) ?_
                    exact ⟨rfl, s2047⟩
                  · refine is_ rfl rfl (l' := #[true, true, true, true, true, true, true, true, true, false, true, true, false, false, false]) rfl ?_
                    refine xa T_ok (j := 2) (ti := ti46) rfl rfl rfl rfl (by kernel_rfl) (by kernel_rfl) rfl ?_
                    refine qz T_ok 0 [0, 9, 10, 11, 78, 79, 80, 81, 82, 83, 84, 85, 86, 88] 3 (E2 := Env.keep (quitclaimlaw14_TreeAll.r2 a0 x24 x25 x38 x40 x42) [0, 9, 10, 11, 78, 79, 80, 81, 82, 83, 84, 85, 86, 88]) (h1 := [.cells 46 [.p (.sl 2 S_F eS_F x9.f0_files)], .cells 46 [.p (.sl 2 S_F eS_F x25.f0_files)], .cells 46 [.p (.sl 2 S_F eS_F [])]]) (by kernel_rfl) (by kernel_rfl) (by kernel_rfl) (by kernel_rfl) (by kernel_rfl) ?_
                    exact ⟨rfl, s3583⟩
                refine ih_ (k := 5) (l := #[true, true, true, true, true, true, true, true, false, true, true, false, false, false, false]) (E := Env.keep (quitclaimlaw14_TreeAll.r2 a0 x24 x25 x38 x40 x42) [0, 9, 10, 78, 79, 80, 81, 82, 83, 84, 85, 87, 88]) (h := [.cells 46 [.p (.sl 2 S_F eS_F x9.f0_files)], .cells 46 [.p (.sl 2 S_F eS_F x25.f0_files)]]) ?_ (fun s1791 => ?_)
                · refine im_ (js := [8, 11]) (by kernel_rfl) (by simp) (ic_ ?_ (ic_ ?_ ia_))
                  · refine is_ rfl rfl (l' := #[true, true, true, true, true, true, true, true, true, true, true, false, false, false, false]) rfl ?_
                    refine qm T_ok 1 (k := 1) (by kernel_rfl) (by kernel_rfl) (by kernel_rfl) ?_
                    refine qz T_ok 0 [0, 9, 10, 78, 79, 80, 81, 82, 83, 84, 85, 86, 87, 88] 2 (E2 := Env.keep (quitclaimlaw14_TreeAll.r2 a0 x24 x25 x38 x40 x42) [0, 9, 10, 78, 79, 80, 81, 82, 83, 84, 85, 86, 87, 88]) (h1 := [.cells 46 [.p (.sl 2 S_F eS_F x9.f0_files)], .cells 46 [.p (.sl 2 S_F eS_F x25.f0_files)]]) (by kernel_rfl) (by kernel_rfl) (by kernel_rfl) (by kernel_rfl) (by kernel_rfl) ?_
                    exact ⟨rfl, s2047⟩
                  · refine is_ rfl rfl (l' := #[true, true, true, true, true, true, true, true, false, true, true, true, false, false, false]) rfl ?_
                    refine xa T_ok (j := 2) (ti := ti46) rfl rfl rfl rfl (by kernel_rfl) (by kernel_rfl) rfl ?_
                    refine qz T_ok 0 [0, 9, 10, 11, 78, 79, 80, 81, 82, 83, 84, 85, 87, 88] 3 (E2 := Env.keep (quitclaimlaw14_TreeAll.r2 a0 x24 x25 x38 x40 x42) [0, 9, 10, 11, 78, 79, 80, 81, 82, 83, 84, 85, 87, 88]) (h1 := [.cells 46 [.p (.sl 2 S_F eS_F x9.f0_files)], .cells 46 [.p (.sl 2 S_F eS_F x25.f0_files)], .cells 46 [.p (.sl 2 S_F eS_F [])]]) (by kernel_rfl) (by kernel_rfl) (by kernel_rfl) (by kernel_rfl) (by kernel_rfl) ?_
                    exact ⟨rfl, s3839⟩
                refine ih_ (k := 5) (l := #[true, true, true, true, true, true, true, true, true, false, false, true, false, false, false]) (E := Env.keep (quitclaimlaw14_TreeAll.r2 a0 x24 x25 x38 x40 x42) [0, 9, 10, 11, 78, 79, 80, 81, 82, 83, 84, 85, 86]) (h := [.cells 46 [.p (.sl 2 S_F eS_F x9.f0_files)], .cells 46 [.p (.sl 2 S_F eS_F x25.f0_files)], .cells 46 [.p (.sl 2 S_F eS_F [])]]) ?_ (fun s2559 => ?_)
                · refine im_ (js := [9, 10, 12]) (by kernel_rfl) (by simp) (ic_ ?_ (ic_ ?_ (ic_ ?_ ia_)))
                  · refine is_ rfl rfl (l' := #[true, true, true, true, true, true, true, true, true, true, false, true, false, false, false]) rfl ?_
                    refine qm T_ok 1 (k := 1) (by kernel_rfl) (by kernel_rfl) (by kernel_rfl) ?_
                    refine qz T_ok 0 [0, 9, 10, 11, 78, 79, 80, 81, 82, 83, 84, 85, 86, 87] 3 (E2 := Env.keep (quitclaimlaw14_TreeAll.r2 a0 x24 x25 x38 x40 x42) [0, 9, 10, 11, 78, 79, 80, 81, 82, 83, 84, 85, 86, 87]) (h1 := [.cells 46 [.p (.sl 2 S_F eS_F x9.f0_files)], .cells 46 [.p (.sl 2 S_F eS_F x25.f0_files)], .cells 46 [.p (.sl 2 S_F eS_F [])]]) (by kernel_rfl) (by kernel_rfl) (by kernel_rfl) (by kernel_rfl) (by kernel_rfl) ?_
                    exact ⟨rfl, s3071⟩
                  · refine is_ rfl rfl (l' := #[true, true, true, true, true, true, true, true, true, false, true, true, false, false, false]) rfl ?_
                    refine qm T_ok 1 (k := 1) (by kernel_rfl) (by kernel_rfl) (by kernel_rfl) ?_
                    refine qz T_ok 0 [0, 9, 10, 11, 78, 79, 80, 81, 82, 83, 84, 85, 86, 88] 3 (E2 := Env.keep (quitclaimlaw14_TreeAll.r2 a0 x24 x25 x38 x40 x42) [0, 9, 10, 11, 78, 79, 80, 81, 82, 83, 84, 85, 86, 88]) (h1 := [.cells 46 [.p (.sl 2 S_F eS_F x9.f0_files)], .cells 46 [.p (.sl 2 S_F eS_F x25.f0_files)], .cells 46 [.p (.sl 2 S_F eS_F [])]]) (by kernel_rfl) (by kernel_rfl) (by kernel_rfl) (by kernel_rfl) (by kernel_rfl) ?_
                    exact ⟨rfl, s3583⟩
                  · refine is_ rfl rfl (l' := #[true, true, true, true, true, true, true, true, true, false, false, true, true, false, false]) rfl ?_
                    refine xs T_ok (u := 46) (b := 2) (off := 0) (vs := [.p (.sl 2 S_F eS_F x42.1.f0_files)]) (cs := [.p (.sl 2 S_F eS_F [])]) (ti := ti46) rfl rfl rfl rfl (by kernel_rfl) (by kernel_rfl) (by kernel_rfl) (by kernel_rfl) (by kernel_rfl) (by kernel_rfl) rfl ?_
                    refine qz T_ok 0 [0, 9, 10, 11, 78, 79, 80, 81, 82, 83, 84, 85, 86] 3 (E2 := Env.keep (quitclaimlaw14_TreeAll.r2 a0 x24 x25 x38 x40 x42) [0, 9, 10, 11, 78, 79, 80, 81, 82, 83, 84, 85, 86]) (h1 := [.cells 46 [.p (.sl 2 S_F eS_F x9.f0_files)], .cells 46 [.p (.sl 2 S_F eS_F x25.f0_files)], .cells 46 [.p (.sl 2 S_F eS_F x42.1.f0_files)]]) (by kernel_rfl) (by kernel_rfl) (by kernel_rfl) (by kernel_rfl) (by kernel_rfl) ?_
                    exact ⟨rfl, s6655⟩
                refine ih_ (k := 5) (l := #[true, true, true, true, true, true, true, true, false, true, false, true, false, false, false]) (E := Env.keep (quitclaimlaw14_TreeAll.r2 a0 x24 x25 x38 x40 x42) [0, 9, 10, 11, 78, 79, 80, 81, 82, 83, 84, 85, 87]) (h := [.cells 46 [.p (.sl 2 S_F eS_F x9.f0_files)], .cells 46 [.p (.sl 2 S_F eS_F x25.f0_files)], .cells 46 [.p (.sl 2 S_F eS_F [])]]) ?_ (fun s2815 => ?_)
                · refine im_ (js := [8, 10]) (by kernel_rfl) (by simp) (ic_ ?_ (ic_ ?_ ia_))
                  · refine is_ rfl rfl (l' := #[true, true, true, true, true, true, true, true, true, true, false, true, false, false, false]) rfl ?_
                    refine qm T_ok 1 (k := 1) (by kernel_rfl) (by kernel_rfl) (by kernel_rfl) ?_
                    refine qz T_ok 0 [0, 9, 10, 11, 78, 79, 80, 81, 82, 83, 84, 85, 86, 87] 3 (E2 := Env.keep (quitclaimlaw14_TreeAll.r2 a0 x24 x25 x38 x40 x42) [0, 9, 10, 11, 78, 79, 80, 81, 82, 83, 84, 85, 86, 87]) (h1 := [.cells 46 [.p (.sl 2 S_F eS_F x9.f0_files)], .cells 46 [.p (.sl 2 S_F eS_F x25.f0_files)], .cells 46 [.p (.sl 2 S_F eS_F [])]]) (by kernel_rfl) (by kernel_rfl) (by kernel_rfl) (by kernel_rfl) (by kernel_rfl) ?_
                    exact ⟨rfl, s3071⟩
                  · refine is_ rfl rfl (l' := #[true, true, true, true, true, true, true, true, false, true, true, true, false, false, false]) rfl ?_
                    refine qm T_ok 1 (k := 1) (by kernel_rfl) (by kernel_rfl) (by kernel_rfl) ?_
                    refine qz T_ok 0 [0, 9, 10, 11, 78, 79, 80, 81, 82, 83, 84, 85, 87, 88] 3 (E2 := Env.keep (quitclaimlaw14_TreeAll.r2 a0 x24 x25 x38 x40 x42) [0, 9, 10, 11, 78, 79, 80, 81, 82, 83, 84, 85, 87, 88]) (h1 := [.cells 46 [.p (.sl 2 S_F eS_F x9.f0_files)], .cells 46 [.p (.sl 2 S_F eS_F x25.f0_files)], .cells 46 [.p (.sl 2 S_F eS_F [])]]) (by kernel_rfl) (by kernel_rfl) (by kernel_rfl) (by kernel_rfl) (by kernel_rfl) ?_
                    exact ⟨rfl, s3839⟩
                refine ih_ (k := 5) (l := #[true, true, true, true, true, true, true, true, false, false, true, true, false, false, false]) (E := Env.keep (quitclaimlaw14_TreeAll.r2 a0 x24 x25 x38 x40 x42) [0, 9, 10, 11, 78, 79, 80, 81, 82, 83, 84, 85, 88]) (h := [.cells 46 [.p (.sl 2 S_F eS_F x9.f0_files)], .cells 46 [.p (.sl 2 S_F eS_F x25.f0_files)], .cells 46 [.p (.sl 2 S_F eS_F [])]]) ?_ (fun s3327 => ?_)
                · refine im_ (js := [8, 9]) (by kernel_rfl) (by simp) (ic_ ?_ (ic_ ?_ ia_))
                  · refine is_ rfl rfl (l' := #[true, true, true, true, true, true, true, true, true, false, true, true, false, false, false]) rfl ?_
                    refine qm T_ok 1 (k := 1) (by kernel_rfl) (by kernel_rfl) (by kernel_rfl) ?_
                    refine qz T_ok 0 [0, 9, 10, 11, 78, 79, 80, 81, 82, 83, 84, 85, 86, 88] 3 (E2 := Env.keep (quitclaimlaw14_TreeAll.r2 a0 x24 x25 x38 x40 x42) [0, 9, 10, 11, 78, 79, 80, 81, 82, 83, 84, 85, 86, 88]) (h1 := [.cells 46 [.p (.sl 2 S_F eS_F x9.f0_files)], .cells 46 [.p (.sl 2 S_F eS_F x25.f0_files)], .cells 46 [.p (.sl 2 S_F eS_F [])]]) (by kernel_rfl) (by kernel_rfl) (by kernel_rfl) (by kernel_rfl) (by kernel_rfl) ?_
                    exact ⟨rfl, s3583⟩
                  · refine is_ rfl rfl (l' := #[true, true, true, true, true, true, true, true, false, true, true, true, false, false, false]) rfl ?_
                    refine qm T_ok 1 (k := 1) (by kernel_rfl) (by kernel_rfl) (by kernel_rfl) ?_
                    refine qz T_ok 0 [0, 9, 10, 11, 78, 79, 80, 81, 82, 83, 84, 85, 87, 88] 3 (E2 := Env.keep (quitclaimlaw14_TreeAll.r2 a0 x24 x25 x38 x40 x42) [0, 9, 10, 11, 78, 79, 80, 81, 82, 83, 84, 85, 87, 88]) (h1 := [.cells 46 [.p (.sl 2 S_F eS_F x9.f0_files)], .cells 46 [.p (.sl 2 S_F eS_F x25.f0_files)], .cells 46 [.p (.sl 2 S_F eS_F [])]]) (by kernel_rfl) (by kernel_rfl) (by kernel_rfl) (by kernel_rfl) (by kernel_rfl) ?_
                    exact ⟨rfl, s3839⟩
                refine ih_ (k := 6) (l := #[true, true, true, true, true, true, true, true, true, false, false, false, false, false, false]) (E := Env.keep (quitclaimlaw14_TreeAll.r2 a0 x24 x25 x38 x40 x42) [0, 9, 10, 78, 79, 80, 81, 82, 83, 84, 85, 86]) (h := [.cells 46 [.p (.sl 2 S_F eS_F x9.f0_files)], .cells 46 [.p (.sl 2 S_F eS_F x25.f0_files)]]) ?_ (fun s511 => ?_)
                · refine im_ (js := [9, 10, 11]) (by kernel_rfl) (by simp) (ic_ ?_ (ic_ ?_ (ic_ ?_ ia_)))
                  · refine is_ rfl rfl (l' := #[true, true, true, true, true, true, true, true, true, true, false, false, false, false, false]) rfl ?_
                    refine qm T_ok 1 (k := 1) (by kernel_rfl) (by kernel_rfl) (by kernel_rfl) ?_
                    refine qz T_ok 0 [0, 9, 10, 78, 79, 80, 81, 82, 83, 84, 85, 86, 87] 2 (E2 := Env.keep (quitclaimlaw14_TreeAll.r2 a0 x24 x25 x38 x40 x42) [0, 9, 10, 78, 79, 80, 81, 82, 83, 84, 85, 86, 87]) (h1 := [.cells 46 [.p (.sl 2 S_F eS_F x9.f0_files)], .cells 46 [.p (.sl 2 S_F eS_F x25.f0_files)]]) (by kernel_rfl) (by kernel_rfl) (by kernel_rfl) (by kernel_rfl) (by kernel_rfl) ?_
                    exact ⟨rfl, s1023⟩
                  · refine is_ rfl rfl (l' := #[true, true, true, true, true, true, true, true, true, false, true, false, false, false, false]) rfl ?_
                    refine qm T_ok 1 (k := 1) (by kernel_rfl) (by kernel_rfl) (by kernel_rfl) ?_
                    refine qz T_ok 0 [0, 9, 10, 78, 79, 80, 81, 82, 83, 84, 85, 86, 88] 2 (E2 := Env.keep (quitclaimlaw14_TreeAll.r2 a0 x24 x25 x38 x40 x42) [0, 9, 10, 78, 79, 80, 81, 82, 83, 84, 85, 86, 88]) (h1 := [.cells 46 [.p (.sl 2 S_F eS_F x9.f0_files)], .cells 46 [.p (.sl 2 S_F eS_F x25.f0_files)]]) (by kernel_rfl) (by kernel_rfl) (by kernel_rfl) (by kernel_rfl) (by kernel_rfl) ?_
                    exact ⟨rfl, s1535⟩
                  · refine is_ rfl rfl (l' := #[true, true, true, true, true, true, true, true, true, false, false, true, false, false, false]) rfl ?_
                    refine xa T_ok (j := 2) (ti := ti46) rfl rfl rfl rfl (by kernel_rfl) (by kernel_rfl) rfl ?_
                    refine qz T_ok 0 [0, 9, 10, 11, 78, 79, 80, 81, 82, 83, 84, 85, 86] 3 (E2 := Env.keep (quitclaimlaw14_TreeAll.r2 a0 x24 x25 x38 x40 x42) [0, 9, 10, 11, 78, 79, 80, 81, 82, 83, 84, 85, 86]) (h1 := [.cells 46 [.p (.sl 2 S_F eS_F x9.f0_files)], .cells 46 [.p (.sl 2 S_F eS_F x25.f0_files)], .cells 46 [.p (.sl 2 S_F eS_F [])]]) (by kernel_rfl) (by kernel_rfl) (by kernel_rfl) (by kernel_rfl) (by kernel_rfl) ?_
                    exact ⟨rfl, s2559⟩
                refine ih_ (k := 6) (l := #[true, true, true, true, true, true, true, true, false, true, false, false, false, false, false]) (E := Env.keep (quitclaimlaw14_TreeAll.r2 a0 x24 x25 x38 x40 x42) [0, 9, 10, 78, 79, 80, 81, 82, 83, 84, 85, 87]) (h := [.cells 46 [.p (.sl 2 S_F eS_F x9.f0_files)], .cells 46 [.p (.sl 2 S_F eS_F x25.f0_files)]]) ?_ (fun s767 => ?_)
                · refine im_ (js := [8, 10, 11]) (by kernel_rfl) (by simp) (ic_ ?_ (ic_ ?_ (ic_ ?_ ia_)))
                  · refine is_ rfl rfl (l' := #[true, true, true, true, true, true, true, true, true, true, false, false, false, false, false]) rfl ?_
                    refine qm T_ok 1 (k := 1) (by kernel_rfl) (by kernel_rfl) (by kernel_rfl) ?_
                    refine qz T_ok 0 [0, 9, 10, 78, 79, 80, 81, 82, 83, 84, 85, 86, 87] 2 (E2 := Env.keep (quitclaimlaw14_TreeAll.r2 a0 x24 x25 x38 x40 x42) [0, 9, 10, 78, 79, 80, 81, 82, 83, 84, 85, 86, 87]) (h1 := [.cells 46 [.p (.sl 2 S_F eS_F x9.f0_files)], .cells 46 [.p (.sl 2 S_F eS_F x25.f0_files)]]) (by kernel_rfl) (by kernel_rfl) (by kernel_rfl) (by kernel_rfl) (by kernel_rfl) ?_
                    exact ⟨rfl, s1023⟩
                  · refine is_ rfl rfl (l' := #[true, true, true, true, true, true, true, true, false, true, true, false, false, false, false]) rfl ?_
                    refine qm T_ok 1 (k := 1) (by kernel_rfl) (by kernel_rfl) (by kernel_rfl) ?_
                    refine qz T_ok 0 [0, 9, 10, 78, 79, 80, 81, 82, 83, 84, 85, 87, 88] 2 (E2 := Env.keep (quitclaimlaw14_TreeAll.r2 a0 x24 x25 x38 x40 x42) [0, 9, 10, 78, 79, 80, 81, 82, 83, 84, 85, 87, 88]) (h1 := [.cells 46 [.p (.sl 2 S_F eS_F x9.f0_files)], .cells 46 [.p (.sl 2 S_F eS_F x25.f0_files)]]) (by kernel_rfl) (by kernel_rfl) (by kernel_rfl) (by kernel_rfl) (by kernel_rfl) ?_
                    exact ⟨rfl, s1791⟩
                  · refine is_ rfl rfl (l' := #[true, true, true, true, true, true, true, true, false, true, false, true, false, false, false]) rfl ?_
                    refine xa T_ok (j := 2) (ti := ti46) rfl rfl rfl rfl (by kernel_rfl) (by kernel_rfl) rfl ?_
                    refine qz T_ok 0 [0, 9, 10, 11, 78, 79, 80, 81, 82, 83, 84, 85, 87] 3 (E2 := Env.keep (quitclaimlaw14_TreeAll.r2 a0 x24 x25 x38 x40 x42) [0, 9, 10, 11, 78, 79, 80, 81, 82, 83, 84, 85, 87]) (h1 := [.cells 46 [.p (.sl 2 S_F eS_F x9.f0_files)], .cells 46 [.p (.sl 2 S_F eS_F x25.f0_files)], .cells 46 [.p (.sl 2 S_F eS_F [])]]) (by kernel_rfl) (by kernel_rfl) (by kernel_rfl) (by kernel_rfl) (by kernel_rfl) ?_
                    exact ⟨rfl, s2815⟩
                refine ih_ (k := 6) (l := #[true, true, true, true, true, true, true, true, false, false, true, false, false, false, false]) (E := Env.keep (quitclaimlaw14_TreeAll.r2 a0 x24 x25 x38 x40 x42) [0, 9, 10, 78, 79, 80, 81, 82, 83, 84, 85, 88]) (h := [.cells 46 [.p (.sl 2 S_F eS_F x9.f0_files)], .cells 46 [.p (.sl 2 S_F eS_F x25.f0_files)]]) ?_ (fun s1279 => ?_)
                · refine im_ (js := [8, 9, 11]) (by kernel_rfl) (by simp) (ic_ ?_ (ic_ ?_ (ic_ ?_ ia_)))
                  · refine is_ rfl rfl (l' := #[true, true, true, true, true, true, true, true, true, false, true, false, false, false, false]) rfl ?_
                    refine qm T_ok 1 (k := 1) (by kernel_rfl) (by kernel_rfl) (by kernel_rfl) ?_
                    refine qz T_ok 0 [0, 9, 10, 78, 79, 80, 81, 82, 83, 84, 85, 86, 88] 2 (E2 := Env.keep (quitclaimlaw14_TreeAll.r2 a0 x24 x25 x38 x40 x42) [0, 9, 10, 78, 79, 80, 81, 82, 83, 84, 85, 86, 88]) (h1 := [.cells 46 [.p (.sl 2 S_F eS_F x9.f0_files)], .cells 46 [.p (.sl 2 S_F eS_F x25.f0_files)]]) (by kernel_rfl) (by kernel_rfl) (by kernel_rfl) (by kernel_rfl) (by kernel_rfl) ?_
                    exact ⟨rfl, s1535⟩
                  · refine is_ rfl rfl (l' := #[true, true, true, true, true, true, true, true, false, true, true, false, false, false, false]) rfl ?_
                    refine qm T_ok 1 (k := 1) (by kernel_rfl) (by kernel_rfl) (by kernel_rfl) ?_
                    refine qz T_ok 0 [0, 9, 10, 78, 79, 80, 81, 82, 83, 84, 85, 87, 88] 2 (E2 := Env.keep (quitclaimlaw14_TreeAll.r2 a0 x24 x25 x38 x40 x42) [0, 9, 10, 78, 79, 80, 81, 82, 83, 84, 85, 87, 88]) (h1 := [.cells 46 [.p (.sl 2 S_F eS_F x9.f0_files)], .cells 46 [.p (.sl 2 S_F eS_F x25.f0_files)]]) (by kernel_rfl) (by kernel_rfl) (by kernel_rfl) (by kernel_rfl) (by kernel_rfl) ?_
                    exact ⟨rfl, s1791⟩
                  · refine is_ rfl rfl (l' := #[true, true, true, true, true, true, true, true, false, false, true, true, false, false, false]) rfl ?_
                    refine xa T_ok (j := 2) (ti := ti46) rfl rfl rfl rfl (by kernel_rfl) (by kernel_rfl) rfl ?_
                    refine qz T_ok 0 [0, 9, 10, 11, 78, 79, 80, 81, 82, 83, 84, 85, 88] 3 (E2 := Env.keep (quitclaimlaw14_TreeAll.r2 a0 x24 x25 x38 x40 x42) [0, 9, 10, 11, 78, 79, 80, 81, 82, 83, 84, 85, 88]) (h1 := [.cells 46 [.p (.sl 2 S_F eS_F x9.f0_files)], .cells 46 [.p (.sl 2 S_F eS_F x25.f0_files)], .cells 46 [.p (.sl 2 S_F eS_F [])]]) (by kernel_rfl) (by kernel_rfl) (by kernel_rfl) (by kernel_rfl) (by kernel_rfl) ?_
                    exact ⟨rfl, s3327⟩
                refine ih_ (k := 6) (l := #[true, true, true, true, true, true, true, true, false, false, false, true, false, false, false]) (E := Env.keep (quitclaimlaw14_TreeAll.r2 a0 x24 x25 x38 x40 x42) [0, 9, 10, 11, 78, 79, 80, 81, 82, 83, 84, 85]) (h := [.cells 46 [.p (.sl 2 S_F eS_F x9.f0_files)], .cells 46 [.p (.sl 2 S_F eS_F x25.f0_files)], .cells 46 [.p (.sl 2 S_F eS_F [])]]) ?_ (fun s2303 => ?_)
                · refine im_ (js := [8, 9, 10]) (by kernel_rfl) (by simp) (ic_ ?_ (ic_ ?_ (ic_ ?_ ia_)))
                  · refine is_ rfl rfl (l' := #[true, true, true, true, true, true, true, true, true, false, false, true, false, false, false]) rfl ?_
                    refine qm T_ok 1 (k := 1) (by kernel_rfl) (by kernel_rfl) (by kernel_rfl) ?_
                    refine qz T_ok 0 [0, 9, 10, 11, 78, 79, 80, 81, 82, 83, 84, 85, 86] 3 (E2 := Env.keep (quitclaimlaw14_TreeAll.r2 a0 x24 x25 x38 x40 x42) [0, 9, 10, 11, 78, 79, 80, 81, 82, 83, 84, 85, 86]) (h1 := [.cells 46 [.p (.sl 2 S_F eS_F x9.f0_files)], .cells 46 [.p (.sl 2 S_F eS_F x25.f0_files)], .cells 46 [.p (.sl 2 S_F eS_F [])]]) (by kernel_rfl) (by kernel_rfl) (by kernel_rfl) (by kernel_rfl) (by kernel_rfl) ?_
                    exact ⟨rfl, s2559⟩
                  · refine is_ rfl rfl (l' := #[true, true, true, true, true, true, true, true, false, true, false, true, false, false, false]) rfl ?_
                    refine qm T_ok 1 (k := 1) (by kernel_rfl) (by kernel_rfl) (by kernel_rfl) ?_
                    refine qz T_ok 0 [0, 9, 10, 11, 78, 79, 80, 81, 82, 83, 84, 85, 87] 3 (E2 := Env.keep (quitclaimlaw14_TreeAll.r2 a0 x24 x25 x38 x40 x42) [0, 9, 10, 11, 78, 79, 80, 81, 82, 83, 84, 85, 87]) (h1 := [.cells 46 [.p (.sl 2 S_F eS_F x9.f0_files)], .cells 46 [.p (.sl 2 S_F eS_F x25.f0_files)], .cells 46 [.p (.sl 2 S_F eS_F [])]]) (by kernel_rfl) (by kernel_rfl) (by kernel_rfl) (by kernel_rfl) (by kernel_rfl) ?_
                    exact ⟨rfl, s2815⟩
                  · refine is_ rfl rfl (l' := #[true, true, true, true, true, true, true, true, false, false, true, true, false, false, false]) rfl ?_
                    refine qm T_ok 1 (k := 1) (by kernel_rfl) (by kernel_rfl) (by kernel_rfl) ?_
                    refine qz T_ok 0 [0, 9, 10, 11, 78, 79, 80, 81, 82, 83, 84, 85, 88] 3 (E2 := Env.keep (quitclaimlaw14_TreeAll.r2 a0 x24 x25 x38 x40 x42) [0, 9, 10, 11, 78, 79, 80, 81, 82, 83, 84, 85, 88]) (h1 := [.cells 46 [.p (.sl 2 S_F eS_F x9.f0_files)], .cells 46 [.p (.sl 2 S_F eS_F x25.f0_files)], .cells 46 [.p (.sl 2 S_F eS_F [])]]) (by kernel_rfl) (by kernel_rfl) (by kernel_rfl) (by kernel_rfl) (by kernel_rfl) ?_
                    exact ⟨rfl, s3327⟩
                refine ih_ (k := 7) (l := #[true, true, true, true, true, true, true, true, false, false, false, false, false, false, false]) (E := Env.keep (quitclaimlaw14_TreeAll.r2 a0 x24 x25 x38 x40 x42) [0, 9, 10, 78, 79, 80, 81, 82, 83, 84, 85]) (h := [.cells 46 [.p (.sl 2 S_F eS_F x9.f0_files)], .cells 46 [.p (.sl 2 S_F eS_F x25.f0_files)]]) ?_ (fun s255 => ?_)
                · refine im_ (js := [8, 9, 10, 11]) (by kernel_rfl) (by simp) (ic_ ?_ (ic_ ?_ (ic_ ?_ (ic_ ?_ ia_))))
                  · refine is_ rfl rfl (l' := #[true, true, true, true, true, true, true, true, true, false, false, false, false, false, false]) rfl ?_
                    refine qm T_ok 1 (k := 1) (by kernel_rfl) (by kernel_rfl) (by kernel_rfl) ?_
                    refine qz T_ok 0 [0, 9, 10, 78, 79, 80, 81, 82, 83, 84, 85, 86] 2 (E2 := Env.keep (quitclaimlaw14_TreeAll.r2 a0 x24 x25 x38 x40 x42) [0, 9, 10, 78, 79, 80, 81, 82, 83, 84, 85, 86]) (h1 := [.cells 46 [.p (.sl 2 S_F eS_F x9.f0_files)], .cells 46 [.p (.sl 2 S_F eS_F x25.f0_files)]]) (by kernel_rfl) (by kernel_rfl) (by kernel_rfl) (by kernel_rfl) (by kernel_rfl) ?_
                    exact ⟨rfl, s511⟩
                  · refine is_ rfl rfl (l' := #[true, true, true, true, true, true, true, true, false, true, false, false, false, false, false]) rfl ?_
                    refine qm T_ok 1 (k := 1) (by kernel_rfl) (by kernel_rfl) (by kernel_rfl) ?_
                    refine qz T_ok 0 [0, 9, 10, 78, 79, 80, 81, 82, 83, 84, 85, 87] 2 (E2 := Env.keep (quitclaimlaw14_TreeAll.r2 a0 x24 x25 x38 x40 x42) [0, 9, 10, 78, 79, 80, 81, 82, 83, 84, 85, 87]) (h1 := [.cells 46 [.p (.sl 2 S_F eS_F x9.f0_files)], .cells 46 [.p (.sl 2 S_F eS_F x25.f0_files)]]) (by kernel_rfl) (by kernel_rfl) (by kernel_rfl) (by kernel_rfl) (by kernel_rfl) ?_
                    exact ⟨rfl, s767⟩
                  · refine is_ rfl rfl (l' := #[true, true, true, true, true, true, true, true, false, false, true, false, false, false, false]) rfl ?_
                    refine qm T_ok 1 (k := 1) (by kernel_rfl) (by kernel_rfl) (by kernel_rfl) ?_
                    refine qz T_ok 0 [0, 9, 10, 78, 79, 80, 81, 82, 83, 84, 85, 88] 2 (E2 := Env.keep (quitclaimlaw14_TreeAll.r2 a0 x24 x25 x38 x40 x42) [0, 9, 10, 78, 79, 80, 81, 82, 83, 84, 85, 88]) (h1 := [.cells 46 [.p (.sl 2 S_F eS_F x9.f0_files)], .cells 46 [.p (.sl 2 S_F eS_F x25.f0_files)]]) (by kernel_rfl) (by kernel_rfl) (by kernel_rfl) (by kernel_rfl) (by kernel_rfl) ?_
                    exact ⟨rfl, s1279⟩
                  · refine is_ rfl rfl (l' := #[true, true, true, true, true, true, true, true, false, false, false, true, false, false, false]) rfl ?_
                    refine xa T_ok (j := 2) (ti := ti46) rfl rfl rfl rfl (by kernel_rfl) (by kernel_rfl) rfl ?_
                    refine qz T_ok 0 [0, 9, 10, 11, 78, 79, 80, 81, 82, 83, 84, 85] 3 (E2 := Env.keep (quitclaimlaw14_TreeAll.r2 a0 x24 x25 x38 x40 x42) [0, 9, 10, 11, 78, 79, 80, 81, 82, 83, 84, 85]) (h1 := [.cells 46 [.p (.sl 2 S_F eS_F x9.f0_files)], .cells 46 [.p (.sl 2 S_F eS_F x25.f0_files)], .cells 46 [.p (.sl 2 S_F eS_F [])]]) (by kernel_rfl) (by kernel_rfl) (by kernel_rfl) (by kernel_rfl) (by kernel_rfl) ?_
                    exact ⟨rfl, s2303⟩
                refine ih_ (k := 7) (l := #[true, true, true, true, true, true, true, false, false, false, false, true, false, false, false]) (E := Env.keep (quitclaimlaw14_TreeAll.r2 a0 x24 x25 x38 x40 x42) [0, 9, 10, 11, 79, 80, 81, 82, 83, 84, 85]) (h := [.cells 46 [.p (.sl 2 S_F eS_F x9.f0_files)], .cells 46 [.p (.sl 2 S_F eS_F x25.f0_files)], .cells 46 [.p (.sl 2 S_F eS_F [])]]) ?_ (fun s2175 => ?_)
                · refine im_ (js := [7]) (by kernel_rfl) (by simp) (ic_ ?_ ia_)
                  · refine is_ rfl rfl (l' := #[true, true, true, true, true, true, true, true, false, false, false, true, false, false, false]) rfl ?_
                    refine qm T_ok 1 (k := 1) (by kernel_rfl) (by kernel_rfl) (by kernel_rfl) ?_
                    refine qz T_ok 0 [0, 9, 10, 11, 78, 79, 80, 81, 82, 83, 84, 85] 3 (E2 := Env.keep (quitclaimlaw14_TreeAll.r2 a0 x24 x25 x38 x40 x42) [0, 9, 10, 11, 78, 79, 80, 81, 82, 83, 84, 85]) (h1 := [.cells 46 [.p (.sl 2 S_F eS_F x9.f0_files)], .cells 46 [.p (.sl 2 S_F eS_F x25.f0_files)], .cells 46 [.p (.sl 2 S_F eS_F [])]]) (by kernel_rfl) (by kernel_rfl) (by kernel_rfl) (by kernel_rfl) (by kernel_rfl) ?_
                    exact ⟨rfl, s2303⟩
                refine ih_ (k := 8) (l := #[true, true, true, true, true, true, true, false, false, false, false, false, false, false, false]) (E := Env.keep (quitclaimlaw14_TreeAll.r2 a0 x24 x25 x38 x40 x42) [0, 9, 10, 79, 80, 81, 82, 83, 84, 85]) (h := [.cells 46 [.p (.sl 2 S_F eS_F x9.f0_files)], .cells 46 [.p (.sl 2 S_F eS_F x25.f0_files)]]) ?_ (fun s127 => ?_)
                · refine im_ (js := [7, 11]) (by kernel_rfl) (by simp) (ic_ ?_ (ic_ ?_ ia_))
                  · refine is_ rfl rfl (l' := #[true, true, true, true, true, true, true, true, false, false, false, false, false, false, false]) rfl ?_
                    refine qm T_ok 1 (k := 1) (by kernel_rfl) (by kernel_rfl) (by kernel_rfl) ?_
                    refine qz T_ok 0 [0, 9, 10, 78, 79, 80, 81, 82, 83, 84, 85] 2 (E2 := Env.keep (quitclaimlaw14_TreeAll.r2 a0 x24 x25 x38 x40 x42) [0, 9, 10, 78, 79, 80, 81, 82, 83, 84, 85]) (h1 := [.cells 46 [.p (.sl 2 S_F eS_F x9.f0_files)], .cells 46 [.p (.sl 2 S_F eS_F x25.f0_files)]]) (by kernel_rfl) (by kernel_rfl) (by kernel_rfl) (by kernel_rfl) (by kernel_rfl) ?_
                    exact ⟨rfl, s255⟩
                  · refine is_ rfl rfl (l' := #[true, true, true, true, true, true, true, false, false, false, false, true, false, false, false]) rfl ?_
                    refine xa T_ok (j := 2) (ti := ti46) rfl rfl rfl rfl (by kernel_rfl) (by kernel_rfl) rfl ?_
                    refine qz T_ok 0 [0, 9, 10, 11, 79, 80, 81, 82, 83, 84, 85] 3 (E2 := Env.keep (quitclaimlaw14_TreeAll.r2 a0 x24 x25 x38 x40 x42) [0, 9, 10, 11, 79, 80, 81, 82, 83, 84, 85]) (h1 := [.cells 46 [.p (.sl 2 S_F eS_F x9.f0_files)], .cells 46 [.p (.sl 2 S_F eS_F x25.f0_files)], .cells 46 [.p (.sl 2 S_F eS_F [])]]) (by kernel_rfl) (by kernel_rfl) (by kernel_rfl) (by kernel_rfl) (by kernel_rfl) ?_
                    exact ⟨rfl, s2175⟩
                refine ih_ (k := 8) (l := #[true, true, true, true, true, true, false, false, false, false, false, true, false, false, false]) (E := Env.keep (quitclaimlaw14_TreeAll.r2 a0 x24 x25 x38 x40 x42) [0, 9, 10, 11, 79, 80, 81, 82, 83, 84]) (h := [.cells 46 [.p (.sl 2 S_F eS_F x9.f0_files)], .cells 46 [.p (.sl 2 S_F eS_F x25.f0_files)], .cells 46 [.p (.sl 2 S_F eS_F [])]]) ?_ (fun s2111 => ?_)
                · refine im_ (js := [6]) (by kernel_rfl) (by simp) (ic_ ?_ ia_)
                  · refine is_ rfl rfl (l' := #[true, true, true, true, true, true, true, false, false, false, false, true, false, false, false]) rfl ?_
                    refine qy rfl (zc (T := T) (tree_Tree_All.ok k x25 x40 _ hx43) Tryd.func32 rfl rfl (caps := []) (by kernel_rfl) (by kernel_rfl) (by kernel_rfl) (by kernel_rfl) (by kernel_rfl) (by kernel_rfl)) rfl (by kernel_rfl) rfl ?_
                    refine qz T_ok 0 [0, 9, 10, 11, 79, 80, 81, 82, 83, 84, 85] 3 (E2 := Env.keep (quitclaimlaw14_TreeAll.r2 a0 x24 x25 x38 x40 x42) [0, 9, 10, 11, 79, 80, 81, 82, 83, 84, 85]) (h1 := [.cells 46 [.p (.sl 2 S_F eS_F x9.f0_files)], .cells 46 [.p (.sl 2 S_F eS_F x25.f0_files)], .cells 46 [.p (.sl 2 S_F eS_F [])]]) (by kernel_rfl) (by kernel_rfl) (by kernel_rfl) (by kernel_rfl) (by kernel_rfl) ?_
                    exact ⟨rfl, s2175⟩
                refine ih_ (k := 9) (l := #[true, true, true, true, true, true, false, false, false, false, false, false, false, false, false]) (E := Env.keep (quitclaimlaw14_TreeAll.r2 a0 x24 x25 x38 x40 x42) [0, 9, 10, 79, 80, 81, 82, 83, 84]) (h := [.cells 46 [.p (.sl 2 S_F eS_F x9.f0_files)], .cells 46 [.p (.sl 2 S_F eS_F x25.f0_files)]]) ?_ (fun s63 => ?_)
                · refine im_ (js := [6, 11]) (by kernel_rfl) (by simp) (ic_ ?_ (ic_ ?_ ia_))
                  · refine is_ rfl rfl (l' := #[true, true, true, true, true, true, true, false, false, false, false, false, false, false, false]) rfl ?_
                    refine qy rfl (zc (T := T) (tree_Tree_All.ok k x25 x40 _ hx43) Tryd.func32 rfl rfl (caps := []) (by kernel_rfl) (by kernel_rfl) (by kernel_rfl) (by kernel_rfl) (by kernel_rfl) (by kernel_rfl)) rfl (by kernel_rfl) rfl ?_
                    refine qz T_ok 0 [0, 9, 10, 79, 80, 81, 82, 83, 84, 85] 2 (E2 := Env.keep (quitclaimlaw14_TreeAll.r2 a0 x24 x25 x38 x40 x42) [0, 9, 10, 79, 80, 81, 82, 83, 84, 85]) (h1 := [.cells 46 [.p (.sl 2 S_F eS_F x9.f0_files)], .cells 46 [.p (.sl 2 S_F eS_F x25.f0_files)]]) (by kernel_rfl) (by kernel_rfl) (by kernel_rfl) (by kernel_rfl) (by kernel_rfl) ?_
                    exact ⟨rfl, s127⟩
                  · refine is_ rfl rfl (l' := #[true, true, true, true, true, true, false, false, false, false, false, true, false, false, false]) rfl ?_
                    refine xa T_ok (j := 2) (ti := ti46) rfl rfl rfl rfl (by kernel_rfl) (by kernel_rfl) rfl ?_
                    refine qz T_ok 0 [0, 9, 10, 11, 79, 80, 81, 82, 83, 84] 3 (E2 := Env.keep (quitclaimlaw14_TreeAll.r2 a0 x24 x25 x38 x40 x42) [0, 9, 10, 11, 79, 80, 81, 82, 83, 84]) (h1 := [.cells 46 [.p (.sl 2 S_F eS_F x9.f0_files)], .cells 46 [.p (.sl 2 S_F eS_F x25.f0_files)], .cells 46 [.p (.sl 2 S_F eS_F [])]]) (by kernel_rfl) (by kernel_rfl) (by kernel_rfl) (by kernel_rfl) (by kernel_rfl) ?_
                    exact ⟨rfl, s2111⟩
                refine ih_ (k := 9) (l := #[true, true, true, true, true, false, false, false, false, false, false, true, false, false, false]) (E := Env.keep (quitclaimlaw14_TreeAll.r2 a0 x24 x25 x38 x40 x42) [0, 9, 10, 11, 79, 80, 81, 82, 83]) (h := [.cells 46 [.p (.sl 2 S_F eS_F x9.f0_files)], .cells 46 [.p (.sl 2 S_F eS_F x25.f0_files)], .cells 46 [.p (.sl 2 S_F eS_F [])]]) ?_ (fun s2079 => ?_)
                · refine im_ (js := [5]) (by kernel_rfl) (by simp) (ic_ ?_ ia_)
                  · refine is_ rfl rfl (l' := #[true, true, true, true, true, true, false, false, false, false, false, true, false, false, false]) rfl ?_
                    refine qy rfl (zc (T := T) (quitclaimref13_Inverse.ok x38 _ hx41) Tryd.func36 rfl rfl (caps := []) (by kernel_rfl) (by kernel_rfl) (by kernel_rfl) (by kernel_rfl) (by kernel_rfl) (by kernel_rfl)) rfl (by kernel_rfl) rfl ?_
                    refine qz T_ok 0 [0, 9, 10, 11, 79, 80, 81, 82, 83, 84] 3 (E2 := Env.keep (quitclaimlaw14_TreeAll.r2 a0 x24 x25 x38 x40 x42) [0, 9, 10, 11, 79, 80, 81, 82, 83, 84]) (h1 := [.cells 46 [.p (.sl 2 S_F eS_F x9.f0_files)], .cells 46 [.p (.sl 2 S_F eS_F x25.f0_files)], .cells 46 [.p (.sl 2 S_F eS_F [])]]) (by kernel_rfl) (by kernel_rfl) (by kernel_rfl) (by kernel_rfl) (by kernel_rfl) ?_
                    exact ⟨rfl, s2111⟩
                refine ih_ (k := 9) (l := #[false, true, true, true, true, true, false, false, false, false, false, true, false, false, false]) (E := Env.keep (quitclaimlaw14_TreeAll.r2 a0 x24 x25 x38 x40 x42) [0, 9, 10, 11, 80, 81, 82, 83, 84]) (h := [.cells 46 [.p (.sl 2 S_F eS_F x9.f0_files)], .cells 46 [.p (.sl 2 S_F eS_F x25.f0_files)], .cells 46 [.p (.sl 2 S_F eS_F [])]]) ?_ (fun s2110 => ?_)
                · refine im_ (js := [0]) (by kernel_rfl) (by simp) (ic_ ?_ ia_)
                  · refine is_ rfl rfl (l' := #[true, true, true, true, true, true, false, false, false, false, false, true, false, false, false]) rfl ?_
                    refine qm T_ok 1 (k := 1) (by kernel_rfl) (by kernel_rfl) (by kernel_rfl) ?_
                    refine qz T_ok 0 [0, 9, 10, 11, 79, 80, 81, 82, 83, 84] 3 (E2 := Env.keep (quitclaimlaw14_TreeAll.r2 a0 x24 x25 x38 x40 x42) [0, 9, 10, 11, 79, 80, 81, 82, 83, 84]) (h1 := [.cells 46 [.p (.sl 2 S_F eS_F x9.f0_files)], .cells 46 [.p (.sl 2 S_F eS_F x25.f0_files)], .cells 46 [.p (.sl 2 S_F eS_F [])]]) (by kernel_rfl) (by kernel_rfl) (by kernel_rfl) (by kernel_rfl) (by kernel_rfl) ?_
                    exact ⟨rfl, s2111⟩
                refine ih_ (k := 10) (l := #[true, true, true, true, true, false, false, false, false, false, false, false, false, false, false]) (E := Env.keep (quitclaimlaw14_TreeAll.r2 a0 x24 x25 x38 x40 x42) [0, 9, 10, 79, 80, 81, 82, 83]) (h := [.cells 46 [.p (.sl 2 S_F eS_F x9.f0_files)], .cells 46 [.p (.sl 2 S_F eS_F x25.f0_files)]]) ?_ (fun s31 => ?_)
                · refine im_ (js := [5, 11]) (by kernel_rfl) (by simp) (ic_ ?_ (ic_ ?_ ia_))
                  · refine is_ rfl rfl (l' := #[true, true, true, true, true, true, false, false, false, false, false, false, false, false, false]) rfl ?_
                    refine qy rfl (zc (T := T) (quitclaimref13_Inverse.ok x38 _ hx41) Tryd.func36 rfl rfl (caps := []) (by kernel_rfl) (by kernel_rfl) (by kernel_rfl) (by kernel_rfl) (by kernel_rfl) (by kernel_rfl)) rfl (by kernel_rfl) rfl ?_
                    refine qz T_ok 0 [0, 9, 10, 79, 80, 81, 82, 83, 84] 2 (E2 := Env.keep (quitclaimlaw14_TreeAll.r2 a0 x24 x25 x38 x40 x42) [0, 9, 10, 79, 80, 81, 82, 83, 84]) (h1 := [.cells 46 [.p (.sl 2 S_F eS_F x9.f0_files)], .cells 46 [.p (.sl 2 S_F eS_F x25.f0_files)]]) (by kernel_rfl) (by kernel_rfl) (by kernel_rfl) (by kernel_rfl) (by kernel_rfl) ?_
                    exact ⟨rfl, s63⟩
                  · refine is_ rfl rfl (l' := #[true, true, true, true, true, false, false, false, false, false, false, true, false, false, false]) rfl ?_
                    refine xa T_ok (j := 2) (ti := ti46) rfl rfl rfl rfl (by kernel_rfl) (by kernel_rfl) rfl ?_
                    refine qz T_ok 0 [0, 9, 10, 11, 79, 80, 81, 82, 83] 3 (E2 := Env.keep (quitclaimlaw14_TreeAll.r2 a0 x24 x25 x38 x40 x42) [0, 9, 10, 11, 79, 80, 81, 82, 83]) (h1 := [.cells 46 [.p (.sl 2 S_F eS_F x9.f0_files)], .cells 46 [.p (.sl 2 S_F eS_F x25.f0_files)], .cells 46 [.p (.sl 2 S_F eS_F [])]]) (by kernel_rfl) (by kernel_rfl) (by kernel_rfl) (by kernel_rfl) (by kernel_rfl) ?_
                    exact ⟨rfl, s2079⟩
                refine ih_ (k := 10) (l := #[false, true, true, true, true, true, false, false, false, false, false, false, false, false, false]) (E := Env.keep (quitclaimlaw14_TreeAll.r2 a0 x24 x25 x38 x40 x42) [0, 9, 10, 80, 81, 82, 83, 84]) (h := [.cells 46 [.p (.sl 2 S_F eS_F x9.f0_files)], .cells 46 [.p (.sl 2 S_F eS_F x25.f0_files)]]) ?_ (fun s62 => ?_)
                · refine im_ (js := [0, 11]) (by kernel_rfl) (by simp) (ic_ ?_ (ic_ ?_ ia_))
                  · refine is_ rfl rfl (l' := #[true, true, true, true, true, true, false, false, false, false, false, false, false, false, false]) rfl ?_
                    refine qm T_ok 1 (k := 1) (by kernel_rfl) (by kernel_rfl) (by kernel_rfl) ?_
                    refine qz T_ok 0 [0, 9, 10, 79, 80, 81, 82, 83, 84] 2 (E2 := Env.keep (quitclaimlaw14_TreeAll.r2 a0 x24 x25 x38 x40 x42) [0, 9, 10, 79, 80, 81, 82, 83, 84]) (h1 := [.cells 46 [.p (.sl 2 S_F eS_F x9.f0_files)], .cells 46 [.p (.sl 2 S_F eS_F x25.f0_files)]]) (by kernel_rfl) (by kernel_rfl) (by kernel_rfl) (by kernel_rfl) (by kernel_rfl) ?_
                    exact ⟨rfl, s63⟩
                  · refine is_ rfl rfl (l' := #[false, true, true, true, true, true, false, false, false, false, false, true, false, false, false]) rfl ?_
                    refine xa T_ok (j := 2) (ti := ti46) rfl rfl rfl rfl (by kernel_rfl) (by kernel_rfl) rfl ?_
                    refine qz T_ok 0 [0, 9, 10, 11, 80, 81, 82, 83, 84] 3 (E2 := Env.keep (quitclaimlaw14_TreeAll.r2 a0 x24 x25 x38 x40 x42) [0, 9, 10, 11, 80, 81, 82, 83, 84]) (h1 := [.cells 46 [.p (.sl 2 S_F eS_F x9.f0_files)], .cells 46 [.p (.sl 2 S_F eS_F x25.f0_files)], .cells 46 [.p (.sl 2 S_F eS_F [])]]) (by kernel_rfl) (by kernel_rfl) (by kernel_rfl) (by kernel_rfl) (by kernel_rfl) ?_
                    exact ⟨rfl, s2110⟩
                refine ih_ (k := 10) (l := #[true, true, true, true, false, false, false, false, false, false, false, true, false, false, false]) (E := Env.keep (quitclaimlaw14_TreeAll.r2 a0 x24 x25 x38 x40 x42) [0, 9, 10, 11, 79, 80, 81, 82]) (h := [.cells 46 [.p (.sl 2 S_F eS_F x9.f0_files)], .cells 46 [.p (.sl 2 S_F eS_F x25.f0_files)], .cells 46 [.p (.sl 2 S_F eS_F [])]]) ?_ (fun s2063 => ?_)
                · refine im_ (js := [4]) (by kernel_rfl) (by simp) (ic_ ?_ ia_)
                  · refine is_ rfl rfl (l' := #[true, true, true, true, true, false, false, false, false, false, false, true, false, false, false]) rfl ?_
                    refine qm T_ok 1 (k := 1) (by kernel_rfl) (by kernel_rfl) (by kernel_rfl) ?_
                    refine qz T_ok 0 [0, 9, 10, 11, 79, 80, 81, 82, 83] 3 (E2 := Env.keep (quitclaimlaw14_TreeAll.r2 a0 x24 x25 x38 x40 x42) [0, 9, 10, 11, 79, 80, 81, 82, 83]) (h1 := [.cells 46 [.p (.sl 2 S_F eS_F x9.f0_files)], .cells 46 [.p (.sl 2 S_F eS_F x25.f0_files)], .cells 46 [.p (.sl 2 S_F eS_F [])]]) (by kernel_rfl) (by kernel_rfl) (by kernel_rfl) (by kernel_rfl) (by kernel_rfl) ?_
                    exact ⟨rfl, s2079⟩
                refine ih_ (k := 10) (l := #[false, true, true, true, true, false, false, false, false, false, false, true, false, false, false]) (E := Env.keep (quitclaimlaw14_TreeAll.r2 a0 x24 x25 x38 x40 x42) [0, 9, 10, 11, 80, 81, 82, 83]) (h := [.cells 46 [.p (.sl 2 S_F eS_F x9.f0_files)], .cells 46 [.p (.sl 2 S_F eS_F x25.f0_files)], .cells 46 [.p (.sl 2 S_F eS_F [])]]) ?_ (fun s2078 => ?_)
                · refine im_ (js := [0, 5]) (by kernel_rfl) (by simp) (ic_ ?_ (ic_ ?_ ia_))
                  · refine is_ rfl rfl (l' := #[true, true, true, true, true, false, false, false, false, false, false, true, false, false, false]) rfl ?_
                    refine qm T_ok 1 (k := 1) (by kernel_rfl) (by kernel_rfl) (by kernel_rfl) ?_
                    refine qz T_ok 0 [0, 9, 10, 11, 79, 80, 81, 82, 83] 3 (E2 := Env.keep (quitclaimlaw14_TreeAll.r2 a0 x24 x25 x38 x40 x42) [0, 9, 10, 11, 79, 80, 81, 82, 83]) (h1 := [.cells 46 [.p (.sl 2 S_F eS_F x9.f0_files)], .cells 46 [.p (.sl 2 S_F eS_F x25.f0_files)], .cells 46 [.p (.sl 2 S_F eS_F [])]]) (by kernel_rfl) (by kernel_rfl) (by kernel_rfl) (by kernel_rfl) (by kernel_rfl) ?_
                    exact ⟨rfl, s2079⟩
                  · refine is_ rfl rfl (l' := #[false, true, true, true, true, true, false, false, false, false, false, true, false, false, false]) rfl ?_
                    refine qy rfl (zc (T := T) (quitclaimref13_Inverse.ok x38 _ hx41) Tryd.func36 rfl rfl (caps := []) (by kernel_rfl) (by kernel_rfl) (by kernel_rfl) (by kernel_rfl) (by kernel_rfl) (by kernel_rfl)) rfl (by kernel_rfl) rfl ?_
                    refine qz T_ok 0 [0, 9, 10, 11, 80, 81, 82, 83, 84] 3 (E2 := Env.keep (quitclaimlaw14_TreeAll.r2 a0 x24 x25 x38 x40 x42) [0, 9, 10, 11, 80, 81, 82, 83, 84]) (h1 := [.cells 46 [.p (.sl 2 S_F eS_F x9.f0_files)], .cells 46 [.p (.sl 2 S_F eS_F x25.f0_files)], .cells 46 [.p (.sl 2 S_F eS_F [])]]) (by kernel_rfl) (by kernel_rfl) (by kernel_rfl) (by kernel_rfl) (by kernel_rfl) ?_
                    exact ⟨rfl, s2110⟩
                refine ih_ (k := 11) (l := #[true, true, true, true, false, false, false, false, false, false, false, false, false, false, false]) (E := Env.keep (quitclaimlaw14_TreeAll.r2 a0 x24 x25 x38 x40 x42) [0, 9, 10, 79, 80, 81, 82]) (h := [.cells 46 [.p (.sl 2 S_F eS_F x9.f0_files)], .cells 46 [.p (.sl 2 S_F eS_F x25.f0_files)]]) ?_ (fun s15 => ?_)
                · refine im_ (js := [4, 11]) (by kernel_rfl) (by simp) (ic_ ?_ (ic_ ?_ ia_))
                  · refine is_ rfl rfl (l' := #[true, true, true, true, true, false, false, false, false, false, false, false, false, false, false]) rfl ?_
                    refine qm T_ok 1 (k := 1) (by kernel_rfl) (by kernel_rfl) (by kernel_rfl) ?_
                    refine qz T_ok 0 [0, 9, 10, 79, 80, 81, 82, 83] 2 (E2 := Env.keep (quitclaimlaw14_TreeAll.r2 a0 x24 x25 x38 x40 x42) [0, 9, 10, 79, 80, 81, 82, 83]) (h1 := [.cells 46 [.p (.sl 2 S_F eS_F x9.f0_files)], .cells 46 [.p (.sl 2 S_F eS_F x25.f0_files)]]) (by kernel_rfl) (by kernel_rfl) (by kernel_rfl) (by kernel_rfl) (by kernel_rfl) ?_
                    exact ⟨rfl, s31⟩
                  · refine is_ rfl rfl (l' := #[true, true, true, true, false, false, false, false, false, false, false, true, false, false, false]) rfl ?_
                    refine xa T_ok (j := 2) (ti := ti46) rfl rfl rfl rfl (by kernel_rfl) (by kernel_rfl) rfl ?_
                    refine qz T_ok 0 [0, 9, 10, 11, 79, 80, 81, 82] 3 (E2 := Env.keep (quitclaimlaw14_TreeAll.r2 a0 x24 x25 x38 x40 x42) [0, 9, 10, 11, 79, 80, 81, 82]) (h1 := [.cells 46 [.p (.sl 2 S_F eS_F x9.f0_files)], .cells 46 [.p (.sl 2 S_F eS_F x25.f0_files)], .cells 46 [.p (.sl 2 S_F eS_F [])]]) (by kernel_rfl) (by kernel_rfl) (by kernel_rfl) (by kernel_rfl) (by kernel_rfl) ?_
                    exact ⟨rfl, s2063⟩
                refine ih_ (k := 11) (l := #[false, true, true, true, true, false, false, false, false, false, false, false, false, false, false]) (E := Env.keep (quitclaimlaw14_TreeAll.r2 a0 x24 x25 x38 x40 x42) [0, 9, 10, 80, 81, 82, 83]) (h := [.cells 46 [.p (.sl 2 S_F eS_F x9.f0_files)], .cells 46 [.p (.sl 2 S_F eS_F x25.f0_files)]]) ?_ (fun s30 => ?_)
                · refine im_ (js := [0, 5, 11]) (by kernel_rfl) (by simp) (ic_ ?_ (ic_ ?_ (ic_ ?_ ia_)))
                  · refine is_ rfl rfl (l' := #[true, true, true, true, true, false, false, false, false, false, false, false, false, false, false]) rfl ?_
                    refine qm T_ok 1 (k := 1) (by kernel_rfl) (by kernel_rfl) (by kernel_rfl) ?_
                    refine qz T_ok 0 [0, 9, 10, 79, 80, 81, 82, 83] 2 (E2 := Env.keep (quitclaimlaw14_TreeAll.r2 a0 x24 x25 x38 x40 x42) [0, 9, 10, 79, 80, 81, 82, 83]) (h1 := [.cells 46 [.p (.sl 2 S_F eS_F x9.f0_files)], .cells 46 [.p (.sl 2 S_F eS_F x25.f0_files)]]) (by kernel_rfl) (by kernel_rfl) (by kernel_rfl) (by kernel_rfl) (by kernel_rfl) ?_
                    exact ⟨rfl, s31⟩
                  · refine is_ rfl rfl (l' := #[false, true, true, true, true, true, false, false, false, false, false, false, false, false, false]) rfl ?_
                    refine qy rfl (zc (T := T) (quitclaimref13_Inverse.ok x38 _ hx41) Tryd.func36 rfl rfl (caps := []) (by kernel_rfl) (by kernel_rfl) (by kernel_rfl) (by kernel_rfl) (by kernel_rfl) (by kernel_rfl)) rfl (by kernel_rfl) rfl ?_
                    refine qz T_ok 0 [0, 9, 10, 80, 81, 82, 83, 84] 2 (E2 := Env.keep (quitclaimlaw14_TreeAll.r2 a0 x24 x25 x38 x40 x42) [0, 9, 10, 80, 81, 82, 83, 84]) (h1 := [.cells 46 [.p (.sl 2 S_F eS_F x9.f0_files)], .cells 46 [.p (.sl 2 S_F eS_F x25.f0_files)]]) (by kernel_rfl) (by kernel_rfl) (by kernel_rfl) (by kernel_rfl) (by kernel_rfl) ?_
                    exact ⟨rfl, s62⟩
                  · refine is_ rfl rfl (l' := #[false, true, true, true, true, false, false, false, false, false, false, true, false, false, false]) rfl ?_
                    refine xa T_ok (j := 2) (ti := ti46) rfl rfl rfl rfl (by kernel_rfl) (by kernel_rfl) rfl ?_
                    refine qz T_ok 0 [0, 9, 10, 11, 80, 81, 82, 83] 3 (E2 := Env.keep (quitclaimlaw14_TreeAll.r2 a0 x24 x25 x38 x40 x42) [0, 9, 10, 11, 80, 81, 82, 83]) (h1 := [.cells 46 [.p (.sl 2 S_F eS_F x9.f0_files)], .cells 46 [.p (.sl 2 S_F eS_F x25.f0_files)], .cells 46 [.p (.sl 2 S_F eS_F [])]]) (by kernel_rfl) (by kernel_rfl) (by kernel_rfl) (by kernel_rfl) (by kernel_rfl) ?_
                    exact ⟨rfl, s2078⟩
                refine ih_ (k := 11) (l := #[true, true, true, false, false, false, false, false, false, false, false, true, false, false, false]) (E := Env.keep (quitclaimlaw14_TreeAll.r2 a0 x24 x25 x38 x40 x42) [0, 9, 10, 11, 79, 80, 81]) (h := [.cells 46 [.p (.sl 2 S_F eS_F x9.f0_files)], .cells 46 [.p (.sl 2 S_F eS_F x25.f0_files)], .cells 46 [.p (.sl 2 S_F eS_F [])]]) ?_ (fun s2055 => ?_)
                · refine im_ (js := [3]) (by kernel_rfl) (by simp) (ic_ ?_ ia_)
                  · refine is_ rfl rfl (l' := #[true, true, true, true, false, false, false, false, false, false, false, true, false, false, false]) rfl ?_
                    refine qy rfl (zi T_ok .i64 (enc := eS_Op) (l := a0) (e := 57) (n := 39) (ei := ti57) (sa := (.p (.sl 39 S_Op eS_Op a0))) hx39 rfl (by kernel_rfl) (by kernel_rfl) rfl (by kernel_rfl) (by kernel_rfl) (by kernel_rfl)) rfl (by kernel_rfl) rfl ?_
                    refine qz T_ok 0 [0, 9, 10, 11, 79, 80, 81, 82] 3 (E2 := Env.keep (quitclaimlaw14_TreeAll.r2 a0 x24 x25 x38 x40 x42) [0, 9, 10, 11, 79, 80, 81, 82]) (h1 := [.cells 46 [.p (.sl 2 S_F eS_F x9.f0_files)], .cells 46 [.p (.sl 2 S_F eS_F x25.f0_files)], .cells 46 [.p (.sl 2 S_F eS_F [])]]) (by kernel_rfl) (by kernel_rfl) (by kernel_rfl) (by kernel_rfl) (by kernel_rfl) ?_
                    exact ⟨rfl, s2063⟩
                refine ih_ (k := 11) (l := #[false, true, true, true, false, false, false, false, false, false, false, true, false, false, false]) (E := Env.keep (quitclaimlaw14_TreeAll.r2 a0 x24 x25 x38 x40 x42) [0, 9, 10, 11, 80, 81, 82]) (h := [.cells 46 [.p (.sl 2 S_F eS_F x9.f0_files)], .cells 46 [.p (.sl 2 S_F eS_F x25.f0_files)], .cells 46 [.p (.sl 2 S_F eS_F [])]]) ?_ (fun s2062 => ?_)
                · refine im_ (js := [0, 4]) (by kernel_rfl) (by simp) (ic_ ?_ (ic_ ?_ ia_))
                  · refine is_ rfl rfl (l' := #[true, true, true, true, false, false, false, false, false, false, false, true, false, false, false]) rfl ?_
                    refine qm T_ok 1 (k := 1) (by kernel_rfl) (by kernel_rfl) (by kernel_rfl) ?_
                    refine qz T_ok 0 [0, 9, 10, 11, 79, 80, 81, 82] 3 (E2 := Env.keep (quitclaimlaw14_TreeAll.r2 a0 x24 x25 x38 x40 x42) [0, 9, 10, 11, 79, 80, 81, 82]) (h1 := [.cells 46 [.p (.sl 2 S_F eS_F x9.f0_files)], .cells 46 [.p (.sl 2 S_F eS_F x25.f0_files)], .cells 46 [.p (.sl 2 S_F eS_F [])]]) (by kernel_rfl) (by kernel_rfl) (by kernel_rfl) (by kernel_rfl) (by kernel_rfl) ?_
                    exact ⟨rfl, s2063⟩
                  · refine is_ rfl rfl (l' := #[false, true, true, true, true, false, false, false, false, false, false, true, false, false, false]) rfl ?_
                    refine qm T_ok 1 (k := 1) (by kernel_rfl) (by kernel_rfl) (by kernel_rfl) ?_
                    refine qz T_ok 0 [0, 9, 10, 11, 80, 81, 82, 83] 3 (E2 := Env.keep (quitclaimlaw14_TreeAll.r2 a0 x24 x25 x38 x40 x42) [0, 9, 10, 11, 80, 81, 82, 83]) (h1 := [.cells 46 [.p (.sl 2 S_F eS_F x9.f0_files)], .cells 46 [.p (.sl 2 S_F eS_F x25.f0_files)], .cells 46 [.p (.sl 2 S_F eS_F [])]]) (by kernel_rfl) (by kernel_rfl) (by kernel_rfl) (by kernel_rfl) (by kernel_rfl) ?_
                    exact ⟨rfl, s2078⟩
                refine ih_ (k := 12) (l := #[true, true, true, false, false, false, false, false, false, false, false, false, false, false, false]) (E := Env.keep (quitclaimlaw14_TreeAll.r2 a0 x24 x25 x38 x40 x42) [0, 9, 10, 79, 80, 81]) (h := [.cells 46 [.p (.sl 2 S_F eS_F x9.f0_files)], .cells 46 [.p (.sl 2 S_F eS_F x25.f0_files)]]) ?_ (fun s7 => ?_)
                · refine im_ (js := [3, 11]) (by kernel_rfl) (by simp) (ic_ ?_ (ic_ ?_ ia_))
                  · refine is_ rfl rfl (l' := #[true, true, true, true, false, false, false, false, false, false, false, false, false, false, false]) rfl ?_
                    refine qy rfl (zi T_ok .i64 (enc := eS_Op) (l := a0) (e := 57) (n := 39) (ei := ti57) (sa := (.p (.sl 39 S_Op eS_Op a0))) hx39 rfl (by kernel_rfl) (by kernel_rfl) rfl (by kernel_rfl) (by kernel_rfl) (by kernel_rfl)) rfl (by kernel_rfl) rfl ?_
                    refine qz T_ok 0 [0, 9, 10, 79, 80, 81, 82] 2 (E2 := Env.keep (quitclaimlaw14_TreeAll.r2 a0 x24 x25 x38 x40 x42) [0, 9, 10, 79, 80, 81, 82]) (h1 := [.cells 46 [.p (.sl 2 S_F eS_F x9.f0_files)], .cells 46 [.p (.sl 2 S_F eS_F x25.f0_files)]]) (by kernel_rfl) (by kernel_rfl) (by kernel_rfl) (by kernel_rfl) (by kernel_rfl) ?_
                    exact ⟨rfl, s15⟩
                  · refine is_ rfl rfl (l' := #[true, true, true, false, false, false, false, false, false, false, false, true, false, false, false]) rfl ?_
                    refine xa T_ok (j := 2) (ti := ti46) rfl rfl rfl rfl (by kernel_rfl) (by kernel_rfl) rfl ?_
                    refine qz T_ok 0 [0, 9, 10, 11, 79, 80, 81] 3 (E2 := Env.keep (quitclaimlaw14_TreeAll.r2 a0 x24 x25 x38 x40 x42) [0, 9, 10, 11, 79, 80, 81]) (h1 := [.cells 46 [.p (.sl 2 S_F eS_F x9.f0_files)], .cells 46 [.p (.sl 2 S_F eS_F x25.f0_files)], .cells 46 [.p (.sl 2 S_F eS_F [])]]) (by kernel_rfl) (by kernel_rfl) (by kernel_rfl) (by kernel_rfl) (by kernel_rfl) ?_
                    exact ⟨rfl, s2055⟩
                refine ih_ (k := 12) (l := #[false, true, true, true, false, false, false, false, false, false, false, false, false, false, false]) (E := Env.keep (quitclaimlaw14_TreeAll.r2 a0 x24 x25 x38 x40 x42) [0, 9, 10, 80, 81, 82]) (h := [.cells 46 [.p (.sl 2 S_F eS_F x9.f0_files)], .cells 46 [.p (.sl 2 S_F eS_F x25.f0_files)]]) ?_ (fun s14 => ?_)
                · refine im_ (js := [0, 4, 11]) (by kernel_rfl) (by simp) (ic_ ?_ (ic_ ?_ (ic_ ?_ ia_)))
                  · refine is_ rfl rfl (l' := #[true, true, true, true, false, false, false, false, false, false, false, false, false, false, false]) rfl ?_
                    refine qm T_ok 1 (k := 1) (by kernel_rfl) (by kernel_rfl) (by kernel_rfl) ?_
                    refine qz T_ok 0 [0, 9, 10, 79, 80, 81, 82] 2 (E2 := Env.keep (quitclaimlaw14_TreeAll.r2 a0 x24 x25 x38 x40 x42) [0, 9, 10, 79, 80, 81, 82]) (h1 := [.cells 46 [.p (.sl 2 S_F eS_F x9.f0_files)], .cells 46 [.p (.sl 2 S_F eS_F x25.f0_files)]]) (by kernel_rfl) (by kernel_rfl) (by kernel_rfl) (by kernel_rfl) (by kernel_rfl) ?_
                    exact ⟨rfl, s15⟩
                  · refine is_ rfl rfl (l' := #[false, true, true, true, true, false, false, false, false, false, false, false, false, false, false]) rfl ?_
                    refine qm T_ok 1 (k := 1) (by kernel_rfl) (by kernel_rfl) (by kernel_rfl) ?_
                    refine qz T_ok 0 [0, 9, 10, 80, 81, 82, 83] 2 (E2 := Env.keep (quitclaimlaw14_TreeAll.r2 a0 x24 x25 x38 x40 x42) [0, 9, 10, 80, 81, 82, 83]) (h1 := [.cells 46 [.p (.sl 2 S_F eS_F x9.f0_files)], .cells 46 [.p (.sl 2 S_F eS_F x25.f0_files)]]) (by kernel_rfl) (by kernel_rfl) (by kernel_rfl) (by kernel_rfl) (by kernel_rfl) ?_
                    exact ⟨rfl, s30⟩
                  · refine is_ rfl rfl (l' := #[false, true, true, true, false, false, false, false, false, false, false, true, false, false, false]) rfl ?_
                    refine xa T_ok (j := 2) (ti := ti46) rfl rfl rfl rfl (by kernel_rfl) (by kernel_rfl) rfl ?_
                    refine qz T_ok 0 [0, 9, 10, 11, 80, 81, 82] 3 (E2 := Env.keep (quitclaimlaw14_TreeAll.r2 a0 x24 x25 x38 x40 x42) [0, 9, 10, 11, 80, 81, 82]) (h1 := [.cells 46 [.p (.sl 2 S_F eS_F x9.f0_files)], .cells 46 [.p (.sl 2 S_F eS_F x25.f0_files)], .cells 46 [.p (.sl 2 S_F eS_F [])]]) (by kernel_rfl) (by kernel_rfl) (by kernel_rfl) (by kernel_rfl) (by kernel_rfl) ?_
                    exact ⟨rfl, s2062⟩
                refine ih_ (k := 12) (l := #[true, true, false, false, false, false, false, false, false, false, false, true, false, false, false]) (E := Env.keep (quitclaimlaw14_TreeAll.r2 a0 x24 x25 x38 x40 x42) [0, 9, 10, 11, 79, 80]) (h := [.cells 46 [.p (.sl 2 S_F eS_F x9.f0_files)], .cells 46 [.p (.sl 2 S_F eS_F x25.f0_files)], .cells 46 [.p (.sl 2 S_F eS_F [])]]) ?_ (fun s2051 => ?_)
                · refine im_ (js := [2]) (by kernel_rfl) (by simp) (ic_ ?_ ia_)
                  · refine is_ rfl rfl (l' := #[true, true, true, false, false, false, false, false, false, false, false, true, false, false, false]) rfl ?_
                    refine qm T_ok 1 (k := 1) (by kernel_rfl) (by kernel_rfl) (by kernel_rfl) ?_
                    refine qz T_ok 0 [0, 9, 10, 11, 79, 80, 81] 3 (E2 := Env.keep (quitclaimlaw14_TreeAll.r2 a0 x24 x25 x38 x40 x42) [0, 9, 10, 11, 79, 80, 81]) (h1 := [.cells 46 [.p (.sl 2 S_F eS_F x9.f0_files)], .cells 46 [.p (.sl 2 S_F eS_F x25.f0_files)], .cells 46 [.p (.sl 2 S_F eS_F [])]]) (by kernel_rfl) (by kernel_rfl) (by kernel_rfl) (by kernel_rfl) (by kernel_rfl) ?_
                    exact ⟨rfl, s2055⟩
                refine ih_ (k := 12) (l := #[true, false, true, false, false, false, false, false, false, false, false, true, false, false, false]) (E := Env.keep (quitclaimlaw14_TreeAll.r2 a0 x24 x25 x38 x40 x42) [0, 9, 10, 11, 79, 81]) (h := [.cells 46 [.p (.sl 2 S_F eS_F x9.f0_files)], .cells 46 [.p (.sl 2 S_F eS_F x25.f0_files)], .cells 46 [.p (.sl 2 S_F eS_F [])]]) ?_ (fun s2053 => ?_)
                · refine im_ (js := [1]) (by kernel_rfl) (by simp) (ic_ ?_ ia_)
                  · refine is_ rfl rfl (l' := #[true, true, true, false, false, false, false, false, false, false, false, true, false, false, false]) rfl ?_
                    refine qm T_ok 1 (k := 1) (by kernel_rfl) (by kernel_rfl) (by kernel_rfl) ?_
                    refine qz T_ok 0 [0, 9, 10, 11, 79, 80, 81] 3 (E2 := Env.keep (quitclaimlaw14_TreeAll.r2 a0 x24 x25 x38 x40 x42) [0, 9, 10, 11, 79, 80, 81]) (h1 := [.cells 46 [.p (.sl 2 S_F eS_F x9.f0_files)], .cells 46 [.p (.sl 2 S_F eS_F x25.f0_files)], .cells 46 [.p (.sl 2 S_F eS_F [])]]) (by kernel_rfl) (by kernel_rfl) (by kernel_rfl) (by kernel_rfl) (by kernel_rfl) ?_
                    exact ⟨rfl, s2055⟩
                refine ih_ (k := 12) (l := #[false, true, true, false, false, false, false, false, false, false, false, true, false, false, false]) (E := Env.keep (quitclaimlaw14_TreeAll.r2 a0 x24 x25 x38 x40 x42) [0, 9, 10, 11, 80, 81]) (h := [.cells 46 [.p (.sl 2 S_F eS_F x9.f0_files)], .cells 46 [.p (.sl 2 S_F eS_F x25.f0_files)], .cells 46 [.p (.sl 2 S_F eS_F [])]]) ?_ (fun s2054 => ?_)
                · refine im_ (js := [0, 3]) (by kernel_rfl) (by simp) (ic_ ?_ (ic_ ?_ ia_))
                  · refine is_ rfl rfl (l' := #[true, true, true, false, false, false, false, false, false, false, false, true, false, false, false]) rfl ?_
                    refine qm T_ok 1 (k := 1) (by kernel_rfl) (by kernel_rfl) (by kernel_rfl) ?_
                    refine qz T_ok 0 [0, 9, 10, 11, 79, 80, 81] 3 (E2 := Env.keep (quitclaimlaw14_TreeAll.r2 a0 x24 x25 x38 x40 x42) [0, 9, 10, 11, 79, 80, 81]) (h1 := [.cells 46 [.p (.sl 2 S_F eS_F x9.f0_files)], .cells 46 [.p (.sl 2 S_F eS_F x25.f0_files)], .cells 46 [.p (.sl 2 S_F eS_F [])]]) (by kernel_rfl) (by kernel_rfl) (by kernel_rfl) (by kernel_rfl) (by kernel_rfl) ?_
                    exact ⟨rfl, s2055⟩
                  · refine is_ rfl rfl (l' := #[false, true, true, true, false, false, false, false, false, false, false, true, false, false, false]) rfl ?_
                    refine qy rfl (zi T_ok .i64 (enc := eS_Op) (l := a0) (e := 57) (n := 39) (ei := ti57) (sa := (.p (.sl 39 S_Op eS_Op a0))) hx39 rfl (by kernel_rfl) (by kernel_rfl) rfl (by kernel_rfl) (by kernel_rfl) (by kernel_rfl)) rfl (by kernel_rfl) rfl ?_
                    refine qz T_ok 0 [0, 9, 10, 11, 80, 81, 82] 3 (E2 := Env.keep (quitclaimlaw14_TreeAll.r2 a0 x24 x25 x38 x40 x42) [0, 9, 10, 11, 80, 81, 82]) (h1 := [.cells 46 [.p (.sl 2 S_F eS_F x9.f0_files)], .cells 46 [.p (.sl 2 S_F eS_F x25.f0_files)], .cells 46 [.p (.sl 2 S_F eS_F [])]]) (by kernel_rfl) (by kernel_rfl) (by kernel_rfl) (by kernel_rfl) (by kernel_rfl) ?_
                    exact ⟨rfl, s2062⟩
                refine ih_ (k := 13) (l := #[true, true, false, false, false, false, false, false, false, false, false, false, false, false, false]) (E := Env.keep (quitclaimlaw14_TreeAll.r2 a0 x24 x25 x38 x40 x42) [0, 9, 10, 79, 80]) (h := [.cells 46 [.p (.sl 2 S_F eS_F x9.f0_files)], .cells 46 [.p (.sl 2 S_F eS_F x25.f0_files)]]) ?_ (fun s3 => ?_)
                · refine im_ (js := [2, 11]) (by kernel_rfl) (by simp) (ic_ ?_ (ic_ ?_ ia_))
                  · refine is_ rfl rfl (l' := #[true, true, true, false, false, false, false, false, false, false, false, false, false, false, false]) rfl ?_
                    refine qm T_ok 1 (k := 1) (by kernel_rfl) (by kernel_rfl) (by kernel_rfl) ?_
                    refine qz T_ok 0 [0, 9, 10, 79, 80, 81] 2 (E2 := Env.keep (quitclaimlaw14_TreeAll.r2 a0 x24 x25 x38 x40 x42) [0, 9, 10, 79, 80, 81]) (h1 := [.cells 46 [.p (.sl 2 S_F eS_F x9.f0_files)], .cells 46 [.p (.sl 2 S_F eS_F x25.f0_files)]]) (by kernel_rfl) (by kernel_rfl) (by kernel_rfl) (by kernel_rfl) (by kernel_rfl) ?_
                    exact ⟨rfl, s7⟩
                  · refine is_ rfl rfl (l' := #[true, true, false, false, false, false, false, false, false, false, false, true, false, false, false]) rfl ?_
                    refine xa T_ok (j := 2) (ti := ti46) rfl rfl rfl rfl (by kernel_rfl) (by kernel_rfl) rfl ?_
                    refine qz T_ok 0 [0, 9, 10, 11, 79, 80] 3 (E2 := Env.keep (quitclaimlaw14_TreeAll.r2 a0 x24 x25 x38 x40 x42) [0, 9, 10, 11, 79, 80]) (h1 := [.cells 46 [.p (.sl 2 S_F eS_F x9.f0_files)], .cells 46 [.p (.sl 2 S_F eS_F x25.f0_files)], .cells 46 [.p (.sl 2 S_F eS_F [])]]) (by kernel_rfl) (by kernel_rfl) (by kernel_rfl) (by kernel_rfl) (by kernel_rfl) ?_
                    exact ⟨rfl, s2051⟩
                refine ih_ (k := 13) (l := #[true, false, true, false, false, false, false, false, false, false, false, false, false, false, false]) (E := Env.keep (quitclaimlaw14_TreeAll.r2 a0 x24 x25 x38 x40 x42) [0, 9, 10, 79, 81]) (h := [.cells 46 [.p (.sl 2 S_F eS_F x9.f0_files)], .cells 46 [.p (.sl 2 S_F eS_F x25.f0_files)]]) ?_ (fun s5 => ?_)
                · refine im_ (js := [1, 11]) (by kernel_rfl) (by simp) (ic_ ?_ (ic_ ?_ ia_))
                  · refine is_ rfl rfl (l' := #[true, true, true, false, false, false, false, false, false, false, false, false, false, false, false]) rfl ?_
                    refine qm T_ok 1 (k := 1) (by kernel_rfl) (by kernel_rfl) (by kernel_rfl) ?_
                    refine qz T_ok 0 [0, 9, 10, 79, 80, 81] 2 (E2 := Env.keep (quitclaimlaw14_TreeAll.r2 a0 x24 x25 x38 x40 x42) [0, 9, 10, 79, 80, 81]) (h1 := [.cells 46 [.p (.sl 2 S_F eS_F x9.f0_files)], .cells 46 [.p (.sl 2 S_F eS_F x25.f0_files)]]) (by kernel_rfl) (by kernel_rfl) (by kernel_rfl) (by kernel_rfl) (by kernel_rfl) ?_
                    exact ⟨rfl, s7⟩
                  · refine is_ rfl rfl (l' := #[true, false, true, false, false, false, false, false, false, false, false, true, false, false, false]) rfl ?_
                    refine xa T_ok (j := 2) (ti := ti46) rfl rfl rfl rfl (by kernel_rfl) (by kernel_rfl) rfl ?_
                    refine qz T_ok 0 [0, 9, 10, 11, 79, 81] 3 (E2 := Env.keep (quitclaimlaw14_TreeAll.r2 a0 x24 x25 x38 x40 x42) [0, 9, 10, 11, 79, 81]) (h1 := [.cells 46 [.p (.sl 2 S_F eS_F x9.f0_files)], .cells 46 [.p (.sl 2 S_F eS_F x25.f0_files)], .cells 46 [.p (.sl 2 S_F eS_F [])]]) (by kernel_rfl) (by kernel_rfl) (by kernel_rfl) (by kernel_rfl) (by kernel_rfl) ?_
                    exact ⟨rfl, s2053⟩
                refine ih_ (k := 13) (l := #[false, true, true, false, false, false, false, false, false, false, false, false, false, false, false]) (E := Env.keep (quitclaimlaw14_TreeAll.r2 a0 x24 x25 x38 x40 x42) [0, 9, 10, 80, 81]) (h := [.cells 46 [.p (.sl 2 S_F eS_F x9.f0_files)], .cells 46 [.p (.sl 2 S_F eS_F x25.f0_files)]]) ?_ (fun s6 => ?_)
                · refine im_ (js := [0, 3, 11]) (by kernel_rfl) (by simp) (ic_ ?_ (ic_ ?_ (ic_ ?_ ia_)))
                  · refine is_ rfl rfl (l' := #[true, true, true, false, false, false, false, false, false, false, false, false, false, false, false]) rfl ?_
                    refine qm T_ok 1 (k := 1) (by kernel_rfl) (by kernel_rfl) (by kernel_rfl) ?_
                    refine qz T_ok 0 [0, 9, 10, 79, 80, 81] 2 (E2 := Env.keep (quitclaimlaw14_TreeAll.r2 a0 x24 x25 x38 x40 x42) [0, 9, 10, 79, 80, 81]) (h1 := [.cells 46 [.p (.sl 2 S_F eS_F x9.f0_files)], .cells 46 [.p (.sl 2 S_F eS_F x25.f0_files)]]) (by kernel_rfl) (by kernel_rfl) (by kernel_rfl) (by kernel_rfl) (by kernel_rfl) ?_
                    exact ⟨rfl, s7⟩
                  · refine is_ rfl rfl (l' := #[false, true, true, true, false, false, false, false, false, false, false, false, false, false, false]) rfl ?_
                    refine qy rfl (zi T_ok .i64 (enc := eS_Op) (l := a0) (e := 57) (n := 39) (ei := ti57) (sa := (.p (.sl 39 S_Op eS_Op a0))) hx39 rfl (by kernel_rfl) (by kernel_rfl) rfl (by kernel_rfl) (by kernel_rfl) (by kernel_rfl)) rfl (by kernel_rfl) rfl ?_
                    refine qz T_ok 0 [0, 9, 10, 80, 81, 82] 2 (E2 := Env.keep (quitclaimlaw14_TreeAll.r2 a0 x24 x25 x38 x40 x42) [0, 9, 10, 80, 81, 82]) (h1 := [.cells 46 [.p (.sl 2 S_F eS_F x9.f0_files)], .cells 46 [.p (.sl 2 S_F eS_F x25.f0_files)]]) (by kernel_rfl) (by kernel_rfl) (by kernel_rfl) (by kernel_rfl) (by kernel_rfl) ?_
                    exact ⟨rfl, s14⟩
                  · refine is_ rfl rfl (l' := #[false, true, true, false, false, false, false, false, false, false, false, true, false, false, false]) rfl ?_
                    refine xa T_ok (j := 2) (ti := ti46) rfl rfl rfl rfl (by kernel_rfl) (by kernel_rfl) rfl ?_
                    refine qz T_ok 0 [0, 9, 10, 11, 80, 81] 3 (E2 := Env.keep (quitclaimlaw14_TreeAll.r2 a0 x24 x25 x38 x40 x42) [0, 9, 10, 11, 80, 81]) (h1 := [.cells 46 [.p (.sl 2 S_F eS_F x9.f0_files)], .cells 46 [.p (.sl 2 S_F eS_F x25.f0_files)], .cells 46 [.p (.sl 2 S_F eS_F [])]]) (by kernel_rfl) (by kernel_rfl) (by kernel_rfl) (by kernel_rfl) (by kernel_rfl) ?_
                    exact ⟨rfl, s2054⟩
                refine ih_ (k := 13) (l := #[true, false, false, false, false, false, false, false, false, false, false, true, false, false, false]) (E := Env.keep (quitclaimlaw14_TreeAll.r2 a0 x24 x25 x38 x40 x42) [0, 9, 10, 11, 79]) (h := [.cells 46 [.p (.sl 2 S_F eS_F x9.f0_files)], .cells 46 [.p (.sl 2 S_F eS_F x25.f0_files)], .cells 46 [.p (.sl 2 S_F eS_F [])]]) ?_ (fun s2049 => ?_)
                · refine im_ (js := [1, 2]) (by kernel_rfl) (by simp) (ic_ ?_ (ic_ ?_ ia_))
                  · refine is_ rfl rfl (l' := #[true, true, false, false, false, false, false, false, false, false, false, true, false, false, false]) rfl ?_
                    refine qm T_ok 1 (k := 1) (by kernel_rfl) (by kernel_rfl) (by kernel_rfl) ?_
                    refine qz T_ok 0 [0, 9, 10, 11, 79, 80] 3 (E2 := Env.keep (quitclaimlaw14_TreeAll.r2 a0 x24 x25 x38 x40 x42) [0, 9, 10, 11, 79, 80]) (h1 := [.cells 46 [.p (.sl 2 S_F eS_F x9.f0_files)], .cells 46 [.p (.sl 2 S_F eS_F x25.f0_files)], .cells 46 [.p (.sl 2 S_F eS_F [])]]) (by kernel_rfl) (by kernel_rfl) (by kernel_rfl) (by kernel_rfl) (by kernel_rfl) ?_
                    exact ⟨rfl, s2051⟩
                  · refine is_ rfl rfl (l' := #[true, false, true, false, false, false, false, false, false, false, false, true, false, false, false]) rfl ?_
                    refine qm T_ok 1 (k := 1) (by kernel_rfl) (by kernel_rfl) (by kernel_rfl) ?_
                    refine qz T_ok 0 [0, 9, 10, 11, 79, 81] 3 (E2 := Env.keep (quitclaimlaw14_TreeAll.r2 a0 x24 x25 x38 x40 x42) [0, 9, 10, 11, 79, 81]) (h1 := [.cells 46 [.p (.sl 2 S_F eS_F x9.f0_files)], .cells 46 [.p (.sl 2 S_F eS_F x25.f0_files)], .cells 46 [.p (.sl 2 S_F eS_F [])]]) (by kernel_rfl) (by kernel_rfl) (by kernel_rfl) (by kernel_rfl) (by kernel_rfl) ?_
                    exact ⟨rfl, s2053⟩
                refine ih_ (k := 13) (l := #[false, true, false, false, false, false, false, false, false, false, false, true, false, false, false]) (E := Env.keep (quitclaimlaw14_TreeAll.r2 a0 x24 x25 x38 x40 x42) [0, 9, 10, 11, 80]) (h := [.cells 46 [.p (.sl 2 S_F eS_F x9.f0_files)], .cells 46 [.p (.sl 2 S_F eS_F x25.f0_files)], .cells 46 [.p (.sl 2 S_F eS_F [])]]) ?_ (fun s2050 => ?_)
                · refine im_ (js := [0, 2]) (by kernel_rfl) (by simp) (ic_ ?_ (ic_ ?_ ia_))
                  · refine is_ rfl rfl (l' := #[true, true, false, false, false, false, false, false, false, false, false, true, false, false, false]) rfl ?_
                    refine qm T_ok 1 (k := 1) (by kernel_rfl) (by kernel_rfl) (by kernel_rfl) ?_
                    refine qz T_ok 0 [0, 9, 10, 11, 79, 80] 3 (E2 := Env.keep (quitclaimlaw14_TreeAll.r2 a0 x24 x25 x38 x40 x42) [0, 9, 10, 11, 79, 80]) (h1 := [.cells 46 [.p (.sl 2 S_F eS_F x9.f0_files)], .cells 46 [.p (.sl 2 S_F eS_F x25.f0_files)], .cells 46 [.p (.sl 2 S_F eS_F [])]]) (by kernel_rfl) (by kernel_rfl) (by kernel_rfl) (by kernel_rfl) (by kernel_rfl) ?_
                    exact ⟨rfl, s2051⟩
                  · refine is_ rfl rfl (l' := #[false, true, true, false, false, false, false, false, false, false, false, true, false, false, false]) rfl ?_
                    refine qm T_ok 1 (k := 1) (by kernel_rfl) (by kernel_rfl) (by kernel_rfl) ?_
                    refine qz T_ok 0 [0, 9, 10, 11, 80, 81] 3 (E2 := Env.keep (quitclaimlaw14_TreeAll.r2 a0 x24 x25 x38 x40 x42) [0, 9, 10, 11, 80, 81]) (h1 := [.cells 46 [.p (.sl 2 S_F eS_F x9.f0_files)], .cells 46 [.p (.sl 2 S_F eS_F x25.f0_files)], .cells 46 [.p (.sl 2 S_F eS_F [])]]) (by kernel_rfl) (by kernel_rfl) (by kernel_rfl) (by kernel_rfl) (by kernel_rfl) ?_
                    exact ⟨rfl, s2054⟩
                refine ih_ (k := 13) (l := #[false, false, true, false, false, false, false, false, false, false, false, true, false, false, false]) (E := Env.keep (quitclaimlaw14_TreeAll.r2 a0 x24 x25 x38 x40 x42) [0, 9, 10, 11, 81]) (h := [.cells 46 [.p (.sl 2 S_F eS_F x9.f0_files)], .cells 46 [.p (.sl 2 S_F eS_F x25.f0_files)], .cells 46 [.p (.sl 2 S_F eS_F [])]]) ?_ (fun s2052 => ?_)
                · refine im_ (js := [0, 1]) (by kernel_rfl) (by simp) (ic_ ?_ (ic_ ?_ ia_))
                  · refine is_ rfl rfl (l' := #[true, false, true, false, false, false, false, false, false, false, false, true, false, false, false]) rfl ?_
                    refine qm T_ok 1 (k := 1) (by kernel_rfl) (by kernel_rfl) (by kernel_rfl) ?_
                    refine qz T_ok 0 [0, 9, 10, 11, 79, 81] 3 (E2 := Env.keep (quitclaimlaw14_TreeAll.r2 a0 x24 x25 x38 x40 x42) [0, 9, 10, 11, 79, 81]) (h1 := [.cells 46 [.p (.sl 2 S_F eS_F x9.f0_files)], .cells 46 [.p (.sl 2 S_F eS_F x25.f0_files)], .cells 46 [.p (.sl 2 S_F eS_F [])]]) (by kernel_rfl) (by kernel_rfl) (by kernel_rfl) (by kernel_rfl) (by kernel_rfl) ?_
                    exact ⟨rfl, s2053⟩
                  · refine is_ rfl rfl (l' := #[false, true, true, false, false, false, false, false, false, false, false, true, false, false, false]) rfl ?_
                    refine qm T_ok 1 (k := 1) (by kernel_rfl) (by kernel_rfl) (by kernel_rfl) ?_
                    refine qz T_ok 0 [0, 9, 10, 11, 80, 81] 3 (E2 := Env.keep (quitclaimlaw14_TreeAll.r2 a0 x24 x25 x38 x40 x42) [0, 9, 10, 11, 80, 81]) (h1 := [.cells 46 [.p (.sl 2 S_F eS_F x9.f0_files)], .cells 46 [.p (.sl 2 S_F eS_F x25.f0_files)], .cells 46 [.p (.sl 2 S_F eS_F [])]]) (by kernel_rfl) (by kernel_rfl) (by kernel_rfl) (by kernel_rfl) (by kernel_rfl) ?_
                    exact ⟨rfl, s2054⟩
                refine ih_ (k := 14) (l := #[true, false, false, false, false, false, false, false, false, false, false, false, false, false, false]) (E := Env.keep (quitclaimlaw14_TreeAll.r2 a0 x24 x25 x38 x40 x42) [0, 9, 10, 79]) (h := [.cells 46 [.p (.sl 2 S_F eS_F x9.f0_files)], .cells 46 [.p (.sl 2 S_F eS_F x25.f0_files)]]) ?_ (fun s1 => ?_)
                · refine im_ (js := [1, 2, 11]) (by kernel_rfl) (by simp) (ic_ ?_ (ic_ ?_ (ic_ ?_ ia_)))
                  · refine is_ rfl rfl (l' := #[true, true, false, false, false, false, false, false, false, false, false, false, false, false, false]) rfl ?_
                    refine qm T_ok 1 (k := 1) (by kernel_rfl) (by kernel_rfl) (by kernel_rfl) ?_
                    refine qz T_ok 0 [0, 9, 10, 79, 80] 2 (E2 := Env.keep (quitclaimlaw14_TreeAll.r2 a0 x24 x25 x38 x40 x42) [0, 9, 10, 79, 80]) (h1 := [.cells 46 [.p (.sl 2 S_F eS_F x9.f0_files)], .cells 46 [.p (.sl 2 S_F eS_F x25.f0_files)]]) (by kernel_rfl) (by kernel_rfl) (by kernel_rfl) (by kernel_rfl) (by kernel_rfl) ?_
                    exact ⟨rfl, s3⟩
                  · refine is_ rfl rfl (l' := #[true, false, true, false, false, false, false, false, false, false, false, false, false, false, false]) rfl ?_
                    refine qm T_ok 1 (k := 1) (by kernel_rfl) (by kernel_rfl) (by kernel_rfl) ?_
                    refine qz T_ok 0 [0, 9, 10, 79, 81] 2 (E2 := Env.keep (quitclaimlaw14_TreeAll.r2 a0 x24 x25 x38 x40 x42) [0, 9, 10, 79, 81]) (h1 := [.cells 46 [.p (.sl 2 S_F eS_F x9.f0_files)], .cells 46 [.p (.sl 2 S_F eS_F x25.f0_files)]]) (by kernel_rfl) (by kernel_rfl) (by kernel_rfl) (by kernel_rfl) (by kernel_rfl) ?_
                    exact ⟨rfl, s5⟩
                  · refine is_ rfl rfl (l' := #[true, false, false, false, false, false, false, false, false, false, false, true, false, false, false]) rfl ?_
                    refine xa T_ok (j := 2) (ti := ti46) rfl rfl rfl rfl (by kernel_rfl) (by kernel_rfl) rfl ?_
                    refine qz T_ok 0 [0, 9, 10, 11, 79] 3 (E2 := Env.keep (quitclaimlaw14_TreeAll.r2 a0 x24 x25 x38 x40 x42) [0, 9, 10, 11, 79]) (h1 := [.cells 46 [.p (.sl 2 S_F eS_F x9.f0_files)], .cells 46 [.p (.sl 2 S_F eS_F x25.f0_files)], .cells 46 [.p (.sl 2 S_F eS_F [])]]) (by kernel_rfl) (by kernel_rfl) (by kernel_rfl) (by kernel_rfl) (by kernel_rfl) ?_
                    exact ⟨rfl, s2049⟩
                refine ih_ (k := 14) (l := #[false, true, false, false, false, false, false, false, false, false, false, false, false, false, false]) (E := Env.keep (quitclaimlaw14_TreeAll.r2 a0 x24 x25 x38 x40 x42) [0, 9, 10, 80]) (h := [.cells 46 [.p (.sl 2 S_F eS_F x9.f0_files)], .cells 46 [.p (.sl 2 S_F eS_F x25.f0_files)]]) ?_ (fun s2 => ?_)
                · refine im_ (js := [0, 2, 11]) (by kernel_rfl) (by simp) (ic_ ?_ (ic_ ?_ (ic_ ?_ ia_)))
                  · refine is_ rfl rfl (l' := #[true, true, false, false, false, false, false, false, false, false, false, false, false, false, false]) rfl ?_
                    refine qm T_ok 1 (k := 1) (by kernel_rfl) (by kernel_rfl) (by kernel_rfl) ?_
                    refine qz T_ok 0 [0, 9, 10, 79, 80] 2 (E2 := Env.keep (quitclaimlaw14_TreeAll.r2 a0 x24 x25 x38 x40 x42) [0, 9, 10, 79, 80]) (h1 := [.cells 46 [.p (.sl 2 S_F eS_F x9.f0_files)], .cells 46 [.p (.sl 2 S_F eS_F x25.f0_files)]]) (by kernel_rfl) (by kernel_rfl) (by kernel_rfl) (by kernel_rfl) (by kernel_rfl) ?_
                    exact ⟨rfl, s3⟩
                  · refine is_ rfl rfl (l' := #[false, true, true, false, false, false, false, false, false, false, false, false, false, false, false]) rfl ?_
                    refine qm T_ok 1 (k := 1) (by kernel_rfl) (by kernel_rfl) (by kernel_rfl) ?_
                    refine qz T_ok 0 [0, 9, 10, 80, 81] 2 (E2 := Env.keep (quitclaimlaw14_TreeAll.r2 a0 x24 x25 x38 x40 x42) [0, 9, 10, 80, 81]) (h1 := [.cells 46 [.p (.sl 2 S_F eS_F x9.f0_files)], .cells 46 [.p (.sl 2 S_F eS_F x25.f0_files)]]) (by kernel_rfl) (by kernel_rfl) (by kernel_rfl) (by kernel_rfl) (by kernel_rfl) ?_
                    exact ⟨rfl, s6⟩
                  · refine is_ rfl rfl (l' := #[false, true, false, false, false, false, false, false, false, false, false, true, false, false, false]) rfl ?_
                    refine xa T_ok (j := 2) (ti := ti46) rfl rfl rfl rfl (by kernel_rfl) (by kernel_rfl) rfl ?_
                    refine qz T_ok 0 [0, 9, 10, 11, 80] 3 (E2 := Env.keep (quitclaimlaw14_TreeAll.r2 a0 x24 x25 x38 x40 x42) [0, 9, 10, 11, 80]) (h1 := [.cells 46 [.p (.sl 2 S_F eS_F x9.f0_files)], .cells 46 [.p (.sl 2 S_F eS_F x25.f0_files)], .cells 46 [.p (.sl 2 S_F eS_F [])]]) (by kernel_rfl) (by kernel_rfl) (by kernel_rfl) (by kernel_rfl) (by kernel_rfl) ?_
                    exact ⟨rfl, s2050⟩
                refine ih_ (k := 14) (l := #[false, false, true, false, false, false, false, false, false, false, false, false, false, false, false]) (E := Env.keep (quitclaimlaw14_TreeAll.r2 a0 x24 x25 x38 x40 x42) [0, 9, 10, 81]) (h := [.cells 46 [.p (.sl 2 S_F eS_F x9.f0_files)], .cells 46 [.p (.sl 2 S_F eS_F x25.f0_files)]]) ?_ (fun s4 => ?_)
                · refine im_ (js := [0, 1, 11]) (by kernel_rfl) (by simp) (ic_ ?_ (ic_ ?_ (ic_ ?_ ia_)))
                  · refine is_ rfl rfl (l' := #[true, false, true, false, false, false, false, false, false, false, false, false, false, false, false]) rfl ?_
                    refine qm T_ok 1 (k := 1) (by kernel_rfl) (by kernel_rfl) (by kernel_rfl) ?_
                    refine qz T_ok 0 [0, 9, 10, 79, 81] 2 (E2 := Env.keep (quitclaimlaw14_TreeAll.r2 a0 x24 x25 x38 x40 x42) [0, 9, 10, 79, 81]) (h1 := [.cells 46 [.p (.sl 2 S_F eS_F x9.f0_files)], .cells 46 [.p (.sl 2 S_F eS_F x25.f0_files)]]) (by kernel_rfl) (by kernel_rfl) (by kernel_rfl) (by kernel_rfl) (by kernel_rfl) ?_
                    exact ⟨rfl, s5⟩
                  · refine is_ rfl rfl (l' := #[false, true, true, false, false, false, false, false, false, false, false, false, false, false, false]) rfl ?_
                    refine qm T_ok 1 (k := 1) (by kernel_rfl) (by kernel_rfl) (by kernel_rfl) ?_
                    refine qz T_ok 0 [0, 9, 10, 80, 81] 2 (E2 := Env.keep (quitclaimlaw14_TreeAll.r2 a0 x24 x25 x38 x40 x42) [0, 9, 10, 80, 81]) (h1 := [.cells 46 [.p (.sl 2 S_F eS_F x9.f0_files)], .cells 46 [.p (.sl 2 S_F eS_F x25.f0_files)]]) (by kernel_rfl) (by kernel_rfl) (by kernel_rfl) (by kernel_rfl) (by kernel_rfl) ?_
                    exact ⟨rfl, s6⟩
                  · refine is_ rfl rfl (l' := #[false, false, true, false, false, false, false, false, false, false, false, true, false, false, false]) rfl ?_
                    refine xa T_ok (j := 2) (ti := ti46) rfl rfl rfl rfl (by kernel_rfl) (by kernel_rfl) rfl ?_
                    refine qz T_ok 0 [0, 9, 10, 11, 81] 3 (E2 := Env.keep (quitclaimlaw14_TreeAll.r2 a0 x24 x25 x38 x40 x42) [0, 9, 10, 11, 81]) (h1 := [.cells 46 [.p (.sl 2 S_F eS_F x9.f0_files)], .cells 46 [.p (.sl 2 S_F eS_F x25.f0_files)], .cells 46 [.p (.sl 2 S_F eS_F [])]]) (by kernel_rfl) (by kernel_rfl) (by kernel_rfl) (by kernel_rfl) (by kernel_rfl) ?_
                    exact ⟨rfl, s2052⟩
                refine ih_ (k := 14) (l := #[false, false, false, false, false, false, false, false, false, false, false, true, false, false, false]) (E := Env.keep (quitclaimlaw14_TreeAll.r2 a0 x24 x25 x38 x40 x42) [0, 9, 10, 11]) (h := [.cells 46 [.p (.sl 2 S_F eS_F x9.f0_files)], .cells 46 [.p (.sl 2 S_F eS_F x25.f0_files)], .cells 46 [.p (.sl 2 S_F eS_F [])]]) ?_ (fun s2048 => ?_)
                · refine im_ (js := [0, 1, 2]) (by kernel_rfl) (by simp) (ic_ ?_ (ic_ ?_ (ic_ ?_ ia_)))
                  · refine is_ rfl rfl (l' := #[true, false, false, false, false, false, false, false, false, false, false, true, false, false, false]) rfl ?_
                    refine qm T_ok 1 (k := 1) (by kernel_rfl) (by kernel_rfl) (by kernel_rfl) ?_
                    refine qz T_ok 0 [0, 9, 10, 11, 79] 3 (E2 := Env.keep (quitclaimlaw14_TreeAll.r2 a0 x24 x25 x38 x40 x42) [0, 9, 10, 11, 79]) (h1 := [.cells 46 [.p (.sl 2 S_F eS_F x9.f0_files)], .cells 46 [.p (.sl 2 S_F eS_F x25.f0_files)], .cells 46 [.p (.sl 2 S_F eS_F [])]]) (by kernel_rfl) (by kernel_rfl) (by kernel_rfl) (by kernel_rfl) (by kernel_rfl) ?_
                    exact ⟨rfl, s2049⟩
                  · refine is_ rfl rfl (l' := #[false, true, false, false, false, false, false, false, false, false, false, true, false, false, false]) rfl ?_
                    refine qm T_ok 1 (k := 1) (by kernel_rfl) (by kernel_rfl) (by kernel_rfl) ?_
                    refine qz T_ok 0 [0, 9, 10, 11, 80] 3 (E2 := Env.keep (quitclaimlaw14_TreeAll.r2 a0 x24 x25 x38 x40 x42) [0, 9, 10, 11, 80]) (h1 := [.cells 46 [.p (.sl 2 S_F eS_F x9.f0_files)], .cells 46 [.p (.sl 2 S_F eS_F x25.f0_files)], .cells 46 [.p (.sl 2 S_F eS_F [])]]) (by kernel_rfl) (by kernel_rfl) (by kernel_rfl) (by kernel_rfl) (by kernel_rfl) ?_
                    exact ⟨rfl, s2050⟩
                  · refine is_ rfl rfl (l' := #[false, false, true, false, false, false, false, false, false, false, false, true, false, false, false]) rfl ?_
                    refine qm T_ok 1 (k := 1) (by kernel_rfl) (by kernel_rfl) (by kernel_rfl) ?_
                    refine qz T_ok 0 [0, 9, 10, 11, 81] 3 (E2 := Env.keep (quitclaimlaw14_TreeAll.r2 a0 x24 x25 x38 x40 x42) [0, 9, 10, 11, 81]) (h1 := [.cells 46 [.p (.sl 2 S_F eS_F x9.f0_files)], .cells 46 [.p (.sl 2 S_F eS_F x25.f0_files)], .cells 46 [.p (.sl 2 S_F eS_F [])]]) (by kernel_rfl) (by kernel_rfl) (by kernel_rfl) (by kernel_rfl) (by kernel_rfl) ?_
                    exact ⟨rfl, s2052⟩
                refine ih_ (k := 15) (l := #[false, false, false, false, false, false, false, false, false, false, false, false, false, false, false]) (E := Env.keep (quitclaimlaw14_TreeAll.r2 a0 x24 x25 x38 x40 x42) [0, 9, 10]) (h := [.cells 46 [.p (.sl 2 S_F eS_F x9.f0_files)], .cells 46 [.p (.sl 2 S_F eS_F x25.f0_files)]]) ?_ (fun s0 => ?_)
                · refine im_ (js := [0, 1, 2, 11]) (by kernel_rfl) (by simp) (ic_ ?_ (ic_ ?_ (ic_ ?_ (ic_ ?_ ia_))))
                  · refine is_ rfl rfl (l' := #[true, false, false, false, false, false, false, false, false, false, false, false, false, false, false]) rfl ?_
                    refine qm T_ok 1 (k := 1) (by kernel_rfl) (by kernel_rfl) (by kernel_rfl) ?_
                    refine qz T_ok 0 [0, 9, 10, 79] 2 (E2 := Env.keep (quitclaimlaw14_TreeAll.r2 a0 x24 x25 x38 x40 x42) [0, 9, 10, 79]) (h1 := [.cells 46 [.p (.sl 2 S_F eS_F x9.f0_files)], .cells 46 [.p (.sl 2 S_F eS_F x25.f0_files)]]) (by kernel_rfl) (by kernel_rfl) (by kernel_rfl) (by kernel_rfl) (by kernel_rfl) ?_
                    exact ⟨rfl, s1⟩
                  · refine is_ rfl rfl (l' := #[false, true, false, false, false, false, false, false, false, false, false, false, false, false, false]) rfl ?_
                    refine qm T_ok 1 (k := 1) (by kernel_rfl) (by kernel_rfl) (by kernel_rfl) ?_
                    refine qz T_ok 0 [0, 9, 10, 80] 2 (E2 := Env.keep (quitclaimlaw14_TreeAll.r2 a0 x24 x25 x38 x40 x42) [0, 9, 10, 80]) (h1 := [.cells 46 [.p (.sl 2 S_F eS_F x9.f0_files)], .cells 46 [.p (.sl 2 S_F eS_F x25.f0_files)]]) (by kernel_rfl) (by kernel_rfl) (by kernel_rfl) (by kernel_rfl) (by kernel_rfl) ?_
                    exact ⟨rfl, s2⟩
                  · refine is_ rfl rfl (l' := #[false, false, true, false, false, false, false, false, false, false, false, false, false, false, false]) rfl ?_
                    refine qm T_ok 1 (k := 1) (by kernel_rfl) (by kernel_rfl) (by kernel_rfl) ?_
                    refine qz T_ok 0 [0, 9, 10, 81] 2 (E2 := Env.keep (quitclaimlaw14_TreeAll.r2 a0 x24 x25 x38 x40 x42) [0, 9, 10, 81]) (h1 := [.cells 46 [.p (.sl 2 S_F eS_F x9.f0_files)], .cells 46 [.p (.sl 2 S_F eS_F x25.f0_files)]]) (by kernel_rfl) (by kernel_rfl) (by kernel_rfl) (by kernel_rfl) (by kernel_rfl) ?_
                    exact ⟨rfl, s4⟩
                  · refine is_ rfl rfl (l' := #[false, false, false, false, false, false, false, false, false, false, false, true, false, false, false]) rfl ?_
                    refine xa T_ok (j := 2) (ti := ti46) rfl rfl rfl rfl (by kernel_rfl) (by kernel_rfl) rfl ?_
                    refine qz T_ok 0 [0, 9, 10, 11] 3 (E2 := Env.keep (quitclaimlaw14_TreeAll.r2 a0 x24 x25 x38 x40 x42) [0, 9, 10, 11]) (h1 := [.cells 46 [.p (.sl 2 S_F eS_F x9.f0_files)], .cells 46 [.p (.sl 2 S_F eS_F x25.f0_files)], .cells 46 [.p (.sl 2 S_F eS_F [])]]) (by kernel_rfl) (by kernel_rfl) (by kernel_rfl) (by kernel_rfl) (by kernel_rfl) ?_
                    exact ⟨rfl, s2048⟩
                refine iE (by kernel_rfl) s0
          · rw [if_neg (of_decide_eq_false c)] at H
            clear c
            refine qw [9] rfl ?_
            refine qx ?_
            refine qs ?_
            refine qg ?_
            refine qm T_ok 1 (k := 1) (by kernel_rfl) (by kernel_rfl) (by kernel_rfl) ?_
            obtain ⟨x46, hx, H⟩ := bd H
            refine qy rfl (zc (T := T) (tree_Tree_Len.ok x25 _ hx) Tryd.func37 rfl rfl (caps := []) (by kernel_rfl) (by kernel_rfl) (by kernel_rfl) (by kernel_rfl) (by kernel_rfl) (by kernel_rfl)) rfl (by kernel_rfl) rfl ?_
            clear hx
            refine qm T_ok 2 (k := 4) (by kernel_rfl) (by kernel_rfl) (by kernel_rfl) ?_
            obtain ⟨x47, hx, H⟩ := bd H
            refine qyg rfl (tg := []) (Yld.under (u := 105) (b := true) (t := decide (x46 = 0)) (by kernel_rfl) (by simp) fun g0_ => (zc (T := T) (quitclaimlaw14_awake.ok k _ (gd1 hx g0_)) Tryd.func31 rfl rfl (caps := []) (by kernel_rfl) (by kernel_rfl) (by kernel_rfl) (by kernel_rfl) (by kernel_rfl) (by kernel_rfl))) rfl rfl (by kernel_rfl) (by kernel_rfl) rfl ?_
            clear hx
            refine qz T_ok 2 [2] 0 (E2 := [(2, [], vb (decide (x46 = 0) && x47))]) (h1 := []) (by kernel_rfl) (by kernel_rfl) (by kernel_rfl) (by kernel_rfl) (by kernel_rfl) ?_
            refine qt ?_
            obtain rfl := Option.some.inj H
            exact ⟨vb (decide (x46 = 0) && x47), by kernel_rfl, rfl⟩
end Go.Proofs.YtngcfmnmjkncoaaDoor.Q
