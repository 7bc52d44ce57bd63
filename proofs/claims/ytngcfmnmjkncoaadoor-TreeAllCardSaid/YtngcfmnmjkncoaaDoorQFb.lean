/- Go functions as Lean functions, and that the code answers what they say; no condition but the typed premises. -/
import Derived.Test.YtngcfmnmjkncoaaDoorQT
import Derived.Test.YtngcfmnmjkncoaaDoorQFa
namespace Go.Proofs.YtngcfmnmjkncoaaDoor.Q
open Go Go.RowKit
set_option maxRecDepth 100000
set_option maxHeartbeats 20000000
set_option linter.unusedVariables false
set_option linter.unusedSimpArgs false
/-! ### quitclaim/op.Policy: function 88 -/
def op_Policy.f (a0 : S_Op) : Option Bool := some (decide (a0.f0_Kind = 5) || decide (a0.f0_Kind = 6))
theorem op_Policy.ok (a0 : S_Op) (r : Bool) (H : op_Policy.f a0 = some r) : PF Tryd.prog 88 [.p (.agg [(.s (.int .i64 a0.f0_Kind)), (.s (.string a0.f1_Path)), (.s (.string a0.f2_To)), (.s (.int .i64 a0.f3_At)), (.sl 1 ByteArray eS a0.f4_Old), (.sl 1 ByteArray eS a0.f5_New), (.s (.int .u8 (a0.f6_Key.getD 0 0))), (.s (.int .u8 (a0.f6_Key.getD 1 0))), (.s (.int .u8 (a0.f6_Key.getD 2 0))), (.s (.int .u8 (a0.f6_Key.getD 3 0))), (.s (.int .u8 (a0.f6_Key.getD 4 0))), (.s (.int .u8 (a0.f6_Key.getD 5 0))), (.s (.int .u8 (a0.f6_Key.getD 6 0))), (.s (.int .u8 (a0.f6_Key.getD 7 0))), (.s (.int .u8 (a0.f6_Key.getD 8 0))), (.s (.int .u8 (a0.f6_Key.getD 9 0))), (.s (.int .u8 (a0.f6_Key.getD 10 0))), (.s (.int .u8 (a0.f6_Key.getD 11 0))), (.s (.int .u8 (a0.f6_Key.getD 12 0))), (.s (.int .u8 (a0.f6_Key.getD 13 0))), (.s (.int .u8 (a0.f6_Key.getD 14 0))), (.s (.int .u8 (a0.f6_Key.getD 15 0))), (.s (.int .u8 (a0.f6_Key.getD 16 0))), (.s (.int .u8 (a0.f6_Key.getD 17 0))), (.s (.int .u8 (a0.f6_Key.getD 18 0))), (.s (.int .u8 (a0.f6_Key.getD 19 0))), (.s (.int .u8 (a0.f6_Key.getD 20 0))), (.s (.int .u8 (a0.f6_Key.getD 21 0))), (.s (.int .u8 (a0.f6_Key.getD 22 0))), (.s (.int .u8 (a0.f6_Key.getD 23 0))), (.s (.int .u8 (a0.f6_Key.getD 24 0))), (.s (.int .u8 (a0.f6_Key.getD 25 0))), (.s (.int .u8 (a0.f6_Key.getD 26 0))), (.s (.int .u8 (a0.f6_Key.getD 27 0))), (.s (.int .u8 (a0.f6_Key.getD 28 0))), (.s (.int .u8 (a0.f6_Key.getD 29 0))), (.s (.int .u8 (a0.f6_Key.getD 30 0))), (.s (.int .u8 (a0.f6_Key.getD 31 0))), (.s (.int .i64 a0.f7_Depth))])] (vb r) := by
  refine PF_mk T_ok Tryd.func88 rfl (by kernel_rfl) (by kernel_rfl) ?_
  unfold op_Policy.f at H
  refine qs ?_
  refine qg ?_
  refine xb (T := T) (j := 0) (cs := [vi a0.f0_Kind, vs a0.f1_Path, vs a0.f2_To, vi a0.f3_At, .p (.sl 1 ByteArray eS a0.f4_Old), .p (.sl 1 ByteArray eS a0.f5_New), v8 (a0.f6_Key.getD 0 0), v8 (a0.f6_Key.getD 1 0), v8 (a0.f6_Key.getD 2 0), v8 (a0.f6_Key.getD 3 0), v8 (a0.f6_Key.getD 4 0), v8 (a0.f6_Key.getD 5 0), v8 (a0.f6_Key.getD 6 0), v8 (a0.f6_Key.getD 7 0), v8 (a0.f6_Key.getD 8 0), v8 (a0.f6_Key.getD 9 0), v8 (a0.f6_Key.getD 10 0), v8 (a0.f6_Key.getD 11 0), v8 (a0.f6_Key.getD 12 0), v8 (a0.f6_Key.getD 13 0), v8 (a0.f6_Key.getD 14 0), v8 (a0.f6_Key.getD 15 0), v8 (a0.f6_Key.getD 16 0), v8 (a0.f6_Key.getD 17 0), v8 (a0.f6_Key.getD 18 0), v8 (a0.f6_Key.getD 19 0), v8 (a0.f6_Key.getD 20 0), v8 (a0.f6_Key.getD 21 0), v8 (a0.f6_Key.getD 22 0), v8 (a0.f6_Key.getD 23 0), v8 (a0.f6_Key.getD 24 0), v8 (a0.f6_Key.getD 25 0), v8 (a0.f6_Key.getD 26 0), v8 (a0.f6_Key.getD 27 0), v8 (a0.f6_Key.getD 28 0), v8 (a0.f6_Key.getD 29 0), v8 (a0.f6_Key.getD 30 0), v8 (a0.f6_Key.getD 31 0), vi a0.f7_Depth]) rfl rfl rfl rfl (by kernel_rfl) (by kernel_rfl) rfl ?_
  refine qz T_ok 1 [1] 1 (E2 := [(1, [], .ptr 0 0)]) (h1 := [.cells 57 [vi a0.f0_Kind, vs a0.f1_Path, vs a0.f2_To, vi a0.f3_At, .p (.sl 1 ByteArray eS a0.f4_Old), .p (.sl 1 ByteArray eS a0.f5_New), v8 (a0.f6_Key.getD 0 0), v8 (a0.f6_Key.getD 1 0), v8 (a0.f6_Key.getD 2 0), v8 (a0.f6_Key.getD 3 0), v8 (a0.f6_Key.getD 4 0), v8 (a0.f6_Key.getD 5 0), v8 (a0.f6_Key.getD 6 0), v8 (a0.f6_Key.getD 7 0), v8 (a0.f6_Key.getD 8 0), v8 (a0.f6_Key.getD 9 0), v8 (a0.f6_Key.getD 10 0), v8 (a0.f6_Key.getD 11 0), v8 (a0.f6_Key.getD 12 0), v8 (a0.f6_Key.getD 13 0), v8 (a0.f6_Key.getD 14 0), v8 (a0.f6_Key.getD 15 0), v8 (a0.f6_Key.getD 16 0), v8 (a0.f6_Key.getD 17 0), v8 (a0.f6_Key.getD 18 0), v8 (a0.f6_Key.getD 19 0), v8 (a0.f6_Key.getD 20 0), v8 (a0.f6_Key.getD 21 0), v8 (a0.f6_Key.getD 22 0), v8 (a0.f6_Key.getD 23 0), v8 (a0.f6_Key.getD 24 0), v8 (a0.f6_Key.getD 25 0), v8 (a0.f6_Key.getD 26 0), v8 (a0.f6_Key.getD 27 0), v8 (a0.f6_Key.getD 28 0), v8 (a0.f6_Key.getD 29 0), v8 (a0.f6_Key.getD 30 0), v8 (a0.f6_Key.getD 31 0), vi a0.f7_Depth]]) (by kernel_rfl) (by kernel_rfl) (by kernel_rfl) (by kernel_rfl) (by kernel_rfl) ?_
  refine qs ?_
  refine qg ?_
  refine qz T_ok 9 [2] 0 (E2 := [(2, [], vb (decide (a0.f0_Kind = 5) || decide (a0.f0_Kind = 6)))]) (h1 := []) (by kernel_rfl) (by kernel_rfl) (by kernel_rfl) (by kernel_rfl) (by kernel_rfl) ?_
  refine qt ?_
  obtain rfl := Option.some.inj H
  exact ⟨vb (decide (a0.f0_Kind = 5) || decide (a0.f0_Kind = 6)), by kernel_rfl, rfl⟩
/-! ### strings.Compare: function 98 -/
def strings_Compare.f (a0 a1 : ByteArray) : Option Int := some (Lib.compareBytes a0.data.toList a1.data.toList)
theorem strings_Compare.ok (a0 a1 : ByteArray) (r : Int) (H : strings_Compare.f a0 a1 = some r) : PF Tryd.prog 98 [vs a0, vs a1] (vi r) := by
  obtain rfl := Option.some.inj H
  exact PF_of (args := [.string a0, .string a1]) fun w => (Go.Proofs.Tryd.strings_Compare a0 a1 w).mono fun e w' ⟨he, hw⟩ => ⟨he, hw ▸ Below.refl _ _⟩

/-! ### (quitclaim/tree.Tree).find$1: function 97 -/
def tree_Tree_find_1.f (a0 : S_F) (a1 : ByteArray) : Option Int := ((strings_Compare.f a0.f0_Path a1).bind fun x1 => some x1)
theorem tree_Tree_find_1.ok (a0 : S_F) (a1 : ByteArray) (r : Int) (H : tree_Tree_find_1.f a0 a1 = some r) : PF Tryd.prog 97 [.p (.agg [(.s (.string a0.f0_Path)), (.sl 1 ByteArray eS a0.f1_Lines)]), vs a1] (vi r) := by
  refine PF_mk T_ok Tryd.func97 rfl (by kernel_rfl) (by kernel_rfl) ?_
  unfold tree_Tree_find_1.f at H
  refine qs ?_
  refine qg ?_
  refine xb (T := T) (j := 0) (cs := [vs a0.f0_Path, .p (.sl 1 ByteArray eS a0.f1_Lines)]) rfl rfl rfl rfl (by kernel_rfl) (by kernel_rfl) rfl ?_
  refine qz T_ok 1 [1, 2] 1 (E2 := [(1, [], vs a1), (2, [], .ptr 0 0)]) (h1 := [.cells 62 [vs a0.f0_Path, .p (.sl 1 ByteArray eS a0.f1_Lines)]]) (by kernel_rfl) (by kernel_rfl) (by kernel_rfl) (by kernel_rfl) (by kernel_rfl) ?_
  refine qs ?_
  refine qg ?_
  refine qm T_ok 3 (k := 3) (by kernel_rfl) (by kernel_rfl) (by kernel_rfl) ?_
  obtain ⟨x1, hx, H⟩ := bd H
  refine qy rfl (zc (T := T) (strings_Compare.ok a0.f0_Path a1 _ hx) Tryd.func98 rfl rfl (caps := []) (by kernel_rfl) (by kernel_rfl) (by kernel_rfl) (by kernel_rfl) (by kernel_rfl) (by kernel_rfl)) rfl (by kernel_rfl) rfl ?_
  clear hx
  refine qz T_ok 1 [4] 0 (E2 := [(4, [], vi x1)]) (h1 := []) (by kernel_rfl) (by kernel_rfl) (by kernel_rfl) (by kernel_rfl) (by kernel_rfl) ?_
  refine qt ?_
  obtain rfl := Option.some.inj H
  exact ⟨vi x1, by kernel_rfl, rfl⟩
/-! ### slices.BinarySearchFunc[[]quitclaim/tree.File,quitclaim/tree.File,string]: function 96 -/
def slices_BinarySearchFunc_tree_File_tree_File_string_tree_Tree_find_1.l0 (a0 : List S_F) (a1 : ByteArray) : Nat → Int → Int → Option (Int × Bool)
  | 0, _, _ => none
  | k + 1, x6, x7 => (if x6 < x7 then ((shr .u64 (IntKind.u64.wrap (w64 (x6 + x7))) 1).bind fun x13 => ((ix a0 (w64 x13)).bind fun x14 => ((tree_Tree_find_1.f x14 a1).bind fun x15 => (if x15 < 0 then slices_BinarySearchFunc_tree_File_tree_File_string_tree_Tree_find_1.l0 a0 a1 k (w64 ((w64 x13) + 1)) x7 else slices_BinarySearchFunc_tree_File_tree_File_string_tree_Tree_find_1.l0 a0 a1 k x6 (w64 x13))))) else ((gd (decide (x6 < (a0.length : Int))) (ix a0 x6)).bind fun x16 => ((gd (decide (x6 < (a0.length : Int))) (tree_Tree_find_1.f x16 a1)).bind fun x17 => some (x6, (decide (x6 < (a0.length : Int)) && decide (x17 = 0))))))
def slices_BinarySearchFunc_tree_File_tree_File_string_tree_Tree_find_1.f (k : Nat) (a0 : List S_F) (a1 : ByteArray) : Option (Int × Bool) := slices_BinarySearchFunc_tree_File_tree_File_string_tree_Tree_find_1.l0 a0 a1 k 0 (a0.length : Int)
theorem slices_BinarySearchFunc_tree_File_tree_File_string_tree_Tree_find_1.ok (k : Nat) (a0 : List S_F) (a1 : ByteArray) (r : Int × Bool) (H : slices_BinarySearchFunc_tree_File_tree_File_string_tree_Tree_find_1.f k a0 a1 = some r) : PF Tryd.prog 96 [.p (.sl 2 S_F eS_F a0), vs a1, .fn 97 []] (.tup [vi r.1, vb r.2]) := by
  refine PF_mk T_ok Tryd.func96 rfl (by kernel_rfl) (by kernel_rfl) ?_
  unfold slices_BinarySearchFunc_tree_File_tree_File_string_tree_Tree_find_1.f at H
  refine qs ?_
  refine qr T_ok [0, 1, 2] (E2 := [(0, [], .p (.sl 2 S_F eS_F a0)), (1, [], vs a1), (2, [], .fn 97 [])]) (by kernel_rfl) ?_
  refine qs ?_
  refine qr T_ok [0, 1, 2, 8] (E2 := [(0, [], .p (.sl 2 S_F eS_F a0)), (1, [], vs a1), (2, [], .fn 97 []), (8, [], vi (a0.length : Int))]) (by kernel_rfl) ?_
  refine qs ?_
  refine qr T_ok [0, 1, 2, 8, 9, 10] (E2 := [(0, [], .p (.sl 2 S_F eS_F a0)), (1, [], vs a1), (2, [], .fn 97 []), (8, [], vi (a0.length : Int)), (9, [], vi 0), (10, [], vi (a0.length : Int))]) (by kernel_rfl) ?_
  refine qs ?_
  refine qb ?_
  refine qp (fun k E h => ∃ x6 : Int, ∃ x7 : Int, E = [(0, [], .p (.sl 2 S_F eS_F a0)), (1, [], vs a1), (2, [], .fn 97 []), (8, [], vi (a0.length : Int)), (9, [], vi x6), (10, [], vi x7)] ∧ h = [] ∧ slices_BinarySearchFunc_tree_File_tree_File_string_tree_Tree_find_1.l0 a0 a1 k x6 x7 = some r) k ⟨0, (a0.length : Int), rfl, rfl, H⟩ ?_
  clear H
  rintro k E h ⟨x6, x7, rfl, rfl, H⟩
  cases k with
  | zero => exact nomatch (show none = some r from H)
  | succ k =>
    rw [slices_BinarySearchFunc_tree_File_tree_File_string_tree_Tree_find_1.l0] at H
    refine qs ?_
    refine qs ?_
    refine qr T_ok [0, 1, 2, 8, 9, 10, 17] (E2 := [(0, [], .p (.sl 2 S_F eS_F a0)), (1, [], vs a1), (2, [], .fn 97 []), (8, [], vi (a0.length : Int)), (9, [], vi x6), (10, [], vi x7), (17, [], vb (decide (x6 < x7)))]) (by kernel_rfl) ?_
    refine qi (t := decide (x6 < x7)) (by kernel_rfl) (fun c => ?_) (fun c => ?_)
    · rw [if_pos (of_decide_eq_true c)] at H
      clear c
      refine qw [0, 1, 2, 8, 9, 10] rfl ?_
      refine qk ?_
      refine qb ?_
      refine qs ?_
      refine qg ?_
      refine qm T_ok 4 (k := 4) (by kernel_rfl) (by kernel_rfl) (by kernel_rfl) ?_
      obtain ⟨x13, hx, H⟩ := bd H
      refine qy rfl (zr (k' := .u64) hx rfl (by kernel_rfl) (by kernel_rfl)) rfl (by kernel_rfl) rfl ?_
      clear hx
      refine qz T_ok 2 [0, 1, 2, 8, 9, 10, 11] 0 (E2 := [(0, [], .p (.sl 2 S_F eS_F a0)), (1, [], vs a1), (2, [], .fn 97 []), (8, [], vi (a0.length : Int)), (9, [], vi x6), (10, [], vi x7), (11, [], vi (w64 x13))]) (h1 := []) (by kernel_rfl) (by kernel_rfl) (by kernel_rfl) (by kernel_rfl) (by kernel_rfl) ?_
      refine qs ?_
      refine qg ?_
      refine qm T_ok 3 (k := 3) (by kernel_rfl) (by kernel_rfl) (by kernel_rfl) ?_
      obtain ⟨x14, hx, H⟩ := bd H
      refine qy rfl (zi T_ok .i64 (enc := eS_F) (l := a0) (e := 62) (n := 2) (ei := ti62) (sa := (.p (.sl 2 S_F eS_F a0))) hx rfl (by kernel_rfl) (by kernel_rfl) rfl (by kernel_rfl) (by kernel_rfl) (by kernel_rfl)) rfl (by kernel_rfl) rfl ?_
      clear hx
      refine qm T_ok 2 (k := 6) (by kernel_rfl) (by kernel_rfl) (by kernel_rfl) ?_
      obtain ⟨x15, hx, H⟩ := bd H
      refine qy rfl (zc (T := T) (tree_Tree_find_1.ok x14 a1 _ hx) Tryd.func97 rfl rfl (caps := []) (by kernel_rfl) (by kernel_rfl) (by kernel_rfl) (by kernel_rfl) (by kernel_rfl) (by kernel_rfl)) rfl (by kernel_rfl) rfl ?_
      clear hx
      refine qz T_ok 1 [0, 1, 2, 8, 9, 10, 11, 31] 0 (E2 := [(0, [], .p (.sl 2 S_F eS_F a0)), (1, [], vs a1), (2, [], .fn 97 []), (8, [], vi (a0.length : Int)), (9, [], vi x6), (10, [], vi x7), (11, [], vi (w64 x13)), (31, [], vb (decide (x15 < 0)))]) (h1 := []) (by kernel_rfl) (by kernel_rfl) (by kernel_rfl) (by kernel_rfl) (by kernel_rfl) ?_
      refine qi (t := decide (x15 < 0)) (by kernel_rfl) (fun c => ?_) (fun c => ?_)
      · rw [if_pos (of_decide_eq_true c)] at H
        clear c
        refine qr T_ok [0, 1, 2, 8, 9, 10] (E2 := [(0, [], .p (.sl 2 S_F eS_F a0)), (1, [], vs a1), (2, [], .fn 97 []), (8, [], vi (a0.length : Int)), (9, [], vi (w64 ((w64 x13) + 1))), (10, [], vi x7)]) (by kernel_rfl) ?_
        exact ⟨_, Nat.lt_succ_self _, w64 ((w64 x13) + 1), x7, rfl, rfl, H⟩
      · rw [if_neg (of_decide_eq_false c)] at H
        clear c
        refine qr T_ok [0, 1, 2, 8, 9, 10] (E2 := [(0, [], .p (.sl 2 S_F eS_F a0)), (1, [], vs a1), (2, [], .fn 97 []), (8, [], vi (a0.length : Int)), (9, [], vi x6), (10, [], vi (w64 x13))]) (by kernel_rfl) ?_
        exact ⟨_, Nat.lt_succ_self _, x6, w64 x13, rfl, rfl, H⟩
    · rw [if_neg (of_decide_eq_false c)] at H
      clear c
      refine qw [0, 1, 2, 8, 9] rfl ?_
      refine qx ?_
      refine qs ?_
      refine qg ?_
      refine qm T_ok 8 (k := 8) (by kernel_rfl) (by kernel_rfl) (by kernel_rfl) ?_
      obtain ⟨x16, hx, H⟩ := bd H
      refine qyg rfl (tg := []) (Yld.under (u := 39) (b := true) (t := decide (x6 < (a0.length : Int))) (by kernel_rfl) (by simp) fun g0_ => (zi T_ok .i64 (enc := eS_F) (l := a0) (e := 62) (n := 2) (ei := ti62) (sa := (.p (.sl 2 S_F eS_F a0))) (gd1 hx g0_) rfl (by kernel_rfl) (by kernel_rfl) rfl (by kernel_rfl) (by kernel_rfl) (by kernel_rfl))) rfl rfl (by kernel_rfl) (by kernel_rfl) rfl ?_
      clear hx
      refine qm T_ok 2 (k := 11) (by kernel_rfl) (by kernel_rfl) (by kernel_rfl) ?_
      obtain ⟨x17, hx, H⟩ := bd H
      refine qyg rfl (tg := []) (Yld.under (u := 39) (b := true) (t := decide (x6 < (a0.length : Int))) (by kernel_rfl) (by simp) fun g0_ => (zc (T := T) (tree_Tree_find_1.ok x16 a1 _ (gd1 hx g0_)) Tryd.func97 rfl rfl (caps := []) (by kernel_rfl) (by kernel_rfl) (by kernel_rfl) (by kernel_rfl) (by kernel_rfl) (by kernel_rfl))) rfl rfl (by kernel_rfl) (by kernel_rfl) rfl ?_
      clear hx
      refine qz T_ok 4 [6, 7] 0 (E2 := [(6, [], vi x6), (7, [], vb (decide (x6 < (a0.length : Int)) && decide (x17 = 0)))]) (h1 := []) (by kernel_rfl) (by kernel_rfl) (by kernel_rfl) (by kernel_rfl) (by kernel_rfl) ?_
      refine qt ?_
      obtain rfl := Option.some.inj H
      exact ⟨.tup [vi x6, vb (decide (x6 < (a0.length : Int)) && decide (x17 = 0))], by kernel_rfl, rfl⟩
/-! ### (quitclaim/tree.Tree).find: function 69 -/
def tree_Tree_find.f (k : Nat) (a0 : S_files) (a1 : ByteArray) : Option (Int × Bool) := ((slices_BinarySearchFunc_tree_File_tree_File_string_tree_Tree_find_1.f k a0.f0_files a1).bind fun x1 => some (x1.1, x1.2))
theorem tree_Tree_find.ok (k : Nat) (a0 : S_files) (a1 : ByteArray) (r : Int × Bool) (H : tree_Tree_find.f k a0 a1 = some r) : PF Tryd.prog 69 [.p (.agg [(.sl 2 S_F eS_F a0.f0_files)]), vs a1] (.tup [vi r.1, vb r.2]) := by
  refine PF_mk T_ok Tryd.func69 rfl (by kernel_rfl) (by kernel_rfl) ?_
  unfold tree_Tree_find.f at H
  refine qs ?_
  refine qg ?_
  refine xb (T := T) (j := 0) (cs := [.p (.sl 2 S_F eS_F a0.f0_files)]) rfl rfl rfl rfl (by kernel_rfl) (by kernel_rfl) rfl ?_
  refine qz T_ok 2 [1, 2] 1 (E2 := [(1, [], vs a1), (2, [], .ptr 0 0)]) (h1 := [.cells 46 [.p (.sl 2 S_F eS_F a0.f0_files)]]) (by kernel_rfl) (by kernel_rfl) (by kernel_rfl) (by kernel_rfl) (by kernel_rfl) ?_
  refine qs ?_
  refine qg ?_
  refine qm T_ok 3 (k := 3) (by kernel_rfl) (by kernel_rfl) (by kernel_rfl) ?_
  obtain ⟨x1, hx, H⟩ := bd H
  refine qy rfl (zc (T := T) (slices_BinarySearchFunc_tree_File_tree_File_string_tree_Tree_find_1.ok k a0.f0_files a1 _ hx) Tryd.func96 rfl rfl (caps := []) (by kernel_rfl) (by kernel_rfl) (by kernel_rfl) (by kernel_rfl) (by kernel_rfl) (by kernel_rfl)) rfl (by kernel_rfl) rfl ?_
  clear hx
  refine qz T_ok 4 [4, 5] 0 (E2 := [(4, [], vi x1.1), (5, [], vb x1.2)]) (h1 := []) (by kernel_rfl) (by kernel_rfl) (by kernel_rfl) (by kernel_rfl) (by kernel_rfl) ?_
  refine qt ?_
  obtain rfl := Option.some.inj H
  exact ⟨.tup [vi x1.1, vb x1.2], by kernel_rfl, rfl⟩
/-! ### internal/stringslite.HasPrefix: function 105 -/
def internal_stringslite_HasPrefix.f (a0 : ByteArray) (a1 : ByteArray) : Option Bool := ((gd (decide ((a0.size : Int) ≥ (a1.size : Int))) (sub a0 0 (a1.size : Int))).bind fun x1 => some (decide ((a0.size : Int) ≥ (a1.size : Int)) && decide (x1 = a1)))
theorem internal_stringslite_HasPrefix.ok (a0 : ByteArray) (a1 : ByteArray) (r : Bool) (H : internal_stringslite_HasPrefix.f a0 a1 = some r) : PF Tryd.prog 105 [vs a0, vs a1] (vb r) := by
  refine PF_mk T_ok Tryd.func105 rfl (by kernel_rfl) (by kernel_rfl) ?_
  unfold internal_stringslite_HasPrefix.f at H
  refine qs ?_
  refine qr T_ok [0, 1] (E2 := [(0, [], vs a0), (1, [], vs a1)]) (by kernel_rfl) ?_
  refine qs ?_
  refine qg ?_
  refine qm T_ok 9 (k := 9) (by kernel_rfl) (by kernel_rfl) (by kernel_rfl) ?_
  obtain ⟨x1, hx, H⟩ := bd H
  refine qyg rfl (tg := []) (Yld.under (u := 10) (b := true) (t := decide ((a0.size : Int) ≥ (a1.size : Int))) (by kernel_rfl) (by simp) fun g0_ => (zu T_ok (gd1 hx g0_) rfl (by kernel_rfl) (by kernel_rfl) rfl ⟨.i64, by kernel_rfl⟩)) rfl rfl (by kernel_rfl) (by kernel_rfl) rfl ?_
  clear hx
  refine qz T_ok 4 [4] 0 (E2 := [(4, [], vb (decide ((a0.size : Int) ≥ (a1.size : Int)) && decide (x1 = a1)))]) (h1 := []) (by kernel_rfl) (by kernel_rfl) (by kernel_rfl) (by kernel_rfl) (by kernel_rfl) ?_
  refine qt ?_
  obtain rfl := Option.some.inj H
  exact ⟨vb (decide ((a0.size : Int) ≥ (a1.size : Int)) && decide (x1 = a1)), by kernel_rfl, rfl⟩
/-! ### strings.HasPrefix: function 74 -/
def strings_HasPrefix.f (a0 : ByteArray) (a1 : ByteArray) : Option Bool := ((internal_stringslite_HasPrefix.f a0 a1).bind fun x1 => some x1)
theorem strings_HasPrefix.ok (a0 : ByteArray) (a1 : ByteArray) (r : Bool) (H : strings_HasPrefix.f a0 a1 = some r) : PF Tryd.prog 74 [vs a0, vs a1] (vb r) := by
  refine PF_mk T_ok Tryd.func74 rfl (by kernel_rfl) (by kernel_rfl) ?_
  unfold strings_HasPrefix.f at H
  refine qs ?_
  refine qr T_ok [0, 1] (E2 := [(0, [], vs a0), (1, [], vs a1)]) (by kernel_rfl) ?_
  refine qs ?_
  refine qg ?_
  refine qm T_ok 2 (k := 2) (by kernel_rfl) (by kernel_rfl) (by kernel_rfl) ?_
  obtain ⟨x1, hx, H⟩ := bd H
  refine qy rfl (zc (T := T) (internal_stringslite_HasPrefix.ok a0 a1 _ hx) Tryd.func105 rfl rfl (caps := []) (by kernel_rfl) (by kernel_rfl) (by kernel_rfl) (by kernel_rfl) (by kernel_rfl) (by kernel_rfl)) rfl (by kernel_rfl) rfl ?_
  clear hx
  refine qz T_ok 1 [4] 0 (E2 := [(4, [], vb x1)]) (h1 := []) (by kernel_rfl) (by kernel_rfl) (by kernel_rfl) (by kernel_rfl) (by kernel_rfl) ?_
  refine qt ?_
  obtain rfl := Option.some.inj H
  exact ⟨vb x1, by kernel_rfl, rfl⟩
/-! ### quitclaim/path.covers: function 46 -/
def path_covers.f (a0 : ByteArray) (a1 : ByteArray) : Option Bool := ((gd (!(decide (a0 = ⟨#[]⟩) || decide (a1 = a0))) (cat a0 (⟨#[47]⟩ : ByteArray))).bind fun x1 => ((gd (!(decide (a0 = ⟨#[]⟩) || decide (a1 = a0))) (strings_HasPrefix.f a1 x1)).bind fun x2 => some ((decide (a0 = ⟨#[]⟩) || decide (a1 = a0)) || x2)))
theorem path_covers.ok (a0 : ByteArray) (a1 : ByteArray) (r : Bool) (H : path_covers.f a0 a1 = some r) : PF Tryd.prog 46 [vs a0, vs a1] (vb r) := by
  refine PF_mk T_ok Tryd.func46 rfl (by kernel_rfl) (by kernel_rfl) ?_
  unfold path_covers.f at H
  refine qs ?_
  refine qr T_ok [0, 1] (E2 := [(0, [], vs a0), (1, [], vs a1)]) (by kernel_rfl) ?_
  refine qs ?_
  refine qg ?_
  refine qm T_ok 10 (k := 10) (by kernel_rfl) (by kernel_rfl) (by kernel_rfl) ?_
  obtain ⟨x1, hx, H⟩ := bd H
  refine qyg rfl (tg := []) (Yld.under (u := 12) (b := false) (t := (decide (a0 = ⟨#[]⟩) || decide (a1 = a0))) (by kernel_rfl) (by simp) fun g0_ => (za (gd0 hx g0_) rfl (by kernel_rfl) (by kernel_rfl))) rfl rfl (by kernel_rfl) (by kernel_rfl) rfl ?_
  clear hx
  obtain ⟨x2, hx, H⟩ := bd H
  refine qyg rfl (tg := []) (Yld.under (u := 12) (b := false) (t := (decide (a0 = ⟨#[]⟩) || decide (a1 = a0))) (by kernel_rfl) (by simp) fun g0_ => (zc (T := T) (strings_HasPrefix.ok a1 x1 _ (gd0 hx g0_)) Tryd.func74 rfl rfl (caps := []) (by kernel_rfl) (by kernel_rfl) (by kernel_rfl) (by kernel_rfl) (by kernel_rfl) (by kernel_rfl))) rfl rfl (by kernel_rfl) (by kernel_rfl) rfl ?_
  clear hx
  refine qz T_ok 2 [4] 0 (E2 := [(4, [], vb ((decide (a0 = ⟨#[]⟩) || decide (a1 = a0)) || x2))]) (h1 := []) (by kernel_rfl) (by kernel_rfl) (by kernel_rfl) (by kernel_rfl) (by kernel_rfl) ?_
  refine qt ?_
  obtain rfl := Option.some.inj H
  exact ⟨vb ((decide (a0 = ⟨#[]⟩) || decide (a1 = a0)) || x2), by kernel_rfl, rfl⟩
/-! ### quitclaim/path.Beside: function 16 -/
def path_Beside.f (k : Nat) (a0 : ByteArray) (a1 : ByteArray) : Option Bool := ((path_Right.f k a0).bind fun x1 => ((gd x1 (path_Right.f k a1)).bind fun x2 => ((gd (x1 && x2) (path_covers.f a0 a1)).bind fun x3 => ((gd ((x1 && x2) && !x3) (path_covers.f a1 a0)).bind fun x4 => some (((x1 && x2) && !x3) && !x4)))))
theorem path_Beside.ok (k : Nat) (a0 : ByteArray) (a1 : ByteArray) (r : Bool) (H : path_Beside.f k a0 a1 = some r) : PF Tryd.prog 16 [vs a0, vs a1] (vb r) := by
  refine PF_mk T_ok Tryd.func16 rfl (by kernel_rfl) (by kernel_rfl) ?_
  unfold path_Beside.f at H
  refine qs ?_
  refine qr T_ok [0, 1] (E2 := [(0, [], vs a0), (1, [], vs a1)]) (by kernel_rfl) ?_
  refine qs ?_
  refine qg ?_
  refine qm T_ok 1 (k := 1) (by kernel_rfl) (by kernel_rfl) (by kernel_rfl) ?_
  obtain ⟨x1, hx, H⟩ := bd H
  refine qy rfl (zc (T := T) (path_Right.ok k a0 _ hx) Tryd.func13 rfl rfl (caps := []) (by kernel_rfl) (by kernel_rfl) (by kernel_rfl) (by kernel_rfl) (by kernel_rfl) (by kernel_rfl)) rfl (by kernel_rfl) rfl ?_
  clear hx
  refine qm T_ok 2 (k := 4) (by kernel_rfl) (by kernel_rfl) (by kernel_rfl) ?_
  obtain ⟨x2, hx, H⟩ := bd H
  refine qyg rfl (tg := []) (Yld.under (u := 7) (b := true) (t := x1) (by kernel_rfl) (by simp) fun g0_ => (zc (T := T) (path_Right.ok k a1 _ (gd1 hx g0_)) Tryd.func13 rfl rfl (caps := []) (by kernel_rfl) (by kernel_rfl) (by kernel_rfl) (by kernel_rfl) (by kernel_rfl) (by kernel_rfl))) rfl rfl (by kernel_rfl) (by kernel_rfl) rfl ?_
  clear hx
  refine qm T_ok 4 (k := 9) (by kernel_rfl) (by kernel_rfl) (by kernel_rfl) ?_
  obtain ⟨x3, hx, H⟩ := bd H
  refine qyg rfl (tg := []) (Yld.under (u := 11) (b := true) (t := (x1 && x2)) (by kernel_rfl) (by simp) fun g0_ => (zc (T := T) (path_covers.ok a0 a1 _ (gd1 hx g0_)) Tryd.func46 rfl rfl (caps := []) (by kernel_rfl) (by kernel_rfl) (by kernel_rfl) (by kernel_rfl) (by kernel_rfl) (by kernel_rfl))) rfl rfl (by kernel_rfl) (by kernel_rfl) rfl ?_
  clear hx
  refine qm T_ok 5 (k := 15) (by kernel_rfl) (by kernel_rfl) (by kernel_rfl) ?_
  obtain ⟨x4, hx, H⟩ := bd H
  refine qyg rfl (tg := []) (Yld.under (u := 17) (b := true) (t := ((x1 && x2) && !x3)) (by kernel_rfl) (by simp) fun g0_ => (zc (T := T) (path_covers.ok a1 a0 _ (gd1 hx g0_)) Tryd.func46 rfl rfl (caps := []) (by kernel_rfl) (by kernel_rfl) (by kernel_rfl) (by kernel_rfl) (by kernel_rfl) (by kernel_rfl))) rfl rfl (by kernel_rfl) (by kernel_rfl) rfl ?_
  clear hx
  refine qz T_ok 3 [4] 0 (E2 := [(4, [], vb (((x1 && x2) && !x3) && !x4))]) (h1 := []) (by kernel_rfl) (by kernel_rfl) (by kernel_rfl) (by kernel_rfl) (by kernel_rfl) ?_
  refine qt ?_
  obtain rfl := Option.some.inj H
  exact ⟨vb (((x1 && x2) && !x3) && !x4), by kernel_rfl, rfl⟩
/-! ### (quitclaim/tree.Tree).room: function 61 -/
def tree_Tree_room.l0 (a0 : S_files) (a1 : ByteArray) : Nat → Int → Option Int
  | 0, _ => none
  | k + 1, x4 => (if x4 < (a0.f0_files.length : Int) then ((ix a0.f0_files x4).bind fun x7 => ((path_Beside.f k x7.f0_Path a1).bind fun x8 => (if (!x8) = true then some 12 else tree_Tree_room.l0 a0 a1 k (w64 (x4 + 1))))) else some 0)
def tree_Tree_room.f (k : Nat) (a0 : S_files) (a1 : ByteArray) : Option Int := ((tree_Tree_find.f k a0 a1).bind fun x1 => (if x1.2 = true then some 7 else tree_Tree_room.l0 a0 a1 k 0))
theorem tree_Tree_room.ok (k : Nat) (a0 : S_files) (a1 : ByteArray) (r : Int) (H : tree_Tree_room.f k a0 a1 = some r) : PF Tryd.prog 61 [.p (.agg [(.sl 2 S_F eS_F a0.f0_files)]), vs a1] (vi r) := by
  refine PF_mk T_ok Tryd.func61 rfl (by kernel_rfl) (by kernel_rfl) ?_
  unfold tree_Tree_room.f at H
  refine qs ?_
  refine qg ?_
  refine xb (T := T) (j := 0) (cs := [.p (.sl 2 S_F eS_F a0.f0_files)]) rfl rfl rfl rfl (by kernel_rfl) (by kernel_rfl) rfl ?_
  refine qz T_ok 1 [1, 2] 1 (E2 := [(1, [], vs a1), (2, [], .ptr 0 0)]) (h1 := [.cells 46 [.p (.sl 2 S_F eS_F a0.f0_files)]]) (by kernel_rfl) (by kernel_rfl) (by kernel_rfl) (by kernel_rfl) (by kernel_rfl) ?_
  refine qs ?_
  refine qs ?_
  refine qg ?_
  refine qm T_ok 2 (k := 2) (by kernel_rfl) (by kernel_rfl) (by kernel_rfl) ?_
  obtain ⟨x1, hx, H⟩ := bd H
  refine qy rfl (zc (T := T) (tree_Tree_find.ok k a0 a1 _ hx) Tryd.func69 rfl rfl (caps := []) (by kernel_rfl) (by kernel_rfl) (by kernel_rfl) (by kernel_rfl) (by kernel_rfl) (by kernel_rfl)) rfl (by kernel_rfl) rfl ?_
  clear hx
  refine qz T_ok 5 [1, 2, 6] 1 (E2 := [(1, [], vs a1), (2, [], .ptr 0 0), (6, [], vb x1.2)]) (h1 := [.cells 46 [.p (.sl 2 S_F eS_F a0.f0_files)]]) (by kernel_rfl) (by kernel_rfl) (by kernel_rfl) (by kernel_rfl) (by kernel_rfl) ?_
  refine qs ?_
  refine qr T_ok [1, 2, 15] (E2 := [(1, [], vs a1), (2, [], .ptr 0 0), (15, [], vb x1.2)]) (by kernel_rfl) ?_
  refine qi (t := x1.2) (by kernel_rfl) (fun c => ?_) (fun c => ?_)
  · rw [if_pos c] at H
    clear c
    refine qs ?_
    refine qg ?_
    refine qz T_ok 1 [4] 0 (E2 := [(4, [], vi 7)]) (h1 := []) (by kernel_rfl) (by kernel_rfl) (by kernel_rfl) (by kernel_rfl) (by kernel_rfl) ?_
    refine qt ?_
    obtain rfl := Option.some.inj H
    exact ⟨vi 7, by kernel_rfl, rfl⟩
  · rw [if_neg (by rw [c]; exact Bool.false_ne_true)] at H
    clear c
    refine qw [1, 2] rfl ?_
    refine qk ?_
    refine qs ?_
    refine qs ?_
    refine qg ?_
    refine qz T_ok 4 [1, 17, 18, 19] 0 (E2 := [(1, [], vs a1), (17, [], .p (.sl 2 S_F eS_F a0.f0_files)), (18, [], vi (a0.f0_files.length : Int)), (19, [], vi 0)]) (h1 := []) (by kernel_rfl) (by kernel_rfl) (by kernel_rfl) (by kernel_rfl) (by kernel_rfl) ?_
    refine qb ?_
    refine qp (fun k E h => ∃ x4 : Int, E = [(1, [], vs a1), (17, [], .p (.sl 2 S_F eS_F a0.f0_files)), (18, [], vi (a0.f0_files.length : Int)), (19, [], vi x4)] ∧ h = [] ∧ tree_Tree_room.l0 a0 a1 k x4 = some r) k ⟨0, rfl, rfl, H⟩ ?_
    clear H
    rintro k E h ⟨x4, rfl, rfl, H⟩
    cases k with
    | zero => exact nomatch (show none = some r from H)
    | succ k =>
      rw [tree_Tree_room.l0] at H
      refine qs ?_
      refine qr T_ok [1, 17, 18, 19, 20] (E2 := [(1, [], vs a1), (17, [], .p (.sl 2 S_F eS_F a0.f0_files)), (18, [], vi (a0.f0_files.length : Int)), (19, [], vi x4), (20, [], vb (decide (x4 < (a0.f0_files.length : Int))))]) (by kernel_rfl) ?_
      refine qs ?_
      refine qi (t := decide (x4 < (a0.f0_files.length : Int))) (by kernel_rfl) (fun c => ?_) (fun c => ?_)
      · rw [if_pos (of_decide_eq_true c)] at H
        clear c
        refine qw [1, 17, 18, 19] rfl ?_
        refine qk ?_
        refine qs ?_
        refine qb ?_
        refine qs ?_
        refine qg ?_
        obtain ⟨x7, hx, H⟩ := bd H
        refine qy rfl (zi T_ok .i64 (enc := eS_F) (l := a0.f0_files) (e := 62) (n := 2) (ei := ti62) (sa := (.p (.sl 2 S_F eS_F a0.f0_files))) hx rfl (by kernel_rfl) (by kernel_rfl) rfl (by kernel_rfl) (by kernel_rfl) (by kernel_rfl)) rfl (by kernel_rfl) rfl ?_
        clear hx
        refine qm T_ok 1 (k := 2) (by kernel_rfl) (by kernel_rfl) (by kernel_rfl) ?_
        refine xa T_ok (j := 0) (ti := ti62) rfl rfl rfl rfl (by kernel_rfl) (by kernel_rfl) rfl ?_
        refine xs T_ok (u := 62) (b := 0) (off := 0) (vs := [vs x7.f0_Path, .p (.sl 1 ByteArray eS x7.f1_Lines)]) (cs := [vs ⟨#[]⟩, .p (.sl 1 ByteArray eS [])]) (ti := ti62) rfl rfl rfl rfl (by kernel_rfl) (by kernel_rfl) (by kernel_rfl) (by kernel_rfl) (by kernel_rfl) (by kernel_rfl) rfl ?_
        refine qz T_ok 0 [1, 8, 17, 18, 19] 1 (E2 := [(1, [], vs a1), (8, [], .ptr 0 0), (17, [], .p (.sl 2 S_F eS_F a0.f0_files)), (18, [], vi (a0.f0_files.length : Int)), (19, [], vi x4)]) (h1 := [.cells 62 [vs x7.f0_Path, .p (.sl 1 ByteArray eS x7.f1_Lines)]]) (by kernel_rfl) (by kernel_rfl) (by kernel_rfl) (by kernel_rfl) (by kernel_rfl) ?_
        refine qs ?_
        refine qg ?_
        refine qm T_ok 3 (k := 3) (by kernel_rfl) (by kernel_rfl) (by kernel_rfl) ?_
        obtain ⟨x8, hx, H⟩ := bd H
        refine qy rfl (zc (T := T) (path_Beside.ok k x7.f0_Path a1 _ hx) Tryd.func16 rfl rfl (caps := []) (by kernel_rfl) (by kernel_rfl) (by kernel_rfl) (by kernel_rfl) (by kernel_rfl) (by kernel_rfl)) rfl (by kernel_rfl) rfl ?_
        clear hx
        refine qz T_ok 1 [1, 17, 18, 19, 27] 0 (E2 := [(1, [], vs a1), (17, [], .p (.sl 2 S_F eS_F a0.f0_files)), (18, [], vi (a0.f0_files.length : Int)), (19, [], vi x4), (27, [], vb (!x8))]) (h1 := []) (by kernel_rfl) (by kernel_rfl) (by kernel_rfl) (by kernel_rfl) (by kernel_rfl) ?_
        refine qi (t := !x8) (by kernel_rfl) (fun c => ?_) (fun c => ?_)
        · rw [if_pos c] at H
          clear c
          refine qs ?_
          refine qr T_ok [4] (E2 := [(4, [], vi 12)]) (by kernel_rfl) ?_
          refine qt ?_
          obtain rfl := Option.some.inj H
          exact ⟨vi 12, by kernel_rfl, rfl⟩
        · rw [if_neg (by rw [c]; exact Bool.false_ne_true)] at H
          clear c
          refine qw [1, 17, 18, 19] rfl ?_
          refine qk ?_
          refine qr T_ok [1, 17, 18, 19] (E2 := [(1, [], vs a1), (17, [], .p (.sl 2 S_F eS_F a0.f0_files)), (18, [], vi (a0.f0_files.length : Int)), (19, [], vi (w64 (x4 + 1)))]) (by kernel_rfl) ?_
          exact ⟨_, Nat.lt_succ_self _, w64 (x4 + 1), rfl, rfl, H⟩
      · rw [if_neg (of_decide_eq_false c)] at H
        clear c
        refine qw [] rfl ?_
        refine qx ?_
        refine qs ?_
        refine qr T_ok [4] (E2 := [(4, [], vi 0)]) (by kernel_rfl) ?_
        refine qt ?_
        obtain rfl := Option.some.inj H
        exact ⟨vi 0, by kernel_rfl, rfl⟩
/-! ### slices.Grow[[]quitclaim/tree.File,quitclaim/tree.File]: function 120 -/
theorem slices_Grow_tree_File_tree_File.ok (a1 : Int) (u : Unit) (H : grw 40 a1 = some u) : PO Tryd.prog 120 [.p (.s (.slice none 0 0)), vi a1] 62 2 (S_F) eS_F [] := by
  obtain ⟨h0, h1, h2⟩ := grw_of H
  refine PO_mk T_ok Tryd.func120 rfl (by kernel_rfl) ?_
  refine qs ?_
  refine qg ?_
  refine qm T_ok 1 (k := 1) (by kernel_rfl) (by kernel_rfl) (by kernel_rfl) ?_
  refine WL_keep [0, 1] (E1 := [(0, [], .p (.s (.slice none 0 0))), (1, [], vi a1)]) (by kernel_rfl) (WL_nil (by kernel_rfl) ?_)
  refine qs ?_
  refine qs ?_
  refine qr T_ok [0, 1, 6] (E2 := [(0, [], .p (.s (.slice none 0 0))), (1, [], vi a1), (6, [], vb (decide (a1 < 0)))]) (by kernel_rfl) ?_
  refine qi0 (t := decide (a1 < 0)) (by kernel_rfl) (decide_eq_false (by omega)) ?_
  refine qw [0, 1] rfl ?_
  refine qk ?_
  refine qs ?_
  refine qs ?_
  refine qg ?_
  refine qm T_ok 1 (k := 1) (by kernel_rfl) (by kernel_rfl) (by kernel_rfl) ?_
  refine qy rfl (y_mv0 (s := .p (.s (.slice none 0 0))) (by kernel_rfl) (.inl rfl)) rfl (by kernel_rfl) rfl ?_
  refine qy rfl (y_cap0 T_ok (e := 62) rfl rfl rfl rfl (by kernel_rfl) (by kernel_rfl)) rfl (by kernel_rfl) rfl ?_
  refine qm T_ok 4 (k := 7) (by kernel_rfl) (by kernel_rfl) (by kernel_rfl) ?_
  refine qe T_ok 1 [0, 1] (E2 := [(0, [], .p (.s (.slice none 0 0))), (1, [], vi (w64 (a1 - w64 (0 - (([] : List (S_F)).length : Int)))))]) (by kernel_rfl) (by kernel_rfl) ?_
  have hw : w64 (a1 - w64 (0 - (([] : List (S_F)).length : Int))) = a1 := by
    simp only [w64, IntKind.wrap_i64, List.length_nil]
    omega
  rw [hw]
  refine qs ?_
  refine qr T_ok [0, 1, 16] (E2 := [(0, [], .p (.s (.slice none 0 0))), (1, [], vi a1), (16, [], vb (decide (a1 > 0)))]) (by kernel_rfl) ?_
  refine qi (t := decide (a1 > 0)) (by kernel_rfl) (fun c => ?_) (fun c => ?_)
  · have c := of_decide_eq_true c
    obtain ⟨k, rfl⟩ : ∃ k : Nat, a1 = (k : Int) := ⟨a1.toNat, by omega⟩
    refine qg ?_
    refine qy rfl (y_mv0 (s := .p (.s (.slice none 0 0))) (by kernel_rfl) (.inl rfl)) rfl (by kernel_rfl) rfl ?_
    refine qy rfl (y_mv0 (s := .p (.s (.slice none 0 0))) (by kernel_rfl) (.inl rfl)) rfl (by kernel_rfl) rfl ?_
    refine qy rfl (y_cap0 T_ok (e := 62) rfl rfl rfl rfl (by kernel_rfl) (by kernel_rfl)) rfl (by kernel_rfl) rfl ?_
    refine qy rfl (y_cut0 T_ok (e := 62) (ei := ti62) rfl (by kernel_rfl) (by kernel_rfl) (by kernel_rfl) (by kernel_rfl)) rfl (by kernel_rfl) rfl ?_
    refine qm T_ok 1 (k := 5) (by kernel_rfl) (by kernel_rfl) (by kernel_rfl) ?_
    refine xz T_ok (e := 62) (k := k) (ku := .i64) (ei := ti62) (j := 0) rfl rfl rfl rfl rfl rfl rfl (by kernel_rfl) (by kernel_rfl) (by kernel_rfl) (by kernel_rfl) (by kernel_rfl) (by kernel_rfl) rfl (by omega) (by kernel_rfl) (by kernel_rfl) (by show k * 40 ≤ _; omega) ?_
    refine qm T_ok 2 (k := 8) (by kernel_rfl) (by kernel_rfl) (by kernel_rfl) ?_
    refine xr T_ok (e := 62) (n := 2) (k := k) (ei := ti62) (j := 0) eS_F rfl rfl rfl (by kernel_rfl) (by kernel_rfl) (by kernel_rfl) (by kernel_rfl) (by kernel_rfl) ?_
    refine qe T_ok 1 [0] (E2 := [(0, [], .own 62 2 (S_F) eS_F [] 0)]) (by kernel_rfl) (by kernel_rfl) ?_
    refine qs ?_
    refine qr T_ok [4] (E2 := [(4, [], .own 62 2 (S_F) eS_F [] 0)]) (by kernel_rfl) ?_
    refine qt ?_
    exact ⟨.own 62 2 (S_F) eS_F [] 0, by kernel_rfl, rfl, rfl⟩
  · refine qw [0] rfl ?_
    refine qk ?_
    refine qs ?_
    refine qg ?_
    refine qy rfl (y_mv0 (s := .p (.s (.slice none 0 0))) (by kernel_rfl) (.inl rfl)) rfl (by kernel_rfl) rfl ?_
    refine xo (j := 0) eS_F (e := 62) (n := 2) rfl (.inr rfl) rfl rfl (by kernel_rfl) (by kernel_rfl) rfl ?_
    refine WL_keep [4] (E1 := [(4, [], .own 62 2 (S_F) eS_F [] 0)]) (by kernel_rfl) (WL_nil (by kernel_rfl) ?_)
    refine qt ?_
    exact ⟨.own 62 2 (S_F) eS_F [] 0, by kernel_rfl, rfl, rfl⟩

/-! ### slices.Concat[[]quitclaim/tree.File,quitclaim/tree.File]: function 95 -/
def slices_Concat_tree_File_tree_File.l3 (a0 : List (List S_F)) : Nat → (List S_F) → Int → Option (List S_F)
  | 0, _, _ => none
  | k + 1, x24, x25 => (if x25 < (a0.length : Int) then ((ix a0 x25).bind fun x28 => ((app 40 x24 x28).bind fun x29 => slices_Concat_tree_File_tree_File.l3 a0 k x29 (w64 (x25 + 1)))) else some x24)
def slices_Concat_tree_File_tree_File.l2 (a0 : List (List S_F)) : Nat → Int → Int → Option (List S_F)
  | 0, _, _ => none
  | k + 1, x10, x11 => (if x11 < (a0.length : Int) then ((ix a0 x11).bind fun x21 => (if w64 (x10 + (x21.length : Int)) < 0 then none else slices_Concat_tree_File_tree_File.l2 a0 k (w64 (x10 + (x21.length : Int))) (w64 (x11 + 1)))) else ((grw 40 x10).bind fun _ => slices_Concat_tree_File_tree_File.l3 a0 k [] 0))
def slices_Concat_tree_File_tree_File.f (k : Nat) (a0 : List (List S_F)) : Option (List S_F) := slices_Concat_tree_File_tree_File.l2 a0 k 0 0
theorem slices_Concat_tree_File_tree_File.ok (k : Nat) (a0 : List (List S_F)) (r : List S_F) (H : slices_Concat_tree_File_tree_File.f k a0 = some r) : PF Tryd.prog 95 [.p (.sl 1 (List S_F) (eL 2 eS_F) a0)] (.p (.sl 2 S_F eS_F r)) := by
  refine PF_mk T_ok Tryd.func95 rfl (by kernel_rfl) (by kernel_rfl) ?_
  unfold slices_Concat_tree_File_tree_File.f at H
  refine qs ?_
  refine qr T_ok [0] (E2 := [(0, [], .p (.sl 1 (List S_F) (eL 2 eS_F) a0))]) (by kernel_rfl) ?_
  refine qs ?_
  refine qr T_ok [0, 3] (E2 := [(0, [], .p (.sl 1 (List S_F) (eL 2 eS_F) a0)), (3, [], vi 0)]) (by kernel_rfl) ?_
  refine qs ?_
  refine qs ?_
  refine qr T_ok [0, 3, 9, 10, 11] (E2 := [(0, [], .p (.sl 1 (List S_F) (eL 2 eS_F) a0)), (3, [], vi 0), (9, [], .p (.sl 1 (List S_F) (eL 2 eS_F) a0)), (10, [], vi (a0.length : Int)), (11, [], vi 0)]) (by kernel_rfl) ?_
  refine qb ?_
  refine qp (fun k E h => ∃ x10 : Int, ∃ x11 : Int, E = [(0, [], .p (.sl 1 (List S_F) (eL 2 eS_F) a0)), (3, [], vi x10), (9, [], .p (.sl 1 (List S_F) (eL 2 eS_F) a0)), (10, [], vi (a0.length : Int)), (11, [], vi x11)] ∧ h = [] ∧ slices_Concat_tree_File_tree_File.l2 a0 k x10 x11 = some r) k ⟨0, 0, rfl, rfl, H⟩ ?_
  clear H
  rintro k E h ⟨x10, x11, rfl, rfl, H⟩
  cases k with
  | zero => exact nomatch (show none = some r from H)
  | succ k =>
    rw [slices_Concat_tree_File_tree_File.l2] at H
    refine qs ?_
    refine qr T_ok [0, 3, 9, 10, 11, 12] (E2 := [(0, [], .p (.sl 1 (List S_F) (eL 2 eS_F) a0)), (3, [], vi x10), (9, [], .p (.sl 1 (List S_F) (eL 2 eS_F) a0)), (10, [], vi (a0.length : Int)), (11, [], vi x11), (12, [], vb (decide (x11 < (a0.length : Int))))]) (by kernel_rfl) ?_
    refine qs ?_
    refine qi (t := decide (x11 < (a0.length : Int))) (by kernel_rfl) (fun c => ?_) (fun c => ?_)
    · rw [if_pos (of_decide_eq_true c)] at H
      clear c
      refine qw [0, 3, 9, 10, 11] rfl ?_
      refine qk ?_
      refine qs ?_
      refine qb ?_
      refine qs ?_
      refine qg ?_
      obtain ⟨x21, hx, H⟩ := bd H
      refine qy rfl (zi T_ok .i64 (enc := (eL 2 eS_F)) (l := a0) (e := 44) (n := 1) (ei := ti44) (sa := (.p (.sl 1 (List S_F) (eL 2 eS_F) a0))) hx rfl (by kernel_rfl) (by kernel_rfl) rfl (by kernel_rfl) (by kernel_rfl) (by kernel_rfl)) rfl (by kernel_rfl) rfl ?_
      clear hx
      refine qz T_ok 2 [0, 3, 5, 9, 10, 11] 0 (E2 := [(0, [], .p (.sl 1 (List S_F) (eL 2 eS_F) a0)), (3, [], vi x10), (5, [], .p (.sl 2 S_F eS_F x21)), (9, [], .p (.sl 1 (List S_F) (eL 2 eS_F) a0)), (10, [], vi (a0.length : Int)), (11, [], vi x11)]) (h1 := []) (by kernel_rfl) (by kernel_rfl) (by kernel_rfl) (by kernel_rfl) (by kernel_rfl) ?_
      refine qs ?_
      refine qr T_ok [0, 3, 9, 10, 11] (E2 := [(0, [], .p (.sl 1 (List S_F) (eL 2 eS_F) a0)), (3, [], vi (w64 (x10 + (x21.length : Int)))), (9, [], .p (.sl 1 (List S_F) (eL 2 eS_F) a0)), (10, [], vi (a0.length : Int)), (11, [], vi x11)]) (by kernel_rfl) ?_
      refine qs ?_
      refine qr T_ok [0, 3, 9, 10, 11, 20] (E2 := [(0, [], .p (.sl 1 (List S_F) (eL 2 eS_F) a0)), (3, [], vi (w64 (x10 + (x21.length : Int)))), (9, [], .p (.sl 1 (List S_F) (eL 2 eS_F) a0)), (10, [], vi (a0.length : Int)), (11, [], vi x11), (20, [], vb (decide (w64 (x10 + (x21.length : Int)) < 0)))]) (by kernel_rfl) ?_
      refine qi (t := decide (w64 (x10 + (x21.length : Int)) < 0)) (by kernel_rfl) (fun c => ?_) (fun c => ?_)
      · rw [if_pos (of_decide_eq_true c)] at H
        clear c
        exact nomatch (show none = some r from H)
      · rw [if_neg (of_decide_eq_false c)] at H
        clear c
        refine qw [0, 3, 9, 10, 11] rfl ?_
        refine qk ?_
        refine qr T_ok [0, 3, 9, 10, 11] (E2 := [(0, [], .p (.sl 1 (List S_F) (eL 2 eS_F) a0)), (3, [], vi (w64 (x10 + (x21.length : Int)))), (9, [], .p (.sl 1 (List S_F) (eL 2 eS_F) a0)), (10, [], vi (a0.length : Int)), (11, [], vi (w64 (x11 + 1)))]) (by kernel_rfl) ?_
        exact ⟨_, Nat.lt_succ_self _, w64 (x10 + (x21.length : Int)), w64 (x11 + 1), rfl, rfl, H⟩
    · rw [if_neg (of_decide_eq_false c)] at H
      clear c
      refine qw [0, 3] rfl ?_
      refine qx ?_
      refine qs ?_
      refine qg ?_
      refine qm T_ok 1 (k := 1) (by kernel_rfl) (by kernel_rfl) (by kernel_rfl) ?_
      obtain ⟨u_, hx, H⟩ := bd H
      refine xc (j := 0) (slices_Grow_tree_File_tree_File.ok x10 _ hx) Tryd.func120 rfl rfl rfl rfl rfl (by kernel_rfl) (by kernel_rfl) (by kernel_rfl) (by kernel_rfl) (by kernel_rfl) (by kernel_rfl) rfl ?_
      clear hx
      refine qz T_ok 1 [0, 6] 1 (E2 := [(0, [], .p (.sl 1 (List S_F) (eL 2 eS_F) a0)), (6, [], .own 62 2 S_F eS_F [] 0)]) (h1 := [.tail]) (by kernel_rfl) (by kernel_rfl) (by kernel_rfl) (by kernel_rfl) (by kernel_rfl) ?_
      refine qs ?_
      refine qs ?_
      refine qr T_ok [6, 25, 26, 27] (E2 := [(6, [], .own 62 2 S_F eS_F [] 0), (25, [], .p (.sl 1 (List S_F) (eL 2 eS_F) a0)), (26, [], vi (a0.length : Int)), (27, [], vi 0)]) (by kernel_rfl) ?_
      refine qb ?_
      refine qp (fun k E h => ∃ x24 : List S_F, ∃ x25 : Int, E = [(6, [], .own 62 2 S_F eS_F x24 0), (25, [], .p (.sl 1 (List S_F) (eL 2 eS_F) a0)), (26, [], vi (a0.length : Int)), (27, [], vi x25)] ∧ h = [.tail] ∧ slices_Concat_tree_File_tree_File.l3 a0 k x24 x25 = some r) k ⟨[], 0, rfl, rfl, H⟩ ?_
      clear H
      rintro k E h ⟨x24, x25, rfl, rfl, H⟩
      cases k with
      | zero => exact nomatch (show none = some r from H)
      | succ k =>
        rw [slices_Concat_tree_File_tree_File.l3] at H
        refine qs ?_
        refine qr T_ok [6, 25, 26, 27, 28] (E2 := [(6, [], .own 62 2 S_F eS_F x24 0), (25, [], .p (.sl 1 (List S_F) (eL 2 eS_F) a0)), (26, [], vi (a0.length : Int)), (27, [], vi x25), (28, [], vb (decide (x25 < (a0.length : Int))))]) (by kernel_rfl) ?_
        refine qs ?_
        refine qi (t := decide (x25 < (a0.length : Int))) (by kernel_rfl) (fun c => ?_) (fun c => ?_)
        · rw [if_pos (of_decide_eq_true c)] at H
          clear c
          refine qw [6, 25, 26, 27] rfl ?_
          refine qk ?_
          refine qs ?_
          refine qb ?_
          refine qs ?_
          refine qg ?_
          obtain ⟨x28, hx, H⟩ := bd H
          refine qy rfl (zi T_ok .i64 (enc := (eL 2 eS_F)) (l := a0) (e := 44) (n := 1) (ei := ti44) (sa := (.p (.sl 1 (List S_F) (eL 2 eS_F) a0))) hx rfl (by kernel_rfl) (by kernel_rfl) rfl (by kernel_rfl) (by kernel_rfl) (by kernel_rfl)) rfl (by kernel_rfl) rfl ?_
          clear hx
          refine qz T_ok 2 [6, 8, 25, 26, 27] 1 (E2 := [(6, [], .own 62 2 S_F eS_F x24 0), (8, [], .p (.sl 2 S_F eS_F x28)), (25, [], .p (.sl 1 (List S_F) (eL 2 eS_F) a0)), (26, [], vi (a0.length : Int)), (27, [], vi x25)]) (h1 := [.tail]) (by kernel_rfl) (by kernel_rfl) (by kernel_rfl) (by kernel_rfl) (by kernel_rfl) ?_
          refine qg ?_
          refine qm T_ok 2 (k := 2) (by kernel_rfl) (by kernel_rfl) (by kernel_rfl) ?_
          obtain ⟨x29, hx, H⟩ := bd H
          refine xp T_ok (enc := eS_F) (l := x24) (m := x28) (e := 62) (e' := 62) (j := 0) (ei := ti62) (sy := (.p (.sl 2 S_F eS_F x28))) hx rfl rfl rfl rfl rfl rfl rfl (by kernel_rfl) (by kernel_rfl) (by kernel_rfl) (by kernel_rfl) (by kernel_rfl) (by kernel_rfl) (by kernel_rfl) (by kernel_rfl) (by kernel_rfl) rfl ?_
          clear hx
          refine qz T_ok 1 [6, 25, 26, 27] 1 (E2 := [(6, [], .own 62 2 S_F eS_F x29 0), (25, [], .p (.sl 1 (List S_F) (eL 2 eS_F) a0)), (26, [], vi (a0.length : Int)), (27, [], vi x25)]) (h1 := [.tail]) (by kernel_rfl) (by kernel_rfl) (by kernel_rfl) (by kernel_rfl) (by kernel_rfl) ?_
          refine qr T_ok [6, 25, 26, 27] (E2 := [(6, [], .own 62 2 S_F eS_F x29 0), (25, [], .p (.sl 1 (List S_F) (eL 2 eS_F) a0)), (26, [], vi (a0.length : Int)), (27, [], vi (w64 (x25 + 1)))]) (by kernel_rfl) ?_
          exact ⟨_, Nat.lt_succ_self _, x29, w64 (x25 + 1), rfl, rfl, H⟩
        · rw [if_neg (of_decide_eq_false c)] at H
          clear c
          refine qw [6] rfl ?_
          refine qx ?_
          refine qs ?_
          refine qr T_ok [2] (E2 := [(2, [], .own 62 2 S_F eS_F x24 0)]) (by kernel_rfl) ?_
          refine qt ?_
          obtain rfl := Option.some.inj H
          exact ⟨.own 62 2 S_F eS_F x24 0, by kernel_rfl, rfl⟩
/-! ### (quitclaim/tree.Tree).with: function 62 -/
def tree_Tree_with.f (k : Nat) (a0 : S_files) (a1 : S_F) : Option S_files := ((tree_Tree_find.f k a0 a1.f0_Path).bind fun x1 => (jn (fun (x2 : Int) => ((cut a0.f0_files 0 x1.1).bind fun x3 => ((cut a0.f0_files (w64 (x1.1 + x2)) (a0.f0_files.length : Int)).bind fun x4 => ((slices_Concat_tree_File_tree_File.f k [x3, [a1], x4]).bind fun x5 => some (⟨x5⟩ : S_files))))) fun j0 => (if x1.2 = true then j0 1 else j0 0)))
theorem tree_Tree_with.ok (k : Nat) (a0 : S_files) (a1 : S_F) (r : S_files) (H : tree_Tree_with.f k a0 a1 = some r) : PF Tryd.prog 62 [.p (.agg [(.sl 2 S_F eS_F a0.f0_files)]), .p (.agg [(.s (.string a1.f0_Path)), (.sl 1 ByteArray eS a1.f1_Lines)])] (.p (.agg [(.sl 2 S_F eS_F r.f0_files)])) := by
  refine PF_mk T_ok Tryd.func62 rfl (by kernel_rfl) (by kernel_rfl) ?_
  unfold tree_Tree_with.f at H
  refine qs ?_
  refine qg ?_
  refine xb (T := T) (j := 0) (cs := [.p (.sl 2 S_F eS_F a0.f0_files)]) rfl rfl rfl rfl (by kernel_rfl) (by kernel_rfl) rfl ?_
  refine xb (T := T) (j := 1) (cs := [vs a1.f0_Path, .p (.sl 1 ByteArray eS a1.f1_Lines)]) rfl rfl rfl rfl (by kernel_rfl) (by kernel_rfl) rfl ?_
  refine xa T_ok (j := 2) (ti := ti46) rfl rfl rfl rfl (by kernel_rfl) (by kernel_rfl) rfl ?_
  refine qz T_ok 0 [2, 3, 4] 3 (E2 := [(2, [], .ptr 0 0), (3, [], .ptr 1 0), (4, [], .ptr 2 0)]) (h1 := [.cells 46 [.p (.sl 2 S_F eS_F a0.f0_files)], .cells 62 [vs a1.f0_Path, .p (.sl 1 ByteArray eS a1.f1_Lines)], .cells 46 [.p (.sl 2 S_F eS_F [])]]) (by kernel_rfl) (by kernel_rfl) (by kernel_rfl) (by kernel_rfl) (by kernel_rfl) ?_
  refine qs ?_
  refine qg ?_
  refine qm T_ok 3 (k := 3) (by kernel_rfl) (by kernel_rfl) (by kernel_rfl) ?_
  obtain ⟨x1, hx, H⟩ := bd H
  refine qy rfl (zc (T := T) (tree_Tree_find.ok k a0 a1.f0_Path _ hx) Tryd.func69 rfl rfl (caps := []) (by kernel_rfl) (by kernel_rfl) (by kernel_rfl) (by kernel_rfl) (by kernel_rfl) (by kernel_rfl)) rfl (by kernel_rfl) rfl ?_
  clear hx
  refine qz T_ok 5 [2, 3, 4, 5, 6] 3 (E2 := [(2, [], .ptr 0 0), (3, [], .ptr 1 0), (4, [], .ptr 2 0), (5, [], vi x1.1), (6, [], vb x1.2)]) (h1 := [.cells 46 [.p (.sl 2 S_F eS_F a0.f0_files)], .cells 62 [vs a1.f0_Path, .p (.sl 1 ByteArray eS a1.f1_Lines)], .cells 46 [.p (.sl 2 S_F eS_F [])]]) (by kernel_rfl) (by kernel_rfl) (by kernel_rfl) (by kernel_rfl) (by kernel_rfl) ?_
  refine qs ?_
  refine qr T_ok [2, 3, 4, 5, 6, 7] (E2 := [(2, [], .ptr 0 0), (3, [], .ptr 1 0), (4, [], .ptr 2 0), (5, [], vi x1.1), (6, [], vb x1.2), (7, [], vi 0)]) (by kernel_rfl) ?_
  obtain ⟨j0, hj, H⟩ := jn_of H
  refine qc (fun E h => ∃ x2 : Int, E = [(2, [], .ptr 0 0), (3, [], .ptr 1 0), (4, [], .ptr 2 0), (5, [], vi x1.1), (7, [], vi x2)] ∧ h = [.cells 46 [.p (.sl 2 S_F eS_F a0.f0_files)], .cells 62 [vs a1.f0_Path, .p (.sl 1 ByteArray eS a1.f1_Lines)], .cells 46 [.p (.sl 2 S_F eS_F [])]] ∧ j0 x2 = some r) ?_ ?_
  · clear hj
    refine qs ?_
    refine qr T_ok [2, 3, 4, 5, 7, 15] (E2 := [(2, [], .ptr 0 0), (3, [], .ptr 1 0), (4, [], .ptr 2 0), (5, [], vi x1.1), (7, [], vi 0), (15, [], vb x1.2)]) (by kernel_rfl) ?_
    refine qi (t := x1.2) (by kernel_rfl) (fun c => ?_) (fun c => ?_)
    · rw [if_pos c] at H
      clear c
      refine qr T_ok [2, 3, 4, 5, 7] (E2 := [(2, [], .ptr 0 0), (3, [], .ptr 1 0), (4, [], .ptr 2 0), (5, [], vi x1.1), (7, [], vi 1)]) (by kernel_rfl) ?_
      exact ⟨1, rfl, rfl, H⟩
    · rw [if_neg (by rw [c]; exact Bool.false_ne_true)] at H
      clear c
      refine qw [2, 3, 4, 5, 7] rfl ?_
      refine qk ?_
      exact ⟨0, rfl, rfl, H⟩
  · clear H
    rintro E h ⟨x2, rfl, rfl, H⟩
    subst hj
    dsimp only at H
    refine qs ?_
    refine qd (by kernel_rfl) 15 (by kernel_rfl) (by kernel_rfl) (by kernel_rfl) (by kernel_rfl) (by kernel_rfl) ?_
    refine dm T_ok 3 (k := 3) (by kernel_rfl) (by kernel_rfl) ?_
    obtain ⟨x3, hx, H⟩ := bd H
    refine dy rfl (zt T_ok (enc := eS_F) (l := a0.f0_files) (e := 62) (n := 2) (ei := ti62) (sa := (.p (.sl 2 S_F eS_F a0.f0_files))) hx rfl (by kernel_rfl) (by kernel_rfl) rfl (by kernel_rfl) (by kernel_rfl) rfl ⟨.i64, by kernel_rfl⟩) rfl (by kernel_rfl) rfl ?_
    clear hx
    refine dm T_ok 1 (k := 5) (by kernel_rfl) (by kernel_rfl) ?_
    refine dy rfl (ze T_ok (e := 62) (n := 2) eS_F ([a1] : List S_F) rfl (by kernel_rfl)) rfl (by kernel_rfl) rfl ?_
    refine dm T_ok 5 (k := 11) (by kernel_rfl) (by kernel_rfl) ?_
    obtain ⟨x4, hx, H⟩ := bd H
    refine dy rfl (zt T_ok (enc := eS_F) (l := a0.f0_files) (e := 62) (n := 2) (ei := ti62) (sa := (.p (.sl 2 S_F eS_F a0.f0_files))) hx rfl (by kernel_rfl) (by kernel_rfl) rfl (by kernel_rfl) (by kernel_rfl) ⟨.i64, by kernel_rfl⟩ rfl) rfl (by kernel_rfl) rfl ?_
    clear hx
    refine dy rfl (ze T_ok (e := 44) (n := 1) (eL 2 eS_F) ([x3, [a1], x4] : List (List S_F)) rfl (by kernel_rfl)) rfl (by kernel_rfl) rfl ?_
    obtain ⟨x5, hx, H⟩ := bd H
    refine dy rfl (zc (T := T) (slices_Concat_tree_File_tree_File.ok k [x3, [a1], x4] _ hx) Tryd.func95 rfl rfl (caps := []) (by kernel_rfl) (by kernel_rfl) (by kernel_rfl) (by kernel_rfl) (by kernel_rfl) (by kernel_rfl)) rfl (by kernel_rfl) rfl ?_
    clear hx
    refine dm T_ok 1 (k := 15) (by kernel_rfl) (by kernel_rfl) ?_
    refine dn ?_
    refine xs T_ok (u := 46) (b := 2) (off := 0) (vs := [.p (.sl 2 S_F eS_F x5)]) (cs := [.p (.sl 2 S_F eS_F [])]) (ti := ti46) rfl rfl rfl rfl (by kernel_rfl) (by kernel_rfl) (by kernel_rfl) (by kernel_rfl) (by kernel_rfl) (by kernel_rfl) rfl ?_
    refine qz T_ok 0 [4] 3 (E2 := [(4, [], .ptr 2 0)]) (h1 := [.cells 46 [.p (.sl 2 S_F eS_F a0.f0_files)], .cells 62 [vs a1.f0_Path, .p (.sl 1 ByteArray eS a1.f1_Lines)], .cells 46 [.p (.sl 2 S_F eS_F x5)]]) (by kernel_rfl) (by kernel_rfl) (by kernel_rfl) (by kernel_rfl) (by kernel_rfl) ?_
    refine qt ?_
    obtain rfl := Option.some.inj H
    exact ⟨.p (.agg [(.sl 2 S_F eS_F x5)]), by kernel_rfl, rfl⟩
/-! ### (quitclaim/tree.Tree).create: function 89 -/
def tree_Tree_create.f (k : Nat) (a0 : S_files) (a1 : ByteArray) : Option (S_files × Int) := ((tree_Tree_room.f k a0 a1).bind fun x1 => (jn (fun (x2 : Int) => (if (!decide (x2 = 0)) = true then some (a0, x2) else ((tree_Tree_with.f k a0 (⟨a1, []⟩ : S_F)).bind fun x3 => some (x3, 0)))) fun j0 => (if (decide (x1 = 0) && decide ((a0.f0_files.length : Int) ≥ 200)) = true then j0 14 else j0 x1)))
theorem tree_Tree_create.ok (k : Nat) (a0 : S_files) (a1 : ByteArray) (r : S_files × Int) (H : tree_Tree_create.f k a0 a1 = some r) : PF Tryd.prog 89 [.p (.agg [(.sl 2 S_F eS_F a0.f0_files)]), vs a1] (.tup [.p (.agg [(.sl 2 S_F eS_F r.1.f0_files)]), vi r.2]) := by
  refine PF_mk T_ok Tryd.func89 rfl (by kernel_rfl) (by kernel_rfl) ?_
  unfold tree_Tree_create.f at H
  refine qs ?_
  refine qg ?_
  refine xb (T := T) (j := 0) (cs := [.p (.sl 2 S_F eS_F a0.f0_files)]) rfl rfl rfl rfl (by kernel_rfl) (by kernel_rfl) rfl ?_
  refine xa T_ok (j := 1) (ti := ti46) rfl rfl rfl rfl (by kernel_rfl) (by kernel_rfl) rfl ?_
  refine qz T_ok 1 [1, 2, 4] 2 (E2 := [(1, [], vs a1), (2, [], .ptr 0 0), (4, [], .ptr 1 0)]) (h1 := [.cells 46 [.p (.sl 2 S_F eS_F a0.f0_files)], .cells 46 [.p (.sl 2 S_F eS_F [])]]) (by kernel_rfl) (by kernel_rfl) (by kernel_rfl) (by kernel_rfl) (by kernel_rfl) ?_
  refine qs ?_
  refine qg ?_
  refine qm T_ok 2 (k := 2) (by kernel_rfl) (by kernel_rfl) (by kernel_rfl) ?_
  obtain ⟨x1, hx, H⟩ := bd H
  refine qy rfl (zc (T := T) (tree_Tree_room.ok k a0 a1 _ hx) Tryd.func61 rfl rfl (caps := []) (by kernel_rfl) (by kernel_rfl) (by kernel_rfl) (by kernel_rfl) (by kernel_rfl) (by kernel_rfl)) rfl (by kernel_rfl) rfl ?_
  clear hx
  refine qz T_ok 1 [1, 2, 4, 6] 2 (E2 := [(1, [], vs a1), (2, [], .ptr 0 0), (4, [], .ptr 1 0), (6, [], vi x1)]) (h1 := [.cells 46 [.p (.sl 2 S_F eS_F a0.f0_files)], .cells 46 [.p (.sl 2 S_F eS_F [])]]) (by kernel_rfl) (by kernel_rfl) (by kernel_rfl) (by kernel_rfl) (by kernel_rfl) ?_
  obtain ⟨j0, hj, H⟩ := jn_of H
  refine qc (fun E h => ∃ x2 : Int, E = [(1, [], vs a1), (2, [], .ptr 0 0), (4, [], .ptr 1 0), (6, [], vi x2)] ∧ h = [.cells 46 [.p (.sl 2 S_F eS_F a0.f0_files)], .cells 46 [.p (.sl 2 S_F eS_F [])]] ∧ j0 x2 = some r) ?_ ?_
  · clear hj
    refine qs ?_
    refine qr T_ok [1, 2, 4, 6, 17] (E2 := [(1, [], vs a1), (2, [], .ptr 0 0), (4, [], .ptr 1 0), (6, [], vi x1), (17, [], vb (decide (x1 = 0) && decide ((a0.f0_files.length : Int) ≥ 200)))]) (by kernel_rfl) ?_
    refine qi (t := (decide (x1 = 0) && decide ((a0.f0_files.length : Int) ≥ 200))) (by kernel_rfl) (fun c => ?_) (fun c => ?_)
    · rw [if_pos c] at H
      clear c
      refine qr T_ok [1, 2, 4, 6] (E2 := [(1, [], vs a1), (2, [], .ptr 0 0), (4, [], .ptr 1 0), (6, [], vi 14)]) (by kernel_rfl) ?_
      exact ⟨14, rfl, rfl, H⟩
    · rw [if_neg (by rw [c]; exact Bool.false_ne_true)] at H
      clear c
      refine qw [1, 2, 4, 6] rfl ?_
      refine qk ?_
      exact ⟨x1, rfl, rfl, H⟩
  · clear H
    rintro E h ⟨x2, rfl, rfl, H⟩
    subst hj
    dsimp only at H
    refine qs ?_
    refine qs ?_
    refine qr T_ok [1, 2, 4, 6, 19] (E2 := [(1, [], vs a1), (2, [], .ptr 0 0), (4, [], .ptr 1 0), (6, [], vi x2), (19, [], vb (!decide (x2 = 0)))]) (by kernel_rfl) ?_
    refine qi (t := !decide (x2 = 0)) (by kernel_rfl) (fun c => ?_) (fun c => ?_)
    · rw [if_pos c] at H
      clear c
      refine qs ?_
      refine qg ?_
      refine qm T_ok 2 (k := 2) (by kernel_rfl) (by kernel_rfl) (by kernel_rfl) ?_
      refine xs T_ok (u := 46) (b := 1) (off := 0) (vs := [.p (.sl 2 S_F eS_F a0.f0_files)]) (cs := [.p (.sl 2 S_F eS_F [])]) (ti := ti46) rfl rfl rfl rfl (by kernel_rfl) (by kernel_rfl) (by kernel_rfl) (by kernel_rfl) (by kernel_rfl) (by kernel_rfl) rfl ?_
      refine qz T_ok 1 [4, 5] 2 (E2 := [(4, [], .ptr 1 0), (5, [], vi x2)]) (h1 := [.cells 46 [.p (.sl 2 S_F eS_F a0.f0_files)], .cells 46 [.p (.sl 2 S_F eS_F a0.f0_files)]]) (by kernel_rfl) (by kernel_rfl) (by kernel_rfl) (by kernel_rfl) (by kernel_rfl) ?_
      refine qt ?_
      obtain rfl := Option.some.inj H
      exact ⟨.tup [.p (.agg [(.sl 2 S_F eS_F a0.f0_files)]), vi x2], by kernel_rfl, rfl⟩
    · rw [if_neg (by rw [c]; exact Bool.false_ne_true)] at H
      clear c
      refine qw [1, 2, 4] rfl ?_
      refine qk ?_
      refine qs ?_
      refine qg ?_
      refine qm T_ok 3 (k := 3) (by kernel_rfl) (by kernel_rfl) (by kernel_rfl) ?_
      obtain ⟨x3, hx, H⟩ := bd H
      refine qy rfl (zc (T := T) (tree_Tree_with.ok k a0 (⟨a1, []⟩ : S_F) _ hx) Tryd.func62 rfl rfl (caps := []) (by kernel_rfl) (by kernel_rfl) (by kernel_rfl) (by kernel_rfl) (by kernel_rfl) (by kernel_rfl)) rfl (by kernel_rfl) rfl ?_
      clear hx
      refine xs T_ok (u := 46) (b := 1) (off := 0) (vs := [.p (.sl 2 S_F eS_F x3.f0_files)]) (cs := [.p (.sl 2 S_F eS_F [])]) (ti := ti46) rfl rfl rfl rfl (by kernel_rfl) (by kernel_rfl) (by kernel_rfl) (by kernel_rfl) (by kernel_rfl) (by kernel_rfl) rfl ?_
      refine qz T_ok 1 [4, 5] 2 (E2 := [(4, [], .ptr 1 0), (5, [], vi 0)]) (h1 := [.cells 46 [.p (.sl 2 S_F eS_F a0.f0_files)], .cells 46 [.p (.sl 2 S_F eS_F x3.f0_files)]]) (by kernel_rfl) (by kernel_rfl) (by kernel_rfl) (by kernel_rfl) (by kernel_rfl) ?_
      refine qt ?_
      obtain rfl := Option.some.inj H
      exact ⟨.tup [.p (.agg [(.sl 2 S_F eS_F x3.f0_files)]), vi 0], by kernel_rfl, rfl⟩
/-! ### slices.Clone[[]string,string]: function 70 -/
def slices_Clone_string_string.f (a0 : List ByteArray) : Option (List ByteArray) := (nq a0 fun b1 => (if b1 = true then some [] else ((app 16 ([] : List ByteArray) a0).bind fun x2 => some x2)))
theorem slices_Clone_string_string.ok (a0 : List ByteArray) (r : List ByteArray) (H : slices_Clone_string_string.f a0 = some r) : PF Tryd.prog 70 [.p (.sl 1 ByteArray eS a0)] (.p (.sl 1 ByteArray eS r)) := by
  refine PF_mk T_ok Tryd.func70 rfl (by kernel_rfl) (by kernel_rfl) ?_
  unfold slices_Clone_string_string.f at H
  refine qs ?_
  refine qr T_ok [0] (E2 := [(0, [], .p (.sl 1 ByteArray eS a0))]) (by kernel_rfl) ?_
  refine qs ?_
  refine qs ?_
  refine qg ?_
  refine qm T_ok 1 (k := 1) (by kernel_rfl) (by kernel_rfl) (by kernel_rfl) ?_
  refine xq T_ok (enc := eS) (l := a0) (e := 9) (n := 1) (sx := (.p (.sl 1 ByteArray eS a0))) rfl rfl rfl rfl (by kernel_rfl) (by kernel_rfl) (by kernel_rfl) (by kernel_rfl) ?_
  intro b1 hn
  have H := nq_of H b1 hn
  clear hn
  refine qz T_ok 0 [0, 4] 0 (E2 := [(0, [], .p (.sl 1 ByteArray eS a0)), (4, [], vb b1)]) (h1 := []) (by kernel_rfl) (by kernel_rfl) (by kernel_rfl) (by kernel_rfl) (by kernel_rfl) ?_
  refine qi (t := b1) (by kernel_rfl) (fun c => ?_) (fun c => ?_)
  · rw [if_pos c] at H
    clear c
    refine qs ?_
    refine qr T_ok [2] (E2 := [(2, [], .p (.sl 1 ByteArray eS []))]) (by kernel_rfl) ?_
    refine qt ?_
    obtain rfl := Option.some.inj H
    exact ⟨.p (.sl 1 ByteArray eS []), by kernel_rfl, rfl⟩
  · rw [if_neg (by rw [c]; exact Bool.false_ne_true)] at H
    clear c
    refine qw [0] rfl ?_
    refine qk ?_
    refine qs ?_
    refine qg ?_
    refine xl T_ok (e := 9) (n := 1) (j := 0) eS ([]) rfl rfl rfl rfl (by kernel_rfl) (by kernel_rfl) rfl ?_
    refine qm T_ok 1 (k := 2) (by kernel_rfl) (by kernel_rfl) (by kernel_rfl) ?_
    obtain ⟨x2, hx, H⟩ := bd H
    refine xp T_ok (enc := eS) (l := []) (m := a0) (e := 9) (e' := 9) (j := 0) (ei := ti9) (sy := (.p (.sl 1 ByteArray eS a0))) hx rfl rfl rfl rfl rfl rfl rfl (by kernel_rfl) (by kernel_rfl) (by kernel_rfl) (by kernel_rfl) (by kernel_rfl) (by kernel_rfl) (by kernel_rfl) (by kernel_rfl) (by kernel_rfl) rfl ?_
    clear hx
    refine qz T_ok 1 [2] 1 (E2 := [(2, [], .own 9 1 ByteArray eS x2 0)]) (h1 := [.tail]) (by kernel_rfl) (by kernel_rfl) (by kernel_rfl) (by kernel_rfl) (by kernel_rfl) ?_
    refine qt ?_
    obtain rfl := Option.some.inj H
    exact ⟨.own 9 1 ByteArray eS x2 0, by kernel_rfl, rfl⟩
/-! ### (quitclaim/tree.Tree).Get: function 57 -/
def tree_Tree_Get.f (k : Nat) (a0 : S_files) (a1 : ByteArray) : Option ((List ByteArray) × Bool) := ((tree_Tree_find.f k a0 a1).bind fun x1 => (if (!x1.2) = true then some ([], false) else ((ix a0.f0_files x1.1).bind fun x2 => ((slices_Clone_string_string.f x2.f1_Lines).bind fun x3 => some (x3, true)))))
theorem tree_Tree_Get.ok (k : Nat) (a0 : S_files) (a1 : ByteArray) (r : (List ByteArray) × Bool) (H : tree_Tree_Get.f k a0 a1 = some r) : PF Tryd.prog 57 [.p (.agg [(.sl 2 S_F eS_F a0.f0_files)]), vs a1] (.tup [.p (.sl 1 ByteArray eS r.1), vb r.2]) := by
  refine PF_mk T_ok Tryd.func57 rfl (by kernel_rfl) (by kernel_rfl) ?_
  unfold tree_Tree_Get.f at H
  refine qs ?_
  refine qg ?_
  refine xb (T := T) (j := 0) (cs := [.p (.sl 2 S_F eS_F a0.f0_files)]) rfl rfl rfl rfl (by kernel_rfl) (by kernel_rfl) rfl ?_
  refine qz T_ok 2 [1, 2] 1 (E2 := [(1, [], vs a1), (2, [], .ptr 0 0)]) (h1 := [.cells 46 [.p (.sl 2 S_F eS_F a0.f0_files)]]) (by kernel_rfl) (by kernel_rfl) (by kernel_rfl) (by kernel_rfl) (by kernel_rfl) ?_
  refine qs ?_
  refine qg ?_
  refine qm T_ok 2 (k := 2) (by kernel_rfl) (by kernel_rfl) (by kernel_rfl) ?_
  obtain ⟨x1, hx, H⟩ := bd H
  refine qy rfl (zc (T := T) (tree_Tree_find.ok k a0 a1 _ hx) Tryd.func69 rfl rfl (caps := []) (by kernel_rfl) (by kernel_rfl) (by kernel_rfl) (by kernel_rfl) (by kernel_rfl) (by kernel_rfl)) rfl (by kernel_rfl) rfl ?_
  clear hx
  refine qz T_ok 5 [2, 6, 7] 1 (E2 := [(2, [], .ptr 0 0), (6, [], vi x1.1), (7, [], vb x1.2)]) (h1 := [.cells 46 [.p (.sl 2 S_F eS_F a0.f0_files)]]) (by kernel_rfl) (by kernel_rfl) (by kernel_rfl) (by kernel_rfl) (by kernel_rfl) ?_
  refine qs ?_
  refine qs ?_
  refine qr T_ok [2, 6, 15] (E2 := [(2, [], .ptr 0 0), (6, [], vi x1.1), (15, [], vb (!x1.2))]) (by kernel_rfl) ?_
  refine qi (t := !x1.2) (by kernel_rfl) (fun c => ?_) (fun c => ?_)
  · rw [if_pos c] at H
    clear c
    refine qs ?_
    refine qg ?_
    refine qz T_ok 2 [4, 5] 0 (E2 := [(4, [], .p (.sl 1 ByteArray eS [])), (5, [], vb false)]) (h1 := []) (by kernel_rfl) (by kernel_rfl) (by kernel_rfl) (by kernel_rfl) (by kernel_rfl) ?_
    refine qt ?_
    obtain rfl := Option.some.inj H
    exact ⟨.tup [.p (.sl 1 ByteArray eS []), vb false], by kernel_rfl, rfl⟩
  · rw [if_neg (by rw [c]; exact Bool.false_ne_true)] at H
    clear c
    refine qw [2, 6] rfl ?_
    refine qk ?_
    refine qs ?_
    refine qg ?_
    refine qm T_ok 3 (k := 3) (by kernel_rfl) (by kernel_rfl) (by kernel_rfl) ?_
    obtain ⟨x2, hx, H⟩ := bd H
    refine qy rfl (zi T_ok .i64 (enc := eS_F) (l := a0.f0_files) (e := 62) (n := 2) (ei := ti62) (sa := (.p (.sl 2 S_F eS_F a0.f0_files))) hx rfl (by kernel_rfl) (by kernel_rfl) rfl (by kernel_rfl) (by kernel_rfl) (by kernel_rfl)) rfl (by kernel_rfl) rfl ?_
    clear hx
    refine qm T_ok 2 (k := 6) (by kernel_rfl) (by kernel_rfl) (by kernel_rfl) ?_
    obtain ⟨x3, hx, H⟩ := bd H
    refine qy rfl (zc (T := T) (slices_Clone_string_string.ok x2.f1_Lines _ hx) Tryd.func70 rfl rfl (caps := []) (by kernel_rfl) (by kernel_rfl) (by kernel_rfl) (by kernel_rfl) (by kernel_rfl) (by kernel_rfl)) rfl (by kernel_rfl) rfl ?_
    clear hx
    refine qz T_ok 2 [4, 5] 0 (E2 := [(4, [], .p (.sl 1 ByteArray eS x3)), (5, [], vb true)]) (h1 := []) (by kernel_rfl) (by kernel_rfl) (by kernel_rfl) (by kernel_rfl) (by kernel_rfl) ?_
    refine qt ?_
    obtain rfl := Option.some.inj H
    exact ⟨.tup [.p (.sl 1 ByteArray eS x3), vb true], by kernel_rfl, rfl⟩
/-! ### (quitclaim/tree.Tree).without: function 115 -/
def tree_Tree_without.f (k : Nat) (a0 : S_files) (a1 : ByteArray) : Option S_files := ((tree_Tree_find.f k a0 a1).bind fun x1 => (if (!x1.2) = true then some a0 else ((cut a0.f0_files 0 x1.1).bind fun x2 => ((cut a0.f0_files (w64 (x1.1 + 1)) (a0.f0_files.length : Int)).bind fun x3 => ((slices_Concat_tree_File_tree_File.f k [x2, x3]).bind fun x4 => some (⟨x4⟩ : S_files))))))
theorem tree_Tree_without.ok (k : Nat) (a0 : S_files) (a1 : ByteArray) (r : S_files) (H : tree_Tree_without.f k a0 a1 = some r) : PF Tryd.prog 115 [.p (.agg [(.sl 2 S_F eS_F a0.f0_files)]), vs a1] (.p (.agg [(.sl 2 S_F eS_F r.f0_files)])) := by
  refine PF_mk T_ok Tryd.func115 rfl (by kernel_rfl) (by kernel_rfl) ?_
  unfold tree_Tree_without.f at H
  refine qs ?_
  refine qg ?_
  refine xb (T := T) (j := 0) (cs := [.p (.sl 2 S_F eS_F a0.f0_files)]) rfl rfl rfl rfl (by kernel_rfl) (by kernel_rfl) rfl ?_
  refine xa T_ok (j := 1) (ti := ti46) rfl rfl rfl rfl (by kernel_rfl) (by kernel_rfl) rfl ?_
  refine qz T_ok 0 [1, 2, 4] 2 (E2 := [(1, [], vs a1), (2, [], .ptr 0 0), (4, [], .ptr 1 0)]) (h1 := [.cells 46 [.p (.sl 2 S_F eS_F a0.f0_files)], .cells 46 [.p (.sl 2 S_F eS_F [])]]) (by kernel_rfl) (by kernel_rfl) (by kernel_rfl) (by kernel_rfl) (by kernel_rfl) ?_
  refine qs ?_
  refine qg ?_
  refine qm T_ok 2 (k := 2) (by kernel_rfl) (by kernel_rfl) (by kernel_rfl) ?_
  obtain ⟨x1, hx, H⟩ := bd H
  refine qy rfl (zc (T := T) (tree_Tree_find.ok k a0 a1 _ hx) Tryd.func69 rfl rfl (caps := []) (by kernel_rfl) (by kernel_rfl) (by kernel_rfl) (by kernel_rfl) (by kernel_rfl) (by kernel_rfl)) rfl (by kernel_rfl) rfl ?_
  clear hx
  refine qz T_ok 5 [2, 4, 5, 6] 2 (E2 := [(2, [], .ptr 0 0), (4, [], .ptr 1 0), (5, [], vi x1.1), (6, [], vb x1.2)]) (h1 := [.cells 46 [.p (.sl 2 S_F eS_F a0.f0_files)], .cells 46 [.p (.sl 2 S_F eS_F [])]]) (by kernel_rfl) (by kernel_rfl) (by kernel_rfl) (by kernel_rfl) (by kernel_rfl) ?_
  refine qs ?_
  refine qs ?_
  refine qr T_ok [2, 4, 5, 14] (E2 := [(2, [], .ptr 0 0), (4, [], .ptr 1 0), (5, [], vi x1.1), (14, [], vb (!x1.2))]) (by kernel_rfl) ?_
  refine qi (t := !x1.2) (by kernel_rfl) (fun c => ?_) (fun c => ?_)
  · rw [if_pos c] at H
    clear c
    refine qs ?_
    refine qg ?_
    refine qm T_ok 1 (k := 1) (by kernel_rfl) (by kernel_rfl) (by kernel_rfl) ?_
    refine xs T_ok (u := 46) (b := 1) (off := 0) (vs := [.p (.sl 2 S_F eS_F a0.f0_files)]) (cs := [.p (.sl 2 S_F eS_F [])]) (ti := ti46) rfl rfl rfl rfl (by kernel_rfl) (by kernel_rfl) (by kernel_rfl) (by kernel_rfl) (by kernel_rfl) (by kernel_rfl) rfl ?_
    refine qz T_ok 0 [4] 2 (E2 := [(4, [], .ptr 1 0)]) (h1 := [.cells 46 [.p (.sl 2 S_F eS_F a0.f0_files)], .cells 46 [.p (.sl 2 S_F eS_F a0.f0_files)]]) (by kernel_rfl) (by kernel_rfl) (by kernel_rfl) (by kernel_rfl) (by kernel_rfl) ?_
    refine qt ?_
    obtain rfl := Option.some.inj H
    exact ⟨.p (.agg [(.sl 2 S_F eS_F a0.f0_files)]), by kernel_rfl, rfl⟩
  · rw [if_neg (by rw [c]; exact Bool.false_ne_true)] at H
    clear c
    refine qw [2, 4, 5] rfl ?_
    refine qk ?_
    refine qs ?_
    refine qd (by kernel_rfl) 12 (by kernel_rfl) (by kernel_rfl) (by kernel_rfl) (by kernel_rfl) (by kernel_rfl) ?_
    refine dm T_ok 3 (k := 3) (by kernel_rfl) (by kernel_rfl) ?_
    obtain ⟨x2, hx, H⟩ := bd H
    refine dy rfl (zt T_ok (enc := eS_F) (l := a0.f0_files) (e := 62) (n := 2) (ei := ti62) (sa := (.p (.sl 2 S_F eS_F a0.f0_files))) hx rfl (by kernel_rfl) (by kernel_rfl) rfl (by kernel_rfl) (by kernel_rfl) rfl ⟨.i64, by kernel_rfl⟩) rfl (by kernel_rfl) rfl ?_
    clear hx
    refine dm T_ok 4 (k := 8) (by kernel_rfl) (by kernel_rfl) ?_
    obtain ⟨x3, hx, H⟩ := bd H
    refine dy rfl (zt T_ok (enc := eS_F) (l := a0.f0_files) (e := 62) (n := 2) (ei := ti62) (sa := (.p (.sl 2 S_F eS_F a0.f0_files))) hx rfl (by kernel_rfl) (by kernel_rfl) rfl (by kernel_rfl) (by kernel_rfl) ⟨.i64, by kernel_rfl⟩ rfl) rfl (by kernel_rfl) rfl ?_
    clear hx
    refine dy rfl (ze T_ok (e := 44) (n := 1) (eL 2 eS_F) ([x2, x3] : List (List S_F)) rfl (by kernel_rfl)) rfl (by kernel_rfl) rfl ?_
    obtain ⟨x4, hx, H⟩ := bd H
    refine dy rfl (zc (T := T) (slices_Concat_tree_File_tree_File.ok k [x2, x3] _ hx) Tryd.func95 rfl rfl (caps := []) (by kernel_rfl) (by kernel_rfl) (by kernel_rfl) (by kernel_rfl) (by kernel_rfl) (by kernel_rfl)) rfl (by kernel_rfl) rfl ?_
    clear hx
    refine dm T_ok 1 (k := 12) (by kernel_rfl) (by kernel_rfl) ?_
    refine dn ?_
    refine xs T_ok (u := 46) (b := 1) (off := 0) (vs := [.p (.sl 2 S_F eS_F x4)]) (cs := [.p (.sl 2 S_F eS_F [])]) (ti := ti46) rfl rfl rfl rfl (by kernel_rfl) (by kernel_rfl) (by kernel_rfl) (by kernel_rfl) (by kernel_rfl) (by kernel_rfl) rfl ?_
    refine qz T_ok 0 [4] 2 (E2 := [(4, [], .ptr 1 0)]) (h1 := [.cells 46 [.p (.sl 2 S_F eS_F a0.f0_files)], .cells 46 [.p (.sl 2 S_F eS_F x4)]]) (by kernel_rfl) (by kernel_rfl) (by kernel_rfl) (by kernel_rfl) (by kernel_rfl) ?_
    refine qt ?_
    obtain rfl := Option.some.inj H
    exact ⟨.p (.agg [(.sl 2 S_F eS_F x4)]), by kernel_rfl, rfl⟩
/-! ### quitclaim/hunk.stands: function 78 -/
def hunk_stands.f (k : Nat) (a0 : List ByteArray) (a1 : Int) (a2 : List ByteArray) : Option Bool := ((gd (decide (a1 ≤ (a0.length : Int)) && decide ((a2.length : Int) ≤ w64 ((a0.length : Int) - a1))) (cut a0 a1 (w64 (a1 + (a2.length : Int))))).bind fun x1 => ((gd (decide (a1 ≤ (a0.length : Int)) && decide ((a2.length : Int) ≤ w64 ((a0.length : Int) - a1))) (slices_Equal_string_string.f k x1 a2)).bind fun x2 => some ((decide (a1 ≤ (a0.length : Int)) && decide ((a2.length : Int) ≤ w64 ((a0.length : Int) - a1))) && x2)))
theorem hunk_stands.ok (k : Nat) (a0 : List ByteArray) (a1 : Int) (a2 : List ByteArray) (r : Bool) (H : hunk_stands.f k a0 a1 a2 = some r) : PF Tryd.prog 78 [.p (.sl 1 ByteArray eS a0), vi a1, .p (.sl 1 ByteArray eS a2)] (vb r) := by
  refine PF_mk T_ok Tryd.func78 rfl (by kernel_rfl) (by kernel_rfl) ?_
  unfold hunk_stands.f at H
  refine qs ?_
  refine qr T_ok [0, 1, 2] (E2 := [(0, [], .p (.sl 1 ByteArray eS a0)), (1, [], vi a1), (2, [], .p (.sl 1 ByteArray eS a2))]) (by kernel_rfl) ?_
  refine qs ?_
  refine qg ?_
  refine qm T_ok 20 (k := 20) (by kernel_rfl) (by kernel_rfl) (by kernel_rfl) ?_
  obtain ⟨x1, hx, H⟩ := bd H
  refine qyg rfl (tg := []) (Yld.under (u := 20) (b := true) (t := (decide (a1 ≤ (a0.length : Int)) && decide ((a2.length : Int) ≤ w64 ((a0.length : Int) - a1)))) (by kernel_rfl) (by simp) fun g0_ => (zt T_ok (enc := eS) (l := a0) (e := 9) (n := 1) (ei := ti9) (sa := (.p (.sl 1 ByteArray eS a0))) (gd1 hx g0_) rfl (by kernel_rfl) (by kernel_rfl) rfl (by kernel_rfl) (by kernel_rfl) ⟨.i64, by kernel_rfl⟩ ⟨.i64, by kernel_rfl⟩)) rfl rfl (by kernel_rfl) (by kernel_rfl) rfl ?_
  clear hx
  refine qm T_ok 1 (k := 22) (by kernel_rfl) (by kernel_rfl) (by kernel_rfl) ?_
  obtain ⟨x2, hx, H⟩ := bd H
  refine qyg rfl (tg := []) (Yld.under (u := 20) (b := true) (t := (decide (a1 ≤ (a0.length : Int)) && decide ((a2.length : Int) ≤ w64 ((a0.length : Int) - a1)))) (by kernel_rfl) (by simp) fun g0_ => (zc (T := T) (slices_Equal_string_string.ok k x1 a2 _ (gd1 hx g0_)) Tryd.func68 rfl rfl (caps := []) (by kernel_rfl) (by kernel_rfl) (by kernel_rfl) (by kernel_rfl) (by kernel_rfl) (by kernel_rfl))) rfl rfl (by kernel_rfl) (by kernel_rfl) rfl ?_
  clear hx
  refine qz T_ok 2 [6] 0 (E2 := [(6, [], vb ((decide (a1 ≤ (a0.length : Int)) && decide ((a2.length : Int) ≤ w64 ((a0.length : Int) - a1))) && x2))]) (h1 := []) (by kernel_rfl) (by kernel_rfl) (by kernel_rfl) (by kernel_rfl) (by kernel_rfl) ?_
  refine qt ?_
  obtain rfl := Option.some.inj H
  exact ⟨vb ((decide (a1 ≤ (a0.length : Int)) && decide ((a2.length : Int) ≤ w64 ((a0.length : Int) - a1))) && x2), by kernel_rfl, rfl⟩
/-! ### slices.Grow[[]string,string]: function 109 -/
theorem slices_Grow_string_string.ok (a1 : Int) (u : Unit) (H : grw 16 a1 = some u) : PO Tryd.prog 109 [.p (.s (.slice none 0 0)), vi a1] 9 1 (ByteArray) eS [] := by
  obtain ⟨h0, h1, h2⟩ := grw_of H
  refine PO_mk T_ok Tryd.func109 rfl (by kernel_rfl) ?_
  refine qs ?_
  refine qg ?_
  refine qm T_ok 1 (k := 1) (by kernel_rfl) (by kernel_rfl) (by kernel_rfl) ?_
  refine WL_keep [0, 1] (E1 := [(0, [], .p (.s (.slice none 0 0))), (1, [], vi a1)]) (by kernel_rfl) (WL_nil (by kernel_rfl) ?_)
  refine qs ?_
  refine qs ?_
  refine qr T_ok [0, 1, 6] (E2 := [(0, [], .p (.s (.slice none 0 0))), (1, [], vi a1), (6, [], vb (decide (a1 < 0)))]) (by kernel_rfl) ?_
  refine qi0 (t := decide (a1 < 0)) (by kernel_rfl) (decide_eq_false (by omega)) ?_
  refine qw [0, 1] rfl ?_
  refine qk ?_
  refine qs ?_
  refine qs ?_
  refine qg ?_
  refine qm T_ok 1 (k := 1) (by kernel_rfl) (by kernel_rfl) (by kernel_rfl) ?_
  refine qy rfl (y_mv0 (s := .p (.s (.slice none 0 0))) (by kernel_rfl) (.inl rfl)) rfl (by kernel_rfl) rfl ?_
  refine qy rfl (y_cap0 T_ok (e := 9) rfl rfl rfl rfl (by kernel_rfl) (by kernel_rfl)) rfl (by kernel_rfl) rfl ?_
  refine qm T_ok 4 (k := 7) (by kernel_rfl) (by kernel_rfl) (by kernel_rfl) ?_
  refine qe T_ok 1 [0, 1] (E2 := [(0, [], .p (.s (.slice none 0 0))), (1, [], vi (w64 (a1 - w64 (0 - (([] : List (ByteArray)).length : Int)))))]) (by kernel_rfl) (by kernel_rfl) ?_
  have hw : w64 (a1 - w64 (0 - (([] : List (ByteArray)).length : Int))) = a1 := by
    simp only [w64, IntKind.wrap_i64, List.length_nil]
    omega
  rw [hw]
  refine qs ?_
  refine qr T_ok [0, 1, 16] (E2 := [(0, [], .p (.s (.slice none 0 0))), (1, [], vi a1), (16, [], vb (decide (a1 > 0)))]) (by kernel_rfl) ?_
  refine qi (t := decide (a1 > 0)) (by kernel_rfl) (fun c => ?_) (fun c => ?_)
  · have c := of_decide_eq_true c
    obtain ⟨k, rfl⟩ : ∃ k : Nat, a1 = (k : Int) := ⟨a1.toNat, by omega⟩
    refine qg ?_
    refine qy rfl (y_mv0 (s := .p (.s (.slice none 0 0))) (by kernel_rfl) (.inl rfl)) rfl (by kernel_rfl) rfl ?_
    refine qy rfl (y_mv0 (s := .p (.s (.slice none 0 0))) (by kernel_rfl) (.inl rfl)) rfl (by kernel_rfl) rfl ?_
    refine qy rfl (y_cap0 T_ok (e := 9) rfl rfl rfl rfl (by kernel_rfl) (by kernel_rfl)) rfl (by kernel_rfl) rfl ?_
    refine qy rfl (y_cut0 T_ok (e := 9) (ei := ti9) rfl (by kernel_rfl) (by kernel_rfl) (by kernel_rfl) (by kernel_rfl)) rfl (by kernel_rfl) rfl ?_
    refine qm T_ok 1 (k := 5) (by kernel_rfl) (by kernel_rfl) (by kernel_rfl) ?_
    refine xz T_ok (e := 9) (k := k) (ku := .i64) (ei := ti9) (j := 0) rfl rfl rfl rfl rfl rfl rfl (by kernel_rfl) (by kernel_rfl) (by kernel_rfl) (by kernel_rfl) (by kernel_rfl) (by kernel_rfl) rfl (by omega) (by kernel_rfl) (by kernel_rfl) (by show k * 16 ≤ _; omega) ?_
    refine qm T_ok 2 (k := 8) (by kernel_rfl) (by kernel_rfl) (by kernel_rfl) ?_
    refine xr T_ok (e := 9) (n := 1) (k := k) (ei := ti9) (j := 0) eS rfl rfl rfl (by kernel_rfl) (by kernel_rfl) (by kernel_rfl) (by kernel_rfl) (by kernel_rfl) ?_
    refine qe T_ok 1 [0] (E2 := [(0, [], .own 9 1 (ByteArray) eS [] 0)]) (by kernel_rfl) (by kernel_rfl) ?_
    refine qs ?_
    refine qr T_ok [4] (E2 := [(4, [], .own 9 1 (ByteArray) eS [] 0)]) (by kernel_rfl) ?_
    refine qt ?_
    exact ⟨.own 9 1 (ByteArray) eS [] 0, by kernel_rfl, rfl, rfl⟩
  · refine qw [0] rfl ?_
    refine qk ?_
    refine qs ?_
    refine qg ?_
    refine qy rfl (y_mv0 (s := .p (.s (.slice none 0 0))) (by kernel_rfl) (.inl rfl)) rfl (by kernel_rfl) rfl ?_
    refine xo (j := 0) eS (e := 9) (n := 1) rfl (.inr rfl) rfl rfl (by kernel_rfl) (by kernel_rfl) rfl ?_
    refine WL_keep [4] (E1 := [(4, [], .own 9 1 (ByteArray) eS [] 0)]) (by kernel_rfl) (WL_nil (by kernel_rfl) ?_)
    refine qt ?_
    exact ⟨.own 9 1 (ByteArray) eS [] 0, by kernel_rfl, rfl, rfl⟩

/-! ### slices.Concat[[]string,string]: function 79 -/
def slices_Concat_string_string.l3 (a0 : List (List ByteArray)) : Nat → (List ByteArray) → Int → Option (List ByteArray)
  | 0, _, _ => none
  | k + 1, x24, x25 => (if x25 < (a0.length : Int) then ((ix a0 x25).bind fun x28 => ((app 16 x24 x28).bind fun x29 => slices_Concat_string_string.l3 a0 k x29 (w64 (x25 + 1)))) else some x24)
def slices_Concat_string_string.l2 (a0 : List (List ByteArray)) : Nat → Int → Int → Option (List ByteArray)
  | 0, _, _ => none
  | k + 1, x10, x11 => (if x11 < (a0.length : Int) then ((ix a0 x11).bind fun x21 => (if w64 (x10 + (x21.length : Int)) < 0 then none else slices_Concat_string_string.l2 a0 k (w64 (x10 + (x21.length : Int))) (w64 (x11 + 1)))) else ((grw 16 x10).bind fun _ => slices_Concat_string_string.l3 a0 k [] 0))
def slices_Concat_string_string.f (k : Nat) (a0 : List (List ByteArray)) : Option (List ByteArray) := slices_Concat_string_string.l2 a0 k 0 0
theorem slices_Concat_string_string.ok (k : Nat) (a0 : List (List ByteArray)) (r : List ByteArray) (H : slices_Concat_string_string.f k a0 = some r) : PF Tryd.prog 79 [.p (.sl 1 (List ByteArray) (eL 1 eS) a0)] (.p (.sl 1 ByteArray eS r)) := by
  refine PF_mk T_ok Tryd.func79 rfl (by kernel_rfl) (by kernel_rfl) ?_
  unfold slices_Concat_string_string.f at H
  refine qs ?_
  refine qr T_ok [0] (E2 := [(0, [], .p (.sl 1 (List ByteArray) (eL 1 eS) a0))]) (by kernel_rfl) ?_
  refine qs ?_
  refine qr T_ok [0, 3] (E2 := [(0, [], .p (.sl 1 (List ByteArray) (eL 1 eS) a0)), (3, [], vi 0)]) (by kernel_rfl) ?_
  refine qs ?_
  refine qs ?_
  refine qr T_ok [0, 3, 9, 10, 11] (E2 := [(0, [], .p (.sl 1 (List ByteArray) (eL 1 eS) a0)), (3, [], vi 0), (9, [], .p (.sl 1 (List ByteArray) (eL 1 eS) a0)), (10, [], vi (a0.length : Int)), (11, [], vi 0)]) (by kernel_rfl) ?_
  refine qb ?_
  refine qp (fun k E h => ∃ x10 : Int, ∃ x11 : Int, E = [(0, [], .p (.sl 1 (List ByteArray) (eL 1 eS) a0)), (3, [], vi x10), (9, [], .p (.sl 1 (List ByteArray) (eL 1 eS) a0)), (10, [], vi (a0.length : Int)), (11, [], vi x11)] ∧ h = [] ∧ slices_Concat_string_string.l2 a0 k x10 x11 = some r) k ⟨0, 0, rfl, rfl, H⟩ ?_
  clear H
  rintro k E h ⟨x10, x11, rfl, rfl, H⟩
  cases k with
  | zero => exact nomatch (show none = some r from H)
  | succ k =>
    rw [slices_Concat_string_string.l2] at H
    refine qs ?_
    refine qr T_ok [0, 3, 9, 10, 11, 12] (E2 := [(0, [], .p (.sl 1 (List ByteArray) (eL 1 eS) a0)), (3, [], vi x10), (9, [], .p (.sl 1 (List ByteArray) (eL 1 eS) a0)), (10, [], vi (a0.length : Int)), (11, [], vi x11), (12, [], vb (decide (x11 < (a0.length : Int))))]) (by kernel_rfl) ?_
    refine qs ?_
    refine qi (t := decide (x11 < (a0.length : Int))) (by kernel_rfl) (fun c => ?_) (fun c => ?_)
    · rw [if_pos (of_decide_eq_true c)] at H
      clear c
      refine qw [0, 3, 9, 10, 11] rfl ?_
      refine qk ?_
      refine qs ?_
      refine qb ?_
      refine qs ?_
      refine qg ?_
      obtain ⟨x21, hx, H⟩ := bd H
      refine qy rfl (zi T_ok .i64 (enc := (eL 1 eS)) (l := a0) (e := 22) (n := 1) (ei := ti22) (sa := (.p (.sl 1 (List ByteArray) (eL 1 eS) a0))) hx rfl (by kernel_rfl) (by kernel_rfl) rfl (by kernel_rfl) (by kernel_rfl) (by kernel_rfl)) rfl (by kernel_rfl) rfl ?_
      clear hx
      refine qz T_ok 2 [0, 3, 5, 9, 10, 11] 0 (E2 := [(0, [], .p (.sl 1 (List ByteArray) (eL 1 eS) a0)), (3, [], vi x10), (5, [], .p (.sl 1 ByteArray eS x21)), (9, [], .p (.sl 1 (List ByteArray) (eL 1 eS) a0)), (10, [], vi (a0.length : Int)), (11, [], vi x11)]) (h1 := []) (by kernel_rfl) (by kernel_rfl) (by kernel_rfl) (by kernel_rfl) (by kernel_rfl) ?_
      refine qs ?_
      refine qr T_ok [0, 3, 9, 10, 11] (E2 := [(0, [], .p (.sl 1 (List ByteArray) (eL 1 eS) a0)), (3, [], vi (w64 (x10 + (x21.length : Int)))), (9, [], .p (.sl 1 (List ByteArray) (eL 1 eS) a0)), (10, [], vi (a0.length : Int)), (11, [], vi x11)]) (by kernel_rfl) ?_
      refine qs ?_
      refine qr T_ok [0, 3, 9, 10, 11, 20] (E2 := [(0, [], .p (.sl 1 (List ByteArray) (eL 1 eS) a0)), (3, [], vi (w64 (x10 + (x21.length : Int)))), (9, [], .p (.sl 1 (List ByteArray) (eL 1 eS) a0)), (10, [], vi (a0.length : Int)), (11, [], vi x11), (20, [], vb (decide (w64 (x10 + (x21.length : Int)) < 0)))]) (by kernel_rfl) ?_
      refine qi (t := decide (w64 (x10 + (x21.length : Int)) < 0)) (by kernel_rfl) (fun c => ?_) (fun c => ?_)
      · rw [if_pos (of_decide_eq_true c)] at H
        clear c
        exact nomatch (show none = some r from H)
      · rw [if_neg (of_decide_eq_false c)] at H
        clear c
        refine qw [0, 3, 9, 10, 11] rfl ?_
        refine qk ?_
        refine qr T_ok [0, 3, 9, 10, 11] (E2 := [(0, [], .p (.sl 1 (List ByteArray) (eL 1 eS) a0)), (3, [], vi (w64 (x10 + (x21.length : Int)))), (9, [], .p (.sl 1 (List ByteArray) (eL 1 eS) a0)), (10, [], vi (a0.length : Int)), (11, [], vi (w64 (x11 + 1)))]) (by kernel_rfl) ?_
        exact ⟨_, Nat.lt_succ_self _, w64 (x10 + (x21.length : Int)), w64 (x11 + 1), rfl, rfl, H⟩
    · rw [if_neg (of_decide_eq_false c)] at H
      clear c
      refine qw [0, 3] rfl ?_
      refine qx ?_
      refine qs ?_
      refine qg ?_
      refine qm T_ok 1 (k := 1) (by kernel_rfl) (by kernel_rfl) (by kernel_rfl) ?_
      obtain ⟨u_, hx, H⟩ := bd H
      refine xc (j := 0) (slices_Grow_string_string.ok x10 _ hx) Tryd.func109 rfl rfl rfl rfl rfl (by kernel_rfl) (by kernel_rfl) (by kernel_rfl) (by kernel_rfl) (by kernel_rfl) (by kernel_rfl) rfl ?_
      clear hx
      refine qz T_ok 1 [0, 6] 1 (E2 := [(0, [], .p (.sl 1 (List ByteArray) (eL 1 eS) a0)), (6, [], .own 9 1 ByteArray eS [] 0)]) (h1 := [.tail]) (by kernel_rfl) (by kernel_rfl) (by kernel_rfl) (by kernel_rfl) (by kernel_rfl) ?_
      refine qs ?_
      refine qs ?_
      refine qr T_ok [6, 25, 26, 27] (E2 := [(6, [], .own 9 1 ByteArray eS [] 0), (25, [], .p (.sl 1 (List ByteArray) (eL 1 eS) a0)), (26, [], vi (a0.length : Int)), (27, [], vi 0)]) (by kernel_rfl) ?_
      refine qb ?_
      refine qp (fun k E h => ∃ x24 : List ByteArray, ∃ x25 : Int, E = [(6, [], .own 9 1 ByteArray eS x24 0), (25, [], .p (.sl 1 (List ByteArray) (eL 1 eS) a0)), (26, [], vi (a0.length : Int)), (27, [], vi x25)] ∧ h = [.tail] ∧ slices_Concat_string_string.l3 a0 k x24 x25 = some r) k ⟨[], 0, rfl, rfl, H⟩ ?_
      clear H
      rintro k E h ⟨x24, x25, rfl, rfl, H⟩
      cases k with
      | zero => exact nomatch (show none = some r from H)
      | succ k =>
        rw [slices_Concat_string_string.l3] at H
        refine qs ?_
        refine qr T_ok [6, 25, 26, 27, 28] (E2 := [(6, [], .own 9 1 ByteArray eS x24 0), (25, [], .p (.sl 1 (List ByteArray) (eL 1 eS) a0)), (26, [], vi (a0.length : Int)), (27, [], vi x25), (28, [], vb (decide (x25 < (a0.length : Int))))]) (by kernel_rfl) ?_
        refine qs ?_
        refine qi (t := decide (x25 < (a0.length : Int))) (by kernel_rfl) (fun c => ?_) (fun c => ?_)
        · rw [if_pos (of_decide_eq_true c)] at H
          clear c
          refine qw [6, 25, 26, 27] rfl ?_
          refine qk ?_
          refine qs ?_
          refine qb ?_
          refine qs ?_
          refine qg ?_
          obtain ⟨x28, hx, H⟩ := bd H
          refine qy rfl (zi T_ok .i64 (enc := (eL 1 eS)) (l := a0) (e := 22) (n := 1) (ei := ti22) (sa := (.p (.sl 1 (List ByteArray) (eL 1 eS) a0))) hx rfl (by kernel_rfl) (by kernel_rfl) rfl (by kernel_rfl) (by kernel_rfl) (by kernel_rfl)) rfl (by kernel_rfl) rfl ?_
          clear hx
          refine qz T_ok 2 [6, 8, 25, 26, 27] 1 (E2 := [(6, [], .own 9 1 ByteArray eS x24 0), (8, [], .p (.sl 1 ByteArray eS x28)), (25, [], .p (.sl 1 (List ByteArray) (eL 1 eS) a0)), (26, [], vi (a0.length : Int)), (27, [], vi x25)]) (h1 := [.tail]) (by kernel_rfl) (by kernel_rfl) (by kernel_rfl) (by kernel_rfl) (by kernel_rfl) ?_
          refine qg ?_
          refine qm T_ok 2 (k := 2) (by kernel_rfl) (by kernel_rfl) (by kernel_rfl) ?_
          obtain ⟨x29, hx, H⟩ := bd H
          refine xp T_ok (enc := eS) (l := x24) (m := x28) (e := 9) (e' := 9) (j := 0) (ei := ti9) (sy := (.p (.sl 1 ByteArray eS x28))) hx rfl rfl rfl rfl rfl rfl rfl (by kernel_rfl) (by kernel_rfl) (by kernel_rfl) (by kernel_rfl) (by kernel_rfl) (by kernel_rfl) (by kernel_rfl) (by kernel_rfl) (by kernel_rfl) rfl ?_
          clear hx
          refine qz T_ok 1 [6, 25, 26, 27] 1 (E2 := [(6, [], .own 9 1 ByteArray eS x29 0), (25, [], .p (.sl 1 (List ByteArray) (eL 1 eS) a0)), (26, [], vi (a0.length : Int)), (27, [], vi x25)]) (h1 := [.tail]) (by kernel_rfl) (by kernel_rfl) (by kernel_rfl) (by kernel_rfl) (by kernel_rfl) ?_
          refine qr T_ok [6, 25, 26, 27] (E2 := [(6, [], .own 9 1 ByteArray eS x29 0), (25, [], .p (.sl 1 (List ByteArray) (eL 1 eS) a0)), (26, [], vi (a0.length : Int)), (27, [], vi (w64 (x25 + 1)))]) (by kernel_rfl) ?_
          exact ⟨_, Nat.lt_succ_self _, x29, w64 (x25 + 1), rfl, rfl, H⟩
        · rw [if_neg (of_decide_eq_false c)] at H
          clear c
          refine qw [6] rfl ?_
          refine qx ?_
          refine qs ?_
          refine qr T_ok [2] (E2 := [(2, [], .own 9 1 ByteArray eS x24 0)]) (by kernel_rfl) ?_
          refine qt ?_
          obtain rfl := Option.some.inj H
          exact ⟨.own 9 1 ByteArray eS x24 0, by kernel_rfl, rfl⟩
/-! ### quitclaim/hunk.Apply: function 49 -/
def hunk_Apply.f (k : Nat) (a0 : List ByteArray) (a1 : S_At_Old_New) : Option ((List ByteArray) × Int) := ((hunk_Lines.f k a0).bind fun x1 => ((gd (!(!x1)) (hunk_Right.f k a1)).bind fun x2 => (if (!x1 || !x2) = true then some ([], 3) else (if a1.f0_At > (a0.length : Int) then some ([], 5) else ((hunk_stands.f k a0 a1.f0_At a1.f1_Old).bind fun x3 => (if (!x3) = true then some ([], 12) else (if w64 ((w64 ((a0.length : Int) - (a1.f1_Old.length : Int))) + (a1.f2_New.length : Int)) > 1000 then some ([], 4) else ((cut a0 0 a1.f0_At).bind fun x4 => ((cut a0 (w64 (a1.f0_At + (a1.f1_Old.length : Int))) (a0.length : Int)).bind fun x5 => ((slices_Concat_string_string.f k [x4, a1.f2_New, x5]).bind fun x6 => some (x6, 0)))))))))))
theorem hunk_Apply.ok (k : Nat) (a0 : List ByteArray) (a1 : S_At_Old_New) (r : (List ByteArray) × Int) (H : hunk_Apply.f k a0 a1 = some r) : PF Tryd.prog 49 [.p (.sl 1 ByteArray eS a0), .p (.agg [(.s (.int .i64 a1.f0_At)), (.sl 1 ByteArray eS a1.f1_Old), (.sl 1 ByteArray eS a1.f2_New)])] (.tup [.p (.sl 1 ByteArray eS r.1), vi r.2]) := by
  refine PF_mk T_ok Tryd.func49 rfl (by kernel_rfl) (by kernel_rfl) ?_
  unfold hunk_Apply.f at H
  refine qs ?_
  refine qg ?_
  refine xb (T := T) (j := 0) (cs := [vi a1.f0_At, .p (.sl 1 ByteArray eS a1.f1_Old), .p (.sl 1 ByteArray eS a1.f2_New)]) rfl rfl rfl rfl (by kernel_rfl) (by kernel_rfl) rfl ?_
  refine qz T_ok 2 [0, 3] 1 (E2 := [(0, [], .p (.sl 1 ByteArray eS a0)), (3, [], .ptr 0 0)]) (h1 := [.cells 80 [vi a1.f0_At, .p (.sl 1 ByteArray eS a1.f1_Old), .p (.sl 1 ByteArray eS a1.f2_New)]]) (by kernel_rfl) (by kernel_rfl) (by kernel_rfl) (by kernel_rfl) (by kernel_rfl) ?_
  refine qs ?_
  refine qb ?_
  refine qs ?_
  refine qg ?_
  refine qm T_ok 1 (k := 1) (by kernel_rfl) (by kernel_rfl) (by kernel_rfl) ?_
  obtain ⟨x1, hx, H⟩ := bd H
  refine qy rfl (zc (T := T) (hunk_Lines.ok k a0 _ hx) Tryd.func51 rfl rfl (caps := []) (by kernel_rfl) (by kernel_rfl) (by kernel_rfl) (by kernel_rfl) (by kernel_rfl) (by kernel_rfl)) rfl (by kernel_rfl) rfl ?_
  clear hx
  refine qm T_ok 3 (k := 5) (by kernel_rfl) (by kernel_rfl) (by kernel_rfl) ?_
  obtain ⟨x2, hx, H⟩ := bd H
  refine qyg rfl (tg := []) (Yld.under (u := 10) (b := false) (t := !x1) (by kernel_rfl) (by simp) fun g0_ => (zc (T := T) (hunk_Right.ok k a1 _ (gd0 hx g0_)) Tryd.func77 rfl rfl (caps := []) (by kernel_rfl) (by kernel_rfl) (by kernel_rfl) (by kernel_rfl) (by kernel_rfl) (by kernel_rfl))) rfl rfl (by kernel_rfl) (by kernel_rfl) rfl ?_
  clear hx
  refine qz T_ok 3 [0, 3, 6] 1 (E2 := [(0, [], .p (.sl 1 ByteArray eS a0)), (3, [], .ptr 0 0), (6, [], vb (!x1 || !x2))]) (h1 := [.cells 80 [vi a1.f0_At, .p (.sl 1 ByteArray eS a1.f1_Old), .p (.sl 1 ByteArray eS a1.f2_New)]]) (by kernel_rfl) (by kernel_rfl) (by kernel_rfl) (by kernel_rfl) (by kernel_rfl) ?_
  refine qi (t := (!x1 || !x2)) (by kernel_rfl) (fun c => ?_) (fun c => ?_)
  · rw [if_pos c] at H
    clear c
    refine qs ?_
    refine qg ?_
    refine qz T_ok 2 [4, 5] 0 (E2 := [(4, [], .p (.sl 1 ByteArray eS [])), (5, [], vi 3)]) (h1 := []) (by kernel_rfl) (by kernel_rfl) (by kernel_rfl) (by kernel_rfl) (by kernel_rfl) ?_
    refine qt ?_
    obtain rfl := Option.some.inj H
    exact ⟨.tup [.p (.sl 1 ByteArray eS []), vi 3], by kernel_rfl, rfl⟩
  · rw [if_neg (by rw [c]; exact Bool.false_ne_true)] at H
    clear c
    refine qs ?_
    refine qr T_ok [0, 3, 15] (E2 := [(0, [], .p (.sl 1 ByteArray eS a0)), (3, [], .ptr 0 0), (15, [], vb (decide (a1.f0_At > (a0.length : Int))))]) (by kernel_rfl) ?_
    refine qi (t := decide (a1.f0_At > (a0.length : Int))) (by kernel_rfl) (fun c => ?_) (fun c => ?_)
    · rw [if_pos (of_decide_eq_true c)] at H
      clear c
      refine qs ?_
      refine qg ?_
      refine qz T_ok 2 [4, 5] 0 (E2 := [(4, [], .p (.sl 1 ByteArray eS [])), (5, [], vi 5)]) (h1 := []) (by kernel_rfl) (by kernel_rfl) (by kernel_rfl) (by kernel_rfl) (by kernel_rfl) ?_
      refine qt ?_
      obtain rfl := Option.some.inj H
      exact ⟨.tup [.p (.sl 1 ByteArray eS []), vi 5], by kernel_rfl, rfl⟩
    · rw [if_neg (of_decide_eq_false c)] at H
      clear c
      refine qs ?_
      refine qg ?_
      refine qm T_ok 5 (k := 5) (by kernel_rfl) (by kernel_rfl) (by kernel_rfl) ?_
      obtain ⟨x3, hx, H⟩ := bd H
      refine qy rfl (zc (T := T) (hunk_stands.ok k a0 a1.f0_At a1.f1_Old _ hx) Tryd.func78 rfl rfl (caps := []) (by kernel_rfl) (by kernel_rfl) (by kernel_rfl) (by kernel_rfl) (by kernel_rfl) (by kernel_rfl)) rfl (by kernel_rfl) rfl ?_
      clear hx
      refine qz T_ok 2 [0, 3, 21] 1 (E2 := [(0, [], .p (.sl 1 ByteArray eS a0)), (3, [], .ptr 0 0), (21, [], vb (!x3))]) (h1 := [.cells 80 [vi a1.f0_At, .p (.sl 1 ByteArray eS a1.f1_Old), .p (.sl 1 ByteArray eS a1.f2_New)]]) (by kernel_rfl) (by kernel_rfl) (by kernel_rfl) (by kernel_rfl) (by kernel_rfl) ?_
      refine qi (t := !x3) (by kernel_rfl) (fun c => ?_) (fun c => ?_)
      · rw [if_pos c] at H
        clear c
        refine qs ?_
        refine qg ?_
        refine qz T_ok 2 [4, 5] 0 (E2 := [(4, [], .p (.sl 1 ByteArray eS [])), (5, [], vi 12)]) (h1 := []) (by kernel_rfl) (by kernel_rfl) (by kernel_rfl) (by kernel_rfl) (by kernel_rfl) ?_
        refine qt ?_
        obtain rfl := Option.some.inj H
        exact ⟨.tup [.p (.sl 1 ByteArray eS []), vi 12], by kernel_rfl, rfl⟩
      · rw [if_neg (by rw [c]; exact Bool.false_ne_true)] at H
        clear c
        refine qs ?_
        refine qr T_ok [0, 3, 29] (E2 := [(0, [], .p (.sl 1 ByteArray eS a0)), (3, [], .ptr 0 0), (29, [], vb (decide (w64 ((w64 ((a0.length : Int) - (a1.f1_Old.length : Int))) + (a1.f2_New.length : Int)) > 1000)))]) (by kernel_rfl) ?_
        refine qi (t := decide (w64 ((w64 ((a0.length : Int) - (a1.f1_Old.length : Int))) + (a1.f2_New.length : Int)) > 1000)) (by kernel_rfl) (fun c => ?_) (fun c => ?_)
        · rw [if_pos (of_decide_eq_true c)] at H
          clear c
          refine qs ?_
          refine qg ?_
          refine qz T_ok 2 [4, 5] 0 (E2 := [(4, [], .p (.sl 1 ByteArray eS [])), (5, [], vi 4)]) (h1 := []) (by kernel_rfl) (by kernel_rfl) (by kernel_rfl) (by kernel_rfl) (by kernel_rfl) ?_
          refine qt ?_
          obtain rfl := Option.some.inj H
          exact ⟨.tup [.p (.sl 1 ByteArray eS []), vi 4], by kernel_rfl, rfl⟩
        · rw [if_neg (of_decide_eq_false c)] at H
          clear c
          refine qw [0, 3] rfl ?_
          refine qk ?_
          refine qs ?_
          refine qd (by kernel_rfl) 20 (by kernel_rfl) (by kernel_rfl) (by kernel_rfl) (by kernel_rfl) (by kernel_rfl) ?_
          refine dm T_ok 5 (k := 5) (by kernel_rfl) (by kernel_rfl) ?_
          obtain ⟨x4, hx, H⟩ := bd H
          refine dy rfl (zt3 T_ok (enc := eS) (l := a0) (e := 9) (n := 1) (ei := ti9) (sx := (.p (.sl 1 ByteArray eS a0))) .i64 .i64 hx rfl (by kernel_rfl) (by kernel_rfl) rfl (by kernel_rfl) (by kernel_rfl) (by kernel_rfl) (by kernel_rfl)) rfl (by kernel_rfl) rfl ?_
          clear hx
          refine dm T_ok 9 (k := 15) (by kernel_rfl) (by kernel_rfl) ?_
          obtain ⟨x5, hx, H⟩ := bd H
          refine dy rfl (zt T_ok (enc := eS) (l := a0) (e := 9) (n := 1) (ei := ti9) (sa := (.p (.sl 1 ByteArray eS a0))) hx rfl (by kernel_rfl) (by kernel_rfl) rfl (by kernel_rfl) (by kernel_rfl) ⟨.i64, by kernel_rfl⟩ rfl) rfl (by kernel_rfl) rfl ?_
          clear hx
          refine dy rfl (ze T_ok (e := 22) (n := 1) (eL 1 eS) ([x4, a1.f2_New, x5] : List (List ByteArray)) rfl (by kernel_rfl)) rfl (by kernel_rfl) rfl ?_
          obtain ⟨x6, hx, H⟩ := bd H
          refine dy rfl (zc (T := T) (slices_Concat_string_string.ok k [x4, a1.f2_New, x5] _ hx) Tryd.func79 rfl rfl (caps := []) (by kernel_rfl) (by kernel_rfl) (by kernel_rfl) (by kernel_rfl) (by kernel_rfl) (by kernel_rfl)) rfl (by kernel_rfl) rfl ?_
          clear hx
          refine dm T_ok 2 (k := 20) (by kernel_rfl) (by kernel_rfl) ?_
          refine dn ?_
          refine qz T_ok 0 [4, 5] 0 (E2 := [(4, [], .p (.sl 1 ByteArray eS x6)), (5, [], vi 0)]) (h1 := []) (by kernel_rfl) (by kernel_rfl) (by kernel_rfl) (by kernel_rfl) (by kernel_rfl) ?_
          refine qt ?_
          obtain rfl := Option.some.inj H
          exact ⟨.tup [.p (.sl 1 ByteArray eS x6), vi 0], by kernel_rfl, rfl⟩
/-! ### (quitclaim/tree.Tree).change: function 90 -/
def tree_Tree_change.f (k : Nat) (a0 : S_files) (a1 : S_Op) (a2 : List ByteArray) : Option (S_files × Int) := (if a1.f0_Kind = 2 then ((slices_Equal_string_string.f k a2 a1.f4_Old).bind fun x1 => (if (!x1) = true then some (a0, 12) else ((tree_Tree_without.f k a0 a1.f1_Path).bind fun x2 => some (x2, 0)))) else (if a1.f0_Kind = 3 then ((op_Hunk.f a1).bind fun x3 => ((hunk_Apply.f k a2 x3).bind fun x4 => (if (!decide (x4.2 = 0)) = true then some (a0, x4.2) else ((tree_Tree_with.f k a0 (⟨a1.f1_Path, x4.1⟩ : S_F)).bind fun x5 => some (x5, 0))))) else ((tree_Tree_without.f k a0 a1.f1_Path).bind fun x6 => ((tree_Tree_find.f k a0 a1.f2_To).bind fun x7 => (if x7.2 = true then some (a0, 7) else ((tree_Tree_room.f k x6 a1.f2_To).bind fun x8 => (if (!decide (x8 = 0)) = true then some (a0, x8) else ((tree_Tree_with.f k x6 (⟨a1.f2_To, a2⟩ : S_F)).bind fun x9 => some (x9, 0)))))))))
theorem tree_Tree_change.ok (k : Nat) (a0 : S_files) (a1 : S_Op) (a2 : List ByteArray) (r : S_files × Int) (H : tree_Tree_change.f k a0 a1 a2 = some r) : PF Tryd.prog 90 [.p (.agg [(.sl 2 S_F eS_F a0.f0_files)]), .p (.agg [(.s (.int .i64 a1.f0_Kind)), (.s (.string a1.f1_Path)), (.s (.string a1.f2_To)), (.s (.int .i64 a1.f3_At)), (.sl 1 ByteArray eS a1.f4_Old), (.sl 1 ByteArray eS a1.f5_New), (.s (.int .u8 (a1.f6_Key.getD 0 0))), (.s (.int .u8 (a1.f6_Key.getD 1 0))), (.s (.int .u8 (a1.f6_Key.getD 2 0))), (.s (.int .u8 (a1.f6_Key.getD 3 0))), (.s (.int .u8 (a1.f6_Key.getD 4 0))), (.s (.int .u8 (a1.f6_Key.getD 5 0))), (.s (.int .u8 (a1.f6_Key.getD 6 0))), (.s (.int .u8 (a1.f6_Key.getD 7 0))), (.s (.int .u8 (a1.f6_Key.getD 8 0))), (.s (.int .u8 (a1.f6_Key.getD 9 0))), (.s (.int .u8 (a1.f6_Key.getD 10 0))), (.s (.int .u8 (a1.f6_Key.getD 11 0))), (.s (.int .u8 (a1.f6_Key.getD 12 0))), (.s (.int .u8 (a1.f6_Key.getD 13 0))), (.s (.int .u8 (a1.f6_Key.getD 14 0))), (.s (.int .u8 (a1.f6_Key.getD 15 0))), (.s (.int .u8 (a1.f6_Key.getD 16 0))), (.s (.int .u8 (a1.f6_Key.getD 17 0))), (.s (.int .u8 (a1.f6_Key.getD 18 0))), (.s (.int .u8 (a1.f6_Key.getD 19 0))), (.s (.int .u8 (a1.f6_Key.getD 20 0))), (.s (.int .u8 (a1.f6_Key.getD 21 0))), (.s (.int .u8 (a1.f6_Key.getD 22 0))), (.s (.int .u8 (a1.f6_Key.getD 23 0))), (.s (.int .u8 (a1.f6_Key.getD 24 0))), (.s (.int .u8 (a1.f6_Key.getD 25 0))), (.s (.int .u8 (a1.f6_Key.getD 26 0))), (.s (.int .u8 (a1.f6_Key.getD 27 0))), (.s (.int .u8 (a1.f6_Key.getD 28 0))), (.s (.int .u8 (a1.f6_Key.getD 29 0))), (.s (.int .u8 (a1.f6_Key.getD 30 0))), (.s (.int .u8 (a1.f6_Key.getD 31 0))), (.s (.int .i64 a1.f7_Depth))]), .p (.sl 1 ByteArray eS a2)] (.tup [.p (.agg [(.sl 2 S_F eS_F r.1.f0_files)]), vi r.2]) := by
  refine PF_mk T_ok Tryd.func90 rfl (by kernel_rfl) (by kernel_rfl) ?_
  unfold tree_Tree_change.f at H
  refine qs ?_
  refine qg ?_
  refine xb (T := T) (j := 0) (cs := [.p (.sl 2 S_F eS_F a0.f0_files)]) rfl rfl rfl rfl (by kernel_rfl) (by kernel_rfl) rfl ?_
  refine xb (T := T) (j := 1) (cs := [vi a1.f0_Kind, vs a1.f1_Path, vs a1.f2_To, vi a1.f3_At, .p (.sl 1 ByteArray eS a1.f4_Old), .p (.sl 1 ByteArray eS a1.f5_New), v8 (a1.f6_Key.getD 0 0), v8 (a1.f6_Key.getD 1 0), v8 (a1.f6_Key.getD 2 0), v8 (a1.f6_Key.getD 3 0), v8 (a1.f6_Key.getD 4 0), v8 (a1.f6_Key.getD 5 0), v8 (a1.f6_Key.getD 6 0), v8 (a1.f6_Key.getD 7 0), v8 (a1.f6_Key.getD 8 0), v8 (a1.f6_Key.getD 9 0), v8 (a1.f6_Key.getD 10 0), v8 (a1.f6_Key.getD 11 0), v8 (a1.f6_Key.getD 12 0), v8 (a1.f6_Key.getD 13 0), v8 (a1.f6_Key.getD 14 0), v8 (a1.f6_Key.getD 15 0), v8 (a1.f6_Key.getD 16 0), v8 (a1.f6_Key.getD 17 0), v8 (a1.f6_Key.getD 18 0), v8 (a1.f6_Key.getD 19 0), v8 (a1.f6_Key.getD 20 0), v8 (a1.f6_Key.getD 21 0), v8 (a1.f6_Key.getD 22 0), v8 (a1.f6_Key.getD 23 0), v8 (a1.f6_Key.getD 24 0), v8 (a1.f6_Key.getD 25 0), v8 (a1.f6_Key.getD 26 0), v8 (a1.f6_Key.getD 27 0), v8 (a1.f6_Key.getD 28 0), v8 (a1.f6_Key.getD 29 0), v8 (a1.f6_Key.getD 30 0), v8 (a1.f6_Key.getD 31 0), vi a1.f7_Depth]) rfl rfl rfl rfl (by kernel_rfl) (by kernel_rfl) rfl ?_
  refine xa T_ok (j := 2) (ti := ti46) rfl rfl rfl rfl (by kernel_rfl) (by kernel_rfl) rfl ?_
  refine qz T_ok 1 [2, 3, 4, 6] 3 (E2 := [(2, [], .p (.sl 1 ByteArray eS a2)), (3, [], .ptr 0 0), (4, [], .ptr 1 0), (6, [], .ptr 2 0)]) (h1 := [.cells 46 [.p (.sl 2 S_F eS_F a0.f0_files)], .cells 57 [vi a1.f0_Kind, vs a1.f1_Path, vs a1.f2_To, vi a1.f3_At, .p (.sl 1 ByteArray eS a1.f4_Old), .p (.sl 1 ByteArray eS a1.f5_New), v8 (a1.f6_Key.getD 0 0), v8 (a1.f6_Key.getD 1 0), v8 (a1.f6_Key.getD 2 0), v8 (a1.f6_Key.getD 3 0), v8 (a1.f6_Key.getD 4 0), v8 (a1.f6_Key.getD 5 0), v8 (a1.f6_Key.getD 6 0), v8 (a1.f6_Key.getD 7 0), v8 (a1.f6_Key.getD 8 0), v8 (a1.f6_Key.getD 9 0), v8 (a1.f6_Key.getD 10 0), v8 (a1.f6_Key.getD 11 0), v8 (a1.f6_Key.getD 12 0), v8 (a1.f6_Key.getD 13 0), v8 (a1.f6_Key.getD 14 0), v8 (a1.f6_Key.getD 15 0), v8 (a1.f6_Key.getD 16 0), v8 (a1.f6_Key.getD 17 0), v8 (a1.f6_Key.getD 18 0), v8 (a1.f6_Key.getD 19 0), v8 (a1.f6_Key.getD 20 0), v8 (a1.f6_Key.getD 21 0), v8 (a1.f6_Key.getD 22 0), v8 (a1.f6_Key.getD 23 0), v8 (a1.f6_Key.getD 24 0), v8 (a1.f6_Key.getD 25 0), v8 (a1.f6_Key.getD 26 0), v8 (a1.f6_Key.getD 27 0), v8 (a1.f6_Key.getD 28 0), v8 (a1.f6_Key.getD 29 0), v8 (a1.f6_Key.getD 30 0), v8 (a1.f6_Key.getD 31 0), vi a1.f7_Depth], .cells 46 [.p (.sl 2 S_F eS_F [])]]) (by kernel_rfl) (by kernel_rfl) (by kernel_rfl) (by kernel_rfl) (by kernel_rfl) ?_
  refine qs ?_
  refine qs ?_
  refine qr T_ok [2, 3, 4, 6, 15] (E2 := [(2, [], .p (.sl 1 ByteArray eS a2)), (3, [], .ptr 0 0), (4, [], .ptr 1 0), (6, [], .ptr 2 0), (15, [], vi a1.f0_Kind)]) (by kernel_rfl) ?_
  refine qb ?_
  refine qs ?_
  refine qr T_ok [2, 3, 4, 6, 15, 16] (E2 := [(2, [], .p (.sl 1 ByteArray eS a2)), (3, [], .ptr 0 0), (4, [], .ptr 1 0), (6, [], .ptr 2 0), (15, [], vi a1.f0_Kind), (16, [], vb (decide (a1.f0_Kind = 2)))]) (by kernel_rfl) ?_
  refine qi (t := decide (a1.f0_Kind = 2)) (by kernel_rfl) (fun c => ?_) (fun c => ?_)
  · rw [if_pos (of_decide_eq_true c)] at H
    clear c
    refine qs ?_
    refine qs ?_
    refine qg ?_
    refine qm T_ok 3 (k := 3) (by kernel_rfl) (by kernel_rfl) (by kernel_rfl) ?_
    obtain ⟨x1, hx, H⟩ := bd H
    refine qy rfl (zc (T := T) (slices_Equal_string_string.ok k a2 a1.f4_Old _ hx) Tryd.func68 rfl rfl (caps := []) (by kernel_rfl) (by kernel_rfl) (by kernel_rfl) (by kernel_rfl) (by kernel_rfl) (by kernel_rfl)) rfl (by kernel_rfl) rfl ?_
    clear hx
    refine qz T_ok 1 [3, 4, 6, 22] 3 (E2 := [(3, [], .ptr 0 0), (4, [], .ptr 1 0), (6, [], .ptr 2 0), (22, [], vb (!x1))]) (h1 := [.cells 46 [.p (.sl 2 S_F eS_F a0.f0_files)], .cells 57 [vi a1.f0_Kind, vs a1.f1_Path, vs a1.f2_To, vi a1.f3_At, .p (.sl 1 ByteArray eS a1.f4_Old), .p (.sl 1 ByteArray eS a1.f5_New), v8 (a1.f6_Key.getD 0 0), v8 (a1.f6_Key.getD 1 0), v8 (a1.f6_Key.getD 2 0), v8 (a1.f6_Key.getD 3 0), v8 (a1.f6_Key.getD 4 0), v8 (a1.f6_Key.getD 5 0), v8 (a1.f6_Key.getD 6 0), v8 (a1.f6_Key.getD 7 0), v8 (a1.f6_Key.getD 8 0), v8 (a1.f6_Key.getD 9 0), v8 (a1.f6_Key.getD 10 0), v8 (a1.f6_Key.getD 11 0), v8 (a1.f6_Key.getD 12 0), v8 (a1.f6_Key.getD 13 0), v8 (a1.f6_Key.getD 14 0), v8 (a1.f6_Key.getD 15 0), v8 (a1.f6_Key.getD 16 0), v8 (a1.f6_Key.getD 17 0), v8 (a1.f6_Key.getD 18 0), v8 (a1.f6_Key.getD 19 0), v8 (a1.f6_Key.getD 20 0), v8 (a1.f6_Key.getD 21 0), v8 (a1.f6_Key.getD 22 0), v8 (a1.f6_Key.getD 23 0), v8 (a1.f6_Key.getD 24 0), v8 (a1.f6_Key.getD 25 0), v8 (a1.f6_Key.getD 26 0), v8 (a1.f6_Key.getD 27 0), v8 (a1.f6_Key.getD 28 0), v8 (a1.f6_Key.getD 29 0), v8 (a1.f6_Key.getD 30 0), v8 (a1.f6_Key.getD 31 0), vi a1.f7_Depth], .cells 46 [.p (.sl 2 S_F eS_F [])]]) (by kernel_rfl) (by kernel_rfl) (by kernel_rfl) (by kernel_rfl) (by kernel_rfl) ?_
    refine qi (t := !x1) (by kernel_rfl) (fun c => ?_) (fun c => ?_)
    · rw [if_pos c] at H
      clear c
      refine qs ?_
      refine qg ?_
      refine qm T_ok 1 (k := 1) (by kernel_rfl) (by kernel_rfl) (by kernel_rfl) ?_
      refine xs T_ok (u := 46) (b := 2) (off := 0) (vs := [.p (.sl 2 S_F eS_F a0.f0_files)]) (cs := [.p (.sl 2 S_F eS_F [])]) (ti := ti46) rfl rfl rfl rfl (by kernel_rfl) (by kernel_rfl) (by kernel_rfl) (by kernel_rfl) (by kernel_rfl) (by kernel_rfl) rfl ?_
      refine qz T_ok 1 [6, 7] 3 (E2 := [(6, [], .ptr 2 0), (7, [], vi 12)]) (h1 := [.cells 46 [.p (.sl 2 S_F eS_F a0.f0_files)], .cells 57 [vi a1.f0_Kind, vs a1.f1_Path, vs a1.f2_To, vi a1.f3_At, .p (.sl 1 ByteArray eS a1.f4_Old), .p (.sl 1 ByteArray eS a1.f5_New), v8 (a1.f6_Key.getD 0 0), v8 (a1.f6_Key.getD 1 0), v8 (a1.f6_Key.getD 2 0), v8 (a1.f6_Key.getD 3 0), v8 (a1.f6_Key.getD 4 0), v8 (a1.f6_Key.getD 5 0), v8 (a1.f6_Key.getD 6 0), v8 (a1.f6_Key.getD 7 0), v8 (a1.f6_Key.getD 8 0), v8 (a1.f6_Key.getD 9 0), v8 (a1.f6_Key.getD 10 0), v8 (a1.f6_Key.getD 11 0), v8 (a1.f6_Key.getD 12 0), v8 (a1.f6_Key.getD 13 0), v8 (a1.f6_Key.getD 14 0), v8 (a1.f6_Key.getD 15 0), v8 (a1.f6_Key.getD 16 0), v8 (a1.f6_Key.getD 17 0), v8 (a1.f6_Key.getD 18 0), v8 (a1.f6_Key.getD 19 0), v8 (a1.f6_Key.getD 20 0), v8 (a1.f6_Key.getD 21 0), v8 (a1.f6_Key.getD 22 0), v8 (a1.f6_Key.getD 23 0), v8 (a1.f6_Key.getD 24 0), v8 (a1.f6_Key.getD 25 0), v8 (a1.f6_Key.getD 26 0), v8 (a1.f6_Key.getD 27 0), v8 (a1.f6_Key.getD 28 0), v8 (a1.f6_Key.getD 29 0), v8 (a1.f6_Key.getD 30 0), v8 (a1.f6_Key.getD 31 0), vi a1.f7_Depth], .cells 46 [.p (.sl 2 S_F eS_F a0.f0_files)]]) (by kernel_rfl) (by kernel_rfl) (by kernel_rfl) (by kernel_rfl) (by kernel_rfl) ?_
      refine qt ?_
      obtain rfl := Option.some.inj H
      exact ⟨.tup [.p (.agg [(.sl 2 S_F eS_F a0.f0_files)]), vi 12], by kernel_rfl, rfl⟩
    · rw [if_neg (by rw [c]; exact Bool.false_ne_true)] at H
      clear c
      refine qw [3, 4, 6] rfl ?_
      refine qk ?_
      refine qs ?_
      refine qg ?_
      refine qm T_ok 3 (k := 3) (by kernel_rfl) (by kernel_rfl) (by kernel_rfl) ?_
      obtain ⟨x2, hx, H⟩ := bd H
      refine qy rfl (zc (T := T) (tree_Tree_without.ok k a0 a1.f1_Path _ hx) Tryd.func115 rfl rfl (caps := []) (by kernel_rfl) (by kernel_rfl) (by kernel_rfl) (by kernel_rfl) (by kernel_rfl) (by kernel_rfl)) rfl (by kernel_rfl) rfl ?_
      clear hx
      refine xs T_ok (u := 46) (b := 2) (off := 0) (vs := [.p (.sl 2 S_F eS_F x2.f0_files)]) (cs := [.p (.sl 2 S_F eS_F [])]) (ti := ti46) rfl rfl rfl rfl (by kernel_rfl) (by kernel_rfl) (by kernel_rfl) (by kernel_rfl) (by kernel_rfl) (by kernel_rfl) rfl ?_
      refine qz T_ok 1 [6, 7] 3 (E2 := [(6, [], .ptr 2 0), (7, [], vi 0)]) (h1 := [.cells 46 [.p (.sl 2 S_F eS_F a0.f0_files)], .cells 57 [vi a1.f0_Kind, vs a1.f1_Path, vs a1.f2_To, vi a1.f3_At, .p (.sl 1 ByteArray eS a1.f4_Old), .p (.sl 1 ByteArray eS a1.f5_New), v8 (a1.f6_Key.getD 0 0), v8 (a1.f6_Key.getD 1 0), v8 (a1.f6_Key.getD 2 0), v8 (a1.f6_Key.getD 3 0), v8 (a1.f6_Key.getD 4 0), v8 (a1.f6_Key.getD 5 0), v8 (a1.f6_Key.getD 6 0), v8 (a1.f6_Key.getD 7 0), v8 (a1.f6_Key.getD 8 0), v8 (a1.f6_Key.getD 9 0), v8 (a1.f6_Key.getD 10 0), v8 (a1.f6_Key.getD 11 0), v8 (a1.f6_Key.getD 12 0), v8 (a1.f6_Key.getD 13 0), v8 (a1.f6_Key.getD 14 0), v8 (a1.f6_Key.getD 15 0), v8 (a1.f6_Key.getD 16 0), v8 (a1.f6_Key.getD 17 0), v8 (a1.f6_Key.getD 18 0), v8 (a1.f6_Key.getD 19 0), v8 (a1.f6_Key.getD 20 0), v8 (a1.f6_Key.getD 21 0), v8 (a1.f6_Key.getD 22 0), v8 (a1.f6_Key.getD 23 0), v8 (a1.f6_Key.getD 24 0), v8 (a1.f6_Key.getD 25 0), v8 (a1.f6_Key.getD 26 0), v8 (a1.f6_Key.getD 27 0), v8 (a1.f6_Key.getD 28 0), v8 (a1.f6_Key.getD 29 0), v8 (a1.f6_Key.getD 30 0), v8 (a1.f6_Key.getD 31 0), vi a1.f7_Depth], .cells 46 [.p (.sl 2 S_F eS_F x2.f0_files)]]) (by kernel_rfl) (by kernel_rfl) (by kernel_rfl) (by kernel_rfl) (by kernel_rfl) ?_
      refine qt ?_
      obtain rfl := Option.some.inj H
      exact ⟨.tup [.p (.agg [(.sl 2 S_F eS_F x2.f0_files)]), vi 0], by kernel_rfl, rfl⟩
  · rw [if_neg (of_decide_eq_false c)] at H
    clear c
    refine qs ?_
    refine qr T_ok [2, 3, 4, 6, 28] (E2 := [(2, [], .p (.sl 1 ByteArray eS a2)), (3, [], .ptr 0 0), (4, [], .ptr 1 0), (6, [], .ptr 2 0), (28, [], vb (decide (a1.f0_Kind = 3)))]) (by kernel_rfl) ?_
    refine qi (t := decide (a1.f0_Kind = 3)) (by kernel_rfl) (fun c => ?_) (fun c => ?_)
    · rw [if_pos (of_decide_eq_true c)] at H
      clear c
      refine qs ?_
      refine qg ?_
      refine qm T_ok 2 (k := 2) (by kernel_rfl) (by kernel_rfl) (by kernel_rfl) ?_
      obtain ⟨x3, hx, H⟩ := bd H
      refine qy rfl (zc (T := T) (op_Hunk.ok a1 _ hx) Tryd.func116 rfl rfl (caps := []) (by kernel_rfl) (by kernel_rfl) (by kernel_rfl) (by kernel_rfl) (by kernel_rfl) (by kernel_rfl)) rfl (by kernel_rfl) rfl ?_
      clear hx
      obtain ⟨x4, hx, H⟩ := bd H
      refine qy rfl (zc (T := T) (hunk_Apply.ok k a2 x3 _ hx) Tryd.func49 rfl rfl (caps := []) (by kernel_rfl) (by kernel_rfl) (by kernel_rfl) (by kernel_rfl) (by kernel_rfl) (by kernel_rfl)) rfl (by kernel_rfl) rfl ?_
      clear hx
      refine qz T_ok 5 [3, 4, 6, 8, 9] 3 (E2 := [(3, [], .ptr 0 0), (4, [], .ptr 1 0), (6, [], .ptr 2 0), (8, [], .p (.sl 1 ByteArray eS x4.1)), (9, [], vi x4.2)]) (h1 := [.cells 46 [.p (.sl 2 S_F eS_F a0.f0_files)], .cells 57 [vi a1.f0_Kind, vs a1.f1_Path, vs a1.f2_To, vi a1.f3_At, .p (.sl 1 ByteArray eS a1.f4_Old), .p (.sl 1 ByteArray eS a1.f5_New), v8 (a1.f6_Key.getD 0 0), v8 (a1.f6_Key.getD 1 0), v8 (a1.f6_Key.getD 2 0), v8 (a1.f6_Key.getD 3 0), v8 (a1.f6_Key.getD 4 0), v8 (a1.f6_Key.getD 5 0), v8 (a1.f6_Key.getD 6 0), v8 (a1.f6_Key.getD 7 0), v8 (a1.f6_Key.getD 8 0), v8 (a1.f6_Key.getD 9 0), v8 (a1.f6_Key.getD 10 0), v8 (a1.f6_Key.getD 11 0), v8 (a1.f6_Key.getD 12 0), v8 (a1.f6_Key.getD 13 0), v8 (a1.f6_Key.getD 14 0), v8 (a1.f6_Key.getD 15 0), v8 (a1.f6_Key.getD 16 0), v8 (a1.f6_Key.getD 17 0), v8 (a1.f6_Key.getD 18 0), v8 (a1.f6_Key.getD 19 0), v8 (a1.f6_Key.getD 20 0), v8 (a1.f6_Key.getD 21 0), v8 (a1.f6_Key.getD 22 0), v8 (a1.f6_Key.getD 23 0), v8 (a1.f6_Key.getD 24 0), v8 (a1.f6_Key.getD 25 0), v8 (a1.f6_Key.getD 26 0), v8 (a1.f6_Key.getD 27 0), v8 (a1.f6_Key.getD 28 0), v8 (a1.f6_Key.getD 29 0), v8 (a1.f6_Key.getD 30 0), v8 (a1.f6_Key.getD 31 0), vi a1.f7_Depth], .cells 46 [.p (.sl 2 S_F eS_F [])]]) (by kernel_rfl) (by kernel_rfl) (by kernel_rfl) (by kernel_rfl) (by kernel_rfl) ?_
      refine qs ?_
      refine qs ?_
      refine qr T_ok [3, 4, 6, 8, 9, 38] (E2 := [(3, [], .ptr 0 0), (4, [], .ptr 1 0), (6, [], .ptr 2 0), (8, [], .p (.sl 1 ByteArray eS x4.1)), (9, [], vi x4.2), (38, [], vb (!decide (x4.2 = 0)))]) (by kernel_rfl) ?_
      refine qi (t := !decide (x4.2 = 0)) (by kernel_rfl) (fun c => ?_) (fun c => ?_)
      · rw [if_pos c] at H
        clear c
        refine qs ?_
        refine qg ?_
        refine qm T_ok 2 (k := 2) (by kernel_rfl) (by kernel_rfl) (by kernel_rfl) ?_
        refine xs T_ok (u := 46) (b := 2) (off := 0) (vs := [.p (.sl 2 S_F eS_F a0.f0_files)]) (cs := [.p (.sl 2 S_F eS_F [])]) (ti := ti46) rfl rfl rfl rfl (by kernel_rfl) (by kernel_rfl) (by kernel_rfl) (by kernel_rfl) (by kernel_rfl) (by kernel_rfl) rfl ?_
        refine qz T_ok 1 [6, 7] 3 (E2 := [(6, [], .ptr 2 0), (7, [], vi x4.2)]) (h1 := [.cells 46 [.p (.sl 2 S_F eS_F a0.f0_files)], .cells 57 [vi a1.f0_Kind, vs a1.f1_Path, vs a1.f2_To, vi a1.f3_At, .p (.sl 1 ByteArray eS a1.f4_Old), .p (.sl 1 ByteArray eS a1.f5_New), v8 (a1.f6_Key.getD 0 0), v8 (a1.f6_Key.getD 1 0), v8 (a1.f6_Key.getD 2 0), v8 (a1.f6_Key.getD 3 0), v8 (a1.f6_Key.getD 4 0), v8 (a1.f6_Key.getD 5 0), v8 (a1.f6_Key.getD 6 0), v8 (a1.f6_Key.getD 7 0), v8 (a1.f6_Key.getD 8 0), v8 (a1.f6_Key.getD 9 0), v8 (a1.f6_Key.getD 10 0), v8 (a1.f6_Key.getD 11 0), v8 (a1.f6_Key.getD 12 0), v8 (a1.f6_Key.getD 13 0), v8 (a1.f6_Key.getD 14 0), v8 (a1.f6_Key.getD 15 0), v8 (a1.f6_Key.getD 16 0), v8 (a1.f6_Key.getD 17 0), v8 (a1.f6_Key.getD 18 0), v8 (a1.f6_Key.getD 19 0), v8 (a1.f6_Key.getD 20 0), v8 (a1.f6_Key.getD 21 0), v8 (a1.f6_Key.getD 22 0), v8 (a1.f6_Key.getD 23 0), v8 (a1.f6_Key.getD 24 0), v8 (a1.f6_Key.getD 25 0), v8 (a1.f6_Key.getD 26 0), v8 (a1.f6_Key.getD 27 0), v8 (a1.f6_Key.getD 28 0), v8 (a1.f6_Key.getD 29 0), v8 (a1.f6_Key.getD 30 0), v8 (a1.f6_Key.getD 31 0), vi a1.f7_Depth], .cells 46 [.p (.sl 2 S_F eS_F a0.f0_files)]]) (by kernel_rfl) (by kernel_rfl) (by kernel_rfl) (by kernel_rfl) (by kernel_rfl) ?_
        refine qt ?_
        obtain rfl := Option.some.inj H
        exact ⟨.tup [.p (.agg [(.sl 2 S_F eS_F a0.f0_files)]), vi x4.2], by kernel_rfl, rfl⟩
      · rw [if_neg (by rw [c]; exact Bool.false_ne_true)] at H
        clear c
        refine qw [3, 4, 6, 8] rfl ?_
        refine qk ?_
        refine qs ?_
        refine qg ?_
        refine qm T_ok 5 (k := 5) (by kernel_rfl) (by kernel_rfl) (by kernel_rfl) ?_
        obtain ⟨x5, hx, H⟩ := bd H
        refine qy rfl (zc (T := T) (tree_Tree_with.ok k a0 (⟨a1.f1_Path, x4.1⟩ : S_F) _ hx) Tryd.func62 rfl rfl (caps := []) (by kernel_rfl) (by kernel_rfl) (by kernel_rfl) (by kernel_rfl) (by kernel_rfl) (by kernel_rfl)) rfl (by kernel_rfl) rfl ?_
        clear hx
        refine xs T_ok (u := 46) (b := 2) (off := 0) (vs := [.p (.sl 2 S_F eS_F x5.f0_files)]) (cs := [.p (.sl 2 S_F eS_F [])]) (ti := ti46) rfl rfl rfl rfl (by kernel_rfl) (by kernel_rfl) (by kernel_rfl) (by kernel_rfl) (by kernel_rfl) (by kernel_rfl) rfl ?_
        refine qz T_ok 1 [6, 7] 3 (E2 := [(6, [], .ptr 2 0), (7, [], vi 0)]) (h1 := [.cells 46 [.p (.sl 2 S_F eS_F a0.f0_files)], .cells 57 [vi a1.f0_Kind, vs a1.f1_Path, vs a1.f2_To, vi a1.f3_At, .p (.sl 1 ByteArray eS a1.f4_Old), .p (.sl 1 ByteArray eS a1.f5_New), v8 (a1.f6_Key.getD 0 0), v8 (a1.f6_Key.getD 1 0), v8 (a1.f6_Key.getD 2 0), v8 (a1.f6_Key.getD 3 0), v8 (a1.f6_Key.getD 4 0), v8 (a1.f6_Key.getD 5 0), v8 (a1.f6_Key.getD 6 0), v8 (a1.f6_Key.getD 7 0), v8 (a1.f6_Key.getD 8 0), v8 (a1.f6_Key.getD 9 0), v8 (a1.f6_Key.getD 10 0), v8 (a1.f6_Key.getD 11 0), v8 (a1.f6_Key.getD 12 0), v8 (a1.f6_Key.getD 13 0), v8 (a1.f6_Key.getD 14 0), v8 (a1.f6_Key.getD 15 0), v8 (a1.f6_Key.getD 16 0), v8 (a1.f6_Key.getD 17 0), v8 (a1.f6_Key.getD 18 0), v8 (a1.f6_Key.getD 19 0), v8 (a1.f6_Key.getD 20 0), v8 (a1.f6_Key.getD 21 0), v8 (a1.f6_Key.getD 22 0), v8 (a1.f6_Key.getD 23 0), v8 (a1.f6_Key.getD 24 0), v8 (a1.f6_Key.getD 25 0), v8 (a1.f6_Key.getD 26 0), v8 (a1.f6_Key.getD 27 0), v8 (a1.f6_Key.getD 28 0), v8 (a1.f6_Key.getD 29 0), v8 (a1.f6_Key.getD 30 0), v8 (a1.f6_Key.getD 31 0), vi a1.f7_Depth], .cells 46 [.p (.sl 2 S_F eS_F x5.f0_files)]]) (by kernel_rfl) (by kernel_rfl) (by kernel_rfl) (by kernel_rfl) (by kernel_rfl) ?_
        refine qt ?_
        obtain rfl := Option.some.inj H
        exact ⟨.tup [.p (.agg [(.sl 2 S_F eS_F x5.f0_files)]), vi 0], by kernel_rfl, rfl⟩
    · rw [if_neg (of_decide_eq_false c)] at H
      clear c
      refine qw [2, 3, 4, 6] rfl ?_
      refine qk ?_
      refine qs ?_
      refine qg ?_
      refine qm T_ok 3 (k := 3) (by kernel_rfl) (by kernel_rfl) (by kernel_rfl) ?_
      obtain ⟨x6, hx, H⟩ := bd H
      refine qy rfl (zc (T := T) (tree_Tree_without.ok k a0 a1.f1_Path _ hx) Tryd.func115 rfl rfl (caps := []) (by kernel_rfl) (by kernel_rfl) (by kernel_rfl) (by kernel_rfl) (by kernel_rfl) (by kernel_rfl)) rfl (by kernel_rfl) rfl ?_
      clear hx
      refine xa T_ok (j := 3) (ti := ti46) rfl rfl rfl rfl (by kernel_rfl) (by kernel_rfl) rfl ?_
      refine xs T_ok (u := 46) (b := 3) (off := 0) (vs := [.p (.sl 2 S_F eS_F x6.f0_files)]) (cs := [.p (.sl 2 S_F eS_F [])]) (ti := ti46) rfl rfl rfl rfl (by kernel_rfl) (by kernel_rfl) (by kernel_rfl) (by kernel_rfl) (by kernel_rfl) (by kernel_rfl) rfl ?_
      refine qz T_ok 0 [2, 3, 4, 6, 10] 4 (E2 := [(2, [], .p (.sl 1 ByteArray eS a2)), (3, [], .ptr 0 0), (4, [], .ptr 1 0), (6, [], .ptr 2 0), (10, [], .ptr 3 0)]) (h1 := [.cells 46 [.p (.sl 2 S_F eS_F a0.f0_files)], .cells 57 [vi a1.f0_Kind, vs a1.f1_Path, vs a1.f2_To, vi a1.f3_At, .p (.sl 1 ByteArray eS a1.f4_Old), .p (.sl 1 ByteArray eS a1.f5_New), v8 (a1.f6_Key.getD 0 0), v8 (a1.f6_Key.getD 1 0), v8 (a1.f6_Key.getD 2 0), v8 (a1.f6_Key.getD 3 0), v8 (a1.f6_Key.getD 4 0), v8 (a1.f6_Key.getD 5 0), v8 (a1.f6_Key.getD 6 0), v8 (a1.f6_Key.getD 7 0), v8 (a1.f6_Key.getD 8 0), v8 (a1.f6_Key.getD 9 0), v8 (a1.f6_Key.getD 10 0), v8 (a1.f6_Key.getD 11 0), v8 (a1.f6_Key.getD 12 0), v8 (a1.f6_Key.getD 13 0), v8 (a1.f6_Key.getD 14 0), v8 (a1.f6_Key.getD 15 0), v8 (a1.f6_Key.getD 16 0), v8 (a1.f6_Key.getD 17 0), v8 (a1.f6_Key.getD 18 0), v8 (a1.f6_Key.getD 19 0), v8 (a1.f6_Key.getD 20 0), v8 (a1.f6_Key.getD 21 0), v8 (a1.f6_Key.getD 22 0), v8 (a1.f6_Key.getD 23 0), v8 (a1.f6_Key.getD 24 0), v8 (a1.f6_Key.getD 25 0), v8 (a1.f6_Key.getD 26 0), v8 (a1.f6_Key.getD 27 0), v8 (a1.f6_Key.getD 28 0), v8 (a1.f6_Key.getD 29 0), v8 (a1.f6_Key.getD 30 0), v8 (a1.f6_Key.getD 31 0), vi a1.f7_Depth], .cells 46 [.p (.sl 2 S_F eS_F [])], .cells 46 [.p (.sl 2 S_F eS_F x6.f0_files)]]) (by kernel_rfl) (by kernel_rfl) (by kernel_rfl) (by kernel_rfl) (by kernel_rfl) ?_
      refine qs ?_
      refine qs ?_
      refine qg ?_
      refine qm T_ok 3 (k := 3) (by kernel_rfl) (by kernel_rfl) (by kernel_rfl) ?_
      obtain ⟨x7, hx, H⟩ := bd H
      refine qy rfl (zc (T := T) (tree_Tree_find.ok k a0 a1.f2_To _ hx) Tryd.func69 rfl rfl (caps := []) (by kernel_rfl) (by kernel_rfl) (by kernel_rfl) (by kernel_rfl) (by kernel_rfl) (by kernel_rfl)) rfl (by kernel_rfl) rfl ?_
      clear hx
      refine qz T_ok 5 [2, 3, 4, 6, 10, 12] 4 (E2 := [(2, [], .p (.sl 1 ByteArray eS a2)), (3, [], .ptr 0 0), (4, [], .ptr 1 0), (6, [], .ptr 2 0), (10, [], .ptr 3 0), (12, [], vb x7.2)]) (h1 := [.cells 46 [.p (.sl 2 S_F eS_F a0.f0_files)], .cells 57 [vi a1.f0_Kind, vs a1.f1_Path, vs a1.f2_To, vi a1.f3_At, .p (.sl 1 ByteArray eS a1.f4_Old), .p (.sl 1 ByteArray eS a1.f5_New), v8 (a1.f6_Key.getD 0 0), v8 (a1.f6_Key.getD 1 0), v8 (a1.f6_Key.getD 2 0), v8 (a1.f6_Key.getD 3 0), v8 (a1.f6_Key.getD 4 0), v8 (a1.f6_Key.getD 5 0), v8 (a1.f6_Key.getD 6 0), v8 (a1.f6_Key.getD 7 0), v8 (a1.f6_Key.getD 8 0), v8 (a1.f6_Key.getD 9 0), v8 (a1.f6_Key.getD 10 0), v8 (a1.f6_Key.getD 11 0), v8 (a1.f6_Key.getD 12 0), v8 (a1.f6_Key.getD 13 0), v8 (a1.f6_Key.getD 14 0), v8 (a1.f6_Key.getD 15 0), v8 (a1.f6_Key.getD 16 0), v8 (a1.f6_Key.getD 17 0), v8 (a1.f6_Key.getD 18 0), v8 (a1.f6_Key.getD 19 0), v8 (a1.f6_Key.getD 20 0), v8 (a1.f6_Key.getD 21 0), v8 (a1.f6_Key.getD 22 0), v8 (a1.f6_Key.getD 23 0), v8 (a1.f6_Key.getD 24 0), v8 (a1.f6_Key.getD 25 0), v8 (a1.f6_Key.getD 26 0), v8 (a1.f6_Key.getD 27 0), v8 (a1.f6_Key.getD 28 0), v8 (a1.f6_Key.getD 29 0), v8 (a1.f6_Key.getD 30 0), v8 (a1.f6_Key.getD 31 0), vi a1.f7_Depth], .cells 46 [.p (.sl 2 S_F eS_F [])], .cells 46 [.p (.sl 2 S_F eS_F x6.f0_files)]]) (by kernel_rfl) (by kernel_rfl) (by kernel_rfl) (by kernel_rfl) (by kernel_rfl) ?_
      refine qs ?_
      refine qr T_ok [2, 3, 4, 6, 10, 58] (E2 := [(2, [], .p (.sl 1 ByteArray eS a2)), (3, [], .ptr 0 0), (4, [], .ptr 1 0), (6, [], .ptr 2 0), (10, [], .ptr 3 0), (58, [], vb x7.2)]) (by kernel_rfl) ?_
      refine qi (t := x7.2) (by kernel_rfl) (fun c => ?_) (fun c => ?_)
      · rw [if_pos c] at H
        clear c
        refine qs ?_
        refine qg ?_
        refine qm T_ok 1 (k := 1) (by kernel_rfl) (by kernel_rfl) (by kernel_rfl) ?_
        refine xs T_ok (u := 46) (b := 2) (off := 0) (vs := [.p (.sl 2 S_F eS_F a0.f0_files)]) (cs := [.p (.sl 2 S_F eS_F [])]) (ti := ti46) rfl rfl rfl rfl (by kernel_rfl) (by kernel_rfl) (by kernel_rfl) (by kernel_rfl) (by kernel_rfl) (by kernel_rfl) rfl ?_
        refine qz T_ok 1 [6, 7] 3 (E2 := [(6, [], .ptr 2 0), (7, [], vi 7)]) (h1 := [.cells 46 [.p (.sl 2 S_F eS_F a0.f0_files)], .cells 57 [vi a1.f0_Kind, vs a1.f1_Path, vs a1.f2_To, vi a1.f3_At, .p (.sl 1 ByteArray eS a1.f4_Old), .p (.sl 1 ByteArray eS a1.f5_New), v8 (a1.f6_Key.getD 0 0), v8 (a1.f6_Key.getD 1 0), v8 (a1.f6_Key.getD 2 0), v8 (a1.f6_Key.getD 3 0), v8 (a1.f6_Key.getD 4 0), v8 (a1.f6_Key.getD 5 0), v8 (a1.f6_Key.getD 6 0), v8 (a1.f6_Key.getD 7 0), v8 (a1.f6_Key.getD 8 0), v8 (a1.f6_Key.getD 9 0), v8 (a1.f6_Key.getD 10 0), v8 (a1.f6_Key.getD 11 0), v8 (a1.f6_Key.getD 12 0), v8 (a1.f6_Key.getD 13 0), v8 (a1.f6_Key.getD 14 0), v8 (a1.f6_Key.getD 15 0), v8 (a1.f6_Key.getD 16 0), v8 (a1.f6_Key.getD 17 0), v8 (a1.f6_Key.getD 18 0), v8 (a1.f6_Key.getD 19 0), v8 (a1.f6_Key.getD 20 0), v8 (a1.f6_Key.getD 21 0), v8 (a1.f6_Key.getD 22 0), v8 (a1.f6_Key.getD 23 0), v8 (a1.f6_Key.getD 24 0), v8 (a1.f6_Key.getD 25 0), v8 (a1.f6_Key.getD 26 0), v8 (a1.f6_Key.getD 27 0), v8 (a1.f6_Key.getD 28 0), v8 (a1.f6_Key.getD 29 0), v8 (a1.f6_Key.getD 30 0), v8 (a1.f6_Key.getD 31 0), vi a1.f7_Depth], .cells 46 [.p (.sl 2 S_F eS_F a0.f0_files)]]) (by kernel_rfl) (by kernel_rfl) (by kernel_rfl) (by kernel_rfl) (by kernel_rfl) ?_
        refine qt ?_
        obtain rfl := Option.some.inj H
        exact ⟨.tup [.p (.agg [(.sl 2 S_F eS_F a0.f0_files)]), vi 7], by kernel_rfl, rfl⟩
      · rw [if_neg (by rw [c]; exact Bool.false_ne_true)] at H
        clear c
        refine qw [2, 3, 4, 6, 10] rfl ?_
        refine qk ?_
        refine qs ?_
        refine qs ?_
        refine qg ?_
        refine qm T_ok 3 (k := 3) (by kernel_rfl) (by kernel_rfl) (by kernel_rfl) ?_
        obtain ⟨x8, hx, H⟩ := bd H
        refine qy rfl (zc (T := T) (tree_Tree_room.ok k x6 a1.f2_To _ hx) Tryd.func61 rfl rfl (caps := []) (by kernel_rfl) (by kernel_rfl) (by kernel_rfl) (by kernel_rfl) (by kernel_rfl) (by kernel_rfl)) rfl (by kernel_rfl) rfl ?_
        clear hx
        refine qz T_ok 1 [2, 3, 4, 6, 10, 13] 4 (E2 := [(2, [], .p (.sl 1 ByteArray eS a2)), (3, [], .ptr 0 0), (4, [], .ptr 1 0), (6, [], .ptr 2 0), (10, [], .ptr 3 0), (13, [], vi x8)]) (h1 := [.cells 46 [.p (.sl 2 S_F eS_F a0.f0_files)], .cells 57 [vi a1.f0_Kind, vs a1.f1_Path, vs a1.f2_To, vi a1.f3_At, .p (.sl 1 ByteArray eS a1.f4_Old), .p (.sl 1 ByteArray eS a1.f5_New), v8 (a1.f6_Key.getD 0 0), v8 (a1.f6_Key.getD 1 0), v8 (a1.f6_Key.getD 2 0), v8 (a1.f6_Key.getD 3 0), v8 (a1.f6_Key.getD 4 0), v8 (a1.f6_Key.getD 5 0), v8 (a1.f6_Key.getD 6 0), v8 (a1.f6_Key.getD 7 0), v8 (a1.f6_Key.getD 8 0), v8 (a1.f6_Key.getD 9 0), v8 (a1.f6_Key.getD 10 0), v8 (a1.f6_Key.getD 11 0), v8 (a1.f6_Key.getD 12 0), v8 (a1.f6_Key.getD 13 0), v8 (a1.f6_Key.getD 14 0), v8 (a1.f6_Key.getD 15 0), v8 (a1.f6_Key.getD 16 0), v8 (a1.f6_Key.getD 17 0), v8 (a1.f6_Key.getD 18 0), v8 (a1.f6_Key.getD 19 0), v8 (a1.f6_Key.getD 20 0), v8 (a1.f6_Key.getD 21 0), v8 (a1.f6_Key.getD 22 0), v8 (a1.f6_Key.getD 23 0), v8 (a1.f6_Key.getD 24 0), v8 (a1.f6_Key.getD 25 0), v8 (a1.f6_Key.getD 26 0), v8 (a1.f6_Key.getD 27 0), v8 (a1.f6_Key.getD 28 0), v8 (a1.f6_Key.getD 29 0), v8 (a1.f6_Key.getD 30 0), v8 (a1.f6_Key.getD 31 0), vi a1.f7_Depth], .cells 46 [.p (.sl 2 S_F eS_F [])], .cells 46 [.p (.sl 2 S_F eS_F x6.f0_files)]]) (by kernel_rfl) (by kernel_rfl) (by kernel_rfl) (by kernel_rfl) (by kernel_rfl) ?_
        refine qs ?_
        refine qr T_ok [2, 3, 4, 6, 10, 13, 65] (E2 := [(2, [], .p (.sl 1 ByteArray eS a2)), (3, [], .ptr 0 0), (4, [], .ptr 1 0), (6, [], .ptr 2 0), (10, [], .ptr 3 0), (13, [], vi x8), (65, [], vb (!decide (x8 = 0)))]) (by kernel_rfl) ?_
        refine qi (t := !decide (x8 = 0)) (by kernel_rfl) (fun c => ?_) (fun c => ?_)
        · rw [if_pos c] at H
          clear c
          refine qs ?_
          refine qg ?_
          refine qm T_ok 2 (k := 2) (by kernel_rfl) (by kernel_rfl) (by kernel_rfl) ?_
          refine xs T_ok (u := 46) (b := 2) (off := 0) (vs := [.p (.sl 2 S_F eS_F a0.f0_files)]) (cs := [.p (.sl 2 S_F eS_F [])]) (ti := ti46) rfl rfl rfl rfl (by kernel_rfl) (by kernel_rfl) (by kernel_rfl) (by kernel_rfl) (by kernel_rfl) (by kernel_rfl) rfl ?_
          refine qz T_ok 1 [6, 7] 3 (E2 := [(6, [], .ptr 2 0), (7, [], vi x8)]) (h1 := [.cells 46 [.p (.sl 2 S_F eS_F a0.f0_files)], .cells 57 [vi a1.f0_Kind, vs a1.f1_Path, vs a1.f2_To, vi a1.f3_At, .p (.sl 1 ByteArray eS a1.f4_Old), .p (.sl 1 ByteArray eS a1.f5_New), v8 (a1.f6_Key.getD 0 0), v8 (a1.f6_Key.getD 1 0), v8 (a1.f6_Key.getD 2 0), v8 (a1.f6_Key.getD 3 0), v8 (a1.f6_Key.getD 4 0), v8 (a1.f6_Key.getD 5 0), v8 (a1.f6_Key.getD 6 0), v8 (a1.f6_Key.getD 7 0), v8 (a1.f6_Key.getD 8 0), v8 (a1.f6_Key.getD 9 0), v8 (a1.f6_Key.getD 10 0), v8 (a1.f6_Key.getD 11 0), v8 (a1.f6_Key.getD 12 0), v8 (a1.f6_Key.getD 13 0), v8 (a1.f6_Key.getD 14 0), v8 (a1.f6_Key.getD 15 0), v8 (a1.f6_Key.getD 16 0), v8 (a1.f6_Key.getD 17 0), v8 (a1.f6_Key.getD 18 0), v8 (a1.f6_Key.getD 19 0), v8 (a1.f6_Key.getD 20 0), v8 (a1.f6_Key.getD 21 0), v8 (a1.f6_Key.getD 22 0), v8 (a1.f6_Key.getD 23 0), v8 (a1.f6_Key.getD 24 0), v8 (a1.f6_Key.getD 25 0), v8 (a1.f6_Key.getD 26 0), v8 (a1.f6_Key.getD 27 0), v8 (a1.f6_Key.getD 28 0), v8 (a1.f6_Key.getD 29 0), v8 (a1.f6_Key.getD 30 0), v8 (a1.f6_Key.getD 31 0), vi a1.f7_Depth], .cells 46 [.p (.sl 2 S_F eS_F a0.f0_files)]]) (by kernel_rfl) (by kernel_rfl) (by kernel_rfl) (by kernel_rfl) (by kernel_rfl) ?_
          refine qt ?_
          obtain rfl := Option.some.inj H
          exact ⟨.tup [.p (.agg [(.sl 2 S_F eS_F a0.f0_files)]), vi x8], by kernel_rfl, rfl⟩
        · rw [if_neg (by rw [c]; exact Bool.false_ne_true)] at H
          clear c
          refine qw [2, 4, 6, 10] rfl ?_
          refine qk ?_
          refine qs ?_
          refine qg ?_
          refine qm T_ok 5 (k := 5) (by kernel_rfl) (by kernel_rfl) (by kernel_rfl) ?_
          obtain ⟨x9, hx, H⟩ := bd H
          refine qy rfl (zc (T := T) (tree_Tree_with.ok k x6 (⟨a1.f2_To, a2⟩ : S_F) _ hx) Tryd.func62 rfl rfl (caps := []) (by kernel_rfl) (by kernel_rfl) (by kernel_rfl) (by kernel_rfl) (by kernel_rfl) (by kernel_rfl)) rfl (by kernel_rfl) rfl ?_
          clear hx
          refine xs T_ok (u := 46) (b := 2) (off := 0) (vs := [.p (.sl 2 S_F eS_F x9.f0_files)]) (cs := [.p (.sl 2 S_F eS_F [])]) (ti := ti46) rfl rfl rfl rfl (by kernel_rfl) (by kernel_rfl) (by kernel_rfl) (by kernel_rfl) (by kernel_rfl) (by kernel_rfl) rfl ?_
          refine qz T_ok 1 [6, 7] 3 (E2 := [(6, [], .ptr 2 0), (7, [], vi 0)]) (h1 := [.cells 46 [.p (.sl 2 S_F eS_F a0.f0_files)], .cells 57 [vi a1.f0_Kind, vs a1.f1_Path, vs a1.f2_To, vi a1.f3_At, .p (.sl 1 ByteArray eS a1.f4_Old), .p (.sl 1 ByteArray eS a1.f5_New), v8 (a1.f6_Key.getD 0 0), v8 (a1.f6_Key.getD 1 0), v8 (a1.f6_Key.getD 2 0), v8 (a1.f6_Key.getD 3 0), v8 (a1.f6_Key.getD 4 0), v8 (a1.f6_Key.getD 5 0), v8 (a1.f6_Key.getD 6 0), v8 (a1.f6_Key.getD 7 0), v8 (a1.f6_Key.getD 8 0), v8 (a1.f6_Key.getD 9 0), v8 (a1.f6_Key.getD 10 0), v8 (a1.f6_Key.getD 11 0), v8 (a1.f6_Key.getD 12 0), v8 (a1.f6_Key.getD 13 0), v8 (a1.f6_Key.getD 14 0), v8 (a1.f6_Key.getD 15 0), v8 (a1.f6_Key.getD 16 0), v8 (a1.f6_Key.getD 17 0), v8 (a1.f6_Key.getD 18 0), v8 (a1.f6_Key.getD 19 0), v8 (a1.f6_Key.getD 20 0), v8 (a1.f6_Key.getD 21 0), v8 (a1.f6_Key.getD 22 0), v8 (a1.f6_Key.getD 23 0), v8 (a1.f6_Key.getD 24 0), v8 (a1.f6_Key.getD 25 0), v8 (a1.f6_Key.getD 26 0), v8 (a1.f6_Key.getD 27 0), v8 (a1.f6_Key.getD 28 0), v8 (a1.f6_Key.getD 29 0), v8 (a1.f6_Key.getD 30 0), v8 (a1.f6_Key.getD 31 0), vi a1.f7_Depth], .cells 46 [.p (.sl 2 S_F eS_F x9.f0_files)]]) (by kernel_rfl) (by kernel_rfl) (by kernel_rfl) (by kernel_rfl) (by kernel_rfl) ?_
          refine qt ?_
          obtain rfl := Option.some.inj H
          exact ⟨.tup [.p (.agg [(.sl 2 S_F eS_F x9.f0_files)]), vi 0], by kernel_rfl, rfl⟩
/-! ### (quitclaim/tree.Tree).Apply: function 58 -/
def tree_Tree_Apply.f (k : Nat) (a0 : S_files) (a1 : S_Op) : Option (S_files × Int) := ((op_Right.f k a1).bind fun x1 => (if (!decide (x1 = 0)) = true then some ((⟨[]⟩ : S_files), x1) else (jn (fun (x6 : Int) (x7 : S_files) => (if (!decide (x6 = 0)) = true then some ((⟨[]⟩ : S_files), x6) else some (x7, 0))) fun j0 => ((op_Policy.f a1).bind fun x8 => (if x8 = true then j0 0 a0 else (if a1.f0_Kind = 1 then ((tree_Tree_create.f k a0 a1.f1_Path).bind fun x9 => j0 x9.2 x9.1) else ((tree_Tree_Get.f k a0 a1.f1_Path).bind fun x10 => (if (!x10.2) = true then some ((⟨[]⟩ : S_files), 6) else ((tree_Tree_change.f k a0 a1 x10.1).bind fun x11 => j0 x11.2 x11.1)))))))))
theorem tree_Tree_Apply.ok (k : Nat) (a0 : S_files) (a1 : S_Op) (r : S_files × Int) (H : tree_Tree_Apply.f k a0 a1 = some r) : PF Tryd.prog 58 [.p (.agg [(.sl 2 S_F eS_F a0.f0_files)]), .p (.agg [(.s (.int .i64 a1.f0_Kind)), (.s (.string a1.f1_Path)), (.s (.string a1.f2_To)), (.s (.int .i64 a1.f3_At)), (.sl 1 ByteArray eS a1.f4_Old), (.sl 1 ByteArray eS a1.f5_New), (.s (.int .u8 (a1.f6_Key.getD 0 0))), (.s (.int .u8 (a1.f6_Key.getD 1 0))), (.s (.int .u8 (a1.f6_Key.getD 2 0))), (.s (.int .u8 (a1.f6_Key.getD 3 0))), (.s (.int .u8 (a1.f6_Key.getD 4 0))), (.s (.int .u8 (a1.f6_Key.getD 5 0))), (.s (.int .u8 (a1.f6_Key.getD 6 0))), (.s (.int .u8 (a1.f6_Key.getD 7 0))), (.s (.int .u8 (a1.f6_Key.getD 8 0))), (.s (.int .u8 (a1.f6_Key.getD 9 0))), (.s (.int .u8 (a1.f6_Key.getD 10 0))), (.s (.int .u8 (a1.f6_Key.getD 11 0))), (.s (.int .u8 (a1.f6_Key.getD 12 0))), (.s (.int .u8 (a1.f6_Key.getD 13 0))), (.s (.int .u8 (a1.f6_Key.getD 14 0))), (.s (.int .u8 (a1.f6_Key.getD 15 0))), (.s (.int .u8 (a1.f6_Key.getD 16 0))), (.s (.int .u8 (a1.f6_Key.getD 17 0))), (.s (.int .u8 (a1.f6_Key.getD 18 0))), (.s (.int .u8 (a1.f6_Key.getD 19 0))), (.s (.int .u8 (a1.f6_Key.getD 20 0))), (.s (.int .u8 (a1.f6_Key.getD 21 0))), (.s (.int .u8 (a1.f6_Key.getD 22 0))), (.s (.int .u8 (a1.f6_Key.getD 23 0))), (.s (.int .u8 (a1.f6_Key.getD 24 0))), (.s (.int .u8 (a1.f6_Key.getD 25 0))), (.s (.int .u8 (a1.f6_Key.getD 26 0))), (.s (.int .u8 (a1.f6_Key.getD 27 0))), (.s (.int .u8 (a1.f6_Key.getD 28 0))), (.s (.int .u8 (a1.f6_Key.getD 29 0))), (.s (.int .u8 (a1.f6_Key.getD 30 0))), (.s (.int .u8 (a1.f6_Key.getD 31 0))), (.s (.int .i64 a1.f7_Depth))])] (.tup [.p (.agg [(.sl 2 S_F eS_F r.1.f0_files)]), vi r.2]) := by
  refine PF_mk T_ok Tryd.func58 rfl (by kernel_rfl) (by kernel_rfl) ?_
  unfold tree_Tree_Apply.f at H
  refine qs ?_
  refine qg ?_
  refine xb (T := T) (j := 0) (cs := [.p (.sl 2 S_F eS_F a0.f0_files)]) rfl rfl rfl rfl (by kernel_rfl) (by kernel_rfl) rfl ?_
  refine xb (T := T) (j := 1) (cs := [vi a1.f0_Kind, vs a1.f1_Path, vs a1.f2_To, vi a1.f3_At, .p (.sl 1 ByteArray eS a1.f4_Old), .p (.sl 1 ByteArray eS a1.f5_New), v8 (a1.f6_Key.getD 0 0), v8 (a1.f6_Key.getD 1 0), v8 (a1.f6_Key.getD 2 0), v8 (a1.f6_Key.getD 3 0), v8 (a1.f6_Key.getD 4 0), v8 (a1.f6_Key.getD 5 0), v8 (a1.f6_Key.getD 6 0), v8 (a1.f6_Key.getD 7 0), v8 (a1.f6_Key.getD 8 0), v8 (a1.f6_Key.getD 9 0), v8 (a1.f6_Key.getD 10 0), v8 (a1.f6_Key.getD 11 0), v8 (a1.f6_Key.getD 12 0), v8 (a1.f6_Key.getD 13 0), v8 (a1.f6_Key.getD 14 0), v8 (a1.f6_Key.getD 15 0), v8 (a1.f6_Key.getD 16 0), v8 (a1.f6_Key.getD 17 0), v8 (a1.f6_Key.getD 18 0), v8 (a1.f6_Key.getD 19 0), v8 (a1.f6_Key.getD 20 0), v8 (a1.f6_Key.getD 21 0), v8 (a1.f6_Key.getD 22 0), v8 (a1.f6_Key.getD 23 0), v8 (a1.f6_Key.getD 24 0), v8 (a1.f6_Key.getD 25 0), v8 (a1.f6_Key.getD 26 0), v8 (a1.f6_Key.getD 27 0), v8 (a1.f6_Key.getD 28 0), v8 (a1.f6_Key.getD 29 0), v8 (a1.f6_Key.getD 30 0), v8 (a1.f6_Key.getD 31 0), vi a1.f7_Depth]) rfl rfl rfl rfl (by kernel_rfl) (by kernel_rfl) rfl ?_
  refine xa T_ok (j := 2) (ti := ti46) rfl rfl rfl rfl (by kernel_rfl) (by kernel_rfl) rfl ?_
  refine qz T_ok 1 [2, 3, 4] 3 (E2 := [(2, [], .ptr 0 0), (3, [], .ptr 1 0), (4, [], .ptr 2 0)]) (h1 := [.cells 46 [.p (.sl 2 S_F eS_F a0.f0_files)], .cells 57 [vi a1.f0_Kind, vs a1.f1_Path, vs a1.f2_To, vi a1.f3_At, .p (.sl 1 ByteArray eS a1.f4_Old), .p (.sl 1 ByteArray eS a1.f5_New), v8 (a1.f6_Key.getD 0 0), v8 (a1.f6_Key.getD 1 0), v8 (a1.f6_Key.getD 2 0), v8 (a1.f6_Key.getD 3 0), v8 (a1.f6_Key.getD 4 0), v8 (a1.f6_Key.getD 5 0), v8 (a1.f6_Key.getD 6 0), v8 (a1.f6_Key.getD 7 0), v8 (a1.f6_Key.getD 8 0), v8 (a1.f6_Key.getD 9 0), v8 (a1.f6_Key.getD 10 0), v8 (a1.f6_Key.getD 11 0), v8 (a1.f6_Key.getD 12 0), v8 (a1.f6_Key.getD 13 0), v8 (a1.f6_Key.getD 14 0), v8 (a1.f6_Key.getD 15 0), v8 (a1.f6_Key.getD 16 0), v8 (a1.f6_Key.getD 17 0), v8 (a1.f6_Key.getD 18 0), v8 (a1.f6_Key.getD 19 0), v8 (a1.f6_Key.getD 20 0), v8 (a1.f6_Key.getD 21 0), v8 (a1.f6_Key.getD 22 0), v8 (a1.f6_Key.getD 23 0), v8 (a1.f6_Key.getD 24 0), v8 (a1.f6_Key.getD 25 0), v8 (a1.f6_Key.getD 26 0), v8 (a1.f6_Key.getD 27 0), v8 (a1.f6_Key.getD 28 0), v8 (a1.f6_Key.getD 29 0), v8 (a1.f6_Key.getD 30 0), v8 (a1.f6_Key.getD 31 0), vi a1.f7_Depth], .cells 46 [.p (.sl 2 S_F eS_F [])]]) (by kernel_rfl) (by kernel_rfl) (by kernel_rfl) (by kernel_rfl) (by kernel_rfl) ?_
  refine qs ?_
  refine qs ?_
  refine qg ?_
  refine qm T_ok 1 (k := 1) (by kernel_rfl) (by kernel_rfl) (by kernel_rfl) ?_
  obtain ⟨x1, hx, H⟩ := bd H
  refine qy rfl (zc (T := T) (op_Right.ok k a1 _ hx) Tryd.func87 rfl rfl (caps := []) (by kernel_rfl) (by kernel_rfl) (by kernel_rfl) (by kernel_rfl) (by kernel_rfl) (by kernel_rfl)) rfl (by kernel_rfl) rfl ?_
  clear hx
  refine qz T_ok 1 [2, 3, 4, 6] 3 (E2 := [(2, [], .ptr 0 0), (3, [], .ptr 1 0), (4, [], .ptr 2 0), (6, [], vi x1)]) (h1 := [.cells 46 [.p (.sl 2 S_F eS_F a0.f0_files)], .cells 57 [vi a1.f0_Kind, vs a1.f1_Path, vs a1.f2_To, vi a1.f3_At, .p (.sl 1 ByteArray eS a1.f4_Old), .p (.sl 1 ByteArray eS a1.f5_New), v8 (a1.f6_Key.getD 0 0), v8 (a1.f6_Key.getD 1 0), v8 (a1.f6_Key.getD 2 0), v8 (a1.f6_Key.getD 3 0), v8 (a1.f6_Key.getD 4 0), v8 (a1.f6_Key.getD 5 0), v8 (a1.f6_Key.getD 6 0), v8 (a1.f6_Key.getD 7 0), v8 (a1.f6_Key.getD 8 0), v8 (a1.f6_Key.getD 9 0), v8 (a1.f6_Key.getD 10 0), v8 (a1.f6_Key.getD 11 0), v8 (a1.f6_Key.getD 12 0), v8 (a1.f6_Key.getD 13 0), v8 (a1.f6_Key.getD 14 0), v8 (a1.f6_Key.getD 15 0), v8 (a1.f6_Key.getD 16 0), v8 (a1.f6_Key.getD 17 0), v8 (a1.f6_Key.getD 18 0), v8 (a1.f6_Key.getD 19 0), v8 (a1.f6_Key.getD 20 0), v8 (a1.f6_Key.getD 21 0), v8 (a1.f6_Key.getD 22 0), v8 (a1.f6_Key.getD 23 0), v8 (a1.f6_Key.getD 24 0), v8 (a1.f6_Key.getD 25 0), v8 (a1.f6_Key.getD 26 0), v8 (a1.f6_Key.getD 27 0), v8 (a1.f6_Key.getD 28 0), v8 (a1.f6_Key.getD 29 0), v8 (a1.f6_Key.getD 30 0), v8 (a1.f6_Key.getD 31 0), vi a1.f7_Depth], .cells 46 [.p (.sl 2 S_F eS_F [])]]) (by kernel_rfl) (by kernel_rfl) (by kernel_rfl) (by kernel_rfl) (by kernel_rfl) ?_
  refine qs ?_
  refine qr T_ok [2, 3, 4, 6, 14] (E2 := [(2, [], .ptr 0 0), (3, [], .ptr 1 0), (4, [], .ptr 2 0), (6, [], vi x1), (14, [], vb (!decide (x1 = 0)))]) (by kernel_rfl) ?_
  refine qi (t := !decide (x1 = 0)) (by kernel_rfl) (fun c => ?_) (fun c => ?_)
  · rw [if_pos c] at H
    clear c
    refine qs ?_
    refine qg ?_
    refine qm T_ok 2 (k := 2) (by kernel_rfl) (by kernel_rfl) (by kernel_rfl) ?_
    refine xs T_ok (u := 46) (b := 2) (off := 0) (vs := [.p (.sl 2 S_F eS_F [])]) (cs := [.p (.sl 2 S_F eS_F [])]) (ti := ti46) rfl rfl rfl rfl (by kernel_rfl) (by kernel_rfl) (by kernel_rfl) (by kernel_rfl) (by kernel_rfl) (by kernel_rfl) rfl ?_
    refine qz T_ok 1 [4, 5] 3 (E2 := [(4, [], .ptr 2 0), (5, [], vi x1)]) (h1 := [.cells 46 [.p (.sl 2 S_F eS_F a0.f0_files)], .cells 57 [vi a1.f0_Kind, vs a1.f1_Path, vs a1.f2_To, vi a1.f3_At, .p (.sl 1 ByteArray eS a1.f4_Old), .p (.sl 1 ByteArray eS a1.f5_New), v8 (a1.f6_Key.getD 0 0), v8 (a1.f6_Key.getD 1 0), v8 (a1.f6_Key.getD 2 0), v8 (a1.f6_Key.getD 3 0), v8 (a1.f6_Key.getD 4 0), v8 (a1.f6_Key.getD 5 0), v8 (a1.f6_Key.getD 6 0), v8 (a1.f6_Key.getD 7 0), v8 (a1.f6_Key.getD 8 0), v8 (a1.f6_Key.getD 9 0), v8 (a1.f6_Key.getD 10 0), v8 (a1.f6_Key.getD 11 0), v8 (a1.f6_Key.getD 12 0), v8 (a1.f6_Key.getD 13 0), v8 (a1.f6_Key.getD 14 0), v8 (a1.f6_Key.getD 15 0), v8 (a1.f6_Key.getD 16 0), v8 (a1.f6_Key.getD 17 0), v8 (a1.f6_Key.getD 18 0), v8 (a1.f6_Key.getD 19 0), v8 (a1.f6_Key.getD 20 0), v8 (a1.f6_Key.getD 21 0), v8 (a1.f6_Key.getD 22 0), v8 (a1.f6_Key.getD 23 0), v8 (a1.f6_Key.getD 24 0), v8 (a1.f6_Key.getD 25 0), v8 (a1.f6_Key.getD 26 0), v8 (a1.f6_Key.getD 27 0), v8 (a1.f6_Key.getD 28 0), v8 (a1.f6_Key.getD 29 0), v8 (a1.f6_Key.getD 30 0), v8 (a1.f6_Key.getD 31 0), vi a1.f7_Depth], .cells 46 [.p (.sl 2 S_F eS_F [])]]) (by kernel_rfl) (by kernel_rfl) (by kernel_rfl) (by kernel_rfl) (by kernel_rfl) ?_
    refine qt ?_
    obtain rfl := Option.some.inj H
    exact ⟨.tup [.p (.agg [(.sl 2 S_F eS_F [])]), vi x1], by kernel_rfl, rfl⟩
  · rw [if_neg (by rw [c]; exact Bool.false_ne_true)] at H
    clear c
    refine qw [2, 3, 4] rfl ?_
    refine qk ?_
    refine qs ?_
    refine qg ?_
    refine qm T_ok 1 (k := 1) (by kernel_rfl) (by kernel_rfl) (by kernel_rfl) ?_
    refine xa T_ok (j := 3) (ti := ti46) rfl rfl rfl rfl (by kernel_rfl) (by kernel_rfl) rfl ?_
    refine xs T_ok (u := 46) (b := 3) (off := 0) (vs := [.p (.sl 2 S_F eS_F a0.f0_files)]) (cs := [.p (.sl 2 S_F eS_F [])]) (ti := ti46) rfl rfl rfl rfl (by kernel_rfl) (by kernel_rfl) (by kernel_rfl) (by kernel_rfl) (by kernel_rfl) (by kernel_rfl) rfl ?_
    refine qz T_ok 1 [2, 3, 4, 7, 8] 4 (E2 := [(2, [], .ptr 0 0), (3, [], .ptr 1 0), (4, [], .ptr 2 0), (7, [], .ptr 3 0), (8, [], vi 0)]) (h1 := [.cells 46 [.p (.sl 2 S_F eS_F a0.f0_files)], .cells 57 [vi a1.f0_Kind, vs a1.f1_Path, vs a1.f2_To, vi a1.f3_At, .p (.sl 1 ByteArray eS a1.f4_Old), .p (.sl 1 ByteArray eS a1.f5_New), v8 (a1.f6_Key.getD 0 0), v8 (a1.f6_Key.getD 1 0), v8 (a1.f6_Key.getD 2 0), v8 (a1.f6_Key.getD 3 0), v8 (a1.f6_Key.getD 4 0), v8 (a1.f6_Key.getD 5 0), v8 (a1.f6_Key.getD 6 0), v8 (a1.f6_Key.getD 7 0), v8 (a1.f6_Key.getD 8 0), v8 (a1.f6_Key.getD 9 0), v8 (a1.f6_Key.getD 10 0), v8 (a1.f6_Key.getD 11 0), v8 (a1.f6_Key.getD 12 0), v8 (a1.f6_Key.getD 13 0), v8 (a1.f6_Key.getD 14 0), v8 (a1.f6_Key.getD 15 0), v8 (a1.f6_Key.getD 16 0), v8 (a1.f6_Key.getD 17 0), v8 (a1.f6_Key.getD 18 0), v8 (a1.f6_Key.getD 19 0), v8 (a1.f6_Key.getD 20 0), v8 (a1.f6_Key.getD 21 0), v8 (a1.f6_Key.getD 22 0), v8 (a1.f6_Key.getD 23 0), v8 (a1.f6_Key.getD 24 0), v8 (a1.f6_Key.getD 25 0), v8 (a1.f6_Key.getD 26 0), v8 (a1.f6_Key.getD 27 0), v8 (a1.f6_Key.getD 28 0), v8 (a1.f6_Key.getD 29 0), v8 (a1.f6_Key.getD 30 0), v8 (a1.f6_Key.getD 31 0), vi a1.f7_Depth], .cells 46 [.p (.sl 2 S_F eS_F [])], .cells 46 [.p (.sl 2 S_F eS_F a0.f0_files)]]) (by kernel_rfl) (by kernel_rfl) (by kernel_rfl) (by kernel_rfl) (by kernel_rfl) ?_
    obtain ⟨j0, hj, H⟩ := jn_of H
    refine qc (fun E h => ∃ x6 : Int, ∃ x7 : S_files, E = [(4, [], .ptr 2 0), (7, [], .ptr 3 0), (8, [], vi x6)] ∧ h = [.cells 46 [.p (.sl 2 S_F eS_F a0.f0_files)], .cells 57 [vi a1.f0_Kind, vs a1.f1_Path, vs a1.f2_To, vi a1.f3_At, .p (.sl 1 ByteArray eS a1.f4_Old), .p (.sl 1 ByteArray eS a1.f5_New), v8 (a1.f6_Key.getD 0 0), v8 (a1.f6_Key.getD 1 0), v8 (a1.f6_Key.getD 2 0), v8 (a1.f6_Key.getD 3 0), v8 (a1.f6_Key.getD 4 0), v8 (a1.f6_Key.getD 5 0), v8 (a1.f6_Key.getD 6 0), v8 (a1.f6_Key.getD 7 0), v8 (a1.f6_Key.getD 8 0), v8 (a1.f6_Key.getD 9 0), v8 (a1.f6_Key.getD 10 0), v8 (a1.f6_Key.getD 11 0), v8 (a1.f6_Key.getD 12 0), v8 (a1.f6_Key.getD 13 0), v8 (a1.f6_Key.getD 14 0), v8 (a1.f6_Key.getD 15 0), v8 (a1.f6_Key.getD 16 0), v8 (a1.f6_Key.getD 17 0), v8 (a1.f6_Key.getD 18 0), v8 (a1.f6_Key.getD 19 0), v8 (a1.f6_Key.getD 20 0), v8 (a1.f6_Key.getD 21 0), v8 (a1.f6_Key.getD 22 0), v8 (a1.f6_Key.getD 23 0), v8 (a1.f6_Key.getD 24 0), v8 (a1.f6_Key.getD 25 0), v8 (a1.f6_Key.getD 26 0), v8 (a1.f6_Key.getD 27 0), v8 (a1.f6_Key.getD 28 0), v8 (a1.f6_Key.getD 29 0), v8 (a1.f6_Key.getD 30 0), v8 (a1.f6_Key.getD 31 0), vi a1.f7_Depth], .cells 46 [.p (.sl 2 S_F eS_F [])], .cells 46 [.p (.sl 2 S_F eS_F x7.f0_files)]] ∧ j0 x6 x7 = some r) ?_ ?_
    · clear hj
      refine qb ?_
      refine qs ?_
      refine qg ?_
      refine qm T_ok 1 (k := 1) (by kernel_rfl) (by kernel_rfl) (by kernel_rfl) ?_
      obtain ⟨x8, hx, H⟩ := bd H
      refine qy rfl (zc (T := T) (op_Policy.ok a1 _ hx) Tryd.func88 rfl rfl (caps := []) (by kernel_rfl) (by kernel_rfl) (by kernel_rfl) (by kernel_rfl) (by kernel_rfl) (by kernel_rfl)) rfl (by kernel_rfl) rfl ?_
      clear hx
      refine qz T_ok 1 [2, 3, 4, 7, 8, 35] 4 (E2 := [(2, [], .ptr 0 0), (3, [], .ptr 1 0), (4, [], .ptr 2 0), (7, [], .ptr 3 0), (8, [], vi 0), (35, [], vb x8)]) (h1 := [.cells 46 [.p (.sl 2 S_F eS_F a0.f0_files)], .cells 57 [vi a1.f0_Kind, vs a1.f1_Path, vs a1.f2_To, vi a1.f3_At, .p (.sl 1 ByteArray eS a1.f4_Old), .p (.sl 1 ByteArray eS a1.f5_New), v8 (a1.f6_Key.getD 0 0), v8 (a1.f6_Key.getD 1 0), v8 (a1.f6_Key.getD 2 0), v8 (a1.f6_Key.getD 3 0), v8 (a1.f6_Key.getD 4 0), v8 (a1.f6_Key.getD 5 0), v8 (a1.f6_Key.getD 6 0), v8 (a1.f6_Key.getD 7 0), v8 (a1.f6_Key.getD 8 0), v8 (a1.f6_Key.getD 9 0), v8 (a1.f6_Key.getD 10 0), v8 (a1.f6_Key.getD 11 0), v8 (a1.f6_Key.getD 12 0), v8 (a1.f6_Key.getD 13 0), v8 (a1.f6_Key.getD 14 0), v8 (a1.f6_Key.getD 15 0), v8 (a1.f6_Key.getD 16 0), v8 (a1.f6_Key.getD 17 0), v8 (a1.f6_Key.getD 18 0), v8 (a1.f6_Key.getD 19 0), v8 (a1.f6_Key.getD 20 0), v8 (a1.f6_Key.getD 21 0), v8 (a1.f6_Key.getD 22 0), v8 (a1.f6_Key.getD 23 0), v8 (a1.f6_Key.getD 24 0), v8 (a1.f6_Key.getD 25 0), v8 (a1.f6_Key.getD 26 0), v8 (a1.f6_Key.getD 27 0), v8 (a1.f6_Key.getD 28 0), v8 (a1.f6_Key.getD 29 0), v8 (a1.f6_Key.getD 30 0), v8 (a1.f6_Key.getD 31 0), vi a1.f7_Depth], .cells 46 [.p (.sl 2 S_F eS_F [])], .cells 46 [.p (.sl 2 S_F eS_F a0.f0_files)]]) (by kernel_rfl) (by kernel_rfl) (by kernel_rfl) (by kernel_rfl) (by kernel_rfl) ?_
      refine qi (t := x8) (by kernel_rfl) (fun c => ?_) (fun c => ?_)
      · rw [if_pos c] at H
        clear c
        refine qw [4, 7, 8] rfl ?_
        refine qk ?_
        exact ⟨0, a0, rfl, rfl, H⟩
      · rw [if_neg (by rw [c]; exact Bool.false_ne_true)] at H
        clear c
        refine qs ?_
        refine qr T_ok [2, 3, 4, 7, 38] (E2 := [(2, [], .ptr 0 0), (3, [], .ptr 1 0), (4, [], .ptr 2 0), (7, [], .ptr 3 0), (38, [], vb (decide (a1.f0_Kind = 1)))]) (by kernel_rfl) ?_
        refine qi (t := decide (a1.f0_Kind = 1)) (by kernel_rfl) (fun c => ?_) (fun c => ?_)
        · rw [if_pos (of_decide_eq_true c)] at H
          clear c
          refine qg ?_
          refine qm T_ok 3 (k := 3) (by kernel_rfl) (by kernel_rfl) (by kernel_rfl) ?_
          obtain ⟨x9, hx, H⟩ := bd H
          refine qy rfl (zc (T := T) (tree_Tree_create.ok k a0 a1.f1_Path _ hx) Tryd.func89 rfl rfl (caps := []) (by kernel_rfl) (by kernel_rfl) (by kernel_rfl) (by kernel_rfl) (by kernel_rfl) (by kernel_rfl)) rfl (by kernel_rfl) rfl ?_
          clear hx
          refine qm T_ok 3 (k := 7) (by kernel_rfl) (by kernel_rfl) (by kernel_rfl) ?_
          refine xs T_ok (u := 46) (b := 3) (off := 0) (vs := [.p (.sl 2 S_F eS_F x9.1.f0_files)]) (cs := [.p (.sl 2 S_F eS_F a0.f0_files)]) (ti := ti46) rfl rfl rfl rfl (by kernel_rfl) (by kernel_rfl) (by kernel_rfl) (by kernel_rfl) (by kernel_rfl) (by kernel_rfl) rfl ?_
          refine qz T_ok 1 [4, 7, 8] 4 (E2 := [(4, [], .ptr 2 0), (7, [], .ptr 3 0), (8, [], vi x9.2)]) (h1 := [.cells 46 [.p (.sl 2 S_F eS_F a0.f0_files)], .cells 57 [vi a1.f0_Kind, vs a1.f1_Path, vs a1.f2_To, vi a1.f3_At, .p (.sl 1 ByteArray eS a1.f4_Old), .p (.sl 1 ByteArray eS a1.f5_New), v8 (a1.f6_Key.getD 0 0), v8 (a1.f6_Key.getD 1 0), v8 (a1.f6_Key.getD 2 0), v8 (a1.f6_Key.getD 3 0), v8 (a1.f6_Key.getD 4 0), v8 (a1.f6_Key.getD 5 0), v8 (a1.f6_Key.getD 6 0), v8 (a1.f6_Key.getD 7 0), v8 (a1.f6_Key.getD 8 0), v8 (a1.f6_Key.getD 9 0), v8 (a1.f6_Key.getD 10 0), v8 (a1.f6_Key.getD 11 0), v8 (a1.f6_Key.getD 12 0), v8 (a1.f6_Key.getD 13 0), v8 (a1.f6_Key.getD 14 0), v8 (a1.f6_Key.getD 15 0), v8 (a1.f6_Key.getD 16 0), v8 (a1.f6_Key.getD 17 0), v8 (a1.f6_Key.getD 18 0), v8 (a1.f6_Key.getD 19 0), v8 (a1.f6_Key.getD 20 0), v8 (a1.f6_Key.getD 21 0), v8 (a1.f6_Key.getD 22 0), v8 (a1.f6_Key.getD 23 0), v8 (a1.f6_Key.getD 24 0), v8 (a1.f6_Key.getD 25 0), v8 (a1.f6_Key.getD 26 0), v8 (a1.f6_Key.getD 27 0), v8 (a1.f6_Key.getD 28 0), v8 (a1.f6_Key.getD 29 0), v8 (a1.f6_Key.getD 30 0), v8 (a1.f6_Key.getD 31 0), vi a1.f7_Depth], .cells 46 [.p (.sl 2 S_F eS_F [])], .cells 46 [.p (.sl 2 S_F eS_F x9.1.f0_files)]]) (by kernel_rfl) (by kernel_rfl) (by kernel_rfl) (by kernel_rfl) (by kernel_rfl) ?_
          exact ⟨x9.2, x9.1, rfl, rfl, H⟩
        · rw [if_neg (of_decide_eq_false c)] at H
          clear c
          refine qs ?_
          refine qg ?_
          refine qm T_ok 3 (k := 3) (by kernel_rfl) (by kernel_rfl) (by kernel_rfl) ?_
          obtain ⟨x10, hx, H⟩ := bd H
          refine qy rfl (zc (T := T) (tree_Tree_Get.ok k a0 a1.f1_Path _ hx) Tryd.func57 rfl rfl (caps := []) (by kernel_rfl) (by kernel_rfl) (by kernel_rfl) (by kernel_rfl) (by kernel_rfl) (by kernel_rfl)) rfl (by kernel_rfl) rfl ?_
          clear hx
          refine qz T_ok 5 [2, 3, 4, 7, 9, 10] 4 (E2 := [(2, [], .ptr 0 0), (3, [], .ptr 1 0), (4, [], .ptr 2 0), (7, [], .ptr 3 0), (9, [], .p (.sl 1 ByteArray eS x10.1)), (10, [], vb x10.2)]) (h1 := [.cells 46 [.p (.sl 2 S_F eS_F a0.f0_files)], .cells 57 [vi a1.f0_Kind, vs a1.f1_Path, vs a1.f2_To, vi a1.f3_At, .p (.sl 1 ByteArray eS a1.f4_Old), .p (.sl 1 ByteArray eS a1.f5_New), v8 (a1.f6_Key.getD 0 0), v8 (a1.f6_Key.getD 1 0), v8 (a1.f6_Key.getD 2 0), v8 (a1.f6_Key.getD 3 0), v8 (a1.f6_Key.getD 4 0), v8 (a1.f6_Key.getD 5 0), v8 (a1.f6_Key.getD 6 0), v8 (a1.f6_Key.getD 7 0), v8 (a1.f6_Key.getD 8 0), v8 (a1.f6_Key.getD 9 0), v8 (a1.f6_Key.getD 10 0), v8 (a1.f6_Key.getD 11 0), v8 (a1.f6_Key.getD 12 0), v8 (a1.f6_Key.getD 13 0), v8 (a1.f6_Key.getD 14 0), v8 (a1.f6_Key.getD 15 0), v8 (a1.f6_Key.getD 16 0), v8 (a1.f6_Key.getD 17 0), v8 (a1.f6_Key.getD 18 0), v8 (a1.f6_Key.getD 19 0), v8 (a1.f6_Key.getD 20 0), v8 (a1.f6_Key.getD 21 0), v8 (a1.f6_Key.getD 22 0), v8 (a1.f6_Key.getD 23 0), v8 (a1.f6_Key.getD 24 0), v8 (a1.f6_Key.getD 25 0), v8 (a1.f6_Key.getD 26 0), v8 (a1.f6_Key.getD 27 0), v8 (a1.f6_Key.getD 28 0), v8 (a1.f6_Key.getD 29 0), v8 (a1.f6_Key.getD 30 0), v8 (a1.f6_Key.getD 31 0), vi a1.f7_Depth], .cells 46 [.p (.sl 2 S_F eS_F [])], .cells 46 [.p (.sl 2 S_F eS_F a0.f0_files)]]) (by kernel_rfl) (by kernel_rfl) (by kernel_rfl) (by kernel_rfl) (by kernel_rfl) ?_
          refine qs ?_
          refine qs ?_
          refine qr T_ok [2, 3, 4, 7, 9, 26] (E2 := [(2, [], .ptr 0 0), (3, [], .ptr 1 0), (4, [], .ptr 2 0), (7, [], .ptr 3 0), (9, [], .p (.sl 1 ByteArray eS x10.1)), (26, [], vb (!x10.2))]) (by kernel_rfl) ?_
          refine qi (t := !x10.2) (by kernel_rfl) (fun c => ?_) (fun c => ?_)
          · rw [if_pos c] at H
            clear c
            refine qs ?_
            refine qg ?_
            refine qm T_ok 1 (k := 1) (by kernel_rfl) (by kernel_rfl) (by kernel_rfl) ?_
            refine xs T_ok (u := 46) (b := 2) (off := 0) (vs := [.p (.sl 2 S_F eS_F [])]) (cs := [.p (.sl 2 S_F eS_F [])]) (ti := ti46) rfl rfl rfl rfl (by kernel_rfl) (by kernel_rfl) (by kernel_rfl) (by kernel_rfl) (by kernel_rfl) (by kernel_rfl) rfl ?_
            refine qz T_ok 1 [4, 5] 3 (E2 := [(4, [], .ptr 2 0), (5, [], vi 6)]) (h1 := [.cells 46 [.p (.sl 2 S_F eS_F a0.f0_files)], .cells 57 [vi a1.f0_Kind, vs a1.f1_Path, vs a1.f2_To, vi a1.f3_At, .p (.sl 1 ByteArray eS a1.f4_Old), .p (.sl 1 ByteArray eS a1.f5_New), v8 (a1.f6_Key.getD 0 0), v8 (a1.f6_Key.getD 1 0), v8 (a1.f6_Key.getD 2 0), v8 (a1.f6_Key.getD 3 0), v8 (a1.f6_Key.getD 4 0), v8 (a1.f6_Key.getD 5 0), v8 (a1.f6_Key.getD 6 0), v8 (a1.f6_Key.getD 7 0), v8 (a1.f6_Key.getD 8 0), v8 (a1.f6_Key.getD 9 0), v8 (a1.f6_Key.getD 10 0), v8 (a1.f6_Key.getD 11 0), v8 (a1.f6_Key.getD 12 0), v8 (a1.f6_Key.getD 13 0), v8 (a1.f6_Key.getD 14 0), v8 (a1.f6_Key.getD 15 0), v8 (a1.f6_Key.getD 16 0), v8 (a1.f6_Key.getD 17 0), v8 (a1.f6_Key.getD 18 0), v8 (a1.f6_Key.getD 19 0), v8 (a1.f6_Key.getD 20 0), v8 (a1.f6_Key.getD 21 0), v8 (a1.f6_Key.getD 22 0), v8 (a1.f6_Key.getD 23 0), v8 (a1.f6_Key.getD 24 0), v8 (a1.f6_Key.getD 25 0), v8 (a1.f6_Key.getD 26 0), v8 (a1.f6_Key.getD 27 0), v8 (a1.f6_Key.getD 28 0), v8 (a1.f6_Key.getD 29 0), v8 (a1.f6_Key.getD 30 0), v8 (a1.f6_Key.getD 31 0), vi a1.f7_Depth], .cells 46 [.p (.sl 2 S_F eS_F [])]]) (by kernel_rfl) (by kernel_rfl) (by kernel_rfl) (by kernel_rfl) (by kernel_rfl) ?_
            refine qt ?_
            obtain rfl := Option.some.inj H
            exact ⟨.tup [.p (.agg [(.sl 2 S_F eS_F [])]), vi 6], by kernel_rfl, rfl⟩
          · rw [if_neg (by rw [c]; exact Bool.false_ne_true)] at H
            clear c
            refine qw [2, 3, 4, 7, 9] rfl ?_
            refine qk ?_
            refine qg ?_
            refine qm T_ok 3 (k := 3) (by kernel_rfl) (by kernel_rfl) (by kernel_rfl) ?_
            obtain ⟨x11, hx, H⟩ := bd H
            refine qy rfl (zc (T := T) (tree_Tree_change.ok k a0 a1 x10.1 _ hx) Tryd.func90 rfl rfl (caps := []) (by kernel_rfl) (by kernel_rfl) (by kernel_rfl) (by kernel_rfl) (by kernel_rfl) (by kernel_rfl)) rfl (by kernel_rfl) rfl ?_
            clear hx
            refine qm T_ok 3 (k := 7) (by kernel_rfl) (by kernel_rfl) (by kernel_rfl) ?_
            refine xs T_ok (u := 46) (b := 3) (off := 0) (vs := [.p (.sl 2 S_F eS_F x11.1.f0_files)]) (cs := [.p (.sl 2 S_F eS_F a0.f0_files)]) (ti := ti46) rfl rfl rfl rfl (by kernel_rfl) (by kernel_rfl) (by kernel_rfl) (by kernel_rfl) (by kernel_rfl) (by kernel_rfl) rfl ?_
            refine qz T_ok 1 [4, 7, 8] 4 (E2 := [(4, [], .ptr 2 0), (7, [], .ptr 3 0), (8, [], vi x11.2)]) (h1 := [.cells 46 [.p (.sl 2 S_F eS_F a0.f0_files)], .cells 57 [vi a1.f0_Kind, vs a1.f1_Path, vs a1.f2_To, vi a1.f3_At, .p (.sl 1 ByteArray eS a1.f4_Old), .p (.sl 1 ByteArray eS a1.f5_New), v8 (a1.f6_Key.getD 0 0), v8 (a1.f6_Key.getD 1 0), v8 (a1.f6_Key.getD 2 0), v8 (a1.f6_Key.getD 3 0), v8 (a1.f6_Key.getD 4 0), v8 (a1.f6_Key.getD 5 0), v8 (a1.f6_Key.getD 6 0), v8 (a1.f6_Key.getD 7 0), v8 (a1.f6_Key.getD 8 0), v8 (a1.f6_Key.getD 9 0), v8 (a1.f6_Key.getD 10 0), v8 (a1.f6_Key.getD 11 0), v8 (a1.f6_Key.getD 12 0), v8 (a1.f6_Key.getD 13 0), v8 (a1.f6_Key.getD 14 0), v8 (a1.f6_Key.getD 15 0), v8 (a1.f6_Key.getD 16 0), v8 (a1.f6_Key.getD 17 0), v8 (a1.f6_Key.getD 18 0), v8 (a1.f6_Key.getD 19 0), v8 (a1.f6_Key.getD 20 0), v8 (a1.f6_Key.getD 21 0), v8 (a1.f6_Key.getD 22 0), v8 (a1.f6_Key.getD 23 0), v8 (a1.f6_Key.getD 24 0), v8 (a1.f6_Key.getD 25 0), v8 (a1.f6_Key.getD 26 0), v8 (a1.f6_Key.getD 27 0), v8 (a1.f6_Key.getD 28 0), v8 (a1.f6_Key.getD 29 0), v8 (a1.f6_Key.getD 30 0), v8 (a1.f6_Key.getD 31 0), vi a1.f7_Depth], .cells 46 [.p (.sl 2 S_F eS_F [])], .cells 46 [.p (.sl 2 S_F eS_F x11.1.f0_files)]]) (by kernel_rfl) (by kernel_rfl) (by kernel_rfl) (by kernel_rfl) (by kernel_rfl) ?_
            exact ⟨x11.2, x11.1, rfl, rfl, H⟩
    · clear H
      rintro E h ⟨x6, x7, rfl, rfl, H⟩
      subst hj
      dsimp only at H
      refine qs ?_
      refine qs ?_
      refine qr T_ok [4, 7, 8, 50] (E2 := [(4, [], .ptr 2 0), (7, [], .ptr 3 0), (8, [], vi x6), (50, [], vb (!decide (x6 = 0)))]) (by kernel_rfl) ?_
      refine qi (t := !decide (x6 = 0)) (by kernel_rfl) (fun c => ?_) (fun c => ?_)
      · rw [if_pos c] at H
        clear c
        refine qs ?_
        refine qg ?_
        refine qm T_ok 2 (k := 2) (by kernel_rfl) (by kernel_rfl) (by kernel_rfl) ?_
        refine xs T_ok (u := 46) (b := 2) (off := 0) (vs := [.p (.sl 2 S_F eS_F [])]) (cs := [.p (.sl 2 S_F eS_F [])]) (ti := ti46) rfl rfl rfl rfl (by kernel_rfl) (by kernel_rfl) (by kernel_rfl) (by kernel_rfl) (by kernel_rfl) (by kernel_rfl) rfl ?_
        refine qz T_ok 1 [4, 5] 3 (E2 := [(4, [], .ptr 2 0), (5, [], vi x6)]) (h1 := [.cells 46 [.p (.sl 2 S_F eS_F a0.f0_files)], .cells 57 [vi a1.f0_Kind, vs a1.f1_Path, vs a1.f2_To, vi a1.f3_At, .p (.sl 1 ByteArray eS a1.f4_Old), .p (.sl 1 ByteArray eS a1.f5_New), v8 (a1.f6_Key.getD 0 0), v8 (a1.f6_Key.getD 1 0), v8 (a1.f6_Key.getD 2 0), v8 (a1.f6_Key.getD 3 0), v8 (a1.f6_Key.getD 4 0), v8 (a1.f6_Key.getD 5 0), v8 (a1.f6_Key.getD 6 0), v8 (a1.f6_Key.getD 7 0), v8 (a1.f6_Key.getD 8 0), v8 (a1.f6_Key.getD 9 0), v8 (a1.f6_Key.getD 10 0), v8 (a1.f6_Key.getD 11 0), v8 (a1.f6_Key.getD 12 0), v8 (a1.f6_Key.getD 13 0), v8 (a1.f6_Key.getD 14 0), v8 (a1.f6_Key.getD 15 0), v8 (a1.f6_Key.getD 16 0), v8 (a1.f6_Key.getD 17 0), v8 (a1.f6_Key.getD 18 0), v8 (a1.f6_Key.getD 19 0), v8 (a1.f6_Key.getD 20 0), v8 (a1.f6_Key.getD 21 0), v8 (a1.f6_Key.getD 22 0), v8 (a1.f6_Key.getD 23 0), v8 (a1.f6_Key.getD 24 0), v8 (a1.f6_Key.getD 25 0), v8 (a1.f6_Key.getD 26 0), v8 (a1.f6_Key.getD 27 0), v8 (a1.f6_Key.getD 28 0), v8 (a1.f6_Key.getD 29 0), v8 (a1.f6_Key.getD 30 0), v8 (a1.f6_Key.getD 31 0), vi a1.f7_Depth], .cells 46 [.p (.sl 2 S_F eS_F [])]]) (by kernel_rfl) (by kernel_rfl) (by kernel_rfl) (by kernel_rfl) (by kernel_rfl) ?_
        refine qt ?_
        obtain rfl := Option.some.inj H
        exact ⟨.tup [.p (.agg [(.sl 2 S_F eS_F [])]), vi x6], by kernel_rfl, rfl⟩
      · rw [if_neg (by rw [c]; exact Bool.false_ne_true)] at H
        clear c
        refine qw [4, 7] rfl ?_
        refine qk ?_
        refine qs ?_
        refine qg ?_
        refine qm T_ok 1 (k := 1) (by kernel_rfl) (by kernel_rfl) (by kernel_rfl) ?_
        refine xs T_ok (u := 46) (b := 2) (off := 0) (vs := [.p (.sl 2 S_F eS_F x7.f0_files)]) (cs := [.p (.sl 2 S_F eS_F [])]) (ti := ti46) rfl rfl rfl rfl (by kernel_rfl) (by kernel_rfl) (by kernel_rfl) (by kernel_rfl) (by kernel_rfl) (by kernel_rfl) rfl ?_
        refine qz T_ok 1 [4, 5] 3 (E2 := [(4, [], .ptr 2 0), (5, [], vi 0)]) (h1 := [.cells 46 [.p (.sl 2 S_F eS_F a0.f0_files)], .cells 57 [vi a1.f0_Kind, vs a1.f1_Path, vs a1.f2_To, vi a1.f3_At, .p (.sl 1 ByteArray eS a1.f4_Old), .p (.sl 1 ByteArray eS a1.f5_New), v8 (a1.f6_Key.getD 0 0), v8 (a1.f6_Key.getD 1 0), v8 (a1.f6_Key.getD 2 0), v8 (a1.f6_Key.getD 3 0), v8 (a1.f6_Key.getD 4 0), v8 (a1.f6_Key.getD 5 0), v8 (a1.f6_Key.getD 6 0), v8 (a1.f6_Key.getD 7 0), v8 (a1.f6_Key.getD 8 0), v8 (a1.f6_Key.getD 9 0), v8 (a1.f6_Key.getD 10 0), v8 (a1.f6_Key.getD 11 0), v8 (a1.f6_Key.getD 12 0), v8 (a1.f6_Key.getD 13 0), v8 (a1.f6_Key.getD 14 0), v8 (a1.f6_Key.getD 15 0), v8 (a1.f6_Key.getD 16 0), v8 (a1.f6_Key.getD 17 0), v8 (a1.f6_Key.getD 18 0), v8 (a1.f6_Key.getD 19 0), v8 (a1.f6_Key.getD 20 0), v8 (a1.f6_Key.getD 21 0), v8 (a1.f6_Key.getD 22 0), v8 (a1.f6_Key.getD 23 0), v8 (a1.f6_Key.getD 24 0), v8 (a1.f6_Key.getD 25 0), v8 (a1.f6_Key.getD 26 0), v8 (a1.f6_Key.getD 27 0), v8 (a1.f6_Key.getD 28 0), v8 (a1.f6_Key.getD 29 0), v8 (a1.f6_Key.getD 30 0), v8 (a1.f6_Key.getD 31 0), vi a1.f7_Depth], .cells 46 [.p (.sl 2 S_F eS_F x7.f0_files)]]) (by kernel_rfl) (by kernel_rfl) (by kernel_rfl) (by kernel_rfl) (by kernel_rfl) ?_
        refine qt ?_
        obtain rfl := Option.some.inj H
        exact ⟨.tup [.p (.agg [(.sl 2 S_F eS_F x7.f0_files)]), vi 0], by kernel_rfl, rfl⟩
/-! ### (quitclaim/tree.Tree).All: function 32 -/
def tree_Tree_All.l0 (a0 : S_files) (a1 : List S_Op) : Nat → Int → S_files → Option (S_files × Int × Int)
  | 0, _, _ => none
  | k + 1, x3, x4 => (if x3 < (a1.length : Int) then ((ix a1 x3).bind fun x7 => ((tree_Tree_Apply.f k x4 x7).bind fun x8 => (if (!decide (x8.2 = 0)) = true then some (a0, x3, x8.2) else tree_Tree_All.l0 a0 a1 k (w64 (x3 + 1)) x8.1))) else some (x4, (a1.length : Int), 0))
def tree_Tree_All.f (k : Nat) (a0 : S_files) (a1 : List S_Op) : Option (S_files × Int × Int) := tree_Tree_All.l0 a0 a1 k 0 a0
theorem tree_Tree_All.ok (k : Nat) (a0 : S_files) (a1 : List S_Op) (r : S_files × Int × Int) (H : tree_Tree_All.f k a0 a1 = some r) : PF Tryd.prog 32 [.p (.agg [(.sl 2 S_F eS_F a0.f0_files)]), .p (.sl 39 S_Op eS_Op a1)] (.tup [.p (.agg [(.sl 2 S_F eS_F r.1.f0_files)]), vi r.2.1, vi r.2.2]) := by
  refine PF_mk T_ok Tryd.func32 rfl (by kernel_rfl) (by kernel_rfl) ?_
  unfold tree_Tree_All.f at H
  refine qs ?_
  refine qg ?_
  refine xb (T := T) (j := 0) (cs := [.p (.sl 2 S_F eS_F a0.f0_files)]) rfl rfl rfl rfl (by kernel_rfl) (by kernel_rfl) rfl ?_
  refine xa T_ok (j := 1) (ti := ti46) rfl rfl rfl rfl (by kernel_rfl) (by kernel_rfl) rfl ?_
  refine qz T_ok 2 [1, 2, 4] 2 (E2 := [(1, [], .p (.sl 39 S_Op eS_Op a1)), (2, [], .ptr 0 0), (4, [], .ptr 1 0)]) (h1 := [.cells 46 [.p (.sl 2 S_F eS_F a0.f0_files)], .cells 46 [.p (.sl 2 S_F eS_F [])]]) (by kernel_rfl) (by kernel_rfl) (by kernel_rfl) (by kernel_rfl) (by kernel_rfl) ?_
  refine qs ?_
  refine qg ?_
  refine qm T_ok 1 (k := 1) (by kernel_rfl) (by kernel_rfl) (by kernel_rfl) ?_
  refine xa T_ok (j := 2) (ti := ti46) rfl rfl rfl rfl (by kernel_rfl) (by kernel_rfl) rfl ?_
  refine xs T_ok (u := 46) (b := 2) (off := 0) (vs := [.p (.sl 2 S_F eS_F a0.f0_files)]) (cs := [.p (.sl 2 S_F eS_F [])]) (ti := ti46) rfl rfl rfl rfl (by kernel_rfl) (by kernel_rfl) (by kernel_rfl) (by kernel_rfl) (by kernel_rfl) (by kernel_rfl) rfl ?_
  refine qz T_ok 0 [1, 2, 4, 7] 3 (E2 := [(1, [], .p (.sl 39 S_Op eS_Op a1)), (2, [], .ptr 0 0), (4, [], .ptr 1 0), (7, [], .ptr 2 0)]) (h1 := [.cells 46 [.p (.sl 2 S_F eS_F a0.f0_files)], .cells 46 [.p (.sl 2 S_F eS_F [])], .cells 46 [.p (.sl 2 S_F eS_F a0.f0_files)]]) (by kernel_rfl) (by kernel_rfl) (by kernel_rfl) (by kernel_rfl) (by kernel_rfl) ?_
  refine qs ?_
  refine qs ?_
  refine qr T_ok [1, 2, 4, 7, 13, 14, 15] (E2 := [(1, [], .p (.sl 39 S_Op eS_Op a1)), (2, [], .ptr 0 0), (4, [], .ptr 1 0), (7, [], .ptr 2 0), (13, [], .p (.sl 39 S_Op eS_Op a1)), (14, [], vi (a1.length : Int)), (15, [], vi 0)]) (by kernel_rfl) ?_
  refine qb ?_
  refine qp (fun k E h => ∃ x3 : Int, ∃ x4 : S_files, E = [(1, [], .p (.sl 39 S_Op eS_Op a1)), (2, [], .ptr 0 0), (4, [], .ptr 1 0), (7, [], .ptr 2 0), (13, [], .p (.sl 39 S_Op eS_Op a1)), (14, [], vi (a1.length : Int)), (15, [], vi x3)] ∧ h = [.cells 46 [.p (.sl 2 S_F eS_F a0.f0_files)], .cells 46 [.p (.sl 2 S_F eS_F [])], .cells 46 [.p (.sl 2 S_F eS_F x4.f0_files)]] ∧ tree_Tree_All.l0 a0 a1 k x3 x4 = some r) k ⟨0, a0, rfl, rfl, H⟩ ?_
  clear H
  rintro k E h ⟨x3, x4, rfl, rfl, H⟩
  cases k with
  | zero => exact nomatch (show none = some r from H)
  | succ k =>
    rw [tree_Tree_All.l0] at H
    refine qs ?_
    refine qr T_ok [1, 2, 4, 7, 13, 14, 15, 16] (E2 := [(1, [], .p (.sl 39 S_Op eS_Op a1)), (2, [], .ptr 0 0), (4, [], .ptr 1 0), (7, [], .ptr 2 0), (13, [], .p (.sl 39 S_Op eS_Op a1)), (14, [], vi (a1.length : Int)), (15, [], vi x3), (16, [], vb (decide (x3 < (a1.length : Int))))]) (by kernel_rfl) ?_
    refine qs ?_
    refine qi (t := decide (x3 < (a1.length : Int))) (by kernel_rfl) (fun c => ?_) (fun c => ?_)
    · rw [if_pos (of_decide_eq_true c)] at H
      clear c
      refine qw [1, 2, 4, 7, 13, 14, 15] rfl ?_
      refine qk ?_
      refine qs ?_
      refine qb ?_
      refine qs ?_
      refine qg ?_
      refine qm T_ok 1 (k := 1) (by kernel_rfl) (by kernel_rfl) (by kernel_rfl) ?_
      obtain ⟨x7, hx, H⟩ := bd H
      refine qy rfl (zi T_ok .i64 (enc := eS_Op) (l := a1) (e := 57) (n := 39) (ei := ti57) (sa := (.p (.sl 39 S_Op eS_Op a1))) hx rfl (by kernel_rfl) (by kernel_rfl) rfl (by kernel_rfl) (by kernel_rfl) (by kernel_rfl)) rfl (by kernel_rfl) rfl ?_
      clear hx
      refine qm T_ok 1 (k := 3) (by kernel_rfl) (by kernel_rfl) (by kernel_rfl) ?_
      refine xa T_ok (j := 3) (ti := ti57) rfl rfl rfl rfl (by kernel_rfl) (by kernel_rfl) rfl ?_
      refine qm T_ok 1 (k := 5) (by kernel_rfl) (by kernel_rfl) (by kernel_rfl) ?_
      refine xs T_ok (u := 57) (b := 3) (off := 0) (vs := [vi x7.f0_Kind, vs x7.f1_Path, vs x7.f2_To, vi x7.f3_At, .p (.sl 1 ByteArray eS x7.f4_Old), .p (.sl 1 ByteArray eS x7.f5_New), v8 (x7.f6_Key.getD 0 0), v8 (x7.f6_Key.getD 1 0), v8 (x7.f6_Key.getD 2 0), v8 (x7.f6_Key.getD 3 0), v8 (x7.f6_Key.getD 4 0), v8 (x7.f6_Key.getD 5 0), v8 (x7.f6_Key.getD 6 0), v8 (x7.f6_Key.getD 7 0), v8 (x7.f6_Key.getD 8 0), v8 (x7.f6_Key.getD 9 0), v8 (x7.f6_Key.getD 10 0), v8 (x7.f6_Key.getD 11 0), v8 (x7.f6_Key.getD 12 0), v8 (x7.f6_Key.getD 13 0), v8 (x7.f6_Key.getD 14 0), v8 (x7.f6_Key.getD 15 0), v8 (x7.f6_Key.getD 16 0), v8 (x7.f6_Key.getD 17 0), v8 (x7.f6_Key.getD 18 0), v8 (x7.f6_Key.getD 19 0), v8 (x7.f6_Key.getD 20 0), v8 (x7.f6_Key.getD 21 0), v8 (x7.f6_Key.getD 22 0), v8 (x7.f6_Key.getD 23 0), v8 (x7.f6_Key.getD 24 0), v8 (x7.f6_Key.getD 25 0), v8 (x7.f6_Key.getD 26 0), v8 (x7.f6_Key.getD 27 0), v8 (x7.f6_Key.getD 28 0), v8 (x7.f6_Key.getD 29 0), v8 (x7.f6_Key.getD 30 0), v8 (x7.f6_Key.getD 31 0), vi x7.f7_Depth]) (cs := [vi 0, vs ⟨#[]⟩, vs ⟨#[]⟩, vi 0, .p (.sl 1 ByteArray eS []), .p (.sl 1 ByteArray eS []), v8 0, v8 0, v8 0, v8 0, v8 0, v8 0, v8 0, v8 0, v8 0, v8 0, v8 0, v8 0, v8 0, v8 0, v8 0, v8 0, v8 0, v8 0, v8 0, v8 0, v8 0, v8 0, v8 0, v8 0, v8 0, v8 0, v8 0, v8 0, v8 0, v8 0, v8 0, v8 0, vi 0]) (ti := ti57) rfl rfl rfl rfl (by kernel_rfl) (by kernel_rfl) (by kernel_rfl) (by kernel_rfl) (by kernel_rfl) (by kernel_rfl) rfl ?_
      refine qz T_ok 0 [1, 2, 4, 7, 8, 9, 13, 14, 15] 4 (E2 := [(1, [], .p (.sl 39 S_Op eS_Op a1)), (2, [], .ptr 0 0), (4, [], .ptr 1 0), (7, [], .ptr 2 0), (8, [], vi x3), (9, [], .ptr 3 0), (13, [], .p (.sl 39 S_Op eS_Op a1)), (14, [], vi (a1.length : Int)), (15, [], vi x3)]) (h1 := [.cells 46 [.p (.sl 2 S_F eS_F a0.f0_files)], .cells 46 [.p (.sl 2 S_F eS_F [])], .cells 46 [.p (.sl 2 S_F eS_F x4.f0_files)], .cells 57 [vi x7.f0_Kind, vs x7.f1_Path, vs x7.f2_To, vi x7.f3_At, .p (.sl 1 ByteArray eS x7.f4_Old), .p (.sl 1 ByteArray eS x7.f5_New), v8 (x7.f6_Key.getD 0 0), v8 (x7.f6_Key.getD 1 0), v8 (x7.f6_Key.getD 2 0), v8 (x7.f6_Key.getD 3 0), v8 (x7.f6_Key.getD 4 0), v8 (x7.f6_Key.getD 5 0), v8 (x7.f6_Key.getD 6 0), v8 (x7.f6_Key.getD 7 0), v8 (x7.f6_Key.getD 8 0), v8 (x7.f6_Key.getD 9 0), v8 (x7.f6_Key.getD 10 0), v8 (x7.f6_Key.getD 11 0), v8 (x7.f6_Key.getD 12 0), v8 (x7.f6_Key.getD 13 0), v8 (x7.f6_Key.getD 14 0), v8 (x7.f6_Key.getD 15 0), v8 (x7.f6_Key.getD 16 0), v8 (x7.f6_Key.getD 17 0), v8 (x7.f6_Key.getD 18 0), v8 (x7.f6_Key.getD 19 0), v8 (x7.f6_Key.getD 20 0), v8 (x7.f6_Key.getD 21 0), v8 (x7.f6_Key.getD 22 0), v8 (x7.f6_Key.getD 23 0), v8 (x7.f6_Key.getD 24 0), v8 (x7.f6_Key.getD 25 0), v8 (x7.f6_Key.getD 26 0), v8 (x7.f6_Key.getD 27 0), v8 (x7.f6_Key.getD 28 0), v8 (x7.f6_Key.getD 29 0), v8 (x7.f6_Key.getD 30 0), v8 (x7.f6_Key.getD 31 0), vi x7.f7_Depth]]) (by kernel_rfl) (by kernel_rfl) (by kernel_rfl) (by kernel_rfl) (by kernel_rfl) ?_
      refine qs ?_
      refine qg ?_
      refine qm T_ok 2 (k := 2) (by kernel_rfl) (by kernel_rfl) (by kernel_rfl) ?_
      obtain ⟨x8, hx, H⟩ := bd H
      refine qy rfl (zc (T := T) (tree_Tree_Apply.ok k x4 x7 _ hx) Tryd.func58 rfl rfl (caps := []) (by kernel_rfl) (by kernel_rfl) (by kernel_rfl) (by kernel_rfl) (by kernel_rfl) (by kernel_rfl)) rfl (by kernel_rfl) rfl ?_
      clear hx
      refine qm T_ok 3 (k := 6) (by kernel_rfl) (by kernel_rfl) (by kernel_rfl) ?_
      refine xa T_ok (j := 4) (ti := ti46) rfl rfl rfl rfl (by kernel_rfl) (by kernel_rfl) rfl ?_
      refine xs T_ok (u := 46) (b := 4) (off := 0) (vs := [.p (.sl 2 S_F eS_F x8.1.f0_files)]) (cs := [.p (.sl 2 S_F eS_F [])]) (ti := ti46) rfl rfl rfl rfl (by kernel_rfl) (by kernel_rfl) (by kernel_rfl) (by kernel_rfl) (by kernel_rfl) (by kernel_rfl) rfl ?_
      refine qz T_ok 1 [1, 2, 4, 7, 8, 10, 11, 13, 14, 15] 5 (E2 := [(1, [], .p (.sl 39 S_Op eS_Op a1)), (2, [], .ptr 0 0), (4, [], .ptr 1 0), (7, [], .ptr 2 0), (8, [], vi x3), (10, [], .ptr 4 0), (11, [], vi x8.2), (13, [], .p (.sl 39 S_Op eS_Op a1)), (14, [], vi (a1.length : Int)), (15, [], vi x3)]) (h1 := [.cells 46 [.p (.sl 2 S_F eS_F a0.f0_files)], .cells 46 [.p (.sl 2 S_F eS_F [])], .cells 46 [.p (.sl 2 S_F eS_F x4.f0_files)], .cells 57 [vi x7.f0_Kind, vs x7.f1_Path, vs x7.f2_To, vi x7.f3_At, .p (.sl 1 ByteArray eS x7.f4_Old), .p (.sl 1 ByteArray eS x7.f5_New), v8 (x7.f6_Key.getD 0 0), v8 (x7.f6_Key.getD 1 0), v8 (x7.f6_Key.getD 2 0), v8 (x7.f6_Key.getD 3 0), v8 (x7.f6_Key.getD 4 0), v8 (x7.f6_Key.getD 5 0), v8 (x7.f6_Key.getD 6 0), v8 (x7.f6_Key.getD 7 0), v8 (x7.f6_Key.getD 8 0), v8 (x7.f6_Key.getD 9 0), v8 (x7.f6_Key.getD 10 0), v8 (x7.f6_Key.getD 11 0), v8 (x7.f6_Key.getD 12 0), v8 (x7.f6_Key.getD 13 0), v8 (x7.f6_Key.getD 14 0), v8 (x7.f6_Key.getD 15 0), v8 (x7.f6_Key.getD 16 0), v8 (x7.f6_Key.getD 17 0), v8 (x7.f6_Key.getD 18 0), v8 (x7.f6_Key.getD 19 0), v8 (x7.f6_Key.getD 20 0), v8 (x7.f6_Key.getD 21 0), v8 (x7.f6_Key.getD 22 0), v8 (x7.f6_Key.getD 23 0), v8 (x7.f6_Key.getD 24 0), v8 (x7.f6_Key.getD 25 0), v8 (x7.f6_Key.getD 26 0), v8 (x7.f6_Key.getD 27 0), v8 (x7.f6_Key.getD 28 0), v8 (x7.f6_Key.getD 29 0), v8 (x7.f6_Key.getD 30 0), v8 (x7.f6_Key.getD 31 0), vi x7.f7_Depth], .cells 46 [.p (.sl 2 S_F eS_F x8.1.f0_files)]]) (by kernel_rfl) (by kernel_rfl) (by kernel_rfl) (by kernel_rfl) (by kernel_rfl) ?_
      refine qs ?_
      refine qs ?_
      refine qr T_ok [1, 2, 4, 7, 8, 10, 11, 13, 14, 15, 27] (E2 := [(1, [], .p (.sl 39 S_Op eS_Op a1)), (2, [], .ptr 0 0), (4, [], .ptr 1 0), (7, [], .ptr 2 0), (8, [], vi x3), (10, [], .ptr 4 0), (11, [], vi x8.2), (13, [], .p (.sl 39 S_Op eS_Op a1)), (14, [], vi (a1.length : Int)), (15, [], vi x3), (27, [], vb (!decide (x8.2 = 0)))]) (by kernel_rfl) ?_
      refine qi (t := !decide (x8.2 = 0)) (by kernel_rfl) (fun c => ?_) (fun c => ?_)
      · rw [if_pos c] at H
        clear c
        refine qs ?_
        refine qg ?_
        refine qm T_ok 3 (k := 3) (by kernel_rfl) (by kernel_rfl) (by kernel_rfl) ?_
        refine xs T_ok (u := 46) (b := 1) (off := 0) (vs := [.p (.sl 2 S_F eS_F a0.f0_files)]) (cs := [.p (.sl 2 S_F eS_F [])]) (ti := ti46) rfl rfl rfl rfl (by kernel_rfl) (by kernel_rfl) (by kernel_rfl) (by kernel_rfl) (by kernel_rfl) (by kernel_rfl) rfl ?_
        refine qz T_ok 2 [4, 5, 6] 2 (E2 := [(4, [], .ptr 1 0), (5, [], vi x3), (6, [], vi x8.2)]) (h1 := [.cells 46 [.p (.sl 2 S_F eS_F a0.f0_files)], .cells 46 [.p (.sl 2 S_F eS_F a0.f0_files)]]) (by kernel_rfl) (by kernel_rfl) (by kernel_rfl) (by kernel_rfl) (by kernel_rfl) ?_
        refine qt ?_
        obtain rfl := Option.some.inj H
        exact ⟨.tup [.p (.agg [(.sl 2 S_F eS_F a0.f0_files)]), vi x3, vi x8.2], by kernel_rfl, rfl⟩
      · rw [if_neg (by rw [c]; exact Bool.false_ne_true)] at H
        clear c
        refine qw [1, 2, 4, 7, 10, 13, 14, 15] rfl ?_
        refine qk ?_
        refine qg ?_
        refine qm T_ok 1 (k := 1) (by kernel_rfl) (by kernel_rfl) (by kernel_rfl) ?_
        refine xs T_ok (u := 46) (b := 2) (off := 0) (vs := [.p (.sl 2 S_F eS_F x8.1.f0_files)]) (cs := [.p (.sl 2 S_F eS_F x4.f0_files)]) (ti := ti46) rfl rfl rfl rfl (by kernel_rfl) (by kernel_rfl) (by kernel_rfl) (by kernel_rfl) (by kernel_rfl) (by kernel_rfl) rfl ?_
        refine qz T_ok 0 [1, 2, 4, 7, 13, 14, 15] 3 (E2 := [(1, [], .p (.sl 39 S_Op eS_Op a1)), (2, [], .ptr 0 0), (4, [], .ptr 1 0), (7, [], .ptr 2 0), (13, [], .p (.sl 39 S_Op eS_Op a1)), (14, [], vi (a1.length : Int)), (15, [], vi x3)]) (h1 := [.cells 46 [.p (.sl 2 S_F eS_F a0.f0_files)], .cells 46 [.p (.sl 2 S_F eS_F [])], .cells 46 [.p (.sl 2 S_F eS_F x8.1.f0_files)]]) (by kernel_rfl) (by kernel_rfl) (by kernel_rfl) (by kernel_rfl) (by kernel_rfl) ?_
        refine qr T_ok [1, 2, 4, 7, 13, 14, 15] (E2 := [(1, [], .p (.sl 39 S_Op eS_Op a1)), (2, [], .ptr 0 0), (4, [], .ptr 1 0), (7, [], .ptr 2 0), (13, [], .p (.sl 39 S_Op eS_Op a1)), (14, [], vi (a1.length : Int)), (15, [], vi (w64 (x3 + 1)))]) (by kernel_rfl) ?_
        exact ⟨_, Nat.lt_succ_self _, w64 (x3 + 1), x8.1, rfl, rfl, H⟩
    · rw [if_neg (of_decide_eq_false c)] at H
      clear c
      refine qw [1, 4, 7] rfl ?_
      refine qx ?_
      refine qs ?_
      refine qg ?_
      refine qm T_ok 3 (k := 3) (by kernel_rfl) (by kernel_rfl) (by kernel_rfl) ?_
      refine xs T_ok (u := 46) (b := 1) (off := 0) (vs := [.p (.sl 2 S_F eS_F x4.f0_files)]) (cs := [.p (.sl 2 S_F eS_F [])]) (ti := ti46) rfl rfl rfl rfl (by kernel_rfl) (by kernel_rfl) (by kernel_rfl) (by kernel_rfl) (by kernel_rfl) (by kernel_rfl) rfl ?_
      refine qz T_ok 2 [4, 5, 6] 2 (E2 := [(4, [], .ptr 1 0), (5, [], vi (a1.length : Int)), (6, [], vi 0)]) (h1 := [.cells 46 [.p (.sl 2 S_F eS_F a0.f0_files)], .cells 46 [.p (.sl 2 S_F eS_F x4.f0_files)]]) (by kernel_rfl) (by kernel_rfl) (by kernel_rfl) (by kernel_rfl) (by kernel_rfl) ?_
      refine qt ?_
      obtain rfl := Option.some.inj H
      exact ⟨.tup [.p (.agg [(.sl 2 S_F eS_F x4.f0_files)]), vi (a1.length : Int), vi 0], by kernel_rfl, rfl⟩
/-! ### quitclaim/quitclaimlaw14.awake: function 31 -/
def quitclaimlaw14_awake.f (k : Nat)  : Option Bool := ((tree_Tree_All.f k (⟨[]⟩ : S_files) [(⟨1, ⟨#[97]⟩, ⟨#[]⟩, 0, [], [], [0, 0, 0, 0, 0, 0, 0, 0, 0, 0, 0, 0, 0, 0, 0, 0, 0, 0, 0, 0, 0, 0, 0, 0, 0, 0, 0, 0, 0, 0, 0, 0], 0⟩ : S_Op), (⟨3, ⟨#[97]⟩, ⟨#[]⟩, 0, [], [⟨#[120]⟩], [0, 0, 0, 0, 0, 0, 0, 0, 0, 0, 0, 0, 0, 0, 0, 0, 0, 0, 0, 0, 0, 0, 0, 0, 0, 0, 0, 0, 0, 0, 0, 0], 0⟩ : S_Op)]).bind fun x1 => ((tree_Tree_Get.f k x1.1 ⟨#[97]⟩).bind fun x2 => ((gd (((decide (x1.2.2 = 0) && decide (x1.2.1 = 2)) && x2.2) && decide ((x2.1.length : Int) = 1)) (ix x2.1 0)).bind fun x3 => some ((((decide (x1.2.2 = 0) && decide (x1.2.1 = 2)) && x2.2) && decide ((x2.1.length : Int) = 1)) && decide (x3 = ⟨#[120]⟩)))))
theorem quitclaimlaw14_awake.ok (k : Nat)  (r : Bool) (H : quitclaimlaw14_awake.f k = some r) : PF Tryd.prog 31 [] (vb r) := by
  refine PF_mk T_ok Tryd.func31 rfl (by kernel_rfl) (by kernel_rfl) ?_
  unfold quitclaimlaw14_awake.f at H
  refine qs ?_
  refine qr T_ok [] (E2 := []) (by kernel_rfl) ?_
  refine qs ?_
  refine qg ?_
  refine qm T_ok 2 (k := 2) (by kernel_rfl) (by kernel_rfl) (by kernel_rfl) ?_
  refine qy rfl (ze T_ok (e := 9) (n := 1) eS ([⟨#[120]⟩] : List ByteArray) rfl (by kernel_rfl)) rfl (by kernel_rfl) rfl ?_
  refine qm T_ok 1 (k := 4) (by kernel_rfl) (by kernel_rfl) (by kernel_rfl) ?_
  refine qy rfl (ze T_ok (e := 57) (n := 39) eS_Op ([(⟨1, ⟨#[97]⟩, ⟨#[]⟩, 0, [], [], [0, 0, 0, 0, 0, 0, 0, 0, 0, 0, 0, 0, 0, 0, 0, 0, 0, 0, 0, 0, 0, 0, 0, 0, 0, 0, 0, 0, 0, 0, 0, 0], 0⟩ : S_Op), (⟨3, ⟨#[97]⟩, ⟨#[]⟩, 0, [], [⟨#[120]⟩], [0, 0, 0, 0, 0, 0, 0, 0, 0, 0, 0, 0, 0, 0, 0, 0, 0, 0, 0, 0, 0, 0, 0, 0, 0, 0, 0, 0, 0, 0, 0, 0], 0⟩ : S_Op)] : List S_Op) rfl (by kernel_rfl)) rfl (by kernel_rfl) rfl ?_
  obtain ⟨x1, hx, H⟩ := bd H
  refine qy rfl (zc (T := T) (tree_Tree_All.ok k (⟨[]⟩ : S_files) [(⟨1, ⟨#[97]⟩, ⟨#[]⟩, 0, [], [], [0, 0, 0, 0, 0, 0, 0, 0, 0, 0, 0, 0, 0, 0, 0, 0, 0, 0, 0, 0, 0, 0, 0, 0, 0, 0, 0, 0, 0, 0, 0, 0], 0⟩ : S_Op), (⟨3, ⟨#[97]⟩, ⟨#[]⟩, 0, [], [⟨#[120]⟩], [0, 0, 0, 0, 0, 0, 0, 0, 0, 0, 0, 0, 0, 0, 0, 0, 0, 0, 0, 0, 0, 0, 0, 0, 0, 0, 0, 0, 0, 0, 0, 0], 0⟩ : S_Op)] _ hx) Tryd.func32 rfl rfl (caps := []) (by kernel_rfl) (by kernel_rfl) (by kernel_rfl) (by kernel_rfl) (by kernel_rfl) (by kernel_rfl)) rfl (by kernel_rfl) rfl ?_
  clear hx
  refine qm T_ok 4 (k := 10) (by kernel_rfl) (by kernel_rfl) (by kernel_rfl) ?_
  refine xa T_ok (j := 0) (ti := ti46) rfl rfl rfl rfl (by kernel_rfl) (by kernel_rfl) rfl ?_
  refine xs T_ok (u := 46) (b := 0) (off := 0) (vs := [.p (.sl 2 S_F eS_F x1.1.f0_files)]) (cs := [.p (.sl 2 S_F eS_F [])]) (ti := ti46) rfl rfl rfl rfl (by kernel_rfl) (by kernel_rfl) (by kernel_rfl) (by kernel_rfl) (by kernel_rfl) (by kernel_rfl) rfl ?_
  refine qz T_ok 2 [1, 2, 3] 1 (E2 := [(1, [], .ptr 0 0), (2, [], vi x1.2.1), (3, [], vi x1.2.2)]) (h1 := [.cells 46 [.p (.sl 2 S_F eS_F x1.1.f0_files)]]) (by kernel_rfl) (by kernel_rfl) (by kernel_rfl) (by kernel_rfl) (by kernel_rfl) ?_
  refine qs ?_
  refine qg ?_
  refine qm T_ok 1 (k := 1) (by kernel_rfl) (by kernel_rfl) (by kernel_rfl) ?_
  obtain ⟨x2, hx, H⟩ := bd H
  refine qy rfl (zc (T := T) (tree_Tree_Get.ok k x1.1 ⟨#[97]⟩ _ hx) Tryd.func57 rfl rfl (caps := []) (by kernel_rfl) (by kernel_rfl) (by kernel_rfl) (by kernel_rfl) (by kernel_rfl) (by kernel_rfl)) rfl (by kernel_rfl) rfl ?_
  clear hx
  refine qz T_ok 5 [2, 3, 4, 5] 0 (E2 := [(2, [], vi x1.2.1), (3, [], vi x1.2.2), (4, [], .p (.sl 1 ByteArray eS x2.1)), (5, [], vb x2.2)]) (h1 := []) (by kernel_rfl) (by kernel_rfl) (by kernel_rfl) (by kernel_rfl) (by kernel_rfl) ?_
  refine qs ?_
  refine qg ?_
  refine qm T_ok 16 (k := 16) (by kernel_rfl) (by kernel_rfl) (by kernel_rfl) ?_
  obtain ⟨x3, hx, H⟩ := bd H
  refine qyg rfl (tg := []) (Yld.under (u := 35) (b := true) (t := (((decide (x1.2.2 = 0) && decide (x1.2.1 = 2)) && x2.2) && decide ((x2.1.length : Int) = 1))) (by kernel_rfl) (by simp) fun g0_ => (zi T_ok .i64 (enc := eS) (l := x2.1) (e := 9) (n := 1) (ei := ti9) (sa := (.p (.sl 1 ByteArray eS x2.1))) (gd1 hx g0_) rfl (by kernel_rfl) (by kernel_rfl) rfl (by kernel_rfl) (by kernel_rfl) (by kernel_rfl))) rfl rfl (by kernel_rfl) (by kernel_rfl) rfl ?_
  clear hx
  refine qz T_ok 4 [0] 0 (E2 := [(0, [], vb ((((decide (x1.2.2 = 0) && decide (x1.2.1 = 2)) && x2.2) && decide ((x2.1.length : Int) = 1)) && decide (x3 = ⟨#[120]⟩)))]) (h1 := []) (by kernel_rfl) (by kernel_rfl) (by kernel_rfl) (by kernel_rfl) (by kernel_rfl) ?_
  refine qt ?_
  obtain rfl := Option.some.inj H
  exact ⟨vb ((((decide (x1.2.2 = 0) && decide (x1.2.1 = 2)) && x2.2) && decide ((x2.1.length : Int) = 1)) && decide (x3 = ⟨#[120]⟩)), by kernel_rfl, rfl⟩
/-! ### quitclaim/quitclaimref10.Split: function 20 -/
def quitclaimref10_Split.l0 (a0 : ByteArray) : Nat → (List ByteArray) → Int → Int → Option (List ByteArray)
  | 0, _, _, _ => none
  | k + 1, x6, x7, x8 => (if x8 < (a0.size : Int) then ((bx a0 x8).bind fun x14 => (if x14 = 47 then ((sub a0 x7 x8).bind fun x15 => ((app 16 x6 [x15]).bind fun x16 => quitclaimref10_Split.l0 a0 k x16 (w64 (x8 + 1)) (w64 (x8 + 1)))) else quitclaimref10_Split.l0 a0 k x6 x7 (w64 (x8 + 1)))) else ((sub a0 x7 (a0.size : Int)).bind fun x17 => ((app 16 x6 [x17]).bind fun x18 => some x18)))
def quitclaimref10_Split.f (k : Nat) (a0 : ByteArray) : Option (List ByteArray) := quitclaimref10_Split.l0 a0 k [] 0 0
theorem quitclaimref10_Split.ok (k : Nat) (a0 : ByteArray) (r : List ByteArray) (H : quitclaimref10_Split.f k a0 = some r) : PF Tryd.prog 20 [vs a0] (.p (.sl 1 ByteArray eS r)) := by
  refine PF_mk T_ok Tryd.func20 rfl (by kernel_rfl) (by kernel_rfl) ?_
  unfold quitclaimref10_Split.f at H
  refine qs ?_
  refine qr T_ok [0] (E2 := [(0, [], vs a0)]) (by kernel_rfl) ?_
  refine qs ?_
  refine qg ?_
  refine xl T_ok (e := 9) (n := 1) (j := 0) eS ([]) rfl rfl rfl rfl (by kernel_rfl) (by kernel_rfl) rfl ?_
  refine qz T_ok 1 [0, 3] 1 (E2 := [(0, [], vs a0), (3, [], .own 9 1 ByteArray eS [] 0)]) (h1 := [.tail]) (by kernel_rfl) (by kernel_rfl) (by kernel_rfl) (by kernel_rfl) (by kernel_rfl) ?_
  refine qs ?_
  refine qr T_ok [0, 3, 4] (E2 := [(0, [], vs a0), (3, [], .own 9 1 ByteArray eS [] 0), (4, [], vi 0)]) (by kernel_rfl) ?_
  refine qs ?_
  refine qs ?_
  refine qr T_ok [0, 3, 4, 5] (E2 := [(0, [], vs a0), (3, [], .own 9 1 ByteArray eS [] 0), (4, [], vi 0), (5, [], vi 0)]) (by kernel_rfl) ?_
  refine qb ?_
  refine qp (fun k E h => ∃ x6 : List ByteArray, ∃ x7 : Int, ∃ x8 : Int, E = [(0, [], vs a0), (3, [], .own 9 1 ByteArray eS x6 0), (4, [], vi x7), (5, [], vi x8)] ∧ h = [.tail] ∧ quitclaimref10_Split.l0 a0 k x6 x7 x8 = some r) k ⟨[], 0, 0, rfl, rfl, H⟩ ?_
  clear H
  rintro k E h ⟨x6, x7, x8, rfl, rfl, H⟩
  cases k with
  | zero => exact nomatch (show none = some r from H)
  | succ k =>
    rw [quitclaimref10_Split.l0] at H
    refine qs ?_
    refine qs ?_
    refine qr T_ok [0, 3, 4, 5, 10] (E2 := [(0, [], vs a0), (3, [], .own 9 1 ByteArray eS x6 0), (4, [], vi x7), (5, [], vi x8), (10, [], vb (decide (x8 < (a0.size : Int))))]) (by kernel_rfl) ?_
    refine qi (t := decide (x8 < (a0.size : Int))) (by kernel_rfl) (fun c => ?_) (fun c => ?_)
    · rw [if_pos (of_decide_eq_true c)] at H
      clear c
      refine qw [0, 3, 4, 5] rfl ?_
      refine qk ?_
      refine qs ?_
      refine qb ?_
      refine qs ?_
      refine qg ?_
      refine qm T_ok 2 (k := 2) (by kernel_rfl) (by kernel_rfl) (by kernel_rfl) ?_
      obtain ⟨x14, hx, H⟩ := bd H
      refine qy rfl (zb T_ok .i64 hx rfl (by kernel_rfl) (by kernel_rfl) (by kernel_rfl)) rfl (by kernel_rfl) rfl ?_
      clear hx
      refine qz T_ok 1 [0, 3, 4, 5, 16] 1 (E2 := [(0, [], vs a0), (3, [], .own 9 1 ByteArray eS x6 0), (4, [], vi x7), (5, [], vi x8), (16, [], vb (decide (x14 = 47)))]) (h1 := [.tail]) (by kernel_rfl) (by kernel_rfl) (by kernel_rfl) (by kernel_rfl) (by kernel_rfl) ?_
      refine qi (t := decide (x14 = 47)) (by kernel_rfl) (fun c => ?_) (fun c => ?_)
      · rw [if_pos (of_decide_eq_true c)] at H
        clear c
        refine qs ?_
        refine qg ?_
        refine qm T_ok 4 (k := 4) (by kernel_rfl) (by kernel_rfl) (by kernel_rfl) ?_
        obtain ⟨x15, hx, H⟩ := bd H
        refine qy rfl (zu T_ok hx rfl (by kernel_rfl) (by kernel_rfl) ⟨.i64, by kernel_rfl⟩ ⟨.i64, by kernel_rfl⟩) rfl (by kernel_rfl) rfl ?_
        clear hx
        refine qy rfl (ze T_ok (e := 9) (n := 1) eS ([x15] : List ByteArray) rfl (by kernel_rfl)) rfl (by kernel_rfl) rfl ?_
        obtain ⟨x16, hx, H⟩ := bd H
        refine xp T_ok (enc := eS) (l := x6) (m := [x15]) (e := 9) (e' := 9) (j := 0) (ei := ti9) (sy := (.p (.sl 1 ByteArray eS [x15]))) hx rfl rfl rfl rfl rfl rfl rfl (by kernel_rfl) (by kernel_rfl) (by kernel_rfl) (by kernel_rfl) (by kernel_rfl) (by kernel_rfl) (by kernel_rfl) (by kernel_rfl) (by kernel_rfl) rfl ?_
        clear hx
        refine qz T_ok 1 [0, 3, 5] 1 (E2 := [(0, [], vs a0), (3, [], .own 9 1 ByteArray eS x16 0), (5, [], vi x8)]) (h1 := [.tail]) (by kernel_rfl) (by kernel_rfl) (by kernel_rfl) (by kernel_rfl) (by kernel_rfl) ?_
        refine qr T_ok [0, 3, 4, 5] (E2 := [(0, [], vs a0), (3, [], .own 9 1 ByteArray eS x16 0), (4, [], vi (w64 (x8 + 1))), (5, [], vi x8)]) (by kernel_rfl) ?_
        refine qr T_ok [0, 3, 4, 5] (E2 := [(0, [], vs a0), (3, [], .own 9 1 ByteArray eS x16 0), (4, [], vi (w64 (x8 + 1))), (5, [], vi (w64 (x8 + 1)))]) (by kernel_rfl) ?_
        exact ⟨_, Nat.lt_succ_self _, x16, w64 (x8 + 1), w64 (x8 + 1), rfl, rfl, H⟩
      · rw [if_neg (of_decide_eq_false c)] at H
        clear c
        refine qw [0, 3, 4, 5] rfl ?_
        refine qk ?_
        refine qr T_ok [0, 3, 4, 5] (E2 := [(0, [], vs a0), (3, [], .own 9 1 ByteArray eS x6 0), (4, [], vi x7), (5, [], vi (w64 (x8 + 1)))]) (by kernel_rfl) ?_
        exact ⟨_, Nat.lt_succ_self _, x6, x7, w64 (x8 + 1), rfl, rfl, H⟩
    · rw [if_neg (of_decide_eq_false c)] at H
      clear c
      refine qw [0, 3, 4] rfl ?_
      refine qx ?_
      refine qs ?_
      refine qg ?_
      refine qm T_ok 3 (k := 3) (by kernel_rfl) (by kernel_rfl) (by kernel_rfl) ?_
      obtain ⟨x17, hx, H⟩ := bd H
      refine qy rfl (zu T_ok hx rfl (by kernel_rfl) (by kernel_rfl) ⟨.i64, by kernel_rfl⟩ rfl) rfl (by kernel_rfl) rfl ?_
      clear hx
      refine qy rfl (ze T_ok (e := 9) (n := 1) eS ([x17] : List ByteArray) rfl (by kernel_rfl)) rfl (by kernel_rfl) rfl ?_
      obtain ⟨x18, hx, H⟩ := bd H
      refine xp T_ok (enc := eS) (l := x6) (m := [x17]) (e := 9) (e' := 9) (j := 0) (ei := ti9) (sy := (.p (.sl 1 ByteArray eS [x17]))) hx rfl rfl rfl rfl rfl rfl rfl (by kernel_rfl) (by kernel_rfl) (by kernel_rfl) (by kernel_rfl) (by kernel_rfl) (by kernel_rfl) (by kernel_rfl) (by kernel_rfl) (by kernel_rfl) rfl ?_
      clear hx
      refine qz T_ok 1 [2] 1 (E2 := [(2, [], .own 9 1 ByteArray eS x18 0)]) (h1 := [.tail]) (by kernel_rfl) (by kernel_rfl) (by kernel_rfl) (by kernel_rfl) (by kernel_rfl) ?_
      refine qt ?_
      obtain rfl := Option.some.inj H
      exact ⟨.own 9 1 ByteArray eS x18 0, by kernel_rfl, rfl⟩
/-! ### quitclaim/quitclaimref10.letter: function 72 -/
def quitclaimref10_letter.l0 (a0 : Int) : Nat → Int → Option Bool
  | 0, _ => none
  | k + 1, x2 => (if x2 < ((⟨#[97, 98, 99, 100, 101, 102, 103, 104, 105, 106, 107, 108, 109, 110, 111, 112, 113, 114, 115, 116, 117, 118, 119, 120, 121, 122, 48, 49, 50, 51, 52, 53, 54, 55, 56, 57, 46, 95, 45]⟩ : ByteArray).size : Int) then ((bx ⟨#[97, 98, 99, 100, 101, 102, 103, 104, 105, 106, 107, 108, 109, 110, 111, 112, 113, 114, 115, 116, 117, 118, 119, 120, 121, 122, 48, 49, 50, 51, 52, 53, 54, 55, 56, 57, 46, 95, 45]⟩ x2).bind fun x4 => (if x4 = a0 then some true else quitclaimref10_letter.l0 a0 k (w64 (x2 + 1)))) else some false)
def quitclaimref10_letter.f (k : Nat) (a0 : Int) : Option Bool := quitclaimref10_letter.l0 a0 k 0
theorem quitclaimref10_letter.ok (k : Nat) (a0 : Int) (r : Bool) (H : quitclaimref10_letter.f k a0 = some r) : PF Tryd.prog 72 [v8 a0] (vb r) := by
  refine PF_mk T_ok Tryd.func72 rfl (by kernel_rfl) (by kernel_rfl) ?_
  unfold quitclaimref10_letter.f at H
  refine qs ?_
  refine qr T_ok [0] (E2 := [(0, [], v8 a0)]) (by kernel_rfl) ?_
  refine qs ?_
  refine qr T_ok [0, 3] (E2 := [(0, [], v8 a0), (3, [], vs ⟨#[97, 98, 99, 100, 101, 102, 103, 104, 105, 106, 107, 108, 109, 110, 111, 112, 113, 114, 115, 116, 117, 118, 119, 120, 121, 122, 48, 49, 50, 51, 52, 53, 54, 55, 56, 57, 46, 95, 45]⟩)]) (by kernel_rfl) ?_
  refine qs ?_
  refine qs ?_
  refine qr T_ok [0, 3, 4] (E2 := [(0, [], v8 a0), (3, [], vs ⟨#[97, 98, 99, 100, 101, 102, 103, 104, 105, 106, 107, 108, 109, 110, 111, 112, 113, 114, 115, 116, 117, 118, 119, 120, 121, 122, 48, 49, 50, 51, 52, 53, 54, 55, 56, 57, 46, 95, 45]⟩), (4, [], vi 0)]) (by kernel_rfl) ?_
  refine qb ?_
  refine qp (fun k E h => ∃ x2 : Int, E = [(0, [], v8 a0), (3, [], vs ⟨#[97, 98, 99, 100, 101, 102, 103, 104, 105, 106, 107, 108, 109, 110, 111, 112, 113, 114, 115, 116, 117, 118, 119, 120, 121, 122, 48, 49, 50, 51, 52, 53, 54, 55, 56, 57, 46, 95, 45]⟩), (4, [], vi x2)] ∧ h = [] ∧ quitclaimref10_letter.l0 a0 k x2 = some r) k ⟨0, rfl, rfl, H⟩ ?_
  clear H
  rintro k E h ⟨x2, rfl, rfl, H⟩
  cases k with
  | zero => exact nomatch (show none = some r from H)
  | succ k =>
    rw [quitclaimref10_letter.l0] at H
    refine qs ?_
    refine qs ?_
    refine qr T_ok [0, 3, 4, 8] (E2 := [(0, [], v8 a0), (3, [], vs ⟨#[97, 98, 99, 100, 101, 102, 103, 104, 105, 106, 107, 108, 109, 110, 111, 112, 113, 114, 115, 116, 117, 118, 119, 120, 121, 122, 48, 49, 50, 51, 52, 53, 54, 55, 56, 57, 46, 95, 45]⟩), (4, [], vi x2), (8, [], vb (decide (x2 < ((⟨#[97, 98, 99, 100, 101, 102, 103, 104, 105, 106, 107, 108, 109, 110, 111, 112, 113, 114, 115, 116, 117, 118, 119, 120, 121, 122, 48, 49, 50, 51, 52, 53, 54, 55, 56, 57, 46, 95, 45]⟩ : ByteArray).size : Int))))]) (by kernel_rfl) ?_
    refine qi (t := decide (x2 < ((⟨#[97, 98, 99, 100, 101, 102, 103, 104, 105, 106, 107, 108, 109, 110, 111, 112, 113, 114, 115, 116, 117, 118, 119, 120, 121, 122, 48, 49, 50, 51, 52, 53, 54, 55, 56, 57, 46, 95, 45]⟩ : ByteArray).size : Int))) (by kernel_rfl) (fun c => ?_) (fun c => ?_)
    · rw [if_pos (of_decide_eq_true c)] at H
      clear c
      refine qw [0, 3, 4] rfl ?_
      refine qk ?_
      refine qs ?_
      refine qb ?_
      refine qs ?_
      refine qg ?_
      refine qm T_ok 2 (k := 2) (by kernel_rfl) (by kernel_rfl) (by kernel_rfl) ?_
      obtain ⟨x4, hx, H⟩ := bd H
      refine qy rfl (zb T_ok .i64 hx rfl (by kernel_rfl) (by kernel_rfl) (by kernel_rfl)) rfl (by kernel_rfl) rfl ?_
      clear hx
      refine qz T_ok 2 [0, 3, 4, 15] 0 (E2 := [(0, [], v8 a0), (3, [], vs ⟨#[97, 98, 99, 100, 101, 102, 103, 104, 105, 106, 107, 108, 109, 110, 111, 112, 113, 114, 115, 116, 117, 118, 119, 120, 121, 122, 48, 49, 50, 51, 52, 53, 54, 55, 56, 57, 46, 95, 45]⟩), (4, [], vi x2), (15, [], vb (decide (x4 = a0)))]) (h1 := []) (by kernel_rfl) (by kernel_rfl) (by kernel_rfl) (by kernel_rfl) (by kernel_rfl) ?_
      refine qi (t := decide (x4 = a0)) (by kernel_rfl) (fun c => ?_) (fun c => ?_)
      · rw [if_pos (of_decide_eq_true c)] at H
        clear c
        refine qs ?_
        refine qr T_ok [2] (E2 := [(2, [], vb true)]) (by kernel_rfl) ?_
        refine qt ?_
        obtain rfl := Option.some.inj H
        exact ⟨vb true, by kernel_rfl, rfl⟩
      · rw [if_neg (of_decide_eq_false c)] at H
        clear c
        refine qw [0, 3, 4] rfl ?_
        refine qk ?_
        refine qr T_ok [0, 3, 4] (E2 := [(0, [], v8 a0), (3, [], vs ⟨#[97, 98, 99, 100, 101, 102, 103, 104, 105, 106, 107, 108, 109, 110, 111, 112, 113, 114, 115, 116, 117, 118, 119, 120, 121, 122, 48, 49, 50, 51, 52, 53, 54, 55, 56, 57, 46, 95, 45]⟩), (4, [], vi (w64 (x2 + 1)))]) (by kernel_rfl) ?_
        exact ⟨_, Nat.lt_succ_self _, w64 (x2 + 1), rfl, rfl, H⟩
    · rw [if_neg (of_decide_eq_false c)] at H
      clear c
      refine qw [] rfl ?_
      refine qx ?_
      refine qs ?_
      refine qr T_ok [2] (E2 := [(2, [], vb false)]) (by kernel_rfl) ?_
      refine qt ?_
      obtain rfl := Option.some.inj H
      exact ⟨vb false, by kernel_rfl, rfl⟩
/-! ### quitclaim/quitclaimref10.Part: function 43 -/
def quitclaimref10_Part.l0 (a0 : ByteArray) : Nat → Int → Option Bool
  | 0, _ => none
  | k + 1, x3 => (if x3 < (a0.size : Int) then ((bx a0 x3).bind fun x6 => ((quitclaimref10_letter.f k x6).bind fun x7 => (if (!x7) = true then some false else quitclaimref10_Part.l0 a0 k (w64 (x3 + 1))))) else some true)
def quitclaimref10_Part.f (k : Nat) (a0 : ByteArray) : Option Bool := (if ((decide ((a0.size : Int) = 0) || decide (a0 = ⟨#[46]⟩)) || decide (a0 = ⟨#[46, 46]⟩)) = true then some false else quitclaimref10_Part.l0 a0 k 0)
theorem quitclaimref10_Part.ok (k : Nat) (a0 : ByteArray) (r : Bool) (H : quitclaimref10_Part.f k a0 = some r) : PF Tryd.prog 43 [vs a0] (vb r) := by
  refine PF_mk T_ok Tryd.func43 rfl (by kernel_rfl) (by kernel_rfl) ?_
  unfold quitclaimref10_Part.f at H
  refine qs ?_
  refine qr T_ok [0] (E2 := [(0, [], vs a0)]) (by kernel_rfl) ?_
  refine qs ?_
  refine qs ?_
  refine qr T_ok [0, 14] (E2 := [(0, [], vs a0), (14, [], vb ((decide ((a0.size : Int) = 0) || decide (a0 = ⟨#[46]⟩)) || decide (a0 = ⟨#[46, 46]⟩)))]) (by kernel_rfl) ?_
  refine qi (t := ((decide ((a0.size : Int) = 0) || decide (a0 = ⟨#[46]⟩)) || decide (a0 = ⟨#[46, 46]⟩))) (by kernel_rfl) (fun c => ?_) (fun c => ?_)
  · rw [if_pos c] at H
    clear c
    refine qs ?_
    refine qr T_ok [2] (E2 := [(2, [], vb false)]) (by kernel_rfl) ?_
    refine qt ?_
    obtain rfl := Option.some.inj H
    exact ⟨vb false, by kernel_rfl, rfl⟩
  · rw [if_neg (by rw [c]; exact Bool.false_ne_true)] at H
    clear c
    refine qw [0] rfl ?_
    refine qk ?_
    refine qs ?_
    refine qs ?_
    refine qr T_ok [0, 3] (E2 := [(0, [], vs a0), (3, [], vi 0)]) (by kernel_rfl) ?_
    refine qb ?_
    refine qp (fun k E h => ∃ x3 : Int, E = [(0, [], vs a0), (3, [], vi x3)] ∧ h = [] ∧ quitclaimref10_Part.l0 a0 k x3 = some r) k ⟨0, rfl, rfl, H⟩ ?_
    clear H
    rintro k E h ⟨x3, rfl, rfl, H⟩
    cases k with
    | zero => exact nomatch (show none = some r from H)
    | succ k =>
      rw [quitclaimref10_Part.l0] at H
      refine qs ?_
      refine qs ?_
      refine qr T_ok [0, 3, 18] (E2 := [(0, [], vs a0), (3, [], vi x3), (18, [], vb (decide (x3 < (a0.size : Int))))]) (by kernel_rfl) ?_
      refine qi (t := decide (x3 < (a0.size : Int))) (by kernel_rfl) (fun c => ?_) (fun c => ?_)
      · rw [if_pos (of_decide_eq_true c)] at H
        clear c
        refine qw [0, 3] rfl ?_
        refine qk ?_
        refine qs ?_
        refine qb ?_
        refine qs ?_
        refine qg ?_
        refine qm T_ok 2 (k := 2) (by kernel_rfl) (by kernel_rfl) (by kernel_rfl) ?_
        obtain ⟨x6, hx, H⟩ := bd H
        refine qy rfl (zb T_ok .i64 hx rfl (by kernel_rfl) (by kernel_rfl) (by kernel_rfl)) rfl (by kernel_rfl) rfl ?_
        clear hx
        obtain ⟨x7, hx, H⟩ := bd H
        refine qy rfl (zc (T := T) (quitclaimref10_letter.ok k x6 _ hx) Tryd.func72 rfl rfl (caps := []) (by kernel_rfl) (by kernel_rfl) (by kernel_rfl) (by kernel_rfl) (by kernel_rfl) (by kernel_rfl)) rfl (by kernel_rfl) rfl ?_
        clear hx
        refine qz T_ok 1 [0, 3, 25] 0 (E2 := [(0, [], vs a0), (3, [], vi x3), (25, [], vb (!x7))]) (h1 := []) (by kernel_rfl) (by kernel_rfl) (by kernel_rfl) (by kernel_rfl) (by kernel_rfl) ?_
        refine qi (t := !x7) (by kernel_rfl) (fun c => ?_) (fun c => ?_)
        · rw [if_pos c] at H
          clear c
          refine qs ?_
          refine qr T_ok [2] (E2 := [(2, [], vb false)]) (by kernel_rfl) ?_
          refine qt ?_
          obtain rfl := Option.some.inj H
          exact ⟨vb false, by kernel_rfl, rfl⟩
        · rw [if_neg (by rw [c]; exact Bool.false_ne_true)] at H
          clear c
          refine qw [0, 3] rfl ?_
          refine qk ?_
          refine qr T_ok [0, 3] (E2 := [(0, [], vs a0), (3, [], vi (w64 (x3 + 1)))]) (by kernel_rfl) ?_
          exact ⟨_, Nat.lt_succ_self _, w64 (x3 + 1), rfl, rfl, H⟩
      · rw [if_neg (of_decide_eq_false c)] at H
        clear c
        refine qw [] rfl ?_
        refine qx ?_
        refine qs ?_
        refine qr T_ok [2] (E2 := [(2, [], vb true)]) (by kernel_rfl) ?_
        refine qt ?_
        obtain rfl := Option.some.inj H
        exact ⟨vb true, by kernel_rfl, rfl⟩
/-! ### quitclaim/quitclaimref10.Right: function 10 -/
def quitclaimref10_Right.l0 (x1 : List ByteArray) : Nat → Int → Option Bool
  | 0, _ => none
  | k + 1, x4 => (if x4 < (x1.length : Int) then ((ix x1 x4).bind fun x7 => ((quitclaimref10_Part.f k x7).bind fun x8 => (if (!x8) = true then some false else quitclaimref10_Right.l0 x1 k (w64 (x4 + 1))))) else some (decide ((x1.length : Int) ≤ 16)))
def quitclaimref10_Right.f (k : Nat) (a0 : ByteArray) : Option Bool := (if (a0.size : Int) > 200 then some false else ((quitclaimref10_Split.f k a0).bind fun x1 => quitclaimref10_Right.l0 x1 k 0))
theorem quitclaimref10_Right.ok (k : Nat) (a0 : ByteArray) (r : Bool) (H : quitclaimref10_Right.f k a0 = some r) : PF Tryd.prog 10 [vs a0] (vb r) := by
  refine PF_mk T_ok Tryd.func10 rfl (by kernel_rfl) (by kernel_rfl) ?_
  unfold quitclaimref10_Right.f at H
  refine qs ?_
  refine qr T_ok [0] (E2 := [(0, [], vs a0)]) (by kernel_rfl) ?_
  refine qs ?_
  refine qs ?_
  refine qr T_ok [0, 7] (E2 := [(0, [], vs a0), (7, [], vb (decide ((a0.size : Int) > 200)))]) (by kernel_rfl) ?_
  refine qi (t := decide ((a0.size : Int) > 200)) (by kernel_rfl) (fun c => ?_) (fun c => ?_)
  · rw [if_pos (of_decide_eq_true c)] at H
    clear c
    refine qs ?_
    refine qr T_ok [2] (E2 := [(2, [], vb false)]) (by kernel_rfl) ?_
    refine qt ?_
    obtain rfl := Option.some.inj H
    exact ⟨vb false, by kernel_rfl, rfl⟩
  · rw [if_neg (of_decide_eq_false c)] at H
    clear c
    refine qw [0] rfl ?_
    refine qk ?_
    refine qs ?_
    refine qg ?_
    refine qm T_ok 1 (k := 1) (by kernel_rfl) (by kernel_rfl) (by kernel_rfl) ?_
    obtain ⟨x1, hx, H⟩ := bd H
    refine qy rfl (zc (T := T) (quitclaimref10_Split.ok k a0 _ hx) Tryd.func20 rfl rfl (caps := []) (by kernel_rfl) (by kernel_rfl) (by kernel_rfl) (by kernel_rfl) (by kernel_rfl) (by kernel_rfl)) rfl (by kernel_rfl) rfl ?_
    clear hx
    refine qz T_ok 1 [3] 0 (E2 := [(3, [], .p (.sl 1 ByteArray eS x1))]) (h1 := []) (by kernel_rfl) (by kernel_rfl) (by kernel_rfl) (by kernel_rfl) (by kernel_rfl) ?_
    refine qs ?_
    refine qs ?_
    refine qr T_ok [3, 4] (E2 := [(3, [], .p (.sl 1 ByteArray eS x1)), (4, [], vi 0)]) (by kernel_rfl) ?_
    refine qb ?_
    refine qp (fun k E h => ∃ x4 : Int, E = [(3, [], .p (.sl 1 ByteArray eS x1)), (4, [], vi x4)] ∧ h = [] ∧ quitclaimref10_Right.l0 x1 k x4 = some r) k ⟨0, rfl, rfl, H⟩ ?_
    clear H
    rintro k E h ⟨x4, rfl, rfl, H⟩
    cases k with
    | zero => exact nomatch (show none = some r from H)
    | succ k =>
      rw [quitclaimref10_Right.l0] at H
      refine qs ?_
      refine qs ?_
      refine qr T_ok [3, 4, 13] (E2 := [(3, [], .p (.sl 1 ByteArray eS x1)), (4, [], vi x4), (13, [], vb (decide (x4 < (x1.length : Int))))]) (by kernel_rfl) ?_
      refine qi (t := decide (x4 < (x1.length : Int))) (by kernel_rfl) (fun c => ?_) (fun c => ?_)
      · rw [if_pos (of_decide_eq_true c)] at H
        clear c
        refine qw [3, 4] rfl ?_
        refine qk ?_
        refine qs ?_
        refine qb ?_
        refine qs ?_
        refine qg ?_
        refine qm T_ok 2 (k := 2) (by kernel_rfl) (by kernel_rfl) (by kernel_rfl) ?_
        obtain ⟨x7, hx, H⟩ := bd H
        refine qy rfl (zi T_ok .i64 (enc := eS) (l := x1) (e := 9) (n := 1) (ei := ti9) (sa := (.p (.sl 1 ByteArray eS x1))) hx rfl (by kernel_rfl) (by kernel_rfl) rfl (by kernel_rfl) (by kernel_rfl) (by kernel_rfl)) rfl (by kernel_rfl) rfl ?_
        clear hx
        refine qm T_ok 1 (k := 4) (by kernel_rfl) (by kernel_rfl) (by kernel_rfl) ?_
        obtain ⟨x8, hx, H⟩ := bd H
        refine qy rfl (zc (T := T) (quitclaimref10_Part.ok k x7 _ hx) Tryd.func43 rfl rfl (caps := []) (by kernel_rfl) (by kernel_rfl) (by kernel_rfl) (by kernel_rfl) (by kernel_rfl) (by kernel_rfl)) rfl (by kernel_rfl) rfl ?_
        clear hx
        refine qz T_ok 1 [3, 4, 21] 0 (E2 := [(3, [], .p (.sl 1 ByteArray eS x1)), (4, [], vi x4), (21, [], vb (!x8))]) (h1 := []) (by kernel_rfl) (by kernel_rfl) (by kernel_rfl) (by kernel_rfl) (by kernel_rfl) ?_
        refine qi (t := !x8) (by kernel_rfl) (fun c => ?_) (fun c => ?_)
        · rw [if_pos c] at H
          clear c
          refine qs ?_
          refine qr T_ok [2] (E2 := [(2, [], vb false)]) (by kernel_rfl) ?_
          refine qt ?_
          obtain rfl := Option.some.inj H
          exact ⟨vb false, by kernel_rfl, rfl⟩
        · rw [if_neg (by rw [c]; exact Bool.false_ne_true)] at H
          clear c
          refine qw [3, 4] rfl ?_
          refine qk ?_
          refine qr T_ok [3, 4] (E2 := [(3, [], .p (.sl 1 ByteArray eS x1)), (4, [], vi (w64 (x4 + 1)))]) (by kernel_rfl) ?_
          exact ⟨_, Nat.lt_succ_self _, w64 (x4 + 1), rfl, rfl, H⟩
      · rw [if_neg (of_decide_eq_false c)] at H
        clear c
        refine qw [3] rfl ?_
        refine qx ?_
        refine qs ?_
        refine qr T_ok [2] (E2 := [(2, [], vb (decide ((x1.length : Int) ≤ 16)))]) (by kernel_rfl) ?_
        refine qt ?_
        obtain rfl := Option.some.inj H
        exact ⟨vb (decide ((x1.length : Int) ≤ 16)), by kernel_rfl, rfl⟩
/-! ### quitclaim/quitclaimref13.only: function 117 -/
def quitclaimref13_only.l3 (a0 : S_Op) (a1 : ByteArray) (x9 : Int) (b2 : (Int → Option Bool)) : Nat → Bool → Int → Option Bool
  | 0, _, _ => none
  | k + 1, x44, x45 => (if x45 < (a1.size : Int) then ((gd (!x44) (bx a1 x45)).bind fun x54 => ((gd (!x44) (bx ⟨#[84, 65, 79, 78, 75, 68]⟩ x9)).bind fun x55 => quitclaimref13_only.l3 a0 a1 x9 b2 k (x44 || decide (x54 = x55)) (w64 (x45 + 1)))) else (if x9 = 0 then (if (!decide (a0.f2_To = ⟨#[]⟩) && !x44) = true then some false else b2 (w64 (x9 + 1))) else (if x9 = 1 then (if (!decide (a0.f3_At = 0) && !x44) = true then some false else b2 (w64 (x9 + 1))) else (if x9 = 2 then (if (decide ((a0.f4_Old.length : Int) > 0) && !x44) = true then some false else b2 (w64 (x9 + 1))) else (if x9 = 3 then (if (decide ((a0.f5_New.length : Int) > 0) && !x44) = true then some false else b2 (w64 (x9 + 1))) else (if x9 = 4 then (if ((!decide (arl a0.f6_Key 32 0 = List.replicate 32 0)) && !x44) = true then some false else b2 (w64 (x9 + 1))) else (if x9 = 5 then (if (!decide (a0.f7_Depth = 0) && !x44) = true then some false else b2 (w64 (x9 + 1))) else none)))))))
def quitclaimref13_only.l2 (a0 : S_Op) (a1 : ByteArray) : Nat → Int → Option Bool
  | 0, _ => none
  | k + 1, x9 => jn (fun (x9 : Int) => quitclaimref13_only.l2 a0 a1 k x9) fun b2 => (if x9 < 6 then quitclaimref13_only.l3 a0 a1 x9 b2 k false 0 else some true)
def quitclaimref13_only.f (k : Nat) (a0 : S_Op) (a1 : ByteArray) : Option Bool := quitclaimref13_only.l2 a0 a1 k 0
theorem quitclaimref13_only.ok (k : Nat) (a0 : S_Op) (a1 : ByteArray) (r : Bool) (H : quitclaimref13_only.f k a0 a1 = some r) : PF Tryd.prog 117 [.p (.agg [(.s (.int .i64 a0.f0_Kind)), (.s (.string a0.f1_Path)), (.s (.string a0.f2_To)), (.s (.int .i64 a0.f3_At)), (.sl 1 ByteArray eS a0.f4_Old), (.sl 1 ByteArray eS a0.f5_New), (.s (.int .u8 (a0.f6_Key.getD 0 0))), (.s (.int .u8 (a0.f6_Key.getD 1 0))), (.s (.int .u8 (a0.f6_Key.getD 2 0))), (.s (.int .u8 (a0.f6_Key.getD 3 0))), (.s (.int .u8 (a0.f6_Key.getD 4 0))), (.s (.int .u8 (a0.f6_Key.getD 5 0))), (.s (.int .u8 (a0.f6_Key.getD 6 0))), (.s (.int .u8 (a0.f6_Key.getD 7 0))), (.s (.int .u8 (a0.f6_Key.getD 8 0))), (.s (.int .u8 (a0.f6_Key.getD 9 0))), (.s (.int .u8 (a0.f6_Key.getD 10 0))), (.s (.int .u8 (a0.f6_Key.getD 11 0))), (.s (.int .u8 (a0.f6_Key.getD 12 0))), (.s (.int .u8 (a0.f6_Key.getD 13 0))), (.s (.int .u8 (a0.f6_Key.getD 14 0))), (.s (.int .u8 (a0.f6_Key.getD 15 0))), (.s (.int .u8 (a0.f6_Key.getD 16 0))), (.s (.int .u8 (a0.f6_Key.getD 17 0))), (.s (.int .u8 (a0.f6_Key.getD 18 0))), (.s (.int .u8 (a0.f6_Key.getD 19 0))), (.s (.int .u8 (a0.f6_Key.getD 20 0))), (.s (.int .u8 (a0.f6_Key.getD 21 0))), (.s (.int .u8 (a0.f6_Key.getD 22 0))), (.s (.int .u8 (a0.f6_Key.getD 23 0))), (.s (.int .u8 (a0.f6_Key.getD 24 0))), (.s (.int .u8 (a0.f6_Key.getD 25 0))), (.s (.int .u8 (a0.f6_Key.getD 26 0))), (.s (.int .u8 (a0.f6_Key.getD 27 0))), (.s (.int .u8 (a0.f6_Key.getD 28 0))), (.s (.int .u8 (a0.f6_Key.getD 29 0))), (.s (.int .u8 (a0.f6_Key.getD 30 0))), (.s (.int .u8 (a0.f6_Key.getD 31 0))), (.s (.int .i64 a0.f7_Depth))]), vs a1] (vb r) := by
  refine PF_mk T_ok Tryd.func117 rfl (by kernel_rfl) (by kernel_rfl) ?_
  unfold quitclaimref13_only.f at H
  refine qs ?_
  refine qg ?_
  refine xb (T := T) (j := 0) (cs := [vi a0.f0_Kind, vs a0.f1_Path, vs a0.f2_To, vi a0.f3_At, .p (.sl 1 ByteArray eS a0.f4_Old), .p (.sl 1 ByteArray eS a0.f5_New), v8 (a0.f6_Key.getD 0 0), v8 (a0.f6_Key.getD 1 0), v8 (a0.f6_Key.getD 2 0), v8 (a0.f6_Key.getD 3 0), v8 (a0.f6_Key.getD 4 0), v8 (a0.f6_Key.getD 5 0), v8 (a0.f6_Key.getD 6 0), v8 (a0.f6_Key.getD 7 0), v8 (a0.f6_Key.getD 8 0), v8 (a0.f6_Key.getD 9 0), v8 (a0.f6_Key.getD 10 0), v8 (a0.f6_Key.getD 11 0), v8 (a0.f6_Key.getD 12 0), v8 (a0.f6_Key.getD 13 0), v8 (a0.f6_Key.getD 14 0), v8 (a0.f6_Key.getD 15 0), v8 (a0.f6_Key.getD 16 0), v8 (a0.f6_Key.getD 17 0), v8 (a0.f6_Key.getD 18 0), v8 (a0.f6_Key.getD 19 0), v8 (a0.f6_Key.getD 20 0), v8 (a0.f6_Key.getD 21 0), v8 (a0.f6_Key.getD 22 0), v8 (a0.f6_Key.getD 23 0), v8 (a0.f6_Key.getD 24 0), v8 (a0.f6_Key.getD 25 0), v8 (a0.f6_Key.getD 26 0), v8 (a0.f6_Key.getD 27 0), v8 (a0.f6_Key.getD 28 0), v8 (a0.f6_Key.getD 29 0), v8 (a0.f6_Key.getD 30 0), v8 (a0.f6_Key.getD 31 0), vi a0.f7_Depth]) rfl rfl rfl rfl (by kernel_rfl) (by kernel_rfl) rfl ?_
  refine qz T_ok 1 [1, 2] 1 (E2 := [(1, [], vs a1), (2, [], .ptr 0 0)]) (h1 := [.cells 57 [vi a0.f0_Kind, vs a0.f1_Path, vs a0.f2_To, vi a0.f3_At, .p (.sl 1 ByteArray eS a0.f4_Old), .p (.sl 1 ByteArray eS a0.f5_New), v8 (a0.f6_Key.getD 0 0), v8 (a0.f6_Key.getD 1 0), v8 (a0.f6_Key.getD 2 0), v8 (a0.f6_Key.getD 3 0), v8 (a0.f6_Key.getD 4 0), v8 (a0.f6_Key.getD 5 0), v8 (a0.f6_Key.getD 6 0), v8 (a0.f6_Key.getD 7 0), v8 (a0.f6_Key.getD 8 0), v8 (a0.f6_Key.getD 9 0), v8 (a0.f6_Key.getD 10 0), v8 (a0.f6_Key.getD 11 0), v8 (a0.f6_Key.getD 12 0), v8 (a0.f6_Key.getD 13 0), v8 (a0.f6_Key.getD 14 0), v8 (a0.f6_Key.getD 15 0), v8 (a0.f6_Key.getD 16 0), v8 (a0.f6_Key.getD 17 0), v8 (a0.f6_Key.getD 18 0), v8 (a0.f6_Key.getD 19 0), v8 (a0.f6_Key.getD 20 0), v8 (a0.f6_Key.getD 21 0), v8 (a0.f6_Key.getD 22 0), v8 (a0.f6_Key.getD 23 0), v8 (a0.f6_Key.getD 24 0), v8 (a0.f6_Key.getD 25 0), v8 (a0.f6_Key.getD 26 0), v8 (a0.f6_Key.getD 27 0), v8 (a0.f6_Key.getD 28 0), v8 (a0.f6_Key.getD 29 0), v8 (a0.f6_Key.getD 30 0), v8 (a0.f6_Key.getD 31 0), vi a0.f7_Depth]]) (by kernel_rfl) (by kernel_rfl) (by kernel_rfl) (by kernel_rfl) (by kernel_rfl) ?_
  refine qs ?_
  refine qA (by kernel_rfl) T_ok 23 22 (by kernel_rfl) (by kernel_rfl) (by kernel_rfl) (by kernel_rfl) (by kernel_rfl) (by kernel_rfl) rfl rfl rfl rfl rfl (by kernel_rfl) ?_
  refine am T_ok 17 (k := 17) (by kernel_rfl) (by kernel_rfl) ?_
  refine ay rfl (zEn T_ok (q1 := (eAc (eI .u8) 0 a0.f6_Key 32 0)) (q2 := (List.replicate 32 (.s (.int .u8 0)))) (n := 32) (e := 5) (k := .u8) (xs := arl a0.f6_Key 32 0) (ys := List.replicate 32 0) rfl (by kernel_rfl) (by kernel_rfl) (by kernel_rfl) (by kernel_rfl) (by kernel_rfl) (by kernel_rfl) (by kernel_rfl) (by kernel_rfl) (by kernel_rfl) (by kernel_rfl)) rfl (by kernel_rfl) rfl ?_
  refine am T_ok 4 (k := 22) (by kernel_rfl) (by kernel_rfl) ?_
  refine ay rfl (zN T_ok (ti := ti154) rfl rfl) rfl (by kernel_rfl) rfl ?_
  refine an (by kernel_rfl) (by kernel_rfl) rfl rfl ?_
  refine xs T_ok (u := 154) (b := 1) (off := 0) (vs := [vb (!decide (a0.f2_To = ⟨#[]⟩)), vb (!decide (a0.f3_At = 0)), vb (decide ((a0.f4_Old.length : Int) > 0)), vb (decide ((a0.f5_New.length : Int) > 0)), vb (!decide (arl a0.f6_Key 32 0 = List.replicate 32 0)), vb (!decide (a0.f7_Depth = 0))]) (cs := [vb false, vb false, vb false, vb false, vb false, vb false]) (ti := ti154) rfl rfl rfl rfl (by kernel_rfl) (by kernel_rfl) (by kernel_rfl) (by kernel_rfl) (by kernel_rfl) (by kernel_rfl) rfl ?_
  refine qz T_ok 0 [1, 5] 2 (E2 := [(1, [], vs a1), (5, [], .ptr 1 0)]) (h1 := [.cells 57 [vi a0.f0_Kind, vs a0.f1_Path, vs a0.f2_To, vi a0.f3_At, .p (.sl 1 ByteArray eS a0.f4_Old), .p (.sl 1 ByteArray eS a0.f5_New), v8 (a0.f6_Key.getD 0 0), v8 (a0.f6_Key.getD 1 0), v8 (a0.f6_Key.getD 2 0), v8 (a0.f6_Key.getD 3 0), v8 (a0.f6_Key.getD 4 0), v8 (a0.f6_Key.getD 5 0), v8 (a0.f6_Key.getD 6 0), v8 (a0.f6_Key.getD 7 0), v8 (a0.f6_Key.getD 8 0), v8 (a0.f6_Key.getD 9 0), v8 (a0.f6_Key.getD 10 0), v8 (a0.f6_Key.getD 11 0), v8 (a0.f6_Key.getD 12 0), v8 (a0.f6_Key.getD 13 0), v8 (a0.f6_Key.getD 14 0), v8 (a0.f6_Key.getD 15 0), v8 (a0.f6_Key.getD 16 0), v8 (a0.f6_Key.getD 17 0), v8 (a0.f6_Key.getD 18 0), v8 (a0.f6_Key.getD 19 0), v8 (a0.f6_Key.getD 20 0), v8 (a0.f6_Key.getD 21 0), v8 (a0.f6_Key.getD 22 0), v8 (a0.f6_Key.getD 23 0), v8 (a0.f6_Key.getD 24 0), v8 (a0.f6_Key.getD 25 0), v8 (a0.f6_Key.getD 26 0), v8 (a0.f6_Key.getD 27 0), v8 (a0.f6_Key.getD 28 0), v8 (a0.f6_Key.getD 29 0), v8 (a0.f6_Key.getD 30 0), v8 (a0.f6_Key.getD 31 0), vi a0.f7_Depth], .cells 154 [vb (!decide (a0.f2_To = ⟨#[]⟩)), vb (!decide (a0.f3_At = 0)), vb (decide ((a0.f4_Old.length : Int) > 0)), vb (decide ((a0.f5_New.length : Int) > 0)), vb (!decide (arl a0.f6_Key 32 0 = List.replicate 32 0)), vb (!decide (a0.f7_Depth = 0))]]) (by kernel_rfl) (by kernel_rfl) (by kernel_rfl) (by kernel_rfl) (by kernel_rfl) ?_
  refine qs ?_
  refine qr T_ok [1, 5, 6] (E2 := [(1, [], vs a1), (5, [], .ptr 1 0), (6, [], vs ⟨#[84, 65, 79, 78, 75, 68]⟩)]) (by kernel_rfl) ?_
  refine qs ?_
  refine qs ?_
  refine qr T_ok [1, 5, 6, 7] (E2 := [(1, [], vs a1), (5, [], .ptr 1 0), (6, [], vs ⟨#[84, 65, 79, 78, 75, 68]⟩), (7, [], vi 0)]) (by kernel_rfl) ?_
  refine qb ?_
  refine qp (fun k E h => ∃ x9 : Int, E = [(1, [], vs a1), (5, [], .ptr 1 0), (6, [], vs ⟨#[84, 65, 79, 78, 75, 68]⟩), (7, [], vi x9)] ∧ h = [.cells 57 [vi a0.f0_Kind, vs a0.f1_Path, vs a0.f2_To, vi a0.f3_At, .p (.sl 1 ByteArray eS a0.f4_Old), .p (.sl 1 ByteArray eS a0.f5_New), v8 (a0.f6_Key.getD 0 0), v8 (a0.f6_Key.getD 1 0), v8 (a0.f6_Key.getD 2 0), v8 (a0.f6_Key.getD 3 0), v8 (a0.f6_Key.getD 4 0), v8 (a0.f6_Key.getD 5 0), v8 (a0.f6_Key.getD 6 0), v8 (a0.f6_Key.getD 7 0), v8 (a0.f6_Key.getD 8 0), v8 (a0.f6_Key.getD 9 0), v8 (a0.f6_Key.getD 10 0), v8 (a0.f6_Key.getD 11 0), v8 (a0.f6_Key.getD 12 0), v8 (a0.f6_Key.getD 13 0), v8 (a0.f6_Key.getD 14 0), v8 (a0.f6_Key.getD 15 0), v8 (a0.f6_Key.getD 16 0), v8 (a0.f6_Key.getD 17 0), v8 (a0.f6_Key.getD 18 0), v8 (a0.f6_Key.getD 19 0), v8 (a0.f6_Key.getD 20 0), v8 (a0.f6_Key.getD 21 0), v8 (a0.f6_Key.getD 22 0), v8 (a0.f6_Key.getD 23 0), v8 (a0.f6_Key.getD 24 0), v8 (a0.f6_Key.getD 25 0), v8 (a0.f6_Key.getD 26 0), v8 (a0.f6_Key.getD 27 0), v8 (a0.f6_Key.getD 28 0), v8 (a0.f6_Key.getD 29 0), v8 (a0.f6_Key.getD 30 0), v8 (a0.f6_Key.getD 31 0), vi a0.f7_Depth], .cells 154 [vb (!decide (a0.f2_To = ⟨#[]⟩)), vb (!decide (a0.f3_At = 0)), vb (decide ((a0.f4_Old.length : Int) > 0)), vb (decide ((a0.f5_New.length : Int) > 0)), vb (!decide (arl a0.f6_Key 32 0 = List.replicate 32 0)), vb (!decide (a0.f7_Depth = 0))]] ∧ quitclaimref13_only.l2 a0 a1 k x9 = some r) k ⟨0, rfl, rfl, H⟩ ?_
  clear H
  rintro k E h ⟨x9, rfl, rfl, H⟩
  cases k with
  | zero => exact nomatch (show none = some r from H)
  | succ k =>
    rw [quitclaimref13_only.l2] at H
    obtain ⟨b2, hb2, H⟩ := jn_of H
    refine qs ?_
    refine qs ?_
    refine qr T_ok [1, 5, 6, 7, 33] (E2 := [(1, [], vs a1), (5, [], .ptr 1 0), (6, [], vs ⟨#[84, 65, 79, 78, 75, 68]⟩), (7, [], vi x9), (33, [], vb (decide (x9 < 6)))]) (by kernel_rfl) ?_
    refine qi (t := decide (x9 < 6)) (by kernel_rfl) (fun c => ?_) (fun c => ?_)
    · rw [if_pos (of_decide_eq_true c)] at H
      clear c
      refine qw [1, 5, 6, 7] rfl ?_
      refine qk ?_
      refine qs ?_
      refine qb ?_
      refine qs ?_
      refine qr T_ok [1, 5, 6, 7, 8] (E2 := [(1, [], vs a1), (5, [], .ptr 1 0), (6, [], vs ⟨#[84, 65, 79, 78, 75, 68]⟩), (7, [], vi x9), (8, [], vb false)]) (by kernel_rfl) ?_
      refine qs ?_
      refine qs ?_
      refine qr T_ok [1, 5, 6, 7, 8, 9] (E2 := [(1, [], vs a1), (5, [], .ptr 1 0), (6, [], vs ⟨#[84, 65, 79, 78, 75, 68]⟩), (7, [], vi x9), (8, [], vb false), (9, [], vi 0)]) (by kernel_rfl) ?_
      refine qb ?_
      refine qp (fun k E h => ∃ x44 : Bool, ∃ x45 : Int, E = [(1, [], vs a1), (5, [], .ptr 1 0), (6, [], vs ⟨#[84, 65, 79, 78, 75, 68]⟩), (7, [], vi x9), (8, [], vb x44), (9, [], vi x45)] ∧ h = [.cells 57 [vi a0.f0_Kind, vs a0.f1_Path, vs a0.f2_To, vi a0.f3_At, .p (.sl 1 ByteArray eS a0.f4_Old), .p (.sl 1 ByteArray eS a0.f5_New), v8 (a0.f6_Key.getD 0 0), v8 (a0.f6_Key.getD 1 0), v8 (a0.f6_Key.getD 2 0), v8 (a0.f6_Key.getD 3 0), v8 (a0.f6_Key.getD 4 0), v8 (a0.f6_Key.getD 5 0), v8 (a0.f6_Key.getD 6 0), v8 (a0.f6_Key.getD 7 0), v8 (a0.f6_Key.getD 8 0), v8 (a0.f6_Key.getD 9 0), v8 (a0.f6_Key.getD 10 0), v8 (a0.f6_Key.getD 11 0), v8 (a0.f6_Key.getD 12 0), v8 (a0.f6_Key.getD 13 0), v8 (a0.f6_Key.getD 14 0), v8 (a0.f6_Key.getD 15 0), v8 (a0.f6_Key.getD 16 0), v8 (a0.f6_Key.getD 17 0), v8 (a0.f6_Key.getD 18 0), v8 (a0.f6_Key.getD 19 0), v8 (a0.f6_Key.getD 20 0), v8 (a0.f6_Key.getD 21 0), v8 (a0.f6_Key.getD 22 0), v8 (a0.f6_Key.getD 23 0), v8 (a0.f6_Key.getD 24 0), v8 (a0.f6_Key.getD 25 0), v8 (a0.f6_Key.getD 26 0), v8 (a0.f6_Key.getD 27 0), v8 (a0.f6_Key.getD 28 0), v8 (a0.f6_Key.getD 29 0), v8 (a0.f6_Key.getD 30 0), v8 (a0.f6_Key.getD 31 0), vi a0.f7_Depth], .cells 154 [vb (!decide (a0.f2_To = ⟨#[]⟩)), vb (!decide (a0.f3_At = 0)), vb (decide ((a0.f4_Old.length : Int) > 0)), vb (decide ((a0.f5_New.length : Int) > 0)), vb (!decide (arl a0.f6_Key 32 0 = List.replicate 32 0)), vb (!decide (a0.f7_Depth = 0))]] ∧ quitclaimref13_only.l3 a0 a1 x9 b2 k x44 x45 = some r) k ⟨false, 0, rfl, rfl, H⟩ ?_
      clear H
      rintro k E h ⟨x44, x45, rfl, rfl, H⟩
      cases k with
      | zero => exact nomatch (show none = some r from H)
      | succ k =>
        rw [quitclaimref13_only.l3] at H
        refine qs ?_
        refine qs ?_
        refine qr T_ok [1, 5, 6, 7, 8, 9, 39] (E2 := [(1, [], vs a1), (5, [], .ptr 1 0), (6, [], vs ⟨#[84, 65, 79, 78, 75, 68]⟩), (7, [], vi x9), (8, [], vb x44), (9, [], vi x45), (39, [], vb (decide (x45 < (a1.size : Int))))]) (by kernel_rfl) ?_
        refine qi (t := decide (x45 < (a1.size : Int))) (by kernel_rfl) (fun c => ?_) (fun c => ?_)
        · rw [if_pos (of_decide_eq_true c)] at H
          clear c
          refine qw [1, 5, 6, 7, 8, 9] rfl ?_
          refine qk ?_
          refine qs ?_
          refine qb ?_
          refine qd (by kernel_rfl) 10 (by kernel_rfl) (by kernel_rfl) (by kernel_rfl) (by kernel_rfl) (by kernel_rfl) ?_
          refine dm T_ok 4 (k := 4) (by kernel_rfl) (by kernel_rfl) ?_
          obtain ⟨x54, hx, H⟩ := bd H
          refine dyg rfl (tg := []) (Yld.under (u := 43) (b := false) (t := x44) (by kernel_rfl) (by simp) fun g0_ => (zb T_ok .i64 (gd0 hx g0_) rfl (by kernel_rfl) (by kernel_rfl) (by kernel_rfl))) rfl rfl (by kernel_rfl) (by kernel_rfl) rfl ?_
          clear hx
          refine dm T_ok 2 (k := 7) (by kernel_rfl) (by kernel_rfl) ?_
          obtain ⟨x55, hx, H⟩ := bd H
          refine dyg rfl (tg := []) (Yld.under (u := 43) (b := false) (t := x44) (by kernel_rfl) (by simp) fun g0_ => (zb T_ok .i64 (gd0 hx g0_) rfl (by kernel_rfl) (by kernel_rfl) (by kernel_rfl))) rfl rfl (by kernel_rfl) (by kernel_rfl) rfl ?_
          clear hx
          refine dm T_ok 2 (k := 10) (by kernel_rfl) (by kernel_rfl) ?_
          refine dn ?_
          refine qz T_ok 1 [1, 5, 6, 7, 8, 9] 2 (E2 := [(1, [], vs a1), (5, [], .ptr 1 0), (6, [], vs ⟨#[84, 65, 79, 78, 75, 68]⟩), (7, [], vi x9), (8, [], vb (x44 || decide (x54 = x55))), (9, [], vi x45)]) (h1 := [.cells 57 [vi a0.f0_Kind, vs a0.f1_Path, vs a0.f2_To, vi a0.f3_At, .p (.sl 1 ByteArray eS a0.f4_Old), .p (.sl 1 ByteArray eS a0.f5_New), v8 (a0.f6_Key.getD 0 0), v8 (a0.f6_Key.getD 1 0), v8 (a0.f6_Key.getD 2 0), v8 (a0.f6_Key.getD 3 0), v8 (a0.f6_Key.getD 4 0), v8 (a0.f6_Key.getD 5 0), v8 (a0.f6_Key.getD 6 0), v8 (a0.f6_Key.getD 7 0), v8 (a0.f6_Key.getD 8 0), v8 (a0.f6_Key.getD 9 0), v8 (a0.f6_Key.getD 10 0), v8 (a0.f6_Key.getD 11 0), v8 (a0.f6_Key.getD 12 0), v8 (a0.f6_Key.getD 13 0), v8 (a0.f6_Key.getD 14 0), v8 (a0.f6_Key.getD 15 0), v8 (a0.f6_Key.getD 16 0), v8 (a0.f6_Key.getD 17 0), v8 (a0.f6_Key.getD 18 0), v8 (a0.f6_Key.getD 19 0), v8 (a0.f6_Key.getD 20 0), v8 (a0.f6_Key.getD 21 0), v8 (a0.f6_Key.getD 22 0), v8 (a0.f6_Key.getD 23 0), v8 (a0.f6_Key.getD 24 0), v8 (a0.f6_Key.getD 25 0), v8 (a0.f6_Key.getD 26 0), v8 (a0.f6_Key.getD 27 0), v8 (a0.f6_Key.getD 28 0), v8 (a0.f6_Key.getD 29 0), v8 (a0.f6_Key.getD 30 0), v8 (a0.f6_Key.getD 31 0), vi a0.f7_Depth], .cells 154 [vb (!decide (a0.f2_To = ⟨#[]⟩)), vb (!decide (a0.f3_At = 0)), vb (decide ((a0.f4_Old.length : Int) > 0)), vb (decide ((a0.f5_New.length : Int) > 0)), vb (!decide (arl a0.f6_Key 32 0 = List.replicate 32 0)), vb (!decide (a0.f7_Depth = 0))]]) (by kernel_rfl) (by kernel_rfl) (by kernel_rfl) (by kernel_rfl) (by kernel_rfl) ?_
          refine qr T_ok [1, 5, 6, 7, 8, 9] (E2 := [(1, [], vs a1), (5, [], .ptr 1 0), (6, [], vs ⟨#[84, 65, 79, 78, 75, 68]⟩), (7, [], vi x9), (8, [], vb (x44 || decide (x54 = x55))), (9, [], vi (w64 (x45 + 1)))]) (by kernel_rfl) ?_
          exact ⟨_, Nat.lt_succ_self _, (x44 || decide (x54 = x55)), w64 (x45 + 1), rfl, rfl, H⟩
        · rw [if_neg (of_decide_eq_false c)] at H
          clear c
          refine qw [1, 5, 6, 7, 8] rfl ?_
          refine qx ?_
          refine qs ?_
          refine qg ?_
          refine qm T_ok 1 (k := 1) (by kernel_rfl) (by kernel_rfl) (by kernel_rfl) ?_
          by_cases c61 : x9 = 0
          · rw [if_pos c61] at H
            refine qy rfl (zAk T_ok (n := 6) (e := 4) (k := .i64) (iv := x9) (c := 0) (ei := ti4) (b := 1) (off := 0) rfl (by kernel_rfl) (by kernel_rfl) (by kernel_rfl) (by kernel_rfl) c61 (by kernel_rfl)) rfl (by kernel_rfl) rfl ?_
            refine qz T_ok 5 [1, 5, 6, 7, 58] 2 (E2 := [(1, [], vs a1), (5, [], .ptr 1 0), (6, [], vs ⟨#[84, 65, 79, 78, 75, 68]⟩), (7, [], vi x9), (58, [], vb (!decide (a0.f2_To = ⟨#[]⟩) && !x44))]) (h1 := [.cells 57 [vi a0.f0_Kind, vs a0.f1_Path, vs a0.f2_To, vi a0.f3_At, .p (.sl 1 ByteArray eS a0.f4_Old), .p (.sl 1 ByteArray eS a0.f5_New), v8 (a0.f6_Key.getD 0 0), v8 (a0.f6_Key.getD 1 0), v8 (a0.f6_Key.getD 2 0), v8 (a0.f6_Key.getD 3 0), v8 (a0.f6_Key.getD 4 0), v8 (a0.f6_Key.getD 5 0), v8 (a0.f6_Key.getD 6 0), v8 (a0.f6_Key.getD 7 0), v8 (a0.f6_Key.getD 8 0), v8 (a0.f6_Key.getD 9 0), v8 (a0.f6_Key.getD 10 0), v8 (a0.f6_Key.getD 11 0), v8 (a0.f6_Key.getD 12 0), v8 (a0.f6_Key.getD 13 0), v8 (a0.f6_Key.getD 14 0), v8 (a0.f6_Key.getD 15 0), v8 (a0.f6_Key.getD 16 0), v8 (a0.f6_Key.getD 17 0), v8 (a0.f6_Key.getD 18 0), v8 (a0.f6_Key.getD 19 0), v8 (a0.f6_Key.getD 20 0), v8 (a0.f6_Key.getD 21 0), v8 (a0.f6_Key.getD 22 0), v8 (a0.f6_Key.getD 23 0), v8 (a0.f6_Key.getD 24 0), v8 (a0.f6_Key.getD 25 0), v8 (a0.f6_Key.getD 26 0), v8 (a0.f6_Key.getD 27 0), v8 (a0.f6_Key.getD 28 0), v8 (a0.f6_Key.getD 29 0), v8 (a0.f6_Key.getD 30 0), v8 (a0.f6_Key.getD 31 0), vi a0.f7_Depth], .cells 154 [vb (!decide (a0.f2_To = ⟨#[]⟩)), vb (!decide (a0.f3_At = 0)), vb (decide ((a0.f4_Old.length : Int) > 0)), vb (decide ((a0.f5_New.length : Int) > 0)), vb (!decide (arl a0.f6_Key 32 0 = List.replicate 32 0)), vb (!decide (a0.f7_Depth = 0))]]) (by kernel_rfl) (by kernel_rfl) (by kernel_rfl) (by kernel_rfl) (by kernel_rfl) ?_
            refine qi (t := (!decide (a0.f2_To = ⟨#[]⟩) && !x44)) (by kernel_rfl) (fun c => ?_) (fun c => ?_)
            · rw [if_pos c] at H
              clear c
              refine qs ?_
              refine qg ?_
              refine qz T_ok 1 [4] 0 (E2 := [(4, [], vb false)]) (h1 := []) (by kernel_rfl) (by kernel_rfl) (by kernel_rfl) (by kernel_rfl) (by kernel_rfl) ?_
              refine qt ?_
              obtain rfl := Option.some.inj H
              exact ⟨vb false, by kernel_rfl, rfl⟩
            · rw [if_neg (by rw [c]; exact Bool.false_ne_true)] at H
              clear c
              refine qw [1, 5, 6, 7] rfl ?_
              refine qk ?_
              refine qr T_ok [1, 5, 6, 7] (E2 := [(1, [], vs a1), (5, [], .ptr 1 0), (6, [], vs ⟨#[84, 65, 79, 78, 75, 68]⟩), (7, [], vi (w64 (x9 + 1)))]) (by kernel_rfl) ?_
              exact ⟨_, Nat.lt_succ_self _, w64 (x9 + 1), rfl, rfl, by rw [hb2] at H; exact H⟩
          · rw [if_neg c61] at H
            clear c61
            by_cases c60 : x9 = 1
            · rw [if_pos c60] at H
              refine qy rfl (zAk T_ok (n := 6) (e := 4) (k := .i64) (iv := x9) (c := 1) (ei := ti4) (b := 1) (off := 0) rfl (by kernel_rfl) (by kernel_rfl) (by kernel_rfl) (by kernel_rfl) c60 (by kernel_rfl)) rfl (by kernel_rfl) rfl ?_
              refine qz T_ok 5 [1, 5, 6, 7, 58] 2 (E2 := [(1, [], vs a1), (5, [], .ptr 1 0), (6, [], vs ⟨#[84, 65, 79, 78, 75, 68]⟩), (7, [], vi x9), (58, [], vb (!decide (a0.f3_At = 0) && !x44))]) (h1 := [.cells 57 [vi a0.f0_Kind, vs a0.f1_Path, vs a0.f2_To, vi a0.f3_At, .p (.sl 1 ByteArray eS a0.f4_Old), .p (.sl 1 ByteArray eS a0.f5_New), v8 (a0.f6_Key.getD 0 0), v8 (a0.f6_Key.getD 1 0), v8 (a0.f6_Key.getD 2 0), v8 (a0.f6_Key.getD 3 0), v8 (a0.f6_Key.getD 4 0), v8 (a0.f6_Key.getD 5 0), v8 (a0.f6_Key.getD 6 0), v8 (a0.f6_Key.getD 7 0), v8 (a0.f6_Key.getD 8 0), v8 (a0.f6_Key.getD 9 0), v8 (a0.f6_Key.getD 10 0), v8 (a0.f6_Key.getD 11 0), v8 (a0.f6_Key.getD 12 0), v8 (a0.f6_Key.getD 13 0), v8 (a0.f6_Key.getD 14 0), v8 (a0.f6_Key.getD 15 0), v8 (a0.f6_Key.getD 16 0), v8 (a0.f6_Key.getD 17 0), v8 (a0.f6_Key.getD 18 0), v8 (a0.f6_Key.getD 19 0), v8 (a0.f6_Key.getD 20 0), v8 (a0.f6_Key.getD 21 0), v8 (a0.f6_Key.getD 22 0), v8 (a0.f6_Key.getD 23 0), v8 (a0.f6_Key.getD 24 0), v8 (a0.f6_Key.getD 25 0), v8 (a0.f6_Key.getD 26 0), v8 (a0.f6_Key.getD 27 0), v8 (a0.f6_Key.getD 28 0), v8 (a0.f6_Key.getD 29 0), v8 (a0.f6_Key.getD 30 0), v8 (a0.f6_Key.getD 31 0), vi a0.f7_Depth], .cells 154 [vb (!decide (a0.f2_To = ⟨#[]⟩)), vb (!decide (a0.f3_At = 0)), vb (decide ((a0.f4_Old.length : Int) > 0)), vb (decide ((a0.f5_New.length : Int) > 0)), vb (!decide (arl a0.f6_Key 32 0 = List.replicate 32 0)), vb (!decide (a0.f7_Depth = 0))]]) (by kernel_rfl) (by kernel_rfl) (by kernel_rfl) (by kernel_rfl) (by kernel_rfl) ?_
              refine qi (t := (!decide (a0.f3_At = 0) && !x44)) (by kernel_rfl) (fun c => ?_) (fun c => ?_)
              · rw [if_pos c] at H
                clear c
                refine qs ?_
                refine qg ?_
                refine qz T_ok 1 [4] 0 (E2 := [(4, [], vb false)]) (h1 := []) (by kernel_rfl) (by kernel_rfl) (by kernel_rfl) (by kernel_rfl) (by kernel_rfl) ?_
                refine qt ?_
                obtain rfl := Option.some.inj H
                exact ⟨vb false, by kernel_rfl, rfl⟩
              · rw [if_neg (by rw [c]; exact Bool.false_ne_true)] at H
                clear c
                refine qw [1, 5, 6, 7] rfl ?_
                refine qk ?_
                refine qr T_ok [1, 5, 6, 7] (E2 := [(1, [], vs a1), (5, [], .ptr 1 0), (6, [], vs ⟨#[84, 65, 79, 78, 75, 68]⟩), (7, [], vi (w64 (x9 + 1)))]) (by kernel_rfl) ?_
                exact ⟨_, Nat.lt_succ_self _, w64 (x9 + 1), rfl, rfl, by rw [hb2] at H; exact H⟩
            · rw [if_neg c60] at H
              clear c60
              by_cases c59 : x9 = 2
              · rw [if_pos c59] at H
                refine qy rfl (zAk T_ok (n := 6) (e := 4) (k := .i64) (iv := x9) (c := 2) (ei := ti4) (b := 1) (off := 0) rfl (by kernel_rfl) (by kernel_rfl) (by kernel_rfl) (by kernel_rfl) c59 (by kernel_rfl)) rfl (by kernel_rfl) rfl ?_
                refine qz T_ok 5 [1, 5, 6, 7, 58] 2 (E2 := [(1, [], vs a1), (5, [], .ptr 1 0), (6, [], vs ⟨#[84, 65, 79, 78, 75, 68]⟩), (7, [], vi x9), (58, [], vb (decide ((a0.f4_Old.length : Int) > 0) && !x44))]) (h1 := [.cells 57 [vi a0.f0_Kind, vs a0.f1_Path, vs a0.f2_To, vi a0.f3_At, .p (.sl 1 ByteArray eS a0.f4_Old), .p (.sl 1 ByteArray eS a0.f5_New), v8 (a0.f6_Key.getD 0 0), v8 (a0.f6_Key.getD 1 0), v8 (a0.f6_Key.getD 2 0), v8 (a0.f6_Key.getD 3 0), v8 (a0.f6_Key.getD 4 0), v8 (a0.f6_Key.getD 5 0), v8 (a0.f6_Key.getD 6 0), v8 (a0.f6_Key.getD 7 0), v8 (a0.f6_Key.getD 8 0), v8 (a0.f6_Key.getD 9 0), v8 (a0.f6_Key.getD 10 0), v8 (a0.f6_Key.getD 11 0), v8 (a0.f6_Key.getD 12 0), v8 (a0.f6_Key.getD 13 0), v8 (a0.f6_Key.getD 14 0), v8 (a0.f6_Key.getD 15 0), v8 (a0.f6_Key.getD 16 0), v8 (a0.f6_Key.getD 17 0), v8 (a0.f6_Key.getD 18 0), v8 (a0.f6_Key.getD 19 0), v8 (a0.f6_Key.getD 20 0), v8 (a0.f6_Key.getD 21 0), v8 (a0.f6_Key.getD 22 0), v8 (a0.f6_Key.getD 23 0), v8 (a0.f6_Key.getD 24 0), v8 (a0.f6_Key.getD 25 0), v8 (a0.f6_Key.getD 26 0), v8 (a0.f6_Key.getD 27 0), v8 (a0.f6_Key.getD 28 0), v8 (a0.f6_Key.getD 29 0), v8 (a0.f6_Key.getD 30 0), v8 (a0.f6_Key.getD 31 0), vi a0.f7_Depth], .cells 154 [vb (!decide (a0.f2_To = ⟨#[]⟩)), vb (!decide (a0.f3_At = 0)), vb (decide ((a0.f4_Old.length : Int) > 0)), vb (decide ((a0.f5_New.length : Int) > 0)), vb (!decide (arl a0.f6_Key 32 0 = List.replicate 32 0)), vb (!decide (a0.f7_Depth = 0))]]) (by kernel_rfl) (by kernel_rfl) (by kernel_rfl) (by kernel_rfl) (by kernel_rfl) ?_
                refine qi (t := (decide ((a0.f4_Old.length : Int) > 0) && !x44)) (by kernel_rfl) (fun c => ?_) (fun c => ?_)
                · rw [if_pos c] at H
                  clear c
                  refine qs ?_
                  refine qg ?_
                  refine qz T_ok 1 [4] 0 (E2 := [(4, [], vb false)]) (h1 := []) (by kernel_rfl) (by kernel_rfl) (by kernel_rfl) (by kernel_rfl) (by kernel_rfl) ?_
                  refine qt ?_
                  obtain rfl := Option.some.inj H
                  exact ⟨vb false, by kernel_rfl, rfl⟩
                · rw [if_neg (by rw [c]; exact Bool.false_ne_true)] at H
                  clear c
                  refine qw [1, 5, 6, 7] rfl ?_
                  refine qk ?_
                  refine qr T_ok [1, 5, 6, 7] (E2 := [(1, [], vs a1), (5, [], .ptr 1 0), (6, [], vs ⟨#[84, 65, 79, 78, 75, 68]⟩), (7, [], vi (w64 (x9 + 1)))]) (by kernel_rfl) ?_
                  exact ⟨_, Nat.lt_succ_self _, w64 (x9 + 1), rfl, rfl, by rw [hb2] at H; exact H⟩
              · rw [if_neg c59] at H
                clear c59
                by_cases c58 : x9 = 3
                · rw [if_pos c58] at H
                  refine qy rfl (zAk T_ok (n := 6) (e := 4) (k := .i64) (iv := x9) (c := 3) (ei := ti4) (b := 1) (off := 0) rfl (by kernel_rfl) (by kernel_rfl) (by kernel_rfl) (by kernel_rfl) c58 (by kernel_rfl)) rfl (by kernel_rfl) rfl ?_
                  refine qz T_ok 5 [1, 5, 6, 7, 58] 2 (E2 := [(1, [], vs a1), (5, [], .ptr 1 0), (6, [], vs ⟨#[84, 65, 79, 78, 75, 68]⟩), (7, [], vi x9), (58, [], vb (decide ((a0.f5_New.length : Int) > 0) && !x44))]) (h1 := [.cells 57 [vi a0.f0_Kind, vs a0.f1_Path, vs a0.f2_To, vi a0.f3_At, .p (.sl 1 ByteArray eS a0.f4_Old), .p (.sl 1 ByteArray eS a0.f5_New), v8 (a0.f6_Key.getD 0 0), v8 (a0.f6_Key.getD 1 0), v8 (a0.f6_Key.getD 2 0), v8 (a0.f6_Key.getD 3 0), v8 (a0.f6_Key.getD 4 0), v8 (a0.f6_Key.getD 5 0), v8 (a0.f6_Key.getD 6 0), v8 (a0.f6_Key.getD 7 0), v8 (a0.f6_Key.getD 8 0), v8 (a0.f6_Key.getD 9 0), v8 (a0.f6_Key.getD 10 0), v8 (a0.f6_Key.getD 11 0), v8 (a0.f6_Key.getD 12 0), v8 (a0.f6_Key.getD 13 0), v8 (a0.f6_Key.getD 14 0), v8 (a0.f6_Key.getD 15 0), v8 (a0.f6_Key.getD 16 0), v8 (a0.f6_Key.getD 17 0), v8 (a0.f6_Key.getD 18 0), v8 (a0.f6_Key.getD 19 0), v8 (a0.f6_Key.getD 20 0), v8 (a0.f6_Key.getD 21 0), v8 (a0.f6_Key.getD 22 0), v8 (a0.f6_Key.getD 23 0), v8 (a0.f6_Key.getD 24 0), v8 (a0.f6_Key.getD 25 0), v8 (a0.f6_Key.getD 26 0), v8 (a0.f6_Key.getD 27 0), v8 (a0.f6_Key.getD 28 0), v8 (a0.f6_Key.getD 29 0), v8 (a0.f6_Key.getD 30 0), v8 (a0.f6_Key.getD 31 0), vi a0.f7_Depth], .cells 154 [vb (!decide (a0.f2_To = ⟨#[]⟩)), vb (!decide (a0.f3_At = 0)), vb (decide ((a0.f4_Old.length : Int) > 0)), vb (decide ((a0.f5_New.length : Int) > 0)), vb (!decide (arl a0.f6_Key 32 0 = List.replicate 32 0)), vb (!decide (a0.f7_Depth = 0))]]) (by kernel_rfl) (by kernel_rfl) (by kernel_rfl) (by kernel_rfl) (by kernel_rfl) ?_
                  refine qi (t := (decide ((a0.f5_New.length : Int) > 0) && !x44)) (by kernel_rfl) (fun c => ?_) (fun c => ?_)
                  · rw [if_pos c] at H
                    clear c
                    refine qs ?_
                    refine qg ?_
                    refine qz T_ok 1 [4] 0 (E2 := [(4, [], vb false)]) (h1 := []) (by kernel_rfl) (by kernel_rfl) (by kernel_rfl) (by kernel_rfl) (by kernel_rfl) ?_
                    refine qt ?_
                    obtain rfl := Option.some.inj H
                    exact ⟨vb false, by kernel_rfl, rfl⟩
                  · rw [if_neg (by rw [c]; exact Bool.false_ne_true)] at H
                    clear c
                    refine qw [1, 5, 6, 7] rfl ?_
                    refine qk ?_
                    refine qr T_ok [1, 5, 6, 7] (E2 := [(1, [], vs a1), (5, [], .ptr 1 0), (6, [], vs ⟨#[84, 65, 79, 78, 75, 68]⟩), (7, [], vi (w64 (x9 + 1)))]) (by kernel_rfl) ?_
                    exact ⟨_, Nat.lt_succ_self _, w64 (x9 + 1), rfl, rfl, by rw [hb2] at H; exact H⟩
                · rw [if_neg c58] at H
                  clear c58
                  by_cases c57 : x9 = 4
                  · rw [if_pos c57] at H
                    refine qy rfl (zAk T_ok (n := 6) (e := 4) (k := .i64) (iv := x9) (c := 4) (ei := ti4) (b := 1) (off := 0) rfl (by kernel_rfl) (by kernel_rfl) (by kernel_rfl) (by kernel_rfl) c57 (by kernel_rfl)) rfl (by kernel_rfl) rfl ?_
                    refine qz T_ok 5 [1, 5, 6, 7, 58] 2 (E2 := [(1, [], vs a1), (5, [], .ptr 1 0), (6, [], vs ⟨#[84, 65, 79, 78, 75, 68]⟩), (7, [], vi x9), (58, [], vb ((!decide (arl a0.f6_Key 32 0 = List.replicate 32 0)) && !x44))]) (h1 := [.cells 57 [vi a0.f0_Kind, vs a0.f1_Path, vs a0.f2_To, vi a0.f3_At, .p (.sl 1 ByteArray eS a0.f4_Old), .p (.sl 1 ByteArray eS a0.f5_New), v8 (a0.f6_Key.getD 0 0), v8 (a0.f6_Key.getD 1 0), v8 (a0.f6_Key.getD 2 0), v8 (a0.f6_Key.getD 3 0), v8 (a0.f6_Key.getD 4 0), v8 (a0.f6_Key.getD 5 0), v8 (a0.f6_Key.getD 6 0), v8 (a0.f6_Key.getD 7 0), v8 (a0.f6_Key.getD 8 0), v8 (a0.f6_Key.getD 9 0), v8 (a0.f6_Key.getD 10 0), v8 (a0.f6_Key.getD 11 0), v8 (a0.f6_Key.getD 12 0), v8 (a0.f6_Key.getD 13 0), v8 (a0.f6_Key.getD 14 0), v8 (a0.f6_Key.getD 15 0), v8 (a0.f6_Key.getD 16 0), v8 (a0.f6_Key.getD 17 0), v8 (a0.f6_Key.getD 18 0), v8 (a0.f6_Key.getD 19 0), v8 (a0.f6_Key.getD 20 0), v8 (a0.f6_Key.getD 21 0), v8 (a0.f6_Key.getD 22 0), v8 (a0.f6_Key.getD 23 0), v8 (a0.f6_Key.getD 24 0), v8 (a0.f6_Key.getD 25 0), v8 (a0.f6_Key.getD 26 0), v8 (a0.f6_Key.getD 27 0), v8 (a0.f6_Key.getD 28 0), v8 (a0.f6_Key.getD 29 0), v8 (a0.f6_Key.getD 30 0), v8 (a0.f6_Key.getD 31 0), vi a0.f7_Depth], .cells 154 [vb (!decide (a0.f2_To = ⟨#[]⟩)), vb (!decide (a0.f3_At = 0)), vb (decide ((a0.f4_Old.length : Int) > 0)), vb (decide ((a0.f5_New.length : Int) > 0)), vb (!decide (arl a0.f6_Key 32 0 = List.replicate 32 0)), vb (!decide (a0.f7_Depth = 0))]]) (by kernel_rfl) (by kernel_rfl) (by kernel_rfl) (by kernel_rfl) (by kernel_rfl) ?_
                    refine qi (t := ((!decide (arl a0.f6_Key 32 0 = List.replicate 32 0)) && !x44)) (by kernel_rfl) (fun c => ?_) (fun c => ?_)
                    · rw [if_pos c] at H
                      clear c
                      refine qs ?_
                      refine qg ?_
                      refine qz T_ok 1 [4] 0 (E2 := [(4, [], vb false)]) (h1 := []) (by kernel_rfl) (by kernel_rfl) (by kernel_rfl) (by kernel_rfl) (by kernel_rfl) ?_
                      refine qt ?_
                      obtain rfl := Option.some.inj H
                      exact ⟨vb false, by kernel_rfl, rfl⟩
                    · rw [if_neg (by rw [c]; exact Bool.false_ne_true)] at H
                      clear c
                      refine qw [1, 5, 6, 7] rfl ?_
                      refine qk ?_
                      refine qr T_ok [1, 5, 6, 7] (E2 := [(1, [], vs a1), (5, [], .ptr 1 0), (6, [], vs ⟨#[84, 65, 79, 78, 75, 68]⟩), (7, [], vi (w64 (x9 + 1)))]) (by kernel_rfl) ?_
                      exact ⟨_, Nat.lt_succ_self _, w64 (x9 + 1), rfl, rfl, by rw [hb2] at H; exact H⟩
                  · rw [if_neg c57] at H
                    clear c57
                    by_cases c56 : x9 = 5
                    · rw [if_pos c56] at H
                      refine qy rfl (zAk T_ok (n := 6) (e := 4) (k := .i64) (iv := x9) (c := 5) (ei := ti4) (b := 1) (off := 0) rfl (by kernel_rfl) (by kernel_rfl) (by kernel_rfl) (by kernel_rfl) c56 (by kernel_rfl)) rfl (by kernel_rfl) rfl ?_
                      refine qz T_ok 5 [1, 5, 6, 7, 58] 2 (E2 := [(1, [], vs a1), (5, [], .ptr 1 0), (6, [], vs ⟨#[84, 65, 79, 78, 75, 68]⟩), (7, [], vi x9), (58, [], vb (!decide (a0.f7_Depth = 0) && !x44))]) (h1 := [.cells 57 [vi a0.f0_Kind, vs a0.f1_Path, vs a0.f2_To, vi a0.f3_At, .p (.sl 1 ByteArray eS a0.f4_Old), .p (.sl 1 ByteArray eS a0.f5_New), v8 (a0.f6_Key.getD 0 0), v8 (a0.f6_Key.getD 1 0), v8 (a0.f6_Key.getD 2 0), v8 (a0.f6_Key.getD 3 0), v8 (a0.f6_Key.getD 4 0), v8 (a0.f6_Key.getD 5 0), v8 (a0.f6_Key.getD 6 0), v8 (a0.f6_Key.getD 7 0), v8 (a0.f6_Key.getD 8 0), v8 (a0.f6_Key.getD 9 0), v8 (a0.f6_Key.getD 10 0), v8 (a0.f6_Key.getD 11 0), v8 (a0.f6_Key.getD 12 0), v8 (a0.f6_Key.getD 13 0), v8 (a0.f6_Key.getD 14 0), v8 (a0.f6_Key.getD 15 0), v8 (a0.f6_Key.getD 16 0), v8 (a0.f6_Key.getD 17 0), v8 (a0.f6_Key.getD 18 0), v8 (a0.f6_Key.getD 19 0), v8 (a0.f6_Key.getD 20 0), v8 (a0.f6_Key.getD 21 0), v8 (a0.f6_Key.getD 22 0), v8 (a0.f6_Key.getD 23 0), v8 (a0.f6_Key.getD 24 0), v8 (a0.f6_Key.getD 25 0), v8 (a0.f6_Key.getD 26 0), v8 (a0.f6_Key.getD 27 0), v8 (a0.f6_Key.getD 28 0), v8 (a0.f6_Key.getD 29 0), v8 (a0.f6_Key.getD 30 0), v8 (a0.f6_Key.getD 31 0), vi a0.f7_Depth], .cells 154 [vb (!decide (a0.f2_To = ⟨#[]⟩)), vb (!decide (a0.f3_At = 0)), vb (decide ((a0.f4_Old.length : Int) > 0)), vb (decide ((a0.f5_New.length : Int) > 0)), vb (!decide (arl a0.f6_Key 32 0 = List.replicate 32 0)), vb (!decide (a0.f7_Depth = 0))]]) (by kernel_rfl) (by kernel_rfl) (by kernel_rfl) (by kernel_rfl) (by kernel_rfl) ?_
                      refine qi (t := (!decide (a0.f7_Depth = 0) && !x44)) (by kernel_rfl) (fun c => ?_) (fun c => ?_)
                      · rw [if_pos c] at H
                        clear c
                        refine qs ?_
                        refine qg ?_
                        refine qz T_ok 1 [4] 0 (E2 := [(4, [], vb false)]) (h1 := []) (by kernel_rfl) (by kernel_rfl) (by kernel_rfl) (by kernel_rfl) (by kernel_rfl) ?_
                        refine qt ?_
                        obtain rfl := Option.some.inj H
                        exact ⟨vb false, by kernel_rfl, rfl⟩
                      · rw [if_neg (by rw [c]; exact Bool.false_ne_true)] at H
                        clear c
                        refine qw [1, 5, 6, 7] rfl ?_
                        refine qk ?_
                        refine qr T_ok [1, 5, 6, 7] (E2 := [(1, [], vs a1), (5, [], .ptr 1 0), (6, [], vs ⟨#[84, 65, 79, 78, 75, 68]⟩), (7, [], vi (w64 (x9 + 1)))]) (by kernel_rfl) ?_
                        exact ⟨_, Nat.lt_succ_self _, w64 (x9 + 1), rfl, rfl, by rw [hb2] at H; exact H⟩
                    · rw [if_neg c56] at H
                      clear c56
                      exact nomatch (show none = some r from H)
    · rw [if_neg (of_decide_eq_false c)] at H
      clear c
      refine qw [] rfl ?_
      refine qx ?_
      refine qs ?_
      refine qg ?_
      refine qz T_ok 1 [4] 0 (E2 := [(4, [], vb true)]) (h1 := []) (by kernel_rfl) (by kernel_rfl) (by kernel_rfl) (by kernel_rfl) (by kernel_rfl) ?_
      refine qt ?_
      obtain rfl := Option.some.inj H
      exact ⟨vb true, by kernel_rfl, rfl⟩
end Go.Proofs.YtngcfmnmjkncoaaDoor.Q
