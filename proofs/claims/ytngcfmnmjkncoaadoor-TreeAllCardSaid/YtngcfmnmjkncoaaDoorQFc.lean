/- Go functions as Lean functions, and that the code answers what they say; no condition but the typed premises. -/
import Derived.Test.YtngcfmnmjkncoaaDoorQT
import Derived.Test.YtngcfmnmjkncoaaDoorQFb
namespace Go.Proofs.YtngcfmnmjkncoaaDoor.Q
open Go Go.RowKit
set_option maxRecDepth 100000
set_option maxHeartbeats 20000000
set_option linter.unusedVariables false
set_option linter.unusedSimpArgs false
/-! ### quitclaim/quitclaimref11.Line: function 84 -/
def quitclaimref11_Line.l0 (a0 : ByteArray) : Nat → Int → Option Bool
  | 0, _ => none
  | k + 1, x2 => (if x2 < (a0.size : Int) then ((bx a0 x2).bind fun x4 => (if x4 = 10 then some false else quitclaimref11_Line.l0 a0 k (w64 (x2 + 1)))) else some (decide ((a0.size : Int) ≤ 200)))
def quitclaimref11_Line.f (k : Nat) (a0 : ByteArray) : Option Bool := quitclaimref11_Line.l0 a0 k 0
theorem quitclaimref11_Line.ok (k : Nat) (a0 : ByteArray) (r : Bool) (H : quitclaimref11_Line.f k a0 = some r) : PF Tryd.prog 84 [vs a0] (vb r) := by
  refine PF_mk T_ok Tryd.func84 rfl (by kernel_rfl) (by kernel_rfl) ?_
  unfold quitclaimref11_Line.f at H
  refine qs ?_
  refine qr T_ok [0] (E2 := [(0, [], vs a0)]) (by kernel_rfl) ?_
  refine qs ?_
  refine qs ?_
  refine qr T_ok [0, 3] (E2 := [(0, [], vs a0), (3, [], vi 0)]) (by kernel_rfl) ?_
  refine qb ?_
  refine qp (fun k E h => ∃ x2 : Int, E = [(0, [], vs a0), (3, [], vi x2)] ∧ h = [] ∧ quitclaimref11_Line.l0 a0 k x2 = some r) k ⟨0, rfl, rfl, H⟩ ?_
  clear H
  rintro k E h ⟨x2, rfl, rfl, H⟩
  cases k with
  | zero => exact nomatch (show none = some r from H)
  | succ k =>
    rw [quitclaimref11_Line.l0] at H
    refine qs ?_
    refine qs ?_
    refine qr T_ok [0, 3, 7] (E2 := [(0, [], vs a0), (3, [], vi x2), (7, [], vb (decide (x2 < (a0.size : Int))))]) (by kernel_rfl) ?_
    refine qi (t := decide (x2 < (a0.size : Int))) (by kernel_rfl) (fun c => ?_) (fun c => ?_)
    · rw [if_pos (of_decide_eq_true c)] at H
      clear c
      refine qw [0, 3] rfl ?_
      refine qk ?_
      refine qs ?_
      refine qb ?_
      refine qs ?_
      refine qg ?_
      refine qm T_ok 2 (k := 2) (by kernel_rfl) (by kernel_rfl) (by kernel_rfl) ?_
      obtain ⟨x4, hx, H⟩ := bd H
      refine qy rfl (zb T_ok .i64 hx rfl (by kernel_rfl) (by kernel_rfl) (by kernel_rfl)) rfl (by kernel_rfl) rfl ?_
      clear hx
      refine qz T_ok 1 [0, 3, 13] 0 (E2 := [(0, [], vs a0), (3, [], vi x2), (13, [], vb (decide (x4 = 10)))]) (h1 := []) (by kernel_rfl) (by kernel_rfl) (by kernel_rfl) (by kernel_rfl) (by kernel_rfl) ?_
      refine qi (t := decide (x4 = 10)) (by kernel_rfl) (fun c => ?_) (fun c => ?_)
      · rw [if_pos (of_decide_eq_true c)] at H
        clear c
        refine qs ?_
        refine qr T_ok [2] (E2 := [(2, [], vb false)]) (by kernel_rfl) ?_
        refine qt ?_
        obtain rfl := Option.some.inj H
        exact ⟨vb false, by kernel_rfl, rfl⟩
      · rw [if_neg (of_decide_eq_false c)] at H
        clear c
        refine qw [0, 3] rfl ?_
        refine qk ?_
        refine qr T_ok [0, 3] (E2 := [(0, [], vs a0), (3, [], vi (w64 (x2 + 1)))]) (by kernel_rfl) ?_
        exact ⟨_, Nat.lt_succ_self _, w64 (x2 + 1), rfl, rfl, H⟩
    · rw [if_neg (of_decide_eq_false c)] at H
      clear c
      refine qw [0] rfl ?_
      refine qx ?_
      refine qs ?_
      refine qr T_ok [2] (E2 := [(2, [], vb (decide ((a0.size : Int) ≤ 200)))]) (by kernel_rfl) ?_
      refine qt ?_
      obtain rfl := Option.some.inj H
      exact ⟨vb (decide ((a0.size : Int) ≤ 200)), by kernel_rfl, rfl⟩
/-! ### quitclaim/quitclaimref11.Lines: function 52 -/
def quitclaimref11_Lines.l0 (a0 : List ByteArray) : Nat → Int → Option Bool
  | 0, _ => none
  | k + 1, x3 => (if x3 < (a0.length : Int) then ((ix a0 x3).bind fun x6 => ((quitclaimref11_Line.f k x6).bind fun x7 => (if (!x7) = true then some false else quitclaimref11_Lines.l0 a0 k (w64 (x3 + 1))))) else some (decide ((a0.length : Int) ≤ 1000)))
def quitclaimref11_Lines.f (k : Nat) (a0 : List ByteArray) : Option Bool := quitclaimref11_Lines.l0 a0 k 0
theorem quitclaimref11_Lines.ok (k : Nat) (a0 : List ByteArray) (r : Bool) (H : quitclaimref11_Lines.f k a0 = some r) : PF Tryd.prog 52 [.p (.sl 1 ByteArray eS a0)] (vb r) := by
  refine PF_mk T_ok Tryd.func52 rfl (by kernel_rfl) (by kernel_rfl) ?_
  unfold quitclaimref11_Lines.f at H
  refine qs ?_
  refine qr T_ok [0] (E2 := [(0, [], .p (.sl 1 ByteArray eS a0))]) (by kernel_rfl) ?_
  refine qs ?_
  refine qs ?_
  refine qr T_ok [0, 3] (E2 := [(0, [], .p (.sl 1 ByteArray eS a0)), (3, [], vi 0)]) (by kernel_rfl) ?_
  refine qb ?_
  refine qp (fun k E h => ∃ x3 : Int, E = [(0, [], .p (.sl 1 ByteArray eS a0)), (3, [], vi x3)] ∧ h = [] ∧ quitclaimref11_Lines.l0 a0 k x3 = some r) k ⟨0, rfl, rfl, H⟩ ?_
  clear H
  rintro k E h ⟨x3, rfl, rfl, H⟩
  cases k with
  | zero => exact nomatch (show none = some r from H)
  | succ k =>
    rw [quitclaimref11_Lines.l0] at H
    refine qs ?_
    refine qs ?_
    refine qr T_ok [0, 3, 7] (E2 := [(0, [], .p (.sl 1 ByteArray eS a0)), (3, [], vi x3), (7, [], vb (decide (x3 < (a0.length : Int))))]) (by kernel_rfl) ?_
    refine qi (t := decide (x3 < (a0.length : Int))) (by kernel_rfl) (fun c => ?_) (fun c => ?_)
    · rw [if_pos (of_decide_eq_true c)] at H
      clear c
      refine qw [0, 3] rfl ?_
      refine qk ?_
      refine qs ?_
      refine qb ?_
      refine qs ?_
      refine qg ?_
      refine qm T_ok 2 (k := 2) (by kernel_rfl) (by kernel_rfl) (by kernel_rfl) ?_
      obtain ⟨x6, hx, H⟩ := bd H
      refine qy rfl (zi T_ok .i64 (enc := eS) (l := a0) (e := 9) (n := 1) (ei := ti9) (sa := (.p (.sl 1 ByteArray eS a0))) hx rfl (by kernel_rfl) (by kernel_rfl) rfl (by kernel_rfl) (by kernel_rfl) (by kernel_rfl)) rfl (by kernel_rfl) rfl ?_
      clear hx
      refine qm T_ok 1 (k := 4) (by kernel_rfl) (by kernel_rfl) (by kernel_rfl) ?_
      obtain ⟨x7, hx, H⟩ := bd H
      refine qy rfl (zc (T := T) (quitclaimref11_Line.ok k x6 _ hx) Tryd.func84 rfl rfl (caps := []) (by kernel_rfl) (by kernel_rfl) (by kernel_rfl) (by kernel_rfl) (by kernel_rfl) (by kernel_rfl)) rfl (by kernel_rfl) rfl ?_
      clear hx
      refine qz T_ok 1 [0, 3, 15] 0 (E2 := [(0, [], .p (.sl 1 ByteArray eS a0)), (3, [], vi x3), (15, [], vb (!x7))]) (h1 := []) (by kernel_rfl) (by kernel_rfl) (by kernel_rfl) (by kernel_rfl) (by kernel_rfl) ?_
      refine qi (t := !x7) (by kernel_rfl) (fun c => ?_) (fun c => ?_)
      · rw [if_pos c] at H
        clear c
        refine qs ?_
        refine qr T_ok [2] (E2 := [(2, [], vb false)]) (by kernel_rfl) ?_
        refine qt ?_
        obtain rfl := Option.some.inj H
        exact ⟨vb false, by kernel_rfl, rfl⟩
      · rw [if_neg (by rw [c]; exact Bool.false_ne_true)] at H
        clear c
        refine qw [0, 3] rfl ?_
        refine qk ?_
        refine qr T_ok [0, 3] (E2 := [(0, [], .p (.sl 1 ByteArray eS a0)), (3, [], vi (w64 (x3 + 1)))]) (by kernel_rfl) ?_
        exact ⟨_, Nat.lt_succ_self _, w64 (x3 + 1), rfl, rfl, H⟩
    · rw [if_neg (of_decide_eq_false c)] at H
      clear c
      refine qw [0] rfl ?_
      refine qx ?_
      refine qs ?_
      refine qr T_ok [2] (E2 := [(2, [], vb (decide ((a0.length : Int) ≤ 1000)))]) (by kernel_rfl) ?_
      refine qt ?_
      obtain rfl := Option.some.inj H
      exact ⟨vb (decide ((a0.length : Int) ≤ 1000)), by kernel_rfl, rfl⟩
/-! ### quitclaim/quitclaimref11.Right: function 118 -/
def quitclaimref11_Right.f (k : Nat) (a0 : S_At_Old_New) : Option Bool := ((gd (decide (a0.f0_At ≥ 0) && decide (a0.f0_At ≤ 1000)) (quitclaimref11_Lines.f k a0.f1_Old)).bind fun x1 => ((gd ((decide (a0.f0_At ≥ 0) && decide (a0.f0_At ≤ 1000)) && x1) (quitclaimref11_Lines.f k a0.f2_New)).bind fun x2 => some ((((decide (a0.f0_At ≥ 0) && decide (a0.f0_At ≤ 1000)) && x1) && x2) && (decide ((a0.f1_Old.length : Int) > 0) || decide ((a0.f2_New.length : Int) > 0)))))
theorem quitclaimref11_Right.ok (k : Nat) (a0 : S_At_Old_New) (r : Bool) (H : quitclaimref11_Right.f k a0 = some r) : PF Tryd.prog 118 [.p (.agg [(.s (.int .i64 a0.f0_At)), (.sl 1 ByteArray eS a0.f1_Old), (.sl 1 ByteArray eS a0.f2_New)])] (vb r) := by
  refine PF_mk T_ok Tryd.func118 rfl (by kernel_rfl) (by kernel_rfl) ?_
  unfold quitclaimref11_Right.f at H
  refine qs ?_
  refine qg ?_
  refine xb (T := T) (j := 0) (cs := [vi a0.f0_At, .p (.sl 1 ByteArray eS a0.f1_Old), .p (.sl 1 ByteArray eS a0.f2_New)]) rfl rfl rfl rfl (by kernel_rfl) (by kernel_rfl) rfl ?_
  refine qz T_ok 1 [1] 1 (E2 := [(1, [], .ptr 0 0)]) (h1 := [.cells 127 [vi a0.f0_At, .p (.sl 1 ByteArray eS a0.f1_Old), .p (.sl 1 ByteArray eS a0.f2_New)]]) (by kernel_rfl) (by kernel_rfl) (by kernel_rfl) (by kernel_rfl) (by kernel_rfl) ?_
  refine qs ?_
  refine qg ?_
  refine qm T_ok 11 (k := 11) (by kernel_rfl) (by kernel_rfl) (by kernel_rfl) ?_
  obtain ⟨x1, hx, H⟩ := bd H
  refine qyg rfl (tg := []) (Yld.under (u := 11) (b := true) (t := (decide (a0.f0_At ≥ 0) && decide (a0.f0_At ≤ 1000))) (by kernel_rfl) (by simp) fun g0_ => (zc (T := T) (quitclaimref11_Lines.ok k a0.f1_Old _ (gd1 hx g0_)) Tryd.func52 rfl rfl (caps := []) (by kernel_rfl) (by kernel_rfl) (by kernel_rfl) (by kernel_rfl) (by kernel_rfl) (by kernel_rfl))) rfl rfl (by kernel_rfl) (by kernel_rfl) rfl ?_
  clear hx
  refine qm T_ok 4 (k := 16) (by kernel_rfl) (by kernel_rfl) (by kernel_rfl) ?_
  obtain ⟨x2, hx, H⟩ := bd H
  refine qyg rfl (tg := []) (Yld.under (u := 16) (b := true) (t := ((decide (a0.f0_At ≥ 0) && decide (a0.f0_At ≤ 1000)) && x1)) (by kernel_rfl) (by simp) fun g0_ => (zc (T := T) (quitclaimref11_Lines.ok k a0.f2_New _ (gd1 hx g0_)) Tryd.func52 rfl rfl (caps := []) (by kernel_rfl) (by kernel_rfl) (by kernel_rfl) (by kernel_rfl) (by kernel_rfl) (by kernel_rfl))) rfl rfl (by kernel_rfl) (by kernel_rfl) rfl ?_
  clear hx
  refine qz T_ok 14 [2] 0 (E2 := [(2, [], vb ((((decide (a0.f0_At ≥ 0) && decide (a0.f0_At ≤ 1000)) && x1) && x2) && (decide ((a0.f1_Old.length : Int) > 0) || decide ((a0.f2_New.length : Int) > 0))))]) (h1 := []) (by kernel_rfl) (by kernel_rfl) (by kernel_rfl) (by kernel_rfl) (by kernel_rfl) ?_
  refine qt ?_
  obtain rfl := Option.some.inj H
  exact ⟨vb ((((decide (a0.f0_At ≥ 0) && decide (a0.f0_At ≤ 1000)) && x1) && x2) && (decide ((a0.f1_Old.length : Int) > 0) || decide ((a0.f2_New.length : Int) > 0))), by kernel_rfl, rfl⟩
/-! ### quitclaim/quitclaimref13.prefix: function 119 -/
def quitclaimref13_prefix.f (k : Nat) (a0 : ByteArray) : Option Bool := ((gd (!(decide (a0 = ⟨#[]⟩))) (quitclaimref10_Right.f k a0)).bind fun x1 => some (decide (a0 = ⟨#[]⟩) || x1))
theorem quitclaimref13_prefix.ok (k : Nat) (a0 : ByteArray) (r : Bool) (H : quitclaimref13_prefix.f k a0 = some r) : PF Tryd.prog 119 [vs a0] (vb r) := by
  refine PF_mk T_ok Tryd.func119 rfl (by kernel_rfl) (by kernel_rfl) ?_
  unfold quitclaimref13_prefix.f at H
  refine qs ?_
  refine qr T_ok [0] (E2 := [(0, [], vs a0)]) (by kernel_rfl) ?_
  refine qs ?_
  refine qg ?_
  refine qm T_ok 4 (k := 4) (by kernel_rfl) (by kernel_rfl) (by kernel_rfl) ?_
  obtain ⟨x1, hx, H⟩ := bd H
  refine qyg rfl (tg := []) (Yld.under (u := 5) (b := false) (t := decide (a0 = ⟨#[]⟩)) (by kernel_rfl) (by simp) fun g0_ => (zc (T := T) (quitclaimref10_Right.ok k a0 _ (gd0 hx g0_)) Tryd.func10 rfl rfl (caps := []) (by kernel_rfl) (by kernel_rfl) (by kernel_rfl) (by kernel_rfl) (by kernel_rfl) (by kernel_rfl))) rfl rfl (by kernel_rfl) (by kernel_rfl) rfl ?_
  clear hx
  refine qz T_ok 2 [2] 0 (E2 := [(2, [], vb (decide (a0 = ⟨#[]⟩) || x1))]) (h1 := []) (by kernel_rfl) (by kernel_rfl) (by kernel_rfl) (by kernel_rfl) (by kernel_rfl) ?_
  refine qt ?_
  obtain rfl := Option.some.inj H
  exact ⟨vb (decide (a0 = ⟨#[]⟩) || x1), by kernel_rfl, rfl⟩
/-! ### quitclaim/quitclaimref13.Right: function 91 -/
def quitclaimref13_Right.f (k : Nat) (a0 : S_Op) : Option Int := (if (decide (a0.f0_Kind < 1) || decide (a0.f0_Kind > 6)) = true then some 1 else (jn (fun (x3 : Bool) => (jn (fun (x9 : Bool) => (jn (fun (x16 : Bool) => (jn (fun (x23 : Bool) => (jn (fun (x29 : Bool) => (jn (fun (x34 : Bool) => (if (!x34) = true then some 3 else (if (decide (a0.f7_Depth < 0) || decide (a0.f7_Depth > 8)) = true then some 5 else some 0))) fun j5 => (if a0.f0_Kind = 6 then ((quitclaimref13_prefix.f k a0.f1_Path).bind fun x35 => ((gd x35 (quitclaimref13_only.f k a0 ⟨#[75]⟩)).bind fun x36 => j5 (x35 && x36))) else j5 x29))) fun j4 => (if a0.f0_Kind = 5 then ((quitclaimref13_prefix.f k a0.f1_Path).bind fun x30 => ((gd x30 (quitclaimref13_only.f k a0 ⟨#[75, 68]⟩)).bind fun x31 => j4 (x30 && x31))) else j4 x23))) fun j3 => (if a0.f0_Kind = 4 then ((quitclaimref10_Right.f k a0.f1_Path).bind fun x24 => ((gd x24 (quitclaimref10_Right.f k a0.f2_To)).bind fun x25 => ((gd ((x24 && x25) && !decide (a0.f1_Path = a0.f2_To)) (quitclaimref13_only.f k a0 ⟨#[84]⟩)).bind fun x26 => j3 (((x24 && x25) && !decide (a0.f1_Path = a0.f2_To)) && x26)))) else j3 x16))) fun j2 => (if a0.f0_Kind = 3 then ((quitclaimref10_Right.f k a0.f1_Path).bind fun x17 => ((gd x17 (quitclaimref11_Right.f k (⟨a0.f3_At, a0.f4_Old, a0.f5_New⟩ : S_At_Old_New))).bind fun x18 => ((gd (x17 && x18) (quitclaimref13_only.f k a0 ⟨#[65, 79, 78]⟩)).bind fun x19 => j2 ((x17 && x18) && x19)))) else j2 x9))) fun j1 => (if a0.f0_Kind = 2 then ((quitclaimref10_Right.f k a0.f1_Path).bind fun x10 => ((gd x10 (quitclaimref11_Lines.f k a0.f4_Old)).bind fun x11 => ((gd (x10 && x11) (quitclaimref13_only.f k a0 ⟨#[79]⟩)).bind fun x12 => j1 ((x10 && x11) && x12)))) else j1 x3))) fun j0 => (if a0.f0_Kind = 1 then ((quitclaimref10_Right.f k a0.f1_Path).bind fun x4 => ((gd x4 (quitclaimref13_only.f k a0 ⟨#[]⟩)).bind fun x5 => j0 (x4 && x5))) else j0 false)))
theorem quitclaimref13_Right.ok (k : Nat) (a0 : S_Op) (r : Int) (H : quitclaimref13_Right.f k a0 = some r) : PF Tryd.prog 91 [.p (.agg [(.s (.int .i64 a0.f0_Kind)), (.s (.string a0.f1_Path)), (.s (.string a0.f2_To)), (.s (.int .i64 a0.f3_At)), (.sl 1 ByteArray eS a0.f4_Old), (.sl 1 ByteArray eS a0.f5_New), (.s (.int .u8 (a0.f6_Key.getD 0 0))), (.s (.int .u8 (a0.f6_Key.getD 1 0))), (.s (.int .u8 (a0.f6_Key.getD 2 0))), (.s (.int .u8 (a0.f6_Key.getD 3 0))), (.s (.int .u8 (a0.f6_Key.getD 4 0))), (.s (.int .u8 (a0.f6_Key.getD 5 0))), (.s (.int .u8 (a0.f6_Key.getD 6 0))), (.s (.int .u8 (a0.f6_Key.getD 7 0))), (.s (.int .u8 (a0.f6_Key.getD 8 0))), (.s (.int .u8 (a0.f6_Key.getD 9 0))), (.s (.int .u8 (a0.f6_Key.getD 10 0))), (.s (.int .u8 (a0.f6_Key.getD 11 0))), (.s (.int .u8 (a0.f6_Key.getD 12 0))), (.s (.int .u8 (a0.f6_Key.getD 13 0))), (.s (.int .u8 (a0.f6_Key.getD 14 0))), (.s (.int .u8 (a0.f6_Key.getD 15 0))), (.s (.int .u8 (a0.f6_Key.getD 16 0))), (.s (.int .u8 (a0.f6_Key.getD 17 0))), (.s (.int .u8 (a0.f6_Key.getD 18 0))), (.s (.int .u8 (a0.f6_Key.getD 19 0))), (.s (.int .u8 (a0.f6_Key.getD 20 0))), (.s (.int .u8 (a0.f6_Key.getD 21 0))), (.s (.int .u8 (a0.f6_Key.getD 22 0))), (.s (.int .u8 (a0.f6_Key.getD 23 0))), (.s (.int .u8 (a0.f6_Key.getD 24 0))), (.s (.int .u8 (a0.f6_Key.getD 25 0))), (.s (.int .u8 (a0.f6_Key.getD 26 0))), (.s (.int .u8 (a0.f6_Key.getD 27 0))), (.s (.int .u8 (a0.f6_Key.getD 28 0))), (.s (.int .u8 (a0.f6_Key.getD 29 0))), (.s (.int .u8 (a0.f6_Key.getD 30 0))), (.s (.int .u8 (a0.f6_Key.getD 31 0))), (.s (.int .i64 a0.f7_Depth))])] (vi r) := by
  refine PF_mk T_ok Tryd.func91 rfl (by kernel_rfl) (by kernel_rfl) ?_
  unfold quitclaimref13_Right.f at H
  refine qs ?_
  refine qg ?_
  refine xb (T := T) (j := 0) (cs := [vi a0.f0_Kind, vs a0.f1_Path, vs a0.f2_To, vi a0.f3_At, .p (.sl 1 ByteArray eS a0.f4_Old), .p (.sl 1 ByteArray eS a0.f5_New), v8 (a0.f6_Key.getD 0 0), v8 (a0.f6_Key.getD 1 0), v8 (a0.f6_Key.getD 2 0), v8 (a0.f6_Key.getD 3 0), v8 (a0.f6_Key.getD 4 0), v8 (a0.f6_Key.getD 5 0), v8 (a0.f6_Key.getD 6 0), v8 (a0.f6_Key.getD 7 0), v8 (a0.f6_Key.getD 8 0), v8 (a0.f6_Key.getD 9 0), v8 (a0.f6_Key.getD 10 0), v8 (a0.f6_Key.getD 11 0), v8 (a0.f6_Key.getD 12 0), v8 (a0.f6_Key.getD 13 0), v8 (a0.f6_Key.getD 14 0), v8 (a0.f6_Key.getD 15 0), v8 (a0.f6_Key.getD 16 0), v8 (a0.f6_Key.getD 17 0), v8 (a0.f6_Key.getD 18 0), v8 (a0.f6_Key.getD 19 0), v8 (a0.f6_Key.getD 20 0), v8 (a0.f6_Key.getD 21 0), v8 (a0.f6_Key.getD 22 0), v8 (a0.f6_Key.getD 23 0), v8 (a0.f6_Key.getD 24 0), v8 (a0.f6_Key.getD 25 0), v8 (a0.f6_Key.getD 26 0), v8 (a0.f6_Key.getD 27 0), v8 (a0.f6_Key.getD 28 0), v8 (a0.f6_Key.getD 29 0), v8 (a0.f6_Key.getD 30 0), v8 (a0.f6_Key.getD 31 0), vi a0.f7_Depth]) rfl rfl rfl rfl (by kernel_rfl) (by kernel_rfl) rfl ?_
  refine qz T_ok 1 [1] 1 (E2 := [(1, [], .ptr 0 0)]) (h1 := [.cells 57 [vi a0.f0_Kind, vs a0.f1_Path, vs a0.f2_To, vi a0.f3_At, .p (.sl 1 ByteArray eS a0.f4_Old), .p (.sl 1 ByteArray eS a0.f5_New), v8 (a0.f6_Key.getD 0 0), v8 (a0.f6_Key.getD 1 0), v8 (a0.f6_Key.getD 2 0), v8 (a0.f6_Key.getD 3 0), v8 (a0.f6_Key.getD 4 0), v8 (a0.f6_Key.getD 5 0), v8 (a0.f6_Key.getD 6 0), v8 (a0.f6_Key.getD 7 0), v8 (a0.f6_Key.getD 8 0), v8 (a0.f6_Key.getD 9 0), v8 (a0.f6_Key.getD 10 0), v8 (a0.f6_Key.getD 11 0), v8 (a0.f6_Key.getD 12 0), v8 (a0.f6_Key.getD 13 0), v8 (a0.f6_Key.getD 14 0), v8 (a0.f6_Key.getD 15 0), v8 (a0.f6_Key.getD 16 0), v8 (a0.f6_Key.getD 17 0), v8 (a0.f6_Key.getD 18 0), v8 (a0.f6_Key.getD 19 0), v8 (a0.f6_Key.getD 20 0), v8 (a0.f6_Key.getD 21 0), v8 (a0.f6_Key.getD 22 0), v8 (a0.f6_Key.getD 23 0), v8 (a0.f6_Key.getD 24 0), v8 (a0.f6_Key.getD 25 0), v8 (a0.f6_Key.getD 26 0), v8 (a0.f6_Key.getD 27 0), v8 (a0.f6_Key.getD 28 0), v8 (a0.f6_Key.getD 29 0), v8 (a0.f6_Key.getD 30 0), v8 (a0.f6_Key.getD 31 0), vi a0.f7_Depth]]) (by kernel_rfl) (by kernel_rfl) (by kernel_rfl) (by kernel_rfl) (by kernel_rfl) ?_
  refine qs ?_
  refine qs ?_
  refine qr T_ok [1, 11] (E2 := [(1, [], .ptr 0 0), (11, [], vb (decide (a0.f0_Kind < 1) || decide (a0.f0_Kind > 6)))]) (by kernel_rfl) ?_
  refine qi (t := (decide (a0.f0_Kind < 1) || decide (a0.f0_Kind > 6))) (by kernel_rfl) (fun c => ?_) (fun c => ?_)
  · rw [if_pos c] at H
    clear c
    refine qs ?_
    refine qg ?_
    refine qz T_ok 1 [2] 0 (E2 := [(2, [], vi 1)]) (h1 := []) (by kernel_rfl) (by kernel_rfl) (by kernel_rfl) (by kernel_rfl) (by kernel_rfl) ?_
    refine qt ?_
    obtain rfl := Option.some.inj H
    exact ⟨vi 1, by kernel_rfl, rfl⟩
  · rw [if_neg (by rw [c]; exact Bool.false_ne_true)] at H
    clear c
    refine qw [1] rfl ?_
    refine qk ?_
    refine qs ?_
    refine qr T_ok [1, 3] (E2 := [(1, [], .ptr 0 0), (3, [], vb false)]) (by kernel_rfl) ?_
    obtain ⟨j0, hj, H⟩ := jn_of H
    refine qc (fun E h => ∃ x3 : Bool, E = [(1, [], .ptr 0 0), (3, [], vb x3)] ∧ h = [.cells 57 [vi a0.f0_Kind, vs a0.f1_Path, vs a0.f2_To, vi a0.f3_At, .p (.sl 1 ByteArray eS a0.f4_Old), .p (.sl 1 ByteArray eS a0.f5_New), v8 (a0.f6_Key.getD 0 0), v8 (a0.f6_Key.getD 1 0), v8 (a0.f6_Key.getD 2 0), v8 (a0.f6_Key.getD 3 0), v8 (a0.f6_Key.getD 4 0), v8 (a0.f6_Key.getD 5 0), v8 (a0.f6_Key.getD 6 0), v8 (a0.f6_Key.getD 7 0), v8 (a0.f6_Key.getD 8 0), v8 (a0.f6_Key.getD 9 0), v8 (a0.f6_Key.getD 10 0), v8 (a0.f6_Key.getD 11 0), v8 (a0.f6_Key.getD 12 0), v8 (a0.f6_Key.getD 13 0), v8 (a0.f6_Key.getD 14 0), v8 (a0.f6_Key.getD 15 0), v8 (a0.f6_Key.getD 16 0), v8 (a0.f6_Key.getD 17 0), v8 (a0.f6_Key.getD 18 0), v8 (a0.f6_Key.getD 19 0), v8 (a0.f6_Key.getD 20 0), v8 (a0.f6_Key.getD 21 0), v8 (a0.f6_Key.getD 22 0), v8 (a0.f6_Key.getD 23 0), v8 (a0.f6_Key.getD 24 0), v8 (a0.f6_Key.getD 25 0), v8 (a0.f6_Key.getD 26 0), v8 (a0.f6_Key.getD 27 0), v8 (a0.f6_Key.getD 28 0), v8 (a0.f6_Key.getD 29 0), v8 (a0.f6_Key.getD 30 0), v8 (a0.f6_Key.getD 31 0), vi a0.f7_Depth]] ∧ j0 x3 = some r) ?_ ?_
    · clear hj
      refine qs ?_
      refine qr T_ok [1, 3, 14] (E2 := [(1, [], .ptr 0 0), (3, [], vb false), (14, [], vb (decide (a0.f0_Kind = 1)))]) (by kernel_rfl) ?_
      refine qi (t := decide (a0.f0_Kind = 1)) (by kernel_rfl) (fun c => ?_) (fun c => ?_)
      · rw [if_pos (of_decide_eq_true c)] at H
        clear c
        refine qg ?_
        refine qm T_ok 2 (k := 2) (by kernel_rfl) (by kernel_rfl) (by kernel_rfl) ?_
        obtain ⟨x4, hx, H⟩ := bd H
        refine qy rfl (zc (T := T) (quitclaimref10_Right.ok k a0.f1_Path _ hx) Tryd.func10 rfl rfl (caps := []) (by kernel_rfl) (by kernel_rfl) (by kernel_rfl) (by kernel_rfl) (by kernel_rfl) (by kernel_rfl)) rfl (by kernel_rfl) rfl ?_
        clear hx
        refine qm T_ok 2 (k := 5) (by kernel_rfl) (by kernel_rfl) (by kernel_rfl) ?_
        obtain ⟨x5, hx, H⟩ := bd H
        refine qyg rfl (tg := []) (Yld.under (u := 18) (b := true) (t := x4) (by kernel_rfl) (by simp) fun g0_ => (zc (T := T) (quitclaimref13_only.ok k a0 ⟨#[]⟩ _ (gd1 hx g0_)) Tryd.func117 rfl rfl (caps := []) (by kernel_rfl) (by kernel_rfl) (by kernel_rfl) (by kernel_rfl) (by kernel_rfl) (by kernel_rfl))) rfl rfl (by kernel_rfl) (by kernel_rfl) rfl ?_
        clear hx
        refine qz T_ok 2 [1, 3] 1 (E2 := [(1, [], .ptr 0 0), (3, [], vb (x4 && x5))]) (h1 := [.cells 57 [vi a0.f0_Kind, vs a0.f1_Path, vs a0.f2_To, vi a0.f3_At, .p (.sl 1 ByteArray eS a0.f4_Old), .p (.sl 1 ByteArray eS a0.f5_New), v8 (a0.f6_Key.getD 0 0), v8 (a0.f6_Key.getD 1 0), v8 (a0.f6_Key.getD 2 0), v8 (a0.f6_Key.getD 3 0), v8 (a0.f6_Key.getD 4 0), v8 (a0.f6_Key.getD 5 0), v8 (a0.f6_Key.getD 6 0), v8 (a0.f6_Key.getD 7 0), v8 (a0.f6_Key.getD 8 0), v8 (a0.f6_Key.getD 9 0), v8 (a0.f6_Key.getD 10 0), v8 (a0.f6_Key.getD 11 0), v8 (a0.f6_Key.getD 12 0), v8 (a0.f6_Key.getD 13 0), v8 (a0.f6_Key.getD 14 0), v8 (a0.f6_Key.getD 15 0), v8 (a0.f6_Key.getD 16 0), v8 (a0.f6_Key.getD 17 0), v8 (a0.f6_Key.getD 18 0), v8 (a0.f6_Key.getD 19 0), v8 (a0.f6_Key.getD 20 0), v8 (a0.f6_Key.getD 21 0), v8 (a0.f6_Key.getD 22 0), v8 (a0.f6_Key.getD 23 0), v8 (a0.f6_Key.getD 24 0), v8 (a0.f6_Key.getD 25 0), v8 (a0.f6_Key.getD 26 0), v8 (a0.f6_Key.getD 27 0), v8 (a0.f6_Key.getD 28 0), v8 (a0.f6_Key.getD 29 0), v8 (a0.f6_Key.getD 30 0), v8 (a0.f6_Key.getD 31 0), vi a0.f7_Depth]]) (by kernel_rfl) (by kernel_rfl) (by kernel_rfl) (by kernel_rfl) (by kernel_rfl) ?_
        exact ⟨(x4 && x5), rfl, rfl, H⟩
      · rw [if_neg (of_decide_eq_false c)] at H
        clear c
        refine qw [1, 3] rfl ?_
        refine qk ?_
        exact ⟨false, rfl, rfl, H⟩
    · clear H
      rintro E h ⟨x3, rfl, rfl, H⟩
      subst hj
      dsimp only at H
      obtain ⟨j1, hj, H⟩ := jn_of H
      refine qc (fun E h => ∃ x9 : Bool, E = [(1, [], .ptr 0 0), (3, [], vb x9)] ∧ h = [.cells 57 [vi a0.f0_Kind, vs a0.f1_Path, vs a0.f2_To, vi a0.f3_At, .p (.sl 1 ByteArray eS a0.f4_Old), .p (.sl 1 ByteArray eS a0.f5_New), v8 (a0.f6_Key.getD 0 0), v8 (a0.f6_Key.getD 1 0), v8 (a0.f6_Key.getD 2 0), v8 (a0.f6_Key.getD 3 0), v8 (a0.f6_Key.getD 4 0), v8 (a0.f6_Key.getD 5 0), v8 (a0.f6_Key.getD 6 0), v8 (a0.f6_Key.getD 7 0), v8 (a0.f6_Key.getD 8 0), v8 (a0.f6_Key.getD 9 0), v8 (a0.f6_Key.getD 10 0), v8 (a0.f6_Key.getD 11 0), v8 (a0.f6_Key.getD 12 0), v8 (a0.f6_Key.getD 13 0), v8 (a0.f6_Key.getD 14 0), v8 (a0.f6_Key.getD 15 0), v8 (a0.f6_Key.getD 16 0), v8 (a0.f6_Key.getD 17 0), v8 (a0.f6_Key.getD 18 0), v8 (a0.f6_Key.getD 19 0), v8 (a0.f6_Key.getD 20 0), v8 (a0.f6_Key.getD 21 0), v8 (a0.f6_Key.getD 22 0), v8 (a0.f6_Key.getD 23 0), v8 (a0.f6_Key.getD 24 0), v8 (a0.f6_Key.getD 25 0), v8 (a0.f6_Key.getD 26 0), v8 (a0.f6_Key.getD 27 0), v8 (a0.f6_Key.getD 28 0), v8 (a0.f6_Key.getD 29 0), v8 (a0.f6_Key.getD 30 0), v8 (a0.f6_Key.getD 31 0), vi a0.f7_Depth]] ∧ j1 x9 = some r) ?_ ?_
      · clear hj
        refine qs ?_
        refine qr T_ok [1, 3, 24] (E2 := [(1, [], .ptr 0 0), (3, [], vb x3), (24, [], vb (decide (a0.f0_Kind = 2)))]) (by kernel_rfl) ?_
        refine qi (t := decide (a0.f0_Kind = 2)) (by kernel_rfl) (fun c => ?_) (fun c => ?_)
        · rw [if_pos (of_decide_eq_true c)] at H
          clear c
          refine qg ?_
          refine qm T_ok 2 (k := 2) (by kernel_rfl) (by kernel_rfl) (by kernel_rfl) ?_
          obtain ⟨x10, hx, H⟩ := bd H
          refine qy rfl (zc (T := T) (quitclaimref10_Right.ok k a0.f1_Path _ hx) Tryd.func10 rfl rfl (caps := []) (by kernel_rfl) (by kernel_rfl) (by kernel_rfl) (by kernel_rfl) (by kernel_rfl) (by kernel_rfl)) rfl (by kernel_rfl) rfl ?_
          clear hx
          refine qm T_ok 3 (k := 6) (by kernel_rfl) (by kernel_rfl) (by kernel_rfl) ?_
          obtain ⟨x11, hx, H⟩ := bd H
          refine qyg rfl (tg := []) (Yld.under (u := 28) (b := true) (t := x10) (by kernel_rfl) (by simp) fun g0_ => (zc (T := T) (quitclaimref11_Lines.ok k a0.f4_Old _ (gd1 hx g0_)) Tryd.func52 rfl rfl (caps := []) (by kernel_rfl) (by kernel_rfl) (by kernel_rfl) (by kernel_rfl) (by kernel_rfl) (by kernel_rfl))) rfl rfl (by kernel_rfl) (by kernel_rfl) rfl ?_
          clear hx
          refine qm T_ok 3 (k := 10) (by kernel_rfl) (by kernel_rfl) (by kernel_rfl) ?_
          obtain ⟨x12, hx, H⟩ := bd H
          refine qyg rfl (tg := []) (Yld.under (u := 33) (b := true) (t := (x10 && x11)) (by kernel_rfl) (by simp) fun g0_ => (zc (T := T) (quitclaimref13_only.ok k a0 ⟨#[79]⟩ _ (gd1 hx g0_)) Tryd.func117 rfl rfl (caps := []) (by kernel_rfl) (by kernel_rfl) (by kernel_rfl) (by kernel_rfl) (by kernel_rfl) (by kernel_rfl))) rfl rfl (by kernel_rfl) (by kernel_rfl) rfl ?_
          clear hx
          refine qz T_ok 2 [1, 3] 1 (E2 := [(1, [], .ptr 0 0), (3, [], vb ((x10 && x11) && x12))]) (h1 := [.cells 57 [vi a0.f0_Kind, vs a0.f1_Path, vs a0.f2_To, vi a0.f3_At, .p (.sl 1 ByteArray eS a0.f4_Old), .p (.sl 1 ByteArray eS a0.f5_New), v8 (a0.f6_Key.getD 0 0), v8 (a0.f6_Key.getD 1 0), v8 (a0.f6_Key.getD 2 0), v8 (a0.f6_Key.getD 3 0), v8 (a0.f6_Key.getD 4 0), v8 (a0.f6_Key.getD 5 0), v8 (a0.f6_Key.getD 6 0), v8 (a0.f6_Key.getD 7 0), v8 (a0.f6_Key.getD 8 0), v8 (a0.f6_Key.getD 9 0), v8 (a0.f6_Key.getD 10 0), v8 (a0.f6_Key.getD 11 0), v8 (a0.f6_Key.getD 12 0), v8 (a0.f6_Key.getD 13 0), v8 (a0.f6_Key.getD 14 0), v8 (a0.f6_Key.getD 15 0), v8 (a0.f6_Key.getD 16 0), v8 (a0.f6_Key.getD 17 0), v8 (a0.f6_Key.getD 18 0), v8 (a0.f6_Key.getD 19 0), v8 (a0.f6_Key.getD 20 0), v8 (a0.f6_Key.getD 21 0), v8 (a0.f6_Key.getD 22 0), v8 (a0.f6_Key.getD 23 0), v8 (a0.f6_Key.getD 24 0), v8 (a0.f6_Key.getD 25 0), v8 (a0.f6_Key.getD 26 0), v8 (a0.f6_Key.getD 27 0), v8 (a0.f6_Key.getD 28 0), v8 (a0.f6_Key.getD 29 0), v8 (a0.f6_Key.getD 30 0), v8 (a0.f6_Key.getD 31 0), vi a0.f7_Depth]]) (by kernel_rfl) (by kernel_rfl) (by kernel_rfl) (by kernel_rfl) (by kernel_rfl) ?_
          exact ⟨((x10 && x11) && x12), rfl, rfl, H⟩
        · rw [if_neg (of_decide_eq_false c)] at H
          clear c
          refine qw [1, 3] rfl ?_
          refine qk ?_
          exact ⟨x3, rfl, rfl, H⟩
      · clear H
        rintro E h ⟨x9, rfl, rfl, H⟩
        subst hj
        dsimp only at H
        obtain ⟨j2, hj, H⟩ := jn_of H
        refine qc (fun E h => ∃ x16 : Bool, E = [(1, [], .ptr 0 0), (3, [], vb x16)] ∧ h = [.cells 57 [vi a0.f0_Kind, vs a0.f1_Path, vs a0.f2_To, vi a0.f3_At, .p (.sl 1 ByteArray eS a0.f4_Old), .p (.sl 1 ByteArray eS a0.f5_New), v8 (a0.f6_Key.getD 0 0), v8 (a0.f6_Key.getD 1 0), v8 (a0.f6_Key.getD 2 0), v8 (a0.f6_Key.getD 3 0), v8 (a0.f6_Key.getD 4 0), v8 (a0.f6_Key.getD 5 0), v8 (a0.f6_Key.getD 6 0), v8 (a0.f6_Key.getD 7 0), v8 (a0.f6_Key.getD 8 0), v8 (a0.f6_Key.getD 9 0), v8 (a0.f6_Key.getD 10 0), v8 (a0.f6_Key.getD 11 0), v8 (a0.f6_Key.getD 12 0), v8 (a0.f6_Key.getD 13 0), v8 (a0.f6_Key.getD 14 0), v8 (a0.f6_Key.getD 15 0), v8 (a0.f6_Key.getD 16 0), v8 (a0.f6_Key.getD 17 0), v8 (a0.f6_Key.getD 18 0), v8 (a0.f6_Key.getD 19 0), v8 (a0.f6_Key.getD 20 0), v8 (a0.f6_Key.getD 21 0), v8 (a0.f6_Key.getD 22 0), v8 (a0.f6_Key.getD 23 0), v8 (a0.f6_Key.getD 24 0), v8 (a0.f6_Key.getD 25 0), v8 (a0.f6_Key.getD 26 0), v8 (a0.f6_Key.getD 27 0), v8 (a0.f6_Key.getD 28 0), v8 (a0.f6_Key.getD 29 0), v8 (a0.f6_Key.getD 30 0), v8 (a0.f6_Key.getD 31 0), vi a0.f7_Depth]] ∧ j2 x16 = some r) ?_ ?_
        · clear hj
          refine qs ?_
          refine qr T_ok [1, 3, 39] (E2 := [(1, [], .ptr 0 0), (3, [], vb x9), (39, [], vb (decide (a0.f0_Kind = 3)))]) (by kernel_rfl) ?_
          refine qi (t := decide (a0.f0_Kind = 3)) (by kernel_rfl) (fun c => ?_) (fun c => ?_)
          · rw [if_pos (of_decide_eq_true c)] at H
            clear c
            refine qg ?_
            refine qm T_ok 2 (k := 2) (by kernel_rfl) (by kernel_rfl) (by kernel_rfl) ?_
            obtain ⟨x17, hx, H⟩ := bd H
            refine qy rfl (zc (T := T) (quitclaimref10_Right.ok k a0.f1_Path _ hx) Tryd.func10 rfl rfl (caps := []) (by kernel_rfl) (by kernel_rfl) (by kernel_rfl) (by kernel_rfl) (by kernel_rfl) (by kernel_rfl)) rfl (by kernel_rfl) rfl ?_
            clear hx
            refine qm T_ok 8 (k := 11) (by kernel_rfl) (by kernel_rfl) (by kernel_rfl) ?_
            obtain ⟨x18, hx, H⟩ := bd H
            refine qyg rfl (tg := []) (Yld.under (u := 43) (b := true) (t := x17) (by kernel_rfl) (by simp) fun g0_ => (zc (T := T) (quitclaimref11_Right.ok k (⟨a0.f3_At, a0.f4_Old, a0.f5_New⟩ : S_At_Old_New) _ (gd1 hx g0_)) Tryd.func118 rfl rfl (caps := []) (by kernel_rfl) (by kernel_rfl) (by kernel_rfl) (by kernel_rfl) (by kernel_rfl) (by kernel_rfl))) rfl rfl (by kernel_rfl) (by kernel_rfl) rfl ?_
            clear hx
            refine qm T_ok 3 (k := 15) (by kernel_rfl) (by kernel_rfl) (by kernel_rfl) ?_
            obtain ⟨x19, hx, H⟩ := bd H
            refine qyg rfl (tg := []) (Yld.under (u := 53) (b := true) (t := (x17 && x18)) (by kernel_rfl) (by simp) fun g0_ => (zc (T := T) (quitclaimref13_only.ok k a0 ⟨#[65, 79, 78]⟩ _ (gd1 hx g0_)) Tryd.func117 rfl rfl (caps := []) (by kernel_rfl) (by kernel_rfl) (by kernel_rfl) (by kernel_rfl) (by kernel_rfl) (by kernel_rfl))) rfl rfl (by kernel_rfl) (by kernel_rfl) rfl ?_
            clear hx
            refine qz T_ok 2 [1, 3] 1 (E2 := [(1, [], .ptr 0 0), (3, [], vb ((x17 && x18) && x19))]) (h1 := [.cells 57 [vi a0.f0_Kind, vs a0.f1_Path, vs a0.f2_To, vi a0.f3_At, .p (.sl 1 ByteArray eS a0.f4_Old), .p (.sl 1 ByteArray eS a0.f5_New), v8 (a0.f6_Key.getD 0 0), v8 (a0.f6_Key.getD 1 0), v8 (a0.f6_Key.getD 2 0), v8 (a0.f6_Key.getD 3 0), v8 (a0.f6_Key.getD 4 0), v8 (a0.f6_Key.getD 5 0), v8 (a0.f6_Key.getD 6 0), v8 (a0.f6_Key.getD 7 0), v8 (a0.f6_Key.getD 8 0), v8 (a0.f6_Key.getD 9 0), v8 (a0.f6_Key.getD 10 0), v8 (a0.f6_Key.getD 11 0), v8 (a0.f6_Key.getD 12 0), v8 (a0.f6_Key.getD 13 0), v8 (a0.f6_Key.getD 14 0), v8 (a0.f6_Key.getD 15 0), v8 (a0.f6_Key.getD 16 0), v8 (a0.f6_Key.getD 17 0), v8 (a0.f6_Key.getD 18 0), v8 (a0.f6_Key.getD 19 0), v8 (a0.f6_Key.getD 20 0), v8 (a0.f6_Key.getD 21 0), v8 (a0.f6_Key.getD 22 0), v8 (a0.f6_Key.getD 23 0), v8 (a0.f6_Key.getD 24 0), v8 (a0.f6_Key.getD 25 0), v8 (a0.f6_Key.getD 26 0), v8 (a0.f6_Key.getD 27 0), v8 (a0.f6_Key.getD 28 0), v8 (a0.f6_Key.getD 29 0), v8 (a0.f6_Key.getD 30 0), v8 (a0.f6_Key.getD 31 0), vi a0.f7_Depth]]) (by kernel_rfl) (by kernel_rfl) (by kernel_rfl) (by kernel_rfl) (by kernel_rfl) ?_
            exact ⟨((x17 && x18) && x19), rfl, rfl, H⟩
          · rw [if_neg (of_decide_eq_false c)] at H
            clear c
            refine qw [1, 3] rfl ?_
            refine qk ?_
            exact ⟨x9, rfl, rfl, H⟩
        · clear H
          rintro E h ⟨x16, rfl, rfl, H⟩
          subst hj
          dsimp only at H
          obtain ⟨j3, hj, H⟩ := jn_of H
          refine qc (fun E h => ∃ x23 : Bool, E = [(1, [], .ptr 0 0), (3, [], vb x23)] ∧ h = [.cells 57 [vi a0.f0_Kind, vs a0.f1_Path, vs a0.f2_To, vi a0.f3_At, .p (.sl 1 ByteArray eS a0.f4_Old), .p (.sl 1 ByteArray eS a0.f5_New), v8 (a0.f6_Key.getD 0 0), v8 (a0.f6_Key.getD 1 0), v8 (a0.f6_Key.getD 2 0), v8 (a0.f6_Key.getD 3 0), v8 (a0.f6_Key.getD 4 0), v8 (a0.f6_Key.getD 5 0), v8 (a0.f6_Key.getD 6 0), v8 (a0.f6_Key.getD 7 0), v8 (a0.f6_Key.getD 8 0), v8 (a0.f6_Key.getD 9 0), v8 (a0.f6_Key.getD 10 0), v8 (a0.f6_Key.getD 11 0), v8 (a0.f6_Key.getD 12 0), v8 (a0.f6_Key.getD 13 0), v8 (a0.f6_Key.getD 14 0), v8 (a0.f6_Key.getD 15 0), v8 (a0.f6_Key.getD 16 0), v8 (a0.f6_Key.getD 17 0), v8 (a0.f6_Key.getD 18 0), v8 (a0.f6_Key.getD 19 0), v8 (a0.f6_Key.getD 20 0), v8 (a0.f6_Key.getD 21 0), v8 (a0.f6_Key.getD 22 0), v8 (a0.f6_Key.getD 23 0), v8 (a0.f6_Key.getD 24 0), v8 (a0.f6_Key.getD 25 0), v8 (a0.f6_Key.getD 26 0), v8 (a0.f6_Key.getD 27 0), v8 (a0.f6_Key.getD 28 0), v8 (a0.f6_Key.getD 29 0), v8 (a0.f6_Key.getD 30 0), v8 (a0.f6_Key.getD 31 0), vi a0.f7_Depth]] ∧ j3 x23 = some r) ?_ ?_
          · clear hj
            refine qs ?_
            refine qr T_ok [1, 3, 59] (E2 := [(1, [], .ptr 0 0), (3, [], vb x16), (59, [], vb (decide (a0.f0_Kind = 4)))]) (by kernel_rfl) ?_
            refine qi (t := decide (a0.f0_Kind = 4)) (by kernel_rfl) (fun c => ?_) (fun c => ?_)
            · rw [if_pos (of_decide_eq_true c)] at H
              clear c
              refine qg ?_
              refine qm T_ok 2 (k := 2) (by kernel_rfl) (by kernel_rfl) (by kernel_rfl) ?_
              obtain ⟨x24, hx, H⟩ := bd H
              refine qy rfl (zc (T := T) (quitclaimref10_Right.ok k a0.f1_Path _ hx) Tryd.func10 rfl rfl (caps := []) (by kernel_rfl) (by kernel_rfl) (by kernel_rfl) (by kernel_rfl) (by kernel_rfl) (by kernel_rfl)) rfl (by kernel_rfl) rfl ?_
              clear hx
              refine qm T_ok 3 (k := 6) (by kernel_rfl) (by kernel_rfl) (by kernel_rfl) ?_
              obtain ⟨x25, hx, H⟩ := bd H
              refine qyg rfl (tg := []) (Yld.under (u := 63) (b := true) (t := x24) (by kernel_rfl) (by simp) fun g0_ => (zc (T := T) (quitclaimref10_Right.ok k a0.f2_To _ (gd1 hx g0_)) Tryd.func10 rfl rfl (caps := []) (by kernel_rfl) (by kernel_rfl) (by kernel_rfl) (by kernel_rfl) (by kernel_rfl) (by kernel_rfl))) rfl rfl (by kernel_rfl) (by kernel_rfl) rfl ?_
              clear hx
              refine qm T_ok 10 (k := 17) (by kernel_rfl) (by kernel_rfl) (by kernel_rfl) ?_
              obtain ⟨x26, hx, H⟩ := bd H
              refine qyg rfl (tg := []) (Yld.under (u := 75) (b := true) (t := ((x24 && x25) && !decide (a0.f1_Path = a0.f2_To))) (by kernel_rfl) (by simp) fun g0_ => (zc (T := T) (quitclaimref13_only.ok k a0 ⟨#[84]⟩ _ (gd1 hx g0_)) Tryd.func117 rfl rfl (caps := []) (by kernel_rfl) (by kernel_rfl) (by kernel_rfl) (by kernel_rfl) (by kernel_rfl) (by kernel_rfl))) rfl rfl (by kernel_rfl) (by kernel_rfl) rfl ?_
              clear hx
              refine qz T_ok 2 [1, 3] 1 (E2 := [(1, [], .ptr 0 0), (3, [], vb (((x24 && x25) && !decide (a0.f1_Path = a0.f2_To)) && x26))]) (h1 := [.cells 57 [vi a0.f0_Kind, vs a0.f1_Path, vs a0.f2_To, vi a0.f3_At, .p (.sl 1 ByteArray eS a0.f4_Old), .p (.sl 1 ByteArray eS a0.f5_New), v8 (a0.f6_Key.getD 0 0), v8 (a0.f6_Key.getD 1 0), v8 (a0.f6_Key.getD 2 0), v8 (a0.f6_Key.getD 3 0), v8 (a0.f6_Key.getD 4 0), v8 (a0.f6_Key.getD 5 0), v8 (a0.f6_Key.getD 6 0), v8 (a0.f6_Key.getD 7 0), v8 (a0.f6_Key.getD 8 0), v8 (a0.f6_Key.getD 9 0), v8 (a0.f6_Key.getD 10 0), v8 (a0.f6_Key.getD 11 0), v8 (a0.f6_Key.getD 12 0), v8 (a0.f6_Key.getD 13 0), v8 (a0.f6_Key.getD 14 0), v8 (a0.f6_Key.getD 15 0), v8 (a0.f6_Key.getD 16 0), v8 (a0.f6_Key.getD 17 0), v8 (a0.f6_Key.getD 18 0), v8 (a0.f6_Key.getD 19 0), v8 (a0.f6_Key.getD 20 0), v8 (a0.f6_Key.getD 21 0), v8 (a0.f6_Key.getD 22 0), v8 (a0.f6_Key.getD 23 0), v8 (a0.f6_Key.getD 24 0), v8 (a0.f6_Key.getD 25 0), v8 (a0.f6_Key.getD 26 0), v8 (a0.f6_Key.getD 27 0), v8 (a0.f6_Key.getD 28 0), v8 (a0.f6_Key.getD 29 0), v8 (a0.f6_Key.getD 30 0), v8 (a0.f6_Key.getD 31 0), vi a0.f7_Depth]]) (by kernel_rfl) (by kernel_rfl) (by kernel_rfl) (by kernel_rfl) (by kernel_rfl) ?_
              exact ⟨(((x24 && x25) && !decide (a0.f1_Path = a0.f2_To)) && x26), rfl, rfl, H⟩
            · rw [if_neg (of_decide_eq_false c)] at H
              clear c
              refine qw [1, 3] rfl ?_
              refine qk ?_
              exact ⟨x16, rfl, rfl, H⟩
          · clear H
            rintro E h ⟨x23, rfl, rfl, H⟩
            subst hj
            dsimp only at H
            obtain ⟨j4, hj, H⟩ := jn_of H
            refine qc (fun E h => ∃ x29 : Bool, E = [(1, [], .ptr 0 0), (3, [], vb x29)] ∧ h = [.cells 57 [vi a0.f0_Kind, vs a0.f1_Path, vs a0.f2_To, vi a0.f3_At, .p (.sl 1 ByteArray eS a0.f4_Old), .p (.sl 1 ByteArray eS a0.f5_New), v8 (a0.f6_Key.getD 0 0), v8 (a0.f6_Key.getD 1 0), v8 (a0.f6_Key.getD 2 0), v8 (a0.f6_Key.getD 3 0), v8 (a0.f6_Key.getD 4 0), v8 (a0.f6_Key.getD 5 0), v8 (a0.f6_Key.getD 6 0), v8 (a0.f6_Key.getD 7 0), v8 (a0.f6_Key.getD 8 0), v8 (a0.f6_Key.getD 9 0), v8 (a0.f6_Key.getD 10 0), v8 (a0.f6_Key.getD 11 0), v8 (a0.f6_Key.getD 12 0), v8 (a0.f6_Key.getD 13 0), v8 (a0.f6_Key.getD 14 0), v8 (a0.f6_Key.getD 15 0), v8 (a0.f6_Key.getD 16 0), v8 (a0.f6_Key.getD 17 0), v8 (a0.f6_Key.getD 18 0), v8 (a0.f6_Key.getD 19 0), v8 (a0.f6_Key.getD 20 0), v8 (a0.f6_Key.getD 21 0), v8 (a0.f6_Key.getD 22 0), v8 (a0.f6_Key.getD 23 0), v8 (a0.f6_Key.getD 24 0), v8 (a0.f6_Key.getD 25 0), v8 (a0.f6_Key.getD 26 0), v8 (a0.f6_Key.getD 27 0), v8 (a0.f6_Key.getD 28 0), v8 (a0.f6_Key.getD 29 0), v8 (a0.f6_Key.getD 30 0), v8 (a0.f6_Key.getD 31 0), vi a0.f7_Depth]] ∧ j4 x29 = some r) ?_ ?_
            · clear hj
              refine qs ?_
              refine qr T_ok [1, 3, 81] (E2 := [(1, [], .ptr 0 0), (3, [], vb x23), (81, [], vb (decide (a0.f0_Kind = 5)))]) (by kernel_rfl) ?_
              refine qi (t := decide (a0.f0_Kind = 5)) (by kernel_rfl) (fun c => ?_) (fun c => ?_)
              · rw [if_pos (of_decide_eq_true c)] at H
                clear c
                refine qg ?_
                refine qm T_ok 2 (k := 2) (by kernel_rfl) (by kernel_rfl) (by kernel_rfl) ?_
                obtain ⟨x30, hx, H⟩ := bd H
                refine qy rfl (zc (T := T) (quitclaimref13_prefix.ok k a0.f1_Path _ hx) Tryd.func119 rfl rfl (caps := []) (by kernel_rfl) (by kernel_rfl) (by kernel_rfl) (by kernel_rfl) (by kernel_rfl) (by kernel_rfl)) rfl (by kernel_rfl) rfl ?_
                clear hx
                refine qm T_ok 2 (k := 5) (by kernel_rfl) (by kernel_rfl) (by kernel_rfl) ?_
                obtain ⟨x31, hx, H⟩ := bd H
                refine qyg rfl (tg := []) (Yld.under (u := 85) (b := true) (t := x30) (by kernel_rfl) (by simp) fun g0_ => (zc (T := T) (quitclaimref13_only.ok k a0 ⟨#[75, 68]⟩ _ (gd1 hx g0_)) Tryd.func117 rfl rfl (caps := []) (by kernel_rfl) (by kernel_rfl) (by kernel_rfl) (by kernel_rfl) (by kernel_rfl) (by kernel_rfl))) rfl rfl (by kernel_rfl) (by kernel_rfl) rfl ?_
                clear hx
                refine qz T_ok 2 [1, 3] 1 (E2 := [(1, [], .ptr 0 0), (3, [], vb (x30 && x31))]) (h1 := [.cells 57 [vi a0.f0_Kind, vs a0.f1_Path, vs a0.f2_To, vi a0.f3_At, .p (.sl 1 ByteArray eS a0.f4_Old), .p (.sl 1 ByteArray eS a0.f5_New), v8 (a0.f6_Key.getD 0 0), v8 (a0.f6_Key.getD 1 0), v8 (a0.f6_Key.getD 2 0), v8 (a0.f6_Key.getD 3 0), v8 (a0.f6_Key.getD 4 0), v8 (a0.f6_Key.getD 5 0), v8 (a0.f6_Key.getD 6 0), v8 (a0.f6_Key.getD 7 0), v8 (a0.f6_Key.getD 8 0), v8 (a0.f6_Key.getD 9 0), v8 (a0.f6_Key.getD 10 0), v8 (a0.f6_Key.getD 11 0), v8 (a0.f6_Key.getD 12 0), v8 (a0.f6_Key.getD 13 0), v8 (a0.f6_Key.getD 14 0), v8 (a0.f6_Key.getD 15 0), v8 (a0.f6_Key.getD 16 0), v8 (a0.f6_Key.getD 17 0), v8 (a0.f6_Key.getD 18 0), v8 (a0.f6_Key.getD 19 0), v8 (a0.f6_Key.getD 20 0), v8 (a0.f6_Key.getD 21 0), v8 (a0.f6_Key.getD 22 0), v8 (a0.f6_Key.getD 23 0), v8 (a0.f6_Key.getD 24 0), v8 (a0.f6_Key.getD 25 0), v8 (a0.f6_Key.getD 26 0), v8 (a0.f6_Key.getD 27 0), v8 (a0.f6_Key.getD 28 0), v8 (a0.f6_Key.getD 29 0), v8 (a0.f6_Key.getD 30 0), v8 (a0.f6_Key.getD 31 0), vi a0.f7_Depth]]) (by kernel_rfl) (by kernel_rfl) (by kernel_rfl) (by kernel_rfl) (by kernel_rfl) ?_
                exact ⟨(x30 && x31), rfl, rfl, H⟩
              · rw [if_neg (of_decide_eq_false c)] at H
                clear c
                refine qw [1, 3] rfl ?_
                refine qk ?_
                exact ⟨x23, rfl, rfl, H⟩
            · clear H
              rintro E h ⟨x29, rfl, rfl, H⟩
              subst hj
              dsimp only at H
              obtain ⟨j5, hj, H⟩ := jn_of H
              refine qc (fun E h => ∃ x34 : Bool, E = [(1, [], .ptr 0 0), (3, [], vb x34)] ∧ h = [.cells 57 [vi a0.f0_Kind, vs a0.f1_Path, vs a0.f2_To, vi a0.f3_At, .p (.sl 1 ByteArray eS a0.f4_Old), .p (.sl 1 ByteArray eS a0.f5_New), v8 (a0.f6_Key.getD 0 0), v8 (a0.f6_Key.getD 1 0), v8 (a0.f6_Key.getD 2 0), v8 (a0.f6_Key.getD 3 0), v8 (a0.f6_Key.getD 4 0), v8 (a0.f6_Key.getD 5 0), v8 (a0.f6_Key.getD 6 0), v8 (a0.f6_Key.getD 7 0), v8 (a0.f6_Key.getD 8 0), v8 (a0.f6_Key.getD 9 0), v8 (a0.f6_Key.getD 10 0), v8 (a0.f6_Key.getD 11 0), v8 (a0.f6_Key.getD 12 0), v8 (a0.f6_Key.getD 13 0), v8 (a0.f6_Key.getD 14 0), v8 (a0.f6_Key.getD 15 0), v8 (a0.f6_Key.getD 16 0), v8 (a0.f6_Key.getD 17 0), v8 (a0.f6_Key.getD 18 0), v8 (a0.f6_Key.getD 19 0), v8 (a0.f6_Key.getD 20 0), v8 (a0.f6_Key.getD 21 0), v8 (a0.f6_Key.getD 22 0), v8 (a0.f6_Key.getD 23 0), v8 (a0.f6_Key.getD 24 0), v8 (a0.f6_Key.getD 25 0), v8 (a0.f6_Key.getD 26 0), v8 (a0.f6_Key.getD 27 0), v8 (a0.f6_Key.getD 28 0), v8 (a0.f6_Key.getD 29 0), v8 (a0.f6_Key.getD 30 0), v8 (a0.f6_Key.getD 31 0), vi a0.f7_Depth]] ∧ j5 x34 = some r) ?_ ?_
              · clear hj
                refine qs ?_
                refine qr T_ok [1, 3, 91] (E2 := [(1, [], .ptr 0 0), (3, [], vb x29), (91, [], vb (decide (a0.f0_Kind = 6)))]) (by kernel_rfl) ?_
                refine qi (t := decide (a0.f0_Kind = 6)) (by kernel_rfl) (fun c => ?_) (fun c => ?_)
                · rw [if_pos (of_decide_eq_true c)] at H
                  clear c
                  refine qg ?_
                  refine qm T_ok 2 (k := 2) (by kernel_rfl) (by kernel_rfl) (by kernel_rfl) ?_
                  obtain ⟨x35, hx, H⟩ := bd H
                  refine qy rfl (zc (T := T) (quitclaimref13_prefix.ok k a0.f1_Path _ hx) Tryd.func119 rfl rfl (caps := []) (by kernel_rfl) (by kernel_rfl) (by kernel_rfl) (by kernel_rfl) (by kernel_rfl) (by kernel_rfl)) rfl (by kernel_rfl) rfl ?_
                  clear hx
                  refine qm T_ok 2 (k := 5) (by kernel_rfl) (by kernel_rfl) (by kernel_rfl) ?_
                  obtain ⟨x36, hx, H⟩ := bd H
                  refine qyg rfl (tg := []) (Yld.under (u := 95) (b := true) (t := x35) (by kernel_rfl) (by simp) fun g0_ => (zc (T := T) (quitclaimref13_only.ok k a0 ⟨#[75]⟩ _ (gd1 hx g0_)) Tryd.func117 rfl rfl (caps := []) (by kernel_rfl) (by kernel_rfl) (by kernel_rfl) (by kernel_rfl) (by kernel_rfl) (by kernel_rfl))) rfl rfl (by kernel_rfl) (by kernel_rfl) rfl ?_
                  clear hx
                  refine qz T_ok 2 [1, 3] 1 (E2 := [(1, [], .ptr 0 0), (3, [], vb (x35 && x36))]) (h1 := [.cells 57 [vi a0.f0_Kind, vs a0.f1_Path, vs a0.f2_To, vi a0.f3_At, .p (.sl 1 ByteArray eS a0.f4_Old), .p (.sl 1 ByteArray eS a0.f5_New), v8 (a0.f6_Key.getD 0 0), v8 (a0.f6_Key.getD 1 0), v8 (a0.f6_Key.getD 2 0), v8 (a0.f6_Key.getD 3 0), v8 (a0.f6_Key.getD 4 0), v8 (a0.f6_Key.getD 5 0), v8 (a0.f6_Key.getD 6 0), v8 (a0.f6_Key.getD 7 0), v8 (a0.f6_Key.getD 8 0), v8 (a0.f6_Key.getD 9 0), v8 (a0.f6_Key.getD 10 0), v8 (a0.f6_Key.getD 11 0), v8 (a0.f6_Key.getD 12 0), v8 (a0.f6_Key.getD 13 0), v8 (a0.f6_Key.getD 14 0), v8 (a0.f6_Key.getD 15 0), v8 (a0.f6_Key.getD 16 0), v8 (a0.f6_Key.getD 17 0), v8 (a0.f6_Key.getD 18 0), v8 (a0.f6_Key.getD 19 0), v8 (a0.f6_Key.getD 20 0), v8 (a0.f6_Key.getD 21 0), v8 (a0.f6_Key.getD 22 0), v8 (a0.f6_Key.getD 23 0), v8 (a0.f6_Key.getD 24 0), v8 (a0.f6_Key.getD 25 0), v8 (a0.f6_Key.getD 26 0), v8 (a0.f6_Key.getD 27 0), v8 (a0.f6_Key.getD 28 0), v8 (a0.f6_Key.getD 29 0), v8 (a0.f6_Key.getD 30 0), v8 (a0.f6_Key.getD 31 0), vi a0.f7_Depth]]) (by kernel_rfl) (by kernel_rfl) (by kernel_rfl) (by kernel_rfl) (by kernel_rfl) ?_
                  exact ⟨(x35 && x36), rfl, rfl, H⟩
                · rw [if_neg (of_decide_eq_false c)] at H
                  clear c
                  refine qw [1, 3] rfl ?_
                  refine qk ?_
                  exact ⟨x29, rfl, rfl, H⟩
              · clear H
                rintro E h ⟨x34, rfl, rfl, H⟩
                subst hj
                dsimp only at H
                refine qs ?_
                refine qs ?_
                refine qr T_ok [1, 100] (E2 := [(1, [], .ptr 0 0), (100, [], vb (!x34))]) (by kernel_rfl) ?_
                refine qi (t := !x34) (by kernel_rfl) (fun c => ?_) (fun c => ?_)
                · rw [if_pos c] at H
                  clear c
                  refine qs ?_
                  refine qg ?_
                  refine qz T_ok 1 [2] 0 (E2 := [(2, [], vi 3)]) (h1 := []) (by kernel_rfl) (by kernel_rfl) (by kernel_rfl) (by kernel_rfl) (by kernel_rfl) ?_
                  refine qt ?_
                  obtain rfl := Option.some.inj H
                  exact ⟨vi 3, by kernel_rfl, rfl⟩
                · rw [if_neg (by rw [c]; exact Bool.false_ne_true)] at H
                  clear c
                  refine qw [1] rfl ?_
                  refine qk ?_
                  refine qs ?_
                  refine qs ?_
                  refine qg ?_
                  refine qz T_ok 8 [108] 0 (E2 := [(108, [], vb (decide (a0.f7_Depth < 0) || decide (a0.f7_Depth > 8)))]) (h1 := []) (by kernel_rfl) (by kernel_rfl) (by kernel_rfl) (by kernel_rfl) (by kernel_rfl) ?_
                  refine qi (t := (decide (a0.f7_Depth < 0) || decide (a0.f7_Depth > 8))) (by kernel_rfl) (fun c => ?_) (fun c => ?_)
                  · rw [if_pos c] at H
                    clear c
                    refine qs ?_
                    refine qr T_ok [2] (E2 := [(2, [], vi 5)]) (by kernel_rfl) ?_
                    refine qt ?_
                    obtain rfl := Option.some.inj H
                    exact ⟨vi 5, by kernel_rfl, rfl⟩
                  · rw [if_neg (by rw [c]; exact Bool.false_ne_true)] at H
                    clear c
                    refine qw [] rfl ?_
                    refine qk ?_
                    refine qs ?_
                    refine qr T_ok [2] (E2 := [(2, [], vi 0)]) (by kernel_rfl) ?_
                    refine qt ?_
                    obtain rfl := Option.some.inj H
                    exact ⟨vi 0, by kernel_rfl, rfl⟩
/-! ### quitclaim/quitclaimref14.at: function 92 -/
def quitclaimref14_at.l0 (a0 : List S_F) (a1 : ByteArray) : Nat → Int → Option Int
  | 0, _ => none
  | k + 1, x2 => (if x2 < (a0.length : Int) then ((ix a0 x2).bind fun x4 => (if x4.f0_Path = a1 then some x2 else quitclaimref14_at.l0 a0 a1 k (w64 (x2 + 1)))) else some (-1))
def quitclaimref14_at.f (k : Nat) (a0 : List S_F) (a1 : ByteArray) : Option Int := quitclaimref14_at.l0 a0 a1 k 0
theorem quitclaimref14_at.ok (k : Nat) (a0 : List S_F) (a1 : ByteArray) (r : Int) (H : quitclaimref14_at.f k a0 a1 = some r) : PF Tryd.prog 92 [.p (.sl 2 S_F eS_F a0), vs a1] (vi r) := by
  refine PF_mk T_ok Tryd.func92 rfl (by kernel_rfl) (by kernel_rfl) ?_
  unfold quitclaimref14_at.f at H
  refine qs ?_
  refine qr T_ok [0, 1] (E2 := [(0, [], .p (.sl 2 S_F eS_F a0)), (1, [], vs a1)]) (by kernel_rfl) ?_
  refine qs ?_
  refine qs ?_
  refine qr T_ok [0, 1, 5] (E2 := [(0, [], .p (.sl 2 S_F eS_F a0)), (1, [], vs a1), (5, [], vi 0)]) (by kernel_rfl) ?_
  refine qb ?_
  refine qp (fun k E h => ∃ x2 : Int, E = [(0, [], .p (.sl 2 S_F eS_F a0)), (1, [], vs a1), (5, [], vi x2)] ∧ h = [] ∧ quitclaimref14_at.l0 a0 a1 k x2 = some r) k ⟨0, rfl, rfl, H⟩ ?_
  clear H
  rintro k E h ⟨x2, rfl, rfl, H⟩
  cases k with
  | zero => exact nomatch (show none = some r from H)
  | succ k =>
    rw [quitclaimref14_at.l0] at H
    refine qs ?_
    refine qs ?_
    refine qr T_ok [0, 1, 5, 9] (E2 := [(0, [], .p (.sl 2 S_F eS_F a0)), (1, [], vs a1), (5, [], vi x2), (9, [], vb (decide (x2 < (a0.length : Int))))]) (by kernel_rfl) ?_
    refine qi (t := decide (x2 < (a0.length : Int))) (by kernel_rfl) (fun c => ?_) (fun c => ?_)
    · rw [if_pos (of_decide_eq_true c)] at H
      clear c
      refine qw [0, 1, 5] rfl ?_
      refine qk ?_
      refine qs ?_
      refine qb ?_
      refine qs ?_
      refine qg ?_
      refine qm T_ok 2 (k := 2) (by kernel_rfl) (by kernel_rfl) (by kernel_rfl) ?_
      obtain ⟨x4, hx, H⟩ := bd H
      refine qy rfl (zi T_ok .i64 (enc := eS_F) (l := a0) (e := 96) (n := 2) (ei := ti96) (sa := (.p (.sl 2 S_F eS_F a0))) hx rfl (by kernel_rfl) (by kernel_rfl) rfl (by kernel_rfl) (by kernel_rfl) (by kernel_rfl)) rfl (by kernel_rfl) rfl ?_
      clear hx
      refine qz T_ok 4 [0, 1, 5, 18] 0 (E2 := [(0, [], .p (.sl 2 S_F eS_F a0)), (1, [], vs a1), (5, [], vi x2), (18, [], vb (decide (x4.f0_Path = a1)))]) (h1 := []) (by kernel_rfl) (by kernel_rfl) (by kernel_rfl) (by kernel_rfl) (by kernel_rfl) ?_
      refine qi (t := decide (x4.f0_Path = a1)) (by kernel_rfl) (fun c => ?_) (fun c => ?_)
      · rw [if_pos (of_decide_eq_true c)] at H
        clear c
        refine qs ?_
        refine qr T_ok [4] (E2 := [(4, [], vi x2)]) (by kernel_rfl) ?_
        refine qt ?_
        obtain rfl := Option.some.inj H
        exact ⟨vi x2, by kernel_rfl, rfl⟩
      · rw [if_neg (of_decide_eq_false c)] at H
        clear c
        refine qw [0, 1, 5] rfl ?_
        refine qk ?_
        refine qr T_ok [0, 1, 5] (E2 := [(0, [], .p (.sl 2 S_F eS_F a0)), (1, [], vs a1), (5, [], vi (w64 (x2 + 1)))]) (by kernel_rfl) ?_
        exact ⟨_, Nat.lt_succ_self _, w64 (x2 + 1), rfl, rfl, H⟩
    · rw [if_neg (of_decide_eq_false c)] at H
      clear c
      refine qw [] rfl ?_
      refine qx ?_
      refine qs ?_
      refine qr T_ok [4] (E2 := [(4, [], vi (-1))]) (by kernel_rfl) ?_
      refine qt ?_
      obtain rfl := Option.some.inj H
      exact ⟨vi (-1), by kernel_rfl, rfl⟩
/-! ### quitclaim/quitclaimref10.Covers: function 11 -/
def quitclaimref10_Covers.f (a0 : ByteArray) (a1 : ByteArray) : Option Bool := (if (decide (a0 = ⟨#[]⟩) || decide (a0 = a1)) = true then some true else ((gd (decide ((a1.size : Int) > (a0.size : Int))) (sub a1 0 (a0.size : Int))).bind fun x1 => ((gd (decide ((a1.size : Int) > (a0.size : Int)) && decide (x1 = a0)) (bx a1 (a0.size : Int))).bind fun x2 => some ((decide ((a1.size : Int) > (a0.size : Int)) && decide (x1 = a0)) && decide (x2 = 47)))))
theorem quitclaimref10_Covers.ok (a0 : ByteArray) (a1 : ByteArray) (r : Bool) (H : quitclaimref10_Covers.f a0 a1 = some r) : PF Tryd.prog 11 [vs a0, vs a1] (vb r) := by
  refine PF_mk T_ok Tryd.func11 rfl (by kernel_rfl) (by kernel_rfl) ?_
  unfold quitclaimref10_Covers.f at H
  refine qs ?_
  refine qr T_ok [0, 1] (E2 := [(0, [], vs a0), (1, [], vs a1)]) (by kernel_rfl) ?_
  refine qs ?_
  refine qs ?_
  refine qr T_ok [0, 1, 11] (E2 := [(0, [], vs a0), (1, [], vs a1), (11, [], vb (decide (a0 = ⟨#[]⟩) || decide (a0 = a1)))]) (by kernel_rfl) ?_
  refine qi (t := (decide (a0 = ⟨#[]⟩) || decide (a0 = a1))) (by kernel_rfl) (fun c => ?_) (fun c => ?_)
  · rw [if_pos c] at H
    clear c
    refine qs ?_
    refine qr T_ok [4] (E2 := [(4, [], vb true)]) (by kernel_rfl) ?_
    refine qt ?_
    obtain rfl := Option.some.inj H
    exact ⟨vb true, by kernel_rfl, rfl⟩
  · rw [if_neg (by rw [c]; exact Bool.false_ne_true)] at H
    clear c
    refine qw [0, 1] rfl ?_
    refine qk ?_
    refine qs ?_
    refine qg ?_
    refine qm T_ok 9 (k := 9) (by kernel_rfl) (by kernel_rfl) (by kernel_rfl) ?_
    obtain ⟨x1, hx, H⟩ := bd H
    refine qyg rfl (tg := []) (Yld.under (u := 17) (b := true) (t := decide ((a1.size : Int) > (a0.size : Int))) (by kernel_rfl) (by simp) fun g0_ => (zu T_ok (gd1 hx g0_) rfl (by kernel_rfl) (by kernel_rfl) rfl ⟨.i64, by kernel_rfl⟩)) rfl rfl (by kernel_rfl) (by kernel_rfl) rfl ?_
    clear hx
    refine qm T_ok 7 (k := 17) (by kernel_rfl) (by kernel_rfl) (by kernel_rfl) ?_
    obtain ⟨x2, hx, H⟩ := bd H
    refine qyg rfl (tg := []) (Yld.under (u := 25) (b := true) (t := (decide ((a1.size : Int) > (a0.size : Int)) && decide (x1 = a0))) (by kernel_rfl) (by simp) fun g0_ => (zb T_ok .i64 (gd1 hx g0_) rfl (by kernel_rfl) (by kernel_rfl) (by kernel_rfl))) rfl rfl (by kernel_rfl) (by kernel_rfl) rfl ?_
    clear hx
    refine qz T_ok 3 [4] 0 (E2 := [(4, [], vb ((decide ((a1.size : Int) > (a0.size : Int)) && decide (x1 = a0)) && decide (x2 = 47)))]) (h1 := []) (by kernel_rfl) (by kernel_rfl) (by kernel_rfl) (by kernel_rfl) (by kernel_rfl) ?_
    refine qt ?_
    obtain rfl := Option.some.inj H
    exact ⟨vb ((decide ((a1.size : Int) > (a0.size : Int)) && decide (x1 = a0)) && decide (x2 = 47)), by kernel_rfl, rfl⟩
/-! ### quitclaim/quitclaimref14.room: function 64 -/
def quitclaimref14_room.l0 (a0 : List S_F) (a1 : ByteArray) : Nat → Int → Option Int
  | 0, _ => none
  | k + 1, x6 => (if x6 < (a0.length : Int) then ((ix a0 x6).bind fun x11 => ((quitclaimref10_Covers.f x11.f0_Path a1).bind fun x12 => ((gd (!x12) (ix a0 x6)).bind fun x13 => ((gd (!x12) (quitclaimref10_Covers.f a1 x13.f0_Path)).bind fun x14 => (if (x12 || x14) = true then some 12 else quitclaimref14_room.l0 a0 a1 k (w64 (x6 + 1))))))) else some 0)
def quitclaimref14_room.f (k : Nat) (a0 : List S_F) (a1 : ByteArray) : Option Int := ((quitclaimref14_at.f k a0 a1).bind fun x1 => (if x1 ≥ 0 then some 7 else quitclaimref14_room.l0 a0 a1 k 0))
theorem quitclaimref14_room.ok (k : Nat) (a0 : List S_F) (a1 : ByteArray) (r : Int) (H : quitclaimref14_room.f k a0 a1 = some r) : PF Tryd.prog 64 [.p (.sl 2 S_F eS_F a0), vs a1] (vi r) := by
  refine PF_mk T_ok Tryd.func64 rfl (by kernel_rfl) (by kernel_rfl) ?_
  unfold quitclaimref14_room.f at H
  refine qs ?_
  refine qr T_ok [0, 1] (E2 := [(0, [], .p (.sl 2 S_F eS_F a0)), (1, [], vs a1)]) (by kernel_rfl) ?_
  refine qs ?_
  refine qs ?_
  refine qg ?_
  refine qm T_ok 2 (k := 2) (by kernel_rfl) (by kernel_rfl) (by kernel_rfl) ?_
  obtain ⟨x1, hx, H⟩ := bd H
  refine qy rfl (zc (T := T) (quitclaimref14_at.ok k a0 a1 _ hx) Tryd.func92 rfl rfl (caps := []) (by kernel_rfl) (by kernel_rfl) (by kernel_rfl) (by kernel_rfl) (by kernel_rfl) (by kernel_rfl)) rfl (by kernel_rfl) rfl ?_
  clear hx
  refine qz T_ok 1 [0, 1, 9] 0 (E2 := [(0, [], .p (.sl 2 S_F eS_F a0)), (1, [], vs a1), (9, [], vb (decide (x1 ≥ 0)))]) (h1 := []) (by kernel_rfl) (by kernel_rfl) (by kernel_rfl) (by kernel_rfl) (by kernel_rfl) ?_
  refine qi (t := decide (x1 ≥ 0)) (by kernel_rfl) (fun c => ?_) (fun c => ?_)
  · rw [if_pos (of_decide_eq_true c)] at H
    clear c
    refine qs ?_
    refine qr T_ok [4] (E2 := [(4, [], vi 7)]) (by kernel_rfl) ?_
    refine qt ?_
    obtain rfl := Option.some.inj H
    exact ⟨vi 7, by kernel_rfl, rfl⟩
  · rw [if_neg (of_decide_eq_false c)] at H
    clear c
    refine qw [0, 1] rfl ?_
    refine qk ?_
    refine qs ?_
    refine qs ?_
    refine qr T_ok [0, 1, 5] (E2 := [(0, [], .p (.sl 2 S_F eS_F a0)), (1, [], vs a1), (5, [], vi 0)]) (by kernel_rfl) ?_
    refine qb ?_
    refine qp (fun k E h => ∃ x6 : Int, E = [(0, [], .p (.sl 2 S_F eS_F a0)), (1, [], vs a1), (5, [], vi x6)] ∧ h = [] ∧ quitclaimref14_room.l0 a0 a1 k x6 = some r) k ⟨0, rfl, rfl, H⟩ ?_
    clear H
    rintro k E h ⟨x6, rfl, rfl, H⟩
    cases k with
    | zero => exact nomatch (show none = some r from H)
    | succ k =>
      rw [quitclaimref14_room.l0] at H
      refine qs ?_
      refine qs ?_
      refine qr T_ok [0, 1, 5, 13] (E2 := [(0, [], .p (.sl 2 S_F eS_F a0)), (1, [], vs a1), (5, [], vi x6), (13, [], vb (decide (x6 < (a0.length : Int))))]) (by kernel_rfl) ?_
      refine qi (t := decide (x6 < (a0.length : Int))) (by kernel_rfl) (fun c => ?_) (fun c => ?_)
      · rw [if_pos (of_decide_eq_true c)] at H
        clear c
        refine qw [0, 1, 5] rfl ?_
        refine qk ?_
        refine qs ?_
        refine qb ?_
        refine qs ?_
        refine qg ?_
        refine qm T_ok 2 (k := 2) (by kernel_rfl) (by kernel_rfl) (by kernel_rfl) ?_
        obtain ⟨x11, hx, H⟩ := bd H
        refine qy rfl (zi T_ok .i64 (enc := eS_F) (l := a0) (e := 96) (n := 2) (ei := ti96) (sa := (.p (.sl 2 S_F eS_F a0))) hx rfl (by kernel_rfl) (by kernel_rfl) rfl (by kernel_rfl) (by kernel_rfl) (by kernel_rfl)) rfl (by kernel_rfl) rfl ?_
        clear hx
        refine qm T_ok 3 (k := 6) (by kernel_rfl) (by kernel_rfl) (by kernel_rfl) ?_
        obtain ⟨x12, hx, H⟩ := bd H
        refine qy rfl (zc (T := T) (quitclaimref10_Covers.ok x11.f0_Path a1 _ hx) Tryd.func11 rfl rfl (caps := []) (by kernel_rfl) (by kernel_rfl) (by kernel_rfl) (by kernel_rfl) (by kernel_rfl) (by kernel_rfl)) rfl (by kernel_rfl) rfl ?_
        clear hx
        refine qm T_ok 4 (k := 11) (by kernel_rfl) (by kernel_rfl) (by kernel_rfl) ?_
        obtain ⟨x13, hx, H⟩ := bd H
        refine qyg rfl (tg := []) (Yld.under (u := 23) (b := false) (t := x12) (by kernel_rfl) (by simp) fun g0_ => (zi T_ok .i64 (enc := eS_F) (l := a0) (e := 96) (n := 2) (ei := ti96) (sa := (.p (.sl 2 S_F eS_F a0))) (gd0 hx g0_) rfl (by kernel_rfl) (by kernel_rfl) rfl (by kernel_rfl) (by kernel_rfl) (by kernel_rfl))) rfl rfl (by kernel_rfl) (by kernel_rfl) rfl ?_
        clear hx
        refine qm T_ok 2 (k := 14) (by kernel_rfl) (by kernel_rfl) (by kernel_rfl) ?_
        obtain ⟨x14, hx, H⟩ := bd H
        refine qyg rfl (tg := []) (Yld.under (u := 23) (b := false) (t := x12) (by kernel_rfl) (by simp) fun g0_ => (zc (T := T) (quitclaimref10_Covers.ok a1 x13.f0_Path _ (gd0 hx g0_)) Tryd.func11 rfl rfl (caps := []) (by kernel_rfl) (by kernel_rfl) (by kernel_rfl) (by kernel_rfl) (by kernel_rfl) (by kernel_rfl))) rfl rfl (by kernel_rfl) (by kernel_rfl) rfl ?_
        clear hx
        refine qz T_ok 1 [0, 1, 5, 31] 0 (E2 := [(0, [], .p (.sl 2 S_F eS_F a0)), (1, [], vs a1), (5, [], vi x6), (31, [], vb (x12 || x14))]) (h1 := []) (by kernel_rfl) (by kernel_rfl) (by kernel_rfl) (by kernel_rfl) (by kernel_rfl) ?_
        refine qi (t := (x12 || x14)) (by kernel_rfl) (fun c => ?_) (fun c => ?_)
        · rw [if_pos c] at H
          clear c
          refine qs ?_
          refine qr T_ok [4] (E2 := [(4, [], vi 12)]) (by kernel_rfl) ?_
          refine qt ?_
          obtain rfl := Option.some.inj H
          exact ⟨vi 12, by kernel_rfl, rfl⟩
        · rw [if_neg (by rw [c]; exact Bool.false_ne_true)] at H
          clear c
          refine qw [0, 1, 5] rfl ?_
          refine qk ?_
          refine qr T_ok [0, 1, 5] (E2 := [(0, [], .p (.sl 2 S_F eS_F a0)), (1, [], vs a1), (5, [], vi (w64 (x6 + 1)))]) (by kernel_rfl) ?_
          exact ⟨_, Nat.lt_succ_self _, w64 (x6 + 1), rfl, rfl, H⟩
      · rw [if_neg (of_decide_eq_false c)] at H
        clear c
        refine qw [] rfl ?_
        refine qx ?_
        refine qs ?_
        refine qr T_ok [4] (E2 := [(4, [], vi 0)]) (by kernel_rfl) ?_
        refine qt ?_
        obtain rfl := Option.some.inj H
        exact ⟨vi 0, by kernel_rfl, rfl⟩
/-! ### quitclaim/quitclaimref14.Put: function 65 -/
def quitclaimref14_Put.l0 (a0 : List S_F) (a1 : S_F) : Nat → (List S_F) → Bool → Int → Option (List S_F)
  | 0, _, _, _ => none
  | k + 1, x10, x11, x12 => (if x12 < (a0.length : Int) then (jn (fun (x24 : List S_F) (x25 : Bool) => ((ix a0 x12).bind fun x28 => ((app 40 x24 [x28]).bind fun x29 => quitclaimref14_Put.l0 a0 a1 k x29 x25 (w64 (x12 + 1))))) fun j2 => ((gd (!x11) (ix a0 x12)).bind fun x26 => (if (!x11 && Op.bytesLess (a1.f0_Path).toList (x26.f0_Path).toList) = true then ((app 40 x10 [a1]).bind fun x27 => j2 x27 true) else j2 x10 x11))) else (if (!x11) = true then ((app 40 x10 [a1]).bind fun x30 => some x30) else some x10))
def quitclaimref14_Put.f (k : Nat) (a0 : List S_F) (a1 : S_F) : Option (List S_F) := quitclaimref14_Put.l0 a0 a1 k [] false 0
theorem quitclaimref14_Put.ok (k : Nat) (a0 : List S_F) (a1 : S_F) (r : List S_F) (H : quitclaimref14_Put.f k a0 a1 = some r) : PF Tryd.prog 65 [.p (.sl 2 S_F eS_F a0), .p (.agg [(.s (.string a1.f0_Path)), (.sl 1 ByteArray eS a1.f1_Lines)])] (.p (.sl 2 S_F eS_F r)) := by
  refine PF_mk T_ok Tryd.func65 rfl (by kernel_rfl) (by kernel_rfl) ?_
  unfold quitclaimref14_Put.f at H
  refine qs ?_
  refine qg ?_
  refine xb (T := T) (j := 0) (cs := [vs a1.f0_Path, .p (.sl 1 ByteArray eS a1.f1_Lines)]) rfl rfl rfl rfl (by kernel_rfl) (by kernel_rfl) rfl ?_
  refine qz T_ok 1 [0, 3] 1 (E2 := [(0, [], .p (.sl 2 S_F eS_F a0)), (3, [], .ptr 0 0)]) (h1 := [.cells 96 [vs a1.f0_Path, .p (.sl 1 ByteArray eS a1.f1_Lines)]]) (by kernel_rfl) (by kernel_rfl) (by kernel_rfl) (by kernel_rfl) (by kernel_rfl) ?_
  refine qs ?_
  refine qg ?_
  refine xl T_ok (e := 96) (n := 2) (j := 1) eS_F ([]) rfl rfl rfl rfl (by kernel_rfl) (by kernel_rfl) rfl ?_
  refine qz T_ok 1 [0, 3, 5] 2 (E2 := [(0, [], .p (.sl 2 S_F eS_F a0)), (3, [], .ptr 0 0), (5, [], .own 96 2 S_F eS_F [] 1)]) (h1 := [.cells 96 [vs a1.f0_Path, .p (.sl 1 ByteArray eS a1.f1_Lines)], .tail]) (by kernel_rfl) (by kernel_rfl) (by kernel_rfl) (by kernel_rfl) (by kernel_rfl) ?_
  refine qs ?_
  refine qr T_ok [0, 3, 5, 6] (E2 := [(0, [], .p (.sl 2 S_F eS_F a0)), (3, [], .ptr 0 0), (5, [], .own 96 2 S_F eS_F [] 1), (6, [], vb false)]) (by kernel_rfl) ?_
  refine qs ?_
  refine qs ?_
  refine qr T_ok [0, 3, 5, 6, 7] (E2 := [(0, [], .p (.sl 2 S_F eS_F a0)), (3, [], .ptr 0 0), (5, [], .own 96 2 S_F eS_F [] 1), (6, [], vb false), (7, [], vi 0)]) (by kernel_rfl) ?_
  refine qb ?_
  refine qp (fun k E h => ∃ x10 : List S_F, ∃ x11 : Bool, ∃ x12 : Int, E = [(0, [], .p (.sl 2 S_F eS_F a0)), (3, [], .ptr 0 0), (5, [], .own 96 2 S_F eS_F x10 1), (6, [], vb x11), (7, [], vi x12)] ∧ h = [.cells 96 [vs a1.f0_Path, .p (.sl 1 ByteArray eS a1.f1_Lines)], .tail] ∧ quitclaimref14_Put.l0 a0 a1 k x10 x11 x12 = some r) k ⟨[], false, 0, rfl, rfl, H⟩ ?_
  clear H
  rintro k E h ⟨x10, x11, x12, rfl, rfl, H⟩
  cases k with
  | zero => exact nomatch (show none = some r from H)
  | succ k =>
    rw [quitclaimref14_Put.l0] at H
    refine qs ?_
    refine qs ?_
    refine qr T_ok [0, 3, 5, 6, 7, 12] (E2 := [(0, [], .p (.sl 2 S_F eS_F a0)), (3, [], .ptr 0 0), (5, [], .own 96 2 S_F eS_F x10 1), (6, [], vb x11), (7, [], vi x12), (12, [], vb (decide (x12 < (a0.length : Int))))]) (by kernel_rfl) ?_
    refine qi (t := decide (x12 < (a0.length : Int))) (by kernel_rfl) (fun c => ?_) (fun c => ?_)
    · rw [if_pos (of_decide_eq_true c)] at H
      clear c
      refine qw [0, 3, 5, 6, 7] rfl ?_
      refine qk ?_
      refine qs ?_
      refine qb ?_
      obtain ⟨j2, hj, H⟩ := jn_of H
      refine qc (fun E h => ∃ x24 : List S_F, ∃ x25 : Bool, E = [(0, [], .p (.sl 2 S_F eS_F a0)), (3, [], .ptr 0 0), (5, [], .own 96 2 S_F eS_F x24 1), (6, [], vb x25), (7, [], vi x12)] ∧ h = [.cells 96 [vs a1.f0_Path, .p (.sl 1 ByteArray eS a1.f1_Lines)], .tail] ∧ j2 x24 x25 = some r) ?_ ?_
      · clear hj
        refine qs ?_
        refine qd (by kernel_rfl) 12 (by kernel_rfl) (by kernel_rfl) (by kernel_rfl) (by kernel_rfl) (by kernel_rfl) ?_
        refine dm T_ok 7 (k := 7) (by kernel_rfl) (by kernel_rfl) ?_
        obtain ⟨x26, hx, H⟩ := bd H
        refine dyg rfl (tg := []) (Yld.under (u := 17) (b := true) (t := !x11) (by kernel_rfl) (by simp) fun g0_ => (zi T_ok .i64 (enc := eS_F) (l := a0) (e := 96) (n := 2) (ei := ti96) (sa := (.p (.sl 2 S_F eS_F a0))) (gd1 hx g0_) rfl (by kernel_rfl) (by kernel_rfl) rfl (by kernel_rfl) (by kernel_rfl) (by kernel_rfl))) rfl rfl (by kernel_rfl) (by kernel_rfl) rfl ?_
        clear hx
        refine dm T_ok 4 (k := 12) (by kernel_rfl) (by kernel_rfl) ?_
        refine dn ?_
        refine qz T_ok 0 [0, 3, 5, 6, 7, 26] 2 (E2 := [(0, [], .p (.sl 2 S_F eS_F a0)), (3, [], .ptr 0 0), (5, [], .own 96 2 S_F eS_F x10 1), (6, [], vb x11), (7, [], vi x12), (26, [], vb (!x11 && Op.bytesLess (a1.f0_Path).toList (x26.f0_Path).toList))]) (h1 := [.cells 96 [vs a1.f0_Path, .p (.sl 1 ByteArray eS a1.f1_Lines)], .tail]) (by kernel_rfl) (by kernel_rfl) (by kernel_rfl) (by kernel_rfl) (by kernel_rfl) ?_
        refine qi (t := (!x11 && Op.bytesLess (a1.f0_Path).toList (x26.f0_Path).toList)) (by kernel_rfl) (fun c => ?_) (fun c => ?_)
        · rw [if_pos c] at H
          clear c
          refine qs ?_
          refine qg ?_
          refine qm T_ok 2 (k := 2) (by kernel_rfl) (by kernel_rfl) (by kernel_rfl) ?_
          refine qy rfl (ze T_ok (e := 96) (n := 2) eS_F ([a1] : List S_F) rfl (by kernel_rfl)) rfl (by kernel_rfl) rfl ?_
          obtain ⟨x27, hx, H⟩ := bd H
          refine xp T_ok (enc := eS_F) (l := x10) (m := [a1]) (e := 96) (e' := 96) (j := 1) (ei := ti96) (sy := (.p (.sl 2 S_F eS_F [a1]))) hx rfl rfl rfl rfl rfl rfl rfl (by kernel_rfl) (by kernel_rfl) (by kernel_rfl) (by kernel_rfl) (by kernel_rfl) (by kernel_rfl) (by kernel_rfl) (by kernel_rfl) (by kernel_rfl) rfl ?_
          clear hx
          refine qz T_ok 1 [0, 3, 5, 7] 2 (E2 := [(0, [], .p (.sl 2 S_F eS_F a0)), (3, [], .ptr 0 0), (5, [], .own 96 2 S_F eS_F x27 1), (7, [], vi x12)]) (h1 := [.cells 96 [vs a1.f0_Path, .p (.sl 1 ByteArray eS a1.f1_Lines)], .tail]) (by kernel_rfl) (by kernel_rfl) (by kernel_rfl) (by kernel_rfl) (by kernel_rfl) ?_
          refine qr T_ok [0, 3, 5, 6, 7] (E2 := [(0, [], .p (.sl 2 S_F eS_F a0)), (3, [], .ptr 0 0), (5, [], .own 96 2 S_F eS_F x27 1), (6, [], vb true), (7, [], vi x12)]) (by kernel_rfl) ?_
          exact ⟨x27, true, rfl, rfl, H⟩
        · rw [if_neg (by rw [c]; exact Bool.false_ne_true)] at H
          clear c
          refine qw [0, 3, 5, 6, 7] rfl ?_
          refine qk ?_
          exact ⟨x10, x11, rfl, rfl, H⟩
      · clear H
        rintro E h ⟨x24, x25, rfl, rfl, H⟩
        subst hj
        dsimp only at H
        refine qg ?_
        refine qm T_ok 3 (k := 3) (by kernel_rfl) (by kernel_rfl) (by kernel_rfl) ?_
        obtain ⟨x28, hx, H⟩ := bd H
        refine qy rfl (zi T_ok .i64 (enc := eS_F) (l := a0) (e := 96) (n := 2) (ei := ti96) (sa := (.p (.sl 2 S_F eS_F a0))) hx rfl (by kernel_rfl) (by kernel_rfl) rfl (by kernel_rfl) (by kernel_rfl) (by kernel_rfl)) rfl (by kernel_rfl) rfl ?_
        clear hx
        refine qm T_ok 1 (k := 5) (by kernel_rfl) (by kernel_rfl) (by kernel_rfl) ?_
        refine qy rfl (ze T_ok (e := 96) (n := 2) eS_F ([x28] : List S_F) rfl (by kernel_rfl)) rfl (by kernel_rfl) rfl ?_
        obtain ⟨x29, hx, H⟩ := bd H
        refine xp T_ok (enc := eS_F) (l := x24) (m := [x28]) (e := 96) (e' := 96) (j := 1) (ei := ti96) (sy := (.p (.sl 2 S_F eS_F [x28]))) hx rfl rfl rfl rfl rfl rfl rfl (by kernel_rfl) (by kernel_rfl) (by kernel_rfl) (by kernel_rfl) (by kernel_rfl) (by kernel_rfl) (by kernel_rfl) (by kernel_rfl) (by kernel_rfl) rfl ?_
        clear hx
        refine qz T_ok 1 [0, 3, 5, 6, 7] 2 (E2 := [(0, [], .p (.sl 2 S_F eS_F a0)), (3, [], .ptr 0 0), (5, [], .own 96 2 S_F eS_F x29 1), (6, [], vb x25), (7, [], vi x12)]) (h1 := [.cells 96 [vs a1.f0_Path, .p (.sl 1 ByteArray eS a1.f1_Lines)], .tail]) (by kernel_rfl) (by kernel_rfl) (by kernel_rfl) (by kernel_rfl) (by kernel_rfl) ?_
        refine qr T_ok [0, 3, 5, 6, 7] (E2 := [(0, [], .p (.sl 2 S_F eS_F a0)), (3, [], .ptr 0 0), (5, [], .own 96 2 S_F eS_F x29 1), (6, [], vb x25), (7, [], vi (w64 (x12 + 1)))]) (by kernel_rfl) ?_
        exact ⟨_, Nat.lt_succ_self _, x29, x25, w64 (x12 + 1), rfl, rfl, H⟩
    · rw [if_neg (of_decide_eq_false c)] at H
      clear c
      refine qw [3, 5, 6] rfl ?_
      refine qx ?_
      refine qs ?_
      refine qs ?_
      refine qr T_ok [3, 5, 39] (E2 := [(3, [], .ptr 0 0), (5, [], .own 96 2 S_F eS_F x10 1), (39, [], vb (!x11))]) (by kernel_rfl) ?_
      refine qi (t := !x11) (by kernel_rfl) (fun c => ?_) (fun c => ?_)
      · rw [if_pos c] at H
        clear c
        refine qg ?_
        refine qm T_ok 2 (k := 2) (by kernel_rfl) (by kernel_rfl) (by kernel_rfl) ?_
        refine qy rfl (ze T_ok (e := 96) (n := 2) eS_F ([a1] : List S_F) rfl (by kernel_rfl)) rfl (by kernel_rfl) rfl ?_
        obtain ⟨x30, hx, H⟩ := bd H
        refine xp T_ok (enc := eS_F) (l := x10) (m := [a1]) (e := 96) (e' := 96) (j := 1) (ei := ti96) (sy := (.p (.sl 2 S_F eS_F [a1]))) hx rfl rfl rfl rfl rfl rfl rfl (by kernel_rfl) (by kernel_rfl) (by kernel_rfl) (by kernel_rfl) (by kernel_rfl) (by kernel_rfl) (by kernel_rfl) (by kernel_rfl) (by kernel_rfl) rfl ?_
        clear hx
        refine qz T_ok 1 [5] 2 (E2 := [(5, [], .own 96 2 S_F eS_F x30 1)]) (h1 := [.cells 96 [vs a1.f0_Path, .p (.sl 1 ByteArray eS a1.f1_Lines)], .tail]) (by kernel_rfl) (by kernel_rfl) (by kernel_rfl) (by kernel_rfl) (by kernel_rfl) ?_
        refine qs ?_
        refine qr T_ok [4] (E2 := [(4, [], .own 96 2 S_F eS_F x30 1)]) (by kernel_rfl) ?_
        refine qt ?_
        obtain rfl := Option.some.inj H
        exact ⟨.own 96 2 S_F eS_F x30 1, by kernel_rfl, rfl⟩
      · rw [if_neg (by rw [c]; exact Bool.false_ne_true)] at H
        clear c
        refine qw [5] rfl ?_
        refine qk ?_
        refine qs ?_
        refine qr T_ok [4] (E2 := [(4, [], .own 96 2 S_F eS_F x10 1)]) (by kernel_rfl) ?_
        refine qt ?_
        obtain rfl := Option.some.inj H
        exact ⟨.own 96 2 S_F eS_F x10 1, by kernel_rfl, rfl⟩
/-! ### quitclaim/quitclaimref14.drop: function 93 -/
def quitclaimref14_drop.l0 (a0 : List S_F) (a1 : Int) : Nat → (List S_F) → Int → Option (List S_F)
  | 0, _, _ => none
  | k + 1, x3, x4 => (if x4 < (a0.length : Int) then (if (!decide (x4 = a1)) = true then ((ix a0 x4).bind fun x7 => ((app 40 x3 [x7]).bind fun x8 => quitclaimref14_drop.l0 a0 a1 k x8 (w64 (x4 + 1)))) else quitclaimref14_drop.l0 a0 a1 k x3 (w64 (x4 + 1))) else some x3)
def quitclaimref14_drop.f (k : Nat) (a0 : List S_F) (a1 : Int) : Option (List S_F) := quitclaimref14_drop.l0 a0 a1 k [] 0
theorem quitclaimref14_drop.ok (k : Nat) (a0 : List S_F) (a1 : Int) (r : List S_F) (H : quitclaimref14_drop.f k a0 a1 = some r) : PF Tryd.prog 93 [.p (.sl 2 S_F eS_F a0), vi a1] (.p (.sl 2 S_F eS_F r)) := by
  refine PF_mk T_ok Tryd.func93 rfl (by kernel_rfl) (by kernel_rfl) ?_
  unfold quitclaimref14_drop.f at H
  refine qs ?_
  refine qr T_ok [0, 1] (E2 := [(0, [], .p (.sl 2 S_F eS_F a0)), (1, [], vi a1)]) (by kernel_rfl) ?_
  refine qs ?_
  refine qg ?_
  refine xl T_ok (e := 96) (n := 2) (j := 0) eS_F ([]) rfl rfl rfl rfl (by kernel_rfl) (by kernel_rfl) rfl ?_
  refine qz T_ok 1 [0, 1, 5] 1 (E2 := [(0, [], .p (.sl 2 S_F eS_F a0)), (1, [], vi a1), (5, [], .own 96 2 S_F eS_F [] 0)]) (h1 := [.tail]) (by kernel_rfl) (by kernel_rfl) (by kernel_rfl) (by kernel_rfl) (by kernel_rfl) ?_
  refine qs ?_
  refine qs ?_
  refine qr T_ok [0, 1, 5, 6] (E2 := [(0, [], .p (.sl 2 S_F eS_F a0)), (1, [], vi a1), (5, [], .own 96 2 S_F eS_F [] 0), (6, [], vi 0)]) (by kernel_rfl) ?_
  refine qb ?_
  refine qp (fun k E h => ∃ x3 : List S_F, ∃ x4 : Int, E = [(0, [], .p (.sl 2 S_F eS_F a0)), (1, [], vi a1), (5, [], .own 96 2 S_F eS_F x3 0), (6, [], vi x4)] ∧ h = [.tail] ∧ quitclaimref14_drop.l0 a0 a1 k x3 x4 = some r) k ⟨[], 0, rfl, rfl, H⟩ ?_
  clear H
  rintro k E h ⟨x3, x4, rfl, rfl, H⟩
  cases k with
  | zero => exact nomatch (show none = some r from H)
  | succ k =>
    rw [quitclaimref14_drop.l0] at H
    refine qs ?_
    refine qs ?_
    refine qr T_ok [0, 1, 5, 6, 11] (E2 := [(0, [], .p (.sl 2 S_F eS_F a0)), (1, [], vi a1), (5, [], .own 96 2 S_F eS_F x3 0), (6, [], vi x4), (11, [], vb (decide (x4 < (a0.length : Int))))]) (by kernel_rfl) ?_
    refine qi (t := decide (x4 < (a0.length : Int))) (by kernel_rfl) (fun c => ?_) (fun c => ?_)
    · rw [if_pos (of_decide_eq_true c)] at H
      clear c
      refine qw [0, 1, 5, 6] rfl ?_
      refine qk ?_
      refine qs ?_
      refine qb ?_
      refine qs ?_
      refine qr T_ok [0, 1, 5, 6, 16] (E2 := [(0, [], .p (.sl 2 S_F eS_F a0)), (1, [], vi a1), (5, [], .own 96 2 S_F eS_F x3 0), (6, [], vi x4), (16, [], vb (!decide (x4 = a1)))]) (by kernel_rfl) ?_
      refine qi (t := !decide (x4 = a1)) (by kernel_rfl) (fun c => ?_) (fun c => ?_)
      · rw [if_pos c] at H
        clear c
        refine qg ?_
        refine qm T_ok 3 (k := 3) (by kernel_rfl) (by kernel_rfl) (by kernel_rfl) ?_
        obtain ⟨x7, hx, H⟩ := bd H
        refine qy rfl (zi T_ok .i64 (enc := eS_F) (l := a0) (e := 96) (n := 2) (ei := ti96) (sa := (.p (.sl 2 S_F eS_F a0))) hx rfl (by kernel_rfl) (by kernel_rfl) rfl (by kernel_rfl) (by kernel_rfl) (by kernel_rfl)) rfl (by kernel_rfl) rfl ?_
        clear hx
        refine qm T_ok 1 (k := 5) (by kernel_rfl) (by kernel_rfl) (by kernel_rfl) ?_
        refine qy rfl (ze T_ok (e := 96) (n := 2) eS_F ([x7] : List S_F) rfl (by kernel_rfl)) rfl (by kernel_rfl) rfl ?_
        obtain ⟨x8, hx, H⟩ := bd H
        refine xp T_ok (enc := eS_F) (l := x3) (m := [x7]) (e := 96) (e' := 96) (j := 0) (ei := ti96) (sy := (.p (.sl 2 S_F eS_F [x7]))) hx rfl rfl rfl rfl rfl rfl rfl (by kernel_rfl) (by kernel_rfl) (by kernel_rfl) (by kernel_rfl) (by kernel_rfl) (by kernel_rfl) (by kernel_rfl) (by kernel_rfl) (by kernel_rfl) rfl ?_
        clear hx
        refine qz T_ok 1 [0, 1, 5, 6] 1 (E2 := [(0, [], .p (.sl 2 S_F eS_F a0)), (1, [], vi a1), (5, [], .own 96 2 S_F eS_F x8 0), (6, [], vi x4)]) (h1 := [.tail]) (by kernel_rfl) (by kernel_rfl) (by kernel_rfl) (by kernel_rfl) (by kernel_rfl) ?_
        refine qr T_ok [0, 1, 5, 6] (E2 := [(0, [], .p (.sl 2 S_F eS_F a0)), (1, [], vi a1), (5, [], .own 96 2 S_F eS_F x8 0), (6, [], vi (w64 (x4 + 1)))]) (by kernel_rfl) ?_
        exact ⟨_, Nat.lt_succ_self _, x8, w64 (x4 + 1), rfl, rfl, H⟩
      · rw [if_neg (by rw [c]; exact Bool.false_ne_true)] at H
        clear c
        refine qw [0, 1, 5, 6] rfl ?_
        refine qk ?_
        refine qr T_ok [0, 1, 5, 6] (E2 := [(0, [], .p (.sl 2 S_F eS_F a0)), (1, [], vi a1), (5, [], .own 96 2 S_F eS_F x3 0), (6, [], vi (w64 (x4 + 1)))]) (by kernel_rfl) ?_
        exact ⟨_, Nat.lt_succ_self _, x3, w64 (x4 + 1), rfl, rfl, H⟩
    · rw [if_neg (of_decide_eq_false c)] at H
      clear c
      refine qw [5] rfl ?_
      refine qx ?_
      refine qs ?_
      refine qr T_ok [4] (E2 := [(4, [], .own 96 2 S_F eS_F x3 0)]) (by kernel_rfl) ?_
      refine qt ?_
      obtain rfl := Option.some.inj H
      exact ⟨.own 96 2 S_F eS_F x3 0, by kernel_rfl, rfl⟩
/-! ### quitclaim/quitclaimref05.Same: function 21 -/
def quitclaimref05_Same.l0 (a0 : List ByteArray) (a1 : List ByteArray) : Nat → Int → Option Bool
  | 0, _ => none
  | k + 1, x3 => (if x3 < (a0.length : Int) then ((ix a0 x3).bind fun x6 => ((ix a1 x3).bind fun x7 => (if (!decide (x6 = x7)) = true then some false else quitclaimref05_Same.l0 a0 a1 k (w64 (x3 + 1))))) else some true)
def quitclaimref05_Same.f (k : Nat) (a0 : List ByteArray) (a1 : List ByteArray) : Option Bool := (if (!decide ((a0.length : Int) = (a1.length : Int))) = true then some false else quitclaimref05_Same.l0 a0 a1 k 0)
theorem quitclaimref05_Same.ok (k : Nat) (a0 : List ByteArray) (a1 : List ByteArray) (r : Bool) (H : quitclaimref05_Same.f k a0 a1 = some r) : PF Tryd.prog 21 [.p (.sl 1 ByteArray eS a0), .p (.sl 1 ByteArray eS a1)] (vb r) := by
  refine PF_mk T_ok Tryd.func21 rfl (by kernel_rfl) (by kernel_rfl) ?_
  unfold quitclaimref05_Same.f at H
  refine qs ?_
  refine qr T_ok [0, 1] (E2 := [(0, [], .p (.sl 1 ByteArray eS a0)), (1, [], .p (.sl 1 ByteArray eS a1))]) (by kernel_rfl) ?_
  refine qs ?_
  refine qs ?_
  refine qr T_ok [0, 1, 10] (E2 := [(0, [], .p (.sl 1 ByteArray eS a0)), (1, [], .p (.sl 1 ByteArray eS a1)), (10, [], vb (!decide ((a0.length : Int) = (a1.length : Int))))]) (by kernel_rfl) ?_
  refine qi (t := !decide ((a0.length : Int) = (a1.length : Int))) (by kernel_rfl) (fun c => ?_) (fun c => ?_)
  · rw [if_pos c] at H
    clear c
    refine qs ?_
    refine qr T_ok [4] (E2 := [(4, [], vb false)]) (by kernel_rfl) ?_
    refine qt ?_
    obtain rfl := Option.some.inj H
    exact ⟨vb false, by kernel_rfl, rfl⟩
  · rw [if_neg (by rw [c]; exact Bool.false_ne_true)] at H
    clear c
    refine qw [0, 1] rfl ?_
    refine qk ?_
    refine qs ?_
    refine qs ?_
    refine qr T_ok [0, 1, 5] (E2 := [(0, [], .p (.sl 1 ByteArray eS a0)), (1, [], .p (.sl 1 ByteArray eS a1)), (5, [], vi 0)]) (by kernel_rfl) ?_
    refine qb ?_
    refine qp (fun k E h => ∃ x3 : Int, E = [(0, [], .p (.sl 1 ByteArray eS a0)), (1, [], .p (.sl 1 ByteArray eS a1)), (5, [], vi x3)] ∧ h = [] ∧ quitclaimref05_Same.l0 a0 a1 k x3 = some r) k ⟨0, rfl, rfl, H⟩ ?_
    clear H
    rintro k E h ⟨x3, rfl, rfl, H⟩
    cases k with
    | zero => exact nomatch (show none = some r from H)
    | succ k =>
      rw [quitclaimref05_Same.l0] at H
      refine qs ?_
      refine qs ?_
      refine qr T_ok [0, 1, 5, 14] (E2 := [(0, [], .p (.sl 1 ByteArray eS a0)), (1, [], .p (.sl 1 ByteArray eS a1)), (5, [], vi x3), (14, [], vb (decide (x3 < (a0.length : Int))))]) (by kernel_rfl) ?_
      refine qi (t := decide (x3 < (a0.length : Int))) (by kernel_rfl) (fun c => ?_) (fun c => ?_)
      · rw [if_pos (of_decide_eq_true c)] at H
        clear c
        refine qw [0, 1, 5] rfl ?_
        refine qk ?_
        refine qs ?_
        refine qb ?_
        refine qs ?_
        refine qd (by kernel_rfl) 9 (by kernel_rfl) (by kernel_rfl) (by kernel_rfl) (by kernel_rfl) (by kernel_rfl) ?_
        refine dm T_ok 2 (k := 2) (by kernel_rfl) (by kernel_rfl) ?_
        obtain ⟨x6, hx, H⟩ := bd H
        refine dy rfl (zi T_ok .i64 (enc := eS) (l := a0) (e := 9) (n := 1) (ei := ti9) (sa := (.p (.sl 1 ByteArray eS a0))) hx rfl (by kernel_rfl) (by kernel_rfl) rfl (by kernel_rfl) (by kernel_rfl) (by kernel_rfl)) rfl (by kernel_rfl) rfl ?_
        clear hx
        refine dm T_ok 3 (k := 6) (by kernel_rfl) (by kernel_rfl) ?_
        obtain ⟨x7, hx, H⟩ := bd H
        refine dy rfl (zi T_ok .i64 (enc := eS) (l := a1) (e := 9) (n := 1) (ei := ti9) (sa := (.p (.sl 1 ByteArray eS a1))) hx rfl (by kernel_rfl) (by kernel_rfl) rfl (by kernel_rfl) (by kernel_rfl) (by kernel_rfl)) rfl (by kernel_rfl) rfl ?_
        clear hx
        refine dm T_ok 2 (k := 9) (by kernel_rfl) (by kernel_rfl) ?_
        refine dn ?_
        refine qz T_ok 0 [0, 1, 5, 25] 0 (E2 := [(0, [], .p (.sl 1 ByteArray eS a0)), (1, [], .p (.sl 1 ByteArray eS a1)), (5, [], vi x3), (25, [], vb (!decide (x6 = x7)))]) (h1 := []) (by kernel_rfl) (by kernel_rfl) (by kernel_rfl) (by kernel_rfl) (by kernel_rfl) ?_
        refine qi (t := !decide (x6 = x7)) (by kernel_rfl) (fun c => ?_) (fun c => ?_)
        · rw [if_pos c] at H
          clear c
          refine qs ?_
          refine qr T_ok [4] (E2 := [(4, [], vb false)]) (by kernel_rfl) ?_
          refine qt ?_
          obtain rfl := Option.some.inj H
          exact ⟨vb false, by kernel_rfl, rfl⟩
        · rw [if_neg (by rw [c]; exact Bool.false_ne_true)] at H
          clear c
          refine qw [0, 1, 5] rfl ?_
          refine qk ?_
          refine qr T_ok [0, 1, 5] (E2 := [(0, [], .p (.sl 1 ByteArray eS a0)), (1, [], .p (.sl 1 ByteArray eS a1)), (5, [], vi (w64 (x3 + 1)))]) (by kernel_rfl) ?_
          exact ⟨_, Nat.lt_succ_self _, w64 (x3 + 1), rfl, rfl, H⟩
      · rw [if_neg (of_decide_eq_false c)] at H
        clear c
        refine qw [] rfl ?_
        refine qx ?_
        refine qs ?_
        refine qr T_ok [4] (E2 := [(4, [], vb true)]) (by kernel_rfl) ?_
        refine qt ?_
        obtain rfl := Option.some.inj H
        exact ⟨vb true, by kernel_rfl, rfl⟩
/-! ### quitclaim/quitclaimref11.Apply: function 94 -/
def quitclaimref11_Apply.l39 (a0 : List ByteArray) : Nat → (List ByteArray) → Int → Option ((List ByteArray) × Int)
  | 0, _, _ => none
  | k + 1, x308, x309 => (if x309 < (a0.length : Int) then ((ix a0 x309).bind fun x312 => ((app 16 x308 [x312]).bind fun x313 => quitclaimref11_Apply.l39 a0 k x313 (w64 (x309 + 1)))) else (if (x308.length : Int) > 1000 then some ([], 4) else some (x308, 0)))
def quitclaimref11_Apply.l38 (a0 : List ByteArray) (a1 : S_At_Old_New) (x246 : List ByteArray) : Nat → Int → Option ((List ByteArray) × Int)
  | 0, _ => none
  | k + 1, x293 => (if x293 < (a1.f1_Old.length : Int) then ((gd (!(decide (w64 (a1.f0_At + x293) ≥ (a0.length : Int)))) (ix a0 (w64 (a1.f0_At + x293)))).bind fun x304 => ((gd (!(decide (w64 (a1.f0_At + x293) ≥ (a0.length : Int)))) (ix a1.f1_Old x293)).bind fun x305 => (if (decide (w64 (a1.f0_At + x293) ≥ (a0.length : Int)) || !decide (x304 = x305)) = true then some ([], 12) else quitclaimref11_Apply.l38 a0 a1 x246 k (w64 (x293 + 1))))) else quitclaimref11_Apply.l39 a0 k x246 (w64 (a1.f0_At + (a1.f1_Old.length : Int))))
def quitclaimref11_Apply.l35 (a0 : List ByteArray) (a1 : S_At_Old_New) : Nat → (List ByteArray) → Int → Option ((List ByteArray) × Int)
  | 0, _, _ => none
  | k + 1, x246, x247 => (if x247 < (a1.f2_New.length : Int) then ((ix a1.f2_New x247).bind fun x281 => ((app 16 x246 [x281]).bind fun x282 => quitclaimref11_Apply.l35 a0 a1 k x282 (w64 (x247 + 1)))) else quitclaimref11_Apply.l38 a0 a1 x246 k 0)
def quitclaimref11_Apply.l26 (a0 : List ByteArray) (a1 : S_At_Old_New) : Nat → (List ByteArray) → Int → Option ((List ByteArray) × Int)
  | 0, _, _ => none
  | k + 1, x106, x107 => (if x107 < a1.f0_At then ((ix a0 x107).bind fun x211 => ((app 16 x106 [x211]).bind fun x212 => quitclaimref11_Apply.l26 a0 a1 k x212 (w64 (x107 + 1)))) else quitclaimref11_Apply.l35 a0 a1 k x106 0)
def quitclaimref11_Apply.f (k : Nat) (a0 : List ByteArray) (a1 : S_At_Old_New) : Option ((List ByteArray) × Int) := ((quitclaimref11_Lines.f k a0).bind fun x1 => ((gd (!(!x1)) (quitclaimref11_Right.f k a1)).bind fun x2 => (if (!x1 || !x2) = true then some ([], 3) else (if a1.f0_At > (a0.length : Int) then some ([], 5) else quitclaimref11_Apply.l26 a0 a1 k [] 0))))
theorem quitclaimref11_Apply.ok (k : Nat) (a0 : List ByteArray) (a1 : S_At_Old_New) (r : (List ByteArray) × Int) (H : quitclaimref11_Apply.f k a0 a1 = some r) : PF Tryd.prog 94 [.p (.sl 1 ByteArray eS a0), .p (.agg [(.s (.int .i64 a1.f0_At)), (.sl 1 ByteArray eS a1.f1_Old), (.sl 1 ByteArray eS a1.f2_New)])] (.tup [.p (.sl 1 ByteArray eS r.1), vi r.2]) := by
  refine PF_mk T_ok Tryd.func94 rfl (by kernel_rfl) (by kernel_rfl) ?_
  unfold quitclaimref11_Apply.f at H
  refine qs ?_
  refine qg ?_
  refine xb (T := T) (j := 0) (cs := [vi a1.f0_At, .p (.sl 1 ByteArray eS a1.f1_Old), .p (.sl 1 ByteArray eS a1.f2_New)]) rfl rfl rfl rfl (by kernel_rfl) (by kernel_rfl) rfl ?_
  refine qz T_ok 2 [0, 3] 1 (E2 := [(0, [], .p (.sl 1 ByteArray eS a0)), (3, [], .ptr 0 0)]) (h1 := [.cells 127 [vi a1.f0_At, .p (.sl 1 ByteArray eS a1.f1_Old), .p (.sl 1 ByteArray eS a1.f2_New)]]) (by kernel_rfl) (by kernel_rfl) (by kernel_rfl) (by kernel_rfl) (by kernel_rfl) ?_
  refine qs ?_
  refine qs ?_
  refine qg ?_
  refine qm T_ok 1 (k := 1) (by kernel_rfl) (by kernel_rfl) (by kernel_rfl) ?_
  obtain ⟨x1, hx, H⟩ := bd H
  refine qy rfl (zc (T := T) (quitclaimref11_Lines.ok k a0 _ hx) Tryd.func52 rfl rfl (caps := []) (by kernel_rfl) (by kernel_rfl) (by kernel_rfl) (by kernel_rfl) (by kernel_rfl) (by kernel_rfl)) rfl (by kernel_rfl) rfl ?_
  clear hx
  refine qm T_ok 3 (k := 5) (by kernel_rfl) (by kernel_rfl) (by kernel_rfl) ?_
  obtain ⟨x2, hx, H⟩ := bd H
  refine qyg rfl (tg := []) (Yld.under (u := 14) (b := false) (t := !x1) (by kernel_rfl) (by simp) fun g0_ => (zc (T := T) (quitclaimref11_Right.ok k a1 _ (gd0 hx g0_)) Tryd.func118 rfl rfl (caps := []) (by kernel_rfl) (by kernel_rfl) (by kernel_rfl) (by kernel_rfl) (by kernel_rfl) (by kernel_rfl))) rfl rfl (by kernel_rfl) (by kernel_rfl) rfl ?_
  clear hx
  refine qz T_ok 2 [0, 3, 18] 1 (E2 := [(0, [], .p (.sl 1 ByteArray eS a0)), (3, [], .ptr 0 0), (18, [], vb (!x1 || !x2))]) (h1 := [.cells 127 [vi a1.f0_At, .p (.sl 1 ByteArray eS a1.f1_Old), .p (.sl 1 ByteArray eS a1.f2_New)]]) (by kernel_rfl) (by kernel_rfl) (by kernel_rfl) (by kernel_rfl) (by kernel_rfl) ?_
  refine qi (t := (!x1 || !x2)) (by kernel_rfl) (fun c => ?_) (fun c => ?_)
  · rw [if_pos c] at H
    clear c
    refine qs ?_
    refine qg ?_
    refine qz T_ok 2 [4, 5] 0 (E2 := [(4, [], .p (.sl 1 ByteArray eS [])), (5, [], vi 3)]) (h1 := []) (by kernel_rfl) (by kernel_rfl) (by kernel_rfl) (by kernel_rfl) (by kernel_rfl) ?_
    refine qt ?_
    obtain rfl := Option.some.inj H
    exact ⟨.tup [.p (.sl 1 ByteArray eS []), vi 3], by kernel_rfl, rfl⟩
  · rw [if_neg (by rw [c]; exact Bool.false_ne_true)] at H
    clear c
    refine qw [0, 3] rfl ?_
    refine qk ?_
    refine qs ?_
    refine qs ?_
    refine qr T_ok [0, 3, 23] (E2 := [(0, [], .p (.sl 1 ByteArray eS a0)), (3, [], .ptr 0 0), (23, [], vb (decide (a1.f0_At > (a0.length : Int))))]) (by kernel_rfl) ?_
    refine qi (t := decide (a1.f0_At > (a0.length : Int))) (by kernel_rfl) (fun c => ?_) (fun c => ?_)
    · rw [if_pos (of_decide_eq_true c)] at H
      clear c
      refine qs ?_
      refine qg ?_
      refine qz T_ok 2 [4, 5] 0 (E2 := [(4, [], .p (.sl 1 ByteArray eS [])), (5, [], vi 5)]) (h1 := []) (by kernel_rfl) (by kernel_rfl) (by kernel_rfl) (by kernel_rfl) (by kernel_rfl) ?_
      refine qt ?_
      obtain rfl := Option.some.inj H
      exact ⟨.tup [.p (.sl 1 ByteArray eS []), vi 5], by kernel_rfl, rfl⟩
    · rw [if_neg (of_decide_eq_false c)] at H
      clear c
      refine qw [0, 3] rfl ?_
      refine qk ?_
      refine qs ?_
      refine qg ?_
      refine xl T_ok (e := 9) (n := 1) (j := 1) eS ([]) rfl rfl rfl rfl (by kernel_rfl) (by kernel_rfl) rfl ?_
      refine qz T_ok 1 [0, 3, 6] 2 (E2 := [(0, [], .p (.sl 1 ByteArray eS a0)), (3, [], .ptr 0 0), (6, [], .own 9 1 ByteArray eS [] 1)]) (h1 := [.cells 127 [vi a1.f0_At, .p (.sl 1 ByteArray eS a1.f1_Old), .p (.sl 1 ByteArray eS a1.f2_New)], .tail]) (by kernel_rfl) (by kernel_rfl) (by kernel_rfl) (by kernel_rfl) (by kernel_rfl) ?_
      refine qs ?_
      refine qs ?_
      refine qr T_ok [0, 3, 6, 7] (E2 := [(0, [], .p (.sl 1 ByteArray eS a0)), (3, [], .ptr 0 0), (6, [], .own 9 1 ByteArray eS [] 1), (7, [], vi 0)]) (by kernel_rfl) ?_
      refine qb ?_
      refine qp (fun k E h => ∃ x106 : List ByteArray, ∃ x107 : Int, E = [(0, [], .p (.sl 1 ByteArray eS a0)), (3, [], .ptr 0 0), (6, [], .own 9 1 ByteArray eS x106 1), (7, [], vi x107)] ∧ h = [.cells 127 [vi a1.f0_At, .p (.sl 1 ByteArray eS a1.f1_Old), .p (.sl 1 ByteArray eS a1.f2_New)], .tail] ∧ quitclaimref11_Apply.l26 a0 a1 k x106 x107 = some r) k ⟨[], 0, rfl, rfl, H⟩ ?_
      clear H
      rintro k E h ⟨x106, x107, rfl, rfl, H⟩
      cases k with
      | zero => exact nomatch (show none = some r from H)
      | succ k =>
        rw [quitclaimref11_Apply.l26] at H
        refine qs ?_
        refine qs ?_
        refine qr T_ok [0, 3, 6, 7, 28] (E2 := [(0, [], .p (.sl 1 ByteArray eS a0)), (3, [], .ptr 0 0), (6, [], .own 9 1 ByteArray eS x106 1), (7, [], vi x107), (28, [], vb (decide (x107 < a1.f0_At)))]) (by kernel_rfl) ?_
        refine qi (t := decide (x107 < a1.f0_At)) (by kernel_rfl) (fun c => ?_) (fun c => ?_)
        · rw [if_pos (of_decide_eq_true c)] at H
          clear c
          refine qw [0, 3, 6, 7] rfl ?_
          refine qk ?_
          refine qs ?_
          refine qb ?_
          refine qg ?_
          refine qm T_ok 3 (k := 3) (by kernel_rfl) (by kernel_rfl) (by kernel_rfl) ?_
          obtain ⟨x211, hx, H⟩ := bd H
          refine qy rfl (zi T_ok .i64 (enc := eS) (l := a0) (e := 9) (n := 1) (ei := ti9) (sa := (.p (.sl 1 ByteArray eS a0))) hx rfl (by kernel_rfl) (by kernel_rfl) rfl (by kernel_rfl) (by kernel_rfl) (by kernel_rfl)) rfl (by kernel_rfl) rfl ?_
          clear hx
          refine qm T_ok 1 (k := 5) (by kernel_rfl) (by kernel_rfl) (by kernel_rfl) ?_
          refine qy rfl (ze T_ok (e := 9) (n := 1) eS ([x211] : List ByteArray) rfl (by kernel_rfl)) rfl (by kernel_rfl) rfl ?_
          obtain ⟨x212, hx, H⟩ := bd H
          refine xp T_ok (enc := eS) (l := x106) (m := [x211]) (e := 9) (e' := 9) (j := 1) (ei := ti9) (sy := (.p (.sl 1 ByteArray eS [x211]))) hx rfl rfl rfl rfl rfl rfl rfl (by kernel_rfl) (by kernel_rfl) (by kernel_rfl) (by kernel_rfl) (by kernel_rfl) (by kernel_rfl) (by kernel_rfl) (by kernel_rfl) (by kernel_rfl) rfl ?_
          clear hx
          refine qz T_ok 1 [0, 3, 6, 7] 2 (E2 := [(0, [], .p (.sl 1 ByteArray eS a0)), (3, [], .ptr 0 0), (6, [], .own 9 1 ByteArray eS x212 1), (7, [], vi x107)]) (h1 := [.cells 127 [vi a1.f0_At, .p (.sl 1 ByteArray eS a1.f1_Old), .p (.sl 1 ByteArray eS a1.f2_New)], .tail]) (by kernel_rfl) (by kernel_rfl) (by kernel_rfl) (by kernel_rfl) (by kernel_rfl) ?_
          refine qr T_ok [0, 3, 6, 7] (E2 := [(0, [], .p (.sl 1 ByteArray eS a0)), (3, [], .ptr 0 0), (6, [], .own 9 1 ByteArray eS x212 1), (7, [], vi (w64 (x107 + 1)))]) (by kernel_rfl) ?_
          exact ⟨_, Nat.lt_succ_self _, x212, w64 (x107 + 1), rfl, rfl, H⟩
        · rw [if_neg (of_decide_eq_false c)] at H
          clear c
          refine qw [0, 3, 6] rfl ?_
          refine qx ?_
          refine qs ?_
          refine qs ?_
          refine qr T_ok [0, 3, 6, 8] (E2 := [(0, [], .p (.sl 1 ByteArray eS a0)), (3, [], .ptr 0 0), (6, [], .own 9 1 ByteArray eS x106 1), (8, [], vi 0)]) (by kernel_rfl) ?_
          refine qb ?_
          refine qp (fun k E h => ∃ x246 : List ByteArray, ∃ x247 : Int, E = [(0, [], .p (.sl 1 ByteArray eS a0)), (3, [], .ptr 0 0), (6, [], .own 9 1 ByteArray eS x246 1), (8, [], vi x247)] ∧ h = [.cells 127 [vi a1.f0_At, .p (.sl 1 ByteArray eS a1.f1_Old), .p (.sl 1 ByteArray eS a1.f2_New)], .tail] ∧ quitclaimref11_Apply.l35 a0 a1 k x246 x247 = some r) k ⟨x106, 0, rfl, rfl, H⟩ ?_
          clear H
          rintro k E h ⟨x246, x247, rfl, rfl, H⟩
          cases k with
          | zero => exact nomatch (show none = some r from H)
          | succ k =>
            rw [quitclaimref11_Apply.l35] at H
            refine qs ?_
            refine qs ?_
            refine qr T_ok [0, 3, 6, 8, 42] (E2 := [(0, [], .p (.sl 1 ByteArray eS a0)), (3, [], .ptr 0 0), (6, [], .own 9 1 ByteArray eS x246 1), (8, [], vi x247), (42, [], vb (decide (x247 < (a1.f2_New.length : Int))))]) (by kernel_rfl) ?_
            refine qi (t := decide (x247 < (a1.f2_New.length : Int))) (by kernel_rfl) (fun c => ?_) (fun c => ?_)
            · rw [if_pos (of_decide_eq_true c)] at H
              clear c
              refine qw [0, 3, 6, 8] rfl ?_
              refine qk ?_
              refine qs ?_
              refine qb ?_
              refine qg ?_
              refine qm T_ok 4 (k := 4) (by kernel_rfl) (by kernel_rfl) (by kernel_rfl) ?_
              obtain ⟨x281, hx, H⟩ := bd H
              refine qy rfl (zi T_ok .i64 (enc := eS) (l := a1.f2_New) (e := 9) (n := 1) (ei := ti9) (sa := (.p (.sl 1 ByteArray eS a1.f2_New))) hx rfl (by kernel_rfl) (by kernel_rfl) rfl (by kernel_rfl) (by kernel_rfl) (by kernel_rfl)) rfl (by kernel_rfl) rfl ?_
              clear hx
              refine qm T_ok 1 (k := 6) (by kernel_rfl) (by kernel_rfl) (by kernel_rfl) ?_
              refine qy rfl (ze T_ok (e := 9) (n := 1) eS ([x281] : List ByteArray) rfl (by kernel_rfl)) rfl (by kernel_rfl) rfl ?_
              obtain ⟨x282, hx, H⟩ := bd H
              refine xp T_ok (enc := eS) (l := x246) (m := [x281]) (e := 9) (e' := 9) (j := 1) (ei := ti9) (sy := (.p (.sl 1 ByteArray eS [x281]))) hx rfl rfl rfl rfl rfl rfl rfl (by kernel_rfl) (by kernel_rfl) (by kernel_rfl) (by kernel_rfl) (by kernel_rfl) (by kernel_rfl) (by kernel_rfl) (by kernel_rfl) (by kernel_rfl) rfl ?_
              clear hx
              refine qz T_ok 1 [0, 3, 6, 8] 2 (E2 := [(0, [], .p (.sl 1 ByteArray eS a0)), (3, [], .ptr 0 0), (6, [], .own 9 1 ByteArray eS x282 1), (8, [], vi x247)]) (h1 := [.cells 127 [vi a1.f0_At, .p (.sl 1 ByteArray eS a1.f1_Old), .p (.sl 1 ByteArray eS a1.f2_New)], .tail]) (by kernel_rfl) (by kernel_rfl) (by kernel_rfl) (by kernel_rfl) (by kernel_rfl) ?_
              refine qr T_ok [0, 3, 6, 8] (E2 := [(0, [], .p (.sl 1 ByteArray eS a0)), (3, [], .ptr 0 0), (6, [], .own 9 1 ByteArray eS x282 1), (8, [], vi (w64 (x247 + 1)))]) (by kernel_rfl) ?_
              exact ⟨_, Nat.lt_succ_self _, x282, w64 (x247 + 1), rfl, rfl, H⟩
            · rw [if_neg (of_decide_eq_false c)] at H
              clear c
              refine qw [0, 3, 6] rfl ?_
              refine qx ?_
              refine qs ?_
              refine qs ?_
              refine qr T_ok [0, 3, 6, 9] (E2 := [(0, [], .p (.sl 1 ByteArray eS a0)), (3, [], .ptr 0 0), (6, [], .own 9 1 ByteArray eS x246 1), (9, [], vi 0)]) (by kernel_rfl) ?_
              refine qb ?_
              refine qp (fun k E h => ∃ x293 : Int, E = [(0, [], .p (.sl 1 ByteArray eS a0)), (3, [], .ptr 0 0), (6, [], .own 9 1 ByteArray eS x246 1), (9, [], vi x293)] ∧ h = [.cells 127 [vi a1.f0_At, .p (.sl 1 ByteArray eS a1.f1_Old), .p (.sl 1 ByteArray eS a1.f2_New)], .tail] ∧ quitclaimref11_Apply.l38 a0 a1 x246 k x293 = some r) k ⟨0, rfl, rfl, H⟩ ?_
              clear H
              rintro k E h ⟨x293, rfl, rfl, H⟩
              cases k with
              | zero => exact nomatch (show none = some r from H)
              | succ k =>
                rw [quitclaimref11_Apply.l38] at H
                refine qs ?_
                refine qs ?_
                refine qr T_ok [0, 3, 6, 9, 57] (E2 := [(0, [], .p (.sl 1 ByteArray eS a0)), (3, [], .ptr 0 0), (6, [], .own 9 1 ByteArray eS x246 1), (9, [], vi x293), (57, [], vb (decide (x293 < (a1.f1_Old.length : Int))))]) (by kernel_rfl) ?_
                refine qi (t := decide (x293 < (a1.f1_Old.length : Int))) (by kernel_rfl) (fun c => ?_) (fun c => ?_)
                · rw [if_pos (of_decide_eq_true c)] at H
                  clear c
                  refine qw [0, 3, 6, 9] rfl ?_
                  refine qk ?_
                  refine qs ?_
                  refine qb ?_
                  refine qs ?_
                  refine qd (by kernel_rfl) 22 (by kernel_rfl) (by kernel_rfl) (by kernel_rfl) (by kernel_rfl) (by kernel_rfl) ?_
                  refine dm T_ok 13 (k := 13) (by kernel_rfl) (by kernel_rfl) ?_
                  obtain ⟨x304, hx, H⟩ := bd H
                  refine dyg rfl (tg := []) (Yld.under (u := 67) (b := false) (t := decide (w64 (a1.f0_At + x293) ≥ (a0.length : Int))) (by kernel_rfl) (by simp) fun g0_ => (zi T_ok .i64 (enc := eS) (l := a0) (e := 9) (n := 1) (ei := ti9) (sa := (.p (.sl 1 ByteArray eS a0))) (gd0 hx g0_) rfl (by kernel_rfl) (by kernel_rfl) rfl (by kernel_rfl) (by kernel_rfl) (by kernel_rfl))) rfl rfl (by kernel_rfl) (by kernel_rfl) rfl ?_
                  clear hx
                  refine dm T_ok 4 (k := 18) (by kernel_rfl) (by kernel_rfl) ?_
                  obtain ⟨x305, hx, H⟩ := bd H
                  refine dyg rfl (tg := []) (Yld.under (u := 67) (b := false) (t := decide (w64 (a1.f0_At + x293) ≥ (a0.length : Int))) (by kernel_rfl) (by simp) fun g0_ => (zi T_ok .i64 (enc := eS) (l := a1.f1_Old) (e := 9) (n := 1) (ei := ti9) (sa := (.p (.sl 1 ByteArray eS a1.f1_Old))) (gd0 hx g0_) rfl (by kernel_rfl) (by kernel_rfl) rfl (by kernel_rfl) (by kernel_rfl) (by kernel_rfl))) rfl rfl (by kernel_rfl) (by kernel_rfl) rfl ?_
                  clear hx
                  refine dm T_ok 3 (k := 22) (by kernel_rfl) (by kernel_rfl) ?_
                  refine dn ?_
                  refine qz T_ok 0 [0, 3, 6, 9, 81] 2 (E2 := [(0, [], .p (.sl 1 ByteArray eS a0)), (3, [], .ptr 0 0), (6, [], .own 9 1 ByteArray eS x246 1), (9, [], vi x293), (81, [], vb (decide (w64 (a1.f0_At + x293) ≥ (a0.length : Int)) || !decide (x304 = x305)))]) (h1 := [.cells 127 [vi a1.f0_At, .p (.sl 1 ByteArray eS a1.f1_Old), .p (.sl 1 ByteArray eS a1.f2_New)], .tail]) (by kernel_rfl) (by kernel_rfl) (by kernel_rfl) (by kernel_rfl) (by kernel_rfl) ?_
                  refine qi (t := (decide (w64 (a1.f0_At + x293) ≥ (a0.length : Int)) || !decide (x304 = x305))) (by kernel_rfl) (fun c => ?_) (fun c => ?_)
                  · rw [if_pos c] at H
                    clear c
                    refine qs ?_
                    refine qg ?_
                    refine qz T_ok 2 [4, 5] 0 (E2 := [(4, [], .p (.sl 1 ByteArray eS [])), (5, [], vi 12)]) (h1 := []) (by kernel_rfl) (by kernel_rfl) (by kernel_rfl) (by kernel_rfl) (by kernel_rfl) ?_
                    refine qt ?_
                    obtain rfl := Option.some.inj H
                    exact ⟨.tup [.p (.sl 1 ByteArray eS []), vi 12], by kernel_rfl, rfl⟩
                  · rw [if_neg (by rw [c]; exact Bool.false_ne_true)] at H
                    clear c
                    refine qw [0, 3, 6, 9] rfl ?_
                    refine qk ?_
                    refine qr T_ok [0, 3, 6, 9] (E2 := [(0, [], .p (.sl 1 ByteArray eS a0)), (3, [], .ptr 0 0), (6, [], .own 9 1 ByteArray eS x246 1), (9, [], vi (w64 (x293 + 1)))]) (by kernel_rfl) ?_
                    exact ⟨_, Nat.lt_succ_self _, w64 (x293 + 1), rfl, rfl, H⟩
                · rw [if_neg (of_decide_eq_false c)] at H
                  clear c
                  refine qw [0, 3, 6] rfl ?_
                  refine qx ?_
                  refine qs ?_
                  refine qs ?_
                  refine qr T_ok [0, 6, 10] (E2 := [(0, [], .p (.sl 1 ByteArray eS a0)), (6, [], .own 9 1 ByteArray eS x246 1), (10, [], vi (w64 (a1.f0_At + (a1.f1_Old.length : Int))))]) (by kernel_rfl) ?_
                  refine qb ?_
                  refine qp (fun k E h => ∃ x308 : List ByteArray, ∃ x309 : Int, E = [(0, [], .p (.sl 1 ByteArray eS a0)), (6, [], .own 9 1 ByteArray eS x308 1), (10, [], vi x309)] ∧ h = [.cells 127 [vi a1.f0_At, .p (.sl 1 ByteArray eS a1.f1_Old), .p (.sl 1 ByteArray eS a1.f2_New)], .tail] ∧ quitclaimref11_Apply.l39 a0 k x308 x309 = some r) k ⟨x246, w64 (a1.f0_At + (a1.f1_Old.length : Int)), rfl, rfl, H⟩ ?_
                  clear H
                  rintro k E h ⟨x308, x309, rfl, rfl, H⟩
                  cases k with
                  | zero => exact nomatch (show none = some r from H)
                  | succ k =>
                    rw [quitclaimref11_Apply.l39] at H
                    refine qs ?_
                    refine qs ?_
                    refine qr T_ok [0, 6, 10, 91] (E2 := [(0, [], .p (.sl 1 ByteArray eS a0)), (6, [], .own 9 1 ByteArray eS x308 1), (10, [], vi x309), (91, [], vb (decide (x309 < (a0.length : Int))))]) (by kernel_rfl) ?_
                    refine qi (t := decide (x309 < (a0.length : Int))) (by kernel_rfl) (fun c => ?_) (fun c => ?_)
                    · rw [if_pos (of_decide_eq_true c)] at H
                      clear c
                      refine qw [0, 6, 10] rfl ?_
                      refine qk ?_
                      refine qs ?_
                      refine qb ?_
                      refine qg ?_
                      refine qm T_ok 3 (k := 3) (by kernel_rfl) (by kernel_rfl) (by kernel_rfl) ?_
                      obtain ⟨x312, hx, H⟩ := bd H
                      refine qy rfl (zi T_ok .i64 (enc := eS) (l := a0) (e := 9) (n := 1) (ei := ti9) (sa := (.p (.sl 1 ByteArray eS a0))) hx rfl (by kernel_rfl) (by kernel_rfl) rfl (by kernel_rfl) (by kernel_rfl) (by kernel_rfl)) rfl (by kernel_rfl) rfl ?_
                      clear hx
                      refine qm T_ok 1 (k := 5) (by kernel_rfl) (by kernel_rfl) (by kernel_rfl) ?_
                      refine qy rfl (ze T_ok (e := 9) (n := 1) eS ([x312] : List ByteArray) rfl (by kernel_rfl)) rfl (by kernel_rfl) rfl ?_
                      obtain ⟨x313, hx, H⟩ := bd H
                      refine xp T_ok (enc := eS) (l := x308) (m := [x312]) (e := 9) (e' := 9) (j := 1) (ei := ti9) (sy := (.p (.sl 1 ByteArray eS [x312]))) hx rfl rfl rfl rfl rfl rfl rfl (by kernel_rfl) (by kernel_rfl) (by kernel_rfl) (by kernel_rfl) (by kernel_rfl) (by kernel_rfl) (by kernel_rfl) (by kernel_rfl) (by kernel_rfl) rfl ?_
                      clear hx
                      refine qz T_ok 1 [0, 6, 10] 2 (E2 := [(0, [], .p (.sl 1 ByteArray eS a0)), (6, [], .own 9 1 ByteArray eS x313 1), (10, [], vi x309)]) (h1 := [.cells 127 [vi a1.f0_At, .p (.sl 1 ByteArray eS a1.f1_Old), .p (.sl 1 ByteArray eS a1.f2_New)], .tail]) (by kernel_rfl) (by kernel_rfl) (by kernel_rfl) (by kernel_rfl) (by kernel_rfl) ?_
                      refine qr T_ok [0, 6, 10] (E2 := [(0, [], .p (.sl 1 ByteArray eS a0)), (6, [], .own 9 1 ByteArray eS x313 1), (10, [], vi (w64 (x309 + 1)))]) (by kernel_rfl) ?_
                      exact ⟨_, Nat.lt_succ_self _, x313, w64 (x309 + 1), rfl, rfl, H⟩
                    · rw [if_neg (of_decide_eq_false c)] at H
                      clear c
                      refine qw [6] rfl ?_
                      refine qx ?_
                      refine qs ?_
                      refine qs ?_
                      refine qr T_ok [6, 103] (E2 := [(6, [], .own 9 1 ByteArray eS x308 1), (103, [], vb (decide ((x308.length : Int) > 1000)))]) (by kernel_rfl) ?_
                      refine qi (t := decide ((x308.length : Int) > 1000)) (by kernel_rfl) (fun c => ?_) (fun c => ?_)
                      · rw [if_pos (of_decide_eq_true c)] at H
                        clear c
                        refine qs ?_
                        refine qg ?_
                        refine qz T_ok 2 [4, 5] 0 (E2 := [(4, [], .p (.sl 1 ByteArray eS [])), (5, [], vi 4)]) (h1 := []) (by kernel_rfl) (by kernel_rfl) (by kernel_rfl) (by kernel_rfl) (by kernel_rfl) ?_
                        refine qt ?_
                        obtain rfl := Option.some.inj H
                        exact ⟨.tup [.p (.sl 1 ByteArray eS []), vi 4], by kernel_rfl, rfl⟩
                      · rw [if_neg (of_decide_eq_false c)] at H
                        clear c
                        refine qw [6] rfl ?_
                        refine qk ?_
                        refine qs ?_
                        refine qr T_ok [4, 5] (E2 := [(4, [], .own 9 1 ByteArray eS x308 1), (5, [], vi 0)]) (by kernel_rfl) ?_
                        refine qt ?_
                        obtain rfl := Option.some.inj H
                        exact ⟨.tup [.own 9 1 ByteArray eS x308 1, vi 0], by kernel_rfl, rfl⟩
/-! ### quitclaim/quitclaimref14.Apply: function 59 -/
def quitclaimref14_Apply.f (k : Nat) (a0 : List S_F) (a1 : S_Op) : Option ((List S_F) × Int) := ((quitclaimref13_Right.f k a1).bind fun x1 => (if (!decide (x1 = 0)) = true then some ([], x1) else (if a1.f0_Kind > 4 then some (a0, 0) else ((quitclaimref14_at.f k a0 a1.f1_Path).bind fun x2 => (if a1.f0_Kind = 1 then ((quitclaimref14_room.f k a0 a1.f1_Path).bind fun x3 => (if (!decide (x3 = 0)) = true then some ([], x3) else (if (a0.length : Int) ≥ 200 then some ([], 14) else ((quitclaimref14_Put.f k a0 (⟨a1.f1_Path, []⟩ : S_F)).bind fun x4 => some (x4, 0))))) else (if x2 < 0 then some ([], 6) else ((quitclaimref14_drop.f k a0 x2).bind fun x5 => (if a1.f0_Kind = 2 then ((ix a0 x2).bind fun x6 => ((quitclaimref05_Same.f k x6.f1_Lines a1.f4_Old).bind fun x7 => (if (!x7) = true then some ([], 12) else some (x5, 0)))) else (if a1.f0_Kind = 3 then ((ix a0 x2).bind fun x8 => ((quitclaimref11_Apply.f k x8.f1_Lines (⟨a1.f3_At, a1.f4_Old, a1.f5_New⟩ : S_At_Old_New)).bind fun x9 => (if (!decide (x9.2 = 0)) = true then some ([], x9.2) else ((quitclaimref14_Put.f k x5 (⟨a1.f1_Path, x9.1⟩ : S_F)).bind fun x10 => some (x10, 0))))) else ((quitclaimref14_room.f k x5 a1.f2_To).bind fun x11 => (if (!decide (x11 = 0)) = true then some ([], x11) else ((ix a0 x2).bind fun x12 => ((quitclaimref14_Put.f k x5 (⟨a1.f2_To, x12.f1_Lines⟩ : S_F)).bind fun x13 => some (x13, 0))))))))))))))
theorem quitclaimref14_Apply.ok (k : Nat) (a0 : List S_F) (a1 : S_Op) (r : (List S_F) × Int) (H : quitclaimref14_Apply.f k a0 a1 = some r) : PF Tryd.prog 59 [.p (.sl 2 S_F eS_F a0), .p (.agg [(.s (.int .i64 a1.f0_Kind)), (.s (.string a1.f1_Path)), (.s (.string a1.f2_To)), (.s (.int .i64 a1.f3_At)), (.sl 1 ByteArray eS a1.f4_Old), (.sl 1 ByteArray eS a1.f5_New), (.s (.int .u8 (a1.f6_Key.getD 0 0))), (.s (.int .u8 (a1.f6_Key.getD 1 0))), (.s (.int .u8 (a1.f6_Key.getD 2 0))), (.s (.int .u8 (a1.f6_Key.getD 3 0))), (.s (.int .u8 (a1.f6_Key.getD 4 0))), (.s (.int .u8 (a1.f6_Key.getD 5 0))), (.s (.int .u8 (a1.f6_Key.getD 6 0))), (.s (.int .u8 (a1.f6_Key.getD 7 0))), (.s (.int .u8 (a1.f6_Key.getD 8 0))), (.s (.int .u8 (a1.f6_Key.getD 9 0))), (.s (.int .u8 (a1.f6_Key.getD 10 0))), (.s (.int .u8 (a1.f6_Key.getD 11 0))), (.s (.int .u8 (a1.f6_Key.getD 12 0))), (.s (.int .u8 (a1.f6_Key.getD 13 0))), (.s (.int .u8 (a1.f6_Key.getD 14 0))), (.s (.int .u8 (a1.f6_Key.getD 15 0))), (.s (.int .u8 (a1.f6_Key.getD 16 0))), (.s (.int .u8 (a1.f6_Key.getD 17 0))), (.s (.int .u8 (a1.f6_Key.getD 18 0))), (.s (.int .u8 (a1.f6_Key.getD 19 0))), (.s (.int .u8 (a1.f6_Key.getD 20 0))), (.s (.int .u8 (a1.f6_Key.getD 21 0))), (.s (.int .u8 (a1.f6_Key.getD 22 0))), (.s (.int .u8 (a1.f6_Key.getD 23 0))), (.s (.int .u8 (a1.f6_Key.getD 24 0))), (.s (.int .u8 (a1.f6_Key.getD 25 0))), (.s (.int .u8 (a1.f6_Key.getD 26 0))), (.s (.int .u8 (a1.f6_Key.getD 27 0))), (.s (.int .u8 (a1.f6_Key.getD 28 0))), (.s (.int .u8 (a1.f6_Key.getD 29 0))), (.s (.int .u8 (a1.f6_Key.getD 30 0))), (.s (.int .u8 (a1.f6_Key.getD 31 0))), (.s (.int .i64 a1.f7_Depth))])] (.tup [.p (.sl 2 S_F eS_F r.1), vi r.2]) := by
  refine PF_mk T_ok Tryd.func59 rfl (by kernel_rfl) (by kernel_rfl) ?_
  unfold quitclaimref14_Apply.f at H
  refine qs ?_
  refine qg ?_
  refine xb (T := T) (j := 0) (cs := [vi a1.f0_Kind, vs a1.f1_Path, vs a1.f2_To, vi a1.f3_At, .p (.sl 1 ByteArray eS a1.f4_Old), .p (.sl 1 ByteArray eS a1.f5_New), v8 (a1.f6_Key.getD 0 0), v8 (a1.f6_Key.getD 1 0), v8 (a1.f6_Key.getD 2 0), v8 (a1.f6_Key.getD 3 0), v8 (a1.f6_Key.getD 4 0), v8 (a1.f6_Key.getD 5 0), v8 (a1.f6_Key.getD 6 0), v8 (a1.f6_Key.getD 7 0), v8 (a1.f6_Key.getD 8 0), v8 (a1.f6_Key.getD 9 0), v8 (a1.f6_Key.getD 10 0), v8 (a1.f6_Key.getD 11 0), v8 (a1.f6_Key.getD 12 0), v8 (a1.f6_Key.getD 13 0), v8 (a1.f6_Key.getD 14 0), v8 (a1.f6_Key.getD 15 0), v8 (a1.f6_Key.getD 16 0), v8 (a1.f6_Key.getD 17 0), v8 (a1.f6_Key.getD 18 0), v8 (a1.f6_Key.getD 19 0), v8 (a1.f6_Key.getD 20 0), v8 (a1.f6_Key.getD 21 0), v8 (a1.f6_Key.getD 22 0), v8 (a1.f6_Key.getD 23 0), v8 (a1.f6_Key.getD 24 0), v8 (a1.f6_Key.getD 25 0), v8 (a1.f6_Key.getD 26 0), v8 (a1.f6_Key.getD 27 0), v8 (a1.f6_Key.getD 28 0), v8 (a1.f6_Key.getD 29 0), v8 (a1.f6_Key.getD 30 0), v8 (a1.f6_Key.getD 31 0), vi a1.f7_Depth]) rfl rfl rfl rfl (by kernel_rfl) (by kernel_rfl) rfl ?_
  refine qz T_ok 2 [0, 3] 1 (E2 := [(0, [], .p (.sl 2 S_F eS_F a0)), (3, [], .ptr 0 0)]) (h1 := [.cells 57 [vi a1.f0_Kind, vs a1.f1_Path, vs a1.f2_To, vi a1.f3_At, .p (.sl 1 ByteArray eS a1.f4_Old), .p (.sl 1 ByteArray eS a1.f5_New), v8 (a1.f6_Key.getD 0 0), v8 (a1.f6_Key.getD 1 0), v8 (a1.f6_Key.getD 2 0), v8 (a1.f6_Key.getD 3 0), v8 (a1.f6_Key.getD 4 0), v8 (a1.f6_Key.getD 5 0), v8 (a1.f6_Key.getD 6 0), v8 (a1.f6_Key.getD 7 0), v8 (a1.f6_Key.getD 8 0), v8 (a1.f6_Key.getD 9 0), v8 (a1.f6_Key.getD 10 0), v8 (a1.f6_Key.getD 11 0), v8 (a1.f6_Key.getD 12 0), v8 (a1.f6_Key.getD 13 0), v8 (a1.f6_Key.getD 14 0), v8 (a1.f6_Key.getD 15 0), v8 (a1.f6_Key.getD 16 0), v8 (a1.f6_Key.getD 17 0), v8 (a1.f6_Key.getD 18 0), v8 (a1.f6_Key.getD 19 0), v8 (a1.f6_Key.getD 20 0), v8 (a1.f6_Key.getD 21 0), v8 (a1.f6_Key.getD 22 0), v8 (a1.f6_Key.getD 23 0), v8 (a1.f6_Key.getD 24 0), v8 (a1.f6_Key.getD 25 0), v8 (a1.f6_Key.getD 26 0), v8 (a1.f6_Key.getD 27 0), v8 (a1.f6_Key.getD 28 0), v8 (a1.f6_Key.getD 29 0), v8 (a1.f6_Key.getD 30 0), v8 (a1.f6_Key.getD 31 0), vi a1.f7_Depth]]) (by kernel_rfl) (by kernel_rfl) (by kernel_rfl) (by kernel_rfl) (by kernel_rfl) ?_
  refine qs ?_
  refine qs ?_
  refine qg ?_
  refine qm T_ok 1 (k := 1) (by kernel_rfl) (by kernel_rfl) (by kernel_rfl) ?_
  obtain ⟨x1, hx, H⟩ := bd H
  refine qy rfl (zc (T := T) (quitclaimref13_Right.ok k a1 _ hx) Tryd.func91 rfl rfl (caps := []) (by kernel_rfl) (by kernel_rfl) (by kernel_rfl) (by kernel_rfl) (by kernel_rfl) (by kernel_rfl)) rfl (by kernel_rfl) rfl ?_
  clear hx
  refine qz T_ok 1 [0, 3, 6] 1 (E2 := [(0, [], .p (.sl 2 S_F eS_F a0)), (3, [], .ptr 0 0), (6, [], vi x1)]) (h1 := [.cells 57 [vi a1.f0_Kind, vs a1.f1_Path, vs a1.f2_To, vi a1.f3_At, .p (.sl 1 ByteArray eS a1.f4_Old), .p (.sl 1 ByteArray eS a1.f5_New), v8 (a1.f6_Key.getD 0 0), v8 (a1.f6_Key.getD 1 0), v8 (a1.f6_Key.getD 2 0), v8 (a1.f6_Key.getD 3 0), v8 (a1.f6_Key.getD 4 0), v8 (a1.f6_Key.getD 5 0), v8 (a1.f6_Key.getD 6 0), v8 (a1.f6_Key.getD 7 0), v8 (a1.f6_Key.getD 8 0), v8 (a1.f6_Key.getD 9 0), v8 (a1.f6_Key.getD 10 0), v8 (a1.f6_Key.getD 11 0), v8 (a1.f6_Key.getD 12 0), v8 (a1.f6_Key.getD 13 0), v8 (a1.f6_Key.getD 14 0), v8 (a1.f6_Key.getD 15 0), v8 (a1.f6_Key.getD 16 0), v8 (a1.f6_Key.getD 17 0), v8 (a1.f6_Key.getD 18 0), v8 (a1.f6_Key.getD 19 0), v8 (a1.f6_Key.getD 20 0), v8 (a1.f6_Key.getD 21 0), v8 (a1.f6_Key.getD 22 0), v8 (a1.f6_Key.getD 23 0), v8 (a1.f6_Key.getD 24 0), v8 (a1.f6_Key.getD 25 0), v8 (a1.f6_Key.getD 26 0), v8 (a1.f6_Key.getD 27 0), v8 (a1.f6_Key.getD 28 0), v8 (a1.f6_Key.getD 29 0), v8 (a1.f6_Key.getD 30 0), v8 (a1.f6_Key.getD 31 0), vi a1.f7_Depth]]) (by kernel_rfl) (by kernel_rfl) (by kernel_rfl) (by kernel_rfl) (by kernel_rfl) ?_
  refine qs ?_
  refine qr T_ok [0, 3, 6, 16] (E2 := [(0, [], .p (.sl 2 S_F eS_F a0)), (3, [], .ptr 0 0), (6, [], vi x1), (16, [], vb (!decide (x1 = 0)))]) (by kernel_rfl) ?_
  refine qi (t := !decide (x1 = 0)) (by kernel_rfl) (fun c => ?_) (fun c => ?_)
  · rw [if_pos c] at H
    clear c
    refine qs ?_
    refine qg ?_
    refine qz T_ok 3 [4, 5] 0 (E2 := [(4, [], .p (.sl 2 S_F eS_F [])), (5, [], vi x1)]) (h1 := []) (by kernel_rfl) (by kernel_rfl) (by kernel_rfl) (by kernel_rfl) (by kernel_rfl) ?_
    refine qt ?_
    obtain rfl := Option.some.inj H
    exact ⟨.tup [.p (.sl 2 S_F eS_F []), vi x1], by kernel_rfl, rfl⟩
  · rw [if_neg (by rw [c]; exact Bool.false_ne_true)] at H
    clear c
    refine qw [0, 3] rfl ?_
    refine qk ?_
    refine qs ?_
    refine qs ?_
    refine qr T_ok [0, 3, 20] (E2 := [(0, [], .p (.sl 2 S_F eS_F a0)), (3, [], .ptr 0 0), (20, [], vb (decide (a1.f0_Kind > 4)))]) (by kernel_rfl) ?_
    refine qi (t := decide (a1.f0_Kind > 4)) (by kernel_rfl) (fun c => ?_) (fun c => ?_)
    · rw [if_pos (of_decide_eq_true c)] at H
      clear c
      refine qs ?_
      refine qg ?_
      refine qz T_ok 3 [4, 5] 0 (E2 := [(4, [], .p (.sl 2 S_F eS_F a0)), (5, [], vi 0)]) (h1 := []) (by kernel_rfl) (by kernel_rfl) (by kernel_rfl) (by kernel_rfl) (by kernel_rfl) ?_
      refine qt ?_
      obtain rfl := Option.some.inj H
      exact ⟨.tup [.p (.sl 2 S_F eS_F a0), vi 0], by kernel_rfl, rfl⟩
    · rw [if_neg (of_decide_eq_false c)] at H
      clear c
      refine qw [0, 3] rfl ?_
      refine qk ?_
      refine qs ?_
      refine qg ?_
      refine qm T_ok 3 (k := 3) (by kernel_rfl) (by kernel_rfl) (by kernel_rfl) ?_
      obtain ⟨x2, hx, H⟩ := bd H
      refine qy rfl (zc (T := T) (quitclaimref14_at.ok k a0 a1.f1_Path _ hx) Tryd.func92 rfl rfl (caps := []) (by kernel_rfl) (by kernel_rfl) (by kernel_rfl) (by kernel_rfl) (by kernel_rfl) (by kernel_rfl)) rfl (by kernel_rfl) rfl ?_
      clear hx
      refine qz T_ok 1 [0, 3, 7] 1 (E2 := [(0, [], .p (.sl 2 S_F eS_F a0)), (3, [], .ptr 0 0), (7, [], vi x2)]) (h1 := [.cells 57 [vi a1.f0_Kind, vs a1.f1_Path, vs a1.f2_To, vi a1.f3_At, .p (.sl 1 ByteArray eS a1.f4_Old), .p (.sl 1 ByteArray eS a1.f5_New), v8 (a1.f6_Key.getD 0 0), v8 (a1.f6_Key.getD 1 0), v8 (a1.f6_Key.getD 2 0), v8 (a1.f6_Key.getD 3 0), v8 (a1.f6_Key.getD 4 0), v8 (a1.f6_Key.getD 5 0), v8 (a1.f6_Key.getD 6 0), v8 (a1.f6_Key.getD 7 0), v8 (a1.f6_Key.getD 8 0), v8 (a1.f6_Key.getD 9 0), v8 (a1.f6_Key.getD 10 0), v8 (a1.f6_Key.getD 11 0), v8 (a1.f6_Key.getD 12 0), v8 (a1.f6_Key.getD 13 0), v8 (a1.f6_Key.getD 14 0), v8 (a1.f6_Key.getD 15 0), v8 (a1.f6_Key.getD 16 0), v8 (a1.f6_Key.getD 17 0), v8 (a1.f6_Key.getD 18 0), v8 (a1.f6_Key.getD 19 0), v8 (a1.f6_Key.getD 20 0), v8 (a1.f6_Key.getD 21 0), v8 (a1.f6_Key.getD 22 0), v8 (a1.f6_Key.getD 23 0), v8 (a1.f6_Key.getD 24 0), v8 (a1.f6_Key.getD 25 0), v8 (a1.f6_Key.getD 26 0), v8 (a1.f6_Key.getD 27 0), v8 (a1.f6_Key.getD 28 0), v8 (a1.f6_Key.getD 29 0), v8 (a1.f6_Key.getD 30 0), v8 (a1.f6_Key.getD 31 0), vi a1.f7_Depth]]) (by kernel_rfl) (by kernel_rfl) (by kernel_rfl) (by kernel_rfl) (by kernel_rfl) ?_
      refine qs ?_
      refine qs ?_
      refine qr T_ok [0, 3, 7, 28] (E2 := [(0, [], .p (.sl 2 S_F eS_F a0)), (3, [], .ptr 0 0), (7, [], vi x2), (28, [], vb (decide (a1.f0_Kind = 1)))]) (by kernel_rfl) ?_
      refine qi (t := decide (a1.f0_Kind = 1)) (by kernel_rfl) (fun c => ?_) (fun c => ?_)
      · rw [if_pos (of_decide_eq_true c)] at H
        clear c
        refine qs ?_
        refine qs ?_
        refine qg ?_
        refine qm T_ok 3 (k := 3) (by kernel_rfl) (by kernel_rfl) (by kernel_rfl) ?_
        obtain ⟨x3, hx, H⟩ := bd H
        refine qy rfl (zc (T := T) (quitclaimref14_room.ok k a0 a1.f1_Path _ hx) Tryd.func64 rfl rfl (caps := []) (by kernel_rfl) (by kernel_rfl) (by kernel_rfl) (by kernel_rfl) (by kernel_rfl) (by kernel_rfl)) rfl (by kernel_rfl) rfl ?_
        clear hx
        refine qz T_ok 1 [0, 3, 8] 1 (E2 := [(0, [], .p (.sl 2 S_F eS_F a0)), (3, [], .ptr 0 0), (8, [], vi x3)]) (h1 := [.cells 57 [vi a1.f0_Kind, vs a1.f1_Path, vs a1.f2_To, vi a1.f3_At, .p (.sl 1 ByteArray eS a1.f4_Old), .p (.sl 1 ByteArray eS a1.f5_New), v8 (a1.f6_Key.getD 0 0), v8 (a1.f6_Key.getD 1 0), v8 (a1.f6_Key.getD 2 0), v8 (a1.f6_Key.getD 3 0), v8 (a1.f6_Key.getD 4 0), v8 (a1.f6_Key.getD 5 0), v8 (a1.f6_Key.getD 6 0), v8 (a1.f6_Key.getD 7 0), v8 (a1.f6_Key.getD 8 0), v8 (a1.f6_Key.getD 9 0), v8 (a1.f6_Key.getD 10 0), v8 (a1.f6_Key.getD 11 0), v8 (a1.f6_Key.getD 12 0), v8 (a1.f6_Key.getD 13 0), v8 (a1.f6_Key.getD 14 0), v8 (a1.f6_Key.getD 15 0), v8 (a1.f6_Key.getD 16 0), v8 (a1.f6_Key.getD 17 0), v8 (a1.f6_Key.getD 18 0), v8 (a1.f6_Key.getD 19 0), v8 (a1.f6_Key.getD 20 0), v8 (a1.f6_Key.getD 21 0), v8 (a1.f6_Key.getD 22 0), v8 (a1.f6_Key.getD 23 0), v8 (a1.f6_Key.getD 24 0), v8 (a1.f6_Key.getD 25 0), v8 (a1.f6_Key.getD 26 0), v8 (a1.f6_Key.getD 27 0), v8 (a1.f6_Key.getD 28 0), v8 (a1.f6_Key.getD 29 0), v8 (a1.f6_Key.getD 30 0), v8 (a1.f6_Key.getD 31 0), vi a1.f7_Depth]]) (by kernel_rfl) (by kernel_rfl) (by kernel_rfl) (by kernel_rfl) (by kernel_rfl) ?_
        refine qs ?_
        refine qr T_ok [0, 3, 8, 34] (E2 := [(0, [], .p (.sl 2 S_F eS_F a0)), (3, [], .ptr 0 0), (8, [], vi x3), (34, [], vb (!decide (x3 = 0)))]) (by kernel_rfl) ?_
        refine qi (t := !decide (x3 = 0)) (by kernel_rfl) (fun c => ?_) (fun c => ?_)
        · rw [if_pos c] at H
          clear c
          refine qs ?_
          refine qg ?_
          refine qz T_ok 3 [4, 5] 0 (E2 := [(4, [], .p (.sl 2 S_F eS_F [])), (5, [], vi x3)]) (h1 := []) (by kernel_rfl) (by kernel_rfl) (by kernel_rfl) (by kernel_rfl) (by kernel_rfl) ?_
          refine qt ?_
          obtain rfl := Option.some.inj H
          exact ⟨.tup [.p (.sl 2 S_F eS_F []), vi x3], by kernel_rfl, rfl⟩
        · rw [if_neg (by rw [c]; exact Bool.false_ne_true)] at H
          clear c
          refine qw [0, 3] rfl ?_
          refine qk ?_
          refine qs ?_
          refine qs ?_
          refine qr T_ok [0, 3, 38] (E2 := [(0, [], .p (.sl 2 S_F eS_F a0)), (3, [], .ptr 0 0), (38, [], vb (decide ((a0.length : Int) ≥ 200)))]) (by kernel_rfl) ?_
          refine qi (t := decide ((a0.length : Int) ≥ 200)) (by kernel_rfl) (fun c => ?_) (fun c => ?_)
          · rw [if_pos (of_decide_eq_true c)] at H
            clear c
            refine qs ?_
            refine qg ?_
            refine qz T_ok 2 [4, 5] 0 (E2 := [(4, [], .p (.sl 2 S_F eS_F [])), (5, [], vi 14)]) (h1 := []) (by kernel_rfl) (by kernel_rfl) (by kernel_rfl) (by kernel_rfl) (by kernel_rfl) ?_
            refine qt ?_
            obtain rfl := Option.some.inj H
            exact ⟨.tup [.p (.sl 2 S_F eS_F []), vi 14], by kernel_rfl, rfl⟩
          · rw [if_neg (of_decide_eq_false c)] at H
            clear c
            refine qw [0, 3] rfl ?_
            refine qk ?_
            refine qs ?_
            refine qg ?_
            refine qm T_ok 4 (k := 4) (by kernel_rfl) (by kernel_rfl) (by kernel_rfl) ?_
            obtain ⟨x4, hx, H⟩ := bd H
            refine qy rfl (zc (T := T) (quitclaimref14_Put.ok k a0 (⟨a1.f1_Path, []⟩ : S_F) _ hx) Tryd.func65 rfl rfl (caps := []) (by kernel_rfl) (by kernel_rfl) (by kernel_rfl) (by kernel_rfl) (by kernel_rfl) (by kernel_rfl)) rfl (by kernel_rfl) rfl ?_
            clear hx
            refine qz T_ok 2 [4, 5] 0 (E2 := [(4, [], .p (.sl 2 S_F eS_F x4)), (5, [], vi 0)]) (h1 := []) (by kernel_rfl) (by kernel_rfl) (by kernel_rfl) (by kernel_rfl) (by kernel_rfl) ?_
            refine qt ?_
            obtain rfl := Option.some.inj H
            exact ⟨.tup [.p (.sl 2 S_F eS_F x4), vi 0], by kernel_rfl, rfl⟩
      · rw [if_neg (of_decide_eq_false c)] at H
        clear c
        refine qw [0, 3, 7] rfl ?_
        refine qk ?_
        refine qs ?_
        refine qs ?_
        refine qr T_ok [0, 3, 7, 45] (E2 := [(0, [], .p (.sl 2 S_F eS_F a0)), (3, [], .ptr 0 0), (7, [], vi x2), (45, [], vb (decide (x2 < 0)))]) (by kernel_rfl) ?_
        refine qi (t := decide (x2 < 0)) (by kernel_rfl) (fun c => ?_) (fun c => ?_)
        · rw [if_pos (of_decide_eq_true c)] at H
          clear c
          refine qs ?_
          refine qg ?_
          refine qz T_ok 2 [4, 5] 0 (E2 := [(4, [], .p (.sl 2 S_F eS_F [])), (5, [], vi 6)]) (h1 := []) (by kernel_rfl) (by kernel_rfl) (by kernel_rfl) (by kernel_rfl) (by kernel_rfl) ?_
          refine qt ?_
          obtain rfl := Option.some.inj H
          exact ⟨.tup [.p (.sl 2 S_F eS_F []), vi 6], by kernel_rfl, rfl⟩
        · rw [if_neg (of_decide_eq_false c)] at H
          clear c
          refine qw [0, 3, 7] rfl ?_
          refine qk ?_
          refine qs ?_
          refine qg ?_
          refine qm T_ok 2 (k := 2) (by kernel_rfl) (by kernel_rfl) (by kernel_rfl) ?_
          obtain ⟨x5, hx, H⟩ := bd H
          refine qy rfl (zc (T := T) (quitclaimref14_drop.ok k a0 x2 _ hx) Tryd.func93 rfl rfl (caps := []) (by kernel_rfl) (by kernel_rfl) (by kernel_rfl) (by kernel_rfl) (by kernel_rfl) (by kernel_rfl)) rfl (by kernel_rfl) rfl ?_
          clear hx
          refine qz T_ok 1 [0, 3, 7, 9] 1 (E2 := [(0, [], .p (.sl 2 S_F eS_F a0)), (3, [], .ptr 0 0), (7, [], vi x2), (9, [], .p (.sl 2 S_F eS_F x5))]) (h1 := [.cells 57 [vi a1.f0_Kind, vs a1.f1_Path, vs a1.f2_To, vi a1.f3_At, .p (.sl 1 ByteArray eS a1.f4_Old), .p (.sl 1 ByteArray eS a1.f5_New), v8 (a1.f6_Key.getD 0 0), v8 (a1.f6_Key.getD 1 0), v8 (a1.f6_Key.getD 2 0), v8 (a1.f6_Key.getD 3 0), v8 (a1.f6_Key.getD 4 0), v8 (a1.f6_Key.getD 5 0), v8 (a1.f6_Key.getD 6 0), v8 (a1.f6_Key.getD 7 0), v8 (a1.f6_Key.getD 8 0), v8 (a1.f6_Key.getD 9 0), v8 (a1.f6_Key.getD 10 0), v8 (a1.f6_Key.getD 11 0), v8 (a1.f6_Key.getD 12 0), v8 (a1.f6_Key.getD 13 0), v8 (a1.f6_Key.getD 14 0), v8 (a1.f6_Key.getD 15 0), v8 (a1.f6_Key.getD 16 0), v8 (a1.f6_Key.getD 17 0), v8 (a1.f6_Key.getD 18 0), v8 (a1.f6_Key.getD 19 0), v8 (a1.f6_Key.getD 20 0), v8 (a1.f6_Key.getD 21 0), v8 (a1.f6_Key.getD 22 0), v8 (a1.f6_Key.getD 23 0), v8 (a1.f6_Key.getD 24 0), v8 (a1.f6_Key.getD 25 0), v8 (a1.f6_Key.getD 26 0), v8 (a1.f6_Key.getD 27 0), v8 (a1.f6_Key.getD 28 0), v8 (a1.f6_Key.getD 29 0), v8 (a1.f6_Key.getD 30 0), v8 (a1.f6_Key.getD 31 0), vi a1.f7_Depth]]) (by kernel_rfl) (by kernel_rfl) (by kernel_rfl) (by kernel_rfl) (by kernel_rfl) ?_
          refine qs ?_
          refine qs ?_
          refine qr T_ok [0, 3, 7, 9, 51] (E2 := [(0, [], .p (.sl 2 S_F eS_F a0)), (3, [], .ptr 0 0), (7, [], vi x2), (9, [], .p (.sl 2 S_F eS_F x5)), (51, [], vb (decide (a1.f0_Kind = 2)))]) (by kernel_rfl) ?_
          refine qi (t := decide (a1.f0_Kind = 2)) (by kernel_rfl) (fun c => ?_) (fun c => ?_)
          · rw [if_pos (of_decide_eq_true c)] at H
            clear c
            refine qs ?_
            refine qs ?_
            refine qd (by kernel_rfl) 9 (by kernel_rfl) (by kernel_rfl) (by kernel_rfl) (by kernel_rfl) (by kernel_rfl) ?_
            refine dm T_ok 2 (k := 2) (by kernel_rfl) (by kernel_rfl) ?_
            obtain ⟨x6, hx, H⟩ := bd H
            refine dy rfl (zi T_ok .i64 (enc := eS_F) (l := a0) (e := 96) (n := 2) (ei := ti96) (sa := (.p (.sl 2 S_F eS_F a0))) hx rfl (by kernel_rfl) (by kernel_rfl) rfl (by kernel_rfl) (by kernel_rfl) (by kernel_rfl)) rfl (by kernel_rfl) rfl ?_
            clear hx
            refine dm T_ok 4 (k := 7) (by kernel_rfl) (by kernel_rfl) ?_
            obtain ⟨x7, hx, H⟩ := bd H
            refine dy rfl (zc (T := T) (quitclaimref05_Same.ok k x6.f1_Lines a1.f4_Old _ hx) Tryd.func21 rfl rfl (caps := []) (by kernel_rfl) (by kernel_rfl) (by kernel_rfl) (by kernel_rfl) (by kernel_rfl) (by kernel_rfl)) rfl (by kernel_rfl) rfl ?_
            clear hx
            refine dm T_ok 1 (k := 9) (by kernel_rfl) (by kernel_rfl) ?_
            refine dn ?_
            refine qz T_ok 0 [9, 60] 0 (E2 := [(9, [], .p (.sl 2 S_F eS_F x5)), (60, [], vb (!x7))]) (h1 := []) (by kernel_rfl) (by kernel_rfl) (by kernel_rfl) (by kernel_rfl) (by kernel_rfl) ?_
            refine qi (t := !x7) (by kernel_rfl) (fun c => ?_) (fun c => ?_)
            · rw [if_pos c] at H
              clear c
              refine qs ?_
              refine qr T_ok [4, 5] (E2 := [(4, [], .p (.sl 2 S_F eS_F [])), (5, [], vi 12)]) (by kernel_rfl) ?_
              refine qt ?_
              obtain rfl := Option.some.inj H
              exact ⟨.tup [.p (.sl 2 S_F eS_F []), vi 12], by kernel_rfl, rfl⟩
            · rw [if_neg (by rw [c]; exact Bool.false_ne_true)] at H
              clear c
              refine qw [9] rfl ?_
              refine qk ?_
              refine qs ?_
              refine qr T_ok [4, 5] (E2 := [(4, [], .p (.sl 2 S_F eS_F x5)), (5, [], vi 0)]) (by kernel_rfl) ?_
              refine qt ?_
              obtain rfl := Option.some.inj H
              exact ⟨.tup [.p (.sl 2 S_F eS_F x5), vi 0], by kernel_rfl, rfl⟩
          · rw [if_neg (of_decide_eq_false c)] at H
            clear c
            refine qw [0, 3, 7, 9] rfl ?_
            refine qk ?_
            refine qs ?_
            refine qs ?_
            refine qr T_ok [0, 3, 7, 9, 64] (E2 := [(0, [], .p (.sl 2 S_F eS_F a0)), (3, [], .ptr 0 0), (7, [], vi x2), (9, [], .p (.sl 2 S_F eS_F x5)), (64, [], vb (decide (a1.f0_Kind = 3)))]) (by kernel_rfl) ?_
            refine qi (t := decide (a1.f0_Kind = 3)) (by kernel_rfl) (fun c => ?_) (fun c => ?_)
            · rw [if_pos (of_decide_eq_true c)] at H
              clear c
              refine qs ?_
              refine qd (by kernel_rfl) 18 (by kernel_rfl) (by kernel_rfl) (by kernel_rfl) (by kernel_rfl) (by kernel_rfl) ?_
              refine dm T_ok 2 (k := 2) (by kernel_rfl) (by kernel_rfl) ?_
              obtain ⟨x8, hx, H⟩ := bd H
              refine dy rfl (zi T_ok .i64 (enc := eS_F) (l := a0) (e := 96) (n := 2) (ei := ti96) (sa := (.p (.sl 2 S_F eS_F a0))) hx rfl (by kernel_rfl) (by kernel_rfl) rfl (by kernel_rfl) (by kernel_rfl) (by kernel_rfl)) rfl (by kernel_rfl) rfl ?_
              clear hx
              refine dm T_ok 9 (k := 12) (by kernel_rfl) (by kernel_rfl) ?_
              obtain ⟨x9, hx, H⟩ := bd H
              refine dy rfl (zc (T := T) (quitclaimref11_Apply.ok k x8.f1_Lines (⟨a1.f3_At, a1.f4_Old, a1.f5_New⟩ : S_At_Old_New) _ hx) Tryd.func94 rfl rfl (caps := []) (by kernel_rfl) (by kernel_rfl) (by kernel_rfl) (by kernel_rfl) (by kernel_rfl) (by kernel_rfl)) rfl (by kernel_rfl) rfl ?_
              clear hx
              refine dm T_ok 5 (k := 18) (by kernel_rfl) (by kernel_rfl) ?_
              refine dn ?_
              refine qz T_ok 0 [3, 9, 10, 11] 1 (E2 := [(3, [], .ptr 0 0), (9, [], .p (.sl 2 S_F eS_F x5)), (10, [], .p (.sl 1 ByteArray eS x9.1)), (11, [], vi x9.2)]) (h1 := [.cells 57 [vi a1.f0_Kind, vs a1.f1_Path, vs a1.f2_To, vi a1.f3_At, .p (.sl 1 ByteArray eS a1.f4_Old), .p (.sl 1 ByteArray eS a1.f5_New), v8 (a1.f6_Key.getD 0 0), v8 (a1.f6_Key.getD 1 0), v8 (a1.f6_Key.getD 2 0), v8 (a1.f6_Key.getD 3 0), v8 (a1.f6_Key.getD 4 0), v8 (a1.f6_Key.getD 5 0), v8 (a1.f6_Key.getD 6 0), v8 (a1.f6_Key.getD 7 0), v8 (a1.f6_Key.getD 8 0), v8 (a1.f6_Key.getD 9 0), v8 (a1.f6_Key.getD 10 0), v8 (a1.f6_Key.getD 11 0), v8 (a1.f6_Key.getD 12 0), v8 (a1.f6_Key.getD 13 0), v8 (a1.f6_Key.getD 14 0), v8 (a1.f6_Key.getD 15 0), v8 (a1.f6_Key.getD 16 0), v8 (a1.f6_Key.getD 17 0), v8 (a1.f6_Key.getD 18 0), v8 (a1.f6_Key.getD 19 0), v8 (a1.f6_Key.getD 20 0), v8 (a1.f6_Key.getD 21 0), v8 (a1.f6_Key.getD 22 0), v8 (a1.f6_Key.getD 23 0), v8 (a1.f6_Key.getD 24 0), v8 (a1.f6_Key.getD 25 0), v8 (a1.f6_Key.getD 26 0), v8 (a1.f6_Key.getD 27 0), v8 (a1.f6_Key.getD 28 0), v8 (a1.f6_Key.getD 29 0), v8 (a1.f6_Key.getD 30 0), v8 (a1.f6_Key.getD 31 0), vi a1.f7_Depth]]) (by kernel_rfl) (by kernel_rfl) (by kernel_rfl) (by kernel_rfl) (by kernel_rfl) ?_
              refine qs ?_
              refine qs ?_
              refine qr T_ok [3, 9, 10, 11, 82] (E2 := [(3, [], .ptr 0 0), (9, [], .p (.sl 2 S_F eS_F x5)), (10, [], .p (.sl 1 ByteArray eS x9.1)), (11, [], vi x9.2), (82, [], vb (!decide (x9.2 = 0)))]) (by kernel_rfl) ?_
              refine qi (t := !decide (x9.2 = 0)) (by kernel_rfl) (fun c => ?_) (fun c => ?_)
              · rw [if_pos c] at H
                clear c
                refine qs ?_
                refine qg ?_
                refine qz T_ok 3 [4, 5] 0 (E2 := [(4, [], .p (.sl 2 S_F eS_F [])), (5, [], vi x9.2)]) (h1 := []) (by kernel_rfl) (by kernel_rfl) (by kernel_rfl) (by kernel_rfl) (by kernel_rfl) ?_
                refine qt ?_
                obtain rfl := Option.some.inj H
                exact ⟨.tup [.p (.sl 2 S_F eS_F []), vi x9.2], by kernel_rfl, rfl⟩
              · rw [if_neg (by rw [c]; exact Bool.false_ne_true)] at H
                clear c
                refine qw [3, 9, 10] rfl ?_
                refine qk ?_
                refine qs ?_
                refine qg ?_
                refine qm T_ok 5 (k := 5) (by kernel_rfl) (by kernel_rfl) (by kernel_rfl) ?_
                obtain ⟨x10, hx, H⟩ := bd H
                refine qy rfl (zc (T := T) (quitclaimref14_Put.ok k x5 (⟨a1.f1_Path, x9.1⟩ : S_F) _ hx) Tryd.func65 rfl rfl (caps := []) (by kernel_rfl) (by kernel_rfl) (by kernel_rfl) (by kernel_rfl) (by kernel_rfl) (by kernel_rfl)) rfl (by kernel_rfl) rfl ?_
                clear hx
                refine qz T_ok 2 [4, 5] 0 (E2 := [(4, [], .p (.sl 2 S_F eS_F x10)), (5, [], vi 0)]) (h1 := []) (by kernel_rfl) (by kernel_rfl) (by kernel_rfl) (by kernel_rfl) (by kernel_rfl) ?_
                refine qt ?_
                obtain rfl := Option.some.inj H
                exact ⟨.tup [.p (.sl 2 S_F eS_F x10), vi 0], by kernel_rfl, rfl⟩
            · rw [if_neg (of_decide_eq_false c)] at H
              clear c
              refine qw [0, 3, 7, 9] rfl ?_
              refine qk ?_
              refine qs ?_
              refine qs ?_
              refine qg ?_
              refine qm T_ok 3 (k := 3) (by kernel_rfl) (by kernel_rfl) (by kernel_rfl) ?_
              obtain ⟨x11, hx, H⟩ := bd H
              refine qy rfl (zc (T := T) (quitclaimref14_room.ok k x5 a1.f2_To _ hx) Tryd.func64 rfl rfl (caps := []) (by kernel_rfl) (by kernel_rfl) (by kernel_rfl) (by kernel_rfl) (by kernel_rfl) (by kernel_rfl)) rfl (by kernel_rfl) rfl ?_
              clear hx
              refine qz T_ok 1 [0, 3, 7, 9, 12] 1 (E2 := [(0, [], .p (.sl 2 S_F eS_F a0)), (3, [], .ptr 0 0), (7, [], vi x2), (9, [], .p (.sl 2 S_F eS_F x5)), (12, [], vi x11)]) (h1 := [.cells 57 [vi a1.f0_Kind, vs a1.f1_Path, vs a1.f2_To, vi a1.f3_At, .p (.sl 1 ByteArray eS a1.f4_Old), .p (.sl 1 ByteArray eS a1.f5_New), v8 (a1.f6_Key.getD 0 0), v8 (a1.f6_Key.getD 1 0), v8 (a1.f6_Key.getD 2 0), v8 (a1.f6_Key.getD 3 0), v8 (a1.f6_Key.getD 4 0), v8 (a1.f6_Key.getD 5 0), v8 (a1.f6_Key.getD 6 0), v8 (a1.f6_Key.getD 7 0), v8 (a1.f6_Key.getD 8 0), v8 (a1.f6_Key.getD 9 0), v8 (a1.f6_Key.getD 10 0), v8 (a1.f6_Key.getD 11 0), v8 (a1.f6_Key.getD 12 0), v8 (a1.f6_Key.getD 13 0), v8 (a1.f6_Key.getD 14 0), v8 (a1.f6_Key.getD 15 0), v8 (a1.f6_Key.getD 16 0), v8 (a1.f6_Key.getD 17 0), v8 (a1.f6_Key.getD 18 0), v8 (a1.f6_Key.getD 19 0), v8 (a1.f6_Key.getD 20 0), v8 (a1.f6_Key.getD 21 0), v8 (a1.f6_Key.getD 22 0), v8 (a1.f6_Key.getD 23 0), v8 (a1.f6_Key.getD 24 0), v8 (a1.f6_Key.getD 25 0), v8 (a1.f6_Key.getD 26 0), v8 (a1.f6_Key.getD 27 0), v8 (a1.f6_Key.getD 28 0), v8 (a1.f6_Key.getD 29 0), v8 (a1.f6_Key.getD 30 0), v8 (a1.f6_Key.getD 31 0), vi a1.f7_Depth]]) (by kernel_rfl) (by kernel_rfl) (by kernel_rfl) (by kernel_rfl) (by kernel_rfl) ?_
              refine qs ?_
              refine qr T_ok [0, 3, 7, 9, 12, 95] (E2 := [(0, [], .p (.sl 2 S_F eS_F a0)), (3, [], .ptr 0 0), (7, [], vi x2), (9, [], .p (.sl 2 S_F eS_F x5)), (12, [], vi x11), (95, [], vb (!decide (x11 = 0)))]) (by kernel_rfl) ?_
              refine qi (t := !decide (x11 = 0)) (by kernel_rfl) (fun c => ?_) (fun c => ?_)
              · rw [if_pos c] at H
                clear c
                refine qs ?_
                refine qg ?_
                refine qz T_ok 3 [4, 5] 0 (E2 := [(4, [], .p (.sl 2 S_F eS_F [])), (5, [], vi x11)]) (h1 := []) (by kernel_rfl) (by kernel_rfl) (by kernel_rfl) (by kernel_rfl) (by kernel_rfl) ?_
                refine qt ?_
                obtain rfl := Option.some.inj H
                exact ⟨.tup [.p (.sl 2 S_F eS_F []), vi x11], by kernel_rfl, rfl⟩
              · rw [if_neg (by rw [c]; exact Bool.false_ne_true)] at H
                clear c
                refine qw [0, 3, 7, 9] rfl ?_
                refine qk ?_
                refine qs ?_
                refine qd (by kernel_rfl) 12 (by kernel_rfl) (by kernel_rfl) (by kernel_rfl) (by kernel_rfl) (by kernel_rfl) ?_
                refine dm T_ok 5 (k := 5) (by kernel_rfl) (by kernel_rfl) ?_
                obtain ⟨x12, hx, H⟩ := bd H
                refine dy rfl (zi T_ok .i64 (enc := eS_F) (l := a0) (e := 96) (n := 2) (ei := ti96) (sa := (.p (.sl 2 S_F eS_F a0))) hx rfl (by kernel_rfl) (by kernel_rfl) rfl (by kernel_rfl) (by kernel_rfl) (by kernel_rfl)) rfl (by kernel_rfl) rfl ?_
                clear hx
                refine dm T_ok 3 (k := 9) (by kernel_rfl) (by kernel_rfl) ?_
                obtain ⟨x13, hx, H⟩ := bd H
                refine dy rfl (zc (T := T) (quitclaimref14_Put.ok k x5 (⟨a1.f2_To, x12.f1_Lines⟩ : S_F) _ hx) Tryd.func65 rfl rfl (caps := []) (by kernel_rfl) (by kernel_rfl) (by kernel_rfl) (by kernel_rfl) (by kernel_rfl) (by kernel_rfl)) rfl (by kernel_rfl) rfl ?_
                clear hx
                refine dm T_ok 2 (k := 12) (by kernel_rfl) (by kernel_rfl) ?_
                refine dn ?_
                refine qz T_ok 0 [4, 5] 0 (E2 := [(4, [], .p (.sl 2 S_F eS_F x13)), (5, [], vi 0)]) (h1 := []) (by kernel_rfl) (by kernel_rfl) (by kernel_rfl) (by kernel_rfl) (by kernel_rfl) ?_
                refine qt ?_
                obtain rfl := Option.some.inj H
                exact ⟨.tup [.p (.sl 2 S_F eS_F x13), vi 0], by kernel_rfl, rfl⟩
/-! ### quitclaim/quitclaimref14.All: function 33 -/
def quitclaimref14_All.l0 (a0 : List S_F) (a1 : List S_Op) : Nat → (List S_F) → Int → Option ((List S_F) × Int × Int)
  | 0, _, _ => none
  | k + 1, x3, x4 => (if x4 < (a1.length : Int) then ((ix a1 x4).bind fun x7 => ((quitclaimref14_Apply.f k x3 x7).bind fun x8 => (if (!decide (x8.2 = 0)) = true then some (a0, x4, x8.2) else quitclaimref14_All.l0 a0 a1 k x8.1 (w64 (x4 + 1))))) else some (x3, (a1.length : Int), 0))
def quitclaimref14_All.f (k : Nat) (a0 : List S_F) (a1 : List S_Op) : Option ((List S_F) × Int × Int) := quitclaimref14_All.l0 a0 a1 k a0 0
theorem quitclaimref14_All.ok (k : Nat) (a0 : List S_F) (a1 : List S_Op) (r : (List S_F) × Int × Int) (H : quitclaimref14_All.f k a0 a1 = some r) : PF Tryd.prog 33 [.p (.sl 2 S_F eS_F a0), .p (.sl 39 S_Op eS_Op a1)] (.tup [.p (.sl 2 S_F eS_F r.1), vi r.2.1, vi r.2.2]) := by
  refine PF_mk T_ok Tryd.func33 rfl (by kernel_rfl) (by kernel_rfl) ?_
  unfold quitclaimref14_All.f at H
  refine qs ?_
  refine qr T_ok [0, 1] (E2 := [(0, [], .p (.sl 2 S_F eS_F a0)), (1, [], .p (.sl 39 S_Op eS_Op a1))]) (by kernel_rfl) ?_
  refine qs ?_
  refine qr T_ok [0, 1, 7] (E2 := [(0, [], .p (.sl 2 S_F eS_F a0)), (1, [], .p (.sl 39 S_Op eS_Op a1)), (7, [], .p (.sl 2 S_F eS_F a0))]) (by kernel_rfl) ?_
  refine qs ?_
  refine qs ?_
  refine qr T_ok [0, 1, 7, 8] (E2 := [(0, [], .p (.sl 2 S_F eS_F a0)), (1, [], .p (.sl 39 S_Op eS_Op a1)), (7, [], .p (.sl 2 S_F eS_F a0)), (8, [], vi 0)]) (by kernel_rfl) ?_
  refine qb ?_
  refine qp (fun k E h => ∃ x3 : List S_F, ∃ x4 : Int, E = [(0, [], .p (.sl 2 S_F eS_F a0)), (1, [], .p (.sl 39 S_Op eS_Op a1)), (7, [], .p (.sl 2 S_F eS_F x3)), (8, [], vi x4)] ∧ h = [] ∧ quitclaimref14_All.l0 a0 a1 k x3 x4 = some r) k ⟨a0, 0, rfl, rfl, H⟩ ?_
  clear H
  rintro k E h ⟨x3, x4, rfl, rfl, H⟩
  cases k with
  | zero => exact nomatch (show none = some r from H)
  | succ k =>
    rw [quitclaimref14_All.l0] at H
    refine qs ?_
    refine qs ?_
    refine qr T_ok [0, 1, 7, 8, 15] (E2 := [(0, [], .p (.sl 2 S_F eS_F a0)), (1, [], .p (.sl 39 S_Op eS_Op a1)), (7, [], .p (.sl 2 S_F eS_F x3)), (8, [], vi x4), (15, [], vb (decide (x4 < (a1.length : Int))))]) (by kernel_rfl) ?_
    refine qi (t := decide (x4 < (a1.length : Int))) (by kernel_rfl) (fun c => ?_) (fun c => ?_)
    · rw [if_pos (of_decide_eq_true c)] at H
      clear c
      refine qw [0, 1, 7, 8] rfl ?_
      refine qk ?_
      refine qs ?_
      refine qb ?_
      refine qs ?_
      refine qg ?_
      refine qm T_ok 3 (k := 3) (by kernel_rfl) (by kernel_rfl) (by kernel_rfl) ?_
      obtain ⟨x7, hx, H⟩ := bd H
      refine qy rfl (zi T_ok .i64 (enc := eS_Op) (l := a1) (e := 57) (n := 39) (ei := ti57) (sa := (.p (.sl 39 S_Op eS_Op a1))) hx rfl (by kernel_rfl) (by kernel_rfl) rfl (by kernel_rfl) (by kernel_rfl) (by kernel_rfl)) rfl (by kernel_rfl) rfl ?_
      clear hx
      refine qm T_ok 1 (k := 5) (by kernel_rfl) (by kernel_rfl) (by kernel_rfl) ?_
      obtain ⟨x8, hx, H⟩ := bd H
      refine qy rfl (zc (T := T) (quitclaimref14_Apply.ok k x3 x7 _ hx) Tryd.func59 rfl rfl (caps := []) (by kernel_rfl) (by kernel_rfl) (by kernel_rfl) (by kernel_rfl) (by kernel_rfl) (by kernel_rfl)) rfl (by kernel_rfl) rfl ?_
      clear hx
      refine qz T_ok 5 [0, 1, 8, 9, 10] 0 (E2 := [(0, [], .p (.sl 2 S_F eS_F a0)), (1, [], .p (.sl 39 S_Op eS_Op a1)), (8, [], vi x4), (9, [], .p (.sl 2 S_F eS_F x8.1)), (10, [], vi x8.2)]) (h1 := []) (by kernel_rfl) (by kernel_rfl) (by kernel_rfl) (by kernel_rfl) (by kernel_rfl) ?_
      refine qs ?_
      refine qs ?_
      refine qr T_ok [0, 1, 8, 9, 10, 28] (E2 := [(0, [], .p (.sl 2 S_F eS_F a0)), (1, [], .p (.sl 39 S_Op eS_Op a1)), (8, [], vi x4), (9, [], .p (.sl 2 S_F eS_F x8.1)), (10, [], vi x8.2), (28, [], vb (!decide (x8.2 = 0)))]) (by kernel_rfl) ?_
      refine qi (t := !decide (x8.2 = 0)) (by kernel_rfl) (fun c => ?_) (fun c => ?_)
      · rw [if_pos c] at H
        clear c
        refine qs ?_
        refine qr T_ok [4, 5, 6] (E2 := [(4, [], .p (.sl 2 S_F eS_F a0)), (5, [], vi x4), (6, [], vi x8.2)]) (by kernel_rfl) ?_
        refine qt ?_
        obtain rfl := Option.some.inj H
        exact ⟨.tup [.p (.sl 2 S_F eS_F a0), vi x4, vi x8.2], by kernel_rfl, rfl⟩
      · rw [if_neg (by rw [c]; exact Bool.false_ne_true)] at H
        clear c
        refine qw [0, 1, 8, 9] rfl ?_
        refine qk ?_
        refine qr T_ok [0, 1, 7, 8] (E2 := [(0, [], .p (.sl 2 S_F eS_F a0)), (1, [], .p (.sl 39 S_Op eS_Op a1)), (7, [], .p (.sl 2 S_F eS_F x8.1)), (8, [], vi x4)]) (by kernel_rfl) ?_
        refine qr T_ok [0, 1, 7, 8] (E2 := [(0, [], .p (.sl 2 S_F eS_F a0)), (1, [], .p (.sl 39 S_Op eS_Op a1)), (7, [], .p (.sl 2 S_F eS_F x8.1)), (8, [], vi (w64 (x4 + 1)))]) (by kernel_rfl) ?_
        exact ⟨_, Nat.lt_succ_self _, x8.1, w64 (x4 + 1), rfl, rfl, H⟩
    · rw [if_neg (of_decide_eq_false c)] at H
      clear c
      refine qw [1, 7] rfl ?_
      refine qx ?_
      refine qs ?_
      refine qr T_ok [4, 5, 6] (E2 := [(4, [], .p (.sl 2 S_F eS_F x3)), (5, [], vi (a1.length : Int)), (6, [], vi 0)]) (by kernel_rfl) ?_
      refine qt ?_
      obtain rfl := Option.some.inj H
      exact ⟨.tup [.p (.sl 2 S_F eS_F x3), vi (a1.length : Int), vi 0], by kernel_rfl, rfl⟩
/-! ### quitclaim/tree.clone: function 63 -/
def tree_clone.f (a0 : S_F) : Option S_F := ((slices_Clone_string_string.f a0.f1_Lines).bind fun x1 => some (⟨a0.f0_Path, x1⟩ : S_F))
theorem tree_clone.ok (a0 : S_F) (r : S_F) (H : tree_clone.f a0 = some r) : PF Tryd.prog 63 [.p (.agg [(.s (.string a0.f0_Path)), (.sl 1 ByteArray eS a0.f1_Lines)])] (.p (.agg [(.s (.string r.f0_Path)), (.sl 1 ByteArray eS r.f1_Lines)])) := by
  refine PF_mk T_ok Tryd.func63 rfl (by kernel_rfl) (by kernel_rfl) ?_
  unfold tree_clone.f at H
  refine qs ?_
  refine qg ?_
  refine xb (T := T) (j := 0) (cs := [vs a0.f0_Path, .p (.sl 1 ByteArray eS a0.f1_Lines)]) rfl rfl rfl rfl (by kernel_rfl) (by kernel_rfl) rfl ?_
  refine xa T_ok (j := 1) (ti := ti62) rfl rfl rfl rfl (by kernel_rfl) (by kernel_rfl) rfl ?_
  refine qz T_ok 0 [1, 2] 2 (E2 := [(1, [], .ptr 0 0), (2, [], .ptr 1 0)]) (h1 := [.cells 62 [vs a0.f0_Path, .p (.sl 1 ByteArray eS a0.f1_Lines)], .cells 62 [vs ⟨#[]⟩, .p (.sl 1 ByteArray eS [])]]) (by kernel_rfl) (by kernel_rfl) (by kernel_rfl) (by kernel_rfl) (by kernel_rfl) ?_
  refine qs ?_
  refine qd (by kernel_rfl) 6 (by kernel_rfl) (by kernel_rfl) (by kernel_rfl) (by kernel_rfl) (by kernel_rfl) ?_
  refine dm T_ok 4 (k := 4) (by kernel_rfl) (by kernel_rfl) ?_
  obtain ⟨x1, hx, H⟩ := bd H
  refine dy rfl (zc (T := T) (slices_Clone_string_string.ok a0.f1_Lines _ hx) Tryd.func70 rfl rfl (caps := []) (by kernel_rfl) (by kernel_rfl) (by kernel_rfl) (by kernel_rfl) (by kernel_rfl) (by kernel_rfl)) rfl (by kernel_rfl) rfl ?_
  clear hx
  refine dm T_ok 1 (k := 6) (by kernel_rfl) (by kernel_rfl) ?_
  refine dn ?_
  refine xs T_ok (u := 62) (b := 1) (off := 0) (vs := [vs a0.f0_Path, .p (.sl 1 ByteArray eS x1)]) (cs := [vs ⟨#[]⟩, .p (.sl 1 ByteArray eS [])]) (ti := ti62) rfl rfl rfl rfl (by kernel_rfl) (by kernel_rfl) (by kernel_rfl) (by kernel_rfl) (by kernel_rfl) (by kernel_rfl) rfl ?_
  refine qz T_ok 0 [2] 2 (E2 := [(2, [], .ptr 1 0)]) (h1 := [.cells 62 [vs a0.f0_Path, .p (.sl 1 ByteArray eS a0.f1_Lines)], .cells 62 [vs a0.f0_Path, .p (.sl 1 ByteArray eS x1)]]) (by kernel_rfl) (by kernel_rfl) (by kernel_rfl) (by kernel_rfl) (by kernel_rfl) ?_
  refine qt ?_
  obtain rfl := Option.some.inj H
  exact ⟨.p (.agg [(.s (.string a0.f0_Path)), (.sl 1 ByteArray eS x1)]), by kernel_rfl, rfl⟩
/-! ### (quitclaim/tree.Tree).Files: function 60 -/
def tree_Tree_Files.l0 (a0 : S_files) : Nat → (List S_F) → Int → Option (List S_F)
  | 0, _, _ => none
  | k + 1, x4, x5 => (if x5 < (a0.f0_files.length : Int) then ((ix a0.f0_files x5).bind fun x9 => ((tree_clone.f x9).bind fun x10 => ((app 40 x4 [x10]).bind fun x11 => tree_Tree_Files.l0 a0 k x11 (w64 (x5 + 1))))) else some x4)
def tree_Tree_Files.f (k : Nat) (a0 : S_files) : Option (List S_F) := tree_Tree_Files.l0 a0 k [] 0
theorem tree_Tree_Files.ok (k : Nat) (a0 : S_files) (r : List S_F) (H : tree_Tree_Files.f k a0 = some r) : PF Tryd.prog 60 [.p (.agg [(.sl 2 S_F eS_F a0.f0_files)])] (.p (.sl 2 S_F eS_F r)) := by
  refine PF_mk T_ok Tryd.func60 rfl (by kernel_rfl) (by kernel_rfl) ?_
  unfold tree_Tree_Files.f at H
  refine qs ?_
  refine qg ?_
  refine xb (T := T) (j := 0) (cs := [.p (.sl 2 S_F eS_F a0.f0_files)]) rfl rfl rfl rfl (by kernel_rfl) (by kernel_rfl) rfl ?_
  refine qz T_ok 1 [1] 1 (E2 := [(1, [], .ptr 0 0)]) (h1 := [.cells 46 [.p (.sl 2 S_F eS_F a0.f0_files)]]) (by kernel_rfl) (by kernel_rfl) (by kernel_rfl) (by kernel_rfl) (by kernel_rfl) ?_
  refine qs ?_
  refine qg ?_
  refine xn T_ok eS_F (e := 62) (j := 1) (ei := ti62) (by kernel_rfl) rfl (Or.inl rfl) rfl rfl (by kernel_rfl) rfl ?_
  refine qz T_ok 0 [1, 3] 2 (E2 := [(1, [], .ptr 0 0), (3, [], .own 62 2 S_F eS_F [] 1)]) (h1 := [.cells 46 [.p (.sl 2 S_F eS_F a0.f0_files)], .tail]) (by kernel_rfl) (by kernel_rfl) (by kernel_rfl) (by kernel_rfl) (by kernel_rfl) ?_
  refine qs ?_
  refine qs ?_
  refine qr T_ok [3, 7, 8, 9] (E2 := [(3, [], .own 62 2 S_F eS_F [] 1), (7, [], .p (.sl 2 S_F eS_F a0.f0_files)), (8, [], vi (a0.f0_files.length : Int)), (9, [], vi 0)]) (by kernel_rfl) ?_
  refine qb ?_
  refine qp (fun k E h => ∃ x4 : List S_F, ∃ x5 : Int, E = [(3, [], .own 62 2 S_F eS_F x4 1), (7, [], .p (.sl 2 S_F eS_F a0.f0_files)), (8, [], vi (a0.f0_files.length : Int)), (9, [], vi x5)] ∧ h = [.cells 46 [.p (.sl 2 S_F eS_F a0.f0_files)], .tail] ∧ tree_Tree_Files.l0 a0 k x4 x5 = some r) k ⟨[], 0, rfl, rfl, H⟩ ?_
  clear H
  rintro k E h ⟨x4, x5, rfl, rfl, H⟩
  cases k with
  | zero => exact nomatch (show none = some r from H)
  | succ k =>
    rw [tree_Tree_Files.l0] at H
    refine qs ?_
    refine qr T_ok [3, 7, 8, 9, 10] (E2 := [(3, [], .own 62 2 S_F eS_F x4 1), (7, [], .p (.sl 2 S_F eS_F a0.f0_files)), (8, [], vi (a0.f0_files.length : Int)), (9, [], vi x5), (10, [], vb (decide (x5 < (a0.f0_files.length : Int))))]) (by kernel_rfl) ?_
    refine qs ?_
    refine qi (t := decide (x5 < (a0.f0_files.length : Int))) (by kernel_rfl) (fun c => ?_) (fun c => ?_)
    · rw [if_pos (of_decide_eq_true c)] at H
      clear c
      refine qw [3, 7, 8, 9] rfl ?_
      refine qk ?_
      refine qs ?_
      refine qb ?_
      refine qs ?_
      refine qg ?_
      obtain ⟨x9, hx, H⟩ := bd H
      refine qy rfl (zi T_ok .i64 (enc := eS_F) (l := a0.f0_files) (e := 62) (n := 2) (ei := ti62) (sa := (.p (.sl 2 S_F eS_F a0.f0_files))) hx rfl (by kernel_rfl) (by kernel_rfl) rfl (by kernel_rfl) (by kernel_rfl) (by kernel_rfl)) rfl (by kernel_rfl) rfl ?_
      clear hx
      refine qm T_ok 1 (k := 2) (by kernel_rfl) (by kernel_rfl) (by kernel_rfl) ?_
      refine xa T_ok (j := 2) (ti := ti62) rfl rfl rfl rfl (by kernel_rfl) (by kernel_rfl) rfl ?_
      refine xs T_ok (u := 62) (b := 2) (off := 0) (vs := [vs x9.f0_Path, .p (.sl 1 ByteArray eS x9.f1_Lines)]) (cs := [vs ⟨#[]⟩, .p (.sl 1 ByteArray eS [])]) (ti := ti62) rfl rfl rfl rfl (by kernel_rfl) (by kernel_rfl) (by kernel_rfl) (by kernel_rfl) (by kernel_rfl) (by kernel_rfl) rfl ?_
      refine qz T_ok 0 [3, 5, 7, 8, 9] 3 (E2 := [(3, [], .own 62 2 S_F eS_F x4 1), (5, [], .ptr 2 0), (7, [], .p (.sl 2 S_F eS_F a0.f0_files)), (8, [], vi (a0.f0_files.length : Int)), (9, [], vi x5)]) (h1 := [.cells 46 [.p (.sl 2 S_F eS_F a0.f0_files)], .tail, .cells 62 [vs x9.f0_Path, .p (.sl 1 ByteArray eS x9.f1_Lines)]]) (by kernel_rfl) (by kernel_rfl) (by kernel_rfl) (by kernel_rfl) (by kernel_rfl) ?_
      refine qg ?_
      refine qm T_ok 2 (k := 2) (by kernel_rfl) (by kernel_rfl) (by kernel_rfl) ?_
      obtain ⟨x10, hx, H⟩ := bd H
      refine qy rfl (zc (T := T) (tree_clone.ok x9 _ hx) Tryd.func63 rfl rfl (caps := []) (by kernel_rfl) (by kernel_rfl) (by kernel_rfl) (by kernel_rfl) (by kernel_rfl) (by kernel_rfl)) rfl (by kernel_rfl) rfl ?_
      clear hx
      refine qy rfl (ze T_ok (e := 62) (n := 2) eS_F ([x10] : List S_F) rfl (by kernel_rfl)) rfl (by kernel_rfl) rfl ?_
      obtain ⟨x11, hx, H⟩ := bd H
      refine xp T_ok (enc := eS_F) (l := x4) (m := [x10]) (e := 62) (e' := 62) (j := 1) (ei := ti62) (sy := (.p (.sl 2 S_F eS_F [x10]))) hx rfl rfl rfl rfl rfl rfl rfl (by kernel_rfl) (by kernel_rfl) (by kernel_rfl) (by kernel_rfl) (by kernel_rfl) (by kernel_rfl) (by kernel_rfl) (by kernel_rfl) (by kernel_rfl) rfl ?_
      clear hx
      refine qz T_ok 1 [3, 7, 8, 9] 2 (E2 := [(3, [], .own 62 2 S_F eS_F x11 1), (7, [], .p (.sl 2 S_F eS_F a0.f0_files)), (8, [], vi (a0.f0_files.length : Int)), (9, [], vi x5)]) (h1 := [.cells 46 [.p (.sl 2 S_F eS_F a0.f0_files)], .tail]) (by kernel_rfl) (by kernel_rfl) (by kernel_rfl) (by kernel_rfl) (by kernel_rfl) ?_
      refine qr T_ok [3, 7, 8, 9] (E2 := [(3, [], .own 62 2 S_F eS_F x11 1), (7, [], .p (.sl 2 S_F eS_F a0.f0_files)), (8, [], vi (a0.f0_files.length : Int)), (9, [], vi (w64 (x5 + 1)))]) (by kernel_rfl) ?_
      exact ⟨_, Nat.lt_succ_self _, x11, w64 (x5 + 1), rfl, rfl, H⟩
    · rw [if_neg (of_decide_eq_false c)] at H
      clear c
      refine qw [3] rfl ?_
      refine qx ?_
      refine qs ?_
      refine qr T_ok [2] (E2 := [(2, [], .own 62 2 S_F eS_F x4 1)]) (by kernel_rfl) ?_
      refine qt ?_
      obtain rfl := Option.some.inj H
      exact ⟨.own 62 2 S_F eS_F x4 1, by kernel_rfl, rfl⟩
/-! ### quitclaim/quitclaimlaw14.Plain: function 35 -/
def quitclaimlaw14_Plain.l0 (x1 : List S_F) : Nat → (List S_F) → Int → Option (List S_F)
  | 0, _, _ => none
  | k + 1, x4, x5 => (if x5 < (x1.length : Int) then ((ix x1 x5).bind fun x8 => ((app 40 x4 [x8]).bind fun x9 => quitclaimlaw14_Plain.l0 x1 k x9 (w64 (x5 + 1)))) else some x4)
def quitclaimlaw14_Plain.f (k : Nat) (a0 : S_files) : Option (List S_F) := ((tree_Tree_Files.f k a0).bind fun x1 => quitclaimlaw14_Plain.l0 x1 k [] 0)
theorem quitclaimlaw14_Plain.ok (k : Nat) (a0 : S_files) (r : List S_F) (H : quitclaimlaw14_Plain.f k a0 = some r) : PF Tryd.prog 35 [.p (.agg [(.sl 2 S_F eS_F a0.f0_files)])] (.p (.sl 2 S_F eS_F r)) := by
  refine PF_mk T_ok Tryd.func35 rfl (by kernel_rfl) (by kernel_rfl) ?_
  unfold quitclaimlaw14_Plain.f at H
  refine qs ?_
  refine qg ?_
  refine xb (T := T) (j := 0) (cs := [.p (.sl 2 S_F eS_F a0.f0_files)]) rfl rfl rfl rfl (by kernel_rfl) (by kernel_rfl) rfl ?_
  refine qz T_ok 1 [1] 1 (E2 := [(1, [], .ptr 0 0)]) (h1 := [.cells 46 [.p (.sl 2 S_F eS_F a0.f0_files)]]) (by kernel_rfl) (by kernel_rfl) (by kernel_rfl) (by kernel_rfl) (by kernel_rfl) ?_
  refine qs ?_
  refine qg ?_
  refine xn T_ok eS_F (e := 96) (j := 1) (ei := ti96) (by kernel_rfl) rfl (Or.inl rfl) rfl rfl (by kernel_rfl) rfl ?_
  refine qz T_ok 0 [1, 3] 2 (E2 := [(1, [], .ptr 0 0), (3, [], .own 96 2 S_F eS_F [] 1)]) (h1 := [.cells 46 [.p (.sl 2 S_F eS_F a0.f0_files)], .tail]) (by kernel_rfl) (by kernel_rfl) (by kernel_rfl) (by kernel_rfl) (by kernel_rfl) ?_
  refine qs ?_
  refine qs ?_
  refine qg ?_
  refine qm T_ok 1 (k := 1) (by kernel_rfl) (by kernel_rfl) (by kernel_rfl) ?_
  obtain ⟨x1, hx, H⟩ := bd H
  refine qy rfl (zc (T := T) (tree_Tree_Files.ok k a0 _ hx) Tryd.func60 rfl rfl (caps := []) (by kernel_rfl) (by kernel_rfl) (by kernel_rfl) (by kernel_rfl) (by kernel_rfl) (by kernel_rfl)) rfl (by kernel_rfl) rfl ?_
  clear hx
  refine qz T_ok 2 [3, 7, 8, 9] 2 (E2 := [(3, [], .own 96 2 S_F eS_F [] 1), (7, [], .p (.sl 2 S_F eS_F x1)), (8, [], vi (x1.length : Int)), (9, [], vi 0)]) (h1 := [.cells 46 [.p (.sl 2 S_F eS_F a0.f0_files)], .tail]) (by kernel_rfl) (by kernel_rfl) (by kernel_rfl) (by kernel_rfl) (by kernel_rfl) ?_
  refine qb ?_
  refine qp (fun k E h => ∃ x4 : List S_F, ∃ x5 : Int, E = [(3, [], .own 96 2 S_F eS_F x4 1), (7, [], .p (.sl 2 S_F eS_F x1)), (8, [], vi (x1.length : Int)), (9, [], vi x5)] ∧ h = [.cells 46 [.p (.sl 2 S_F eS_F a0.f0_files)], .tail] ∧ quitclaimlaw14_Plain.l0 x1 k x4 x5 = some r) k ⟨[], 0, rfl, rfl, H⟩ ?_
  clear H
  rintro k E h ⟨x4, x5, rfl, rfl, H⟩
  cases k with
  | zero => exact nomatch (show none = some r from H)
  | succ k =>
    rw [quitclaimlaw14_Plain.l0] at H
    refine qs ?_
    refine qr T_ok [3, 7, 8, 9, 10] (E2 := [(3, [], .own 96 2 S_F eS_F x4 1), (7, [], .p (.sl 2 S_F eS_F x1)), (8, [], vi (x1.length : Int)), (9, [], vi x5), (10, [], vb (decide (x5 < (x1.length : Int))))]) (by kernel_rfl) ?_
    refine qs ?_
    refine qi (t := decide (x5 < (x1.length : Int))) (by kernel_rfl) (fun c => ?_) (fun c => ?_)
    · rw [if_pos (of_decide_eq_true c)] at H
      clear c
      refine qw [3, 7, 8, 9] rfl ?_
      refine qk ?_
      refine qs ?_
      refine qb ?_
      refine qs ?_
      refine qg ?_
      obtain ⟨x8, hx, H⟩ := bd H
      refine qy rfl (zi T_ok .i64 (enc := eS_F) (l := x1) (e := 62) (n := 2) (ei := ti62) (sa := (.p (.sl 2 S_F eS_F x1))) hx rfl (by kernel_rfl) (by kernel_rfl) rfl (by kernel_rfl) (by kernel_rfl) (by kernel_rfl)) rfl (by kernel_rfl) rfl ?_
      clear hx
      refine qm T_ok 1 (k := 2) (by kernel_rfl) (by kernel_rfl) (by kernel_rfl) ?_
      refine xa T_ok (j := 2) (ti := ti62) rfl rfl rfl rfl (by kernel_rfl) (by kernel_rfl) rfl ?_
      refine xs T_ok (u := 62) (b := 2) (off := 0) (vs := [vs x8.f0_Path, .p (.sl 1 ByteArray eS x8.f1_Lines)]) (cs := [vs ⟨#[]⟩, .p (.sl 1 ByteArray eS [])]) (ti := ti62) rfl rfl rfl rfl (by kernel_rfl) (by kernel_rfl) (by kernel_rfl) (by kernel_rfl) (by kernel_rfl) (by kernel_rfl) rfl ?_
      refine qz T_ok 0 [3, 5, 7, 8, 9] 3 (E2 := [(3, [], .own 96 2 S_F eS_F x4 1), (5, [], .ptr 2 0), (7, [], .p (.sl 2 S_F eS_F x1)), (8, [], vi (x1.length : Int)), (9, [], vi x5)]) (h1 := [.cells 46 [.p (.sl 2 S_F eS_F a0.f0_files)], .tail, .cells 62 [vs x8.f0_Path, .p (.sl 1 ByteArray eS x8.f1_Lines)]]) (by kernel_rfl) (by kernel_rfl) (by kernel_rfl) (by kernel_rfl) (by kernel_rfl) ?_
      refine qg ?_
      refine qm T_ok 6 (k := 6) (by kernel_rfl) (by kernel_rfl) (by kernel_rfl) ?_
      refine qy rfl (ze T_ok (e := 96) (n := 2) eS_F ([x8] : List S_F) rfl (by kernel_rfl)) rfl (by kernel_rfl) rfl ?_
      obtain ⟨x9, hx, H⟩ := bd H
      refine xp T_ok (enc := eS_F) (l := x4) (m := [x8]) (e := 96) (e' := 96) (j := 1) (ei := ti96) (sy := (.p (.sl 2 S_F eS_F [x8]))) hx rfl rfl rfl rfl rfl rfl rfl (by kernel_rfl) (by kernel_rfl) (by kernel_rfl) (by kernel_rfl) (by kernel_rfl) (by kernel_rfl) (by kernel_rfl) (by kernel_rfl) (by kernel_rfl) rfl ?_
      clear hx
      refine qz T_ok 1 [3, 7, 8, 9] 2 (E2 := [(3, [], .own 96 2 S_F eS_F x9 1), (7, [], .p (.sl 2 S_F eS_F x1)), (8, [], vi (x1.length : Int)), (9, [], vi x5)]) (h1 := [.cells 46 [.p (.sl 2 S_F eS_F a0.f0_files)], .tail]) (by kernel_rfl) (by kernel_rfl) (by kernel_rfl) (by kernel_rfl) (by kernel_rfl) ?_
      refine qr T_ok [3, 7, 8, 9] (E2 := [(3, [], .own 96 2 S_F eS_F x9 1), (7, [], .p (.sl 2 S_F eS_F x1)), (8, [], vi (x1.length : Int)), (9, [], vi (w64 (x5 + 1)))]) (by kernel_rfl) ?_
      exact ⟨_, Nat.lt_succ_self _, x9, w64 (x5 + 1), rfl, rfl, H⟩
    · rw [if_neg (of_decide_eq_false c)] at H
      clear c
      refine qw [3] rfl ?_
      refine qx ?_
      refine qs ?_
      refine qr T_ok [2] (E2 := [(2, [], .own 96 2 S_F eS_F x4 1)]) (by kernel_rfl) ?_
      refine qt ?_
      obtain rfl := Option.some.inj H
      exact ⟨.own 96 2 S_F eS_F x4 1, by kernel_rfl, rfl⟩
/-! ### quitclaim/quitclaimref14.Same: function 34 -/
def quitclaimref14_Same.l0 (a0 : List S_F) (a1 : List S_F) : Nat → Int → Option Bool
  | 0, _ => none
  | k + 1, x6 => (if x6 < (a0.length : Int) then ((ix a0 x6).bind fun x12 => ((ix a1 x6).bind fun x13 => ((gd (!(!decide (x12.f0_Path = x13.f0_Path))) (ix a0 x6)).bind fun x14 => ((gd (!(!decide (x12.f0_Path = x13.f0_Path))) (ix a1 x6)).bind fun x15 => ((gd (!(!decide (x12.f0_Path = x13.f0_Path))) (quitclaimref05_Same.f k x14.f1_Lines x15.f1_Lines)).bind fun x16 => (if (!decide (x12.f0_Path = x13.f0_Path) || !x16) = true then some false else quitclaimref14_Same.l0 a0 a1 k (w64 (x6 + 1)))))))) else some true)
def quitclaimref14_Same.f (k : Nat) (a0 : List S_F) (a1 : List S_F) : Option Bool := (if (!decide ((a0.length : Int) = (a1.length : Int))) = true then some false else quitclaimref14_Same.l0 a0 a1 k 0)
theorem quitclaimref14_Same.ok (k : Nat) (a0 : List S_F) (a1 : List S_F) (r : Bool) (H : quitclaimref14_Same.f k a0 a1 = some r) : PF Tryd.prog 34 [.p (.sl 2 S_F eS_F a0), .p (.sl 2 S_F eS_F a1)] (vb r) := by
  refine PF_mk T_ok Tryd.func34 rfl (by kernel_rfl) (by kernel_rfl) ?_
  unfold quitclaimref14_Same.f at H
  refine qs ?_
  refine qr T_ok [0, 1] (E2 := [(0, [], .p (.sl 2 S_F eS_F a0)), (1, [], .p (.sl 2 S_F eS_F a1))]) (by kernel_rfl) ?_
  refine qs ?_
  refine qs ?_
  refine qr T_ok [0, 1, 10] (E2 := [(0, [], .p (.sl 2 S_F eS_F a0)), (1, [], .p (.sl 2 S_F eS_F a1)), (10, [], vb (!decide ((a0.length : Int) = (a1.length : Int))))]) (by kernel_rfl) ?_
  refine qi (t := !decide ((a0.length : Int) = (a1.length : Int))) (by kernel_rfl) (fun c => ?_) (fun c => ?_)
  · rw [if_pos c] at H
    clear c
    refine qs ?_
    refine qr T_ok [4] (E2 := [(4, [], vb false)]) (by kernel_rfl) ?_
    refine qt ?_
    obtain rfl := Option.some.inj H
    exact ⟨vb false, by kernel_rfl, rfl⟩
  · rw [if_neg (by rw [c]; exact Bool.false_ne_true)] at H
    clear c
    refine qw [0, 1] rfl ?_
    refine qk ?_
    refine qs ?_
    refine qs ?_
    refine qr T_ok [0, 1, 5] (E2 := [(0, [], .p (.sl 2 S_F eS_F a0)), (1, [], .p (.sl 2 S_F eS_F a1)), (5, [], vi 0)]) (by kernel_rfl) ?_
    refine qb ?_
    refine qp (fun k E h => ∃ x6 : Int, E = [(0, [], .p (.sl 2 S_F eS_F a0)), (1, [], .p (.sl 2 S_F eS_F a1)), (5, [], vi x6)] ∧ h = [] ∧ quitclaimref14_Same.l0 a0 a1 k x6 = some r) k ⟨0, rfl, rfl, H⟩ ?_
    clear H
    rintro k E h ⟨x6, rfl, rfl, H⟩
    cases k with
    | zero => exact nomatch (show none = some r from H)
    | succ k =>
      rw [quitclaimref14_Same.l0] at H
      refine qs ?_
      refine qs ?_
      refine qr T_ok [0, 1, 5, 14] (E2 := [(0, [], .p (.sl 2 S_F eS_F a0)), (1, [], .p (.sl 2 S_F eS_F a1)), (5, [], vi x6), (14, [], vb (decide (x6 < (a0.length : Int))))]) (by kernel_rfl) ?_
      refine qi (t := decide (x6 < (a0.length : Int))) (by kernel_rfl) (fun c => ?_) (fun c => ?_)
      · rw [if_pos (of_decide_eq_true c)] at H
        clear c
        refine qw [0, 1, 5] rfl ?_
        refine qk ?_
        refine qs ?_
        refine qb ?_
        refine qs ?_
        refine qd (by kernel_rfl) 25 (by kernel_rfl) (by kernel_rfl) (by kernel_rfl) (by kernel_rfl) (by kernel_rfl) ?_
        refine dm T_ok 2 (k := 2) (by kernel_rfl) (by kernel_rfl) ?_
        obtain ⟨x12, hx, H⟩ := bd H
        refine dy rfl (zi T_ok .i64 (enc := eS_F) (l := a0) (e := 96) (n := 2) (ei := ti96) (sa := (.p (.sl 2 S_F eS_F a0))) hx rfl (by kernel_rfl) (by kernel_rfl) rfl (by kernel_rfl) (by kernel_rfl) (by kernel_rfl)) rfl (by kernel_rfl) rfl ?_
        clear hx
        refine dm T_ok 4 (k := 7) (by kernel_rfl) (by kernel_rfl) ?_
        obtain ⟨x13, hx, H⟩ := bd H
        refine dy rfl (zi T_ok .i64 (enc := eS_F) (l := a1) (e := 96) (n := 2) (ei := ti96) (sa := (.p (.sl 2 S_F eS_F a1))) hx rfl (by kernel_rfl) (by kernel_rfl) rfl (by kernel_rfl) (by kernel_rfl) (by kernel_rfl)) rfl (by kernel_rfl) rfl ?_
        clear hx
        refine dm T_ok 6 (k := 14) (by kernel_rfl) (by kernel_rfl) ?_
        obtain ⟨x14, hx, H⟩ := bd H
        refine dyg rfl (tg := []) (Yld.under (u := 28) (b := false) (t := !decide (x12.f0_Path = x13.f0_Path)) (by kernel_rfl) (by simp) fun g0_ => (zi T_ok .i64 (enc := eS_F) (l := a0) (e := 96) (n := 2) (ei := ti96) (sa := (.p (.sl 2 S_F eS_F a0))) (gd0 hx g0_) rfl (by kernel_rfl) (by kernel_rfl) rfl (by kernel_rfl) (by kernel_rfl) (by kernel_rfl))) rfl rfl (by kernel_rfl) (by kernel_rfl) rfl ?_
        clear hx
        refine dm T_ok 4 (k := 19) (by kernel_rfl) (by kernel_rfl) ?_
        obtain ⟨x15, hx, H⟩ := bd H
        refine dyg rfl (tg := []) (Yld.under (u := 28) (b := false) (t := !decide (x12.f0_Path = x13.f0_Path)) (by kernel_rfl) (by simp) fun g0_ => (zi T_ok .i64 (enc := eS_F) (l := a1) (e := 96) (n := 2) (ei := ti96) (sa := (.p (.sl 2 S_F eS_F a1))) (gd0 hx g0_) rfl (by kernel_rfl) (by kernel_rfl) rfl (by kernel_rfl) (by kernel_rfl) (by kernel_rfl))) rfl rfl (by kernel_rfl) (by kernel_rfl) rfl ?_
        clear hx
        refine dm T_ok 2 (k := 22) (by kernel_rfl) (by kernel_rfl) ?_
        obtain ⟨x16, hx, H⟩ := bd H
        refine dyg rfl (tg := []) (Yld.under (u := 28) (b := false) (t := !decide (x12.f0_Path = x13.f0_Path)) (by kernel_rfl) (by simp) fun g0_ => (zc (T := T) (quitclaimref05_Same.ok k x14.f1_Lines x15.f1_Lines _ (gd0 hx g0_)) Tryd.func21 rfl rfl (caps := []) (by kernel_rfl) (by kernel_rfl) (by kernel_rfl) (by kernel_rfl) (by kernel_rfl) (by kernel_rfl))) rfl rfl (by kernel_rfl) (by kernel_rfl) rfl ?_
        clear hx
        refine dm T_ok 2 (k := 25) (by kernel_rfl) (by kernel_rfl) ?_
        refine dn ?_
        refine qz T_ok 0 [0, 1, 5, 41] 0 (E2 := [(0, [], .p (.sl 2 S_F eS_F a0)), (1, [], .p (.sl 2 S_F eS_F a1)), (5, [], vi x6), (41, [], vb (!decide (x12.f0_Path = x13.f0_Path) || !x16))]) (h1 := []) (by kernel_rfl) (by kernel_rfl) (by kernel_rfl) (by kernel_rfl) (by kernel_rfl) ?_
        refine qi (t := (!decide (x12.f0_Path = x13.f0_Path) || !x16)) (by kernel_rfl) (fun c => ?_) (fun c => ?_)
        · rw [if_pos c] at H
          clear c
          refine qs ?_
          refine qr T_ok [4] (E2 := [(4, [], vb false)]) (by kernel_rfl) ?_
          refine qt ?_
          obtain rfl := Option.some.inj H
          exact ⟨vb false, by kernel_rfl, rfl⟩
        · rw [if_neg (by rw [c]; exact Bool.false_ne_true)] at H
          clear c
          refine qw [0, 1, 5] rfl ?_
          refine qk ?_
          refine qr T_ok [0, 1, 5] (E2 := [(0, [], .p (.sl 2 S_F eS_F a0)), (1, [], .p (.sl 2 S_F eS_F a1)), (5, [], vi (w64 (x6 + 1)))]) (by kernel_rfl) ?_
          exact ⟨_, Nat.lt_succ_self _, w64 (x6 + 1), rfl, rfl, H⟩
      · rw [if_neg (of_decide_eq_false c)] at H
        clear c
        refine qw [] rfl ?_
        refine qx ?_
        refine qs ?_
        refine qr T_ok [4] (E2 := [(4, [], vb true)]) (by kernel_rfl) ?_
        refine qt ?_
        obtain rfl := Option.some.inj H
        exact ⟨vb true, by kernel_rfl, rfl⟩
/-! ### quitclaim/quitclaimref13.Inverse: function 36 -/
def quitclaimref13_Inverse.f (a0 : S_Op) : Option (List S_Op) := (if a0.f0_Kind = 1 then some [(⟨2, a0.f1_Path, ⟨#[]⟩, 0, [], [], [0, 0, 0, 0, 0, 0, 0, 0, 0, 0, 0, 0, 0, 0, 0, 0, 0, 0, 0, 0, 0, 0, 0, 0, 0, 0, 0, 0, 0, 0, 0, 0], 0⟩ : S_Op)] else (if (decide (a0.f0_Kind = 2) && decide ((a0.f4_Old.length : Int) = 0)) = true then some [(⟨1, a0.f1_Path, ⟨#[]⟩, 0, [], [], [0, 0, 0, 0, 0, 0, 0, 0, 0, 0, 0, 0, 0, 0, 0, 0, 0, 0, 0, 0, 0, 0, 0, 0, 0, 0, 0, 0, 0, 0, 0, 0], 0⟩ : S_Op)] else (if a0.f0_Kind = 2 then some [(⟨1, a0.f1_Path, ⟨#[]⟩, 0, [], [], [0, 0, 0, 0, 0, 0, 0, 0, 0, 0, 0, 0, 0, 0, 0, 0, 0, 0, 0, 0, 0, 0, 0, 0, 0, 0, 0, 0, 0, 0, 0, 0], 0⟩ : S_Op), (⟨3, a0.f1_Path, ⟨#[]⟩, 0, [], a0.f4_Old, [0, 0, 0, 0, 0, 0, 0, 0, 0, 0, 0, 0, 0, 0, 0, 0, 0, 0, 0, 0, 0, 0, 0, 0, 0, 0, 0, 0, 0, 0, 0, 0], 0⟩ : S_Op)] else (if a0.f0_Kind = 3 then some [(⟨3, a0.f1_Path, ⟨#[]⟩, a0.f3_At, a0.f5_New, a0.f4_Old, [0, 0, 0, 0, 0, 0, 0, 0, 0, 0, 0, 0, 0, 0, 0, 0, 0, 0, 0, 0, 0, 0, 0, 0, 0, 0, 0, 0, 0, 0, 0, 0], 0⟩ : S_Op)] else some [(⟨4, a0.f2_To, a0.f1_Path, 0, [], [], [0, 0, 0, 0, 0, 0, 0, 0, 0, 0, 0, 0, 0, 0, 0, 0, 0, 0, 0, 0, 0, 0, 0, 0, 0, 0, 0, 0, 0, 0, 0, 0], 0⟩ : S_Op)]))))
theorem quitclaimref13_Inverse.ok (a0 : S_Op) (r : List S_Op) (H : quitclaimref13_Inverse.f a0 = some r) : PF Tryd.prog 36 [.p (.agg [(.s (.int .i64 a0.f0_Kind)), (.s (.string a0.f1_Path)), (.s (.string a0.f2_To)), (.s (.int .i64 a0.f3_At)), (.sl 1 ByteArray eS a0.f4_Old), (.sl 1 ByteArray eS a0.f5_New), (.s (.int .u8 (a0.f6_Key.getD 0 0))), (.s (.int .u8 (a0.f6_Key.getD 1 0))), (.s (.int .u8 (a0.f6_Key.getD 2 0))), (.s (.int .u8 (a0.f6_Key.getD 3 0))), (.s (.int .u8 (a0.f6_Key.getD 4 0))), (.s (.int .u8 (a0.f6_Key.getD 5 0))), (.s (.int .u8 (a0.f6_Key.getD 6 0))), (.s (.int .u8 (a0.f6_Key.getD 7 0))), (.s (.int .u8 (a0.f6_Key.getD 8 0))), (.s (.int .u8 (a0.f6_Key.getD 9 0))), (.s (.int .u8 (a0.f6_Key.getD 10 0))), (.s (.int .u8 (a0.f6_Key.getD 11 0))), (.s (.int .u8 (a0.f6_Key.getD 12 0))), (.s (.int .u8 (a0.f6_Key.getD 13 0))), (.s (.int .u8 (a0.f6_Key.getD 14 0))), (.s (.int .u8 (a0.f6_Key.getD 15 0))), (.s (.int .u8 (a0.f6_Key.getD 16 0))), (.s (.int .u8 (a0.f6_Key.getD 17 0))), (.s (.int .u8 (a0.f6_Key.getD 18 0))), (.s (.int .u8 (a0.f6_Key.getD 19 0))), (.s (.int .u8 (a0.f6_Key.getD 20 0))), (.s (.int .u8 (a0.f6_Key.getD 21 0))), (.s (.int .u8 (a0.f6_Key.getD 22 0))), (.s (.int .u8 (a0.f6_Key.getD 23 0))), (.s (.int .u8 (a0.f6_Key.getD 24 0))), (.s (.int .u8 (a0.f6_Key.getD 25 0))), (.s (.int .u8 (a0.f6_Key.getD 26 0))), (.s (.int .u8 (a0.f6_Key.getD 27 0))), (.s (.int .u8 (a0.f6_Key.getD 28 0))), (.s (.int .u8 (a0.f6_Key.getD 29 0))), (.s (.int .u8 (a0.f6_Key.getD 30 0))), (.s (.int .u8 (a0.f6_Key.getD 31 0))), (.s (.int .i64 a0.f7_Depth))])] (.p (.sl 39 S_Op eS_Op r)) := by
  refine PF_mk T_ok Tryd.func36 rfl (by kernel_rfl) (by kernel_rfl) ?_
  unfold quitclaimref13_Inverse.f at H
  refine qs ?_
  refine qg ?_
  refine xb (T := T) (j := 0) (cs := [vi a0.f0_Kind, vs a0.f1_Path, vs a0.f2_To, vi a0.f3_At, .p (.sl 1 ByteArray eS a0.f4_Old), .p (.sl 1 ByteArray eS a0.f5_New), v8 (a0.f6_Key.getD 0 0), v8 (a0.f6_Key.getD 1 0), v8 (a0.f6_Key.getD 2 0), v8 (a0.f6_Key.getD 3 0), v8 (a0.f6_Key.getD 4 0), v8 (a0.f6_Key.getD 5 0), v8 (a0.f6_Key.getD 6 0), v8 (a0.f6_Key.getD 7 0), v8 (a0.f6_Key.getD 8 0), v8 (a0.f6_Key.getD 9 0), v8 (a0.f6_Key.getD 10 0), v8 (a0.f6_Key.getD 11 0), v8 (a0.f6_Key.getD 12 0), v8 (a0.f6_Key.getD 13 0), v8 (a0.f6_Key.getD 14 0), v8 (a0.f6_Key.getD 15 0), v8 (a0.f6_Key.getD 16 0), v8 (a0.f6_Key.getD 17 0), v8 (a0.f6_Key.getD 18 0), v8 (a0.f6_Key.getD 19 0), v8 (a0.f6_Key.getD 20 0), v8 (a0.f6_Key.getD 21 0), v8 (a0.f6_Key.getD 22 0), v8 (a0.f6_Key.getD 23 0), v8 (a0.f6_Key.getD 24 0), v8 (a0.f6_Key.getD 25 0), v8 (a0.f6_Key.getD 26 0), v8 (a0.f6_Key.getD 27 0), v8 (a0.f6_Key.getD 28 0), v8 (a0.f6_Key.getD 29 0), v8 (a0.f6_Key.getD 30 0), v8 (a0.f6_Key.getD 31 0), vi a0.f7_Depth]) rfl rfl rfl rfl (by kernel_rfl) (by kernel_rfl) rfl ?_
  refine qz T_ok 1 [1] 1 (E2 := [(1, [], .ptr 0 0)]) (h1 := [.cells 57 [vi a0.f0_Kind, vs a0.f1_Path, vs a0.f2_To, vi a0.f3_At, .p (.sl 1 ByteArray eS a0.f4_Old), .p (.sl 1 ByteArray eS a0.f5_New), v8 (a0.f6_Key.getD 0 0), v8 (a0.f6_Key.getD 1 0), v8 (a0.f6_Key.getD 2 0), v8 (a0.f6_Key.getD 3 0), v8 (a0.f6_Key.getD 4 0), v8 (a0.f6_Key.getD 5 0), v8 (a0.f6_Key.getD 6 0), v8 (a0.f6_Key.getD 7 0), v8 (a0.f6_Key.getD 8 0), v8 (a0.f6_Key.getD 9 0), v8 (a0.f6_Key.getD 10 0), v8 (a0.f6_Key.getD 11 0), v8 (a0.f6_Key.getD 12 0), v8 (a0.f6_Key.getD 13 0), v8 (a0.f6_Key.getD 14 0), v8 (a0.f6_Key.getD 15 0), v8 (a0.f6_Key.getD 16 0), v8 (a0.f6_Key.getD 17 0), v8 (a0.f6_Key.getD 18 0), v8 (a0.f6_Key.getD 19 0), v8 (a0.f6_Key.getD 20 0), v8 (a0.f6_Key.getD 21 0), v8 (a0.f6_Key.getD 22 0), v8 (a0.f6_Key.getD 23 0), v8 (a0.f6_Key.getD 24 0), v8 (a0.f6_Key.getD 25 0), v8 (a0.f6_Key.getD 26 0), v8 (a0.f6_Key.getD 27 0), v8 (a0.f6_Key.getD 28 0), v8 (a0.f6_Key.getD 29 0), v8 (a0.f6_Key.getD 30 0), v8 (a0.f6_Key.getD 31 0), vi a0.f7_Depth]]) (by kernel_rfl) (by kernel_rfl) (by kernel_rfl) (by kernel_rfl) (by kernel_rfl) ?_
  refine qs ?_
  refine qs ?_
  refine qr T_ok [1, 5] (E2 := [(1, [], .ptr 0 0), (5, [], vb (decide (a0.f0_Kind = 1)))]) (by kernel_rfl) ?_
  refine qi (t := decide (a0.f0_Kind = 1)) (by kernel_rfl) (fun c => ?_) (fun c => ?_)
  · rw [if_pos (of_decide_eq_true c)] at H
    clear c
    refine qs ?_
    refine qg ?_
    refine qm T_ok 3 (k := 3) (by kernel_rfl) (by kernel_rfl) (by kernel_rfl) ?_
    refine qy rfl (ze T_ok (e := 57) (n := 39) eS_Op ([(⟨2, a0.f1_Path, ⟨#[]⟩, 0, [], [], [0, 0, 0, 0, 0, 0, 0, 0, 0, 0, 0, 0, 0, 0, 0, 0, 0, 0, 0, 0, 0, 0, 0, 0, 0, 0, 0, 0, 0, 0, 0, 0], 0⟩ : S_Op)] : List S_Op) rfl (by kernel_rfl)) rfl (by kernel_rfl) rfl ?_
    refine qz T_ok 1 [2] 0 (E2 := [(2, [], .p (.sl 39 S_Op eS_Op [(⟨2, a0.f1_Path, ⟨#[]⟩, 0, [], [], [0, 0, 0, 0, 0, 0, 0, 0, 0, 0, 0, 0, 0, 0, 0, 0, 0, 0, 0, 0, 0, 0, 0, 0, 0, 0, 0, 0, 0, 0, 0, 0], 0⟩ : S_Op)]))]) (h1 := []) (by kernel_rfl) (by kernel_rfl) (by kernel_rfl) (by kernel_rfl) (by kernel_rfl) ?_
    refine qt ?_
    obtain rfl := Option.some.inj H
    exact ⟨.p (.sl 39 S_Op eS_Op [(⟨2, a0.f1_Path, ⟨#[]⟩, 0, [], [], [0, 0, 0, 0, 0, 0, 0, 0, 0, 0, 0, 0, 0, 0, 0, 0, 0, 0, 0, 0, 0, 0, 0, 0, 0, 0, 0, 0, 0, 0, 0, 0], 0⟩ : S_Op)]), by kernel_rfl, rfl⟩
  · rw [if_neg (of_decide_eq_false c)] at H
    clear c
    refine qw [1] rfl ?_
    refine qk ?_
    refine qs ?_
    refine qs ?_
    refine qr T_ok [1, 18] (E2 := [(1, [], .ptr 0 0), (18, [], vb (decide (a0.f0_Kind = 2) && decide ((a0.f4_Old.length : Int) = 0)))]) (by kernel_rfl) ?_
    refine qi (t := (decide (a0.f0_Kind = 2) && decide ((a0.f4_Old.length : Int) = 0))) (by kernel_rfl) (fun c => ?_) (fun c => ?_)
    · rw [if_pos c] at H
      clear c
      refine qs ?_
      refine qg ?_
      refine qm T_ok 3 (k := 3) (by kernel_rfl) (by kernel_rfl) (by kernel_rfl) ?_
      refine qy rfl (ze T_ok (e := 57) (n := 39) eS_Op ([(⟨1, a0.f1_Path, ⟨#[]⟩, 0, [], [], [0, 0, 0, 0, 0, 0, 0, 0, 0, 0, 0, 0, 0, 0, 0, 0, 0, 0, 0, 0, 0, 0, 0, 0, 0, 0, 0, 0, 0, 0, 0, 0], 0⟩ : S_Op)] : List S_Op) rfl (by kernel_rfl)) rfl (by kernel_rfl) rfl ?_
      refine qz T_ok 1 [2] 0 (E2 := [(2, [], .p (.sl 39 S_Op eS_Op [(⟨1, a0.f1_Path, ⟨#[]⟩, 0, [], [], [0, 0, 0, 0, 0, 0, 0, 0, 0, 0, 0, 0, 0, 0, 0, 0, 0, 0, 0, 0, 0, 0, 0, 0, 0, 0, 0, 0, 0, 0, 0, 0], 0⟩ : S_Op)]))]) (h1 := []) (by kernel_rfl) (by kernel_rfl) (by kernel_rfl) (by kernel_rfl) (by kernel_rfl) ?_
      refine qt ?_
      obtain rfl := Option.some.inj H
      exact ⟨.p (.sl 39 S_Op eS_Op [(⟨1, a0.f1_Path, ⟨#[]⟩, 0, [], [], [0, 0, 0, 0, 0, 0, 0, 0, 0, 0, 0, 0, 0, 0, 0, 0, 0, 0, 0, 0, 0, 0, 0, 0, 0, 0, 0, 0, 0, 0, 0, 0], 0⟩ : S_Op)]), by kernel_rfl, rfl⟩
    · rw [if_neg (by rw [c]; exact Bool.false_ne_true)] at H
      clear c
      refine qw [1] rfl ?_
      refine qk ?_
      refine qs ?_
      refine qs ?_
      refine qr T_ok [1, 25] (E2 := [(1, [], .ptr 0 0), (25, [], vb (decide (a0.f0_Kind = 2)))]) (by kernel_rfl) ?_
      refine qi (t := decide (a0.f0_Kind = 2)) (by kernel_rfl) (fun c => ?_) (fun c => ?_)
      · rw [if_pos (of_decide_eq_true c)] at H
        clear c
        refine qs ?_
        refine qg ?_
        refine qm T_ok 8 (k := 8) (by kernel_rfl) (by kernel_rfl) (by kernel_rfl) ?_
        refine qy rfl (ze T_ok (e := 57) (n := 39) eS_Op ([(⟨1, a0.f1_Path, ⟨#[]⟩, 0, [], [], [0, 0, 0, 0, 0, 0, 0, 0, 0, 0, 0, 0, 0, 0, 0, 0, 0, 0, 0, 0, 0, 0, 0, 0, 0, 0, 0, 0, 0, 0, 0, 0], 0⟩ : S_Op), (⟨3, a0.f1_Path, ⟨#[]⟩, 0, [], a0.f4_Old, [0, 0, 0, 0, 0, 0, 0, 0, 0, 0, 0, 0, 0, 0, 0, 0, 0, 0, 0, 0, 0, 0, 0, 0, 0, 0, 0, 0, 0, 0, 0, 0], 0⟩ : S_Op)] : List S_Op) rfl (by kernel_rfl)) rfl (by kernel_rfl) rfl ?_
        refine qz T_ok 1 [2] 0 (E2 := [(2, [], .p (.sl 39 S_Op eS_Op [(⟨1, a0.f1_Path, ⟨#[]⟩, 0, [], [], [0, 0, 0, 0, 0, 0, 0, 0, 0, 0, 0, 0, 0, 0, 0, 0, 0, 0, 0, 0, 0, 0, 0, 0, 0, 0, 0, 0, 0, 0, 0, 0], 0⟩ : S_Op), (⟨3, a0.f1_Path, ⟨#[]⟩, 0, [], a0.f4_Old, [0, 0, 0, 0, 0, 0, 0, 0, 0, 0, 0, 0, 0, 0, 0, 0, 0, 0, 0, 0, 0, 0, 0, 0, 0, 0, 0, 0, 0, 0, 0, 0], 0⟩ : S_Op)]))]) (h1 := []) (by kernel_rfl) (by kernel_rfl) (by kernel_rfl) (by kernel_rfl) (by kernel_rfl) ?_
        refine qt ?_
        obtain rfl := Option.some.inj H
        exact ⟨.p (.sl 39 S_Op eS_Op [(⟨1, a0.f1_Path, ⟨#[]⟩, 0, [], [], [0, 0, 0, 0, 0, 0, 0, 0, 0, 0, 0, 0, 0, 0, 0, 0, 0, 0, 0, 0, 0, 0, 0, 0, 0, 0, 0, 0, 0, 0, 0, 0], 0⟩ : S_Op), (⟨3, a0.f1_Path, ⟨#[]⟩, 0, [], a0.f4_Old, [0, 0, 0, 0, 0, 0, 0, 0, 0, 0, 0, 0, 0, 0, 0, 0, 0, 0, 0, 0, 0, 0, 0, 0, 0, 0, 0, 0, 0, 0, 0, 0], 0⟩ : S_Op)]), by kernel_rfl, rfl⟩
      · rw [if_neg (of_decide_eq_false c)] at H
        clear c
        refine qw [1] rfl ?_
        refine qk ?_
        refine qs ?_
        refine qs ?_
        refine qr T_ok [1, 37] (E2 := [(1, [], .ptr 0 0), (37, [], vb (decide (a0.f0_Kind = 3)))]) (by kernel_rfl) ?_
        refine qi (t := decide (a0.f0_Kind = 3)) (by kernel_rfl) (fun c => ?_) (fun c => ?_)
        · rw [if_pos (of_decide_eq_true c)] at H
          clear c
          refine qs ?_
          refine qg ?_
          refine qm T_ok 9 (k := 9) (by kernel_rfl) (by kernel_rfl) (by kernel_rfl) ?_
          refine qy rfl (ze T_ok (e := 57) (n := 39) eS_Op ([(⟨3, a0.f1_Path, ⟨#[]⟩, a0.f3_At, a0.f5_New, a0.f4_Old, [0, 0, 0, 0, 0, 0, 0, 0, 0, 0, 0, 0, 0, 0, 0, 0, 0, 0, 0, 0, 0, 0, 0, 0, 0, 0, 0, 0, 0, 0, 0, 0], 0⟩ : S_Op)] : List S_Op) rfl (by kernel_rfl)) rfl (by kernel_rfl) rfl ?_
          refine qz T_ok 1 [2] 0 (E2 := [(2, [], .p (.sl 39 S_Op eS_Op [(⟨3, a0.f1_Path, ⟨#[]⟩, a0.f3_At, a0.f5_New, a0.f4_Old, [0, 0, 0, 0, 0, 0, 0, 0, 0, 0, 0, 0, 0, 0, 0, 0, 0, 0, 0, 0, 0, 0, 0, 0, 0, 0, 0, 0, 0, 0, 0, 0], 0⟩ : S_Op)]))]) (h1 := []) (by kernel_rfl) (by kernel_rfl) (by kernel_rfl) (by kernel_rfl) (by kernel_rfl) ?_
          refine qt ?_
          obtain rfl := Option.some.inj H
          exact ⟨.p (.sl 39 S_Op eS_Op [(⟨3, a0.f1_Path, ⟨#[]⟩, a0.f3_At, a0.f5_New, a0.f4_Old, [0, 0, 0, 0, 0, 0, 0, 0, 0, 0, 0, 0, 0, 0, 0, 0, 0, 0, 0, 0, 0, 0, 0, 0, 0, 0, 0, 0, 0, 0, 0, 0], 0⟩ : S_Op)]), by kernel_rfl, rfl⟩
        · rw [if_neg (of_decide_eq_false c)] at H
          clear c
          refine qw [1] rfl ?_
          refine qk ?_
          refine qs ?_
          refine qg ?_
          refine qm T_ok 5 (k := 5) (by kernel_rfl) (by kernel_rfl) (by kernel_rfl) ?_
          refine qy rfl (ze T_ok (e := 57) (n := 39) eS_Op ([(⟨4, a0.f2_To, a0.f1_Path, 0, [], [], [0, 0, 0, 0, 0, 0, 0, 0, 0, 0, 0, 0, 0, 0, 0, 0, 0, 0, 0, 0, 0, 0, 0, 0, 0, 0, 0, 0, 0, 0, 0, 0], 0⟩ : S_Op)] : List S_Op) rfl (by kernel_rfl)) rfl (by kernel_rfl) rfl ?_
          refine qz T_ok 1 [2] 0 (E2 := [(2, [], .p (.sl 39 S_Op eS_Op [(⟨4, a0.f2_To, a0.f1_Path, 0, [], [], [0, 0, 0, 0, 0, 0, 0, 0, 0, 0, 0, 0, 0, 0, 0, 0, 0, 0, 0, 0, 0, 0, 0, 0, 0, 0, 0, 0, 0, 0, 0, 0], 0⟩ : S_Op)]))]) (h1 := []) (by kernel_rfl) (by kernel_rfl) (by kernel_rfl) (by kernel_rfl) (by kernel_rfl) ?_
          refine qt ?_
          obtain rfl := Option.some.inj H
          exact ⟨.p (.sl 39 S_Op eS_Op [(⟨4, a0.f2_To, a0.f1_Path, 0, [], [], [0, 0, 0, 0, 0, 0, 0, 0, 0, 0, 0, 0, 0, 0, 0, 0, 0, 0, 0, 0, 0, 0, 0, 0, 0, 0, 0, 0, 0, 0, 0, 0], 0⟩ : S_Op)]), by kernel_rfl, rfl⟩
/-! ### (quitclaim/tree.Tree).Len: function 37 -/
def tree_Tree_Len.f (a0 : S_files) : Option Int := some (a0.f0_files.length : Int)
theorem tree_Tree_Len.ok (a0 : S_files) (r : Int) (H : tree_Tree_Len.f a0 = some r) : PF Tryd.prog 37 [.p (.agg [(.sl 2 S_F eS_F a0.f0_files)])] (vi r) := by
  refine PF_mk T_ok Tryd.func37 rfl (by kernel_rfl) (by kernel_rfl) ?_
  unfold tree_Tree_Len.f at H
  refine qs ?_
  refine qg ?_
  refine xb (T := T) (j := 0) (cs := [.p (.sl 2 S_F eS_F a0.f0_files)]) rfl rfl rfl rfl (by kernel_rfl) (by kernel_rfl) rfl ?_
  refine qz T_ok 1 [1] 1 (E2 := [(1, [], .ptr 0 0)]) (h1 := [.cells 46 [.p (.sl 2 S_F eS_F a0.f0_files)]]) (by kernel_rfl) (by kernel_rfl) (by kernel_rfl) (by kernel_rfl) (by kernel_rfl) ?_
  refine qs ?_
  refine qg ?_
  refine qz T_ok 4 [2] 0 (E2 := [(2, [], vi (a0.f0_files.length : Int))]) (h1 := []) (by kernel_rfl) (by kernel_rfl) (by kernel_rfl) (by kernel_rfl) (by kernel_rfl) ?_
  refine qt ?_
  obtain rfl := Option.some.inj H
  exact ⟨vi (a0.f0_files.length : Int), by kernel_rfl, rfl⟩
end Go.Proofs.YtngcfmnmjkncoaaDoor.Q
