/- Go functions as Lean functions, and that the code answers what they say; no condition but the typed premises. -/
import Derived.Test.YtngcfmnmjkncoaaDoorQT
import Derived.Test.YtngcfmnmjkncoaaDoorShelf
import Derived.Test.YtngcfmnmjkncoaaDoorRight
namespace Go.Proofs.YtngcfmnmjkncoaaDoor.Q
open Go Go.RowKit
set_option maxRecDepth 100000
set_option linter.unusedVariables false
set_option linter.unusedSimpArgs false
/-! ### quitclaim/quitclaimlaw11.long: function 23 -/
def quitclaimlaw11_long.l3 (x6 : Int) (b2 : (Int → Option Bool)) (x12 : List ByteArray) : Nat → Int → Option Bool
  | 0, _ => none
  | k + 1, x14 => (if x14 < (x12.length : Int) then ((ix x12 x14).bind fun x16 => (if (x16.size : Int) > 300 then some true else quitclaimlaw11_long.l3 x6 b2 x12 k (w64 (x14 + 1)))) else b2 (w64 (x6 + 1)))
def quitclaimlaw11_long.l2 (a0 : List (List ByteArray)) : Nat → Int → Option Bool
  | 0, _ => none
  | k + 1, x6 => jn (fun (x6 : Int) => quitclaimlaw11_long.l2 a0 k x6) fun b2 => (if x6 < (a0.length : Int) then ((ix a0 x6).bind fun x12 => (if (x12.length : Int) > 60 then some true else quitclaimlaw11_long.l3 x6 b2 x12 k 0)) else some false)
def quitclaimlaw11_long.f (k : Nat) (a0 : List (List ByteArray)) : Option Bool := quitclaimlaw11_long.l2 a0 k 0
theorem quitclaimlaw11_long.ok (k : Nat) (a0 : List (List ByteArray)) (r : Bool) (H : quitclaimlaw11_long.f k a0 = some r) : PF Tryd.prog 23 [.p (.sl 1 (List ByteArray) (eL 1 eS) a0)] (vb r) := by
  refine PF_mk T_ok Tryd.func23 rfl (by kernel_rfl) (by kernel_rfl) ?_
  unfold quitclaimlaw11_long.f at H
  refine qs ?_
  refine qr T_ok [0] (E2 := [(0, [], .p (.sl 1 (List ByteArray) (eL 1 eS) a0))]) (by kernel_rfl) ?_
  refine qs ?_
  refine qs ?_
  refine qr T_ok [7, 8, 9] (E2 := [(7, [], .p (.sl 1 (List ByteArray) (eL 1 eS) a0)), (8, [], vi (a0.length : Int)), (9, [], vi 0)]) (by kernel_rfl) ?_
  refine qb ?_
  refine qp (fun k E h => ∃ x6 : Int, E = [(7, [], .p (.sl 1 (List ByteArray) (eL 1 eS) a0)), (8, [], vi (a0.length : Int)), (9, [], vi x6)] ∧ h = [] ∧ quitclaimlaw11_long.l2 a0 k x6 = some r) k ⟨0, rfl, rfl, H⟩ ?_
  clear H
  rintro k E h ⟨x6, rfl, rfl, H⟩
  cases k with
  | zero => exact nomatch (show none = some r from H)
  | succ k =>
    rw [quitclaimlaw11_long.l2] at H
    obtain ⟨b2, hb2, H⟩ := jn_of H
    refine qs ?_
    refine qr T_ok [7, 8, 9, 10] (E2 := [(7, [], .p (.sl 1 (List ByteArray) (eL 1 eS) a0)), (8, [], vi (a0.length : Int)), (9, [], vi x6), (10, [], vb (decide (x6 < (a0.length : Int))))]) (by kernel_rfl) ?_
    refine qs ?_
    refine qi (t := decide (x6 < (a0.length : Int))) (by kernel_rfl) (fun c => ?_) (fun c => ?_)
    · rw [if_pos (of_decide_eq_true c)] at H
      clear c
      refine qw [7, 8, 9] rfl ?_
      refine qk ?_
      refine qs ?_
      refine qb ?_
      refine qs ?_
      refine qg ?_
      obtain ⟨x12, hx, H⟩ := bd H
      refine qy rfl (zi T_ok .i64 (enc := (eL 1 eS)) (l := a0) (e := 22) (n := 1) (ei := ti22) (sa := (.p (.sl 1 (List ByteArray) (eL 1 eS) a0))) hx rfl (by kernel_rfl) (by kernel_rfl) rfl (by kernel_rfl) (by kernel_rfl) (by kernel_rfl)) rfl (by kernel_rfl) rfl ?_
      clear hx
      refine qz T_ok 2 [4, 7, 8, 9] 0 (E2 := [(4, [], .p (.sl 1 ByteArray eS x12)), (7, [], .p (.sl 1 (List ByteArray) (eL 1 eS) a0)), (8, [], vi (a0.length : Int)), (9, [], vi x6)]) (h1 := []) (by kernel_rfl) (by kernel_rfl) (by kernel_rfl) (by kernel_rfl) (by kernel_rfl) ?_
      refine qs ?_
      refine qs ?_
      refine qr T_ok [4, 7, 8, 9, 15] (E2 := [(4, [], .p (.sl 1 ByteArray eS x12)), (7, [], .p (.sl 1 (List ByteArray) (eL 1 eS) a0)), (8, [], vi (a0.length : Int)), (9, [], vi x6), (15, [], vb (decide ((x12.length : Int) > 60)))]) (by kernel_rfl) ?_
      refine qi (t := decide ((x12.length : Int) > 60)) (by kernel_rfl) (fun c => ?_) (fun c => ?_)
      · rw [if_pos (of_decide_eq_true c)] at H
        clear c
        refine qs ?_
        refine qr T_ok [2] (E2 := [(2, [], vb true)]) (by kernel_rfl) ?_
        refine qt ?_
        obtain rfl := Option.some.inj H
        exact ⟨vb true, by kernel_rfl, rfl⟩
      · rw [if_neg (of_decide_eq_false c)] at H
        clear c
        refine qw [4, 7, 8, 9] rfl ?_
        refine qk ?_
        refine qs ?_
        refine qr T_ok [7, 8, 9, 16, 17, 18] (E2 := [(7, [], .p (.sl 1 (List ByteArray) (eL 1 eS) a0)), (8, [], vi (a0.length : Int)), (9, [], vi x6), (16, [], .p (.sl 1 ByteArray eS x12)), (17, [], vi (x12.length : Int)), (18, [], vi 0)]) (by kernel_rfl) ?_
        refine qb ?_
        refine qp (fun k E h => ∃ x14 : Int, E = [(7, [], .p (.sl 1 (List ByteArray) (eL 1 eS) a0)), (8, [], vi (a0.length : Int)), (9, [], vi x6), (16, [], .p (.sl 1 ByteArray eS x12)), (17, [], vi (x12.length : Int)), (18, [], vi x14)] ∧ h = [] ∧ quitclaimlaw11_long.l3 x6 b2 x12 k x14 = some r) k ⟨0, rfl, rfl, H⟩ ?_
        clear H
        rintro k E h ⟨x14, rfl, rfl, H⟩
        cases k with
        | zero => exact nomatch (show none = some r from H)
        | succ k =>
          rw [quitclaimlaw11_long.l3] at H
          refine qs ?_
          refine qr T_ok [7, 8, 9, 16, 17, 18, 19] (E2 := [(7, [], .p (.sl 1 (List ByteArray) (eL 1 eS) a0)), (8, [], vi (a0.length : Int)), (9, [], vi x6), (16, [], .p (.sl 1 ByteArray eS x12)), (17, [], vi (x12.length : Int)), (18, [], vi x14), (19, [], vb (decide (x14 < (x12.length : Int))))]) (by kernel_rfl) ?_
          refine qs ?_
          refine qi (t := decide (x14 < (x12.length : Int))) (by kernel_rfl) (fun c => ?_) (fun c => ?_)
          · rw [if_pos (of_decide_eq_true c)] at H
            clear c
            refine qw [7, 8, 9, 16, 17, 18] rfl ?_
            refine qk ?_
            refine qs ?_
            refine qb ?_
            refine qs ?_
            refine qg ?_
            obtain ⟨x16, hx, H⟩ := bd H
            refine qy rfl (zi T_ok .i64 (enc := eS) (l := x12) (e := 9) (n := 1) (ei := ti9) (sa := (.p (.sl 1 ByteArray eS x12))) hx rfl (by kernel_rfl) (by kernel_rfl) rfl (by kernel_rfl) (by kernel_rfl) (by kernel_rfl)) rfl (by kernel_rfl) rfl ?_
            clear hx
            refine qz T_ok 2 [6, 7, 8, 9, 16, 17, 18] 0 (E2 := [(6, [], vs x16), (7, [], .p (.sl 1 (List ByteArray) (eL 1 eS) a0)), (8, [], vi (a0.length : Int)), (9, [], vi x6), (16, [], .p (.sl 1 ByteArray eS x12)), (17, [], vi (x12.length : Int)), (18, [], vi x14)]) (h1 := []) (by kernel_rfl) (by kernel_rfl) (by kernel_rfl) (by kernel_rfl) (by kernel_rfl) ?_
            refine qs ?_
            refine qr T_ok [7, 8, 9, 16, 17, 18, 24] (E2 := [(7, [], .p (.sl 1 (List ByteArray) (eL 1 eS) a0)), (8, [], vi (a0.length : Int)), (9, [], vi x6), (16, [], .p (.sl 1 ByteArray eS x12)), (17, [], vi (x12.length : Int)), (18, [], vi x14), (24, [], vb (decide ((x16.size : Int) > 300)))]) (by kernel_rfl) ?_
            refine qi (t := decide ((x16.size : Int) > 300)) (by kernel_rfl) (fun c => ?_) (fun c => ?_)
            · rw [if_pos (of_decide_eq_true c)] at H
              clear c
              refine qs ?_
              refine qr T_ok [2] (E2 := [(2, [], vb true)]) (by kernel_rfl) ?_
              refine qt ?_
              obtain rfl := Option.some.inj H
              exact ⟨vb true, by kernel_rfl, rfl⟩
            · rw [if_neg (of_decide_eq_false c)] at H
              clear c
              refine qw [7, 8, 9, 16, 17, 18] rfl ?_
              refine qk ?_
              refine qr T_ok [7, 8, 9, 16, 17, 18] (E2 := [(7, [], .p (.sl 1 (List ByteArray) (eL 1 eS) a0)), (8, [], vi (a0.length : Int)), (9, [], vi x6), (16, [], .p (.sl 1 ByteArray eS x12)), (17, [], vi (x12.length : Int)), (18, [], vi (w64 (x14 + 1)))]) (by kernel_rfl) ?_
              exact ⟨_, Nat.lt_succ_self _, w64 (x14 + 1), rfl, rfl, H⟩
          · rw [if_neg (of_decide_eq_false c)] at H
            clear c
            refine qw [7, 8, 9] rfl ?_
            refine qx ?_
            refine qr T_ok [7, 8, 9] (E2 := [(7, [], .p (.sl 1 (List ByteArray) (eL 1 eS) a0)), (8, [], vi (a0.length : Int)), (9, [], vi (w64 (x6 + 1)))]) (by kernel_rfl) ?_
            exact ⟨_, Nat.lt_succ_self _, w64 (x6 + 1), rfl, rfl, by rw [hb2] at H; exact H⟩
    · rw [if_neg (of_decide_eq_false c)] at H
      clear c
      refine qw [] rfl ?_
      refine qx ?_
      refine qs ?_
      refine qr T_ok [2] (E2 := [(2, [], vb false)]) (by kernel_rfl) ?_
      refine qt ?_
      obtain rfl := Option.some.inj H
      exact ⟨vb false, by kernel_rfl, rfl⟩
/-! ### strings.Contains: function 83 -/
def strings_Contains.f (a0 a1 : ByteArray) : Option Bool := match a1.data.toList with
  | [c] => some (decide (0 ≤ Lib.indexByte a0.data.toList c))
  | _ => none
theorem strings_Contains.ok (a0 a1 : ByteArray) (r : Bool) (H : strings_Contains.f a0 a1 = some r) : PF Tryd.prog 83 [vs a0, vs a1] (vb r) := by
  unfold strings_Contains.f at H
  split at H
  case h_1 c hc =>
    obtain rfl := Option.some.inj H
    obtain ⟨⟨l⟩⟩ := a1
    have hc' : l = [c] := hc
    subst hc'
    exact PF_of (args := [.string a0, .string ⟨⟨[c]⟩⟩]) fun w => (Go.Proofs.Tryd.strings_Contains_one a0 c w).mono fun e w' ⟨he, hw⟩ => ⟨he, hw ▸ Below.refl _ _⟩
  case h_2 => cases H

/-! ### quitclaim/hunk.Lines$1: function 82 -/
def hunk_Lines_1.f (a0 : ByteArray) : Option Bool := ((gd (!(decide ((a0.size : Int) > 200))) (strings_Contains.f a0 ⟨#[10]⟩)).bind fun x1 => some (decide ((a0.size : Int) > 200) || x1))
theorem hunk_Lines_1.ok (a0 : ByteArray) (r : Bool) (H : hunk_Lines_1.f a0 = some r) : PF Tryd.prog 82 [vs a0] (vb r) := by
  refine PF_mk T_ok Tryd.func82 rfl (by kernel_rfl) (by kernel_rfl) ?_
  unfold hunk_Lines_1.f at H
  refine qs ?_
  refine qr T_ok [0] (E2 := [(0, [], vs a0)]) (by kernel_rfl) ?_
  refine qs ?_
  refine qg ?_
  refine qm T_ok 5 (k := 5) (by kernel_rfl) (by kernel_rfl) (by kernel_rfl) ?_
  obtain ⟨x1, hx, H⟩ := bd H
  refine qyg rfl (tg := []) (Yld.under (u := 6) (b := false) (t := decide ((a0.size : Int) > 200)) (by kernel_rfl) (by simp) fun g0_ => (zc (T := T) (strings_Contains.ok a0 ⟨#[10]⟩ _ (gd0 hx g0_)) Tryd.func83 rfl rfl (caps := []) (by kernel_rfl) (by kernel_rfl) (by kernel_rfl) (by kernel_rfl) (by kernel_rfl) (by kernel_rfl))) rfl rfl (by kernel_rfl) (by kernel_rfl) rfl ?_
  clear hx
  refine qz T_ok 2 [2] 0 (E2 := [(2, [], vb (decide ((a0.size : Int) > 200) || x1))]) (h1 := []) (by kernel_rfl) (by kernel_rfl) (by kernel_rfl) (by kernel_rfl) (by kernel_rfl) ?_
  refine qt ?_
  obtain rfl := Option.some.inj H
  exact ⟨vb (decide ((a0.size : Int) > 200) || x1), by kernel_rfl, rfl⟩
/-! ### slices.IndexFunc[[]string,string]: function 111 -/
def slices_IndexFunc_string_string_hunk_Lines_1.l0 (a0 : List ByteArray) : Nat → Int → Option Int
  | 0, _ => none
  | k + 1, x3 => (if x3 < (a0.length : Int) then ((ix a0 x3).bind fun x6 => ((hunk_Lines_1.f x6).bind fun x7 => (if x7 = true then some x3 else slices_IndexFunc_string_string_hunk_Lines_1.l0 a0 k (w64 (x3 + 1))))) else some (-1))
def slices_IndexFunc_string_string_hunk_Lines_1.f (k : Nat) (a0 : List ByteArray) : Option Int := slices_IndexFunc_string_string_hunk_Lines_1.l0 a0 k 0
theorem slices_IndexFunc_string_string_hunk_Lines_1.ok (k : Nat) (a0 : List ByteArray) (r : Int) (H : slices_IndexFunc_string_string_hunk_Lines_1.f k a0 = some r) : PF Tryd.prog 111 [.p (.sl 1 ByteArray eS a0), .fn 82 []] (vi r) := by
  refine PF_mk T_ok Tryd.func111 rfl (by kernel_rfl) (by kernel_rfl) ?_
  unfold slices_IndexFunc_string_string_hunk_Lines_1.f at H
  refine qs ?_
  refine qr T_ok [0, 1] (E2 := [(0, [], .p (.sl 1 ByteArray eS a0)), (1, [], .fn 82 [])]) (by kernel_rfl) ?_
  refine qs ?_
  refine qs ?_
  refine qr T_ok [0, 1, 7, 8] (E2 := [(0, [], .p (.sl 1 ByteArray eS a0)), (1, [], .fn 82 []), (7, [], vi (a0.length : Int)), (8, [], vi 0)]) (by kernel_rfl) ?_
  refine qb ?_
  refine qp (fun k E h => ∃ x3 : Int, E = [(0, [], .p (.sl 1 ByteArray eS a0)), (1, [], .fn 82 []), (7, [], vi (a0.length : Int)), (8, [], vi x3)] ∧ h = [] ∧ slices_IndexFunc_string_string_hunk_Lines_1.l0 a0 k x3 = some r) k ⟨0, rfl, rfl, H⟩ ?_
  clear H
  rintro k E h ⟨x3, rfl, rfl, H⟩
  cases k with
  | zero => exact nomatch (show none = some r from H)
  | succ k =>
    rw [slices_IndexFunc_string_string_hunk_Lines_1.l0] at H
    refine qs ?_
    refine qr T_ok [0, 1, 7, 8, 9] (E2 := [(0, [], .p (.sl 1 ByteArray eS a0)), (1, [], .fn 82 []), (7, [], vi (a0.length : Int)), (8, [], vi x3), (9, [], vb (decide (x3 < (a0.length : Int))))]) (by kernel_rfl) ?_
    refine qs ?_
    refine qi (t := decide (x3 < (a0.length : Int))) (by kernel_rfl) (fun c => ?_) (fun c => ?_)
    · rw [if_pos (of_decide_eq_true c)] at H
      clear c
      refine qw [0, 1, 7, 8] rfl ?_
      refine qk ?_
      refine qs ?_
      refine qb ?_
      refine qs ?_
      refine qr T_ok [0, 1, 5, 7, 8] (E2 := [(0, [], .p (.sl 1 ByteArray eS a0)), (1, [], .fn 82 []), (5, [], vi x3), (7, [], vi (a0.length : Int)), (8, [], vi x3)]) (by kernel_rfl) ?_
      refine qs ?_
      refine qg ?_
      refine qm T_ok 3 (k := 3) (by kernel_rfl) (by kernel_rfl) (by kernel_rfl) ?_
      obtain ⟨x6, hx, H⟩ := bd H
      refine qy rfl (zi T_ok .i64 (enc := eS) (l := a0) (e := 9) (n := 1) (ei := ti9) (sa := (.p (.sl 1 ByteArray eS a0))) hx rfl (by kernel_rfl) (by kernel_rfl) rfl (by kernel_rfl) (by kernel_rfl) (by kernel_rfl)) rfl (by kernel_rfl) rfl ?_
      clear hx
      refine qm T_ok 1 (k := 5) (by kernel_rfl) (by kernel_rfl) (by kernel_rfl) ?_
      obtain ⟨x7, hx, H⟩ := bd H
      refine qy rfl (zc (T := T) (hunk_Lines_1.ok x6 _ hx) Tryd.func82 rfl rfl (caps := []) (by kernel_rfl) (by kernel_rfl) (by kernel_rfl) (by kernel_rfl) (by kernel_rfl) (by kernel_rfl)) rfl (by kernel_rfl) rfl ?_
      clear hx
      refine qz T_ok 0 [0, 1, 5, 7, 8, 16] 0 (E2 := [(0, [], .p (.sl 1 ByteArray eS a0)), (1, [], .fn 82 []), (5, [], vi x3), (7, [], vi (a0.length : Int)), (8, [], vi x3), (16, [], vb x7)]) (h1 := []) (by kernel_rfl) (by kernel_rfl) (by kernel_rfl) (by kernel_rfl) (by kernel_rfl) ?_
      refine qi (t := x7) (by kernel_rfl) (fun c => ?_) (fun c => ?_)
      · rw [if_pos c] at H
        clear c
        refine qs ?_
        refine qr T_ok [4] (E2 := [(4, [], vi x3)]) (by kernel_rfl) ?_
        refine qt ?_
        obtain rfl := Option.some.inj H
        exact ⟨vi x3, by kernel_rfl, rfl⟩
      · rw [if_neg (by rw [c]; exact Bool.false_ne_true)] at H
        clear c
        refine qw [0, 1, 7, 8] rfl ?_
        refine qk ?_
        refine qr T_ok [0, 1, 7, 8] (E2 := [(0, [], .p (.sl 1 ByteArray eS a0)), (1, [], .fn 82 []), (7, [], vi (a0.length : Int)), (8, [], vi (w64 (x3 + 1)))]) (by kernel_rfl) ?_
        exact ⟨_, Nat.lt_succ_self _, w64 (x3 + 1), rfl, rfl, H⟩
    · rw [if_neg (of_decide_eq_false c)] at H
      clear c
      refine qw [] rfl ?_
      refine qx ?_
      refine qs ?_
      refine qr T_ok [4] (E2 := [(4, [], vi (-1))]) (by kernel_rfl) ?_
      refine qt ?_
      obtain rfl := Option.some.inj H
      exact ⟨vi (-1), by kernel_rfl, rfl⟩
/-! ### slices.ContainsFunc[[]string,string]: function 81 -/
def slices_ContainsFunc_string_string_hunk_Lines_1.f (k : Nat) (a0 : List ByteArray) : Option Bool := ((slices_IndexFunc_string_string_hunk_Lines_1.f k a0).bind fun x1 => some (decide (x1 ≥ 0)))
theorem slices_ContainsFunc_string_string_hunk_Lines_1.ok (k : Nat) (a0 : List ByteArray) (r : Bool) (H : slices_ContainsFunc_string_string_hunk_Lines_1.f k a0 = some r) : PF Tryd.prog 81 [.p (.sl 1 ByteArray eS a0), .fn 82 []] (vb r) := by
  refine PF_mk T_ok Tryd.func81 rfl (by kernel_rfl) (by kernel_rfl) ?_
  unfold slices_ContainsFunc_string_string_hunk_Lines_1.f at H
  refine qs ?_
  refine qr T_ok [0, 1] (E2 := [(0, [], .p (.sl 1 ByteArray eS a0)), (1, [], .fn 82 [])]) (by kernel_rfl) ?_
  refine qs ?_
  refine qg ?_
  refine qm T_ok 2 (k := 2) (by kernel_rfl) (by kernel_rfl) (by kernel_rfl) ?_
  obtain ⟨x1, hx, H⟩ := bd H
  refine qy rfl (zc (T := T) (slices_IndexFunc_string_string_hunk_Lines_1.ok k a0 _ hx) Tryd.func111 rfl rfl (caps := []) (by kernel_rfl) (by kernel_rfl) (by kernel_rfl) (by kernel_rfl) (by kernel_rfl) (by kernel_rfl)) rfl (by kernel_rfl) rfl ?_
  clear hx
  refine qz T_ok 2 [4] 0 (E2 := [(4, [], vb (decide (x1 ≥ 0)))]) (h1 := []) (by kernel_rfl) (by kernel_rfl) (by kernel_rfl) (by kernel_rfl) (by kernel_rfl) ?_
  refine qt ?_
  obtain rfl := Option.some.inj H
  exact ⟨vb (decide (x1 ≥ 0)), by kernel_rfl, rfl⟩
/-! ### quitclaim/hunk.Lines: function 51 -/
def hunk_Lines.f (k : Nat) (a0 : List ByteArray) : Option Bool := ((gd (decide ((a0.length : Int) ≤ 1000)) (slices_ContainsFunc_string_string_hunk_Lines_1.f k a0)).bind fun x1 => some (decide ((a0.length : Int) ≤ 1000) && !x1))
theorem hunk_Lines.ok (k : Nat) (a0 : List ByteArray) (r : Bool) (H : hunk_Lines.f k a0 = some r) : PF Tryd.prog 51 [.p (.sl 1 ByteArray eS a0)] (vb r) := by
  refine PF_mk T_ok Tryd.func51 rfl (by kernel_rfl) (by kernel_rfl) ?_
  unfold hunk_Lines.f at H
  refine qs ?_
  refine qr T_ok [0] (E2 := [(0, [], .p (.sl 1 ByteArray eS a0))]) (by kernel_rfl) ?_
  refine qs ?_
  refine qg ?_
  refine qm T_ok 5 (k := 5) (by kernel_rfl) (by kernel_rfl) (by kernel_rfl) ?_
  obtain ⟨x1, hx, H⟩ := bd H
  refine qyg rfl (tg := []) (Yld.under (u := 6) (b := true) (t := decide ((a0.length : Int) ≤ 1000)) (by kernel_rfl) (by simp) fun g0_ => (zc (T := T) (slices_ContainsFunc_string_string_hunk_Lines_1.ok k a0 _ (gd1 hx g0_)) Tryd.func81 rfl rfl (caps := []) (by kernel_rfl) (by kernel_rfl) (by kernel_rfl) (by kernel_rfl) (by kernel_rfl) (by kernel_rfl))) rfl rfl (by kernel_rfl) (by kernel_rfl) rfl ?_
  clear hx
  refine qz T_ok 3 [2] 0 (E2 := [(2, [], vb (decide ((a0.length : Int) ≤ 1000) && !x1))]) (h1 := []) (by kernel_rfl) (by kernel_rfl) (by kernel_rfl) (by kernel_rfl) (by kernel_rfl) ?_
  refine qt ?_
  obtain rfl := Option.some.inj H
  exact ⟨vb (decide ((a0.length : Int) ≤ 1000) && !x1), by kernel_rfl, rfl⟩
/-! ### quitclaim/hunk.Right: function 77 -/
def hunk_Right.f (k : Nat) (a0 : S_At_Old_New) : Option Bool := ((gd (decide (a0.f0_At ≥ 0) && decide (a0.f0_At ≤ 1000)) (hunk_Lines.f k a0.f1_Old)).bind fun x1 => ((gd ((decide (a0.f0_At ≥ 0) && decide (a0.f0_At ≤ 1000)) && x1) (hunk_Lines.f k a0.f2_New)).bind fun x2 => some ((((decide (a0.f0_At ≥ 0) && decide (a0.f0_At ≤ 1000)) && x1) && x2) && decide (w64 ((a0.f1_Old.length : Int) + (a0.f2_New.length : Int)) > 0))))
theorem hunk_Right.ok (k : Nat) (a0 : S_At_Old_New) (r : Bool) (H : hunk_Right.f k a0 = some r) : PF Tryd.prog 77 [.p (.agg [(.s (.int .i64 a0.f0_At)), (.sl 1 ByteArray eS a0.f1_Old), (.sl 1 ByteArray eS a0.f2_New)])] (vb r) := by
  refine PF_mk T_ok Tryd.func77 rfl (by kernel_rfl) (by kernel_rfl) ?_
  unfold hunk_Right.f at H
  refine qs ?_
  refine qg ?_
  refine xb (T := T) (j := 0) (cs := [vi a0.f0_At, .p (.sl 1 ByteArray eS a0.f1_Old), .p (.sl 1 ByteArray eS a0.f2_New)]) rfl rfl rfl rfl (by kernel_rfl) (by kernel_rfl) rfl ?_
  refine qz T_ok 1 [1] 1 (E2 := [(1, [], .ptr 0 0)]) (h1 := [.cells 80 [vi a0.f0_At, .p (.sl 1 ByteArray eS a0.f1_Old), .p (.sl 1 ByteArray eS a0.f2_New)]]) (by kernel_rfl) (by kernel_rfl) (by kernel_rfl) (by kernel_rfl) (by kernel_rfl) ?_
  refine qs ?_
  refine qg ?_
  refine qm T_ok 11 (k := 11) (by kernel_rfl) (by kernel_rfl) (by kernel_rfl) ?_
  obtain ⟨x1, hx, H⟩ := bd H
  refine qyg rfl (tg := []) (Yld.under (u := 11) (b := true) (t := (decide (a0.f0_At ≥ 0) && decide (a0.f0_At ≤ 1000))) (by kernel_rfl) (by simp) fun g0_ => (zc (T := T) (hunk_Lines.ok k a0.f1_Old _ (gd1 hx g0_)) Tryd.func51 rfl rfl (caps := []) (by kernel_rfl) (by kernel_rfl) (by kernel_rfl) (by kernel_rfl) (by kernel_rfl) (by kernel_rfl))) rfl rfl (by kernel_rfl) (by kernel_rfl) rfl ?_
  clear hx
  refine qm T_ok 4 (k := 16) (by kernel_rfl) (by kernel_rfl) (by kernel_rfl) ?_
  obtain ⟨x2, hx, H⟩ := bd H
  refine qyg rfl (tg := []) (Yld.under (u := 16) (b := true) (t := ((decide (a0.f0_At ≥ 0) && decide (a0.f0_At ≤ 1000)) && x1)) (by kernel_rfl) (by simp) fun g0_ => (zc (T := T) (hunk_Lines.ok k a0.f2_New _ (gd1 hx g0_)) Tryd.func51 rfl rfl (caps := []) (by kernel_rfl) (by kernel_rfl) (by kernel_rfl) (by kernel_rfl) (by kernel_rfl) (by kernel_rfl))) rfl rfl (by kernel_rfl) (by kernel_rfl) rfl ?_
  clear hx
  refine qz T_ok 12 [2] 0 (E2 := [(2, [], vb ((((decide (a0.f0_At ≥ 0) && decide (a0.f0_At ≤ 1000)) && x1) && x2) && decide (w64 ((a0.f1_Old.length : Int) + (a0.f2_New.length : Int)) > 0)))]) (h1 := []) (by kernel_rfl) (by kernel_rfl) (by kernel_rfl) (by kernel_rfl) (by kernel_rfl) ?_
  refine qt ?_
  obtain rfl := Option.some.inj H
  exact ⟨vb ((((decide (a0.f0_At ≥ 0) && decide (a0.f0_At ≤ 1000)) && x1) && x2) && decide (w64 ((a0.f1_Old.length : Int) + (a0.f2_New.length : Int)) > 0)), by kernel_rfl, rfl⟩
/-! ### slices.Equal[[]string,string]: function 68 -/
def slices_Equal_string_string.l0 (a0 : List ByteArray) (a1 : List ByteArray) : Nat → Int → Option Bool
  | 0, _ => none
  | k + 1, x3 => (if x3 < (a0.length : Int) then ((ix a0 x3).bind fun x6 => ((ix a1 x3).bind fun x7 => (if (!decide (x6 = x7)) = true then some false else slices_Equal_string_string.l0 a0 a1 k (w64 (x3 + 1))))) else some true)
def slices_Equal_string_string.f (k : Nat) (a0 : List ByteArray) (a1 : List ByteArray) : Option Bool := (if (!decide ((a0.length : Int) = (a1.length : Int))) = true then some false else slices_Equal_string_string.l0 a0 a1 k 0)
theorem slices_Equal_string_string.ok (k : Nat) (a0 : List ByteArray) (a1 : List ByteArray) (r : Bool) (H : slices_Equal_string_string.f k a0 a1 = some r) : PF Tryd.prog 68 [.p (.sl 1 ByteArray eS a0), .p (.sl 1 ByteArray eS a1)] (vb r) := by
  refine PF_mk T_ok Tryd.func68 rfl (by kernel_rfl) (by kernel_rfl) ?_
  unfold slices_Equal_string_string.f at H
  refine qs ?_
  refine qr T_ok [0, 1] (E2 := [(0, [], .p (.sl 1 ByteArray eS a0)), (1, [], .p (.sl 1 ByteArray eS a1))]) (by kernel_rfl) ?_
  refine qs ?_
  refine qs ?_
  refine qr T_ok [0, 1, 10] (E2 := [(0, [], .p (.sl 1 ByteArray eS a0)), (1, [], .p (.sl 1 ByteArray eS a1)), (10, [], vb (!decide ((a0.length : Int) = (a1.length : Int))))]) (by kernel_rfl) ?_
  refine qi (t := !decide ((a0.length : Int) = (a1.length : Int))) (by kernel_rfl) (fun c => ?_) (fun c => ?_)
  · rw [if_pos c] at H
    clear c
    refine qs ?_
    refine qr T_ok [4] (E2 := [(4, [], vb false)]) (by kernel_rfl) ?_
    refine qt ?_
    obtain rfl := Option.some.inj H
    exact ⟨vb false, by kernel_rfl, rfl⟩
  · rw [if_neg (by rw [c]; exact Bool.false_ne_true)] at H
    clear c
    refine qw [0, 1] rfl ?_
    refine qk ?_
    refine qs ?_
    refine qs ?_
    refine qr T_ok [0, 1, 12, 13] (E2 := [(0, [], .p (.sl 1 ByteArray eS a0)), (1, [], .p (.sl 1 ByteArray eS a1)), (12, [], vi (a0.length : Int)), (13, [], vi 0)]) (by kernel_rfl) ?_
    refine qb ?_
    refine qp (fun k E h => ∃ x3 : Int, E = [(0, [], .p (.sl 1 ByteArray eS a0)), (1, [], .p (.sl 1 ByteArray eS a1)), (12, [], vi (a0.length : Int)), (13, [], vi x3)] ∧ h = [] ∧ slices_Equal_string_string.l0 a0 a1 k x3 = some r) k ⟨0, rfl, rfl, H⟩ ?_
    clear H
    rintro k E h ⟨x3, rfl, rfl, H⟩
    cases k with
    | zero => exact nomatch (show none = some r from H)
    | succ k =>
      rw [slices_Equal_string_string.l0] at H
      refine qs ?_
      refine qr T_ok [0, 1, 12, 13, 14] (E2 := [(0, [], .p (.sl 1 ByteArray eS a0)), (1, [], .p (.sl 1 ByteArray eS a1)), (12, [], vi (a0.length : Int)), (13, [], vi x3), (14, [], vb (decide (x3 < (a0.length : Int))))]) (by kernel_rfl) ?_
      refine qs ?_
      refine qi (t := decide (x3 < (a0.length : Int))) (by kernel_rfl) (fun c => ?_) (fun c => ?_)
      · rw [if_pos (of_decide_eq_true c)] at H
        clear c
        refine qw [0, 1, 12, 13] rfl ?_
        refine qk ?_
        refine qs ?_
        refine qb ?_
        refine qs ?_
        refine qr T_ok [0, 1, 5, 12, 13] (E2 := [(0, [], .p (.sl 1 ByteArray eS a0)), (1, [], .p (.sl 1 ByteArray eS a1)), (5, [], vi x3), (12, [], vi (a0.length : Int)), (13, [], vi x3)]) (by kernel_rfl) ?_
        refine qs ?_
        refine qd (by kernel_rfl) 9 (by kernel_rfl) (by kernel_rfl) (by kernel_rfl) (by kernel_rfl) (by kernel_rfl) ?_
        refine dm T_ok 2 (k := 2) (by kernel_rfl) (by kernel_rfl) ?_
        obtain ⟨x6, hx, H⟩ := bd H
        refine dy rfl (zi T_ok .i64 (enc := eS) (l := a0) (e := 9) (n := 1) (ei := ti9) (sa := (.p (.sl 1 ByteArray eS a0))) hx rfl (by kernel_rfl) (by kernel_rfl) rfl (by kernel_rfl) (by kernel_rfl) (by kernel_rfl)) rfl (by kernel_rfl) rfl ?_
        clear hx
        refine dm T_ok 3 (k := 6) (by kernel_rfl) (by kernel_rfl) ?_
        obtain ⟨x7, hx, H⟩ := bd H
        refine dy rfl (zi T_ok .i64 (enc := eS) (l := a1) (e := 9) (n := 1) (ei := ti9) (sa := (.p (.sl 1 ByteArray eS a1))) hx rfl (by kernel_rfl) (by kernel_rfl) rfl (by kernel_rfl) (by kernel_rfl) (by kernel_rfl)) rfl (by kernel_rfl) rfl ?_
        clear hx
        refine dm T_ok 2 (k := 9) (by kernel_rfl) (by kernel_rfl) ?_
        refine dn ?_
        refine qz T_ok 0 [0, 1, 12, 13, 24] 0 (E2 := [(0, [], .p (.sl 1 ByteArray eS a0)), (1, [], .p (.sl 1 ByteArray eS a1)), (12, [], vi (a0.length : Int)), (13, [], vi x3), (24, [], vb (!decide (x6 = x7)))]) (h1 := []) (by kernel_rfl) (by kernel_rfl) (by kernel_rfl) (by kernel_rfl) (by kernel_rfl) ?_
        refine qi (t := !decide (x6 = x7)) (by kernel_rfl) (fun c => ?_) (fun c => ?_)
        · rw [if_pos c] at H
          clear c
          refine qs ?_
          refine qr T_ok [4] (E2 := [(4, [], vb false)]) (by kernel_rfl) ?_
          refine qt ?_
          obtain rfl := Option.some.inj H
          exact ⟨vb false, by kernel_rfl, rfl⟩
        · rw [if_neg (by rw [c]; exact Bool.false_ne_true)] at H
          clear c
          refine qw [0, 1, 12, 13] rfl ?_
          refine qk ?_
          refine qr T_ok [0, 1, 12, 13] (E2 := [(0, [], .p (.sl 1 ByteArray eS a0)), (1, [], .p (.sl 1 ByteArray eS a1)), (12, [], vi (a0.length : Int)), (13, [], vi (w64 (x3 + 1)))]) (by kernel_rfl) ?_
          exact ⟨_, Nat.lt_succ_self _, w64 (x3 + 1), rfl, rfl, H⟩
      · rw [if_neg (of_decide_eq_false c)] at H
        clear c
        refine qw [] rfl ?_
        refine qx ?_
        refine qs ?_
        refine qr T_ok [4] (E2 := [(4, [], vb true)]) (by kernel_rfl) ?_
        refine qt ?_
        obtain rfl := Option.some.inj H
        exact ⟨vb true, by kernel_rfl, rfl⟩
/-! ### quitclaim/hunk.stands: function 78 -/
def hunk_stands.f (k : Nat) (a0 : List ByteArray) (a1 : Int) (a2 : List ByteArray) : Option Bool := ((gd (decide (a1 ≤ (a0.length : Int)) && decide ((a2.length : Int) ≤ w64 ((a0.length : Int) - a1))) (cut a0 a1 (w64 (a1 + (a2.length : Int))))).bind fun x1 => ((gd (decide (a1 ≤ (a0.length : Int)) && decide ((a2.length : Int) ≤ w64 ((a0.length : Int) - a1))) (slices_Equal_string_string.f k x1 a2)).bind fun x2 => some ((decide (a1 ≤ (a0.length : Int)) && decide ((a2.length : Int) ≤ w64 ((a0.length : Int) - a1))) && x2)))
theorem hunk_stands.ok (k : Nat) (a0 : List ByteArray) (a1 : Int) (a2 : List ByteArray) (r : Bool) (H : hunk_stands.f k a0 a1 a2 = some r) : PF Tryd.prog 78 [.p (.sl 1 ByteArray eS a0), vi a1, .p (.sl 1 ByteArray eS a2)] (vb r) := by
  refine PF_mk T_ok Tryd.func78 rfl (by kernel_rfl) (by kernel_rfl) ?_
  unfold hunk_stands.f at H
  refine qs ?_
  refine qr T_ok [0, 1, 2] (E2 := [(0, [], .p (.sl 1 ByteArray eS a0)), (1, [], vi a1), (2, [], .p (.sl 1 ByteArray eS a2))]) (by kernel_rfl) ?_
  refine qs ?_
  refine qg ?_
  refine qm T_ok 20 (k := 20) (by kernel_rfl) (by kernel_rfl) (by kernel_rfl) ?_
  obtain ⟨x1, hx, H⟩ := bd H
  refine qyg rfl (tg := []) (Yld.under (u := 20) (b := true) (t := (decide (a1 ≤ (a0.length : Int)) && decide ((a2.length : Int) ≤ w64 ((a0.length : Int) - a1)))) (by kernel_rfl) (by simp) fun g0_ => (zt T_ok (enc := eS) (l := a0) (e := 9) (n := 1) (ei := ti9) (sa := (.p (.sl 1 ByteArray eS a0))) (gd1 hx g0_) rfl (by kernel_rfl) (by kernel_rfl) rfl (by kernel_rfl) (by kernel_rfl) ⟨.i64, by kernel_rfl⟩ ⟨.i64, by kernel_rfl⟩)) rfl rfl (by kernel_rfl) (by kernel_rfl) rfl ?_
  clear hx
  refine qm T_ok 1 (k := 22) (by kernel_rfl) (by kernel_rfl) (by kernel_rfl) ?_
  obtain ⟨x2, hx, H⟩ := bd H
  refine qyg rfl (tg := []) (Yld.under (u := 20) (b := true) (t := (decide (a1 ≤ (a0.length : Int)) && decide ((a2.length : Int) ≤ w64 ((a0.length : Int) - a1)))) (by kernel_rfl) (by simp) fun g0_ => (zc (T := T) (slices_Equal_string_string.ok k x1 a2 _ (gd1 hx g0_)) Tryd.func68 rfl rfl (caps := []) (by kernel_rfl) (by kernel_rfl) (by kernel_rfl) (by kernel_rfl) (by kernel_rfl) (by kernel_rfl))) rfl rfl (by kernel_rfl) (by kernel_rfl) rfl ?_
  clear hx
  refine qz T_ok 2 [6] 0 (E2 := [(6, [], vb ((decide (a1 ≤ (a0.length : Int)) && decide ((a2.length : Int) ≤ w64 ((a0.length : Int) - a1))) && x2))]) (h1 := []) (by kernel_rfl) (by kernel_rfl) (by kernel_rfl) (by kernel_rfl) (by kernel_rfl) ?_
  refine qt ?_
  obtain rfl := Option.some.inj H
  exact ⟨vb ((decide (a1 ≤ (a0.length : Int)) && decide ((a2.length : Int) ≤ w64 ((a0.length : Int) - a1))) && x2), by kernel_rfl, rfl⟩
/-! ### slices.Grow[[]string,string]: function 109 -/
theorem slices_Grow_string_string.ok (a1 : Int) (u : Unit) (H : grw 16 a1 = some u) : PO Tryd.prog 109 [.p (.s (.slice none 0 0)), vi a1] 9 1 (ByteArray) eS [] := by
  obtain ⟨h0, h1, h2⟩ := grw_of H
  refine PO_mk T_ok Tryd.func109 rfl (by kernel_rfl) ?_
  refine qs ?_
  refine qg ?_
  refine qm T_ok 1 (k := 1) (by kernel_rfl) (by kernel_rfl) (by kernel_rfl) ?_
  refine WL_keep [0, 1] (E1 := [(0, [], .p (.s (.slice none 0 0))), (1, [], vi a1)]) (by kernel_rfl) (WL_nil (by kernel_rfl) ?_)
  refine qs ?_
  refine qs ?_
  refine qr T_ok [0, 1, 6] (E2 := [(0, [], .p (.s (.slice none 0 0))), (1, [], vi a1), (6, [], vb (decide (a1 < 0)))]) (by kernel_rfl) ?_
  refine qi0 (t := decide (a1 < 0)) (by kernel_rfl) (decide_eq_false (by omega)) ?_
  refine qw [0, 1] rfl ?_
  refine qk ?_
  refine qs ?_
  refine qs ?_
  refine qg ?_
  refine qm T_ok 1 (k := 1) (by kernel_rfl) (by kernel_rfl) (by kernel_rfl) ?_
  refine qy rfl (y_mv0 (s := .p (.s (.slice none 0 0))) (by kernel_rfl) (.inl rfl)) rfl (by kernel_rfl) rfl ?_
  refine qy rfl (y_cap0 T_ok (e := 9) rfl rfl rfl rfl (by kernel_rfl) (by kernel_rfl)) rfl (by kernel_rfl) rfl ?_
  refine qm T_ok 4 (k := 7) (by kernel_rfl) (by kernel_rfl) (by kernel_rfl) ?_
  refine qe T_ok 1 [0, 1] (E2 := [(0, [], .p (.s (.slice none 0 0))), (1, [], vi (w64 (a1 - w64 (0 - (([] : List (ByteArray)).length : Int)))))]) (by kernel_rfl) (by kernel_rfl) ?_
  have hw : w64 (a1 - w64 (0 - (([] : List (ByteArray)).length : Int))) = a1 := by
    simp only [w64, IntKind.wrap_i64, List.length_nil]
    omega
  rw [hw]
  refine qs ?_
  refine qr T_ok [0, 1, 16] (E2 := [(0, [], .p (.s (.slice none 0 0))), (1, [], vi a1), (16, [], vb (decide (a1 > 0)))]) (by kernel_rfl) ?_
  refine qi (t := decide (a1 > 0)) (by kernel_rfl) (fun c => ?_) (fun c => ?_)
  · have c := of_decide_eq_true c
    obtain ⟨k, rfl⟩ : ∃ k : Nat, a1 = (k : Int) := ⟨a1.toNat, by omega⟩
    refine qg ?_
    refine qy rfl (y_mv0 (s := .p (.s (.slice none 0 0))) (by kernel_rfl) (.inl rfl)) rfl (by kernel_rfl) rfl ?_
    refine qy rfl (y_mv0 (s := .p (.s (.slice none 0 0))) (by kernel_rfl) (.inl rfl)) rfl (by kernel_rfl) rfl ?_
    refine qy rfl (y_cap0 T_ok (e := 9) rfl rfl rfl rfl (by kernel_rfl) (by kernel_rfl)) rfl (by kernel_rfl) rfl ?_
    refine qy rfl (y_cut0 T_ok (e := 9) (ei := ti9) rfl (by kernel_rfl) (by kernel_rfl) (by kernel_rfl) (by kernel_rfl)) rfl (by kernel_rfl) rfl ?_
    refine qm T_ok 1 (k := 5) (by kernel_rfl) (by kernel_rfl) (by kernel_rfl) ?_
    refine xz T_ok (e := 9) (k := k) (ku := .i64) (ei := ti9) (j := 0) rfl rfl rfl rfl rfl rfl rfl (by kernel_rfl) (by kernel_rfl) (by kernel_rfl) (by kernel_rfl) (by kernel_rfl) (by kernel_rfl) rfl (by omega) (by kernel_rfl) (by kernel_rfl) (by show k * 16 ≤ _; omega) ?_
    refine qm T_ok 2 (k := 8) (by kernel_rfl) (by kernel_rfl) (by kernel_rfl) ?_
    refine xr T_ok (e := 9) (n := 1) (k := k) (ei := ti9) (j := 0) eS rfl rfl rfl (by kernel_rfl) (by kernel_rfl) (by kernel_rfl) (by kernel_rfl) (by kernel_rfl) ?_
    refine qe T_ok 1 [0] (E2 := [(0, [], .own 9 1 (ByteArray) eS [] 0)]) (by kernel_rfl) (by kernel_rfl) ?_
    refine qs ?_
    refine qr T_ok [4] (E2 := [(4, [], .own 9 1 (ByteArray) eS [] 0)]) (by kernel_rfl) ?_
    refine qt ?_
    exact ⟨.own 9 1 (ByteArray) eS [] 0, by kernel_rfl, rfl, rfl⟩
  · refine qw [0] rfl ?_
    refine qk ?_
    refine qs ?_
    refine qg ?_
    refine qy rfl (y_mv0 (s := .p (.s (.slice none 0 0))) (by kernel_rfl) (.inl rfl)) rfl (by kernel_rfl) rfl ?_
    refine xo (j := 0) eS (e := 9) (n := 1) rfl (.inr rfl) rfl rfl (by kernel_rfl) (by kernel_rfl) rfl ?_
    refine WL_keep [4] (E1 := [(4, [], .own 9 1 (ByteArray) eS [] 0)]) (by kernel_rfl) (WL_nil (by kernel_rfl) ?_)
    refine qt ?_
    exact ⟨.own 9 1 (ByteArray) eS [] 0, by kernel_rfl, rfl, rfl⟩

/-! ### slices.Concat[[]string,string]: function 79 -/
def slices_Concat_string_string.l3 (a0 : List (List ByteArray)) : Nat → (List ByteArray) → Int → Option (List ByteArray)
  | 0, _, _ => none
  | k + 1, x24, x25 => (if x25 < (a0.length : Int) then ((ix a0 x25).bind fun x28 => ((app 16 x24 x28).bind fun x29 => slices_Concat_string_string.l3 a0 k x29 (w64 (x25 + 1)))) else some x24)
def slices_Concat_string_string.l2 (a0 : List (List ByteArray)) : Nat → Int → Int → Option (List ByteArray)
  | 0, _, _ => none
  | k + 1, x10, x11 => (if x11 < (a0.length : Int) then ((ix a0 x11).bind fun x21 => (if w64 (x10 + (x21.length : Int)) < 0 then none else slices_Concat_string_string.l2 a0 k (w64 (x10 + (x21.length : Int))) (w64 (x11 + 1)))) else ((grw 16 x10).bind fun _ => slices_Concat_string_string.l3 a0 k [] 0))
def slices_Concat_string_string.f (k : Nat) (a0 : List (List ByteArray)) : Option (List ByteArray) := slices_Concat_string_string.l2 a0 k 0 0
theorem slices_Concat_string_string.ok (k : Nat) (a0 : List (List ByteArray)) (r : List ByteArray) (H : slices_Concat_string_string.f k a0 = some r) : PF Tryd.prog 79 [.p (.sl 1 (List ByteArray) (eL 1 eS) a0)] (.p (.sl 1 ByteArray eS r)) := by
  refine PF_mk T_ok Tryd.func79 rfl (by kernel_rfl) (by kernel_rfl) ?_
  unfold slices_Concat_string_string.f at H
  refine qs ?_
  refine qr T_ok [0] (E2 := [(0, [], .p (.sl 1 (List ByteArray) (eL 1 eS) a0))]) (by kernel_rfl) ?_
  refine qs ?_
  refine qr T_ok [0, 3] (E2 := [(0, [], .p (.sl 1 (List ByteArray) (eL 1 eS) a0)), (3, [], vi 0)]) (by kernel_rfl) ?_
  refine qs ?_
  refine qs ?_
  refine qr T_ok [0, 3, 9, 10, 11] (E2 := [(0, [], .p (.sl 1 (List ByteArray) (eL 1 eS) a0)), (3, [], vi 0), (9, [], .p (.sl 1 (List ByteArray) (eL 1 eS) a0)), (10, [], vi (a0.length : Int)), (11, [], vi 0)]) (by kernel_rfl) ?_
  refine qb ?_
  refine qp (fun k E h => ∃ x10 : Int, ∃ x11 : Int, E = [(0, [], .p (.sl 1 (List ByteArray) (eL 1 eS) a0)), (3, [], vi x10), (9, [], .p (.sl 1 (List ByteArray) (eL 1 eS) a0)), (10, [], vi (a0.length : Int)), (11, [], vi x11)] ∧ h = [] ∧ slices_Concat_string_string.l2 a0 k x10 x11 = some r) k ⟨0, 0, rfl, rfl, H⟩ ?_
  clear H
  rintro k E h ⟨x10, x11, rfl, rfl, H⟩
  cases k with
  | zero => exact nomatch (show none = some r from H)
  | succ k =>
    rw [slices_Concat_string_string.l2] at H
    refine qs ?_
    refine qr T_ok [0, 3, 9, 10, 11, 12] (E2 := [(0, [], .p (.sl 1 (List ByteArray) (eL 1 eS) a0)), (3, [], vi x10), (9, [], .p (.sl 1 (List ByteArray) (eL 1 eS) a0)), (10, [], vi (a0.length : Int)), (11, [], vi x11), (12, [], vb (decide (x11 < (a0.length : Int))))]) (by kernel_rfl) ?_
    refine qs ?_
    refine qi (t := decide (x11 < (a0.length : Int))) (by kernel_rfl) (fun c => ?_) (fun c => ?_)
    · rw [if_pos (of_decide_eq_true c)] at H
      clear c
      refine qw [0, 3, 9, 10, 11] rfl ?_
      refine qk ?_
      refine qs ?_
      refine qb ?_
      refine qs ?_
      refine qg ?_
      obtain ⟨x21, hx, H⟩ := bd H
      refine qy rfl (zi T_ok .i64 (enc := (eL 1 eS)) (l := a0) (e := 22) (n := 1) (ei := ti22) (sa := (.p (.sl 1 (List ByteArray) (eL 1 eS) a0))) hx rfl (by kernel_rfl) (by kernel_rfl) rfl (by kernel_rfl) (by kernel_rfl) (by kernel_rfl)) rfl (by kernel_rfl) rfl ?_
      clear hx
      refine qz T_ok 2 [0, 3, 5, 9, 10, 11] 0 (E2 := [(0, [], .p (.sl 1 (List ByteArray) (eL 1 eS) a0)), (3, [], vi x10), (5, [], .p (.sl 1 ByteArray eS x21)), (9, [], .p (.sl 1 (List ByteArray) (eL 1 eS) a0)), (10, [], vi (a0.length : Int)), (11, [], vi x11)]) (h1 := []) (by kernel_rfl) (by kernel_rfl) (by kernel_rfl) (by kernel_rfl) (by kernel_rfl) ?_
      refine qs ?_
      refine qr T_ok [0, 3, 9, 10, 11] (E2 := [(0, [], .p (.sl 1 (List ByteArray) (eL 1 eS) a0)), (3, [], vi (w64 (x10 + (x21.length : Int)))), (9, [], .p (.sl 1 (List ByteArray) (eL 1 eS) a0)), (10, [], vi (a0.length : Int)), (11, [], vi x11)]) (by kernel_rfl) ?_
      refine qs ?_
      refine qr T_ok [0, 3, 9, 10, 11, 20] (E2 := [(0, [], .p (.sl 1 (List ByteArray) (eL 1 eS) a0)), (3, [], vi (w64 (x10 + (x21.length : Int)))), (9, [], .p (.sl 1 (List ByteArray) (eL 1 eS) a0)), (10, [], vi (a0.length : Int)), (11, [], vi x11), (20, [], vb (decide (w64 (x10 + (x21.length : Int)) < 0)))]) (by kernel_rfl) ?_
      refine qi (t := decide (w64 (x10 + (x21.length : Int)) < 0)) (by kernel_rfl) (fun c => ?_) (fun c => ?_)
      · rw [if_pos (of_decide_eq_true c)] at H
        clear c
        exact nomatch (show none = some r from H)
      · rw [if_neg (of_decide_eq_false c)] at H
        clear c
        refine qw [0, 3, 9, 10, 11] rfl ?_
        refine qk ?_
        refine qr T_ok [0, 3, 9, 10, 11] (E2 := [(0, [], .p (.sl 1 (List ByteArray) (eL 1 eS) a0)), (3, [], vi (w64 (x10 + (x21.length : Int)))), (9, [], .p (.sl 1 (List ByteArray) (eL 1 eS) a0)), (10, [], vi (a0.length : Int)), (11, [], vi (w64 (x11 + 1)))]) (by kernel_rfl) ?_
        exact ⟨_, Nat.lt_succ_self _, w64 (x10 + (x21.length : Int)), w64 (x11 + 1), rfl, rfl, H⟩
    · rw [if_neg (of_decide_eq_false c)] at H
      clear c
      refine qw [0, 3] rfl ?_
      refine qx ?_
      refine qs ?_
      refine qg ?_
      refine qm T_ok 1 (k := 1) (by kernel_rfl) (by kernel_rfl) (by kernel_rfl) ?_
      obtain ⟨u_, hx, H⟩ := bd H
      refine xc (j := 0) (slices_Grow_string_string.ok x10 _ hx) Tryd.func109 rfl rfl rfl rfl rfl (by kernel_rfl) (by kernel_rfl) (by kernel_rfl) (by kernel_rfl) (by kernel_rfl) (by kernel_rfl) rfl ?_
      clear hx
      refine qz T_ok 1 [0, 6] 1 (E2 := [(0, [], .p (.sl 1 (List ByteArray) (eL 1 eS) a0)), (6, [], .own 9 1 ByteArray eS [] 0)]) (h1 := [.tail]) (by kernel_rfl) (by kernel_rfl) (by kernel_rfl) (by kernel_rfl) (by kernel_rfl) ?_
      refine qs ?_
      refine qs ?_
      refine qr T_ok [6, 25, 26, 27] (E2 := [(6, [], .own 9 1 ByteArray eS [] 0), (25, [], .p (.sl 1 (List ByteArray) (eL 1 eS) a0)), (26, [], vi (a0.length : Int)), (27, [], vi 0)]) (by kernel_rfl) ?_
      refine qb ?_
      refine qp (fun k E h => ∃ x24 : List ByteArray, ∃ x25 : Int, E = [(6, [], .own 9 1 ByteArray eS x24 0), (25, [], .p (.sl 1 (List ByteArray) (eL 1 eS) a0)), (26, [], vi (a0.length : Int)), (27, [], vi x25)] ∧ h = [.tail] ∧ slices_Concat_string_string.l3 a0 k x24 x25 = some r) k ⟨[], 0, rfl, rfl, H⟩ ?_
      clear H
      rintro k E h ⟨x24, x25, rfl, rfl, H⟩
      cases k with
      | zero => exact nomatch (show none = some r from H)
      | succ k =>
        rw [slices_Concat_string_string.l3] at H
        refine qs ?_
        refine qr T_ok [6, 25, 26, 27, 28] (E2 := [(6, [], .own 9 1 ByteArray eS x24 0), (25, [], .p (.sl 1 (List ByteArray) (eL 1 eS) a0)), (26, [], vi (a0.length : Int)), (27, [], vi x25), (28, [], vb (decide (x25 < (a0.length : Int))))]) (by kernel_rfl) ?_
        refine qs ?_
        refine qi (t := decide (x25 < (a0.length : Int))) (by kernel_rfl) (fun c => ?_) (fun c => ?_)
        · rw [if_pos (of_decide_eq_true c)] at H
          clear c
          refine qw [6, 25, 26, 27] rfl ?_
          refine qk ?_
          refine qs ?_
          refine qb ?_
          refine qs ?_
          refine qg ?_
          obtain ⟨x28, hx, H⟩ := bd H
          refine qy rfl (zi T_ok .i64 (enc := (eL 1 eS)) (l := a0) (e := 22) (n := 1) (ei := ti22) (sa := (.p (.sl 1 (List ByteArray) (eL 1 eS) a0))) hx rfl (by kernel_rfl) (by kernel_rfl) rfl (by kernel_rfl) (by kernel_rfl) (by kernel_rfl)) rfl (by kernel_rfl) rfl ?_
          clear hx
          refine qz T_ok 2 [6, 8, 25, 26, 27] 1 (E2 := [(6, [], .own 9 1 ByteArray eS x24 0), (8, [], .p (.sl 1 ByteArray eS x28)), (25, [], .p (.sl 1 (List ByteArray) (eL 1 eS) a0)), (26, [], vi (a0.length : Int)), (27, [], vi x25)]) (h1 := [.tail]) (by kernel_rfl) (by kernel_rfl) (by kernel_rfl) (by kernel_rfl) (by kernel_rfl) ?_
          refine qg ?_
          refine qm T_ok 2 (k := 2) (by kernel_rfl) (by kernel_rfl) (by kernel_rfl) ?_
          obtain ⟨x29, hx, H⟩ := bd H
          refine xp T_ok (enc := eS) (l := x24) (m := x28) (e := 9) (e' := 9) (j := 0) (ei := ti9) (sy := (.p (.sl 1 ByteArray eS x28))) hx rfl rfl rfl rfl rfl rfl rfl (by kernel_rfl) (by kernel_rfl) (by kernel_rfl) (by kernel_rfl) (by kernel_rfl) (by kernel_rfl) (by kernel_rfl) (by kernel_rfl) (by kernel_rfl) rfl ?_
          clear hx
          refine qz T_ok 1 [6, 25, 26, 27] 1 (E2 := [(6, [], .own 9 1 ByteArray eS x29 0), (25, [], .p (.sl 1 (List ByteArray) (eL 1 eS) a0)), (26, [], vi (a0.length : Int)), (27, [], vi x25)]) (h1 := [.tail]) (by kernel_rfl) (by kernel_rfl) (by kernel_rfl) (by kernel_rfl) (by kernel_rfl) ?_
          refine qr T_ok [6, 25, 26, 27] (E2 := [(6, [], .own 9 1 ByteArray eS x29 0), (25, [], .p (.sl 1 (List ByteArray) (eL 1 eS) a0)), (26, [], vi (a0.length : Int)), (27, [], vi (w64 (x25 + 1)))]) (by kernel_rfl) ?_
          exact ⟨_, Nat.lt_succ_self _, x29, w64 (x25 + 1), rfl, rfl, H⟩
        · rw [if_neg (of_decide_eq_false c)] at H
          clear c
          refine qw [6] rfl ?_
          refine qx ?_
          refine qs ?_
          refine qr T_ok [2] (E2 := [(2, [], .own 9 1 ByteArray eS x24 0)]) (by kernel_rfl) ?_
          refine qt ?_
          obtain rfl := Option.some.inj H
          exact ⟨.own 9 1 ByteArray eS x24 0, by kernel_rfl, rfl⟩
/-! ### quitclaim/hunk.Apply: function 49 -/
def hunk_Apply.f (k : Nat) (a0 : List ByteArray) (a1 : S_At_Old_New) : Option ((List ByteArray) × Int) := ((hunk_Lines.f k a0).bind fun x1 => ((gd (!(!x1)) (hunk_Right.f k a1)).bind fun x2 => (if (!x1 || !x2) = true then some ([], 3) else (if a1.f0_At > (a0.length : Int) then some ([], 5) else ((hunk_stands.f k a0 a1.f0_At a1.f1_Old).bind fun x3 => (if (!x3) = true then some ([], 12) else (if w64 ((w64 ((a0.length : Int) - (a1.f1_Old.length : Int))) + (a1.f2_New.length : Int)) > 1000 then some ([], 4) else ((cut a0 0 a1.f0_At).bind fun x4 => ((cut a0 (w64 (a1.f0_At + (a1.f1_Old.length : Int))) (a0.length : Int)).bind fun x5 => ((slices_Concat_string_string.f k [x4, a1.f2_New, x5]).bind fun x6 => some (x6, 0)))))))))))
theorem hunk_Apply.ok (k : Nat) (a0 : List ByteArray) (a1 : S_At_Old_New) (r : (List ByteArray) × Int) (H : hunk_Apply.f k a0 a1 = some r) : PF Tryd.prog 49 [.p (.sl 1 ByteArray eS a0), .p (.agg [(.s (.int .i64 a1.f0_At)), (.sl 1 ByteArray eS a1.f1_Old), (.sl 1 ByteArray eS a1.f2_New)])] (.tup [.p (.sl 1 ByteArray eS r.1), vi r.2]) := by
  refine PF_mk T_ok Tryd.func49 rfl (by kernel_rfl) (by kernel_rfl) ?_
  unfold hunk_Apply.f at H
  refine qs ?_
  refine qg ?_
  refine xb (T := T) (j := 0) (cs := [vi a1.f0_At, .p (.sl 1 ByteArray eS a1.f1_Old), .p (.sl 1 ByteArray eS a1.f2_New)]) rfl rfl rfl rfl (by kernel_rfl) (by kernel_rfl) rfl ?_
  refine qz T_ok 2 [0, 3] 1 (E2 := [(0, [], .p (.sl 1 ByteArray eS a0)), (3, [], .ptr 0 0)]) (h1 := [.cells 80 [vi a1.f0_At, .p (.sl 1 ByteArray eS a1.f1_Old), .p (.sl 1 ByteArray eS a1.f2_New)]]) (by kernel_rfl) (by kernel_rfl) (by kernel_rfl) (by kernel_rfl) (by kernel_rfl) ?_
  refine qs ?_
  refine qb ?_
  refine qs ?_
  refine qg ?_
  refine qm T_ok 1 (k := 1) (by kernel_rfl) (by kernel_rfl) (by kernel_rfl) ?_
  obtain ⟨x1, hx, H⟩ := bd H
  refine qy rfl (zc (T := T) (hunk_Lines.ok k a0 _ hx) Tryd.func51 rfl rfl (caps := []) (by kernel_rfl) (by kernel_rfl) (by kernel_rfl) (by kernel_rfl) (by kernel_rfl) (by kernel_rfl)) rfl (by kernel_rfl) rfl ?_
  clear hx
  refine qm T_ok 3 (k := 5) (by kernel_rfl) (by kernel_rfl) (by kernel_rfl) ?_
  obtain ⟨x2, hx, H⟩ := bd H
  refine qyg rfl (tg := []) (Yld.under (u := 10) (b := false) (t := !x1) (by kernel_rfl) (by simp) fun g0_ => (zc (T := T) (hunk_Right.ok k a1 _ (gd0 hx g0_)) Tryd.func77 rfl rfl (caps := []) (by kernel_rfl) (by kernel_rfl) (by kernel_rfl) (by kernel_rfl) (by kernel_rfl) (by kernel_rfl))) rfl rfl (by kernel_rfl) (by kernel_rfl) rfl ?_
  clear hx
  refine qz T_ok 3 [0, 3, 6] 1 (E2 := [(0, [], .p (.sl 1 ByteArray eS a0)), (3, [], .ptr 0 0), (6, [], vb (!x1 || !x2))]) (h1 := [.cells 80 [vi a1.f0_At, .p (.sl 1 ByteArray eS a1.f1_Old), .p (.sl 1 ByteArray eS a1.f2_New)]]) (by kernel_rfl) (by kernel_rfl) (by kernel_rfl) (by kernel_rfl) (by kernel_rfl) ?_
  refine qi (t := (!x1 || !x2)) (by kernel_rfl) (fun c => ?_) (fun c => ?_)
  · rw [if_pos c] at H
    clear c
    refine qs ?_
    refine qg ?_
    refine qz T_ok 2 [4, 5] 0 (E2 := [(4, [], .p (.sl 1 ByteArray eS [])), (5, [], vi 3)]) (h1 := []) (by kernel_rfl) (by kernel_rfl) (by kernel_rfl) (by kernel_rfl) (by kernel_rfl) ?_
    refine qt ?_
    obtain rfl := Option.some.inj H
    exact ⟨.tup [.p (.sl 1 ByteArray eS []), vi 3], by kernel_rfl, rfl⟩
  · rw [if_neg (by rw [c]; exact Bool.false_ne_true)] at H
    clear c
    refine qs ?_
    refine qr T_ok [0, 3, 15] (E2 := [(0, [], .p (.sl 1 ByteArray eS a0)), (3, [], .ptr 0 0), (15, [], vb (decide (a1.f0_At > (a0.length : Int))))]) (by kernel_rfl) ?_
    refine qi (t := decide (a1.f0_At > (a0.length : Int))) (by kernel_rfl) (fun c => ?_) (fun c => ?_)
    · rw [if_pos (of_decide_eq_true c)] at H
      clear c
      refine qs ?_
      refine qg ?_
      refine qz T_ok 2 [4, 5] 0 (E2 := [(4, [], .p (.sl 1 ByteArray eS [])), (5, [], vi 5)]) (h1 := []) (by kernel_rfl) (by kernel_rfl) (by kernel_rfl) (by kernel_rfl) (by kernel_rfl) ?_
      refine qt ?_
      obtain rfl := Option.some.inj H
      exact ⟨.tup [.p (.sl 1 ByteArray eS []), vi 5], by kernel_rfl, rfl⟩
    · rw [if_neg (of_decide_eq_false c)] at H
      clear c
      refine qs ?_
      refine qg ?_
      refine qm T_ok 5 (k := 5) (by kernel_rfl) (by kernel_rfl) (by kernel_rfl) ?_
      obtain ⟨x3, hx, H⟩ := bd H
      refine qy rfl (zc (T := T) (hunk_stands.ok k a0 a1.f0_At a1.f1_Old _ hx) Tryd.func78 rfl rfl (caps := []) (by kernel_rfl) (by kernel_rfl) (by kernel_rfl) (by kernel_rfl) (by kernel_rfl) (by kernel_rfl)) rfl (by kernel_rfl) rfl ?_
      clear hx
      refine qz T_ok 2 [0, 3, 21] 1 (E2 := [(0, [], .p (.sl 1 ByteArray eS a0)), (3, [], .ptr 0 0), (21, [], vb (!x3))]) (h1 := [.cells 80 [vi a1.f0_At, .p (.sl 1 ByteArray eS a1.f1_Old), .p (.sl 1 ByteArray eS a1.f2_New)]]) (by kernel_rfl) (by kernel_rfl) (by kernel_rfl) (by kernel_rfl) (by kernel_rfl) ?_
      refine qi (t := !x3) (by kernel_rfl) (fun c => ?_) (fun c => ?_)
      · rw [if_pos c] at H
        clear c
        refine qs ?_
        refine qg ?_
        refine qz T_ok 2 [4, 5] 0 (E2 := [(4, [], .p (.sl 1 ByteArray eS [])), (5, [], vi 12)]) (h1 := []) (by kernel_rfl) (by kernel_rfl) (by kernel_rfl) (by kernel_rfl) (by kernel_rfl) ?_
        refine qt ?_
        obtain rfl := Option.some.inj H
        exact ⟨.tup [.p (.sl 1 ByteArray eS []), vi 12], by kernel_rfl, rfl⟩
      · rw [if_neg (by rw [c]; exact Bool.false_ne_true)] at H
        clear c
        refine qs ?_
        refine qr T_ok [0, 3, 29] (E2 := [(0, [], .p (.sl 1 ByteArray eS a0)), (3, [], .ptr 0 0), (29, [], vb (decide (w64 ((w64 ((a0.length : Int) - (a1.f1_Old.length : Int))) + (a1.f2_New.length : Int)) > 1000)))]) (by kernel_rfl) ?_
        refine qi (t := decide (w64 ((w64 ((a0.length : Int) - (a1.f1_Old.length : Int))) + (a1.f2_New.length : Int)) > 1000)) (by kernel_rfl) (fun c => ?_) (fun c => ?_)
        · rw [if_pos (of_decide_eq_true c)] at H
          clear c
          refine qs ?_
          refine qg ?_
          refine qz T_ok 2 [4, 5] 0 (E2 := [(4, [], .p (.sl 1 ByteArray eS [])), (5, [], vi 4)]) (h1 := []) (by kernel_rfl) (by kernel_rfl) (by kernel_rfl) (by kernel_rfl) (by kernel_rfl) ?_
          refine qt ?_
          obtain rfl := Option.some.inj H
          exact ⟨.tup [.p (.sl 1 ByteArray eS []), vi 4], by kernel_rfl, rfl⟩
        · rw [if_neg (of_decide_eq_false c)] at H
          clear c
          refine qw [0, 3] rfl ?_
          refine qk ?_
          refine qs ?_
          refine qd (by kernel_rfl) 20 (by kernel_rfl) (by kernel_rfl) (by kernel_rfl) (by kernel_rfl) (by kernel_rfl) ?_
          refine dm T_ok 5 (k := 5) (by kernel_rfl) (by kernel_rfl) ?_
          obtain ⟨x4, hx, H⟩ := bd H
          refine dy rfl (zt3 T_ok (enc := eS) (l := a0) (e := 9) (n := 1) (ei := ti9) (sx := (.p (.sl 1 ByteArray eS a0))) .i64 .i64 hx rfl (by kernel_rfl) (by kernel_rfl) rfl (by kernel_rfl) (by kernel_rfl) (by kernel_rfl) (by kernel_rfl)) rfl (by kernel_rfl) rfl ?_
          clear hx
          refine dm T_ok 9 (k := 15) (by kernel_rfl) (by kernel_rfl) ?_
          obtain ⟨x5, hx, H⟩ := bd H
          refine dy rfl (zt T_ok (enc := eS) (l := a0) (e := 9) (n := 1) (ei := ti9) (sa := (.p (.sl 1 ByteArray eS a0))) hx rfl (by kernel_rfl) (by kernel_rfl) rfl (by kernel_rfl) (by kernel_rfl) ⟨.i64, by kernel_rfl⟩ rfl) rfl (by kernel_rfl) rfl ?_
          clear hx
          refine dy rfl (ze T_ok (e := 22) (n := 1) (eL 1 eS) ([x4, a1.f2_New, x5] : List (List ByteArray)) rfl (by kernel_rfl)) rfl (by kernel_rfl) rfl ?_
          obtain ⟨x6, hx, H⟩ := bd H
          refine dy rfl (zc (T := T) (slices_Concat_string_string.ok k [x4, a1.f2_New, x5] _ hx) Tryd.func79 rfl rfl (caps := []) (by kernel_rfl) (by kernel_rfl) (by kernel_rfl) (by kernel_rfl) (by kernel_rfl) (by kernel_rfl)) rfl (by kernel_rfl) rfl ?_
          clear hx
          refine dm T_ok 2 (k := 20) (by kernel_rfl) (by kernel_rfl) ?_
          refine dn ?_
          refine qz T_ok 0 [4, 5] 0 (E2 := [(4, [], .p (.sl 1 ByteArray eS x6)), (5, [], vi 0)]) (h1 := []) (by kernel_rfl) (by kernel_rfl) (by kernel_rfl) (by kernel_rfl) (by kernel_rfl) ?_
          refine qt ?_
          obtain rfl := Option.some.inj H
          exact ⟨.tup [.p (.sl 1 ByteArray eS x6), vi 0], by kernel_rfl, rfl⟩
/-! ### quitclaim/quitclaimlaw11.awake: function 24 -/
def quitclaimlaw11_awake.f (k : Nat)  : Option Bool := ((hunk_Apply.f k [⟨#[97]⟩, ⟨#[98]⟩] (⟨1, [⟨#[98]⟩], [⟨#[99]⟩, ⟨#[100]⟩]⟩ : S_At_Old_New)).bind fun x1 => ((gd (decide (x1.2 = 0) && decide ((x1.1.length : Int) = 3)) (ix x1.1 0)).bind fun x2 => ((gd ((decide (x1.2 = 0) && decide ((x1.1.length : Int) = 3)) && decide (x2 = ⟨#[97]⟩)) (ix x1.1 1)).bind fun x3 => ((gd (((decide (x1.2 = 0) && decide ((x1.1.length : Int) = 3)) && decide (x2 = ⟨#[97]⟩)) && decide (x3 = ⟨#[99]⟩)) (ix x1.1 2)).bind fun x4 => some ((((decide (x1.2 = 0) && decide ((x1.1.length : Int) = 3)) && decide (x2 = ⟨#[97]⟩)) && decide (x3 = ⟨#[99]⟩)) && decide (x4 = ⟨#[100]⟩))))))
theorem quitclaimlaw11_awake.ok (k : Nat)  (r : Bool) (H : quitclaimlaw11_awake.f k = some r) : PF Tryd.prog 24 [] (vb r) := by
  refine PF_mk T_ok Tryd.func24 rfl (by kernel_rfl) (by kernel_rfl) ?_
  unfold quitclaimlaw11_awake.f at H
  refine qs ?_
  refine qr T_ok [] (E2 := []) (by kernel_rfl) ?_
  refine qs ?_
  refine qg ?_
  refine qy rfl (ze T_ok (e := 9) (n := 1) eS ([⟨#[97]⟩, ⟨#[98]⟩] : List ByteArray) rfl (by kernel_rfl)) rfl (by kernel_rfl) rfl ?_
  refine qy rfl (ze T_ok (e := 9) (n := 1) eS ([⟨#[98]⟩] : List ByteArray) rfl (by kernel_rfl)) rfl (by kernel_rfl) rfl ?_
  refine qy rfl (ze T_ok (e := 9) (n := 1) eS ([⟨#[99]⟩, ⟨#[100]⟩] : List ByteArray) rfl (by kernel_rfl)) rfl (by kernel_rfl) rfl ?_
  refine qm T_ok 1 (k := 4) (by kernel_rfl) (by kernel_rfl) (by kernel_rfl) ?_
  obtain ⟨x1, hx, H⟩ := bd H
  refine qy rfl (zc (T := T) (hunk_Apply.ok k [⟨#[97]⟩, ⟨#[98]⟩] (⟨1, [⟨#[98]⟩], [⟨#[99]⟩, ⟨#[100]⟩]⟩ : S_At_Old_New) _ hx) Tryd.func49 rfl rfl (caps := []) (by kernel_rfl) (by kernel_rfl) (by kernel_rfl) (by kernel_rfl) (by kernel_rfl) (by kernel_rfl)) rfl (by kernel_rfl) rfl ?_
  clear hx
  refine qz T_ok 5 [1, 2] 0 (E2 := [(1, [], .p (.sl 1 ByteArray eS x1.1)), (2, [], vi x1.2)]) (h1 := []) (by kernel_rfl) (by kernel_rfl) (by kernel_rfl) (by kernel_rfl) (by kernel_rfl) ?_
  refine qs ?_
  refine qg ?_
  refine qm T_ok 9 (k := 9) (by kernel_rfl) (by kernel_rfl) (by kernel_rfl) ?_
  obtain ⟨x2, hx, H⟩ := bd H
  refine qyg rfl (tg := []) (Yld.under (u := 18) (b := true) (t := (decide (x1.2 = 0) && decide ((x1.1.length : Int) = 3))) (by kernel_rfl) (by simp) fun g0_ => (zi T_ok .i64 (enc := eS) (l := x1.1) (e := 9) (n := 1) (ei := ti9) (sa := (.p (.sl 1 ByteArray eS x1.1))) (gd1 hx g0_) rfl (by kernel_rfl) (by kernel_rfl) rfl (by kernel_rfl) (by kernel_rfl) (by kernel_rfl))) rfl rfl (by kernel_rfl) (by kernel_rfl) rfl ?_
  clear hx
  refine qm T_ok 5 (k := 15) (by kernel_rfl) (by kernel_rfl) (by kernel_rfl) ?_
  obtain ⟨x3, hx, H⟩ := bd H
  refine qyg rfl (tg := []) (Yld.under (u := 24) (b := true) (t := ((decide (x1.2 = 0) && decide ((x1.1.length : Int) = 3)) && decide (x2 = ⟨#[97]⟩))) (by kernel_rfl) (by simp) fun g0_ => (zi T_ok .i64 (enc := eS) (l := x1.1) (e := 9) (n := 1) (ei := ti9) (sa := (.p (.sl 1 ByteArray eS x1.1))) (gd1 hx g0_) rfl (by kernel_rfl) (by kernel_rfl) rfl (by kernel_rfl) (by kernel_rfl) (by kernel_rfl))) rfl rfl (by kernel_rfl) (by kernel_rfl) rfl ?_
  clear hx
  refine qm T_ok 5 (k := 21) (by kernel_rfl) (by kernel_rfl) (by kernel_rfl) ?_
  obtain ⟨x4, hx, H⟩ := bd H
  refine qyg rfl (tg := []) (Yld.under (u := 30) (b := true) (t := (((decide (x1.2 = 0) && decide ((x1.1.length : Int) = 3)) && decide (x2 = ⟨#[97]⟩)) && decide (x3 = ⟨#[99]⟩))) (by kernel_rfl) (by simp) fun g0_ => (zi T_ok .i64 (enc := eS) (l := x1.1) (e := 9) (n := 1) (ei := ti9) (sa := (.p (.sl 1 ByteArray eS x1.1))) (gd1 hx g0_) rfl (by kernel_rfl) (by kernel_rfl) rfl (by kernel_rfl) (by kernel_rfl) (by kernel_rfl))) rfl rfl (by kernel_rfl) (by kernel_rfl) rfl ?_
  clear hx
  refine qz T_ok 4 [0] 0 (E2 := [(0, [], vb ((((decide (x1.2 = 0) && decide ((x1.1.length : Int) = 3)) && decide (x2 = ⟨#[97]⟩)) && decide (x3 = ⟨#[99]⟩)) && decide (x4 = ⟨#[100]⟩)))]) (h1 := []) (by kernel_rfl) (by kernel_rfl) (by kernel_rfl) (by kernel_rfl) (by kernel_rfl) ?_
  refine qt ?_
  obtain rfl := Option.some.inj H
  exact ⟨vb ((((decide (x1.2 = 0) && decide ((x1.1.length : Int) = 3)) && decide (x2 = ⟨#[97]⟩)) && decide (x3 = ⟨#[99]⟩)) && decide (x4 = ⟨#[100]⟩)), by kernel_rfl, rfl⟩
/-! ### internal/stringslite.HasSuffix: function 110 -/
def internal_stringslite_HasSuffix.f (a0 : ByteArray) (a1 : ByteArray) : Option Bool := ((gd (decide ((a0.size : Int) ≥ (a1.size : Int))) (sub a0 (w64 ((a0.size : Int) - (a1.size : Int))) (a0.size : Int))).bind fun x1 => some (decide ((a0.size : Int) ≥ (a1.size : Int)) && decide (x1 = a1)))
theorem internal_stringslite_HasSuffix.ok (a0 : ByteArray) (a1 : ByteArray) (r : Bool) (H : internal_stringslite_HasSuffix.f a0 a1 = some r) : PF Tryd.prog 110 [vs a0, vs a1] (vb r) := by
  refine PF_mk T_ok Tryd.func110 rfl (by kernel_rfl) (by kernel_rfl) ?_
  unfold internal_stringslite_HasSuffix.f at H
  refine qs ?_
  refine qr T_ok [0, 1] (E2 := [(0, [], vs a0), (1, [], vs a1)]) (by kernel_rfl) ?_
  refine qs ?_
  refine qg ?_
  refine qm T_ok 12 (k := 12) (by kernel_rfl) (by kernel_rfl) (by kernel_rfl) ?_
  obtain ⟨x1, hx, H⟩ := bd H
  refine qyg rfl (tg := []) (Yld.under (u := 10) (b := true) (t := decide ((a0.size : Int) ≥ (a1.size : Int))) (by kernel_rfl) (by simp) fun g0_ => (zu T_ok (gd1 hx g0_) rfl (by kernel_rfl) (by kernel_rfl) ⟨.i64, by kernel_rfl⟩ rfl)) rfl rfl (by kernel_rfl) (by kernel_rfl) rfl ?_
  clear hx
  refine qz T_ok 4 [4] 0 (E2 := [(4, [], vb (decide ((a0.size : Int) ≥ (a1.size : Int)) && decide (x1 = a1)))]) (h1 := []) (by kernel_rfl) (by kernel_rfl) (by kernel_rfl) (by kernel_rfl) (by kernel_rfl) ?_
  refine qt ?_
  obtain rfl := Option.some.inj H
  exact ⟨vb (decide ((a0.size : Int) ≥ (a1.size : Int)) && decide (x1 = a1)), by kernel_rfl, rfl⟩
/-! ### internal/stringslite.CutSuffix: function 80 -/
def internal_stringslite_CutSuffix.f (a0 : ByteArray) (a1 : ByteArray) : Option (ByteArray × Bool) := ((internal_stringslite_HasSuffix.f a0 a1).bind fun x1 => (if (!x1) = true then some (a0, false) else ((sub a0 0 (w64 ((a0.size : Int) - (a1.size : Int)))).bind fun x2 => some (x2, true))))
theorem internal_stringslite_CutSuffix.ok (a0 : ByteArray) (a1 : ByteArray) (r : ByteArray × Bool) (H : internal_stringslite_CutSuffix.f a0 a1 = some r) : PF Tryd.prog 80 [vs a0, vs a1] (.tup [vs r.1, vb r.2]) := by
  refine PF_mk T_ok Tryd.func80 rfl (by kernel_rfl) (by kernel_rfl) ?_
  unfold internal_stringslite_CutSuffix.f at H
  refine qs ?_
  refine qr T_ok [0, 1] (E2 := [(0, [], vs a0), (1, [], vs a1)]) (by kernel_rfl) ?_
  refine qs ?_
  refine qs ?_
  refine qg ?_
  refine qm T_ok 2 (k := 2) (by kernel_rfl) (by kernel_rfl) (by kernel_rfl) ?_
  obtain ⟨x1, hx, H⟩ := bd H
  refine qy rfl (zc (T := T) (internal_stringslite_HasSuffix.ok a0 a1 _ hx) Tryd.func110 rfl rfl (caps := []) (by kernel_rfl) (by kernel_rfl) (by kernel_rfl) (by kernel_rfl) (by kernel_rfl) (by kernel_rfl)) rfl (by kernel_rfl) rfl ?_
  clear hx
  refine qz T_ok 1 [0, 1, 9] 0 (E2 := [(0, [], vs a0), (1, [], vs a1), (9, [], vb (!x1))]) (h1 := []) (by kernel_rfl) (by kernel_rfl) (by kernel_rfl) (by kernel_rfl) (by kernel_rfl) ?_
  refine qi (t := !x1) (by kernel_rfl) (fun c => ?_) (fun c => ?_)
  · rw [if_pos c] at H
    clear c
    refine qs ?_
    refine qr T_ok [4, 5] (E2 := [(4, [], vs a0), (5, [], vb false)]) (by kernel_rfl) ?_
    refine qt ?_
    obtain rfl := Option.some.inj H
    exact ⟨.tup [vs a0, vb false], by kernel_rfl, rfl⟩
  · rw [if_neg (by rw [c]; exact Bool.false_ne_true)] at H
    clear c
    refine qw [0, 1] rfl ?_
    refine qk ?_
    refine qs ?_
    refine qg ?_
    refine qm T_ok 6 (k := 6) (by kernel_rfl) (by kernel_rfl) (by kernel_rfl) ?_
    obtain ⟨x2, hx, H⟩ := bd H
    refine qy rfl (zu T_ok hx rfl (by kernel_rfl) (by kernel_rfl) rfl ⟨.i64, by kernel_rfl⟩) rfl (by kernel_rfl) rfl ?_
    clear hx
    refine qz T_ok 2 [4, 5] 0 (E2 := [(4, [], vs x2), (5, [], vb true)]) (h1 := []) (by kernel_rfl) (by kernel_rfl) (by kernel_rfl) (by kernel_rfl) (by kernel_rfl) ?_
    refine qt ?_
    obtain rfl := Option.some.inj H
    exact ⟨.tup [vs x2, vb true], by kernel_rfl, rfl⟩
/-! ### strings.CutSuffix: function 50 -/
def strings_CutSuffix.f (a0 : ByteArray) (a1 : ByteArray) : Option (ByteArray × Bool) := ((internal_stringslite_CutSuffix.f a0 a1).bind fun x1 => some (x1.1, x1.2))
theorem strings_CutSuffix.ok (a0 : ByteArray) (a1 : ByteArray) (r : ByteArray × Bool) (H : strings_CutSuffix.f a0 a1 = some r) : PF Tryd.prog 50 [vs a0, vs a1] (.tup [vs r.1, vb r.2]) := by
  refine PF_mk T_ok Tryd.func50 rfl (by kernel_rfl) (by kernel_rfl) ?_
  unfold strings_CutSuffix.f at H
  refine qs ?_
  refine qr T_ok [0, 1] (E2 := [(0, [], vs a0), (1, [], vs a1)]) (by kernel_rfl) ?_
  refine qs ?_
  refine qg ?_
  refine qm T_ok 2 (k := 2) (by kernel_rfl) (by kernel_rfl) (by kernel_rfl) ?_
  obtain ⟨x1, hx, H⟩ := bd H
  refine qy rfl (zc (T := T) (internal_stringslite_CutSuffix.ok a0 a1 _ hx) Tryd.func80 rfl rfl (caps := []) (by kernel_rfl) (by kernel_rfl) (by kernel_rfl) (by kernel_rfl) (by kernel_rfl) (by kernel_rfl)) rfl (by kernel_rfl) rfl ?_
  clear hx
  refine qz T_ok 4 [4, 5] 0 (E2 := [(4, [], vs x1.1), (5, [], vb x1.2)]) (h1 := []) (by kernel_rfl) (by kernel_rfl) (by kernel_rfl) (by kernel_rfl) (by kernel_rfl) ?_
  refine qt ?_
  obtain rfl := Option.some.inj H
  exact ⟨.tup [vs x1.1, vb x1.2], by kernel_rfl, rfl⟩
/-! ### strings.explode: function 106 -/
def strings_explode.f (_a0 : ByteArray) (_a1 : Int) : Option (List ByteArray) := none
theorem strings_explode.ok (a0 : ByteArray) (a1 : Int) (r : List ByteArray) (H : strings_explode.f a0 a1 = some r) : PF Tryd.prog 106 [vs a0, vi a1] (.p (.sl 1 ByteArray eS r)) := by cases H

/-! ### strings.Count: function 107 -/
def strings_Count.f (a0 a1 : ByteArray) : Option Int := match a1.data.toList with
  | [c] => some ((Lib.countByte a0.data.toList c : Nat) : Int)
  | _ => none
theorem strings_Count.ok (a0 a1 : ByteArray) (r : Int) (H : strings_Count.f a0 a1 = some r) : PF Tryd.prog 107 [vs a0, vs a1] (vi r) := by
  unfold strings_Count.f at H
  split at H
  case h_1 c hc =>
    obtain rfl := Option.some.inj H
    obtain ⟨⟨l⟩⟩ := a1
    have hc' : l = [c] := hc
    subst hc'
    exact PF_of (args := [.string a0, .string ⟨⟨[c]⟩⟩]) fun w => (Go.Proofs.Tryd.strings_Count_one a0 c w).mono fun e w' ⟨he, hw⟩ => ⟨he, hw ▸ Below.refl _ _⟩
  case h_2 => cases H

/-! ### strings.Index: function 104 -/
def strings_Index.f (a0 a1 : ByteArray) : Option Int := match a1.data.toList with
  | [c] => some (Lib.indexByte a0.data.toList c)
  | _ => none
theorem strings_Index.ok (a0 a1 : ByteArray) (r : Int) (H : strings_Index.f a0 a1 = some r) : PF Tryd.prog 104 [vs a0, vs a1] (vi r) := by
  unfold strings_Index.f at H
  split at H
  case h_1 c hc =>
    obtain rfl := Option.some.inj H
    obtain ⟨⟨l⟩⟩ := a1
    have hc' : l = [c] := hc
    subst hc'
    exact PF_of (args := [.string a0, .string ⟨⟨[c]⟩⟩]) fun w => (Go.Proofs.Tryd.strings_Index_one a0 c w).mono fun e w' ⟨he, hw⟩ => ⟨he, hw ▸ Below.refl _ _⟩
  case h_2 => cases H

/-! ### strings.genSplit: function 75 -/
def strings_genSplit.l1 (a0 : ByteArray) (a1 : ByteArray) (a2 : Int) (x3 : Int) (j1 : (ByteArray → Int → (List ByteArray) → Option (List ByteArray))) : Nat → ByteArray → Int → (List ByteArray) → Option (List ByteArray)
  | 0, _, _, _ => none
  | k + 1, x31, x32, x33 => (if x32 < w64 ((if w64 ((a0.size : Int) + 1) < x3 then w64 ((a0.size : Int) + 1) else x3) - 1) then ((strings_Index.f x31 a1).bind fun x39 => (if x39 < 0 then j1 x31 x32 x33 else ((sub x31 0 (w64 (x39 + a2))).bind fun x40 => ((chk x32 ((if w64 ((a0.size : Int) + 1) < x3 then w64 ((a0.size : Int) + 1) else x3).toNat)).bind fun x41 => ((wr x33 x32.toNat x40).bind fun x42 => ((sub x31 (w64 (x39 + (a1.size : Int))) (x31.size : Int)).bind fun x43 => strings_genSplit.l1 a0 a1 a2 x3 j1 k x43 (w64 (x32 + 1)) x42)))))) else j1 x31 x32 x33)
def strings_genSplit.f (k : Nat) (a0 : ByteArray) (a1 : ByteArray) (a2 : Int) (a3 : Int) : Option (List ByteArray) := (if a3 = 0 then some [] else (if a1 = ⟨#[]⟩ then ((strings_explode.f a0 a3).bind fun x1 => some x1) else (jn (fun (x3 : Int) => ((grw 16 (if w64 ((a0.size : Int) + 1) < x3 then w64 ((a0.size : Int) + 1) else x3)).bind fun _ => (jn (fun (x23 : ByteArray) (x24 : Int) (x25 : List ByteArray) => ((chk x24 ((if w64 ((a0.size : Int) + 1) < x3 then w64 ((a0.size : Int) + 1) else x3).toNat)).bind fun x44 => ((wr x25 x24.toNat x23).bind fun x45 => ((ln x45 ((if w64 ((a0.size : Int) + 1) < x3 then w64 ((a0.size : Int) + 1) else x3).toNat)).bind fun _ => ((cut x45 0 (w64 (x24 + 1))).bind fun x46 => some x46))))) fun j1 => strings_genSplit.l1 a0 a1 a2 x3 j1 k a0 0 (List.replicate (if w64 ((a0.size : Int) + 1) < x3 then w64 ((a0.size : Int) + 1) else x3).toNat (⟨#[]⟩ : ByteArray))))) fun j0 => (if a3 < 0 then ((strings_Count.f a0 a1).bind fun x4 => j0 (w64 (x4 + 1))) else j0 a3))))
theorem strings_genSplit.ok (k : Nat) (a0 : ByteArray) (a1 : ByteArray) (a2 : Int) (a3 : Int) (r : List ByteArray) (H : strings_genSplit.f k a0 a1 a2 a3 = some r) : PF Tryd.prog 75 [vs a0, vs a1, vi a2, vi a3] (.p (.sl 1 ByteArray eS r)) := by
  refine PF_mk T_ok Tryd.func75 rfl (by kernel_rfl) (by kernel_rfl) ?_
  unfold strings_genSplit.f at H
  refine qs ?_
  refine qr T_ok [0, 1, 2, 3] (E2 := [(0, [], vs a0), (1, [], vs a1), (2, [], vi a2), (3, [], vi a3)]) (by kernel_rfl) ?_
  refine qs ?_
  refine qs ?_
  refine qr T_ok [0, 1, 2, 3, 13] (E2 := [(0, [], vs a0), (1, [], vs a1), (2, [], vi a2), (3, [], vi a3), (13, [], vb (decide (a3 = 0)))]) (by kernel_rfl) ?_
  refine qi (t := decide (a3 = 0)) (by kernel_rfl) (fun c => ?_) (fun c => ?_)
  · rw [if_pos (of_decide_eq_true c)] at H
    clear c
    refine qs ?_
    refine qr T_ok [8] (E2 := [(8, [], .p (.sl 1 ByteArray eS []))]) (by kernel_rfl) ?_
    refine qt ?_
    obtain rfl := Option.some.inj H
    exact ⟨.p (.sl 1 ByteArray eS []), by kernel_rfl, rfl⟩
  · rw [if_neg (of_decide_eq_false c)] at H
    clear c
    refine qw [0, 1, 2, 3] rfl ?_
    refine qk ?_
    refine qs ?_
    refine qs ?_
    refine qr T_ok [0, 1, 2, 3, 15] (E2 := [(0, [], vs a0), (1, [], vs a1), (2, [], vi a2), (3, [], vi a3), (15, [], vb (decide (a1 = ⟨#[]⟩)))]) (by kernel_rfl) ?_
    refine qi (t := decide (a1 = ⟨#[]⟩)) (by kernel_rfl) (fun c => ?_) (fun c => ?_)
    · rw [if_pos (of_decide_eq_true c)] at H
      clear c
      refine qs ?_
      refine qg ?_
      refine qm T_ok 2 (k := 2) (by kernel_rfl) (by kernel_rfl) (by kernel_rfl) ?_
      obtain ⟨x1, hx, H⟩ := bd H
      refine qy rfl (zc (T := T) (strings_explode.ok a0 a3 _ hx) Tryd.func106 rfl rfl (caps := []) (by kernel_rfl) (by kernel_rfl) (by kernel_rfl) (by kernel_rfl) (by kernel_rfl) (by kernel_rfl)) rfl (by kernel_rfl) rfl ?_
      clear hx
      refine qz T_ok 1 [8] 0 (E2 := [(8, [], .p (.sl 1 ByteArray eS x1))]) (h1 := []) (by kernel_rfl) (by kernel_rfl) (by kernel_rfl) (by kernel_rfl) (by kernel_rfl) ?_
      refine qt ?_
      obtain rfl := Option.some.inj H
      exact ⟨.p (.sl 1 ByteArray eS x1), by kernel_rfl, rfl⟩
    · rw [if_neg (of_decide_eq_false c)] at H
      clear c
      refine qw [0, 1, 2, 3] rfl ?_
      refine qk ?_
      obtain ⟨j0, hj, H⟩ := jn_of H
      refine qc (fun E h => ∃ x3 : Int, E = [(0, [], vs a0), (1, [], vs a1), (2, [], vi a2), (3, [], vi x3)] ∧ h = [] ∧ j0 x3 = some r) ?_ ?_
      · clear hj
        refine qs ?_
        refine qr T_ok [0, 1, 2, 3, 20] (E2 := [(0, [], vs a0), (1, [], vs a1), (2, [], vi a2), (3, [], vi a3), (20, [], vb (decide (a3 < 0)))]) (by kernel_rfl) ?_
        refine qi (t := decide (a3 < 0)) (by kernel_rfl) (fun c => ?_) (fun c => ?_)
        · rw [if_pos (of_decide_eq_true c)] at H
          clear c
          refine qg ?_
          refine qm T_ok 2 (k := 2) (by kernel_rfl) (by kernel_rfl) (by kernel_rfl) ?_
          obtain ⟨x4, hx, H⟩ := bd H
          refine qy rfl (zc (T := T) (strings_Count.ok a0 a1 _ hx) Tryd.func107 rfl rfl (caps := []) (by kernel_rfl) (by kernel_rfl) (by kernel_rfl) (by kernel_rfl) (by kernel_rfl) (by kernel_rfl)) rfl (by kernel_rfl) rfl ?_
          clear hx
          refine qz T_ok 2 [0, 1, 2, 3] 0 (E2 := [(0, [], vs a0), (1, [], vs a1), (2, [], vi a2), (3, [], vi (w64 (x4 + 1)))]) (h1 := []) (by kernel_rfl) (by kernel_rfl) (by kernel_rfl) (by kernel_rfl) (by kernel_rfl) ?_
          exact ⟨w64 (x4 + 1), rfl, rfl, H⟩
        · rw [if_neg (of_decide_eq_false c)] at H
          clear c
          refine qw [0, 1, 2, 3] rfl ?_
          refine qk ?_
          exact ⟨a3, rfl, rfl, H⟩
      · clear H
        rintro E h ⟨x3, rfl, rfl, H⟩
        subst hj
        dsimp only at H
        refine qs ?_
        refine qr T_ok [0, 1, 2, 3] (E2 := [(0, [], vs a0), (1, [], vs a1), (2, [], vi a2), (3, [], vi (if w64 ((a0.size : Int) + 1) < x3 then w64 ((a0.size : Int) + 1) else x3))]) (by kernel_rfl) ?_
        refine qs ?_
        refine qg ?_
        refine qm T_ok 1 (k := 1) (by kernel_rfl) (by kernel_rfl) (by kernel_rfl) ?_
        obtain ⟨u_, hx, H⟩ := bd H
        refine xm T_ok (e := 9) (j := 0) (k := (if w64 ((a0.size : Int) + 1) < x3 then w64 ((a0.size : Int) + 1) else x3)) (enc := eS) (z0 := (⟨#[]⟩ : ByteArray)) (ei := ti9) rfl rfl rfl rfl (by kernel_rfl) (by kernel_rfl) (by kernel_rfl) (by kernel_rfl) (grw_of hx).1 (grw_of hx).2.1 (grw_of hx).2.2 (by kernel_rfl) rfl ?_
        clear hx
        refine qz T_ok 1 [0, 1, 2, 3, 9] 1 (E2 := [(0, [], vs a0), (1, [], vs a1), (2, [], vi a2), (3, [], vi (if w64 ((a0.size : Int) + 1) < x3 then w64 ((a0.size : Int) + 1) else x3)), (9, [], .row 9 ((if w64 ((a0.size : Int) + 1) < x3 then w64 ((a0.size : Int) + 1) else x3).toNat) 0)]) (h1 := [.cells 9 (rowC eS (List.replicate (if w64 ((a0.size : Int) + 1) < x3 then w64 ((a0.size : Int) + 1) else x3).toNat (⟨#[]⟩ : ByteArray)))]) (by kernel_rfl) (by kernel_rfl) (by kernel_rfl) (by simp [gcO, lowO, noMark, lowL, ids_rowC, SV.idsL, SV.ids, Nat.blt]) (by kernel_rfl) ?_
        refine qs ?_
        refine qr T_ok [0, 1, 2, 3, 9] (E2 := [(0, [], vs a0), (1, [], vs a1), (2, [], vi a2), (3, [], vi (w64 ((if w64 ((a0.size : Int) + 1) < x3 then w64 ((a0.size : Int) + 1) else x3) - 1))), (9, [], .row 9 ((if w64 ((a0.size : Int) + 1) < x3 then w64 ((a0.size : Int) + 1) else x3).toNat) 0)]) (by kernel_rfl) ?_
        refine qs ?_
        refine qr T_ok [0, 1, 2, 3, 9, 10] (E2 := [(0, [], vs a0), (1, [], vs a1), (2, [], vi a2), (3, [], vi (w64 ((if w64 ((a0.size : Int) + 1) < x3 then w64 ((a0.size : Int) + 1) else x3) - 1))), (9, [], .row 9 ((if w64 ((a0.size : Int) + 1) < x3 then w64 ((a0.size : Int) + 1) else x3).toNat) 0), (10, [], vi 0)]) (by kernel_rfl) ?_
        obtain ⟨j1, hj, H⟩ := jn_of H
        refine qc (fun E h => ∃ x23 : ByteArray, ∃ x24 : Int, ∃ x25 : List ByteArray, E = [(0, [], vs x23), (9, [], .row 9 ((if w64 ((a0.size : Int) + 1) < x3 then w64 ((a0.size : Int) + 1) else x3).toNat) 0), (10, [], vi x24)] ∧ h = [.cells 9 (rowC eS x25)] ∧ j1 x23 x24 x25 = some r) ?_ ?_
        · clear hj
          refine qb ?_
          refine qp (fun k E h => ∃ x31 : ByteArray, ∃ x32 : Int, ∃ x33 : List ByteArray, E = [(0, [], vs x31), (1, [], vs a1), (2, [], vi a2), (3, [], vi (w64 ((if w64 ((a0.size : Int) + 1) < x3 then w64 ((a0.size : Int) + 1) else x3) - 1))), (9, [], .row 9 ((if w64 ((a0.size : Int) + 1) < x3 then w64 ((a0.size : Int) + 1) else x3).toNat) 0), (10, [], vi x32)] ∧ h = [.cells 9 (rowC eS x33)] ∧ strings_genSplit.l1 a0 a1 a2 x3 j1 k x31 x32 x33 = some r) k ⟨a0, 0, List.replicate (if w64 ((a0.size : Int) + 1) < x3 then w64 ((a0.size : Int) + 1) else x3).toNat (⟨#[]⟩ : ByteArray), rfl, rfl, H⟩ ?_
          clear H
          rintro k E h ⟨x31, x32, x33, rfl, rfl, H⟩
          cases k with
          | zero => exact nomatch (show none = some r from H)
          | succ k =>
            rw [strings_genSplit.l1] at H
            refine qs ?_
            refine qs ?_
            refine qr T_ok [0, 1, 2, 3, 9, 10, 36] (E2 := [(0, [], vs x31), (1, [], vs a1), (2, [], vi a2), (3, [], vi (w64 ((if w64 ((a0.size : Int) + 1) < x3 then w64 ((a0.size : Int) + 1) else x3) - 1))), (9, [], .row 9 ((if w64 ((a0.size : Int) + 1) < x3 then w64 ((a0.size : Int) + 1) else x3).toNat) 0), (10, [], vi x32), (36, [], vb (decide (x32 < w64 ((if w64 ((a0.size : Int) + 1) < x3 then w64 ((a0.size : Int) + 1) else x3) - 1))))]) (by kernel_rfl) ?_
            refine qi (t := decide (x32 < w64 ((if w64 ((a0.size : Int) + 1) < x3 then w64 ((a0.size : Int) + 1) else x3) - 1))) (by kernel_rfl) (fun c => ?_) (fun c => ?_)
            · rw [if_pos (of_decide_eq_true c)] at H
              clear c
              refine qw [0, 1, 2, 3, 9, 10] rfl ?_
              refine qk ?_
              refine qb ?_
              refine qs ?_
              refine qg ?_
              refine qm T_ok 2 (k := 2) (by kernel_rfl) (by kernel_rfl) (by kernel_rfl) ?_
              obtain ⟨x39, hx, H⟩ := bd H
              refine qy rfl (zc (T := T) (strings_Index.ok x31 a1 _ hx) Tryd.func104 rfl rfl (caps := []) (by kernel_rfl) (by kernel_rfl) (by kernel_rfl) (by kernel_rfl) (by kernel_rfl) (by kernel_rfl)) rfl (by kernel_rfl) rfl ?_
              clear hx
              refine qz T_ok 1 [0, 1, 2, 3, 9, 10, 11] 1 (E2 := [(0, [], vs x31), (1, [], vs a1), (2, [], vi a2), (3, [], vi (w64 ((if w64 ((a0.size : Int) + 1) < x3 then w64 ((a0.size : Int) + 1) else x3) - 1))), (9, [], .row 9 ((if w64 ((a0.size : Int) + 1) < x3 then w64 ((a0.size : Int) + 1) else x3).toNat) 0), (10, [], vi x32), (11, [], vi x39)]) (h1 := [.cells 9 (rowC eS x33)]) (by kernel_rfl) (by kernel_rfl) (by kernel_rfl) (by simp [gcO, lowO, noMark, lowL, ids_rowC, SV.idsL, SV.ids, Nat.blt]) (by kernel_rfl) ?_
              refine qs ?_
              refine qs ?_
              refine qr T_ok [0, 1, 2, 3, 9, 10, 11, 41] (E2 := [(0, [], vs x31), (1, [], vs a1), (2, [], vi a2), (3, [], vi (w64 ((if w64 ((a0.size : Int) + 1) < x3 then w64 ((a0.size : Int) + 1) else x3) - 1))), (9, [], .row 9 ((if w64 ((a0.size : Int) + 1) < x3 then w64 ((a0.size : Int) + 1) else x3).toNat) 0), (10, [], vi x32), (11, [], vi x39), (41, [], vb (decide (x39 < 0)))]) (by kernel_rfl) ?_
              refine qi (t := decide (x39 < 0)) (by kernel_rfl) (fun c => ?_) (fun c => ?_)
              · rw [if_pos (of_decide_eq_true c)] at H
                clear c
                refine qw [0, 9, 10] rfl ?_
                refine qx ?_
                exact ⟨x31, x32, x33, rfl, rfl, H⟩
              · rw [if_neg (of_decide_eq_false c)] at H
                clear c
                refine qw [0, 1, 2, 3, 9, 10, 11] rfl ?_
                refine qk ?_
                refine qs ?_
                refine qg ?_
                refine qm T_ok 6 (k := 6) (by kernel_rfl) (by kernel_rfl) (by kernel_rfl) ?_
                obtain ⟨x40, hx, H⟩ := bd H
                refine qy rfl (zu T_ok hx rfl (by kernel_rfl) (by kernel_rfl) rfl ⟨.i64, by kernel_rfl⟩) rfl (by kernel_rfl) rfl ?_
                clear hx
                obtain ⟨x41, hx, H⟩ := bd H
                refine qy rfl (yi T_ok (e := 9) (k := .i64) (n := x32) (j := 0) (ei := ti9) rfl (by kernel_rfl) (by kernel_rfl) (by kernel_rfl) (by kernel_rfl) (chk_of hx).1 (chk_of hx).2) rfl (by kernel_rfl) rfl ?_
                clear hx
                obtain ⟨x42, hx, H⟩ := bd H
                refine xW T_ok (u := 9) (j := 0) (n := 1) (iv := x32.toNat) (enc := eS) (xs := x33) (y' := x40) (ti := ti9) (s := (vs x40)) hx rfl rfl rfl rfl (by kernel_rfl) (by kernel_rfl) (by kernel_rfl) (by kernel_rfl) rfl (fun _ => rfl) (by kernel_rfl) ?_
                clear hx
                refine qz T_ok 0 [0, 1, 2, 3, 9, 10, 11] 1 (E2 := [(0, [], vs x31), (1, [], vs a1), (2, [], vi a2), (3, [], vi (w64 ((if w64 ((a0.size : Int) + 1) < x3 then w64 ((a0.size : Int) + 1) else x3) - 1))), (9, [], .row 9 ((if w64 ((a0.size : Int) + 1) < x3 then w64 ((a0.size : Int) + 1) else x3).toNat) 0), (10, [], vi x32), (11, [], vi x39)]) (h1 := [.cells 9 (rowC eS x42)]) (by kernel_rfl) (by kernel_rfl) (by kernel_rfl) (by simp [gcO, lowO, noMark, lowL, ids_rowC, SV.idsL, SV.ids, Nat.blt]) (by kernel_rfl) ?_
                refine qs ?_
                refine qg ?_
                refine qm T_ok 5 (k := 5) (by kernel_rfl) (by kernel_rfl) (by kernel_rfl) ?_
                obtain ⟨x43, hx, H⟩ := bd H
                refine qy rfl (zu T_ok hx rfl (by kernel_rfl) (by kernel_rfl) ⟨.i64, by kernel_rfl⟩ rfl) rfl (by kernel_rfl) rfl ?_
                clear hx
                refine qz T_ok 1 [0, 1, 2, 3, 9, 10] 1 (E2 := [(0, [], vs x43), (1, [], vs a1), (2, [], vi a2), (3, [], vi (w64 ((if w64 ((a0.size : Int) + 1) < x3 then w64 ((a0.size : Int) + 1) else x3) - 1))), (9, [], .row 9 ((if w64 ((a0.size : Int) + 1) < x3 then w64 ((a0.size : Int) + 1) else x3).toNat) 0), (10, [], vi x32)]) (h1 := [.cells 9 (rowC eS x42)]) (by kernel_rfl) (by kernel_rfl) (by kernel_rfl) (by simp [gcO, lowO, noMark, lowL, ids_rowC, SV.idsL, SV.ids, Nat.blt]) (by kernel_rfl) ?_
                refine qr T_ok [0, 1, 2, 3, 9, 10] (E2 := [(0, [], vs x43), (1, [], vs a1), (2, [], vi a2), (3, [], vi (w64 ((if w64 ((a0.size : Int) + 1) < x3 then w64 ((a0.size : Int) + 1) else x3) - 1))), (9, [], .row 9 ((if w64 ((a0.size : Int) + 1) < x3 then w64 ((a0.size : Int) + 1) else x3).toNat) 0), (10, [], vi (w64 (x32 + 1)))]) (by kernel_rfl) ?_
                exact ⟨_, Nat.lt_succ_self _, x43, w64 (x32 + 1), x42, rfl, rfl, H⟩
            · rw [if_neg (of_decide_eq_false c)] at H
              clear c
              refine qw [0, 9, 10] rfl ?_
              refine qx ?_
              exact ⟨x31, x32, x33, rfl, rfl, H⟩
        · clear H
          rintro E h ⟨x23, x24, x25, rfl, rfl, H⟩
          subst hj
          dsimp only at H
          refine qs ?_
          refine qg ?_
          refine qm T_ok 3 (k := 3) (by kernel_rfl) (by kernel_rfl) (by kernel_rfl) ?_
          obtain ⟨x44, hx, H⟩ := bd H
          refine qy rfl (yi T_ok (e := 9) (k := .i64) (n := x24) (j := 0) (ei := ti9) rfl (by kernel_rfl) (by kernel_rfl) (by kernel_rfl) (by kernel_rfl) (chk_of hx).1 (chk_of hx).2) rfl (by kernel_rfl) rfl ?_
          clear hx
          obtain ⟨x45, hx, H⟩ := bd H
          refine xW T_ok (u := 9) (j := 0) (n := 1) (iv := x24.toNat) (enc := eS) (xs := x25) (y' := x23) (ti := ti9) (s := (vs x23)) hx rfl rfl rfl rfl (by kernel_rfl) (by kernel_rfl) (by kernel_rfl) (by kernel_rfl) rfl (fun _ => rfl) (by kernel_rfl) ?_
          clear hx
          refine qz T_ok 0 [9, 10] 1 (E2 := [(9, [], .row 9 ((if w64 ((a0.size : Int) + 1) < x3 then w64 ((a0.size : Int) + 1) else x3).toNat) 0), (10, [], vi x24)]) (h1 := [.cells 9 (rowC eS x45)]) (by kernel_rfl) (by kernel_rfl) (by kernel_rfl) (by simp [gcO, lowO, noMark, lowL, ids_rowC, SV.idsL, SV.ids, Nat.blt]) (by kernel_rfl) ?_
          refine qs ?_
          obtain ⟨u_, hx, H⟩ := bd H
          refine qfz (u := 9) (t := 9) (e := 9) (len := ((if w64 ((a0.size : Int) + 1) < x3 then w64 ((a0.size : Int) + 1) else x3).toNat)) (j := 0) (n := 1) (enc := eS) (xs := x45) [10] (by kernel_rfl) (by kernel_rfl) (fun _ => rfl) (ln_of hx) rfl (by kernel_rfl) (by kernel_rfl) ?_
          clear hx
          refine qg ?_
          refine qm T_ok 3 (k := 3) (by kernel_rfl) (by kernel_rfl) (by kernel_rfl) ?_
          obtain ⟨x46, hx, H⟩ := bd H
          refine qy rfl (zt T_ok (enc := eS) (l := x45) (e := 9) (n := 1) (ei := ti9) (sa := (.p (.sl 1 ByteArray eS x45))) hx rfl (by kernel_rfl) (by kernel_rfl) rfl (by kernel_rfl) (by kernel_rfl) rfl ⟨.i64, by kernel_rfl⟩) rfl (by kernel_rfl) rfl ?_
          clear hx
          refine qz T_ok 1 [8] 0 (E2 := [(8, [], .p (.sl 1 ByteArray eS x46))]) (h1 := []) (by kernel_rfl) (by kernel_rfl) (by kernel_rfl) (by kernel_rfl) (by kernel_rfl) ?_
          refine qt ?_
          obtain rfl := Option.some.inj H
          exact ⟨.p (.sl 1 ByteArray eS x46), by kernel_rfl, rfl⟩
/-! ### strings.Split: function 47 -/
def strings_Split.f (k : Nat) (a0 : ByteArray) (a1 : ByteArray) : Option (List ByteArray) := ((strings_genSplit.f k a0 a1 0 (-1)).bind fun x1 => some x1)
theorem strings_Split.ok (k : Nat) (a0 : ByteArray) (a1 : ByteArray) (r : List ByteArray) (H : strings_Split.f k a0 a1 = some r) : PF Tryd.prog 47 [vs a0, vs a1] (.p (.sl 1 ByteArray eS r)) := by
  refine PF_mk T_ok Tryd.func47 rfl (by kernel_rfl) (by kernel_rfl) ?_
  unfold strings_Split.f at H
  refine qs ?_
  refine qr T_ok [0, 1] (E2 := [(0, [], vs a0), (1, [], vs a1)]) (by kernel_rfl) ?_
  refine qs ?_
  refine qg ?_
  refine qm T_ok 2 (k := 2) (by kernel_rfl) (by kernel_rfl) (by kernel_rfl) ?_
  obtain ⟨x1, hx, H⟩ := bd H
  refine qy rfl (zc (T := T) (strings_genSplit.ok k a0 a1 0 (-1) _ hx) Tryd.func75 rfl rfl (caps := []) (by kernel_rfl) (by kernel_rfl) (by kernel_rfl) (by kernel_rfl) (by kernel_rfl) (by kernel_rfl)) rfl (by kernel_rfl) rfl ?_
  clear hx
  refine qz T_ok 1 [4] 0 (E2 := [(4, [], .p (.sl 1 ByteArray eS x1))]) (h1 := []) (by kernel_rfl) (by kernel_rfl) (by kernel_rfl) (by kernel_rfl) (by kernel_rfl) ?_
  refine qt ?_
  obtain rfl := Option.some.inj H
  exact ⟨.p (.sl 1 ByteArray eS x1), by kernel_rfl, rfl⟩
/-! ### quitclaim/hunk.Split: function 25 -/
def hunk_Split.f (k : Nat) (a0 : ByteArray) : Option ((List ByteArray) × Int) := (if a0 = ⟨#[]⟩ then some ([], 0) else ((strings_CutSuffix.f a0 ⟨#[10]⟩).bind fun x1 => ((strings_Split.f k x1.1 ⟨#[10]⟩).bind fun x2 => ((gd (!(!x1.2)) (hunk_Lines.f k x2)).bind fun x3 => (if (!x1.2 || !x3) = true then some ([], 3) else some (x2, 0))))))
theorem hunk_Split.ok (k : Nat) (a0 : ByteArray) (r : (List ByteArray) × Int) (H : hunk_Split.f k a0 = some r) : PF Tryd.prog 25 [vs a0] (.tup [.p (.sl 1 ByteArray eS r.1), vi r.2]) := by
  refine PF_mk T_ok Tryd.func25 rfl (by kernel_rfl) (by kernel_rfl) ?_
  unfold hunk_Split.f at H
  refine qs ?_
  refine qr T_ok [0] (E2 := [(0, [], vs a0)]) (by kernel_rfl) ?_
  refine qs ?_
  refine qs ?_
  refine qr T_ok [0, 8] (E2 := [(0, [], vs a0), (8, [], vb (decide (a0 = ⟨#[]⟩)))]) (by kernel_rfl) ?_
  refine qi (t := decide (a0 = ⟨#[]⟩)) (by kernel_rfl) (fun c => ?_) (fun c => ?_)
  · rw [if_pos (of_decide_eq_true c)] at H
    clear c
    refine qs ?_
    refine qr T_ok [2, 3] (E2 := [(2, [], .p (.sl 1 ByteArray eS [])), (3, [], vi 0)]) (by kernel_rfl) ?_
    refine qt ?_
    obtain rfl := Option.some.inj H
    exact ⟨.tup [.p (.sl 1 ByteArray eS []), vi 0], by kernel_rfl, rfl⟩
  · rw [if_neg (of_decide_eq_false c)] at H
    clear c
    refine qw [0] rfl ?_
    refine qk ?_
    refine qs ?_
    refine qg ?_
    refine qm T_ok 1 (k := 1) (by kernel_rfl) (by kernel_rfl) (by kernel_rfl) ?_
    obtain ⟨x1, hx, H⟩ := bd H
    refine qy rfl (zc (T := T) (strings_CutSuffix.ok a0 ⟨#[10]⟩ _ hx) Tryd.func50 rfl rfl (caps := []) (by kernel_rfl) (by kernel_rfl) (by kernel_rfl) (by kernel_rfl) (by kernel_rfl) (by kernel_rfl)) rfl (by kernel_rfl) rfl ?_
    clear hx
    refine qz T_ok 5 [4, 5] 0 (E2 := [(4, [], vs x1.1), (5, [], vb x1.2)]) (h1 := []) (by kernel_rfl) (by kernel_rfl) (by kernel_rfl) (by kernel_rfl) (by kernel_rfl) ?_
    refine qs ?_
    refine qg ?_
    refine qm T_ok 1 (k := 1) (by kernel_rfl) (by kernel_rfl) (by kernel_rfl) ?_
    obtain ⟨x2, hx, H⟩ := bd H
    refine qy rfl (zc (T := T) (strings_Split.ok k x1.1 ⟨#[10]⟩ _ hx) Tryd.func47 rfl rfl (caps := []) (by kernel_rfl) (by kernel_rfl) (by kernel_rfl) (by kernel_rfl) (by kernel_rfl) (by kernel_rfl)) rfl (by kernel_rfl) rfl ?_
    clear hx
    refine qz T_ok 1 [5, 6] 0 (E2 := [(5, [], vb x1.2), (6, [], .p (.sl 1 ByteArray eS x2))]) (h1 := []) (by kernel_rfl) (by kernel_rfl) (by kernel_rfl) (by kernel_rfl) (by kernel_rfl) ?_
    refine qs ?_
    refine qs ?_
    refine qg ?_
    refine qm T_ok 4 (k := 4) (by kernel_rfl) (by kernel_rfl) (by kernel_rfl) ?_
    obtain ⟨x3, hx, H⟩ := bd H
    refine qyg rfl (tg := []) (Yld.under (u := 18) (b := false) (t := !x1.2) (by kernel_rfl) (by simp) fun g0_ => (zc (T := T) (hunk_Lines.ok k x2 _ (gd0 hx g0_)) Tryd.func51 rfl rfl (caps := []) (by kernel_rfl) (by kernel_rfl) (by kernel_rfl) (by kernel_rfl) (by kernel_rfl) (by kernel_rfl))) rfl rfl (by kernel_rfl) (by kernel_rfl) rfl ?_
    clear hx
    refine qz T_ok 2 [6, 22] 0 (E2 := [(6, [], .p (.sl 1 ByteArray eS x2)), (22, [], vb (!x1.2 || !x3))]) (h1 := []) (by kernel_rfl) (by kernel_rfl) (by kernel_rfl) (by kernel_rfl) (by kernel_rfl) ?_
    refine qi (t := (!x1.2 || !x3)) (by kernel_rfl) (fun c => ?_) (fun c => ?_)
    · rw [if_pos c] at H
      clear c
      refine qs ?_
      refine qr T_ok [2, 3] (E2 := [(2, [], .p (.sl 1 ByteArray eS [])), (3, [], vi 3)]) (by kernel_rfl) ?_
      refine qt ?_
      obtain rfl := Option.some.inj H
      exact ⟨.tup [.p (.sl 1 ByteArray eS []), vi 3], by kernel_rfl, rfl⟩
    · rw [if_neg (by rw [c]; exact Bool.false_ne_true)] at H
      clear c
      refine qw [6] rfl ?_
      refine qk ?_
      refine qs ?_
      refine qr T_ok [2, 3] (E2 := [(2, [], .p (.sl 1 ByteArray eS x2)), (3, [], vi 0)]) (by kernel_rfl) ?_
      refine qt ?_
      obtain rfl := Option.some.inj H
      exact ⟨.tup [.p (.sl 1 ByteArray eS x2), vi 0], by kernel_rfl, rfl⟩
/-! ### quitclaim/quitclaimref11.Line: function 84 -/
def quitclaimref11_Line.l0 (a0 : ByteArray) : Nat → Int → Option Bool
  | 0, _ => none
  | k + 1, x2 => (if x2 < (a0.size : Int) then ((bx a0 x2).bind fun x4 => (if x4 = 10 then some false else quitclaimref11_Line.l0 a0 k (w64 (x2 + 1)))) else some (decide ((a0.size : Int) ≤ 200)))
def quitclaimref11_Line.f (k : Nat) (a0 : ByteArray) : Option Bool := quitclaimref11_Line.l0 a0 k 0
theorem quitclaimref11_Line.ok (k : Nat) (a0 : ByteArray) (r : Bool) (H : quitclaimref11_Line.f k a0 = some r) : PF Tryd.prog 84 [vs a0] (vb r) := by
  refine PF_mk T_ok Tryd.func84 rfl (by kernel_rfl) (by kernel_rfl) ?_
  unfold quitclaimref11_Line.f at H
  refine qs ?_
  refine qr T_ok [0] (E2 := [(0, [], vs a0)]) (by kernel_rfl) ?_
  refine qs ?_
  refine qs ?_
  refine qr T_ok [0, 3] (E2 := [(0, [], vs a0), (3, [], vi 0)]) (by kernel_rfl) ?_
  refine qb ?_
  refine qp (fun k E h => ∃ x2 : Int, E = [(0, [], vs a0), (3, [], vi x2)] ∧ h = [] ∧ quitclaimref11_Line.l0 a0 k x2 = some r) k ⟨0, rfl, rfl, H⟩ ?_
  clear H
  rintro k E h ⟨x2, rfl, rfl, H⟩
  cases k with
  | zero => exact nomatch (show none = some r from H)
  | succ k =>
    rw [quitclaimref11_Line.l0] at H
    refine qs ?_
    refine qs ?_
    refine qr T_ok [0, 3, 7] (E2 := [(0, [], vs a0), (3, [], vi x2), (7, [], vb (decide (x2 < (a0.size : Int))))]) (by kernel_rfl) ?_
    refine qi (t := decide (x2 < (a0.size : Int))) (by kernel_rfl) (fun c => ?_) (fun c => ?_)
    · rw [if_pos (of_decide_eq_true c)] at H
      clear c
      refine qw [0, 3] rfl ?_
      refine qk ?_
      refine qs ?_
      refine qb ?_
      refine qs ?_
      refine qg ?_
      refine qm T_ok 2 (k := 2) (by kernel_rfl) (by kernel_rfl) (by kernel_rfl) ?_
      obtain ⟨x4, hx, H⟩ := bd H
      refine qy rfl (zb T_ok .i64 hx rfl (by kernel_rfl) (by kernel_rfl) (by kernel_rfl)) rfl (by kernel_rfl) rfl ?_
      clear hx
      refine qz T_ok 1 [0, 3, 13] 0 (E2 := [(0, [], vs a0), (3, [], vi x2), (13, [], vb (decide (x4 = 10)))]) (h1 := []) (by kernel_rfl) (by kernel_rfl) (by kernel_rfl) (by kernel_rfl) (by kernel_rfl) ?_
      refine qi (t := decide (x4 = 10)) (by kernel_rfl) (fun c => ?_) (fun c => ?_)
      · rw [if_pos (of_decide_eq_true c)] at H
        clear c
        refine qs ?_
        refine qr T_ok [2] (E2 := [(2, [], vb false)]) (by kernel_rfl) ?_
        refine qt ?_
        obtain rfl := Option.some.inj H
        exact ⟨vb false, by kernel_rfl, rfl⟩
      · rw [if_neg (of_decide_eq_false c)] at H
        clear c
        refine qw [0, 3] rfl ?_
        refine qk ?_
        refine qr T_ok [0, 3] (E2 := [(0, [], vs a0), (3, [], vi (w64 (x2 + 1)))]) (by kernel_rfl) ?_
        exact ⟨_, Nat.lt_succ_self _, w64 (x2 + 1), rfl, rfl, H⟩
    · rw [if_neg (of_decide_eq_false c)] at H
      clear c
      refine qw [0] rfl ?_
      refine qx ?_
      refine qs ?_
      refine qr T_ok [2] (E2 := [(2, [], vb (decide ((a0.size : Int) ≤ 200)))]) (by kernel_rfl) ?_
      refine qt ?_
      obtain rfl := Option.some.inj H
      exact ⟨vb (decide ((a0.size : Int) ≤ 200)), by kernel_rfl, rfl⟩
/-! ### quitclaim/quitclaimref11.Lines: function 52 -/
def quitclaimref11_Lines.l0 (a0 : List ByteArray) : Nat → Int → Option Bool
  | 0, _ => none
  | k + 1, x3 => (if x3 < (a0.length : Int) then ((ix a0 x3).bind fun x6 => ((quitclaimref11_Line.f k x6).bind fun x7 => (if (!x7) = true then some false else quitclaimref11_Lines.l0 a0 k (w64 (x3 + 1))))) else some (decide ((a0.length : Int) ≤ 1000)))
def quitclaimref11_Lines.f (k : Nat) (a0 : List ByteArray) : Option Bool := quitclaimref11_Lines.l0 a0 k 0
theorem quitclaimref11_Lines.ok (k : Nat) (a0 : List ByteArray) (r : Bool) (H : quitclaimref11_Lines.f k a0 = some r) : PF Tryd.prog 52 [.p (.sl 1 ByteArray eS a0)] (vb r) := by
  refine PF_mk T_ok Tryd.func52 rfl (by kernel_rfl) (by kernel_rfl) ?_
  unfold quitclaimref11_Lines.f at H
  refine qs ?_
  refine qr T_ok [0] (E2 := [(0, [], .p (.sl 1 ByteArray eS a0))]) (by kernel_rfl) ?_
  refine qs ?_
  refine qs ?_
  refine qr T_ok [0, 3] (E2 := [(0, [], .p (.sl 1 ByteArray eS a0)), (3, [], vi 0)]) (by kernel_rfl) ?_
  refine qb ?_
  refine qp (fun k E h => ∃ x3 : Int, E = [(0, [], .p (.sl 1 ByteArray eS a0)), (3, [], vi x3)] ∧ h = [] ∧ quitclaimref11_Lines.l0 a0 k x3 = some r) k ⟨0, rfl, rfl, H⟩ ?_
  clear H
  rintro k E h ⟨x3, rfl, rfl, H⟩
  cases k with
  | zero => exact nomatch (show none = some r from H)
  | succ k =>
    rw [quitclaimref11_Lines.l0] at H
    refine qs ?_
    refine qs ?_
    refine qr T_ok [0, 3, 7] (E2 := [(0, [], .p (.sl 1 ByteArray eS a0)), (3, [], vi x3), (7, [], vb (decide (x3 < (a0.length : Int))))]) (by kernel_rfl) ?_
    refine qi (t := decide (x3 < (a0.length : Int))) (by kernel_rfl) (fun c => ?_) (fun c => ?_)
    · rw [if_pos (of_decide_eq_true c)] at H
      clear c
      refine qw [0, 3] rfl ?_
      refine qk ?_
      refine qs ?_
      refine qb ?_
      refine qs ?_
      refine qg ?_
      refine qm T_ok 2 (k := 2) (by kernel_rfl) (by kernel_rfl) (by kernel_rfl) ?_
      obtain ⟨x6, hx, H⟩ := bd H
      refine qy rfl (zi T_ok .i64 (enc := eS) (l := a0) (e := 9) (n := 1) (ei := ti9) (sa := (.p (.sl 1 ByteArray eS a0))) hx rfl (by kernel_rfl) (by kernel_rfl) rfl (by kernel_rfl) (by kernel_rfl) (by kernel_rfl)) rfl (by kernel_rfl) rfl ?_
      clear hx
      refine qm T_ok 1 (k := 4) (by kernel_rfl) (by kernel_rfl) (by kernel_rfl) ?_
      obtain ⟨x7, hx, H⟩ := bd H
      refine qy rfl (zc (T := T) (quitclaimref11_Line.ok k x6 _ hx) Tryd.func84 rfl rfl (caps := []) (by kernel_rfl) (by kernel_rfl) (by kernel_rfl) (by kernel_rfl) (by kernel_rfl) (by kernel_rfl)) rfl (by kernel_rfl) rfl ?_
      clear hx
      refine qz T_ok 1 [0, 3, 15] 0 (E2 := [(0, [], .p (.sl 1 ByteArray eS a0)), (3, [], vi x3), (15, [], vb (!x7))]) (h1 := []) (by kernel_rfl) (by kernel_rfl) (by kernel_rfl) (by kernel_rfl) (by kernel_rfl) ?_
      refine qi (t := !x7) (by kernel_rfl) (fun c => ?_) (fun c => ?_)
      · rw [if_pos c] at H
        clear c
        refine qs ?_
        refine qr T_ok [2] (E2 := [(2, [], vb false)]) (by kernel_rfl) ?_
        refine qt ?_
        obtain rfl := Option.some.inj H
        exact ⟨vb false, by kernel_rfl, rfl⟩
      · rw [if_neg (by rw [c]; exact Bool.false_ne_true)] at H
        clear c
        refine qw [0, 3] rfl ?_
        refine qk ?_
        refine qr T_ok [0, 3] (E2 := [(0, [], .p (.sl 1 ByteArray eS a0)), (3, [], vi (w64 (x3 + 1)))]) (by kernel_rfl) ?_
        exact ⟨_, Nat.lt_succ_self _, w64 (x3 + 1), rfl, rfl, H⟩
    · rw [if_neg (of_decide_eq_false c)] at H
      clear c
      refine qw [0] rfl ?_
      refine qx ?_
      refine qs ?_
      refine qr T_ok [2] (E2 := [(2, [], vb (decide ((a0.length : Int) ≤ 1000)))]) (by kernel_rfl) ?_
      refine qt ?_
      obtain rfl := Option.some.inj H
      exact ⟨vb (decide ((a0.length : Int) ≤ 1000)), by kernel_rfl, rfl⟩
/-! ### quitclaim/quitclaimref11.Split: function 26 -/
def quitclaimref11_Split.l0 (a0 : ByteArray) : Nat → (List ByteArray) → ByteArray → Int → Option ((List ByteArray) × Bool)
  | 0, _, _, _ => none
  | k + 1, x6, x7, x8 => (if x8 < (a0.size : Int) then ((bx a0 x8).bind fun x14 => (if x14 = 10 then ((app 16 x6 [x7]).bind fun x15 => quitclaimref11_Split.l0 a0 k x15 ⟨#[]⟩ (w64 (x8 + 1))) else ((sub a0 x8 (w64 (x8 + 1))).bind fun x16 => ((cat x7 x16).bind fun x17 => quitclaimref11_Split.l0 a0 k x6 x17 (w64 (x8 + 1)))))) else ((gd (decide (x7 = ⟨#[]⟩)) (quitclaimref11_Lines.f k x6)).bind fun x18 => some (x6, (decide (x7 = ⟨#[]⟩) && x18))))
def quitclaimref11_Split.f (k : Nat) (a0 : ByteArray) : Option ((List ByteArray) × Bool) := quitclaimref11_Split.l0 a0 k [] ⟨#[]⟩ 0
theorem quitclaimref11_Split.ok (k : Nat) (a0 : ByteArray) (r : (List ByteArray) × Bool) (H : quitclaimref11_Split.f k a0 = some r) : PF Tryd.prog 26 [vs a0] (.tup [.p (.sl 1 ByteArray eS r.1), vb r.2]) := by
  refine PF_mk T_ok Tryd.func26 rfl (by kernel_rfl) (by kernel_rfl) ?_
  unfold quitclaimref11_Split.f at H
  refine qs ?_
  refine qr T_ok [0] (E2 := [(0, [], vs a0)]) (by kernel_rfl) ?_
  refine qs ?_
  refine qg ?_
  refine xl T_ok (e := 9) (n := 1) (j := 0) eS ([]) rfl rfl rfl rfl (by kernel_rfl) (by kernel_rfl) rfl ?_
  refine qz T_ok 1 [0, 4] 1 (E2 := [(0, [], vs a0), (4, [], .own 9 1 ByteArray eS [] 0)]) (h1 := [.tail]) (by kernel_rfl) (by kernel_rfl) (by kernel_rfl) (by kernel_rfl) (by kernel_rfl) ?_
  refine qs ?_
  refine qr T_ok [0, 4, 5] (E2 := [(0, [], vs a0), (4, [], .own 9 1 ByteArray eS [] 0), (5, [], vs ⟨#[]⟩)]) (by kernel_rfl) ?_
  refine qs ?_
  refine qs ?_
  refine qr T_ok [0, 4, 5, 6] (E2 := [(0, [], vs a0), (4, [], .own 9 1 ByteArray eS [] 0), (5, [], vs ⟨#[]⟩), (6, [], vi 0)]) (by kernel_rfl) ?_
  refine qb ?_
  refine qp (fun k E h => ∃ x6 : List ByteArray, ∃ x7 : ByteArray, ∃ x8 : Int, E = [(0, [], vs a0), (4, [], .own 9 1 ByteArray eS x6 0), (5, [], vs x7), (6, [], vi x8)] ∧ h = [.tail] ∧ quitclaimref11_Split.l0 a0 k x6 x7 x8 = some r) k ⟨[], ⟨#[]⟩, 0, rfl, rfl, H⟩ ?_
  clear H
  rintro k E h ⟨x6, x7, x8, rfl, rfl, H⟩
  cases k with
  | zero => exact nomatch (show none = some r from H)
  | succ k =>
    rw [quitclaimref11_Split.l0] at H
    refine qs ?_
    refine qs ?_
    refine qr T_ok [0, 4, 5, 6, 11] (E2 := [(0, [], vs a0), (4, [], .own 9 1 ByteArray eS x6 0), (5, [], vs x7), (6, [], vi x8), (11, [], vb (decide (x8 < (a0.size : Int))))]) (by kernel_rfl) ?_
    refine qi (t := decide (x8 < (a0.size : Int))) (by kernel_rfl) (fun c => ?_) (fun c => ?_)
    · rw [if_pos (of_decide_eq_true c)] at H
      clear c
      refine qw [0, 4, 5, 6] rfl ?_
      refine qk ?_
      refine qs ?_
      refine qb ?_
      refine qs ?_
      refine qg ?_
      refine qm T_ok 2 (k := 2) (by kernel_rfl) (by kernel_rfl) (by kernel_rfl) ?_
      obtain ⟨x14, hx, H⟩ := bd H
      refine qy rfl (zb T_ok .i64 hx rfl (by kernel_rfl) (by kernel_rfl) (by kernel_rfl)) rfl (by kernel_rfl) rfl ?_
      clear hx
      refine qz T_ok 1 [0, 4, 5, 6, 17] 1 (E2 := [(0, [], vs a0), (4, [], .own 9 1 ByteArray eS x6 0), (5, [], vs x7), (6, [], vi x8), (17, [], vb (decide (x14 = 10)))]) (h1 := [.tail]) (by kernel_rfl) (by kernel_rfl) (by kernel_rfl) (by kernel_rfl) (by kernel_rfl) ?_
      refine qi (t := decide (x14 = 10)) (by kernel_rfl) (fun c => ?_) (fun c => ?_)
      · rw [if_pos (of_decide_eq_true c)] at H
        clear c
        refine qs ?_
        refine qg ?_
        refine qm T_ok 2 (k := 2) (by kernel_rfl) (by kernel_rfl) (by kernel_rfl) ?_
        refine qy rfl (ze T_ok (e := 9) (n := 1) eS ([x7] : List ByteArray) rfl (by kernel_rfl)) rfl (by kernel_rfl) rfl ?_
        obtain ⟨x15, hx, H⟩ := bd H
        refine xp T_ok (enc := eS) (l := x6) (m := [x7]) (e := 9) (e' := 9) (j := 0) (ei := ti9) (sy := (.p (.sl 1 ByteArray eS [x7]))) hx rfl rfl rfl rfl rfl rfl rfl (by kernel_rfl) (by kernel_rfl) (by kernel_rfl) (by kernel_rfl) (by kernel_rfl) (by kernel_rfl) (by kernel_rfl) (by kernel_rfl) (by kernel_rfl) rfl ?_
        clear hx
        refine qz T_ok 1 [0, 4, 6] 1 (E2 := [(0, [], vs a0), (4, [], .own 9 1 ByteArray eS x15 0), (6, [], vi x8)]) (h1 := [.tail]) (by kernel_rfl) (by kernel_rfl) (by kernel_rfl) (by kernel_rfl) (by kernel_rfl) ?_
        refine qr T_ok [0, 4, 5, 6] (E2 := [(0, [], vs a0), (4, [], .own 9 1 ByteArray eS x15 0), (5, [], vs ⟨#[]⟩), (6, [], vi x8)]) (by kernel_rfl) ?_
        refine qr T_ok [0, 4, 5, 6] (E2 := [(0, [], vs a0), (4, [], .own 9 1 ByteArray eS x15 0), (5, [], vs ⟨#[]⟩), (6, [], vi (w64 (x8 + 1)))]) (by kernel_rfl) ?_
        exact ⟨_, Nat.lt_succ_self _, x15, ⟨#[]⟩, w64 (x8 + 1), rfl, rfl, H⟩
      · rw [if_neg (of_decide_eq_false c)] at H
        clear c
        refine qg ?_
        refine qm T_ok 5 (k := 5) (by kernel_rfl) (by kernel_rfl) (by kernel_rfl) ?_
        obtain ⟨x16, hx, H⟩ := bd H
        refine qy rfl (zu T_ok hx rfl (by kernel_rfl) (by kernel_rfl) ⟨.i64, by kernel_rfl⟩ ⟨.i64, by kernel_rfl⟩) rfl (by kernel_rfl) rfl ?_
        clear hx
        obtain ⟨x17, hx, H⟩ := bd H
        refine qy rfl (za hx rfl (by kernel_rfl) (by kernel_rfl)) rfl (by kernel_rfl) rfl ?_
        clear hx
        refine qz T_ok 1 [0, 4, 5, 6] 1 (E2 := [(0, [], vs a0), (4, [], .own 9 1 ByteArray eS x6 0), (5, [], vs x17), (6, [], vi x8)]) (h1 := [.tail]) (by kernel_rfl) (by kernel_rfl) (by kernel_rfl) (by kernel_rfl) (by kernel_rfl) ?_
        refine qr T_ok [0, 4, 5, 6] (E2 := [(0, [], vs a0), (4, [], .own 9 1 ByteArray eS x6 0), (5, [], vs x17), (6, [], vi (w64 (x8 + 1)))]) (by kernel_rfl) ?_
        exact ⟨_, Nat.lt_succ_self _, x6, x17, w64 (x8 + 1), rfl, rfl, H⟩
    · rw [if_neg (of_decide_eq_false c)] at H
      clear c
      refine qw [4, 5] rfl ?_
      refine qx ?_
      refine qs ?_
      refine qg ?_
      refine qm T_ok 5 (k := 5) (by kernel_rfl) (by kernel_rfl) (by kernel_rfl) ?_
      obtain ⟨x18, hx, H⟩ := bd H
      refine qyg rfl (tg := []) (Yld.under (u := 32) (b := true) (t := decide (x7 = ⟨#[]⟩)) (by kernel_rfl) (by simp) fun g0_ => (zc (T := T) (quitclaimref11_Lines.ok k x6 _ (gd1 hx g0_)) Tryd.func52 rfl rfl (caps := []) (by kernel_rfl) (by kernel_rfl) (by kernel_rfl) (by kernel_rfl) (by kernel_rfl) (by kernel_rfl))) rfl rfl (by kernel_rfl) (by kernel_rfl) rfl ?_
      clear hx
      refine qz T_ok 3 [2, 3] 1 (E2 := [(2, [], .own 9 1 ByteArray eS x6 0), (3, [], vb (decide (x7 = ⟨#[]⟩) && x18))]) (h1 := [.tail]) (by kernel_rfl) (by kernel_rfl) (by kernel_rfl) (by kernel_rfl) (by kernel_rfl) ?_
      refine qt ?_
      obtain rfl := Option.some.inj H
      exact ⟨.tup [.own 9 1 ByteArray eS x6 0, vb (decide (x7 = ⟨#[]⟩) && x18)], by kernel_rfl, rfl⟩
/-! ### (*strings.Builder).copyCheck: function 85 -/
def strings_Builder_copyCheck.f (a0 : List UInt8) : Option (List UInt8) := some a0
theorem strings_Builder_copyCheck.ok (a0 : List UInt8) (r : List UInt8) (H : strings_Builder_copyCheck.f a0 = some r) : PG Tryd.prog 85 [.ptr 0 0] [.cells 86 [.np 0 0, .bf 5 a0 1], .tail] (.tup []) [.cells 86 [.np 0 0, .bf 5 r 1], .tail] [] := by
  obtain rfl := Option.some.inj H
  exact PG_copyCheck a0 (fun b w h0 h1 h2 => Go.Proofs.Any.Builder_copyCheck_fresh (ρ := Go.Proofs.Tryd.lays165_ren) { Go.Proofs.Tryd.lays165 with } Go.Proofs.Tryd.Builder_Extra_165.toX72 b w h0 h1 h2) (fun b w h0 => Go.Proofs.Any.Builder_copyCheck_used (ρ := Go.Proofs.Tryd.lays165_ren) { Go.Proofs.Tryd.lays165 with } Go.Proofs.Tryd.Builder_Extra_165.toX72 b w h0)

/-! ### (*strings.Builder).WriteString: function 53 -/
def strings_Builder_WriteString.f (a0 : List UInt8) (a1 : ByteArray) : Option ((List UInt8) × Int) := ((strings_Builder_copyCheck.f a0).bind fun x1 => ((bcat x1 a1).bind fun x2 => some (x2, (a1.size : Int))))
theorem strings_Builder_WriteString.ok (a0 : List UInt8) (a1 : ByteArray) (r : (List UInt8) × Int) (H : strings_Builder_WriteString.f a0 a1 = some r) : PG Tryd.prog 53 [.ptr 0 0, vs a1] [.cells 86 [.np 0 0, .bf 5 a0 1], .tail] (.tup [vi r.2, .p (.s .nilIface)]) [.cells 86 [.np 0 0, .bf 5 r.1 1], .tail] [] := by
  refine PG_mk T_ok Tryd.func53 rfl (by kernel_rfl) (by kernel_rfl) fun bs => ?_
  unfold strings_Builder_WriteString.f at H
  refine W_at (h' := [.cells 86 [.np 0 0, .bf 5 a0 1], .tail, .pin 0 (bs 0)]) rfl ?_
  refine qs ?_
  refine qr T_ok [0, 1] (E2 := [(0, [], .ptr 0 0), (1, [], vs a1)]) (by kernel_rfl) ?_
  refine qs ?_
  refine qg ?_
  refine qm T_ok 1 (k := 1) (by kernel_rfl) (by kernel_rfl) (by kernel_rfl) ?_
  obtain ⟨x1, hx, H⟩ := bd H
  refine xg (T := T) (caps := []) [0, 1] (strings_Builder_copyCheck.ok a0 _ hx) Tryd.func85 rfl rfl rfl rfl (by kernel_rfl) (by kernel_rfl) (by kernel_rfl) (by kernel_rfl) (by kernel_rfl) (by kernel_rfl) (by kernel_rfl) rfl rfl ?_
  clear hx
  refine qz T_ok 0 [0, 1] 3 (E2 := [(0, [], .ptr 0 0), (1, [], vs a1)]) (h1 := [.cells 86 [.np 0 0, .bf 5 x1 1], .tail, .pin 0 (bs 0)]) (by kernel_rfl) (by kernel_rfl) (by kernel_rfl) (by kernel_rfl) (by kernel_rfl) ?_
  refine qs ?_
  refine qg ?_
  refine qm T_ok 6 (k := 6) (by kernel_rfl) (by kernel_rfl) (by kernel_rfl) ?_
  obtain ⟨x2, hx, H⟩ := bd H
  refine xpb T_ok (e := 5) (j := 1) (ei := ti5) hx rfl rfl rfl rfl rfl rfl rfl (by kernel_rfl) (by kernel_rfl) rfl (by kernel_rfl) (by kernel_rfl) (by kernel_rfl) (by kernel_rfl) (by kernel_rfl) (by kernel_rfl) ?_
  clear hx
  refine qm T_ok 2 (k := 9) (by kernel_rfl) (by kernel_rfl) (by kernel_rfl) ?_
  refine xs T_ok (u := 86) (b := 0) (off := 1) (vs := [.bf 5 x2 1]) (cs := [.np 0 0, .p (.sl 1 UInt8 eU x1)]) (ti := ti84) rfl rfl rfl rfl (by kernel_rfl) (by kernel_rfl) (by kernel_rfl) (by kernel_rfl) (by kernel_rfl) (by kernel_rfl) rfl ?_
  refine qz T_ok 0 [1] 3 (E2 := [(1, [], vs a1)]) (h1 := [.cells 86 [.np 0 0, .bf 5 x2 1], .tail, .pin 0 (bs 0)]) (by kernel_rfl) (by kernel_rfl) (by kernel_rfl) (by kernel_rfl) (by kernel_rfl) ?_
  refine qs ?_
  refine qr T_ok [4, 5] (E2 := [(4, [], vi (a1.size : Int)), (5, [], .p (.s .nilIface))]) (by kernel_rfl) ?_
  refine qt ?_
  obtain rfl := Option.some.inj H
  exact ⟨.tup [vi (a1.size : Int), .p (.s .nilIface)], by kernel_rfl, .inl rfl, rfl⟩
/-! ### (*strings.Builder).String: function 54 -/
def strings_Builder_String.f (a0 : List UInt8) : Option ByteArray := some ⟨a0.toArray⟩
theorem strings_Builder_String.ok (a0 : List UInt8) (r : ByteArray) (H : strings_Builder_String.f a0 = some r) : PG Tryd.prog 54 [.ptr 0 0] [.cells 86 [.np 0 0, .bf 5 a0 1], .tail] (vs r) [.cells 86 [.np 0 0, .p (.sl 1 UInt8 eU a0)], .tail] [] := by
  obtain rfl := Option.some.inj H
  exact PG_String Go.Proofs.Tryd.lays169 Go.Proofs.Tryd.Builder_Extra_169 a0

/-! ### quitclaim/hunk.Text: function 27 -/
def hunk_Text.l0 (a0 : List ByteArray) : Nat → Int → (List UInt8) → Option ByteArray
  | 0, _, _ => none
  | k + 1, x5, x6 => (if x5 < (a0.length : Int) then ((ix a0 x5).bind fun x11 => ((cat x11 (⟨#[10]⟩ : ByteArray)).bind fun x12 => ((strings_Builder_WriteString.f x6 x12).bind fun x13 => hunk_Text.l0 a0 k (w64 (x5 + 1)) x13.1))) else ((strings_Builder_String.f x6).bind fun x14 => some x14))
def hunk_Text.f (k : Nat) (a0 : List ByteArray) : Option ByteArray := hunk_Text.l0 a0 k 0 []
theorem hunk_Text.ok (k : Nat) (a0 : List ByteArray) (r : ByteArray) (H : hunk_Text.f k a0 = some r) : PF Tryd.prog 27 [.p (.sl 1 ByteArray eS a0)] (vs r) := by
  refine PF_mk T_ok Tryd.func27 rfl (by kernel_rfl) (by kernel_rfl) ?_
  unfold hunk_Text.f at H
  refine qs ?_
  refine qr T_ok [0] (E2 := [(0, [], .p (.sl 1 ByteArray eS a0))]) (by kernel_rfl) ?_
  refine qs ?_
  refine qg ?_
  refine xB T_ok (e := 5) (j := 0) (k := 1) (ti := ti86) rfl rfl rfl rfl (by kernel_rfl) rfl (by kernel_rfl) rfl rfl ?_
  refine qz T_ok 0 [0, 3] 2 (E2 := [(0, [], .p (.sl 1 ByteArray eS a0)), (3, [], .ptr 1 0)]) (h1 := [.tail, .cells 86 [.np 1 0, .bf 5 [] 0]]) (by kernel_rfl) (by kernel_rfl) (by kernel_rfl) (by kernel_rfl) (by kernel_rfl) ?_
  refine qs ?_
  refine qs ?_
  refine qr T_ok [3, 6, 7, 8] (E2 := [(3, [], .ptr 1 0), (6, [], .p (.sl 1 ByteArray eS a0)), (7, [], vi (a0.length : Int)), (8, [], vi 0)]) (by kernel_rfl) ?_
  refine qb ?_
  refine qp (fun k E h => ∃ x5 : Int, ∃ x6 : List UInt8, E = [(3, [], .ptr 1 0), (6, [], .p (.sl 1 ByteArray eS a0)), (7, [], vi (a0.length : Int)), (8, [], vi x5)] ∧ h = [.tail, .cells 86 [.np 1 0, .bf 5 x6 0]] ∧ hunk_Text.l0 a0 k x5 x6 = some r) k ⟨0, [], rfl, rfl, H⟩ ?_
  clear H
  rintro k E h ⟨x5, x6, rfl, rfl, H⟩
  cases k with
  | zero => exact nomatch (show none = some r from H)
  | succ k =>
    rw [hunk_Text.l0] at H
    refine qs ?_
    refine qr T_ok [3, 6, 7, 8, 9] (E2 := [(3, [], .ptr 1 0), (6, [], .p (.sl 1 ByteArray eS a0)), (7, [], vi (a0.length : Int)), (8, [], vi x5), (9, [], vb (decide (x5 < (a0.length : Int))))]) (by kernel_rfl) ?_
    refine qs ?_
    refine qi (t := decide (x5 < (a0.length : Int))) (by kernel_rfl) (fun c => ?_) (fun c => ?_)
    · rw [if_pos (of_decide_eq_true c)] at H
      clear c
      refine qw [3, 6, 7, 8] rfl ?_
      refine qk ?_
      refine qs ?_
      refine qb ?_
      refine qs ?_
      refine qg ?_
      obtain ⟨x11, hx, H⟩ := bd H
      refine qy rfl (zi T_ok .i64 (enc := eS) (l := a0) (e := 9) (n := 1) (ei := ti9) (sa := (.p (.sl 1 ByteArray eS a0))) hx rfl (by kernel_rfl) (by kernel_rfl) rfl (by kernel_rfl) (by kernel_rfl) (by kernel_rfl)) rfl (by kernel_rfl) rfl ?_
      clear hx
      refine qz T_ok 2 [3, 5, 6, 7, 8] 2 (E2 := [(3, [], .ptr 1 0), (5, [], vs x11), (6, [], .p (.sl 1 ByteArray eS a0)), (7, [], vi (a0.length : Int)), (8, [], vi x5)]) (h1 := [.tail, .cells 86 [.np 1 0, .bf 5 x6 0]]) (by kernel_rfl) (by kernel_rfl) (by kernel_rfl) (by kernel_rfl) (by kernel_rfl) ?_
      refine qg ?_
      refine qm T_ok 1 (k := 1) (by kernel_rfl) (by kernel_rfl) (by kernel_rfl) ?_
      obtain ⟨x12, hx, H⟩ := bd H
      refine qy rfl (za hx rfl (by kernel_rfl) (by kernel_rfl)) rfl (by kernel_rfl) rfl ?_
      clear hx
      obtain ⟨x13, hx, H⟩ := bd H
      refine xg (T := T) (caps := []) [1, 0] (strings_Builder_WriteString.ok x6 x12 _ hx) Tryd.func53 rfl rfl rfl rfl (by kernel_rfl) (by kernel_rfl) (by kernel_rfl) (by kernel_rfl) (by kernel_rfl) (by kernel_rfl) (by kernel_rfl) rfl rfl ?_
      clear hx
      refine qz T_ok 0 [3, 6, 7, 8] 2 (E2 := [(3, [], .ptr 1 0), (6, [], .p (.sl 1 ByteArray eS a0)), (7, [], vi (a0.length : Int)), (8, [], vi x5)]) (h1 := [.tail, .cells 86 [.np 1 0, .bf 5 x13.1 0]]) (by kernel_rfl) (by kernel_rfl) (by kernel_rfl) (by kernel_rfl) (by kernel_rfl) ?_
      refine qr T_ok [3, 6, 7, 8] (E2 := [(3, [], .ptr 1 0), (6, [], .p (.sl 1 ByteArray eS a0)), (7, [], vi (a0.length : Int)), (8, [], vi (w64 (x5 + 1)))]) (by kernel_rfl) ?_
      exact ⟨_, Nat.lt_succ_self _, w64 (x5 + 1), x13.1, rfl, rfl, H⟩
    · rw [if_neg (of_decide_eq_false c)] at H
      clear c
      refine qw [3] rfl ?_
      refine qx ?_
      refine qs ?_
      refine qg ?_
      obtain ⟨x14, hx, H⟩ := bd H
      refine xg (T := T) (caps := []) [1, 0] (strings_Builder_String.ok x6 _ hx) Tryd.func54 rfl rfl rfl rfl (by kernel_rfl) (by kernel_rfl) (by kernel_rfl) (by kernel_rfl) (by kernel_rfl) (by kernel_rfl) (by kernel_rfl) rfl rfl ?_
      clear hx
      refine qz T_ok 1 [2] 0 (E2 := [(2, [], vs x14)]) (h1 := []) (by kernel_rfl) (by kernel_rfl) (by kernel_rfl) (by kernel_rfl) (by kernel_rfl) ?_
      refine qt ?_
      obtain rfl := Option.some.inj H
      exact ⟨vs x14, by kernel_rfl, rfl⟩
/-! ### quitclaim/quitclaimref11.Text: function 28 -/
def quitclaimref11_Text.l0 (a0 : List ByteArray) : Nat → ByteArray → Int → Option ByteArray
  | 0, _, _ => none
  | k + 1, x4, x5 => (if x5 < (a0.length : Int) then ((ix a0 x5).bind fun x9 => ((cat x9 (⟨#[10]⟩ : ByteArray)).bind fun x10 => ((cat x4 x10).bind fun x11 => quitclaimref11_Text.l0 a0 k x11 (w64 (x5 + 1))))) else some x4)
def quitclaimref11_Text.f (k : Nat) (a0 : List ByteArray) : Option ByteArray := quitclaimref11_Text.l0 a0 k ⟨#[]⟩ 0
theorem quitclaimref11_Text.ok (k : Nat) (a0 : List ByteArray) (r : ByteArray) (H : quitclaimref11_Text.f k a0 = some r) : PF Tryd.prog 28 [.p (.sl 1 ByteArray eS a0)] (vs r) := by
  refine PF_mk T_ok Tryd.func28 rfl (by kernel_rfl) (by kernel_rfl) ?_
  unfold quitclaimref11_Text.f at H
  refine qs ?_
  refine qr T_ok [0] (E2 := [(0, [], .p (.sl 1 ByteArray eS a0))]) (by kernel_rfl) ?_
  refine qs ?_
  refine qr T_ok [0, 3] (E2 := [(0, [], .p (.sl 1 ByteArray eS a0)), (3, [], vs ⟨#[]⟩)]) (by kernel_rfl) ?_
  refine qs ?_
  refine qs ?_
  refine qr T_ok [0, 3, 4] (E2 := [(0, [], .p (.sl 1 ByteArray eS a0)), (3, [], vs ⟨#[]⟩), (4, [], vi 0)]) (by kernel_rfl) ?_
  refine qb ?_
  refine qp (fun k E h => ∃ x4 : ByteArray, ∃ x5 : Int, E = [(0, [], .p (.sl 1 ByteArray eS a0)), (3, [], vs x4), (4, [], vi x5)] ∧ h = [] ∧ quitclaimref11_Text.l0 a0 k x4 x5 = some r) k ⟨⟨#[]⟩, 0, rfl, rfl, H⟩ ?_
  clear H
  rintro k E h ⟨x4, x5, rfl, rfl, H⟩
  cases k with
  | zero => exact nomatch (show none = some r from H)
  | succ k =>
    rw [quitclaimref11_Text.l0] at H
    refine qs ?_
    refine qs ?_
    refine qr T_ok [0, 3, 4, 8] (E2 := [(0, [], .p (.sl 1 ByteArray eS a0)), (3, [], vs x4), (4, [], vi x5), (8, [], vb (decide (x5 < (a0.length : Int))))]) (by kernel_rfl) ?_
    refine qi (t := decide (x5 < (a0.length : Int))) (by kernel_rfl) (fun c => ?_) (fun c => ?_)
    · rw [if_pos (of_decide_eq_true c)] at H
      clear c
      refine qw [0, 3, 4] rfl ?_
      refine qk ?_
      refine qs ?_
      refine qb ?_
      refine qg ?_
      refine qm T_ok 3 (k := 3) (by kernel_rfl) (by kernel_rfl) (by kernel_rfl) ?_
      obtain ⟨x9, hx, H⟩ := bd H
      refine qy rfl (zi T_ok .i64 (enc := eS) (l := a0) (e := 9) (n := 1) (ei := ti9) (sa := (.p (.sl 1 ByteArray eS a0))) hx rfl (by kernel_rfl) (by kernel_rfl) rfl (by kernel_rfl) (by kernel_rfl) (by kernel_rfl)) rfl (by kernel_rfl) rfl ?_
      clear hx
      refine qm T_ok 1 (k := 5) (by kernel_rfl) (by kernel_rfl) (by kernel_rfl) ?_
      obtain ⟨x10, hx, H⟩ := bd H
      refine qy rfl (za hx rfl (by kernel_rfl) (by kernel_rfl)) rfl (by kernel_rfl) rfl ?_
      clear hx
      obtain ⟨x11, hx, H⟩ := bd H
      refine qy rfl (za hx rfl (by kernel_rfl) (by kernel_rfl)) rfl (by kernel_rfl) rfl ?_
      clear hx
      refine qz T_ok 1 [0, 3, 4] 0 (E2 := [(0, [], .p (.sl 1 ByteArray eS a0)), (3, [], vs x11), (4, [], vi x5)]) (h1 := []) (by kernel_rfl) (by kernel_rfl) (by kernel_rfl) (by kernel_rfl) (by kernel_rfl) ?_
      refine qr T_ok [0, 3, 4] (E2 := [(0, [], .p (.sl 1 ByteArray eS a0)), (3, [], vs x11), (4, [], vi (w64 (x5 + 1)))]) (by kernel_rfl) ?_
      exact ⟨_, Nat.lt_succ_self _, x11, w64 (x5 + 1), rfl, rfl, H⟩
    · rw [if_neg (of_decide_eq_false c)] at H
      clear c
      refine qw [3] rfl ?_
      refine qx ?_
      refine qs ?_
      refine qr T_ok [2] (E2 := [(2, [], vs x4)]) (by kernel_rfl) ?_
      refine qt ?_
      obtain rfl := Option.some.inj H
      exact ⟨vs x4, by kernel_rfl, rfl⟩
/-! ### quitclaim/quitclaimref05.Same: function 21 -/
def quitclaimref05_Same.l0 (a0 : List ByteArray) (a1 : List ByteArray) : Nat → Int → Option Bool
  | 0, _ => none
  | k + 1, x3 => (if x3 < (a0.length : Int) then ((ix a0 x3).bind fun x6 => ((ix a1 x3).bind fun x7 => (if (!decide (x6 = x7)) = true then some false else quitclaimref05_Same.l0 a0 a1 k (w64 (x3 + 1))))) else some true)
def quitclaimref05_Same.f (k : Nat) (a0 : List ByteArray) (a1 : List ByteArray) : Option Bool := (if (!decide ((a0.length : Int) = (a1.length : Int))) = true then some false else quitclaimref05_Same.l0 a0 a1 k 0)
theorem quitclaimref05_Same.ok (k : Nat) (a0 : List ByteArray) (a1 : List ByteArray) (r : Bool) (H : quitclaimref05_Same.f k a0 a1 = some r) : PF Tryd.prog 21 [.p (.sl 1 ByteArray eS a0), .p (.sl 1 ByteArray eS a1)] (vb r) := by
  refine PF_mk T_ok Tryd.func21 rfl (by kernel_rfl) (by kernel_rfl) ?_
  unfold quitclaimref05_Same.f at H
  refine qs ?_
  refine qr T_ok [0, 1] (E2 := [(0, [], .p (.sl 1 ByteArray eS a0)), (1, [], .p (.sl 1 ByteArray eS a1))]) (by kernel_rfl) ?_
  refine qs ?_
  refine qs ?_
  refine qr T_ok [0, 1, 10] (E2 := [(0, [], .p (.sl 1 ByteArray eS a0)), (1, [], .p (.sl 1 ByteArray eS a1)), (10, [], vb (!decide ((a0.length : Int) = (a1.length : Int))))]) (by kernel_rfl) ?_
  refine qi (t := !decide ((a0.length : Int) = (a1.length : Int))) (by kernel_rfl) (fun c => ?_) (fun c => ?_)
  · rw [if_pos c] at H
    clear c
    refine qs ?_
    refine qr T_ok [4] (E2 := [(4, [], vb false)]) (by kernel_rfl) ?_
    refine qt ?_
    obtain rfl := Option.some.inj H
    exact ⟨vb false, by kernel_rfl, rfl⟩
  · rw [if_neg (by rw [c]; exact Bool.false_ne_true)] at H
    clear c
    refine qw [0, 1] rfl ?_
    refine qk ?_
    refine qs ?_
    refine qs ?_
    refine qr T_ok [0, 1, 5] (E2 := [(0, [], .p (.sl 1 ByteArray eS a0)), (1, [], .p (.sl 1 ByteArray eS a1)), (5, [], vi 0)]) (by kernel_rfl) ?_
    refine qb ?_
    refine qp (fun k E h => ∃ x3 : Int, E = [(0, [], .p (.sl 1 ByteArray eS a0)), (1, [], .p (.sl 1 ByteArray eS a1)), (5, [], vi x3)] ∧ h = [] ∧ quitclaimref05_Same.l0 a0 a1 k x3 = some r) k ⟨0, rfl, rfl, H⟩ ?_
    clear H
    rintro k E h ⟨x3, rfl, rfl, H⟩
    cases k with
    | zero => exact nomatch (show none = some r from H)
    | succ k =>
      rw [quitclaimref05_Same.l0] at H
      refine qs ?_
      refine qs ?_
      refine qr T_ok [0, 1, 5, 14] (E2 := [(0, [], .p (.sl 1 ByteArray eS a0)), (1, [], .p (.sl 1 ByteArray eS a1)), (5, [], vi x3), (14, [], vb (decide (x3 < (a0.length : Int))))]) (by kernel_rfl) ?_
      refine qi (t := decide (x3 < (a0.length : Int))) (by kernel_rfl) (fun c => ?_) (fun c => ?_)
      · rw [if_pos (of_decide_eq_true c)] at H
        clear c
        refine qw [0, 1, 5] rfl ?_
        refine qk ?_
        refine qs ?_
        refine qb ?_
        refine qs ?_
        refine qd (by kernel_rfl) 9 (by kernel_rfl) (by kernel_rfl) (by kernel_rfl) (by kernel_rfl) (by kernel_rfl) ?_
        refine dm T_ok 2 (k := 2) (by kernel_rfl) (by kernel_rfl) ?_
        obtain ⟨x6, hx, H⟩ := bd H
        refine dy rfl (zi T_ok .i64 (enc := eS) (l := a0) (e := 9) (n := 1) (ei := ti9) (sa := (.p (.sl 1 ByteArray eS a0))) hx rfl (by kernel_rfl) (by kernel_rfl) rfl (by kernel_rfl) (by kernel_rfl) (by kernel_rfl)) rfl (by kernel_rfl) rfl ?_
        clear hx
        refine dm T_ok 3 (k := 6) (by kernel_rfl) (by kernel_rfl) ?_
        obtain ⟨x7, hx, H⟩ := bd H
        refine dy rfl (zi T_ok .i64 (enc := eS) (l := a1) (e := 9) (n := 1) (ei := ti9) (sa := (.p (.sl 1 ByteArray eS a1))) hx rfl (by kernel_rfl) (by kernel_rfl) rfl (by kernel_rfl) (by kernel_rfl) (by kernel_rfl)) rfl (by kernel_rfl) rfl ?_
        clear hx
        refine dm T_ok 2 (k := 9) (by kernel_rfl) (by kernel_rfl) ?_
        refine dn ?_
        refine qz T_ok 0 [0, 1, 5, 25] 0 (E2 := [(0, [], .p (.sl 1 ByteArray eS a0)), (1, [], .p (.sl 1 ByteArray eS a1)), (5, [], vi x3), (25, [], vb (!decide (x6 = x7)))]) (h1 := []) (by kernel_rfl) (by kernel_rfl) (by kernel_rfl) (by kernel_rfl) (by kernel_rfl) ?_
        refine qi (t := !decide (x6 = x7)) (by kernel_rfl) (fun c => ?_) (fun c => ?_)
        · rw [if_pos c] at H
          clear c
          refine qs ?_
          refine qr T_ok [4] (E2 := [(4, [], vb false)]) (by kernel_rfl) ?_
          refine qt ?_
          obtain rfl := Option.some.inj H
          exact ⟨vb false, by kernel_rfl, rfl⟩
        · rw [if_neg (by rw [c]; exact Bool.false_ne_true)] at H
          clear c
          refine qw [0, 1, 5] rfl ?_
          refine qk ?_
          refine qr T_ok [0, 1, 5] (E2 := [(0, [], .p (.sl 1 ByteArray eS a0)), (1, [], .p (.sl 1 ByteArray eS a1)), (5, [], vi (w64 (x3 + 1)))]) (by kernel_rfl) ?_
          exact ⟨_, Nat.lt_succ_self _, w64 (x3 + 1), rfl, rfl, H⟩
      · rw [if_neg (of_decide_eq_false c)] at H
        clear c
        refine qw [] rfl ?_
        refine qx ?_
        refine qs ?_
        refine qr T_ok [4] (E2 := [(4, [], vb true)]) (by kernel_rfl) ?_
        refine qt ?_
        obtain rfl := Option.some.inj H
        exact ⟨vb true, by kernel_rfl, rfl⟩
/-! ### quitclaim/quitclaimlaw11.HunkTexts: function 5 -/
def quitclaimlaw11_HunkTexts.f (k : Nat) (a0 : List ByteArray) (a1 : ByteArray) : Option Bool := ((quitclaimlaw11_long.f k [a0]).bind fun x1 => (if (x1 || decide ((a1.size : Int) > 600)) = true then ((quitclaimlaw11_awake.f k).bind fun x2 => some x2) else ((hunk_Split.f k a1).bind fun x3 => ((quitclaimref11_Split.f k a1).bind fun x4 => ((hunk_Text.f k a0).bind fun x5 => ((quitclaimref11_Text.f k a0).bind fun x6 => (if (!decide (x5 = x6) || !(decide (x3.2 = 0) == x4.2)) = true then some false else (if (!x4.2) = true then ((gd (decide ((x3.1.length : Int) = 0) && decide (x3.2 = 3)) (quitclaimlaw11_awake.f k)).bind fun x7 => some ((decide ((x3.1.length : Int) = 0) && decide (x3.2 = 3)) && x7)) else ((quitclaimref05_Same.f k x3.1 x4.1).bind fun x8 => ((gd x8 (hunk_Text.f k x3.1)).bind fun x9 => ((gd (x8 && decide (x9 = a1)) (quitclaimlaw11_awake.f k)).bind fun x10 => some ((x8 && decide (x9 = a1)) && x10))))))))))))
theorem quitclaimlaw11_HunkTexts.ok (k : Nat) (a0 : List ByteArray) (a1 : ByteArray) (r : Bool) (H : quitclaimlaw11_HunkTexts.f k a0 a1 = some r) : PF Tryd.prog 5 [.p (.sl 1 ByteArray eS a0), vs a1] (vb r) := by
  refine PF_mk T_ok Tryd.func5 rfl (by kernel_rfl) (by kernel_rfl) ?_
  unfold quitclaimlaw11_HunkTexts.f at H
  refine qs ?_
  refine qr T_ok [0, 1] (E2 := [(0, [], .p (.sl 1 ByteArray eS a0)), (1, [], vs a1)]) (by kernel_rfl) ?_
  refine qs ?_
  refine qs ?_
  refine qg ?_
  refine qm T_ok 1 (k := 1) (by kernel_rfl) (by kernel_rfl) (by kernel_rfl) ?_
  refine qy rfl (ze T_ok (e := 22) (n := 1) (eL 1 eS) ([a0] : List (List ByteArray)) rfl (by kernel_rfl)) rfl (by kernel_rfl) rfl ?_
  obtain ⟨x1, hx, H⟩ := bd H
  refine qy rfl (zc (T := T) (quitclaimlaw11_long.ok k [a0] _ hx) Tryd.func23 rfl rfl (caps := []) (by kernel_rfl) (by kernel_rfl) (by kernel_rfl) (by kernel_rfl) (by kernel_rfl) (by kernel_rfl)) rfl (by kernel_rfl) rfl ?_
  clear hx
  refine qz T_ok 5 [0, 1, 16] 0 (E2 := [(0, [], .p (.sl 1 ByteArray eS a0)), (1, [], vs a1), (16, [], vb (x1 || decide ((a1.size : Int) > 600)))]) (h1 := []) (by kernel_rfl) (by kernel_rfl) (by kernel_rfl) (by kernel_rfl) (by kernel_rfl) ?_
  refine qi (t := (x1 || decide ((a1.size : Int) > 600))) (by kernel_rfl) (fun c => ?_) (fun c => ?_)
  · rw [if_pos c] at H
    clear c
    refine qs ?_
    refine qg ?_
    obtain ⟨x2, hx, H⟩ := bd H
    refine qy rfl (zc (T := T) (quitclaimlaw11_awake.ok k _ hx) Tryd.func24 rfl rfl (caps := []) (by kernel_rfl) (by kernel_rfl) (by kernel_rfl) (by kernel_rfl) (by kernel_rfl) (by kernel_rfl)) rfl (by kernel_rfl) rfl ?_
    clear hx
    refine qz T_ok 1 [4] 0 (E2 := [(4, [], vb x2)]) (h1 := []) (by kernel_rfl) (by kernel_rfl) (by kernel_rfl) (by kernel_rfl) (by kernel_rfl) ?_
    refine qt ?_
    obtain rfl := Option.some.inj H
    exact ⟨vb x2, by kernel_rfl, rfl⟩
  · rw [if_neg (by rw [c]; exact Bool.false_ne_true)] at H
    clear c
    refine qw [0, 1] rfl ?_
    refine qk ?_
    refine qs ?_
    refine qg ?_
    refine qm T_ok 1 (k := 1) (by kernel_rfl) (by kernel_rfl) (by kernel_rfl) ?_
    obtain ⟨x3, hx, H⟩ := bd H
    refine qy rfl (zc (T := T) (hunk_Split.ok k a1 _ hx) Tryd.func25 rfl rfl (caps := []) (by kernel_rfl) (by kernel_rfl) (by kernel_rfl) (by kernel_rfl) (by kernel_rfl) (by kernel_rfl)) rfl (by kernel_rfl) rfl ?_
    clear hx
    refine qz T_ok 5 [0, 1, 5, 6] 0 (E2 := [(0, [], .p (.sl 1 ByteArray eS a0)), (1, [], vs a1), (5, [], .p (.sl 1 ByteArray eS x3.1)), (6, [], vi x3.2)]) (h1 := []) (by kernel_rfl) (by kernel_rfl) (by kernel_rfl) (by kernel_rfl) (by kernel_rfl) ?_
    refine qs ?_
    refine qg ?_
    refine qm T_ok 1 (k := 1) (by kernel_rfl) (by kernel_rfl) (by kernel_rfl) ?_
    obtain ⟨x4, hx, H⟩ := bd H
    refine qy rfl (zc (T := T) (quitclaimref11_Split.ok k a1 _ hx) Tryd.func26 rfl rfl (caps := []) (by kernel_rfl) (by kernel_rfl) (by kernel_rfl) (by kernel_rfl) (by kernel_rfl) (by kernel_rfl)) rfl (by kernel_rfl) rfl ?_
    clear hx
    refine qz T_ok 5 [0, 1, 5, 6, 7, 8] 0 (E2 := [(0, [], .p (.sl 1 ByteArray eS a0)), (1, [], vs a1), (5, [], .p (.sl 1 ByteArray eS x3.1)), (6, [], vi x3.2), (7, [], .p (.sl 1 ByteArray eS x4.1)), (8, [], vb x4.2)]) (h1 := []) (by kernel_rfl) (by kernel_rfl) (by kernel_rfl) (by kernel_rfl) (by kernel_rfl) ?_
    refine qs ?_
    refine qs ?_
    refine qg ?_
    refine qm T_ok 1 (k := 1) (by kernel_rfl) (by kernel_rfl) (by kernel_rfl) ?_
    obtain ⟨x5, hx, H⟩ := bd H
    refine qy rfl (zc (T := T) (hunk_Text.ok k a0 _ hx) Tryd.func27 rfl rfl (caps := []) (by kernel_rfl) (by kernel_rfl) (by kernel_rfl) (by kernel_rfl) (by kernel_rfl) (by kernel_rfl)) rfl (by kernel_rfl) rfl ?_
    clear hx
    refine qm T_ok 1 (k := 3) (by kernel_rfl) (by kernel_rfl) (by kernel_rfl) ?_
    obtain ⟨x6, hx, H⟩ := bd H
    refine qy rfl (zc (T := T) (quitclaimref11_Text.ok k a0 _ hx) Tryd.func28 rfl rfl (caps := []) (by kernel_rfl) (by kernel_rfl) (by kernel_rfl) (by kernel_rfl) (by kernel_rfl) (by kernel_rfl)) rfl (by kernel_rfl) rfl ?_
    clear hx
    refine qz T_ok 7 [1, 5, 6, 7, 8, 38] 0 (E2 := [(1, [], vs a1), (5, [], .p (.sl 1 ByteArray eS x3.1)), (6, [], vi x3.2), (7, [], .p (.sl 1 ByteArray eS x4.1)), (8, [], vb x4.2), (38, [], vb (!decide (x5 = x6) || !(decide (x3.2 = 0) == x4.2)))]) (h1 := []) (by kernel_rfl) (by kernel_rfl) (by kernel_rfl) (by kernel_rfl) (by kernel_rfl) ?_
    refine qi (t := (!decide (x5 = x6) || !(decide (x3.2 = 0) == x4.2))) (by kernel_rfl) (fun c => ?_) (fun c => ?_)
    · rw [if_pos c] at H
      clear c
      refine qs ?_
      refine qr T_ok [4] (E2 := [(4, [], vb false)]) (by kernel_rfl) ?_
      refine qt ?_
      obtain rfl := Option.some.inj H
      exact ⟨vb false, by kernel_rfl, rfl⟩
    · rw [if_neg (by rw [c]; exact Bool.false_ne_true)] at H
      clear c
      refine qw [1, 5, 6, 7, 8] rfl ?_
      refine qk ?_
      refine qs ?_
      refine qs ?_
      refine qr T_ok [1, 5, 6, 7, 40] (E2 := [(1, [], vs a1), (5, [], .p (.sl 1 ByteArray eS x3.1)), (6, [], vi x3.2), (7, [], .p (.sl 1 ByteArray eS x4.1)), (40, [], vb (!x4.2))]) (by kernel_rfl) ?_
      refine qi (t := !x4.2) (by kernel_rfl) (fun c => ?_) (fun c => ?_)
      · rw [if_pos c] at H
        clear c
        refine qs ?_
        refine qg ?_
        refine qm T_ok 8 (k := 8) (by kernel_rfl) (by kernel_rfl) (by kernel_rfl) ?_
        obtain ⟨x7, hx, H⟩ := bd H
        refine qyg rfl (tg := []) (Yld.under (u := 48) (b := true) (t := (decide ((x3.1.length : Int) = 0) && decide (x3.2 = 3))) (by kernel_rfl) (by simp) fun g0_ => (zc (T := T) (quitclaimlaw11_awake.ok k _ (gd1 hx g0_)) Tryd.func24 rfl rfl (caps := []) (by kernel_rfl) (by kernel_rfl) (by kernel_rfl) (by kernel_rfl) (by kernel_rfl) (by kernel_rfl))) rfl rfl (by kernel_rfl) (by kernel_rfl) rfl ?_
        clear hx
        refine qz T_ok 2 [4] 0 (E2 := [(4, [], vb ((decide ((x3.1.length : Int) = 0) && decide (x3.2 = 3)) && x7))]) (h1 := []) (by kernel_rfl) (by kernel_rfl) (by kernel_rfl) (by kernel_rfl) (by kernel_rfl) ?_
        refine qt ?_
        obtain rfl := Option.some.inj H
        exact ⟨vb ((decide ((x3.1.length : Int) = 0) && decide (x3.2 = 3)) && x7), by kernel_rfl, rfl⟩
      · rw [if_neg (by rw [c]; exact Bool.false_ne_true)] at H
        clear c
        refine qw [1, 5, 7] rfl ?_
        refine qk ?_
        refine qs ?_
        refine qg ?_
        refine qm T_ok 2 (k := 2) (by kernel_rfl) (by kernel_rfl) (by kernel_rfl) ?_
        obtain ⟨x8, hx, H⟩ := bd H
        refine qy rfl (zc (T := T) (quitclaimref05_Same.ok k x3.1 x4.1 _ hx) Tryd.func21 rfl rfl (caps := []) (by kernel_rfl) (by kernel_rfl) (by kernel_rfl) (by kernel_rfl) (by kernel_rfl) (by kernel_rfl)) rfl (by kernel_rfl) rfl ?_
        clear hx
        refine qm T_ok 2 (k := 5) (by kernel_rfl) (by kernel_rfl) (by kernel_rfl) ?_
        obtain ⟨x9, hx, H⟩ := bd H
        refine qyg rfl (tg := []) (Yld.under (u := 54) (b := true) (t := x8) (by kernel_rfl) (by simp) fun g0_ => (zc (T := T) (hunk_Text.ok k x3.1 _ (gd1 hx g0_)) Tryd.func27 rfl rfl (caps := []) (by kernel_rfl) (by kernel_rfl) (by kernel_rfl) (by kernel_rfl) (by kernel_rfl) (by kernel_rfl))) rfl rfl (by kernel_rfl) (by kernel_rfl) rfl ?_
        clear hx
        refine qm T_ok 4 (k := 10) (by kernel_rfl) (by kernel_rfl) (by kernel_rfl) ?_
        obtain ⟨x10, hx, H⟩ := bd H
        refine qyg rfl (tg := []) (Yld.under (u := 60) (b := true) (t := (x8 && decide (x9 = a1))) (by kernel_rfl) (by simp) fun g0_ => (zc (T := T) (quitclaimlaw11_awake.ok k _ (gd1 hx g0_)) Tryd.func24 rfl rfl (caps := []) (by kernel_rfl) (by kernel_rfl) (by kernel_rfl) (by kernel_rfl) (by kernel_rfl) (by kernel_rfl))) rfl rfl (by kernel_rfl) (by kernel_rfl) rfl ?_
        clear hx
        refine qz T_ok 2 [4] 0 (E2 := [(4, [], vb ((x8 && decide (x9 = a1)) && x10))]) (h1 := []) (by kernel_rfl) (by kernel_rfl) (by kernel_rfl) (by kernel_rfl) (by kernel_rfl) ?_
        refine qt ?_
        obtain rfl := Option.some.inj H
        exact ⟨vb ((x8 && decide (x9 = a1)) && x10), by kernel_rfl, rfl⟩
/-! ### quitclaim/quitclaimref11.Right: function 118 -/
def quitclaimref11_Right.f (k : Nat) (a0 : S_At_Old_New) : Option Bool := ((gd (decide (a0.f0_At ≥ 0) && decide (a0.f0_At ≤ 1000)) (quitclaimref11_Lines.f k a0.f1_Old)).bind fun x1 => ((gd ((decide (a0.f0_At ≥ 0) && decide (a0.f0_At ≤ 1000)) && x1) (quitclaimref11_Lines.f k a0.f2_New)).bind fun x2 => some ((((decide (a0.f0_At ≥ 0) && decide (a0.f0_At ≤ 1000)) && x1) && x2) && (decide ((a0.f1_Old.length : Int) > 0) || decide ((a0.f2_New.length : Int) > 0)))))
theorem quitclaimref11_Right.ok (k : Nat) (a0 : S_At_Old_New) (r : Bool) (H : quitclaimref11_Right.f k a0 = some r) : PF Tryd.prog 118 [.p (.agg [(.s (.int .i64 a0.f0_At)), (.sl 1 ByteArray eS a0.f1_Old), (.sl 1 ByteArray eS a0.f2_New)])] (vb r) := by
  refine PF_mk T_ok Tryd.func118 rfl (by kernel_rfl) (by kernel_rfl) ?_
  unfold quitclaimref11_Right.f at H
  refine qs ?_
  refine qg ?_
  refine xb (T := T) (j := 0) (cs := [vi a0.f0_At, .p (.sl 1 ByteArray eS a0.f1_Old), .p (.sl 1 ByteArray eS a0.f2_New)]) rfl rfl rfl rfl (by kernel_rfl) (by kernel_rfl) rfl ?_
  refine qz T_ok 1 [1] 1 (E2 := [(1, [], .ptr 0 0)]) (h1 := [.cells 127 [vi a0.f0_At, .p (.sl 1 ByteArray eS a0.f1_Old), .p (.sl 1 ByteArray eS a0.f2_New)]]) (by kernel_rfl) (by kernel_rfl) (by kernel_rfl) (by kernel_rfl) (by kernel_rfl) ?_
  refine qs ?_
  refine qg ?_
  refine qm T_ok 11 (k := 11) (by kernel_rfl) (by kernel_rfl) (by kernel_rfl) ?_
  obtain ⟨x1, hx, H⟩ := bd H
  refine qyg rfl (tg := []) (Yld.under (u := 11) (b := true) (t := (decide (a0.f0_At ≥ 0) && decide (a0.f0_At ≤ 1000))) (by kernel_rfl) (by simp) fun g0_ => (zc (T := T) (quitclaimref11_Lines.ok k a0.f1_Old _ (gd1 hx g0_)) Tryd.func52 rfl rfl (caps := []) (by kernel_rfl) (by kernel_rfl) (by kernel_rfl) (by kernel_rfl) (by kernel_rfl) (by kernel_rfl))) rfl rfl (by kernel_rfl) (by kernel_rfl) rfl ?_
  clear hx
  refine qm T_ok 4 (k := 16) (by kernel_rfl) (by kernel_rfl) (by kernel_rfl) ?_
  obtain ⟨x2, hx, H⟩ := bd H
  refine qyg rfl (tg := []) (Yld.under (u := 16) (b := true) (t := ((decide (a0.f0_At ≥ 0) && decide (a0.f0_At ≤ 1000)) && x1)) (by kernel_rfl) (by simp) fun g0_ => (zc (T := T) (quitclaimref11_Lines.ok k a0.f2_New _ (gd1 hx g0_)) Tryd.func52 rfl rfl (caps := []) (by kernel_rfl) (by kernel_rfl) (by kernel_rfl) (by kernel_rfl) (by kernel_rfl) (by kernel_rfl))) rfl rfl (by kernel_rfl) (by kernel_rfl) rfl ?_
  clear hx
  refine qz T_ok 14 [2] 0 (E2 := [(2, [], vb ((((decide (a0.f0_At ≥ 0) && decide (a0.f0_At ≤ 1000)) && x1) && x2) && (decide ((a0.f1_Old.length : Int) > 0) || decide ((a0.f2_New.length : Int) > 0))))]) (h1 := []) (by kernel_rfl) (by kernel_rfl) (by kernel_rfl) (by kernel_rfl) (by kernel_rfl) ?_
  refine qt ?_
  obtain rfl := Option.some.inj H
  exact ⟨vb ((((decide (a0.f0_At ≥ 0) && decide (a0.f0_At ≤ 1000)) && x1) && x2) && (decide ((a0.f1_Old.length : Int) > 0) || decide ((a0.f2_New.length : Int) > 0))), by kernel_rfl, rfl⟩
/-! ### quitclaim/quitclaimref11.Apply: function 94 -/
def quitclaimref11_Apply.l39 (a0 : List ByteArray) : Nat → (List ByteArray) → Int → Option ((List ByteArray) × Int)
  | 0, _, _ => none
  | k + 1, x308, x309 => (if x309 < (a0.length : Int) then ((ix a0 x309).bind fun x312 => ((app 16 x308 [x312]).bind fun x313 => quitclaimref11_Apply.l39 a0 k x313 (w64 (x309 + 1)))) else (if (x308.length : Int) > 1000 then some ([], 4) else some (x308, 0)))
def quitclaimref11_Apply.l38 (a0 : List ByteArray) (a1 : S_At_Old_New) (x246 : List ByteArray) : Nat → Int → Option ((List ByteArray) × Int)
  | 0, _ => none
  | k + 1, x293 => (if x293 < (a1.f1_Old.length : Int) then ((gd (!(decide (w64 (a1.f0_At + x293) ≥ (a0.length : Int)))) (ix a0 (w64 (a1.f0_At + x293)))).bind fun x304 => ((gd (!(decide (w64 (a1.f0_At + x293) ≥ (a0.length : Int)))) (ix a1.f1_Old x293)).bind fun x305 => (if (decide (w64 (a1.f0_At + x293) ≥ (a0.length : Int)) || !decide (x304 = x305)) = true then some ([], 12) else quitclaimref11_Apply.l38 a0 a1 x246 k (w64 (x293 + 1))))) else quitclaimref11_Apply.l39 a0 k x246 (w64 (a1.f0_At + (a1.f1_Old.length : Int))))
def quitclaimref11_Apply.l35 (a0 : List ByteArray) (a1 : S_At_Old_New) : Nat → (List ByteArray) → Int → Option ((List ByteArray) × Int)
  | 0, _, _ => none
  | k + 1, x246, x247 => (if x247 < (a1.f2_New.length : Int) then ((ix a1.f2_New x247).bind fun x281 => ((app 16 x246 [x281]).bind fun x282 => quitclaimref11_Apply.l35 a0 a1 k x282 (w64 (x247 + 1)))) else quitclaimref11_Apply.l38 a0 a1 x246 k 0)
def quitclaimref11_Apply.l26 (a0 : List ByteArray) (a1 : S_At_Old_New) : Nat → (List ByteArray) → Int → Option ((List ByteArray) × Int)
  | 0, _, _ => none
  | k + 1, x106, x107 => (if x107 < a1.f0_At then ((ix a0 x107).bind fun x211 => ((app 16 x106 [x211]).bind fun x212 => quitclaimref11_Apply.l26 a0 a1 k x212 (w64 (x107 + 1)))) else quitclaimref11_Apply.l35 a0 a1 k x106 0)
def quitclaimref11_Apply.f (k : Nat) (a0 : List ByteArray) (a1 : S_At_Old_New) : Option ((List ByteArray) × Int) := ((quitclaimref11_Lines.f k a0).bind fun x1 => ((gd (!(!x1)) (quitclaimref11_Right.f k a1)).bind fun x2 => (if (!x1 || !x2) = true then some ([], 3) else (if a1.f0_At > (a0.length : Int) then some ([], 5) else quitclaimref11_Apply.l26 a0 a1 k [] 0))))
theorem quitclaimref11_Apply.ok (k : Nat) (a0 : List ByteArray) (a1 : S_At_Old_New) (r : (List ByteArray) × Int) (H : quitclaimref11_Apply.f k a0 a1 = some r) : PF Tryd.prog 94 [.p (.sl 1 ByteArray eS a0), .p (.agg [(.s (.int .i64 a1.f0_At)), (.sl 1 ByteArray eS a1.f1_Old), (.sl 1 ByteArray eS a1.f2_New)])] (.tup [.p (.sl 1 ByteArray eS r.1), vi r.2]) := by
  refine PF_mk T_ok Tryd.func94 rfl (by kernel_rfl) (by kernel_rfl) ?_
  unfold quitclaimref11_Apply.f at H
  refine qs ?_
  refine qg ?_
  refine xb (T := T) (j := 0) (cs := [vi a1.f0_At, .p (.sl 1 ByteArray eS a1.f1_Old), .p (.sl 1 ByteArray eS a1.f2_New)]) rfl rfl rfl rfl (by kernel_rfl) (by kernel_rfl) rfl ?_
  refine qz T_ok 2 [0, 3] 1 (E2 := [(0, [], .p (.sl 1 ByteArray eS a0)), (3, [], .ptr 0 0)]) (h1 := [.cells 127 [vi a1.f0_At, .p (.sl 1 ByteArray eS a1.f1_Old), .p (.sl 1 ByteArray eS a1.f2_New)]]) (by kernel_rfl) (by kernel_rfl) (by kernel_rfl) (by kernel_rfl) (by kernel_rfl) ?_
  refine qs ?_
  refine qs ?_
  refine qg ?_
  refine qm T_ok 1 (k := 1) (by kernel_rfl) (by kernel_rfl) (by kernel_rfl) ?_
  obtain ⟨x1, hx, H⟩ := bd H
  refine qy rfl (zc (T := T) (quitclaimref11_Lines.ok k a0 _ hx) Tryd.func52 rfl rfl (caps := []) (by kernel_rfl) (by kernel_rfl) (by kernel_rfl) (by kernel_rfl) (by kernel_rfl) (by kernel_rfl)) rfl (by kernel_rfl) rfl ?_
  clear hx
  refine qm T_ok 3 (k := 5) (by kernel_rfl) (by kernel_rfl) (by kernel_rfl) ?_
  obtain ⟨x2, hx, H⟩ := bd H
  refine qyg rfl (tg := []) (Yld.under (u := 14) (b := false) (t := !x1) (by kernel_rfl) (by simp) fun g0_ => (zc (T := T) (quitclaimref11_Right.ok k a1 _ (gd0 hx g0_)) Tryd.func118 rfl rfl (caps := []) (by kernel_rfl) (by kernel_rfl) (by kernel_rfl) (by kernel_rfl) (by kernel_rfl) (by kernel_rfl))) rfl rfl (by kernel_rfl) (by kernel_rfl) rfl ?_
  clear hx
  refine qz T_ok 2 [0, 3, 18] 1 (E2 := [(0, [], .p (.sl 1 ByteArray eS a0)), (3, [], .ptr 0 0), (18, [], vb (!x1 || !x2))]) (h1 := [.cells 127 [vi a1.f0_At, .p (.sl 1 ByteArray eS a1.f1_Old), .p (.sl 1 ByteArray eS a1.f2_New)]]) (by kernel_rfl) (by kernel_rfl) (by kernel_rfl) (by kernel_rfl) (by kernel_rfl) ?_
  refine qi (t := (!x1 || !x2)) (by kernel_rfl) (fun c => ?_) (fun c => ?_)
  · rw [if_pos c] at H
    clear c
    refine qs ?_
    refine qg ?_
    refine qz T_ok 2 [4, 5] 0 (E2 := [(4, [], .p (.sl 1 ByteArray eS [])), (5, [], vi 3)]) (h1 := []) (by kernel_rfl) (by kernel_rfl) (by kernel_rfl) (by kernel_rfl) (by kernel_rfl) ?_
    refine qt ?_
    obtain rfl := Option.some.inj H
    exact ⟨.tup [.p (.sl 1 ByteArray eS []), vi 3], by kernel_rfl, rfl⟩
  · rw [if_neg (by rw [c]; exact Bool.false_ne_true)] at H
    clear c
    refine qw [0, 3] rfl ?_
    refine qk ?_
    refine qs ?_
    refine qs ?_
    refine qr T_ok [0, 3, 23] (E2 := [(0, [], .p (.sl 1 ByteArray eS a0)), (3, [], .ptr 0 0), (23, [], vb (decide (a1.f0_At > (a0.length : Int))))]) (by kernel_rfl) ?_
    refine qi (t := decide (a1.f0_At > (a0.length : Int))) (by kernel_rfl) (fun c => ?_) (fun c => ?_)
    · rw [if_pos (of_decide_eq_true c)] at H
      clear c
      refine qs ?_
      refine qg ?_
      refine qz T_ok 2 [4, 5] 0 (E2 := [(4, [], .p (.sl 1 ByteArray eS [])), (5, [], vi 5)]) (h1 := []) (by kernel_rfl) (by kernel_rfl) (by kernel_rfl) (by kernel_rfl) (by kernel_rfl) ?_
      refine qt ?_
      obtain rfl := Option.some.inj H
      exact ⟨.tup [.p (.sl 1 ByteArray eS []), vi 5], by kernel_rfl, rfl⟩
    · rw [if_neg (of_decide_eq_false c)] at H
      clear c
      refine qw [0, 3] rfl ?_
      refine qk ?_
      refine qs ?_
      refine qg ?_
      refine xl T_ok (e := 9) (n := 1) (j := 1) eS ([]) rfl rfl rfl rfl (by kernel_rfl) (by kernel_rfl) rfl ?_
      refine qz T_ok 1 [0, 3, 6] 2 (E2 := [(0, [], .p (.sl 1 ByteArray eS a0)), (3, [], .ptr 0 0), (6, [], .own 9 1 ByteArray eS [] 1)]) (h1 := [.cells 127 [vi a1.f0_At, .p (.sl 1 ByteArray eS a1.f1_Old), .p (.sl 1 ByteArray eS a1.f2_New)], .tail]) (by kernel_rfl) (by kernel_rfl) (by kernel_rfl) (by kernel_rfl) (by kernel_rfl) ?_
      refine qs ?_
      refine qs ?_
      refine qr T_ok [0, 3, 6, 7] (E2 := [(0, [], .p (.sl 1 ByteArray eS a0)), (3, [], .ptr 0 0), (6, [], .own 9 1 ByteArray eS [] 1), (7, [], vi 0)]) (by kernel_rfl) ?_
      refine qb ?_
      refine qp (fun k E h => ∃ x106 : List ByteArray, ∃ x107 : Int, E = [(0, [], .p (.sl 1 ByteArray eS a0)), (3, [], .ptr 0 0), (6, [], .own 9 1 ByteArray eS x106 1), (7, [], vi x107)] ∧ h = [.cells 127 [vi a1.f0_At, .p (.sl 1 ByteArray eS a1.f1_Old), .p (.sl 1 ByteArray eS a1.f2_New)], .tail] ∧ quitclaimref11_Apply.l26 a0 a1 k x106 x107 = some r) k ⟨[], 0, rfl, rfl, H⟩ ?_
      clear H
      rintro k E h ⟨x106, x107, rfl, rfl, H⟩
      cases k with
      | zero => exact nomatch (show none = some r from H)
      | succ k =>
        rw [quitclaimref11_Apply.l26] at H
        refine qs ?_
        refine qs ?_
        refine qr T_ok [0, 3, 6, 7, 28] (E2 := [(0, [], .p (.sl 1 ByteArray eS a0)), (3, [], .ptr 0 0), (6, [], .own 9 1 ByteArray eS x106 1), (7, [], vi x107), (28, [], vb (decide (x107 < a1.f0_At)))]) (by kernel_rfl) ?_
        refine qi (t := decide (x107 < a1.f0_At)) (by kernel_rfl) (fun c => ?_) (fun c => ?_)
        · rw [if_pos (of_decide_eq_true c)] at H
          clear c
          refine qw [0, 3, 6, 7] rfl ?_
          refine qk ?_
          refine qs ?_
          refine qb ?_
          refine qg ?_
          refine qm T_ok 3 (k := 3) (by kernel_rfl) (by kernel_rfl) (by kernel_rfl) ?_
          obtain ⟨x211, hx, H⟩ := bd H
          refine qy rfl (zi T_ok .i64 (enc := eS) (l := a0) (e := 9) (n := 1) (ei := ti9) (sa := (.p (.sl 1 ByteArray eS a0))) hx rfl (by kernel_rfl) (by kernel_rfl) rfl (by kernel_rfl) (by kernel_rfl) (by kernel_rfl)) rfl (by kernel_rfl) rfl ?_
          clear hx
          refine qm T_ok 1 (k := 5) (by kernel_rfl) (by kernel_rfl) (by kernel_rfl) ?_
          refine qy rfl (ze T_ok (e := 9) (n := 1) eS ([x211] : List ByteArray) rfl (by kernel_rfl)) rfl (by kernel_rfl) rfl ?_
          obtain ⟨x212, hx, H⟩ := bd H
          refine xp T_ok (enc := eS) (l := x106) (m := [x211]) (e := 9) (e' := 9) (j := 1) (ei := ti9) (sy := (.p (.sl 1 ByteArray eS [x211]))) hx rfl rfl rfl rfl rfl rfl rfl (by kernel_rfl) (by kernel_rfl) (by kernel_rfl) (by kernel_rfl) (by kernel_rfl) (by kernel_rfl) (by kernel_rfl) (by kernel_rfl) (by kernel_rfl) rfl ?_
          clear hx
          refine qz T_ok 1 [0, 3, 6, 7] 2 (E2 := [(0, [], .p (.sl 1 ByteArray eS a0)), (3, [], .ptr 0 0), (6, [], .own 9 1 ByteArray eS x212 1), (7, [], vi x107)]) (h1 := [.cells 127 [vi a1.f0_At, .p (.sl 1 ByteArray eS a1.f1_Old), .p (.sl 1 ByteArray eS a1.f2_New)], .tail]) (by kernel_rfl) (by kernel_rfl) (by kernel_rfl) (by kernel_rfl) (by kernel_rfl) ?_
          refine qr T_ok [0, 3, 6, 7] (E2 := [(0, [], .p (.sl 1 ByteArray eS a0)), (3, [], .ptr 0 0), (6, [], .own 9 1 ByteArray eS x212 1), (7, [], vi (w64 (x107 + 1)))]) (by kernel_rfl) ?_
          exact ⟨_, Nat.lt_succ_self _, x212, w64 (x107 + 1), rfl, rfl, H⟩
        · rw [if_neg (of_decide_eq_false c)] at H
          clear c
          refine qw [0, 3, 6] rfl ?_
          refine qx ?_
          refine qs ?_
          refine qs ?_
          refine qr T_ok [0, 3, 6, 8] (E2 := [(0, [], .p (.sl 1 ByteArray eS a0)), (3, [], .ptr 0 0), (6, [], .own 9 1 ByteArray eS x106 1), (8, [], vi 0)]) (by kernel_rfl) ?_
          refine qb ?_
          refine qp (fun k E h => ∃ x246 : List ByteArray, ∃ x247 : Int, E = [(0, [], .p (.sl 1 ByteArray eS a0)), (3, [], .ptr 0 0), (6, [], .own 9 1 ByteArray eS x246 1), (8, [], vi x247)] ∧ h = [.cells 127 [vi a1.f0_At, .p (.sl 1 ByteArray eS a1.f1_Old), .p (.sl 1 ByteArray eS a1.f2_New)], .tail] ∧ quitclaimref11_Apply.l35 a0 a1 k x246 x247 = some r) k ⟨x106, 0, rfl, rfl, H⟩ ?_
          clear H
          rintro k E h ⟨x246, x247, rfl, rfl, H⟩
          cases k with
          | zero => exact nomatch (show none = some r from H)
          | succ k =>
            rw [quitclaimref11_Apply.l35] at H
            refine qs ?_
            refine qs ?_
            refine qr T_ok [0, 3, 6, 8, 42] (E2 := [(0, [], .p (.sl 1 ByteArray eS a0)), (3, [], .ptr 0 0), (6, [], .own 9 1 ByteArray eS x246 1), (8, [], vi x247), (42, [], vb (decide (x247 < (a1.f2_New.length : Int))))]) (by kernel_rfl) ?_
            refine qi (t := decide (x247 < (a1.f2_New.length : Int))) (by kernel_rfl) (fun c => ?_) (fun c => ?_)
            · rw [if_pos (of_decide_eq_true c)] at H
              clear c
              refine qw [0, 3, 6, 8] rfl ?_
              refine qk ?_
              refine qs ?_
              refine qb ?_
              refine qg ?_
              refine qm T_ok 4 (k := 4) (by kernel_rfl) (by kernel_rfl) (by kernel_rfl) ?_
              obtain ⟨x281, hx, H⟩ := bd H
              refine qy rfl (zi T_ok .i64 (enc := eS) (l := a1.f2_New) (e := 9) (n := 1) (ei := ti9) (sa := (.p (.sl 1 ByteArray eS a1.f2_New))) hx rfl (by kernel_rfl) (by kernel_rfl) rfl (by kernel_rfl) (by kernel_rfl) (by kernel_rfl)) rfl (by kernel_rfl) rfl ?_
              clear hx
              refine qm T_ok 1 (k := 6) (by kernel_rfl) (by kernel_rfl) (by kernel_rfl) ?_
              refine qy rfl (ze T_ok (e := 9) (n := 1) eS ([x281] : List ByteArray) rfl (by kernel_rfl)) rfl (by kernel_rfl) rfl ?_
              obtain ⟨x282, hx, H⟩ := bd H
              refine xp T_ok (enc := eS) (l := x246) (m := [x281]) (e := 9) (e' := 9) (j := 1) (ei := ti9) (sy := (.p (.sl 1 ByteArray eS [x281]))) hx rfl rfl rfl rfl rfl rfl rfl (by kernel_rfl) (by kernel_rfl) (by kernel_rfl) (by kernel_rfl) (by kernel_rfl) (by kernel_rfl) (by kernel_rfl) (by kernel_rfl) (by kernel_rfl) rfl ?_
              clear hx
              refine qz T_ok 1 [0, 3, 6, 8] 2 (E2 := [(0, [], .p (.sl 1 ByteArray eS a0)), (3, [], .ptr 0 0), (6, [], .own 9 1 ByteArray eS x282 1), (8, [], vi x247)]) (h1 := [.cells 127 [vi a1.f0_At, .p (.sl 1 ByteArray eS a1.f1_Old), .p (.sl 1 ByteArray eS a1.f2_New)], .tail]) (by kernel_rfl) (by kernel_rfl) (by kernel_rfl) (by kernel_rfl) (by kernel_rfl) ?_
              refine qr T_ok [0, 3, 6, 8] (E2 := [(0, [], .p (.sl 1 ByteArray eS a0)), (3, [], .ptr 0 0), (6, [], .own 9 1 ByteArray eS x282 1), (8, [], vi (w64 (x247 + 1)))]) (by kernel_rfl) ?_
              exact ⟨_, Nat.lt_succ_self _, x282, w64 (x247 + 1), rfl, rfl, H⟩
            · rw [if_neg (of_decide_eq_false c)] at H
              clear c
              refine qw [0, 3, 6] rfl ?_
              refine qx ?_
              refine qs ?_
              refine qs ?_
              refine qr T_ok [0, 3, 6, 9] (E2 := [(0, [], .p (.sl 1 ByteArray eS a0)), (3, [], .ptr 0 0), (6, [], .own 9 1 ByteArray eS x246 1), (9, [], vi 0)]) (by kernel_rfl) ?_
              refine qb ?_
              refine qp (fun k E h => ∃ x293 : Int, E = [(0, [], .p (.sl 1 ByteArray eS a0)), (3, [], .ptr 0 0), (6, [], .own 9 1 ByteArray eS x246 1), (9, [], vi x293)] ∧ h = [.cells 127 [vi a1.f0_At, .p (.sl 1 ByteArray eS a1.f1_Old), .p (.sl 1 ByteArray eS a1.f2_New)], .tail] ∧ quitclaimref11_Apply.l38 a0 a1 x246 k x293 = some r) k ⟨0, rfl, rfl, H⟩ ?_
              clear H
              rintro k E h ⟨x293, rfl, rfl, H⟩
              cases k with
              | zero => exact nomatch (show none = some r from H)
              | succ k =>
                rw [quitclaimref11_Apply.l38] at H
                refine qs ?_
                refine qs ?_
                refine qr T_ok [0, 3, 6, 9, 57] (E2 := [(0, [], .p (.sl 1 ByteArray eS a0)), (3, [], .ptr 0 0), (6, [], .own 9 1 ByteArray eS x246 1), (9, [], vi x293), (57, [], vb (decide (x293 < (a1.f1_Old.length : Int))))]) (by kernel_rfl) ?_
                refine qi (t := decide (x293 < (a1.f1_Old.length : Int))) (by kernel_rfl) (fun c => ?_) (fun c => ?_)
                · rw [if_pos (of_decide_eq_true c)] at H
                  clear c
                  refine qw [0, 3, 6, 9] rfl ?_
                  refine qk ?_
                  refine qs ?_
                  refine qb ?_
                  refine qs ?_
                  refine qd (by kernel_rfl) 22 (by kernel_rfl) (by kernel_rfl) (by kernel_rfl) (by kernel_rfl) (by kernel_rfl) ?_
                  refine dm T_ok 13 (k := 13) (by kernel_rfl) (by kernel_rfl) ?_
                  obtain ⟨x304, hx, H⟩ := bd H
                  refine dyg rfl (tg := []) (Yld.under (u := 67) (b := false) (t := decide (w64 (a1.f0_At + x293) ≥ (a0.length : Int))) (by kernel_rfl) (by simp) fun g0_ => (zi T_ok .i64 (enc := eS) (l := a0) (e := 9) (n := 1) (ei := ti9) (sa := (.p (.sl 1 ByteArray eS a0))) (gd0 hx g0_) rfl (by kernel_rfl) (by kernel_rfl) rfl (by kernel_rfl) (by kernel_rfl) (by kernel_rfl))) rfl rfl (by kernel_rfl) (by kernel_rfl) rfl ?_
                  clear hx
                  refine dm T_ok 4 (k := 18) (by kernel_rfl) (by kernel_rfl) ?_
                  obtain ⟨x305, hx, H⟩ := bd H
                  refine dyg rfl (tg := []) (Yld.under (u := 67) (b := false) (t := decide (w64 (a1.f0_At + x293) ≥ (a0.length : Int))) (by kernel_rfl) (by simp) fun g0_ => (zi T_ok .i64 (enc := eS) (l := a1.f1_Old) (e := 9) (n := 1) (ei := ti9) (sa := (.p (.sl 1 ByteArray eS a1.f1_Old))) (gd0 hx g0_) rfl (by kernel_rfl) (by kernel_rfl) rfl (by kernel_rfl) (by kernel_rfl) (by kernel_rfl))) rfl rfl (by kernel_rfl) (by kernel_rfl) rfl ?_
                  clear hx
                  refine dm T_ok 3 (k := 22) (by kernel_rfl) (by kernel_rfl) ?_
                  refine dn ?_
                  refine qz T_ok 0 [0, 3, 6, 9, 81] 2 (E2 := [(0, [], .p (.sl 1 ByteArray eS a0)), (3, [], .ptr 0 0), (6, [], .own 9 1 ByteArray eS x246 1), (9, [], vi x293), (81, [], vb (decide (w64 (a1.f0_At + x293) ≥ (a0.length : Int)) || !decide (x304 = x305)))]) (h1 := [.cells 127 [vi a1.f0_At, .p (.sl 1 ByteArray eS a1.f1_Old), .p (.sl 1 ByteArray eS a1.f2_New)], .tail]) (by kernel_rfl) (by kernel_rfl) (by kernel_rfl) (by kernel_rfl) (by kernel_rfl) ?_
                  refine qi (t := (decide (w64 (a1.f0_At + x293) ≥ (a0.length : Int)) || !decide (x304 = x305))) (by kernel_rfl) (fun c => ?_) (fun c => ?_)
                  · rw [if_pos c] at H
                    clear c
                    refine qs ?_
                    refine qg ?_
                    refine qz T_ok 2 [4, 5] 0 (E2 := [(4, [], .p (.sl 1 ByteArray eS [])), (5, [], vi 12)]) (h1 := []) (by kernel_rfl) (by kernel_rfl) (by kernel_rfl) (by kernel_rfl) (by kernel_rfl) ?_
                    refine qt ?_
                    obtain rfl := Option.some.inj H
                    exact ⟨.tup [.p (.sl 1 ByteArray eS []), vi 12], by kernel_rfl, rfl⟩
                  · rw [if_neg (by rw [c]; exact Bool.false_ne_true)] at H
                    clear c
                    refine qw [0, 3, 6, 9] rfl ?_
                    refine qk ?_
                    refine qr T_ok [0, 3, 6, 9] (E2 := [(0, [], .p (.sl 1 ByteArray eS a0)), (3, [], .ptr 0 0), (6, [], .own 9 1 ByteArray eS x246 1), (9, [], vi (w64 (x293 + 1)))]) (by kernel_rfl) ?_
                    exact ⟨_, Nat.lt_succ_self _, w64 (x293 + 1), rfl, rfl, H⟩
                · rw [if_neg (of_decide_eq_false c)] at H
                  clear c
                  refine qw [0, 3, 6] rfl ?_
                  refine qx ?_
                  refine qs ?_
                  refine qs ?_
                  refine qr T_ok [0, 6, 10] (E2 := [(0, [], .p (.sl 1 ByteArray eS a0)), (6, [], .own 9 1 ByteArray eS x246 1), (10, [], vi (w64 (a1.f0_At + (a1.f1_Old.length : Int))))]) (by kernel_rfl) ?_
                  refine qb ?_
                  refine qp (fun k E h => ∃ x308 : List ByteArray, ∃ x309 : Int, E = [(0, [], .p (.sl 1 ByteArray eS a0)), (6, [], .own 9 1 ByteArray eS x308 1), (10, [], vi x309)] ∧ h = [.cells 127 [vi a1.f0_At, .p (.sl 1 ByteArray eS a1.f1_Old), .p (.sl 1 ByteArray eS a1.f2_New)], .tail] ∧ quitclaimref11_Apply.l39 a0 k x308 x309 = some r) k ⟨x246, w64 (a1.f0_At + (a1.f1_Old.length : Int)), rfl, rfl, H⟩ ?_
                  clear H
                  rintro k E h ⟨x308, x309, rfl, rfl, H⟩
                  cases k with
                  | zero => exact nomatch (show none = some r from H)
                  | succ k =>
                    rw [quitclaimref11_Apply.l39] at H
                    refine qs ?_
                    refine qs ?_
                    refine qr T_ok [0, 6, 10, 91] (E2 := [(0, [], .p (.sl 1 ByteArray eS a0)), (6, [], .own 9 1 ByteArray eS x308 1), (10, [], vi x309), (91, [], vb (decide (x309 < (a0.length : Int))))]) (by kernel_rfl) ?_
                    refine qi (t := decide (x309 < (a0.length : Int))) (by kernel_rfl) (fun c => ?_) (fun c => ?_)
                    · rw [if_pos (of_decide_eq_true c)] at H
                      clear c
                      refine qw [0, 6, 10] rfl ?_
                      refine qk ?_
                      refine qs ?_
                      refine qb ?_
                      refine qg ?_
                      refine qm T_ok 3 (k := 3) (by kernel_rfl) (by kernel_rfl) (by kernel_rfl) ?_
                      obtain ⟨x312, hx, H⟩ := bd H
                      refine qy rfl (zi T_ok .i64 (enc := eS) (l := a0) (e := 9) (n := 1) (ei := ti9) (sa := (.p (.sl 1 ByteArray eS a0))) hx rfl (by kernel_rfl) (by kernel_rfl) rfl (by kernel_rfl) (by kernel_rfl) (by kernel_rfl)) rfl (by kernel_rfl) rfl ?_
                      clear hx
                      refine qm T_ok 1 (k := 5) (by kernel_rfl) (by kernel_rfl) (by kernel_rfl) ?_
                      refine qy rfl (ze T_ok (e := 9) (n := 1) eS ([x312] : List ByteArray) rfl (by kernel_rfl)) rfl (by kernel_rfl) rfl ?_
                      obtain ⟨x313, hx, H⟩ := bd H
                      refine xp T_ok (enc := eS) (l := x308) (m := [x312]) (e := 9) (e' := 9) (j := 1) (ei := ti9) (sy := (.p (.sl 1 ByteArray eS [x312]))) hx rfl rfl rfl rfl rfl rfl rfl (by kernel_rfl) (by kernel_rfl) (by kernel_rfl) (by kernel_rfl) (by kernel_rfl) (by kernel_rfl) (by kernel_rfl) (by kernel_rfl) (by kernel_rfl) rfl ?_
                      clear hx
                      refine qz T_ok 1 [0, 6, 10] 2 (E2 := [(0, [], .p (.sl 1 ByteArray eS a0)), (6, [], .own 9 1 ByteArray eS x313 1), (10, [], vi x309)]) (h1 := [.cells 127 [vi a1.f0_At, .p (.sl 1 ByteArray eS a1.f1_Old), .p (.sl 1 ByteArray eS a1.f2_New)], .tail]) (by kernel_rfl) (by kernel_rfl) (by kernel_rfl) (by kernel_rfl) (by kernel_rfl) ?_
                      refine qr T_ok [0, 6, 10] (E2 := [(0, [], .p (.sl 1 ByteArray eS a0)), (6, [], .own 9 1 ByteArray eS x313 1), (10, [], vi (w64 (x309 + 1)))]) (by kernel_rfl) ?_
                      exact ⟨_, Nat.lt_succ_self _, x313, w64 (x309 + 1), rfl, rfl, H⟩
                    · rw [if_neg (of_decide_eq_false c)] at H
                      clear c
                      refine qw [6] rfl ?_
                      refine qx ?_
                      refine qs ?_
                      refine qs ?_
                      refine qr T_ok [6, 103] (E2 := [(6, [], .own 9 1 ByteArray eS x308 1), (103, [], vb (decide ((x308.length : Int) > 1000)))]) (by kernel_rfl) ?_
                      refine qi (t := decide ((x308.length : Int) > 1000)) (by kernel_rfl) (fun c => ?_) (fun c => ?_)
                      · rw [if_pos (of_decide_eq_true c)] at H
                        clear c
                        refine qs ?_
                        refine qg ?_
                        refine qz T_ok 2 [4, 5] 0 (E2 := [(4, [], .p (.sl 1 ByteArray eS [])), (5, [], vi 4)]) (h1 := []) (by kernel_rfl) (by kernel_rfl) (by kernel_rfl) (by kernel_rfl) (by kernel_rfl) ?_
                        refine qt ?_
                        obtain rfl := Option.some.inj H
                        exact ⟨.tup [.p (.sl 1 ByteArray eS []), vi 4], by kernel_rfl, rfl⟩
                      · rw [if_neg (of_decide_eq_false c)] at H
                        clear c
                        refine qw [6] rfl ?_
                        refine qk ?_
                        refine qs ?_
                        refine qr T_ok [4, 5] (E2 := [(4, [], .own 9 1 ByteArray eS x308 1), (5, [], vi 0)]) (by kernel_rfl) ?_
                        refine qt ?_
                        obtain rfl := Option.some.inj H
                        exact ⟨.tup [.own 9 1 ByteArray eS x308 1, vi 0], by kernel_rfl, rfl⟩
end Go.Proofs.YtngcfmnmjkncoaaDoor.Q
