/- Go functions as Lean functions, and that the code answers what they say; no condition but the typed premises. -/
import Derived.Test.YtngcfmnmjkncoaaQT
import Derived.Test.YtngcfmnmjkncoaaShelf
namespace Go.Proofs.Ytngcfmnmjkncoaa.Q
open Go Go.RowKit
set_option maxRecDepth 100000
set_option linter.unusedVariables false
set_option linter.unusedSimpArgs false
/-! ### quitclaim/quitclaimlaw11.long: function 6 -/
def quitclaimlaw11_long.l3 (x6 : Int) (b2 : (Int → Option Bool)) (x12 : List ByteArray) : Nat → Int → Option Bool
  | 0, _ => none
  | k + 1, x14 => (if x14 < (x12.length : Int) then ((ix x12 x14).bind fun x16 => (if (x16.size : Int) > 300 then some true else quitclaimlaw11_long.l3 x6 b2 x12 k (w64 (x14 + 1)))) else b2 (w64 (x6 + 1)))
def quitclaimlaw11_long.l2 (a0 : List (List ByteArray)) : Nat → Int → Option Bool
  | 0, _ => none
  | k + 1, x6 => jn (fun (x6 : Int) => quitclaimlaw11_long.l2 a0 k x6) fun b2 => (if x6 < (a0.length : Int) then ((ix a0 x6).bind fun x12 => (if (x12.length : Int) > 60 then some true else quitclaimlaw11_long.l3 x6 b2 x12 k 0)) else some false)
def quitclaimlaw11_long.f (k : Nat) (a0 : List (List ByteArray)) : Option Bool := quitclaimlaw11_long.l2 a0 k 0
theorem quitclaimlaw11_long.ok (k : Nat) (a0 : List (List ByteArray)) (r : Bool) (H : quitclaimlaw11_long.f k a0 = some r) : PF Try.prog 6 [.p (.sl 1 (List ByteArray) (eL 1 eS) a0)] (vb r) := by
  refine PF_mk T_ok Try.func6 rfl (by kernel_rfl) (by kernel_rfl) ?_
  unfold quitclaimlaw11_long.f at H
  refine qs ?_
  refine qr T_ok [0] (E2 := [(0, [], .p (.sl 1 (List ByteArray) (eL 1 eS) a0))]) (by kernel_rfl) ?_
  refine qs ?_
  refine qs ?_
  refine qr T_ok [7, 8, 9] (E2 := [(7, [], .p (.sl 1 (List ByteArray) (eL 1 eS) a0)), (8, [], vi (a0.length : Int)), (9, [], vi 0)]) (by kernel_rfl) ?_
  refine qb ?_
  refine qp (fun k E h => ∃ x6 : Int, E = [(7, [], .p (.sl 1 (List ByteArray) (eL 1 eS) a0)), (8, [], vi (a0.length : Int)), (9, [], vi x6)] ∧ h = [] ∧ quitclaimlaw11_long.l2 a0 k x6 = some r) k ⟨0, rfl, rfl, H⟩ ?_
  clear H
  rintro k E h ⟨x6, rfl, rfl, H⟩
  cases k with
  | zero => exact nomatch (show none = some r from H)
  | succ k =>
    rw [quitclaimlaw11_long.l2] at H
    obtain ⟨b2, hb2, H⟩ := jn_of H
    refine qs ?_
    refine qr T_ok [7, 8, 9, 10] (E2 := [(7, [], .p (.sl 1 (List ByteArray) (eL 1 eS) a0)), (8, [], vi (a0.length : Int)), (9, [], vi x6), (10, [], vb (decide (x6 < (a0.length : Int))))]) (by kernel_rfl) ?_
    refine qs ?_
    refine qi (t := decide (x6 < (a0.length : Int))) (by kernel_rfl) (fun c => ?_) (fun c => ?_)
    · rw [if_pos (of_decide_eq_true c)] at H
      clear c
      refine qw [7, 8, 9] rfl ?_
      refine qk ?_
      refine qs ?_
      refine qb ?_
      refine qs ?_
      refine qg ?_
      obtain ⟨x12, hx, H⟩ := bd H
      refine qy rfl (zi T_ok .i64 (enc := (eL 1 eS)) (l := a0) (e := 22) (n := 1) (ei := ti22) (sa := (.p (.sl 1 (List ByteArray) (eL 1 eS) a0))) hx rfl (by kernel_rfl) (by kernel_rfl) rfl (by kernel_rfl) (by kernel_rfl) (by kernel_rfl)) rfl (by kernel_rfl) rfl ?_
      clear hx
      refine qz T_ok 2 [4, 7, 8, 9] 0 (E2 := [(4, [], .p (.sl 1 ByteArray eS x12)), (7, [], .p (.sl 1 (List ByteArray) (eL 1 eS) a0)), (8, [], vi (a0.length : Int)), (9, [], vi x6)]) (h1 := []) (by kernel_rfl) (by kernel_rfl) (by kernel_rfl) (by kernel_rfl) (by kernel_rfl) ?_
      refine qs ?_
      refine qs ?_
      refine qr T_ok [4, 7, 8, 9, 15] (E2 := [(4, [], .p (.sl 1 ByteArray eS x12)), (7, [], .p (.sl 1 (List ByteArray) (eL 1 eS) a0)), (8, [], vi (a0.length : Int)), (9, [], vi x6), (15, [], vb (decide ((x12.length : Int) > 60)))]) (by kernel_rfl) ?_
      refine qi (t := decide ((x12.length : Int) > 60)) (by kernel_rfl) (fun c => ?_) (fun c => ?_)
      · rw [if_pos (of_decide_eq_true c)] at H
        clear c
        refine qs ?_
        refine qr T_ok [2] (E2 := [(2, [], vb true)]) (by kernel_rfl) ?_
        refine qt ?_
        obtain rfl := Option.some.inj H
        exact ⟨vb true, by kernel_rfl, rfl⟩
      · rw [if_neg (of_decide_eq_false c)] at H
        clear c
        refine qw [4, 7, 8, 9] rfl ?_
        refine qk ?_
        refine qs ?_
        refine qr T_ok [7, 8, 9, 16, 17, 18] (E2 := [(7, [], .p (.sl 1 (List ByteArray) (eL 1 eS) a0)), (8, [], vi (a0.length : Int)), (9, [], vi x6), (16, [], .p (.sl 1 ByteArray eS x12)), (17, [], vi (x12.length : Int)), (18, [], vi 0)]) (by kernel_rfl) ?_
        refine qb ?_
        refine qp (fun k E h => ∃ x14 : Int, E = [(7, [], .p (.sl 1 (List ByteArray) (eL 1 eS) a0)), (8, [], vi (a0.length : Int)), (9, [], vi x6), (16, [], .p (.sl 1 ByteArray eS x12)), (17, [], vi (x12.length : Int)), (18, [], vi x14)] ∧ h = [] ∧ quitclaimlaw11_long.l3 x6 b2 x12 k x14 = some r) k ⟨0, rfl, rfl, H⟩ ?_
        clear H
        rintro k E h ⟨x14, rfl, rfl, H⟩
        cases k with
        | zero => exact nomatch (show none = some r from H)
        | succ k =>
          rw [quitclaimlaw11_long.l3] at H
          refine qs ?_
          refine qr T_ok [7, 8, 9, 16, 17, 18, 19] (E2 := [(7, [], .p (.sl 1 (List ByteArray) (eL 1 eS) a0)), (8, [], vi (a0.length : Int)), (9, [], vi x6), (16, [], .p (.sl 1 ByteArray eS x12)), (17, [], vi (x12.length : Int)), (18, [], vi x14), (19, [], vb (decide (x14 < (x12.length : Int))))]) (by kernel_rfl) ?_
          refine qs ?_
          refine qi (t := decide (x14 < (x12.length : Int))) (by kernel_rfl) (fun c => ?_) (fun c => ?_)
          · rw [if_pos (of_decide_eq_true c)] at H
            clear c
            refine qw [7, 8, 9, 16, 17, 18] rfl ?_
            refine qk ?_
            refine qs ?_
            refine qb ?_
            refine qs ?_
            refine qg ?_
            obtain ⟨x16, hx, H⟩ := bd H
            refine qy rfl (zi T_ok .i64 (enc := eS) (l := x12) (e := 9) (n := 1) (ei := ti9) (sa := (.p (.sl 1 ByteArray eS x12))) hx rfl (by kernel_rfl) (by kernel_rfl) rfl (by kernel_rfl) (by kernel_rfl) (by kernel_rfl)) rfl (by kernel_rfl) rfl ?_
            clear hx
            refine qz T_ok 2 [6, 7, 8, 9, 16, 17, 18] 0 (E2 := [(6, [], vs x16), (7, [], .p (.sl 1 (List ByteArray) (eL 1 eS) a0)), (8, [], vi (a0.length : Int)), (9, [], vi x6), (16, [], .p (.sl 1 ByteArray eS x12)), (17, [], vi (x12.length : Int)), (18, [], vi x14)]) (h1 := []) (by kernel_rfl) (by kernel_rfl) (by kernel_rfl) (by kernel_rfl) (by kernel_rfl) ?_
            refine qs ?_
            refine qr T_ok [7, 8, 9, 16, 17, 18, 24] (E2 := [(7, [], .p (.sl 1 (List ByteArray) (eL 1 eS) a0)), (8, [], vi (a0.length : Int)), (9, [], vi x6), (16, [], .p (.sl 1 ByteArray eS x12)), (17, [], vi (x12.length : Int)), (18, [], vi x14), (24, [], vb (decide ((x16.size : Int) > 300)))]) (by kernel_rfl) ?_
            refine qi (t := decide ((x16.size : Int) > 300)) (by kernel_rfl) (fun c => ?_) (fun c => ?_)
            · rw [if_pos (of_decide_eq_true c)] at H
              clear c
              refine qs ?_
              refine qr T_ok [2] (E2 := [(2, [], vb true)]) (by kernel_rfl) ?_
              refine qt ?_
              obtain rfl := Option.some.inj H
              exact ⟨vb true, by kernel_rfl, rfl⟩
            · rw [if_neg (of_decide_eq_false c)] at H
              clear c
              refine qw [7, 8, 9, 16, 17, 18] rfl ?_
              refine qk ?_
              refine qr T_ok [7, 8, 9, 16, 17, 18] (E2 := [(7, [], .p (.sl 1 (List ByteArray) (eL 1 eS) a0)), (8, [], vi (a0.length : Int)), (9, [], vi x6), (16, [], .p (.sl 1 ByteArray eS x12)), (17, [], vi (x12.length : Int)), (18, [], vi (w64 (x14 + 1)))]) (by kernel_rfl) ?_
              exact ⟨_, Nat.lt_succ_self _, w64 (x14 + 1), rfl, rfl, H⟩
          · rw [if_neg (of_decide_eq_false c)] at H
            clear c
            refine qw [7, 8, 9] rfl ?_
            refine qx ?_
            refine qr T_ok [7, 8, 9] (E2 := [(7, [], .p (.sl 1 (List ByteArray) (eL 1 eS) a0)), (8, [], vi (a0.length : Int)), (9, [], vi (w64 (x6 + 1)))]) (by kernel_rfl) ?_
            exact ⟨_, Nat.lt_succ_self _, w64 (x6 + 1), rfl, rfl, by rw [hb2] at H; exact H⟩
    · rw [if_neg (of_decide_eq_false c)] at H
      clear c
      refine qw [] rfl ?_
      refine qx ?_
      refine qs ?_
      refine qr T_ok [2] (E2 := [(2, [], vb false)]) (by kernel_rfl) ?_
      refine qt ?_
      obtain rfl := Option.some.inj H
      exact ⟨vb false, by kernel_rfl, rfl⟩
/-! ### strings.Contains: function 29 -/
def strings_Contains.f (a0 a1 : ByteArray) : Option Bool := match a1.data.toList with
  | [c] => some (decide (0 ≤ Lib.indexByte a0.data.toList c))
  | _ => none
theorem strings_Contains.ok (a0 a1 : ByteArray) (r : Bool) (H : strings_Contains.f a0 a1 = some r) : PF Try.prog 29 [vs a0, vs a1] (vb r) := by
  unfold strings_Contains.f at H
  split at H
  case h_1 c hc =>
    obtain rfl := Option.some.inj H
    obtain ⟨⟨l⟩⟩ := a1
    have hc' : l = [c] := hc
    subst hc'
    exact PF_of (args := [.string a0, .string ⟨⟨[c]⟩⟩]) fun w => (Go.Proofs.Try.strings_Contains_one a0 c w).mono fun e w' ⟨he, hw⟩ => ⟨he, hw ▸ Below.refl _ _⟩
  case h_2 => cases H

/-! ### quitclaim/hunk.Lines$1: function 28 -/
def hunk_Lines_1.f (a0 : ByteArray) : Option Bool := ((gd (!(decide ((a0.size : Int) > 200))) (strings_Contains.f a0 ⟨#[10]⟩)).bind fun x1 => some (decide ((a0.size : Int) > 200) || x1))
theorem hunk_Lines_1.ok (a0 : ByteArray) (r : Bool) (H : hunk_Lines_1.f a0 = some r) : PF Try.prog 28 [vs a0] (vb r) := by
  refine PF_mk T_ok Try.func28 rfl (by kernel_rfl) (by kernel_rfl) ?_
  unfold hunk_Lines_1.f at H
  refine qs ?_
  refine qr T_ok [0] (E2 := [(0, [], vs a0)]) (by kernel_rfl) ?_
  refine qs ?_
  refine qg ?_
  refine qm T_ok 5 (k := 5) (by kernel_rfl) (by kernel_rfl) (by kernel_rfl) ?_
  obtain ⟨x1, hx, H⟩ := bd H
  refine qyg rfl (tg := []) (Yld.under (u := 6) (b := false) (t := decide ((a0.size : Int) > 200)) (by kernel_rfl) (by simp) fun g0_ => (zc (T := T) (strings_Contains.ok a0 ⟨#[10]⟩ _ (gd0 hx g0_)) Try.func29 rfl rfl (caps := []) (by kernel_rfl) (by kernel_rfl) (by kernel_rfl) (by kernel_rfl) (by kernel_rfl) (by kernel_rfl))) rfl rfl (by kernel_rfl) (by kernel_rfl) rfl ?_
  clear hx
  refine qz T_ok 2 [2] 0 (E2 := [(2, [], vb (decide ((a0.size : Int) > 200) || x1))]) (h1 := []) (by kernel_rfl) (by kernel_rfl) (by kernel_rfl) (by kernel_rfl) (by kernel_rfl) ?_
  refine qt ?_
  obtain rfl := Option.some.inj H
  exact ⟨vb (decide ((a0.size : Int) > 200) || x1), by kernel_rfl, rfl⟩
/-! ### slices.IndexFunc[[]string,string]: function 37 -/
def slices_IndexFunc_string_string_hunk_Lines_1.l0 (a0 : List ByteArray) : Nat → Int → Option Int
  | 0, _ => none
  | k + 1, x3 => (if x3 < (a0.length : Int) then ((ix a0 x3).bind fun x6 => ((hunk_Lines_1.f x6).bind fun x7 => (if x7 = true then some x3 else slices_IndexFunc_string_string_hunk_Lines_1.l0 a0 k (w64 (x3 + 1))))) else some (-1))
def slices_IndexFunc_string_string_hunk_Lines_1.f (k : Nat) (a0 : List ByteArray) : Option Int := slices_IndexFunc_string_string_hunk_Lines_1.l0 a0 k 0
theorem slices_IndexFunc_string_string_hunk_Lines_1.ok (k : Nat) (a0 : List ByteArray) (r : Int) (H : slices_IndexFunc_string_string_hunk_Lines_1.f k a0 = some r) : PF Try.prog 37 [.p (.sl 1 ByteArray eS a0), .fn 28 []] (vi r) := by
  refine PF_mk T_ok Try.func37 rfl (by kernel_rfl) (by kernel_rfl) ?_
  unfold slices_IndexFunc_string_string_hunk_Lines_1.f at H
  refine qs ?_
  refine qr T_ok [0, 1] (E2 := [(0, [], .p (.sl 1 ByteArray eS a0)), (1, [], .fn 28 [])]) (by kernel_rfl) ?_
  refine qs ?_
  refine qs ?_
  refine qr T_ok [0, 1, 7, 8] (E2 := [(0, [], .p (.sl 1 ByteArray eS a0)), (1, [], .fn 28 []), (7, [], vi (a0.length : Int)), (8, [], vi 0)]) (by kernel_rfl) ?_
  refine qb ?_
  refine qp (fun k E h => ∃ x3 : Int, E = [(0, [], .p (.sl 1 ByteArray eS a0)), (1, [], .fn 28 []), (7, [], vi (a0.length : Int)), (8, [], vi x3)] ∧ h = [] ∧ slices_IndexFunc_string_string_hunk_Lines_1.l0 a0 k x3 = some r) k ⟨0, rfl, rfl, H⟩ ?_
  clear H
  rintro k E h ⟨x3, rfl, rfl, H⟩
  cases k with
  | zero => exact nomatch (show none = some r from H)
  | succ k =>
    rw [slices_IndexFunc_string_string_hunk_Lines_1.l0] at H
    refine qs ?_
    refine qr T_ok [0, 1, 7, 8, 9] (E2 := [(0, [], .p (.sl 1 ByteArray eS a0)), (1, [], .fn 28 []), (7, [], vi (a0.length : Int)), (8, [], vi x3), (9, [], vb (decide (x3 < (a0.length : Int))))]) (by kernel_rfl) ?_
    refine qs ?_
    refine qi (t := decide (x3 < (a0.length : Int))) (by kernel_rfl) (fun c => ?_) (fun c => ?_)
    · rw [if_pos (of_decide_eq_true c)] at H
      clear c
      refine qw [0, 1, 7, 8] rfl ?_
      refine qk ?_
      refine qs ?_
      refine qb ?_
      refine qs ?_
      refine qr T_ok [0, 1, 5, 7, 8] (E2 := [(0, [], .p (.sl 1 ByteArray eS a0)), (1, [], .fn 28 []), (5, [], vi x3), (7, [], vi (a0.length : Int)), (8, [], vi x3)]) (by kernel_rfl) ?_
      refine qs ?_
      refine qg ?_
      refine qm T_ok 3 (k := 3) (by kernel_rfl) (by kernel_rfl) (by kernel_rfl) ?_
      obtain ⟨x6, hx, H⟩ := bd H
      refine qy rfl (zi T_ok .i64 (enc := eS) (l := a0) (e := 9) (n := 1) (ei := ti9) (sa := (.p (.sl 1 ByteArray eS a0))) hx rfl (by kernel_rfl) (by kernel_rfl) rfl (by kernel_rfl) (by kernel_rfl) (by kernel_rfl)) rfl (by kernel_rfl) rfl ?_
      clear hx
      refine qm T_ok 1 (k := 5) (by kernel_rfl) (by kernel_rfl) (by kernel_rfl) ?_
      obtain ⟨x7, hx, H⟩ := bd H
      refine qy rfl (zc (T := T) (hunk_Lines_1.ok x6 _ hx) Try.func28 rfl rfl (caps := []) (by kernel_rfl) (by kernel_rfl) (by kernel_rfl) (by kernel_rfl) (by kernel_rfl) (by kernel_rfl)) rfl (by kernel_rfl) rfl ?_
      clear hx
      refine qz T_ok 0 [0, 1, 5, 7, 8, 16] 0 (E2 := [(0, [], .p (.sl 1 ByteArray eS a0)), (1, [], .fn 28 []), (5, [], vi x3), (7, [], vi (a0.length : Int)), (8, [], vi x3), (16, [], vb x7)]) (h1 := []) (by kernel_rfl) (by kernel_rfl) (by kernel_rfl) (by kernel_rfl) (by kernel_rfl) ?_
      refine qi (t := x7) (by kernel_rfl) (fun c => ?_) (fun c => ?_)
      · rw [if_pos c] at H
        clear c
        refine qs ?_
        refine qr T_ok [4] (E2 := [(4, [], vi x3)]) (by kernel_rfl) ?_
        refine qt ?_
        obtain rfl := Option.some.inj H
        exact ⟨vi x3, by kernel_rfl, rfl⟩
      · rw [if_neg (by rw [c]; exact Bool.false_ne_true)] at H
        clear c
        refine qw [0, 1, 7, 8] rfl ?_
        refine qk ?_
        refine qr T_ok [0, 1, 7, 8] (E2 := [(0, [], .p (.sl 1 ByteArray eS a0)), (1, [], .fn 28 []), (7, [], vi (a0.length : Int)), (8, [], vi (w64 (x3 + 1)))]) (by kernel_rfl) ?_
        exact ⟨_, Nat.lt_succ_self _, w64 (x3 + 1), rfl, rfl, H⟩
    · rw [if_neg (of_decide_eq_false c)] at H
      clear c
      refine qw [] rfl ?_
      refine qx ?_
      refine qs ?_
      refine qr T_ok [4] (E2 := [(4, [], vi (-1))]) (by kernel_rfl) ?_
      refine qt ?_
      obtain rfl := Option.some.inj H
      exact ⟨vi (-1), by kernel_rfl, rfl⟩
/-! ### slices.ContainsFunc[[]string,string]: function 27 -/
def slices_ContainsFunc_string_string_hunk_Lines_1.f (k : Nat) (a0 : List ByteArray) : Option Bool := ((slices_IndexFunc_string_string_hunk_Lines_1.f k a0).bind fun x1 => some (decide (x1 ≥ 0)))
theorem slices_ContainsFunc_string_string_hunk_Lines_1.ok (k : Nat) (a0 : List ByteArray) (r : Bool) (H : slices_ContainsFunc_string_string_hunk_Lines_1.f k a0 = some r) : PF Try.prog 27 [.p (.sl 1 ByteArray eS a0), .fn 28 []] (vb r) := by
  refine PF_mk T_ok Try.func27 rfl (by kernel_rfl) (by kernel_rfl) ?_
  unfold slices_ContainsFunc_string_string_hunk_Lines_1.f at H
  refine qs ?_
  refine qr T_ok [0, 1] (E2 := [(0, [], .p (.sl 1 ByteArray eS a0)), (1, [], .fn 28 [])]) (by kernel_rfl) ?_
  refine qs ?_
  refine qg ?_
  refine qm T_ok 2 (k := 2) (by kernel_rfl) (by kernel_rfl) (by kernel_rfl) ?_
  obtain ⟨x1, hx, H⟩ := bd H
  refine qy rfl (zc (T := T) (slices_IndexFunc_string_string_hunk_Lines_1.ok k a0 _ hx) Try.func37 rfl rfl (caps := []) (by kernel_rfl) (by kernel_rfl) (by kernel_rfl) (by kernel_rfl) (by kernel_rfl) (by kernel_rfl)) rfl (by kernel_rfl) rfl ?_
  clear hx
  refine qz T_ok 2 [4] 0 (E2 := [(4, [], vb (decide (x1 ≥ 0)))]) (h1 := []) (by kernel_rfl) (by kernel_rfl) (by kernel_rfl) (by kernel_rfl) (by kernel_rfl) ?_
  refine qt ?_
  obtain rfl := Option.some.inj H
  exact ⟨vb (decide (x1 ≥ 0)), by kernel_rfl, rfl⟩
/-! ### quitclaim/hunk.Lines: function 12 -/
def hunk_Lines.f (k : Nat) (a0 : List ByteArray) : Option Bool := ((gd (decide ((a0.length : Int) ≤ 1000)) (slices_ContainsFunc_string_string_hunk_Lines_1.f k a0)).bind fun x1 => some (decide ((a0.length : Int) ≤ 1000) && !x1))
theorem hunk_Lines.ok (k : Nat) (a0 : List ByteArray) (r : Bool) (H : hunk_Lines.f k a0 = some r) : PF Try.prog 12 [.p (.sl 1 ByteArray eS a0)] (vb r) := by
  refine PF_mk T_ok Try.func12 rfl (by kernel_rfl) (by kernel_rfl) ?_
  unfold hunk_Lines.f at H
  refine qs ?_
  refine qr T_ok [0] (E2 := [(0, [], .p (.sl 1 ByteArray eS a0))]) (by kernel_rfl) ?_
  refine qs ?_
  refine qg ?_
  refine qm T_ok 5 (k := 5) (by kernel_rfl) (by kernel_rfl) (by kernel_rfl) ?_
  obtain ⟨x1, hx, H⟩ := bd H
  refine qyg rfl (tg := []) (Yld.under (u := 6) (b := true) (t := decide ((a0.length : Int) ≤ 1000)) (by kernel_rfl) (by simp) fun g0_ => (zc (T := T) (slices_ContainsFunc_string_string_hunk_Lines_1.ok k a0 _ (gd1 hx g0_)) Try.func27 rfl rfl (caps := []) (by kernel_rfl) (by kernel_rfl) (by kernel_rfl) (by kernel_rfl) (by kernel_rfl) (by kernel_rfl))) rfl rfl (by kernel_rfl) (by kernel_rfl) rfl ?_
  clear hx
  refine qz T_ok 3 [2] 0 (E2 := [(2, [], vb (decide ((a0.length : Int) ≤ 1000) && !x1))]) (h1 := []) (by kernel_rfl) (by kernel_rfl) (by kernel_rfl) (by kernel_rfl) (by kernel_rfl) ?_
  refine qt ?_
  obtain rfl := Option.some.inj H
  exact ⟨vb (decide ((a0.length : Int) ≤ 1000) && !x1), by kernel_rfl, rfl⟩
/-! ### quitclaim/hunk.Right: function 14 -/
def hunk_Right.f (k : Nat) (a0 : S_At_Old_New) : Option Bool := ((gd (decide (a0.f0_At ≥ 0) && decide (a0.f0_At ≤ 1000)) (hunk_Lines.f k a0.f1_Old)).bind fun x1 => ((gd ((decide (a0.f0_At ≥ 0) && decide (a0.f0_At ≤ 1000)) && x1) (hunk_Lines.f k a0.f2_New)).bind fun x2 => some ((((decide (a0.f0_At ≥ 0) && decide (a0.f0_At ≤ 1000)) && x1) && x2) && decide (w64 ((a0.f1_Old.length : Int) + (a0.f2_New.length : Int)) > 0))))
theorem hunk_Right.ok (k : Nat) (a0 : S_At_Old_New) (r : Bool) (H : hunk_Right.f k a0 = some r) : PF Try.prog 14 [.p (.agg [(.s (.int .i64 a0.f0_At)), (.sl 1 ByteArray eS a0.f1_Old), (.sl 1 ByteArray eS a0.f2_New)])] (vb r) := by
  refine PF_mk T_ok Try.func14 rfl (by kernel_rfl) (by kernel_rfl) ?_
  unfold hunk_Right.f at H
  refine qs ?_
  refine qg ?_
  refine xb (T := T) (j := 0) (cs := [vi a0.f0_At, .p (.sl 1 ByteArray eS a0.f1_Old), .p (.sl 1 ByteArray eS a0.f2_New)]) rfl rfl rfl rfl (by kernel_rfl) (by kernel_rfl) rfl ?_
  refine qz T_ok 1 [1] 1 (E2 := [(1, [], .ptr 0 0)]) (h1 := [.cells 24 [vi a0.f0_At, .p (.sl 1 ByteArray eS a0.f1_Old), .p (.sl 1 ByteArray eS a0.f2_New)]]) (by kernel_rfl) (by kernel_rfl) (by kernel_rfl) (by kernel_rfl) (by kernel_rfl) ?_
  refine qs ?_
  refine qg ?_
  refine qm T_ok 11 (k := 11) (by kernel_rfl) (by kernel_rfl) (by kernel_rfl) ?_
  obtain ⟨x1, hx, H⟩ := bd H
  refine qyg rfl (tg := []) (Yld.under (u := 11) (b := true) (t := (decide (a0.f0_At ≥ 0) && decide (a0.f0_At ≤ 1000))) (by kernel_rfl) (by simp) fun g0_ => (zc (T := T) (hunk_Lines.ok k a0.f1_Old _ (gd1 hx g0_)) Try.func12 rfl rfl (caps := []) (by kernel_rfl) (by kernel_rfl) (by kernel_rfl) (by kernel_rfl) (by kernel_rfl) (by kernel_rfl))) rfl rfl (by kernel_rfl) (by kernel_rfl) rfl ?_
  clear hx
  refine qm T_ok 4 (k := 16) (by kernel_rfl) (by kernel_rfl) (by kernel_rfl) ?_
  obtain ⟨x2, hx, H⟩ := bd H
  refine qyg rfl (tg := []) (Yld.under (u := 16) (b := true) (t := ((decide (a0.f0_At ≥ 0) && decide (a0.f0_At ≤ 1000)) && x1)) (by kernel_rfl) (by simp) fun g0_ => (zc (T := T) (hunk_Lines.ok k a0.f2_New _ (gd1 hx g0_)) Try.func12 rfl rfl (caps := []) (by kernel_rfl) (by kernel_rfl) (by kernel_rfl) (by kernel_rfl) (by kernel_rfl) (by kernel_rfl))) rfl rfl (by kernel_rfl) (by kernel_rfl) rfl ?_
  clear hx
  refine qz T_ok 12 [2] 0 (E2 := [(2, [], vb ((((decide (a0.f0_At ≥ 0) && decide (a0.f0_At ≤ 1000)) && x1) && x2) && decide (w64 ((a0.f1_Old.length : Int) + (a0.f2_New.length : Int)) > 0)))]) (h1 := []) (by kernel_rfl) (by kernel_rfl) (by kernel_rfl) (by kernel_rfl) (by kernel_rfl) ?_
  refine qt ?_
  obtain rfl := Option.some.inj H
  exact ⟨vb ((((decide (a0.f0_At ≥ 0) && decide (a0.f0_At ≤ 1000)) && x1) && x2) && decide (w64 ((a0.f1_Old.length : Int) + (a0.f2_New.length : Int)) > 0)), by kernel_rfl, rfl⟩
/-! ### slices.Equal[[]string,string]: function 34 -/
def slices_Equal_string_string.l0 (a0 : List ByteArray) (a1 : List ByteArray) : Nat → Int → Option Bool
  | 0, _ => none
  | k + 1, x3 => (if x3 < (a0.length : Int) then ((ix a0 x3).bind fun x6 => ((ix a1 x3).bind fun x7 => (if (!decide (x6 = x7)) = true then some false else slices_Equal_string_string.l0 a0 a1 k (w64 (x3 + 1))))) else some true)
def slices_Equal_string_string.f (k : Nat) (a0 : List ByteArray) (a1 : List ByteArray) : Option Bool := (if (!decide ((a0.length : Int) = (a1.length : Int))) = true then some false else slices_Equal_string_string.l0 a0 a1 k 0)
theorem slices_Equal_string_string.ok (k : Nat) (a0 : List ByteArray) (a1 : List ByteArray) (r : Bool) (H : slices_Equal_string_string.f k a0 a1 = some r) : PF Try.prog 34 [.p (.sl 1 ByteArray eS a0), .p (.sl 1 ByteArray eS a1)] (vb r) := by
  refine PF_mk T_ok Try.func34 rfl (by kernel_rfl) (by kernel_rfl) ?_
  unfold slices_Equal_string_string.f at H
  refine qs ?_
  refine qr T_ok [0, 1] (E2 := [(0, [], .p (.sl 1 ByteArray eS a0)), (1, [], .p (.sl 1 ByteArray eS a1))]) (by kernel_rfl) ?_
  refine qs ?_
  refine qs ?_
  refine qr T_ok [0, 1, 10] (E2 := [(0, [], .p (.sl 1 ByteArray eS a0)), (1, [], .p (.sl 1 ByteArray eS a1)), (10, [], vb (!decide ((a0.length : Int) = (a1.length : Int))))]) (by kernel_rfl) ?_
  refine qi (t := !decide ((a0.length : Int) = (a1.length : Int))) (by kernel_rfl) (fun c => ?_) (fun c => ?_)
  · rw [if_pos c] at H
    clear c
    refine qs ?_
    refine qr T_ok [4] (E2 := [(4, [], vb false)]) (by kernel_rfl) ?_
    refine qt ?_
    obtain rfl := Option.some.inj H
    exact ⟨vb false, by kernel_rfl, rfl⟩
  · rw [if_neg (by rw [c]; exact Bool.false_ne_true)] at H
    clear c
    refine qw [0, 1] rfl ?_
    refine qk ?_
    refine qs ?_
    refine qs ?_
    refine qr T_ok [0, 1, 12, 13] (E2 := [(0, [], .p (.sl 1 ByteArray eS a0)), (1, [], .p (.sl 1 ByteArray eS a1)), (12, [], vi (a0.length : Int)), (13, [], vi 0)]) (by kernel_rfl) ?_
    refine qb ?_
    refine qp (fun k E h => ∃ x3 : Int, E = [(0, [], .p (.sl 1 ByteArray eS a0)), (1, [], .p (.sl 1 ByteArray eS a1)), (12, [], vi (a0.length : Int)), (13, [], vi x3)] ∧ h = [] ∧ slices_Equal_string_string.l0 a0 a1 k x3 = some r) k ⟨0, rfl, rfl, H⟩ ?_
    clear H
    rintro k E h ⟨x3, rfl, rfl, H⟩
    cases k with
    | zero => exact nomatch (show none = some r from H)
    | succ k =>
      rw [slices_Equal_string_string.l0] at H
      refine qs ?_
      refine qr T_ok [0, 1, 12, 13, 14] (E2 := [(0, [], .p (.sl 1 ByteArray eS a0)), (1, [], .p (.sl 1 ByteArray eS a1)), (12, [], vi (a0.length : Int)), (13, [], vi x3), (14, [], vb (decide (x3 < (a0.length : Int))))]) (by kernel_rfl) ?_
      refine qs ?_
      refine qi (t := decide (x3 < (a0.length : Int))) (by kernel_rfl) (fun c => ?_) (fun c => ?_)
      · rw [if_pos (of_decide_eq_true c)] at H
        clear c
        refine qw [0, 1, 12, 13] rfl ?_
        refine qk ?_
        refine qs ?_
        refine qb ?_
        refine qs ?_
        refine qr T_ok [0, 1, 5, 12, 13] (E2 := [(0, [], .p (.sl 1 ByteArray eS a0)), (1, [], .p (.sl 1 ByteArray eS a1)), (5, [], vi x3), (12, [], vi (a0.length : Int)), (13, [], vi x3)]) (by kernel_rfl) ?_
        refine qs ?_
        refine qd (by kernel_rfl) 9 (by kernel_rfl) (by kernel_rfl) (by kernel_rfl) (by kernel_rfl) (by kernel_rfl) ?_
        refine dm T_ok 2 (k := 2) (by kernel_rfl) (by kernel_rfl) ?_
        obtain ⟨x6, hx, H⟩ := bd H
        refine dy rfl (zi T_ok .i64 (enc := eS) (l := a0) (e := 9) (n := 1) (ei := ti9) (sa := (.p (.sl 1 ByteArray eS a0))) hx rfl (by kernel_rfl) (by kernel_rfl) rfl (by kernel_rfl) (by kernel_rfl) (by kernel_rfl)) rfl (by kernel_rfl) rfl ?_
        clear hx
        refine dm T_ok 3 (k := 6) (by kernel_rfl) (by kernel_rfl) ?_
        obtain ⟨x7, hx, H⟩ := bd H
        refine dy rfl (zi T_ok .i64 (enc := eS) (l := a1) (e := 9) (n := 1) (ei := ti9) (sa := (.p (.sl 1 ByteArray eS a1))) hx rfl (by kernel_rfl) (by kernel_rfl) rfl (by kernel_rfl) (by kernel_rfl) (by kernel_rfl)) rfl (by kernel_rfl) rfl ?_
        clear hx
        refine dm T_ok 2 (k := 9) (by kernel_rfl) (by kernel_rfl) ?_
        refine dn ?_
        refine qz T_ok 0 [0, 1, 12, 13, 24] 0 (E2 := [(0, [], .p (.sl 1 ByteArray eS a0)), (1, [], .p (.sl 1 ByteArray eS a1)), (12, [], vi (a0.length : Int)), (13, [], vi x3), (24, [], vb (!decide (x6 = x7)))]) (h1 := []) (by kernel_rfl) (by kernel_rfl) (by kernel_rfl) (by kernel_rfl) (by kernel_rfl) ?_
        refine qi (t := !decide (x6 = x7)) (by kernel_rfl) (fun c => ?_) (fun c => ?_)
        · rw [if_pos c] at H
          clear c
          refine qs ?_
          refine qr T_ok [4] (E2 := [(4, [], vb false)]) (by kernel_rfl) ?_
          refine qt ?_
          obtain rfl := Option.some.inj H
          exact ⟨vb false, by kernel_rfl, rfl⟩
        · rw [if_neg (by rw [c]; exact Bool.false_ne_true)] at H
          clear c
          refine qw [0, 1, 12, 13] rfl ?_
          refine qk ?_
          refine qr T_ok [0, 1, 12, 13] (E2 := [(0, [], .p (.sl 1 ByteArray eS a0)), (1, [], .p (.sl 1 ByteArray eS a1)), (12, [], vi (a0.length : Int)), (13, [], vi (w64 (x3 + 1)))]) (by kernel_rfl) ?_
          exact ⟨_, Nat.lt_succ_self _, w64 (x3 + 1), rfl, rfl, H⟩
      · rw [if_neg (of_decide_eq_false c)] at H
        clear c
        refine qw [] rfl ?_
        refine qx ?_
        refine qs ?_
        refine qr T_ok [4] (E2 := [(4, [], vb true)]) (by kernel_rfl) ?_
        refine qt ?_
        obtain rfl := Option.some.inj H
        exact ⟨vb true, by kernel_rfl, rfl⟩
/-! ### quitclaim/hunk.stands: function 25 -/
def hunk_stands.f (k : Nat) (a0 : List ByteArray) (a1 : Int) (a2 : List ByteArray) : Option Bool := ((gd (decide (a1 ≤ (a0.length : Int)) && decide ((a2.length : Int) ≤ w64 ((a0.length : Int) - a1))) (cut a0 a1 (w64 (a1 + (a2.length : Int))))).bind fun x1 => ((gd (decide (a1 ≤ (a0.length : Int)) && decide ((a2.length : Int) ≤ w64 ((a0.length : Int) - a1))) (slices_Equal_string_string.f k x1 a2)).bind fun x2 => some ((decide (a1 ≤ (a0.length : Int)) && decide ((a2.length : Int) ≤ w64 ((a0.length : Int) - a1))) && x2)))
theorem hunk_stands.ok (k : Nat) (a0 : List ByteArray) (a1 : Int) (a2 : List ByteArray) (r : Bool) (H : hunk_stands.f k a0 a1 a2 = some r) : PF Try.prog 25 [.p (.sl 1 ByteArray eS a0), vi a1, .p (.sl 1 ByteArray eS a2)] (vb r) := by
  refine PF_mk T_ok Try.func25 rfl (by kernel_rfl) (by kernel_rfl) ?_
  unfold hunk_stands.f at H
  refine qs ?_
  refine qr T_ok [0, 1, 2] (E2 := [(0, [], .p (.sl 1 ByteArray eS a0)), (1, [], vi a1), (2, [], .p (.sl 1 ByteArray eS a2))]) (by kernel_rfl) ?_
  refine qs ?_
  refine qg ?_
  refine qm T_ok 20 (k := 20) (by kernel_rfl) (by kernel_rfl) (by kernel_rfl) ?_
  obtain ⟨x1, hx, H⟩ := bd H
  refine qyg rfl (tg := []) (Yld.under (u := 20) (b := true) (t := (decide (a1 ≤ (a0.length : Int)) && decide ((a2.length : Int) ≤ w64 ((a0.length : Int) - a1)))) (by kernel_rfl) (by simp) fun g0_ => (zt T_ok (enc := eS) (l := a0) (e := 9) (n := 1) (ei := ti9) (sa := (.p (.sl 1 ByteArray eS a0))) (gd1 hx g0_) rfl (by kernel_rfl) (by kernel_rfl) rfl (by kernel_rfl) (by kernel_rfl) ⟨.i64, by kernel_rfl⟩ ⟨.i64, by kernel_rfl⟩)) rfl rfl (by kernel_rfl) (by kernel_rfl) rfl ?_
  clear hx
  refine qm T_ok 1 (k := 22) (by kernel_rfl) (by kernel_rfl) (by kernel_rfl) ?_
  obtain ⟨x2, hx, H⟩ := bd H
  refine qyg rfl (tg := []) (Yld.under (u := 20) (b := true) (t := (decide (a1 ≤ (a0.length : Int)) && decide ((a2.length : Int) ≤ w64 ((a0.length : Int) - a1)))) (by kernel_rfl) (by simp) fun g0_ => (zc (T := T) (slices_Equal_string_string.ok k x1 a2 _ (gd1 hx g0_)) Try.func34 rfl rfl (caps := []) (by kernel_rfl) (by kernel_rfl) (by kernel_rfl) (by kernel_rfl) (by kernel_rfl) (by kernel_rfl))) rfl rfl (by kernel_rfl) (by kernel_rfl) rfl ?_
  clear hx
  refine qz T_ok 2 [6] 0 (E2 := [(6, [], vb ((decide (a1 ≤ (a0.length : Int)) && decide ((a2.length : Int) ≤ w64 ((a0.length : Int) - a1))) && x2))]) (h1 := []) (by kernel_rfl) (by kernel_rfl) (by kernel_rfl) (by kernel_rfl) (by kernel_rfl) ?_
  refine qt ?_
  obtain rfl := Option.some.inj H
  exact ⟨vb ((decide (a1 ≤ (a0.length : Int)) && decide ((a2.length : Int) ≤ w64 ((a0.length : Int) - a1))) && x2), by kernel_rfl, rfl⟩
/-! ### slices.Grow[[]string,string]: function 36 -/
theorem slices_Grow_string_string.ok (a1 : Int) (u : Unit) (H : grw 16 a1 = some u) : PO Try.prog 36 [.p (.s (.slice none 0 0)), vi a1] 9 1 (ByteArray) eS [] := by
  obtain ⟨h0, h1, h2⟩ := grw_of H
  refine PO_mk T_ok Try.func36 rfl (by kernel_rfl) ?_
  refine qs ?_
  refine qg ?_
  refine qm T_ok 1 (k := 1) (by kernel_rfl) (by kernel_rfl) (by kernel_rfl) ?_
  refine WL_keep [0, 1] (E1 := [(0, [], .p (.s (.slice none 0 0))), (1, [], vi a1)]) (by kernel_rfl) (WL_nil (by kernel_rfl) ?_)
  refine qs ?_
  refine qs ?_
  refine qr T_ok [0, 1, 6] (E2 := [(0, [], .p (.s (.slice none 0 0))), (1, [], vi a1), (6, [], vb (decide (a1 < 0)))]) (by kernel_rfl) ?_
  refine qi0 (t := decide (a1 < 0)) (by kernel_rfl) (decide_eq_false (by omega)) ?_
  refine qw [0, 1] rfl ?_
  refine qk ?_
  refine qs ?_
  refine qs ?_
  refine qg ?_
  refine qm T_ok 1 (k := 1) (by kernel_rfl) (by kernel_rfl) (by kernel_rfl) ?_
  refine qy rfl (y_mv0 (s := .p (.s (.slice none 0 0))) (by kernel_rfl) (.inl rfl)) rfl (by kernel_rfl) rfl ?_
  refine qy rfl (y_cap0 T_ok (e := 9) rfl rfl rfl rfl (by kernel_rfl) (by kernel_rfl)) rfl (by kernel_rfl) rfl ?_
  refine qm T_ok 4 (k := 7) (by kernel_rfl) (by kernel_rfl) (by kernel_rfl) ?_
  refine qe T_ok 1 [0, 1] (E2 := [(0, [], .p (.s (.slice none 0 0))), (1, [], vi (w64 (a1 - w64 (0 - (([] : List (ByteArray)).length : Int)))))]) (by kernel_rfl) (by kernel_rfl) ?_
  have hw : w64 (a1 - w64 (0 - (([] : List (ByteArray)).length : Int))) = a1 := by
    simp only [w64, IntKind.wrap_i64, List.length_nil]
    omega
  rw [hw]
  refine qs ?_
  refine qr T_ok [0, 1, 16] (E2 := [(0, [], .p (.s (.slice none 0 0))), (1, [], vi a1), (16, [], vb (decide (a1 > 0)))]) (by kernel_rfl) ?_
  refine qi (t := decide (a1 > 0)) (by kernel_rfl) (fun c => ?_) (fun c => ?_)
  · have c := of_decide_eq_true c
    obtain ⟨k, rfl⟩ : ∃ k : Nat, a1 = (k : Int) := ⟨a1.toNat, by omega⟩
    refine qg ?_
    refine qy rfl (y_mv0 (s := .p (.s (.slice none 0 0))) (by kernel_rfl) (.inl rfl)) rfl (by kernel_rfl) rfl ?_
    refine qy rfl (y_mv0 (s := .p (.s (.slice none 0 0))) (by kernel_rfl) (.inl rfl)) rfl (by kernel_rfl) rfl ?_
    refine qy rfl (y_cap0 T_ok (e := 9) rfl rfl rfl rfl (by kernel_rfl) (by kernel_rfl)) rfl (by kernel_rfl) rfl ?_
    refine qy rfl (y_cut0 T_ok (e := 9) (ei := ti9) rfl (by kernel_rfl) (by kernel_rfl) (by kernel_rfl) (by kernel_rfl)) rfl (by kernel_rfl) rfl ?_
    refine qm T_ok 1 (k := 5) (by kernel_rfl) (by kernel_rfl) (by kernel_rfl) ?_
    refine xz T_ok (e := 9) (k := k) (ku := .i64) (ei := ti9) (j := 0) rfl rfl rfl rfl rfl rfl rfl (by kernel_rfl) (by kernel_rfl) (by kernel_rfl) (by kernel_rfl) (by kernel_rfl) (by kernel_rfl) rfl (by omega) (by kernel_rfl) (by kernel_rfl) (by show k * 16 ≤ _; omega) ?_
    refine qm T_ok 2 (k := 8) (by kernel_rfl) (by kernel_rfl) (by kernel_rfl) ?_
    refine xr T_ok (e := 9) (n := 1) (k := k) (ei := ti9) (j := 0) eS rfl rfl rfl (by kernel_rfl) (by kernel_rfl) (by kernel_rfl) (by kernel_rfl) (by kernel_rfl) ?_
    refine qe T_ok 1 [0] (E2 := [(0, [], .own 9 1 (ByteArray) eS [] 0)]) (by kernel_rfl) (by kernel_rfl) ?_
    refine qs ?_
    refine qr T_ok [4] (E2 := [(4, [], .own 9 1 (ByteArray) eS [] 0)]) (by kernel_rfl) ?_
    refine qt ?_
    exact ⟨.own 9 1 (ByteArray) eS [] 0, by kernel_rfl, rfl, rfl⟩
  · refine qw [0] rfl ?_
    refine qk ?_
    refine qs ?_
    refine qg ?_
    refine qy rfl (y_mv0 (s := .p (.s (.slice none 0 0))) (by kernel_rfl) (.inl rfl)) rfl (by kernel_rfl) rfl ?_
    refine xo (j := 0) eS (e := 9) (n := 1) rfl (.inr rfl) rfl rfl (by kernel_rfl) (by kernel_rfl) rfl ?_
    refine WL_keep [4] (E1 := [(4, [], .own 9 1 (ByteArray) eS [] 0)]) (by kernel_rfl) (WL_nil (by kernel_rfl) ?_)
    refine qt ?_
    exact ⟨.own 9 1 (ByteArray) eS [] 0, by kernel_rfl, rfl, rfl⟩

/-! ### slices.Concat[[]string,string]: function 26 -/
def slices_Concat_string_string.l3 (a0 : List (List ByteArray)) : Nat → (List ByteArray) → Int → Option (List ByteArray)
  | 0, _, _ => none
  | k + 1, x24, x25 => (if x25 < (a0.length : Int) then ((ix a0 x25).bind fun x28 => ((app 16 x24 x28).bind fun x29 => slices_Concat_string_string.l3 a0 k x29 (w64 (x25 + 1)))) else some x24)
def slices_Concat_string_string.l2 (a0 : List (List ByteArray)) : Nat → Int → Int → Option (List ByteArray)
  | 0, _, _ => none
  | k + 1, x10, x11 => (if x11 < (a0.length : Int) then ((ix a0 x11).bind fun x21 => (if w64 (x10 + (x21.length : Int)) < 0 then none else slices_Concat_string_string.l2 a0 k (w64 (x10 + (x21.length : Int))) (w64 (x11 + 1)))) else ((grw 16 x10).bind fun _ => slices_Concat_string_string.l3 a0 k [] 0))
def slices_Concat_string_string.f (k : Nat) (a0 : List (List ByteArray)) : Option (List ByteArray) := slices_Concat_string_string.l2 a0 k 0 0
theorem slices_Concat_string_string.ok (k : Nat) (a0 : List (List ByteArray)) (r : List ByteArray) (H : slices_Concat_string_string.f k a0 = some r) : PF Try.prog 26 [.p (.sl 1 (List ByteArray) (eL 1 eS) a0)] (.p (.sl 1 ByteArray eS r)) := by
  refine PF_mk T_ok Try.func26 rfl (by kernel_rfl) (by kernel_rfl) ?_
  unfold slices_Concat_string_string.f at H
  refine qs ?_
  refine qr T_ok [0] (E2 := [(0, [], .p (.sl 1 (List ByteArray) (eL 1 eS) a0))]) (by kernel_rfl) ?_
  refine qs ?_
  refine qr T_ok [0, 3] (E2 := [(0, [], .p (.sl 1 (List ByteArray) (eL 1 eS) a0)), (3, [], vi 0)]) (by kernel_rfl) ?_
  refine qs ?_
  refine qs ?_
  refine qr T_ok [0, 3, 9, 10, 11] (E2 := [(0, [], .p (.sl 1 (List ByteArray) (eL 1 eS) a0)), (3, [], vi 0), (9, [], .p (.sl 1 (List ByteArray) (eL 1 eS) a0)), (10, [], vi (a0.length : Int)), (11, [], vi 0)]) (by kernel_rfl) ?_
  refine qb ?_
  refine qp (fun k E h => ∃ x10 : Int, ∃ x11 : Int, E = [(0, [], .p (.sl 1 (List ByteArray) (eL 1 eS) a0)), (3, [], vi x10), (9, [], .p (.sl 1 (List ByteArray) (eL 1 eS) a0)), (10, [], vi (a0.length : Int)), (11, [], vi x11)] ∧ h = [] ∧ slices_Concat_string_string.l2 a0 k x10 x11 = some r) k ⟨0, 0, rfl, rfl, H⟩ ?_
  clear H
  rintro k E h ⟨x10, x11, rfl, rfl, H⟩
  cases k with
  | zero => exact nomatch (show none = some r from H)
  | succ k =>
    rw [slices_Concat_string_string.l2] at H
    refine qs ?_
    refine qr T_ok [0, 3, 9, 10, 11, 12] (E2 := [(0, [], .p (.sl 1 (List ByteArray) (eL 1 eS) a0)), (3, [], vi x10), (9, [], .p (.sl 1 (List ByteArray) (eL 1 eS) a0)), (10, [], vi (a0.length : Int)), (11, [], vi x11), (12, [], vb (decide (x11 < (a0.length : Int))))]) (by kernel_rfl) ?_
    refine qs ?_
    refine qi (t := decide (x11 < (a0.length : Int))) (by kernel_rfl) (fun c => ?_) (fun c => ?_)
    · rw [if_pos (of_decide_eq_true c)] at H
      clear c
      refine qw [0, 3, 9, 10, 11] rfl ?_
      refine qk ?_
      refine qs ?_
      refine qb ?_
      refine qs ?_
      refine qg ?_
      obtain ⟨x21, hx, H⟩ := bd H
      refine qy rfl (zi T_ok .i64 (enc := (eL 1 eS)) (l := a0) (e := 22) (n := 1) (ei := ti22) (sa := (.p (.sl 1 (List ByteArray) (eL 1 eS) a0))) hx rfl (by kernel_rfl) (by kernel_rfl) rfl (by kernel_rfl) (by kernel_rfl) (by kernel_rfl)) rfl (by kernel_rfl) rfl ?_
      clear hx
      refine qz T_ok 2 [0, 3, 5, 9, 10, 11] 0 (E2 := [(0, [], .p (.sl 1 (List ByteArray) (eL 1 eS) a0)), (3, [], vi x10), (5, [], .p (.sl 1 ByteArray eS x21)), (9, [], .p (.sl 1 (List ByteArray) (eL 1 eS) a0)), (10, [], vi (a0.length : Int)), (11, [], vi x11)]) (h1 := []) (by kernel_rfl) (by kernel_rfl) (by kernel_rfl) (by kernel_rfl) (by kernel_rfl) ?_
      refine qs ?_
      refine qr T_ok [0, 3, 9, 10, 11] (E2 := [(0, [], .p (.sl 1 (List ByteArray) (eL 1 eS) a0)), (3, [], vi (w64 (x10 + (x21.length : Int)))), (9, [], .p (.sl 1 (List ByteArray) (eL 1 eS) a0)), (10, [], vi (a0.length : Int)), (11, [], vi x11)]) (by kernel_rfl) ?_
      refine qs ?_
      refine qr T_ok [0, 3, 9, 10, 11, 20] (E2 := [(0, [], .p (.sl 1 (List ByteArray) (eL 1 eS) a0)), (3, [], vi (w64 (x10 + (x21.length : Int)))), (9, [], .p (.sl 1 (List ByteArray) (eL 1 eS) a0)), (10, [], vi (a0.length : Int)), (11, [], vi x11), (20, [], vb (decide (w64 (x10 + (x21.length : Int)) < 0)))]) (by kernel_rfl) ?_
      refine qi (t := decide (w64 (x10 + (x21.length : Int)) < 0)) (by kernel_rfl) (fun c => ?_) (fun c => ?_)
      · rw [if_pos (of_decide_eq_true c)] at H
        clear c
        exact nomatch (show none = some r from H)
      · rw [if_neg (of_decide_eq_false c)] at H
        clear c
        refine qw [0, 3, 9, 10, 11] rfl ?_
        refine qk ?_
        refine qr T_ok [0, 3, 9, 10, 11] (E2 := [(0, [], .p (.sl 1 (List ByteArray) (eL 1 eS) a0)), (3, [], vi (w64 (x10 + (x21.length : Int)))), (9, [], .p (.sl 1 (List ByteArray) (eL 1 eS) a0)), (10, [], vi (a0.length : Int)), (11, [], vi (w64 (x11 + 1)))]) (by kernel_rfl) ?_
        exact ⟨_, Nat.lt_succ_self _, w64 (x10 + (x21.length : Int)), w64 (x11 + 1), rfl, rfl, H⟩
    · rw [if_neg (of_decide_eq_false c)] at H
      clear c
      refine qw [0, 3] rfl ?_
      refine qx ?_
      refine qs ?_
      refine qg ?_
      refine qm T_ok 1 (k := 1) (by kernel_rfl) (by kernel_rfl) (by kernel_rfl) ?_
      obtain ⟨u_, hx, H⟩ := bd H
      refine xc (j := 0) (slices_Grow_string_string.ok x10 _ hx) Try.func36 rfl rfl rfl rfl rfl (by kernel_rfl) (by kernel_rfl) (by kernel_rfl) (by kernel_rfl) (by kernel_rfl) (by kernel_rfl) rfl ?_
      clear hx
      refine qz T_ok 1 [0, 6] 1 (E2 := [(0, [], .p (.sl 1 (List ByteArray) (eL 1 eS) a0)), (6, [], .own 9 1 ByteArray eS [] 0)]) (h1 := [.tail]) (by kernel_rfl) (by kernel_rfl) (by kernel_rfl) (by kernel_rfl) (by kernel_rfl) ?_
      refine qs ?_
      refine qs ?_
      refine qr T_ok [6, 25, 26, 27] (E2 := [(6, [], .own 9 1 ByteArray eS [] 0), (25, [], .p (.sl 1 (List ByteArray) (eL 1 eS) a0)), (26, [], vi (a0.length : Int)), (27, [], vi 0)]) (by kernel_rfl) ?_
      refine qb ?_
      refine qp (fun k E h => ∃ x24 : List ByteArray, ∃ x25 : Int, E = [(6, [], .own 9 1 ByteArray eS x24 0), (25, [], .p (.sl 1 (List ByteArray) (eL 1 eS) a0)), (26, [], vi (a0.length : Int)), (27, [], vi x25)] ∧ h = [.tail] ∧ slices_Concat_string_string.l3 a0 k x24 x25 = some r) k ⟨[], 0, rfl, rfl, H⟩ ?_
      clear H
      rintro k E h ⟨x24, x25, rfl, rfl, H⟩
      cases k with
      | zero => exact nomatch (show none = some r from H)
      | succ k =>
        rw [slices_Concat_string_string.l3] at H
        refine qs ?_
        refine qr T_ok [6, 25, 26, 27, 28] (E2 := [(6, [], .own 9 1 ByteArray eS x24 0), (25, [], .p (.sl 1 (List ByteArray) (eL 1 eS) a0)), (26, [], vi (a0.length : Int)), (27, [], vi x25), (28, [], vb (decide (x25 < (a0.length : Int))))]) (by kernel_rfl) ?_
        refine qs ?_
        refine qi (t := decide (x25 < (a0.length : Int))) (by kernel_rfl) (fun c => ?_) (fun c => ?_)
        · rw [if_pos (of_decide_eq_true c)] at H
          clear c
          refine qw [6, 25, 26, 27] rfl ?_
          refine qk ?_
          refine qs ?_
          refine qb ?_
          refine qs ?_
          refine qg ?_
          obtain ⟨x28, hx, H⟩ := bd H
          refine qy rfl (zi T_ok .i64 (enc := (eL 1 eS)) (l := a0) (e := 22) (n := 1) (ei := ti22) (sa := (.p (.sl 1 (List ByteArray) (eL 1 eS) a0))) hx rfl (by kernel_rfl) (by kernel_rfl) rfl (by kernel_rfl) (by kernel_rfl) (by kernel_rfl)) rfl (by kernel_rfl) rfl ?_
          clear hx
          refine qz T_ok 2 [6, 8, 25, 26, 27] 1 (E2 := [(6, [], .own 9 1 ByteArray eS x24 0), (8, [], .p (.sl 1 ByteArray eS x28)), (25, [], .p (.sl 1 (List ByteArray) (eL 1 eS) a0)), (26, [], vi (a0.length : Int)), (27, [], vi x25)]) (h1 := [.tail]) (by kernel_rfl) (by kernel_rfl) (by kernel_rfl) (by kernel_rfl) (by kernel_rfl) ?_
          refine qg ?_
          refine qm T_ok 2 (k := 2) (by kernel_rfl) (by kernel_rfl) (by kernel_rfl) ?_
          obtain ⟨x29, hx, H⟩ := bd H
          refine xp T_ok (enc := eS) (l := x24) (m := x28) (e := 9) (e' := 9) (j := 0) (ei := ti9) (sy := (.p (.sl 1 ByteArray eS x28))) hx rfl rfl rfl rfl rfl rfl rfl (by kernel_rfl) (by kernel_rfl) (by kernel_rfl) (by kernel_rfl) (by kernel_rfl) (by kernel_rfl) (by kernel_rfl) (by kernel_rfl) (by kernel_rfl) rfl ?_
          clear hx
          refine qz T_ok 1 [6, 25, 26, 27] 1 (E2 := [(6, [], .own 9 1 ByteArray eS x29 0), (25, [], .p (.sl 1 (List ByteArray) (eL 1 eS) a0)), (26, [], vi (a0.length : Int)), (27, [], vi x25)]) (h1 := [.tail]) (by kernel_rfl) (by kernel_rfl) (by kernel_rfl) (by kernel_rfl) (by kernel_rfl) ?_
          refine qr T_ok [6, 25, 26, 27] (E2 := [(6, [], .own 9 1 ByteArray eS x29 0), (25, [], .p (.sl 1 (List ByteArray) (eL 1 eS) a0)), (26, [], vi (a0.length : Int)), (27, [], vi (w64 (x25 + 1)))]) (by kernel_rfl) ?_
          exact ⟨_, Nat.lt_succ_self _, x29, w64 (x25 + 1), rfl, rfl, H⟩
        · rw [if_neg (of_decide_eq_false c)] at H
          clear c
          refine qw [6] rfl ?_
          refine qx ?_
          refine qs ?_
          refine qr T_ok [2] (E2 := [(2, [], .own 9 1 ByteArray eS x24 0)]) (by kernel_rfl) ?_
          refine qt ?_
          obtain rfl := Option.some.inj H
          exact ⟨.own 9 1 ByteArray eS x24 0, by kernel_rfl, rfl⟩
/-! ### quitclaim/hunk.Apply: function 8 -/
def hunk_Apply.f (k : Nat) (a0 : List ByteArray) (a1 : S_At_Old_New) : Option ((List ByteArray) × Int) := ((hunk_Lines.f k a0).bind fun x1 => ((gd (!(!x1)) (hunk_Right.f k a1)).bind fun x2 => (if (!x1 || !x2) = true then some ([], 3) else (if a1.f0_At > (a0.length : Int) then some ([], 5) else ((hunk_stands.f k a0 a1.f0_At a1.f1_Old).bind fun x3 => (if (!x3) = true then some ([], 12) else (if w64 ((w64 ((a0.length : Int) - (a1.f1_Old.length : Int))) + (a1.f2_New.length : Int)) > 1000 then some ([], 4) else ((cut a0 0 a1.f0_At).bind fun x4 => ((cut a0 (w64 (a1.f0_At + (a1.f1_Old.length : Int))) (a0.length : Int)).bind fun x5 => ((slices_Concat_string_string.f k [x4, a1.f2_New, x5]).bind fun x6 => some (x6, 0)))))))))))
theorem hunk_Apply.ok (k : Nat) (a0 : List ByteArray) (a1 : S_At_Old_New) (r : (List ByteArray) × Int) (H : hunk_Apply.f k a0 a1 = some r) : PF Try.prog 8 [.p (.sl 1 ByteArray eS a0), .p (.agg [(.s (.int .i64 a1.f0_At)), (.sl 1 ByteArray eS a1.f1_Old), (.sl 1 ByteArray eS a1.f2_New)])] (.tup [.p (.sl 1 ByteArray eS r.1), vi r.2]) := by
  refine PF_mk T_ok Try.func8 rfl (by kernel_rfl) (by kernel_rfl) ?_
  unfold hunk_Apply.f at H
  refine qs ?_
  refine qg ?_
  refine xb (T := T) (j := 0) (cs := [vi a1.f0_At, .p (.sl 1 ByteArray eS a1.f1_Old), .p (.sl 1 ByteArray eS a1.f2_New)]) rfl rfl rfl rfl (by kernel_rfl) (by kernel_rfl) rfl ?_
  refine qz T_ok 2 [0, 3] 1 (E2 := [(0, [], .p (.sl 1 ByteArray eS a0)), (3, [], .ptr 0 0)]) (h1 := [.cells 24 [vi a1.f0_At, .p (.sl 1 ByteArray eS a1.f1_Old), .p (.sl 1 ByteArray eS a1.f2_New)]]) (by kernel_rfl) (by kernel_rfl) (by kernel_rfl) (by kernel_rfl) (by kernel_rfl) ?_
  refine qs ?_
  refine qb ?_
  refine qs ?_
  refine qg ?_
  refine qm T_ok 1 (k := 1) (by kernel_rfl) (by kernel_rfl) (by kernel_rfl) ?_
  obtain ⟨x1, hx, H⟩ := bd H
  refine qy rfl (zc (T := T) (hunk_Lines.ok k a0 _ hx) Try.func12 rfl rfl (caps := []) (by kernel_rfl) (by kernel_rfl) (by kernel_rfl) (by kernel_rfl) (by kernel_rfl) (by kernel_rfl)) rfl (by kernel_rfl) rfl ?_
  clear hx
  refine qm T_ok 3 (k := 5) (by kernel_rfl) (by kernel_rfl) (by kernel_rfl) ?_
  obtain ⟨x2, hx, H⟩ := bd H
  refine qyg rfl (tg := []) (Yld.under (u := 10) (b := false) (t := !x1) (by kernel_rfl) (by simp) fun g0_ => (zc (T := T) (hunk_Right.ok k a1 _ (gd0 hx g0_)) Try.func14 rfl rfl (caps := []) (by kernel_rfl) (by kernel_rfl) (by kernel_rfl) (by kernel_rfl) (by kernel_rfl) (by kernel_rfl))) rfl rfl (by kernel_rfl) (by kernel_rfl) rfl ?_
  clear hx
  refine qz T_ok 3 [0, 3, 6] 1 (E2 := [(0, [], .p (.sl 1 ByteArray eS a0)), (3, [], .ptr 0 0), (6, [], vb (!x1 || !x2))]) (h1 := [.cells 24 [vi a1.f0_At, .p (.sl 1 ByteArray eS a1.f1_Old), .p (.sl 1 ByteArray eS a1.f2_New)]]) (by kernel_rfl) (by kernel_rfl) (by kernel_rfl) (by kernel_rfl) (by kernel_rfl) ?_
  refine qi (t := (!x1 || !x2)) (by kernel_rfl) (fun c => ?_) (fun c => ?_)
  · rw [if_pos c] at H
    clear c
    refine qs ?_
    refine qg ?_
    refine qz T_ok 2 [4, 5] 0 (E2 := [(4, [], .p (.sl 1 ByteArray eS [])), (5, [], vi 3)]) (h1 := []) (by kernel_rfl) (by kernel_rfl) (by kernel_rfl) (by kernel_rfl) (by kernel_rfl) ?_
    refine qt ?_
    obtain rfl := Option.some.inj H
    exact ⟨.tup [.p (.sl 1 ByteArray eS []), vi 3], by kernel_rfl, rfl⟩
  · rw [if_neg (by rw [c]; exact Bool.false_ne_true)] at H
    clear c
    refine qs ?_
    refine qr T_ok [0, 3, 15] (E2 := [(0, [], .p (.sl 1 ByteArray eS a0)), (3, [], .ptr 0 0), (15, [], vb (decide (a1.f0_At > (a0.length : Int))))]) (by kernel_rfl) ?_
    refine qi (t := decide (a1.f0_At > (a0.length : Int))) (by kernel_rfl) (fun c => ?_) (fun c => ?_)
    · rw [if_pos (of_decide_eq_true c)] at H
      clear c
      refine qs ?_
      refine qg ?_
      refine qz T_ok 2 [4, 5] 0 (E2 := [(4, [], .p (.sl 1 ByteArray eS [])), (5, [], vi 5)]) (h1 := []) (by kernel_rfl) (by kernel_rfl) (by kernel_rfl) (by kernel_rfl) (by kernel_rfl) ?_
      refine qt ?_
      obtain rfl := Option.some.inj H
      exact ⟨.tup [.p (.sl 1 ByteArray eS []), vi 5], by kernel_rfl, rfl⟩
    · rw [if_neg (of_decide_eq_false c)] at H
      clear c
      refine qs ?_
      refine qg ?_
      refine qm T_ok 5 (k := 5) (by kernel_rfl) (by kernel_rfl) (by kernel_rfl) ?_
      obtain ⟨x3, hx, H⟩ := bd H
      refine qy rfl (zc (T := T) (hunk_stands.ok k a0 a1.f0_At a1.f1_Old _ hx) Try.func25 rfl rfl (caps := []) (by kernel_rfl) (by kernel_rfl) (by kernel_rfl) (by kernel_rfl) (by kernel_rfl) (by kernel_rfl)) rfl (by kernel_rfl) rfl ?_
      clear hx
      refine qz T_ok 2 [0, 3, 21] 1 (E2 := [(0, [], .p (.sl 1 ByteArray eS a0)), (3, [], .ptr 0 0), (21, [], vb (!x3))]) (h1 := [.cells 24 [vi a1.f0_At, .p (.sl 1 ByteArray eS a1.f1_Old), .p (.sl 1 ByteArray eS a1.f2_New)]]) (by kernel_rfl) (by kernel_rfl) (by kernel_rfl) (by kernel_rfl) (by kernel_rfl) ?_
      refine qi (t := !x3) (by kernel_rfl) (fun c => ?_) (fun c => ?_)
      · rw [if_pos c] at H
        clear c
        refine qs ?_
        refine qg ?_
        refine qz T_ok 2 [4, 5] 0 (E2 := [(4, [], .p (.sl 1 ByteArray eS [])), (5, [], vi 12)]) (h1 := []) (by kernel_rfl) (by kernel_rfl) (by kernel_rfl) (by kernel_rfl) (by kernel_rfl) ?_
        refine qt ?_
        obtain rfl := Option.some.inj H
        exact ⟨.tup [.p (.sl 1 ByteArray eS []), vi 12], by kernel_rfl, rfl⟩
      · rw [if_neg (by rw [c]; exact Bool.false_ne_true)] at H
        clear c
        refine qs ?_
        refine qr T_ok [0, 3, 29] (E2 := [(0, [], .p (.sl 1 ByteArray eS a0)), (3, [], .ptr 0 0), (29, [], vb (decide (w64 ((w64 ((a0.length : Int) - (a1.f1_Old.length : Int))) + (a1.f2_New.length : Int)) > 1000)))]) (by kernel_rfl) ?_
        refine qi (t := decide (w64 ((w64 ((a0.length : Int) - (a1.f1_Old.length : Int))) + (a1.f2_New.length : Int)) > 1000)) (by kernel_rfl) (fun c => ?_) (fun c => ?_)
        · rw [if_pos (of_decide_eq_true c)] at H
          clear c
          refine qs ?_
          refine qg ?_
          refine qz T_ok 2 [4, 5] 0 (E2 := [(4, [], .p (.sl 1 ByteArray eS [])), (5, [], vi 4)]) (h1 := []) (by kernel_rfl) (by kernel_rfl) (by kernel_rfl) (by kernel_rfl) (by kernel_rfl) ?_
          refine qt ?_
          obtain rfl := Option.some.inj H
          exact ⟨.tup [.p (.sl 1 ByteArray eS []), vi 4], by kernel_rfl, rfl⟩
        · rw [if_neg (of_decide_eq_false c)] at H
          clear c
          refine qw [0, 3] rfl ?_
          refine qk ?_
          refine qs ?_
          refine qd (by kernel_rfl) 20 (by kernel_rfl) (by kernel_rfl) (by kernel_rfl) (by kernel_rfl) (by kernel_rfl) ?_
          refine dm T_ok 5 (k := 5) (by kernel_rfl) (by kernel_rfl) ?_
          obtain ⟨x4, hx, H⟩ := bd H
          refine dy rfl (zt3 T_ok (enc := eS) (l := a0) (e := 9) (n := 1) (ei := ti9) (sx := (.p (.sl 1 ByteArray eS a0))) .i64 .i64 hx rfl (by kernel_rfl) (by kernel_rfl) rfl (by kernel_rfl) (by kernel_rfl) (by kernel_rfl) (by kernel_rfl)) rfl (by kernel_rfl) rfl ?_
          clear hx
          refine dm T_ok 9 (k := 15) (by kernel_rfl) (by kernel_rfl) ?_
          obtain ⟨x5, hx, H⟩ := bd H
          refine dy rfl (zt T_ok (enc := eS) (l := a0) (e := 9) (n := 1) (ei := ti9) (sa := (.p (.sl 1 ByteArray eS a0))) hx rfl (by kernel_rfl) (by kernel_rfl) rfl (by kernel_rfl) (by kernel_rfl) ⟨.i64, by kernel_rfl⟩ rfl) rfl (by kernel_rfl) rfl ?_
          clear hx
          refine dy rfl (ze T_ok (e := 22) (n := 1) (eL 1 eS) ([x4, a1.f2_New, x5] : List (List ByteArray)) rfl (by kernel_rfl)) rfl (by kernel_rfl) rfl ?_
          obtain ⟨x6, hx, H⟩ := bd H
          refine dy rfl (zc (T := T) (slices_Concat_string_string.ok k [x4, a1.f2_New, x5] _ hx) Try.func26 rfl rfl (caps := []) (by kernel_rfl) (by kernel_rfl) (by kernel_rfl) (by kernel_rfl) (by kernel_rfl) (by kernel_rfl)) rfl (by kernel_rfl) rfl ?_
          clear hx
          refine dm T_ok 2 (k := 20) (by kernel_rfl) (by kernel_rfl) ?_
          refine dn ?_
          refine qz T_ok 0 [4, 5] 0 (E2 := [(4, [], .p (.sl 1 ByteArray eS x6)), (5, [], vi 0)]) (h1 := []) (by kernel_rfl) (by kernel_rfl) (by kernel_rfl) (by kernel_rfl) (by kernel_rfl) ?_
          refine qt ?_
          obtain rfl := Option.some.inj H
          exact ⟨.tup [.p (.sl 1 ByteArray eS x6), vi 0], by kernel_rfl, rfl⟩
/-! ### quitclaim/quitclaimlaw11.awake: function 7 -/
def quitclaimlaw11_awake.f (k : Nat)  : Option Bool := ((hunk_Apply.f k [⟨#[97]⟩, ⟨#[98]⟩] (⟨1, [⟨#[98]⟩], [⟨#[99]⟩, ⟨#[100]⟩]⟩ : S_At_Old_New)).bind fun x1 => ((gd (decide (x1.2 = 0) && decide ((x1.1.length : Int) = 3)) (ix x1.1 0)).bind fun x2 => ((gd ((decide (x1.2 = 0) && decide ((x1.1.length : Int) = 3)) && decide (x2 = ⟨#[97]⟩)) (ix x1.1 1)).bind fun x3 => ((gd (((decide (x1.2 = 0) && decide ((x1.1.length : Int) = 3)) && decide (x2 = ⟨#[97]⟩)) && decide (x3 = ⟨#[99]⟩)) (ix x1.1 2)).bind fun x4 => some ((((decide (x1.2 = 0) && decide ((x1.1.length : Int) = 3)) && decide (x2 = ⟨#[97]⟩)) && decide (x3 = ⟨#[99]⟩)) && decide (x4 = ⟨#[100]⟩))))))
theorem quitclaimlaw11_awake.ok (k : Nat)  (r : Bool) (H : quitclaimlaw11_awake.f k = some r) : PF Try.prog 7 [] (vb r) := by
  refine PF_mk T_ok Try.func7 rfl (by kernel_rfl) (by kernel_rfl) ?_
  unfold quitclaimlaw11_awake.f at H
  refine qs ?_
  refine qr T_ok [] (E2 := []) (by kernel_rfl) ?_
  refine qs ?_
  refine qg ?_
  refine qy rfl (ze T_ok (e := 9) (n := 1) eS ([⟨#[97]⟩, ⟨#[98]⟩] : List ByteArray) rfl (by kernel_rfl)) rfl (by kernel_rfl) rfl ?_
  refine qy rfl (ze T_ok (e := 9) (n := 1) eS ([⟨#[98]⟩] : List ByteArray) rfl (by kernel_rfl)) rfl (by kernel_rfl) rfl ?_
  refine qy rfl (ze T_ok (e := 9) (n := 1) eS ([⟨#[99]⟩, ⟨#[100]⟩] : List ByteArray) rfl (by kernel_rfl)) rfl (by kernel_rfl) rfl ?_
  refine qm T_ok 1 (k := 4) (by kernel_rfl) (by kernel_rfl) (by kernel_rfl) ?_
  obtain ⟨x1, hx, H⟩ := bd H
  refine qy rfl (zc (T := T) (hunk_Apply.ok k [⟨#[97]⟩, ⟨#[98]⟩] (⟨1, [⟨#[98]⟩], [⟨#[99]⟩, ⟨#[100]⟩]⟩ : S_At_Old_New) _ hx) Try.func8 rfl rfl (caps := []) (by kernel_rfl) (by kernel_rfl) (by kernel_rfl) (by kernel_rfl) (by kernel_rfl) (by kernel_rfl)) rfl (by kernel_rfl) rfl ?_
  clear hx
  refine qz T_ok 5 [1, 2] 0 (E2 := [(1, [], .p (.sl 1 ByteArray eS x1.1)), (2, [], vi x1.2)]) (h1 := []) (by kernel_rfl) (by kernel_rfl) (by kernel_rfl) (by kernel_rfl) (by kernel_rfl) ?_
  refine qs ?_
  refine qg ?_
  refine qm T_ok 9 (k := 9) (by kernel_rfl) (by kernel_rfl) (by kernel_rfl) ?_
  obtain ⟨x2, hx, H⟩ := bd H
  refine qyg rfl (tg := []) (Yld.under (u := 18) (b := true) (t := (decide (x1.2 = 0) && decide ((x1.1.length : Int) = 3))) (by kernel_rfl) (by simp) fun g0_ => (zi T_ok .i64 (enc := eS) (l := x1.1) (e := 9) (n := 1) (ei := ti9) (sa := (.p (.sl 1 ByteArray eS x1.1))) (gd1 hx g0_) rfl (by kernel_rfl) (by kernel_rfl) rfl (by kernel_rfl) (by kernel_rfl) (by kernel_rfl))) rfl rfl (by kernel_rfl) (by kernel_rfl) rfl ?_
  clear hx
  refine qm T_ok 5 (k := 15) (by kernel_rfl) (by kernel_rfl) (by kernel_rfl) ?_
  obtain ⟨x3, hx, H⟩ := bd H
  refine qyg rfl (tg := []) (Yld.under (u := 24) (b := true) (t := ((decide (x1.2 = 0) && decide ((x1.1.length : Int) = 3)) && decide (x2 = ⟨#[97]⟩))) (by kernel_rfl) (by simp) fun g0_ => (zi T_ok .i64 (enc := eS) (l := x1.1) (e := 9) (n := 1) (ei := ti9) (sa := (.p (.sl 1 ByteArray eS x1.1))) (gd1 hx g0_) rfl (by kernel_rfl) (by kernel_rfl) rfl (by kernel_rfl) (by kernel_rfl) (by kernel_rfl))) rfl rfl (by kernel_rfl) (by kernel_rfl) rfl ?_
  clear hx
  refine qm T_ok 5 (k := 21) (by kernel_rfl) (by kernel_rfl) (by kernel_rfl) ?_
  obtain ⟨x4, hx, H⟩ := bd H
  refine qyg rfl (tg := []) (Yld.under (u := 30) (b := true) (t := (((decide (x1.2 = 0) && decide ((x1.1.length : Int) = 3)) && decide (x2 = ⟨#[97]⟩)) && decide (x3 = ⟨#[99]⟩))) (by kernel_rfl) (by simp) fun g0_ => (zi T_ok .i64 (enc := eS) (l := x1.1) (e := 9) (n := 1) (ei := ti9) (sa := (.p (.sl 1 ByteArray eS x1.1))) (gd1 hx g0_) rfl (by kernel_rfl) (by kernel_rfl) rfl (by kernel_rfl) (by kernel_rfl) (by kernel_rfl))) rfl rfl (by kernel_rfl) (by kernel_rfl) rfl ?_
  clear hx
  refine qz T_ok 4 [0] 0 (E2 := [(0, [], vb ((((decide (x1.2 = 0) && decide ((x1.1.length : Int) = 3)) && decide (x2 = ⟨#[97]⟩)) && decide (x3 = ⟨#[99]⟩)) && decide (x4 = ⟨#[100]⟩)))]) (h1 := []) (by kernel_rfl) (by kernel_rfl) (by kernel_rfl) (by kernel_rfl) (by kernel_rfl) ?_
  refine qt ?_
  obtain rfl := Option.some.inj H
  exact ⟨vb ((((decide (x1.2 = 0) && decide ((x1.1.length : Int) = 3)) && decide (x2 = ⟨#[97]⟩)) && decide (x3 = ⟨#[99]⟩)) && decide (x4 = ⟨#[100]⟩)), by kernel_rfl, rfl⟩
/-! ### quitclaim/quitclaimref11.Line: function 30 -/
def quitclaimref11_Line.l0 (a0 : ByteArray) : Nat → Int → Option Bool
  | 0, _ => none
  | k + 1, x2 => (if x2 < (a0.size : Int) then ((bx a0 x2).bind fun x4 => (if x4 = 10 then some false else quitclaimref11_Line.l0 a0 k (w64 (x2 + 1)))) else some (decide ((a0.size : Int) ≤ 200)))
def quitclaimref11_Line.f (k : Nat) (a0 : ByteArray) : Option Bool := quitclaimref11_Line.l0 a0 k 0
theorem quitclaimref11_Line.ok (k : Nat) (a0 : ByteArray) (r : Bool) (H : quitclaimref11_Line.f k a0 = some r) : PF Try.prog 30 [vs a0] (vb r) := by
  refine PF_mk T_ok Try.func30 rfl (by kernel_rfl) (by kernel_rfl) ?_
  unfold quitclaimref11_Line.f at H
  refine qs ?_
  refine qr T_ok [0] (E2 := [(0, [], vs a0)]) (by kernel_rfl) ?_
  refine qs ?_
  refine qs ?_
  refine qr T_ok [0, 3] (E2 := [(0, [], vs a0), (3, [], vi 0)]) (by kernel_rfl) ?_
  refine qb ?_
  refine qp (fun k E h => ∃ x2 : Int, E = [(0, [], vs a0), (3, [], vi x2)] ∧ h = [] ∧ quitclaimref11_Line.l0 a0 k x2 = some r) k ⟨0, rfl, rfl, H⟩ ?_
  clear H
  rintro k E h ⟨x2, rfl, rfl, H⟩
  cases k with
  | zero => exact nomatch (show none = some r from H)
  | succ k =>
    rw [quitclaimref11_Line.l0] at H
    refine qs ?_
    refine qs ?_
    refine qr T_ok [0, 3, 7] (E2 := [(0, [], vs a0), (3, [], vi x2), (7, [], vb (decide (x2 < (a0.size : Int))))]) (by kernel_rfl) ?_
    refine qi (t := decide (x2 < (a0.size : Int))) (by kernel_rfl) (fun c => ?_) (fun c => ?_)
    · rw [if_pos (of_decide_eq_true c)] at H
      clear c
      refine qw [0, 3] rfl ?_
      refine qk ?_
      refine qs ?_
      refine qb ?_
      refine qs ?_
      refine qg ?_
      refine qm T_ok 2 (k := 2) (by kernel_rfl) (by kernel_rfl) (by kernel_rfl) ?_
      obtain ⟨x4, hx, H⟩ := bd H
      refine qy rfl (zb T_ok .i64 hx rfl (by kernel_rfl) (by kernel_rfl) (by kernel_rfl)) rfl (by kernel_rfl) rfl ?_
      clear hx
      refine qz T_ok 1 [0, 3, 13] 0 (E2 := [(0, [], vs a0), (3, [], vi x2), (13, [], vb (decide (x4 = 10)))]) (h1 := []) (by kernel_rfl) (by kernel_rfl) (by kernel_rfl) (by kernel_rfl) (by kernel_rfl) ?_
      refine qi (t := decide (x4 = 10)) (by kernel_rfl) (fun c => ?_) (fun c => ?_)
      · rw [if_pos (of_decide_eq_true c)] at H
        clear c
        refine qs ?_
        refine qr T_ok [2] (E2 := [(2, [], vb false)]) (by kernel_rfl) ?_
        refine qt ?_
        obtain rfl := Option.some.inj H
        exact ⟨vb false, by kernel_rfl, rfl⟩
      · rw [if_neg (of_decide_eq_false c)] at H
        clear c
        refine qw [0, 3] rfl ?_
        refine qk ?_
        refine qr T_ok [0, 3] (E2 := [(0, [], vs a0), (3, [], vi (w64 (x2 + 1)))]) (by kernel_rfl) ?_
        exact ⟨_, Nat.lt_succ_self _, w64 (x2 + 1), rfl, rfl, H⟩
    · rw [if_neg (of_decide_eq_false c)] at H
      clear c
      refine qw [0] rfl ?_
      refine qx ?_
      refine qs ?_
      refine qr T_ok [2] (E2 := [(2, [], vb (decide ((a0.size : Int) ≤ 200)))]) (by kernel_rfl) ?_
      refine qt ?_
      obtain rfl := Option.some.inj H
      exact ⟨vb (decide ((a0.size : Int) ≤ 200)), by kernel_rfl, rfl⟩
/-! ### quitclaim/quitclaimref11.Lines: function 13 -/
def quitclaimref11_Lines.l0 (a0 : List ByteArray) : Nat → Int → Option Bool
  | 0, _ => none
  | k + 1, x3 => (if x3 < (a0.length : Int) then ((ix a0 x3).bind fun x6 => ((quitclaimref11_Line.f k x6).bind fun x7 => (if (!x7) = true then some false else quitclaimref11_Lines.l0 a0 k (w64 (x3 + 1))))) else some (decide ((a0.length : Int) ≤ 1000)))
def quitclaimref11_Lines.f (k : Nat) (a0 : List ByteArray) : Option Bool := quitclaimref11_Lines.l0 a0 k 0
theorem quitclaimref11_Lines.ok (k : Nat) (a0 : List ByteArray) (r : Bool) (H : quitclaimref11_Lines.f k a0 = some r) : PF Try.prog 13 [.p (.sl 1 ByteArray eS a0)] (vb r) := by
  refine PF_mk T_ok Try.func13 rfl (by kernel_rfl) (by kernel_rfl) ?_
  unfold quitclaimref11_Lines.f at H
  refine qs ?_
  refine qr T_ok [0] (E2 := [(0, [], .p (.sl 1 ByteArray eS a0))]) (by kernel_rfl) ?_
  refine qs ?_
  refine qs ?_
  refine qr T_ok [0, 3] (E2 := [(0, [], .p (.sl 1 ByteArray eS a0)), (3, [], vi 0)]) (by kernel_rfl) ?_
  refine qb ?_
  refine qp (fun k E h => ∃ x3 : Int, E = [(0, [], .p (.sl 1 ByteArray eS a0)), (3, [], vi x3)] ∧ h = [] ∧ quitclaimref11_Lines.l0 a0 k x3 = some r) k ⟨0, rfl, rfl, H⟩ ?_
  clear H
  rintro k E h ⟨x3, rfl, rfl, H⟩
  cases k with
  | zero => exact nomatch (show none = some r from H)
  | succ k =>
    rw [quitclaimref11_Lines.l0] at H
    refine qs ?_
    refine qs ?_
    refine qr T_ok [0, 3, 7] (E2 := [(0, [], .p (.sl 1 ByteArray eS a0)), (3, [], vi x3), (7, [], vb (decide (x3 < (a0.length : Int))))]) (by kernel_rfl) ?_
    refine qi (t := decide (x3 < (a0.length : Int))) (by kernel_rfl) (fun c => ?_) (fun c => ?_)
    · rw [if_pos (of_decide_eq_true c)] at H
      clear c
      refine qw [0, 3] rfl ?_
      refine qk ?_
      refine qs ?_
      refine qb ?_
      refine qs ?_
      refine qg ?_
      refine qm T_ok 2 (k := 2) (by kernel_rfl) (by kernel_rfl) (by kernel_rfl) ?_
      obtain ⟨x6, hx, H⟩ := bd H
      refine qy rfl (zi T_ok .i64 (enc := eS) (l := a0) (e := 9) (n := 1) (ei := ti9) (sa := (.p (.sl 1 ByteArray eS a0))) hx rfl (by kernel_rfl) (by kernel_rfl) rfl (by kernel_rfl) (by kernel_rfl) (by kernel_rfl)) rfl (by kernel_rfl) rfl ?_
      clear hx
      refine qm T_ok 1 (k := 4) (by kernel_rfl) (by kernel_rfl) (by kernel_rfl) ?_
      obtain ⟨x7, hx, H⟩ := bd H
      refine qy rfl (zc (T := T) (quitclaimref11_Line.ok k x6 _ hx) Try.func30 rfl rfl (caps := []) (by kernel_rfl) (by kernel_rfl) (by kernel_rfl) (by kernel_rfl) (by kernel_rfl) (by kernel_rfl)) rfl (by kernel_rfl) rfl ?_
      clear hx
      refine qz T_ok 1 [0, 3, 15] 0 (E2 := [(0, [], .p (.sl 1 ByteArray eS a0)), (3, [], vi x3), (15, [], vb (!x7))]) (h1 := []) (by kernel_rfl) (by kernel_rfl) (by kernel_rfl) (by kernel_rfl) (by kernel_rfl) ?_
      refine qi (t := !x7) (by kernel_rfl) (fun c => ?_) (fun c => ?_)
      · rw [if_pos c] at H
        clear c
        refine qs ?_
        refine qr T_ok [2] (E2 := [(2, [], vb false)]) (by kernel_rfl) ?_
        refine qt ?_
        obtain rfl := Option.some.inj H
        exact ⟨vb false, by kernel_rfl, rfl⟩
      · rw [if_neg (by rw [c]; exact Bool.false_ne_true)] at H
        clear c
        refine qw [0, 3] rfl ?_
        refine qk ?_
        refine qr T_ok [0, 3] (E2 := [(0, [], .p (.sl 1 ByteArray eS a0)), (3, [], vi (w64 (x3 + 1)))]) (by kernel_rfl) ?_
        exact ⟨_, Nat.lt_succ_self _, w64 (x3 + 1), rfl, rfl, H⟩
    · rw [if_neg (of_decide_eq_false c)] at H
      clear c
      refine qw [0] rfl ?_
      refine qx ?_
      refine qs ?_
      refine qr T_ok [2] (E2 := [(2, [], vb (decide ((a0.length : Int) ≤ 1000)))]) (by kernel_rfl) ?_
      refine qt ?_
      obtain rfl := Option.some.inj H
      exact ⟨vb (decide ((a0.length : Int) ≤ 1000)), by kernel_rfl, rfl⟩
/-! ### quitclaim/quitclaimlaw11.plain: function 10 -/
def quitclaimlaw11_plain.f (a0 : S_At_Old_New) : Option S_At_Old_New := some a0
theorem quitclaimlaw11_plain.ok (a0 : S_At_Old_New) (r : S_At_Old_New) (H : quitclaimlaw11_plain.f a0 = some r) : PF Try.prog 10 [.p (.agg [(.s (.int .i64 a0.f0_At)), (.sl 1 ByteArray eS a0.f1_Old), (.sl 1 ByteArray eS a0.f2_New)])] (.p (.agg [(.s (.int .i64 r.f0_At)), (.sl 1 ByteArray eS r.f1_Old), (.sl 1 ByteArray eS r.f2_New)])) := by
  refine PF_mk T_ok Try.func10 rfl (by kernel_rfl) (by kernel_rfl) ?_
  unfold quitclaimlaw11_plain.f at H
  refine qs ?_
  refine qg ?_
  refine xb (T := T) (j := 0) (cs := [vi a0.f0_At, .p (.sl 1 ByteArray eS a0.f1_Old), .p (.sl 1 ByteArray eS a0.f2_New)]) rfl rfl rfl rfl (by kernel_rfl) (by kernel_rfl) rfl ?_
  refine xa T_ok (j := 1) (ti := ti32) rfl rfl rfl rfl (by kernel_rfl) (by kernel_rfl) rfl ?_
  refine qz T_ok 0 [1, 2] 2 (E2 := [(1, [], .ptr 0 0), (2, [], .ptr 1 0)]) (h1 := [.cells 24 [vi a0.f0_At, .p (.sl 1 ByteArray eS a0.f1_Old), .p (.sl 1 ByteArray eS a0.f2_New)], .cells 32 [vi 0, .p (.sl 1 ByteArray eS []), .p (.sl 1 ByteArray eS [])]]) (by kernel_rfl) (by kernel_rfl) (by kernel_rfl) (by kernel_rfl) (by kernel_rfl) ?_
  refine qs ?_
  refine qg ?_
  refine qm T_ok 7 (k := 7) (by kernel_rfl) (by kernel_rfl) (by kernel_rfl) ?_
  refine xs T_ok (u := 32) (b := 1) (off := 0) (vs := [vi a0.f0_At, .p (.sl 1 ByteArray eS a0.f1_Old), .p (.sl 1 ByteArray eS a0.f2_New)]) (cs := [vi 0, .p (.sl 1 ByteArray eS []), .p (.sl 1 ByteArray eS [])]) (ti := ti32) rfl rfl rfl rfl (by kernel_rfl) (by kernel_rfl) (by kernel_rfl) (by kernel_rfl) (by kernel_rfl) (by kernel_rfl) rfl ?_
  refine qz T_ok 0 [2] 2 (E2 := [(2, [], .ptr 1 0)]) (h1 := [.cells 24 [vi a0.f0_At, .p (.sl 1 ByteArray eS a0.f1_Old), .p (.sl 1 ByteArray eS a0.f2_New)], .cells 32 [vi a0.f0_At, .p (.sl 1 ByteArray eS a0.f1_Old), .p (.sl 1 ByteArray eS a0.f2_New)]]) (by kernel_rfl) (by kernel_rfl) (by kernel_rfl) (by kernel_rfl) (by kernel_rfl) ?_
  refine qt ?_
  obtain rfl := Option.some.inj H
  exact ⟨.p (.agg [(.s (.int .i64 a0.f0_At)), (.sl 1 ByteArray eS a0.f1_Old), (.sl 1 ByteArray eS a0.f2_New)]), by kernel_rfl, rfl⟩
/-! ### quitclaim/quitclaimref11.Right: function 15 -/
def quitclaimref11_Right.f (k : Nat) (a0 : S_At_Old_New) : Option Bool := ((gd (decide (a0.f0_At ≥ 0) && decide (a0.f0_At ≤ 1000)) (quitclaimref11_Lines.f k a0.f1_Old)).bind fun x1 => ((gd ((decide (a0.f0_At ≥ 0) && decide (a0.f0_At ≤ 1000)) && x1) (quitclaimref11_Lines.f k a0.f2_New)).bind fun x2 => some ((((decide (a0.f0_At ≥ 0) && decide (a0.f0_At ≤ 1000)) && x1) && x2) && (decide ((a0.f1_Old.length : Int) > 0) || decide ((a0.f2_New.length : Int) > 0)))))
theorem quitclaimref11_Right.ok (k : Nat) (a0 : S_At_Old_New) (r : Bool) (H : quitclaimref11_Right.f k a0 = some r) : PF Try.prog 15 [.p (.agg [(.s (.int .i64 a0.f0_At)), (.sl 1 ByteArray eS a0.f1_Old), (.sl 1 ByteArray eS a0.f2_New)])] (vb r) := by
  refine PF_mk T_ok Try.func15 rfl (by kernel_rfl) (by kernel_rfl) ?_
  unfold quitclaimref11_Right.f at H
  refine qs ?_
  refine qg ?_
  refine xb (T := T) (j := 0) (cs := [vi a0.f0_At, .p (.sl 1 ByteArray eS a0.f1_Old), .p (.sl 1 ByteArray eS a0.f2_New)]) rfl rfl rfl rfl (by kernel_rfl) (by kernel_rfl) rfl ?_
  refine qz T_ok 1 [1] 1 (E2 := [(1, [], .ptr 0 0)]) (h1 := [.cells 32 [vi a0.f0_At, .p (.sl 1 ByteArray eS a0.f1_Old), .p (.sl 1 ByteArray eS a0.f2_New)]]) (by kernel_rfl) (by kernel_rfl) (by kernel_rfl) (by kernel_rfl) (by kernel_rfl) ?_
  refine qs ?_
  refine qg ?_
  refine qm T_ok 11 (k := 11) (by kernel_rfl) (by kernel_rfl) (by kernel_rfl) ?_
  obtain ⟨x1, hx, H⟩ := bd H
  refine qyg rfl (tg := []) (Yld.under (u := 11) (b := true) (t := (decide (a0.f0_At ≥ 0) && decide (a0.f0_At ≤ 1000))) (by kernel_rfl) (by simp) fun g0_ => (zc (T := T) (quitclaimref11_Lines.ok k a0.f1_Old _ (gd1 hx g0_)) Try.func13 rfl rfl (caps := []) (by kernel_rfl) (by kernel_rfl) (by kernel_rfl) (by kernel_rfl) (by kernel_rfl) (by kernel_rfl))) rfl rfl (by kernel_rfl) (by kernel_rfl) rfl ?_
  clear hx
  refine qm T_ok 4 (k := 16) (by kernel_rfl) (by kernel_rfl) (by kernel_rfl) ?_
  obtain ⟨x2, hx, H⟩ := bd H
  refine qyg rfl (tg := []) (Yld.under (u := 16) (b := true) (t := ((decide (a0.f0_At ≥ 0) && decide (a0.f0_At ≤ 1000)) && x1)) (by kernel_rfl) (by simp) fun g0_ => (zc (T := T) (quitclaimref11_Lines.ok k a0.f2_New _ (gd1 hx g0_)) Try.func13 rfl rfl (caps := []) (by kernel_rfl) (by kernel_rfl) (by kernel_rfl) (by kernel_rfl) (by kernel_rfl) (by kernel_rfl))) rfl rfl (by kernel_rfl) (by kernel_rfl) rfl ?_
  clear hx
  refine qz T_ok 14 [2] 0 (E2 := [(2, [], vb ((((decide (a0.f0_At ≥ 0) && decide (a0.f0_At ≤ 1000)) && x1) && x2) && (decide ((a0.f1_Old.length : Int) > 0) || decide ((a0.f2_New.length : Int) > 0))))]) (h1 := []) (by kernel_rfl) (by kernel_rfl) (by kernel_rfl) (by kernel_rfl) (by kernel_rfl) ?_
  refine qt ?_
  obtain rfl := Option.some.inj H
  exact ⟨vb ((((decide (a0.f0_At ≥ 0) && decide (a0.f0_At ≤ 1000)) && x1) && x2) && (decide ((a0.f1_Old.length : Int) > 0) || decide ((a0.f2_New.length : Int) > 0))), by kernel_rfl, rfl⟩
/-! ### quitclaim/quitclaimref11.Apply: function 9 -/
def quitclaimref11_Apply.l39 (a0 : List ByteArray) : Nat → (List ByteArray) → Int → Option ((List ByteArray) × Int)
  | 0, _, _ => none
  | k + 1, x308, x309 => (if x309 < (a0.length : Int) then ((ix a0 x309).bind fun x312 => ((app 16 x308 [x312]).bind fun x313 => quitclaimref11_Apply.l39 a0 k x313 (w64 (x309 + 1)))) else (if (x308.length : Int) > 1000 then some ([], 4) else some (x308, 0)))
def quitclaimref11_Apply.l38 (a0 : List ByteArray) (a1 : S_At_Old_New) (x246 : List ByteArray) : Nat → Int → Option ((List ByteArray) × Int)
  | 0, _ => none
  | k + 1, x293 => (if x293 < (a1.f1_Old.length : Int) then ((gd (!(decide (w64 (a1.f0_At + x293) ≥ (a0.length : Int)))) (ix a0 (w64 (a1.f0_At + x293)))).bind fun x304 => ((gd (!(decide (w64 (a1.f0_At + x293) ≥ (a0.length : Int)))) (ix a1.f1_Old x293)).bind fun x305 => (if (decide (w64 (a1.f0_At + x293) ≥ (a0.length : Int)) || !decide (x304 = x305)) = true then some ([], 12) else quitclaimref11_Apply.l38 a0 a1 x246 k (w64 (x293 + 1))))) else quitclaimref11_Apply.l39 a0 k x246 (w64 (a1.f0_At + (a1.f1_Old.length : Int))))
def quitclaimref11_Apply.l35 (a0 : List ByteArray) (a1 : S_At_Old_New) : Nat → (List ByteArray) → Int → Option ((List ByteArray) × Int)
  | 0, _, _ => none
  | k + 1, x246, x247 => (if x247 < (a1.f2_New.length : Int) then ((ix a1.f2_New x247).bind fun x281 => ((app 16 x246 [x281]).bind fun x282 => quitclaimref11_Apply.l35 a0 a1 k x282 (w64 (x247 + 1)))) else quitclaimref11_Apply.l38 a0 a1 x246 k 0)
def quitclaimref11_Apply.l26 (a0 : List ByteArray) (a1 : S_At_Old_New) : Nat → (List ByteArray) → Int → Option ((List ByteArray) × Int)
  | 0, _, _ => none
  | k + 1, x106, x107 => (if x107 < a1.f0_At then ((ix a0 x107).bind fun x211 => ((app 16 x106 [x211]).bind fun x212 => quitclaimref11_Apply.l26 a0 a1 k x212 (w64 (x107 + 1)))) else quitclaimref11_Apply.l35 a0 a1 k x106 0)
def quitclaimref11_Apply.f (k : Nat) (a0 : List ByteArray) (a1 : S_At_Old_New) : Option ((List ByteArray) × Int) := ((quitclaimref11_Lines.f k a0).bind fun x1 => ((gd (!(!x1)) (quitclaimref11_Right.f k a1)).bind fun x2 => (if (!x1 || !x2) = true then some ([], 3) else (if a1.f0_At > (a0.length : Int) then some ([], 5) else quitclaimref11_Apply.l26 a0 a1 k [] 0))))
theorem quitclaimref11_Apply.ok (k : Nat) (a0 : List ByteArray) (a1 : S_At_Old_New) (r : (List ByteArray) × Int) (H : quitclaimref11_Apply.f k a0 a1 = some r) : PF Try.prog 9 [.p (.sl 1 ByteArray eS a0), .p (.agg [(.s (.int .i64 a1.f0_At)), (.sl 1 ByteArray eS a1.f1_Old), (.sl 1 ByteArray eS a1.f2_New)])] (.tup [.p (.sl 1 ByteArray eS r.1), vi r.2]) := by
  refine PF_mk T_ok Try.func9 rfl (by kernel_rfl) (by kernel_rfl) ?_
  unfold quitclaimref11_Apply.f at H
  refine qs ?_
  refine qg ?_
  refine xb (T := T) (j := 0) (cs := [vi a1.f0_At, .p (.sl 1 ByteArray eS a1.f1_Old), .p (.sl 1 ByteArray eS a1.f2_New)]) rfl rfl rfl rfl (by kernel_rfl) (by kernel_rfl) rfl ?_
  refine qz T_ok 2 [0, 3] 1 (E2 := [(0, [], .p (.sl 1 ByteArray eS a0)), (3, [], .ptr 0 0)]) (h1 := [.cells 32 [vi a1.f0_At, .p (.sl 1 ByteArray eS a1.f1_Old), .p (.sl 1 ByteArray eS a1.f2_New)]]) (by kernel_rfl) (by kernel_rfl) (by kernel_rfl) (by kernel_rfl) (by kernel_rfl) ?_
  refine qs ?_
  refine qs ?_
  refine qg ?_
  refine qm T_ok 1 (k := 1) (by kernel_rfl) (by kernel_rfl) (by kernel_rfl) ?_
  obtain ⟨x1, hx, H⟩ := bd H
  refine qy rfl (zc (T := T) (quitclaimref11_Lines.ok k a0 _ hx) Try.func13 rfl rfl (caps := []) (by kernel_rfl) (by kernel_rfl) (by kernel_rfl) (by kernel_rfl) (by kernel_rfl) (by kernel_rfl)) rfl (by kernel_rfl) rfl ?_
  clear hx
  refine qm T_ok 3 (k := 5) (by kernel_rfl) (by kernel_rfl) (by kernel_rfl) ?_
  obtain ⟨x2, hx, H⟩ := bd H
  refine qyg rfl (tg := []) (Yld.under (u := 14) (b := false) (t := !x1) (by kernel_rfl) (by simp) fun g0_ => (zc (T := T) (quitclaimref11_Right.ok k a1 _ (gd0 hx g0_)) Try.func15 rfl rfl (caps := []) (by kernel_rfl) (by kernel_rfl) (by kernel_rfl) (by kernel_rfl) (by kernel_rfl) (by kernel_rfl))) rfl rfl (by kernel_rfl) (by kernel_rfl) rfl ?_
  clear hx
  refine qz T_ok 2 [0, 3, 18] 1 (E2 := [(0, [], .p (.sl 1 ByteArray eS a0)), (3, [], .ptr 0 0), (18, [], vb (!x1 || !x2))]) (h1 := [.cells 32 [vi a1.f0_At, .p (.sl 1 ByteArray eS a1.f1_Old), .p (.sl 1 ByteArray eS a1.f2_New)]]) (by kernel_rfl) (by kernel_rfl) (by kernel_rfl) (by kernel_rfl) (by kernel_rfl) ?_
  refine qi (t := (!x1 || !x2)) (by kernel_rfl) (fun c => ?_) (fun c => ?_)
  · rw [if_pos c] at H
    clear c
    refine qs ?_
    refine qg ?_
    refine qz T_ok 2 [4, 5] 0 (E2 := [(4, [], .p (.sl 1 ByteArray eS [])), (5, [], vi 3)]) (h1 := []) (by kernel_rfl) (by kernel_rfl) (by kernel_rfl) (by kernel_rfl) (by kernel_rfl) ?_
    refine qt ?_
    obtain rfl := Option.some.inj H
    exact ⟨.tup [.p (.sl 1 ByteArray eS []), vi 3], by kernel_rfl, rfl⟩
  · rw [if_neg (by rw [c]; exact Bool.false_ne_true)] at H
    clear c
    refine qw [0, 3] rfl ?_
    refine qk ?_
    refine qs ?_
    refine qs ?_
    refine qr T_ok [0, 3, 23] (E2 := [(0, [], .p (.sl 1 ByteArray eS a0)), (3, [], .ptr 0 0), (23, [], vb (decide (a1.f0_At > (a0.length : Int))))]) (by kernel_rfl) ?_
    refine qi (t := decide (a1.f0_At > (a0.length : Int))) (by kernel_rfl) (fun c => ?_) (fun c => ?_)
    · rw [if_pos (of_decide_eq_true c)] at H
      clear c
      refine qs ?_
      refine qg ?_
      refine qz T_ok 2 [4, 5] 0 (E2 := [(4, [], .p (.sl 1 ByteArray eS [])), (5, [], vi 5)]) (h1 := []) (by kernel_rfl) (by kernel_rfl) (by kernel_rfl) (by kernel_rfl) (by kernel_rfl) ?_
      refine qt ?_
      obtain rfl := Option.some.inj H
      exact ⟨.tup [.p (.sl 1 ByteArray eS []), vi 5], by kernel_rfl, rfl⟩
    · rw [if_neg (of_decide_eq_false c)] at H
      clear c
      refine qw [0, 3] rfl ?_
      refine qk ?_
      refine qs ?_
      refine qg ?_
      refine xl T_ok (e := 9) (n := 1) (j := 1) eS ([]) rfl rfl rfl rfl (by kernel_rfl) (by kernel_rfl) rfl ?_
      refine qz T_ok 1 [0, 3, 6] 2 (E2 := [(0, [], .p (.sl 1 ByteArray eS a0)), (3, [], .ptr 0 0), (6, [], .own 9 1 ByteArray eS [] 1)]) (h1 := [.cells 32 [vi a1.f0_At, .p (.sl 1 ByteArray eS a1.f1_Old), .p (.sl 1 ByteArray eS a1.f2_New)], .tail]) (by kernel_rfl) (by kernel_rfl) (by kernel_rfl) (by kernel_rfl) (by kernel_rfl) ?_
      refine qs ?_
      refine qs ?_
      refine qr T_ok [0, 3, 6, 7] (E2 := [(0, [], .p (.sl 1 ByteArray eS a0)), (3, [], .ptr 0 0), (6, [], .own 9 1 ByteArray eS [] 1), (7, [], vi 0)]) (by kernel_rfl) ?_
      refine qb ?_
      refine qp (fun k E h => ∃ x106 : List ByteArray, ∃ x107 : Int, E = [(0, [], .p (.sl 1 ByteArray eS a0)), (3, [], .ptr 0 0), (6, [], .own 9 1 ByteArray eS x106 1), (7, [], vi x107)] ∧ h = [.cells 32 [vi a1.f0_At, .p (.sl 1 ByteArray eS a1.f1_Old), .p (.sl 1 ByteArray eS a1.f2_New)], .tail] ∧ quitclaimref11_Apply.l26 a0 a1 k x106 x107 = some r) k ⟨[], 0, rfl, rfl, H⟩ ?_
      clear H
      rintro k E h ⟨x106, x107, rfl, rfl, H⟩
      cases k with
      | zero => exact nomatch (show none = some r from H)
      | succ k =>
        rw [quitclaimref11_Apply.l26] at H
        refine qs ?_
        refine qs ?_
        refine qr T_ok [0, 3, 6, 7, 28] (E2 := [(0, [], .p (.sl 1 ByteArray eS a0)), (3, [], .ptr 0 0), (6, [], .own 9 1 ByteArray eS x106 1), (7, [], vi x107), (28, [], vb (decide (x107 < a1.f0_At)))]) (by kernel_rfl) ?_
        refine qi (t := decide (x107 < a1.f0_At)) (by kernel_rfl) (fun c => ?_) (fun c => ?_)
        · rw [if_pos (of_decide_eq_true c)] at H
          clear c
          refine qw [0, 3, 6, 7] rfl ?_
          refine qk ?_
          refine qs ?_
          refine qb ?_
          refine qg ?_
          refine qm T_ok 3 (k := 3) (by kernel_rfl) (by kernel_rfl) (by kernel_rfl) ?_
          obtain ⟨x211, hx, H⟩ := bd H
          refine qy rfl (zi T_ok .i64 (enc := eS) (l := a0) (e := 9) (n := 1) (ei := ti9) (sa := (.p (.sl 1 ByteArray eS a0))) hx rfl (by kernel_rfl) (by kernel_rfl) rfl (by kernel_rfl) (by kernel_rfl) (by kernel_rfl)) rfl (by kernel_rfl) rfl ?_
          clear hx
          refine qm T_ok 1 (k := 5) (by kernel_rfl) (by kernel_rfl) (by kernel_rfl) ?_
          refine qy rfl (ze T_ok (e := 9) (n := 1) eS ([x211] : List ByteArray) rfl (by kernel_rfl)) rfl (by kernel_rfl) rfl ?_
          obtain ⟨x212, hx, H⟩ := bd H
          refine xp T_ok (enc := eS) (l := x106) (m := [x211]) (e := 9) (e' := 9) (j := 1) (ei := ti9) (sy := (.p (.sl 1 ByteArray eS [x211]))) hx rfl rfl rfl rfl rfl rfl rfl (by kernel_rfl) (by kernel_rfl) (by kernel_rfl) (by kernel_rfl) (by kernel_rfl) (by kernel_rfl) (by kernel_rfl) (by kernel_rfl) (by kernel_rfl) rfl ?_
          clear hx
          refine qz T_ok 1 [0, 3, 6, 7] 2 (E2 := [(0, [], .p (.sl 1 ByteArray eS a0)), (3, [], .ptr 0 0), (6, [], .own 9 1 ByteArray eS x212 1), (7, [], vi x107)]) (h1 := [.cells 32 [vi a1.f0_At, .p (.sl 1 ByteArray eS a1.f1_Old), .p (.sl 1 ByteArray eS a1.f2_New)], .tail]) (by kernel_rfl) (by kernel_rfl) (by kernel_rfl) (by kernel_rfl) (by kernel_rfl) ?_
          refine qr T_ok [0, 3, 6, 7] (E2 := [(0, [], .p (.sl 1 ByteArray eS a0)), (3, [], .ptr 0 0), (6, [], .own 9 1 ByteArray eS x212 1), (7, [], vi (w64 (x107 + 1)))]) (by kernel_rfl) ?_
          exact ⟨_, Nat.lt_succ_self _, x212, w64 (x107 + 1), rfl, rfl, H⟩
        · rw [if_neg (of_decide_eq_false c)] at H
          clear c
          refine qw [0, 3, 6] rfl ?_
          refine qx ?_
          refine qs ?_
          refine qs ?_
          refine qr T_ok [0, 3, 6, 8] (E2 := [(0, [], .p (.sl 1 ByteArray eS a0)), (3, [], .ptr 0 0), (6, [], .own 9 1 ByteArray eS x106 1), (8, [], vi 0)]) (by kernel_rfl) ?_
          refine qb ?_
          refine qp (fun k E h => ∃ x246 : List ByteArray, ∃ x247 : Int, E = [(0, [], .p (.sl 1 ByteArray eS a0)), (3, [], .ptr 0 0), (6, [], .own 9 1 ByteArray eS x246 1), (8, [], vi x247)] ∧ h = [.cells 32 [vi a1.f0_At, .p (.sl 1 ByteArray eS a1.f1_Old), .p (.sl 1 ByteArray eS a1.f2_New)], .tail] ∧ quitclaimref11_Apply.l35 a0 a1 k x246 x247 = some r) k ⟨x106, 0, rfl, rfl, H⟩ ?_
          clear H
          rintro k E h ⟨x246, x247, rfl, rfl, H⟩
          cases k with
          | zero => exact nomatch (show none = some r from H)
          | succ k =>
            rw [quitclaimref11_Apply.l35] at H
            refine qs ?_
            refine qs ?_
            refine qr T_ok [0, 3, 6, 8, 42] (E2 := [(0, [], .p (.sl 1 ByteArray eS a0)), (3, [], .ptr 0 0), (6, [], .own 9 1 ByteArray eS x246 1), (8, [], vi x247), (42, [], vb (decide (x247 < (a1.f2_New.length : Int))))]) (by kernel_rfl) ?_
            refine qi (t := decide (x247 < (a1.f2_New.length : Int))) (by kernel_rfl) (fun c => ?_) (fun c => ?_)
            · rw [if_pos (of_decide_eq_true c)] at H
              clear c
              refine qw [0, 3, 6, 8] rfl ?_
              refine qk ?_
              refine qs ?_
              refine qb ?_
              refine qg ?_
              refine qm T_ok 4 (k := 4) (by kernel_rfl) (by kernel_rfl) (by kernel_rfl) ?_
              obtain ⟨x281, hx, H⟩ := bd H
              refine qy rfl (zi T_ok .i64 (enc := eS) (l := a1.f2_New) (e := 9) (n := 1) (ei := ti9) (sa := (.p (.sl 1 ByteArray eS a1.f2_New))) hx rfl (by kernel_rfl) (by kernel_rfl) rfl (by kernel_rfl) (by kernel_rfl) (by kernel_rfl)) rfl (by kernel_rfl) rfl ?_
              clear hx
              refine qm T_ok 1 (k := 6) (by kernel_rfl) (by kernel_rfl) (by kernel_rfl) ?_
              refine qy rfl (ze T_ok (e := 9) (n := 1) eS ([x281] : List ByteArray) rfl (by kernel_rfl)) rfl (by kernel_rfl) rfl ?_
              obtain ⟨x282, hx, H⟩ := bd H
              refine xp T_ok (enc := eS) (l := x246) (m := [x281]) (e := 9) (e' := 9) (j := 1) (ei := ti9) (sy := (.p (.sl 1 ByteArray eS [x281]))) hx rfl rfl rfl rfl rfl rfl rfl (by kernel_rfl) (by kernel_rfl) (by kernel_rfl) (by kernel_rfl) (by kernel_rfl) (by kernel_rfl) (by kernel_rfl) (by kernel_rfl) (by kernel_rfl) rfl ?_
              clear hx
              refine qz T_ok 1 [0, 3, 6, 8] 2 (E2 := [(0, [], .p (.sl 1 ByteArray eS a0)), (3, [], .ptr 0 0), (6, [], .own 9 1 ByteArray eS x282 1), (8, [], vi x247)]) (h1 := [.cells 32 [vi a1.f0_At, .p (.sl 1 ByteArray eS a1.f1_Old), .p (.sl 1 ByteArray eS a1.f2_New)], .tail]) (by kernel_rfl) (by kernel_rfl) (by kernel_rfl) (by kernel_rfl) (by kernel_rfl) ?_
              refine qr T_ok [0, 3, 6, 8] (E2 := [(0, [], .p (.sl 1 ByteArray eS a0)), (3, [], .ptr 0 0), (6, [], .own 9 1 ByteArray eS x282 1), (8, [], vi (w64 (x247 + 1)))]) (by kernel_rfl) ?_
              exact ⟨_, Nat.lt_succ_self _, x282, w64 (x247 + 1), rfl, rfl, H⟩
            · rw [if_neg (of_decide_eq_false c)] at H
              clear c
              refine qw [0, 3, 6] rfl ?_
              refine qx ?_
              refine qs ?_
              refine qs ?_
              refine qr T_ok [0, 3, 6, 9] (E2 := [(0, [], .p (.sl 1 ByteArray eS a0)), (3, [], .ptr 0 0), (6, [], .own 9 1 ByteArray eS x246 1), (9, [], vi 0)]) (by kernel_rfl) ?_
              refine qb ?_
              refine qp (fun k E h => ∃ x293 : Int, E = [(0, [], .p (.sl 1 ByteArray eS a0)), (3, [], .ptr 0 0), (6, [], .own 9 1 ByteArray eS x246 1), (9, [], vi x293)] ∧ h = [.cells 32 [vi a1.f0_At, .p (.sl 1 ByteArray eS a1.f1_Old), .p (.sl 1 ByteArray eS a1.f2_New)], .tail] ∧ quitclaimref11_Apply.l38 a0 a1 x246 k x293 = some r) k ⟨0, rfl, rfl, H⟩ ?_
              clear H
              rintro k E h ⟨x293, rfl, rfl, H⟩
              cases k with
              | zero => exact nomatch (show none = some r from H)
              | succ k =>
                rw [quitclaimref11_Apply.l38] at H
                refine qs ?_
                refine qs ?_
                refine qr T_ok [0, 3, 6, 9, 57] (E2 := [(0, [], .p (.sl 1 ByteArray eS a0)), (3, [], .ptr 0 0), (6, [], .own 9 1 ByteArray eS x246 1), (9, [], vi x293), (57, [], vb (decide (x293 < (a1.f1_Old.length : Int))))]) (by kernel_rfl) ?_
                refine qi (t := decide (x293 < (a1.f1_Old.length : Int))) (by kernel_rfl) (fun c => ?_) (fun c => ?_)
                · rw [if_pos (of_decide_eq_true c)] at H
                  clear c
                  refine qw [0, 3, 6, 9] rfl ?_
                  refine qk ?_
                  refine qs ?_
                  refine qb ?_
                  refine qs ?_
                  refine qd (by kernel_rfl) 22 (by kernel_rfl) (by kernel_rfl) (by kernel_rfl) (by kernel_rfl) (by kernel_rfl) ?_
                  refine dm T_ok 13 (k := 13) (by kernel_rfl) (by kernel_rfl) ?_
                  obtain ⟨x304, hx, H⟩ := bd H
                  refine dyg rfl (tg := []) (Yld.under (u := 67) (b := false) (t := decide (w64 (a1.f0_At + x293) ≥ (a0.length : Int))) (by kernel_rfl) (by simp) fun g0_ => (zi T_ok .i64 (enc := eS) (l := a0) (e := 9) (n := 1) (ei := ti9) (sa := (.p (.sl 1 ByteArray eS a0))) (gd0 hx g0_) rfl (by kernel_rfl) (by kernel_rfl) rfl (by kernel_rfl) (by kernel_rfl) (by kernel_rfl))) rfl rfl (by kernel_rfl) (by kernel_rfl) rfl ?_
                  clear hx
                  refine dm T_ok 4 (k := 18) (by kernel_rfl) (by kernel_rfl) ?_
                  obtain ⟨x305, hx, H⟩ := bd H
                  refine dyg rfl (tg := []) (Yld.under (u := 67) (b := false) (t := decide (w64 (a1.f0_At + x293) ≥ (a0.length : Int))) (by kernel_rfl) (by simp) fun g0_ => (zi T_ok .i64 (enc := eS) (l := a1.f1_Old) (e := 9) (n := 1) (ei := ti9) (sa := (.p (.sl 1 ByteArray eS a1.f1_Old))) (gd0 hx g0_) rfl (by kernel_rfl) (by kernel_rfl) rfl (by kernel_rfl) (by kernel_rfl) (by kernel_rfl))) rfl rfl (by kernel_rfl) (by kernel_rfl) rfl ?_
                  clear hx
                  refine dm T_ok 3 (k := 22) (by kernel_rfl) (by kernel_rfl) ?_
                  refine dn ?_
                  refine qz T_ok 0 [0, 3, 6, 9, 81] 2 (E2 := [(0, [], .p (.sl 1 ByteArray eS a0)), (3, [], .ptr 0 0), (6, [], .own 9 1 ByteArray eS x246 1), (9, [], vi x293), (81, [], vb (decide (w64 (a1.f0_At + x293) ≥ (a0.length : Int)) || !decide (x304 = x305)))]) (h1 := [.cells 32 [vi a1.f0_At, .p (.sl 1 ByteArray eS a1.f1_Old), .p (.sl 1 ByteArray eS a1.f2_New)], .tail]) (by kernel_rfl) (by kernel_rfl) (by kernel_rfl) (by kernel_rfl) (by kernel_rfl) ?_
                  refine qi (t := (decide (w64 (a1.f0_At + x293) ≥ (a0.length : Int)) || !decide (x304 = x305))) (by kernel_rfl) (fun c => ?_) (fun c => ?_)
                  · rw [if_pos c] at H
                    clear c
                    refine qs ?_
                    refine qg ?_
                    refine qz T_ok 2 [4, 5] 0 (E2 := [(4, [], .p (.sl 1 ByteArray eS [])), (5, [], vi 12)]) (h1 := []) (by kernel_rfl) (by kernel_rfl) (by kernel_rfl) (by kernel_rfl) (by kernel_rfl) ?_
                    refine qt ?_
                    obtain rfl := Option.some.inj H
                    exact ⟨.tup [.p (.sl 1 ByteArray eS []), vi 12], by kernel_rfl, rfl⟩
                  · rw [if_neg (by rw [c]; exact Bool.false_ne_true)] at H
                    clear c
                    refine qw [0, 3, 6, 9] rfl ?_
                    refine qk ?_
                    refine qr T_ok [0, 3, 6, 9] (E2 := [(0, [], .p (.sl 1 ByteArray eS a0)), (3, [], .ptr 0 0), (6, [], .own 9 1 ByteArray eS x246 1), (9, [], vi (w64 (x293 + 1)))]) (by kernel_rfl) ?_
                    exact ⟨_, Nat.lt_succ_self _, w64 (x293 + 1), rfl, rfl, H⟩
                · rw [if_neg (of_decide_eq_false c)] at H
                  clear c
                  refine qw [0, 3, 6] rfl ?_
                  refine qx ?_
                  refine qs ?_
                  refine qs ?_
                  refine qr T_ok [0, 6, 10] (E2 := [(0, [], .p (.sl 1 ByteArray eS a0)), (6, [], .own 9 1 ByteArray eS x246 1), (10, [], vi (w64 (a1.f0_At + (a1.f1_Old.length : Int))))]) (by kernel_rfl) ?_
                  refine qb ?_
                  refine qp (fun k E h => ∃ x308 : List ByteArray, ∃ x309 : Int, E = [(0, [], .p (.sl 1 ByteArray eS a0)), (6, [], .own 9 1 ByteArray eS x308 1), (10, [], vi x309)] ∧ h = [.cells 32 [vi a1.f0_At, .p (.sl 1 ByteArray eS a1.f1_Old), .p (.sl 1 ByteArray eS a1.f2_New)], .tail] ∧ quitclaimref11_Apply.l39 a0 k x308 x309 = some r) k ⟨x246, w64 (a1.f0_At + (a1.f1_Old.length : Int)), rfl, rfl, H⟩ ?_
                  clear H
                  rintro k E h ⟨x308, x309, rfl, rfl, H⟩
                  cases k with
                  | zero => exact nomatch (show none = some r from H)
                  | succ k =>
                    rw [quitclaimref11_Apply.l39] at H
                    refine qs ?_
                    refine qs ?_
                    refine qr T_ok [0, 6, 10, 91] (E2 := [(0, [], .p (.sl 1 ByteArray eS a0)), (6, [], .own 9 1 ByteArray eS x308 1), (10, [], vi x309), (91, [], vb (decide (x309 < (a0.length : Int))))]) (by kernel_rfl) ?_
                    refine qi (t := decide (x309 < (a0.length : Int))) (by kernel_rfl) (fun c => ?_) (fun c => ?_)
                    · rw [if_pos (of_decide_eq_true c)] at H
                      clear c
                      refine qw [0, 6, 10] rfl ?_
                      refine qk ?_
                      refine qs ?_
                      refine qb ?_
                      refine qg ?_
                      refine qm T_ok 3 (k := 3) (by kernel_rfl) (by kernel_rfl) (by kernel_rfl) ?_
                      obtain ⟨x312, hx, H⟩ := bd H
                      refine qy rfl (zi T_ok .i64 (enc := eS) (l := a0) (e := 9) (n := 1) (ei := ti9) (sa := (.p (.sl 1 ByteArray eS a0))) hx rfl (by kernel_rfl) (by kernel_rfl) rfl (by kernel_rfl) (by kernel_rfl) (by kernel_rfl)) rfl (by kernel_rfl) rfl ?_
                      clear hx
                      refine qm T_ok 1 (k := 5) (by kernel_rfl) (by kernel_rfl) (by kernel_rfl) ?_
                      refine qy rfl (ze T_ok (e := 9) (n := 1) eS ([x312] : List ByteArray) rfl (by kernel_rfl)) rfl (by kernel_rfl) rfl ?_
                      obtain ⟨x313, hx, H⟩ := bd H
                      refine xp T_ok (enc := eS) (l := x308) (m := [x312]) (e := 9) (e' := 9) (j := 1) (ei := ti9) (sy := (.p (.sl 1 ByteArray eS [x312]))) hx rfl rfl rfl rfl rfl rfl rfl (by kernel_rfl) (by kernel_rfl) (by kernel_rfl) (by kernel_rfl) (by kernel_rfl) (by kernel_rfl) (by kernel_rfl) (by kernel_rfl) (by kernel_rfl) rfl ?_
                      clear hx
                      refine qz T_ok 1 [0, 6, 10] 2 (E2 := [(0, [], .p (.sl 1 ByteArray eS a0)), (6, [], .own 9 1 ByteArray eS x313 1), (10, [], vi x309)]) (h1 := [.cells 32 [vi a1.f0_At, .p (.sl 1 ByteArray eS a1.f1_Old), .p (.sl 1 ByteArray eS a1.f2_New)], .tail]) (by kernel_rfl) (by kernel_rfl) (by kernel_rfl) (by kernel_rfl) (by kernel_rfl) ?_
                      refine qr T_ok [0, 6, 10] (E2 := [(0, [], .p (.sl 1 ByteArray eS a0)), (6, [], .own 9 1 ByteArray eS x313 1), (10, [], vi (w64 (x309 + 1)))]) (by kernel_rfl) ?_
                      exact ⟨_, Nat.lt_succ_self _, x313, w64 (x309 + 1), rfl, rfl, H⟩
                    · rw [if_neg (of_decide_eq_false c)] at H
                      clear c
                      refine qw [6] rfl ?_
                      refine qx ?_
                      refine qs ?_
                      refine qs ?_
                      refine qr T_ok [6, 103] (E2 := [(6, [], .own 9 1 ByteArray eS x308 1), (103, [], vb (decide ((x308.length : Int) > 1000)))]) (by kernel_rfl) ?_
                      refine qi (t := decide ((x308.length : Int) > 1000)) (by kernel_rfl) (fun c => ?_) (fun c => ?_)
                      · rw [if_pos (of_decide_eq_true c)] at H
                        clear c
                        refine qs ?_
                        refine qg ?_
                        refine qz T_ok 2 [4, 5] 0 (E2 := [(4, [], .p (.sl 1 ByteArray eS [])), (5, [], vi 4)]) (h1 := []) (by kernel_rfl) (by kernel_rfl) (by kernel_rfl) (by kernel_rfl) (by kernel_rfl) ?_
                        refine qt ?_
                        obtain rfl := Option.some.inj H
                        exact ⟨.tup [.p (.sl 1 ByteArray eS []), vi 4], by kernel_rfl, rfl⟩
                      · rw [if_neg (of_decide_eq_false c)] at H
                        clear c
                        refine qw [6] rfl ?_
                        refine qk ?_
                        refine qs ?_
                        refine qr T_ok [4, 5] (E2 := [(4, [], .own 9 1 ByteArray eS x308 1), (5, [], vi 0)]) (by kernel_rfl) ?_
                        refine qt ?_
                        obtain rfl := Option.some.inj H
                        exact ⟨.tup [.own 9 1 ByteArray eS x308 1, vi 0], by kernel_rfl, rfl⟩
/-! ### slices.Clone[[]string,string]: function 31 -/
def slices_Clone_string_string.f (a0 : List ByteArray) : Option (List ByteArray) := (nq a0 fun b1 => (if b1 = true then some [] else ((app 16 ([] : List ByteArray) a0).bind fun x2 => some x2)))
theorem slices_Clone_string_string.ok (a0 : List ByteArray) (r : List ByteArray) (H : slices_Clone_string_string.f a0 = some r) : PF Try.prog 31 [.p (.sl 1 ByteArray eS a0)] (.p (.sl 1 ByteArray eS r)) := by
  refine PF_mk T_ok Try.func31 rfl (by kernel_rfl) (by kernel_rfl) ?_
  unfold slices_Clone_string_string.f at H
  refine qs ?_
  refine qr T_ok [0] (E2 := [(0, [], .p (.sl 1 ByteArray eS a0))]) (by kernel_rfl) ?_
  refine qs ?_
  refine qs ?_
  refine qg ?_
  refine qm T_ok 1 (k := 1) (by kernel_rfl) (by kernel_rfl) (by kernel_rfl) ?_
  refine xq T_ok (enc := eS) (l := a0) (e := 9) (n := 1) (sx := (.p (.sl 1 ByteArray eS a0))) rfl rfl rfl rfl (by kernel_rfl) (by kernel_rfl) (by kernel_rfl) (by kernel_rfl) ?_
  intro b1 hn
  have H := nq_of H b1 hn
  clear hn
  refine qz T_ok 0 [0, 4] 0 (E2 := [(0, [], .p (.sl 1 ByteArray eS a0)), (4, [], vb b1)]) (h1 := []) (by kernel_rfl) (by kernel_rfl) (by kernel_rfl) (by kernel_rfl) (by kernel_rfl) ?_
  refine qi (t := b1) (by kernel_rfl) (fun c => ?_) (fun c => ?_)
  · rw [if_pos c] at H
    clear c
    refine qs ?_
    refine qr T_ok [2] (E2 := [(2, [], .p (.sl 1 ByteArray eS []))]) (by kernel_rfl) ?_
    refine qt ?_
    obtain rfl := Option.some.inj H
    exact ⟨.p (.sl 1 ByteArray eS []), by kernel_rfl, rfl⟩
  · rw [if_neg (by rw [c]; exact Bool.false_ne_true)] at H
    clear c
    refine qw [0] rfl ?_
    refine qk ?_
    refine qs ?_
    refine qg ?_
    refine xl T_ok (e := 9) (n := 1) (j := 0) eS ([]) rfl rfl rfl rfl (by kernel_rfl) (by kernel_rfl) rfl ?_
    refine qm T_ok 1 (k := 2) (by kernel_rfl) (by kernel_rfl) (by kernel_rfl) ?_
    obtain ⟨x2, hx, H⟩ := bd H
    refine xp T_ok (enc := eS) (l := []) (m := a0) (e := 9) (e' := 9) (j := 0) (ei := ti9) (sy := (.p (.sl 1 ByteArray eS a0))) hx rfl rfl rfl rfl rfl rfl rfl (by kernel_rfl) (by kernel_rfl) (by kernel_rfl) (by kernel_rfl) (by kernel_rfl) (by kernel_rfl) (by kernel_rfl) (by kernel_rfl) (by kernel_rfl) rfl ?_
    clear hx
    refine qz T_ok 1 [2] 1 (E2 := [(2, [], .own 9 1 ByteArray eS x2 0)]) (h1 := [.tail]) (by kernel_rfl) (by kernel_rfl) (by kernel_rfl) (by kernel_rfl) (by kernel_rfl) ?_
    refine qt ?_
    obtain rfl := Option.some.inj H
    exact ⟨.own 9 1 ByteArray eS x2 0, by kernel_rfl, rfl⟩
/-! ### quitclaim/hunk.All: function 23 -/
def hunk_All.l0 (a1 : List S_At_Old_New) : Nat → (List ByteArray) → Int → Option ((List ByteArray) × Int × Int)
  | 0, _, _ => none
  | k + 1, x5, x6 => (if x6 < (a1.length : Int) then ((ix a1 x6).bind fun x9 => ((hunk_Apply.f k x5 x9).bind fun x10 => (if (!decide (x10.2 = 0)) = true then some ([], x6, x10.2) else hunk_All.l0 a1 k x10.1 (w64 (x6 + 1))))) else some (x5, (a1.length : Int), 0))
def hunk_All.f (k : Nat) (a0 : List ByteArray) (a1 : List S_At_Old_New) : Option ((List ByteArray) × Int × Int) := ((hunk_Lines.f k a0).bind fun x1 => (if (!x1) = true then some ([], 0, 3) else ((slices_Clone_string_string.f a0).bind fun x2 => hunk_All.l0 a1 k x2 0)))
theorem hunk_All.ok (k : Nat) (a0 : List ByteArray) (a1 : List S_At_Old_New) (r : (List ByteArray) × Int × Int) (H : hunk_All.f k a0 a1 = some r) : PF Try.prog 23 [.p (.sl 1 ByteArray eS a0), .p (.sl 3 S_At_Old_New eS_At_Old_New a1)] (.tup [.p (.sl 1 ByteArray eS r.1), vi r.2.1, vi r.2.2]) := by
  refine PF_mk T_ok Try.func23 rfl (by kernel_rfl) (by kernel_rfl) ?_
  unfold hunk_All.f at H
  refine qs ?_
  refine qr T_ok [0, 1] (E2 := [(0, [], .p (.sl 1 ByteArray eS a0)), (1, [], .p (.sl 3 S_At_Old_New eS_At_Old_New a1))]) (by kernel_rfl) ?_
  refine qs ?_
  refine qs ?_
  refine qg ?_
  refine qm T_ok 1 (k := 1) (by kernel_rfl) (by kernel_rfl) (by kernel_rfl) ?_
  obtain ⟨x1, hx, H⟩ := bd H
  refine qy rfl (zc (T := T) (hunk_Lines.ok k a0 _ hx) Try.func12 rfl rfl (caps := []) (by kernel_rfl) (by kernel_rfl) (by kernel_rfl) (by kernel_rfl) (by kernel_rfl) (by kernel_rfl)) rfl (by kernel_rfl) rfl ?_
  clear hx
  refine qz T_ok 1 [0, 1, 13] 0 (E2 := [(0, [], .p (.sl 1 ByteArray eS a0)), (1, [], .p (.sl 3 S_At_Old_New eS_At_Old_New a1)), (13, [], vb (!x1))]) (h1 := []) (by kernel_rfl) (by kernel_rfl) (by kernel_rfl) (by kernel_rfl) (by kernel_rfl) ?_
  refine qi (t := !x1) (by kernel_rfl) (fun c => ?_) (fun c => ?_)
  · rw [if_pos c] at H
    clear c
    refine qs ?_
    refine qr T_ok [4, 5, 6] (E2 := [(4, [], .p (.sl 1 ByteArray eS [])), (5, [], vi 0), (6, [], vi 3)]) (by kernel_rfl) ?_
    refine qt ?_
    obtain rfl := Option.some.inj H
    exact ⟨.tup [.p (.sl 1 ByteArray eS []), vi 0, vi 3], by kernel_rfl, rfl⟩
  · rw [if_neg (by rw [c]; exact Bool.false_ne_true)] at H
    clear c
    refine qw [0, 1] rfl ?_
    refine qk ?_
    refine qs ?_
    refine qg ?_
    refine qm T_ok 1 (k := 1) (by kernel_rfl) (by kernel_rfl) (by kernel_rfl) ?_
    obtain ⟨x2, hx, H⟩ := bd H
    refine qy rfl (zc (T := T) (slices_Clone_string_string.ok a0 _ hx) Try.func31 rfl rfl (caps := []) (by kernel_rfl) (by kernel_rfl) (by kernel_rfl) (by kernel_rfl) (by kernel_rfl) (by kernel_rfl)) rfl (by kernel_rfl) rfl ?_
    clear hx
    refine qz T_ok 1 [0, 1] 0 (E2 := [(0, [], .p (.sl 1 ByteArray eS x2)), (1, [], .p (.sl 3 S_At_Old_New eS_At_Old_New a1))]) (h1 := []) (by kernel_rfl) (by kernel_rfl) (by kernel_rfl) (by kernel_rfl) (by kernel_rfl) ?_
    refine qs ?_
    refine qs ?_
    refine qr T_ok [0, 1, 16, 17, 18] (E2 := [(0, [], .p (.sl 1 ByteArray eS x2)), (1, [], .p (.sl 3 S_At_Old_New eS_At_Old_New a1)), (16, [], .p (.sl 3 S_At_Old_New eS_At_Old_New a1)), (17, [], vi (a1.length : Int)), (18, [], vi 0)]) (by kernel_rfl) ?_
    refine qb ?_
    refine qp (fun k E h => ∃ x5 : List ByteArray, ∃ x6 : Int, E = [(0, [], .p (.sl 1 ByteArray eS x5)), (1, [], .p (.sl 3 S_At_Old_New eS_At_Old_New a1)), (16, [], .p (.sl 3 S_At_Old_New eS_At_Old_New a1)), (17, [], vi (a1.length : Int)), (18, [], vi x6)] ∧ h = [] ∧ hunk_All.l0 a1 k x5 x6 = some r) k ⟨x2, 0, rfl, rfl, H⟩ ?_
    clear H
    rintro k E h ⟨x5, x6, rfl, rfl, H⟩
    cases k with
    | zero => exact nomatch (show none = some r from H)
    | succ k =>
      rw [hunk_All.l0] at H
      refine qs ?_
      refine qr T_ok [0, 1, 16, 17, 18, 19] (E2 := [(0, [], .p (.sl 1 ByteArray eS x5)), (1, [], .p (.sl 3 S_At_Old_New eS_At_Old_New a1)), (16, [], .p (.sl 3 S_At_Old_New eS_At_Old_New a1)), (17, [], vi (a1.length : Int)), (18, [], vi x6), (19, [], vb (decide (x6 < (a1.length : Int))))]) (by kernel_rfl) ?_
      refine qs ?_
      refine qi (t := decide (x6 < (a1.length : Int))) (by kernel_rfl) (fun c => ?_) (fun c => ?_)
      · rw [if_pos (of_decide_eq_true c)] at H
        clear c
        refine qw [0, 1, 16, 17, 18] rfl ?_
        refine qk ?_
        refine qs ?_
        refine qb ?_
        refine qs ?_
        refine qg ?_
        refine qm T_ok 1 (k := 1) (by kernel_rfl) (by kernel_rfl) (by kernel_rfl) ?_
        obtain ⟨x9, hx, H⟩ := bd H
        refine qy rfl (zi T_ok .i64 (enc := eS_At_Old_New) (l := a1) (e := 24) (n := 3) (ei := ti24) (sa := (.p (.sl 3 S_At_Old_New eS_At_Old_New a1))) hx rfl (by kernel_rfl) (by kernel_rfl) rfl (by kernel_rfl) (by kernel_rfl) (by kernel_rfl)) rfl (by kernel_rfl) rfl ?_
        clear hx
        refine qm T_ok 1 (k := 3) (by kernel_rfl) (by kernel_rfl) (by kernel_rfl) ?_
        refine xa T_ok (j := 0) (ti := ti24) rfl rfl rfl rfl (by kernel_rfl) (by kernel_rfl) rfl ?_
        refine qm T_ok 1 (k := 5) (by kernel_rfl) (by kernel_rfl) (by kernel_rfl) ?_
        refine xs T_ok (u := 24) (b := 0) (off := 0) (vs := [vi x9.f0_At, .p (.sl 1 ByteArray eS x9.f1_Old), .p (.sl 1 ByteArray eS x9.f2_New)]) (cs := [vi 0, .p (.sl 1 ByteArray eS []), .p (.sl 1 ByteArray eS [])]) (ti := ti24) rfl rfl rfl rfl (by kernel_rfl) (by kernel_rfl) (by kernel_rfl) (by kernel_rfl) (by kernel_rfl) (by kernel_rfl) rfl ?_
        refine qz T_ok 0 [0, 1, 7, 8, 16, 17, 18] 1 (E2 := [(0, [], .p (.sl 1 ByteArray eS x5)), (1, [], .p (.sl 3 S_At_Old_New eS_At_Old_New a1)), (7, [], vi x6), (8, [], .ptr 0 0), (16, [], .p (.sl 3 S_At_Old_New eS_At_Old_New a1)), (17, [], vi (a1.length : Int)), (18, [], vi x6)]) (h1 := [.cells 24 [vi x9.f0_At, .p (.sl 1 ByteArray eS x9.f1_Old), .p (.sl 1 ByteArray eS x9.f2_New)]]) (by kernel_rfl) (by kernel_rfl) (by kernel_rfl) (by kernel_rfl) (by kernel_rfl) ?_
        refine qs ?_
        refine qg ?_
        refine qm T_ok 2 (k := 2) (by kernel_rfl) (by kernel_rfl) (by kernel_rfl) ?_
        obtain ⟨x10, hx, H⟩ := bd H
        refine qy rfl (zc (T := T) (hunk_Apply.ok k x5 x9 _ hx) Try.func8 rfl rfl (caps := []) (by kernel_rfl) (by kernel_rfl) (by kernel_rfl) (by kernel_rfl) (by kernel_rfl) (by kernel_rfl)) rfl (by kernel_rfl) rfl ?_
        clear hx
        refine qz T_ok 5 [1, 7, 9, 10, 16, 17, 18] 0 (E2 := [(1, [], .p (.sl 3 S_At_Old_New eS_At_Old_New a1)), (7, [], vi x6), (9, [], .p (.sl 1 ByteArray eS x10.1)), (10, [], vi x10.2), (16, [], .p (.sl 3 S_At_Old_New eS_At_Old_New a1)), (17, [], vi (a1.length : Int)), (18, [], vi x6)]) (h1 := []) (by kernel_rfl) (by kernel_rfl) (by kernel_rfl) (by kernel_rfl) (by kernel_rfl) ?_
        refine qs ?_
        refine qs ?_
        refine qr T_ok [1, 7, 9, 10, 16, 17, 18, 30] (E2 := [(1, [], .p (.sl 3 S_At_Old_New eS_At_Old_New a1)), (7, [], vi x6), (9, [], .p (.sl 1 ByteArray eS x10.1)), (10, [], vi x10.2), (16, [], .p (.sl 3 S_At_Old_New eS_At_Old_New a1)), (17, [], vi (a1.length : Int)), (18, [], vi x6), (30, [], vb (!decide (x10.2 = 0)))]) (by kernel_rfl) ?_
        refine qi (t := !decide (x10.2 = 0)) (by kernel_rfl) (fun c => ?_) (fun c => ?_)
        · rw [if_pos c] at H
          clear c
          refine qs ?_
          refine qr T_ok [4, 5, 6] (E2 := [(4, [], .p (.sl 1 ByteArray eS [])), (5, [], vi x6), (6, [], vi x10.2)]) (by kernel_rfl) ?_
          refine qt ?_
          obtain rfl := Option.some.inj H
          exact ⟨.tup [.p (.sl 1 ByteArray eS []), vi x6, vi x10.2], by kernel_rfl, rfl⟩
        · rw [if_neg (by rw [c]; exact Bool.false_ne_true)] at H
          clear c
          refine qw [1, 9, 16, 17, 18] rfl ?_
          refine qk ?_
          refine qr T_ok [0, 1, 16, 17, 18] (E2 := [(0, [], .p (.sl 1 ByteArray eS x10.1)), (1, [], .p (.sl 3 S_At_Old_New eS_At_Old_New a1)), (16, [], .p (.sl 3 S_At_Old_New eS_At_Old_New a1)), (17, [], vi (a1.length : Int)), (18, [], vi x6)]) (by kernel_rfl) ?_
          refine qr T_ok [0, 1, 16, 17, 18] (E2 := [(0, [], .p (.sl 1 ByteArray eS x10.1)), (1, [], .p (.sl 3 S_At_Old_New eS_At_Old_New a1)), (16, [], .p (.sl 3 S_At_Old_New eS_At_Old_New a1)), (17, [], vi (a1.length : Int)), (18, [], vi (w64 (x6 + 1)))]) (by kernel_rfl) ?_
          exact ⟨_, Nat.lt_succ_self _, x10.1, w64 (x6 + 1), rfl, rfl, H⟩
      · rw [if_neg (of_decide_eq_false c)] at H
        clear c
        refine qw [0, 1] rfl ?_
        refine qx ?_
        refine qs ?_
        refine qr T_ok [4, 5, 6] (E2 := [(4, [], .p (.sl 1 ByteArray eS x5)), (5, [], vi (a1.length : Int)), (6, [], vi 0)]) (by kernel_rfl) ?_
        refine qt ?_
        obtain rfl := Option.some.inj H
        exact ⟨.tup [.p (.sl 1 ByteArray eS x5), vi (a1.length : Int), vi 0], by kernel_rfl, rfl⟩
/-! ### slices.Backward[[]quitclaim/hunk.Hunk,quitclaim/hunk.Hunk]: function 35 -/
theorem slices_Backward_hunk_Hunk_hunk_Hunk.ok (a0 : List S_At_Old_New) : PF Try.prog 35 [.p (.sl 3 S_At_Old_New eS_At_Old_New a0)] (.fn 39 [.padr [(.sl 3 S_At_Old_New eS_At_Old_New a0)]]) := by
  refine PF_mk T_ok Try.func35 rfl (by kernel_rfl) (by kernel_rfl) ?_
  have H : some () = some () := rfl
  refine qs ?_
  refine qg ?_
  refine qy rfl (zF T (cs := ([(.sl 3 S_At_Old_New eS_At_Old_New a0)])) rfl (by kernel_rfl)) rfl (by kernel_rfl) rfl ?_
  refine qz T_ok 1 [1] 0 (E2 := [(1, [], .padr [(.sl 3 S_At_Old_New eS_At_Old_New a0)])]) (h1 := []) (by kernel_rfl) (by kernel_rfl) (by kernel_rfl) (by kernel_rfl) (by kernel_rfl) ?_
  refine qs ?_
  refine qr T_ok [2] (E2 := [(2, [], .fn 39 [.padr [(.sl 3 S_At_Old_New eS_At_Old_New a0)]])]) (by kernel_rfl) ?_
  refine qt ?_
  exact ⟨.fn 39 [.padr [(.sl 3 S_At_Old_New eS_At_Old_New a0)]], by kernel_rfl, rfl⟩
/-! ### slices.Backward[[]quitclaim/hunk.Hunk,quitclaim/hunk.Hunk]$1: function 39 -/
theorem bw39 : BwOk Try.prog T (bwR0 Try.f39.body) (bwR1 Try.f39.body) (bwR2 Try.f39.body) (bwR3 Try.f39.body) 3 S_At_Old_New eS_At_Old_New where
  p0 := by kernel_rfl
  p1 := by kernel_rfl
  p2 := by kernel_rfl
  p3 := by kernel_rfl
  h0 := fun l xs => by kernel_rfl
  h1 := fun l xs i => by kernel_rfl
  h2 := fun l xs i => by kernel_rfl
  h3 := fun l xs i => by kernel_rfl
  h4 := ⟨_, _, 24, ti24, rfl, rfl, rfl, rfl, by kernel_rfl, by kernel_rfl, rfl⟩
  h5 := fun l xs i x => by kernel_rfl
  h6 := ⟨_, _, rfl, rfl, rfl, rfl, rfl, rfl⟩
  h7 := fun l xs i x b => by kernel_rfl
  h8 := fun b => by kernel_rfl
  s3 := rfl
/-! ### quitclaim/hunk.Invert: function 17 -/
def hunk_Invert.f (a0 : S_At_Old_New) : Option S_At_Old_New := ((slices_Clone_string_string.f a0.f2_New).bind fun x1 => ((slices_Clone_string_string.f a0.f1_Old).bind fun x2 => some (⟨a0.f0_At, x1, x2⟩ : S_At_Old_New)))
theorem hunk_Invert.ok (a0 : S_At_Old_New) (r : S_At_Old_New) (H : hunk_Invert.f a0 = some r) : PF Try.prog 17 [.p (.agg [(.s (.int .i64 a0.f0_At)), (.sl 1 ByteArray eS a0.f1_Old), (.sl 1 ByteArray eS a0.f2_New)])] (.p (.agg [(.s (.int .i64 r.f0_At)), (.sl 1 ByteArray eS r.f1_Old), (.sl 1 ByteArray eS r.f2_New)])) := by
  refine PF_mk T_ok Try.func17 rfl (by kernel_rfl) (by kernel_rfl) ?_
  unfold hunk_Invert.f at H
  refine qs ?_
  refine qg ?_
  refine xb (T := T) (j := 0) (cs := [vi a0.f0_At, .p (.sl 1 ByteArray eS a0.f1_Old), .p (.sl 1 ByteArray eS a0.f2_New)]) rfl rfl rfl rfl (by kernel_rfl) (by kernel_rfl) rfl ?_
  refine xa T_ok (j := 1) (ti := ti24) rfl rfl rfl rfl (by kernel_rfl) (by kernel_rfl) rfl ?_
  refine qz T_ok 0 [1, 2] 2 (E2 := [(1, [], .ptr 0 0), (2, [], .ptr 1 0)]) (h1 := [.cells 24 [vi a0.f0_At, .p (.sl 1 ByteArray eS a0.f1_Old), .p (.sl 1 ByteArray eS a0.f2_New)], .cells 24 [vi 0, .p (.sl 1 ByteArray eS []), .p (.sl 1 ByteArray eS [])]]) (by kernel_rfl) (by kernel_rfl) (by kernel_rfl) (by kernel_rfl) (by kernel_rfl) ?_
  refine qs ?_
  refine qd (by kernel_rfl) 9 (by kernel_rfl) (by kernel_rfl) (by kernel_rfl) (by kernel_rfl) (by kernel_rfl) ?_
  refine dm T_ok 4 (k := 4) (by kernel_rfl) (by kernel_rfl) ?_
  obtain ⟨x1, hx, H⟩ := bd H
  refine dy rfl (zc (T := T) (slices_Clone_string_string.ok a0.f2_New _ hx) Try.func31 rfl rfl (caps := []) (by kernel_rfl) (by kernel_rfl) (by kernel_rfl) (by kernel_rfl) (by kernel_rfl) (by kernel_rfl)) rfl (by kernel_rfl) rfl ?_
  clear hx
  refine dm T_ok 2 (k := 7) (by kernel_rfl) (by kernel_rfl) ?_
  obtain ⟨x2, hx, H⟩ := bd H
  refine dy rfl (zc (T := T) (slices_Clone_string_string.ok a0.f1_Old _ hx) Try.func31 rfl rfl (caps := []) (by kernel_rfl) (by kernel_rfl) (by kernel_rfl) (by kernel_rfl) (by kernel_rfl) (by kernel_rfl)) rfl (by kernel_rfl) rfl ?_
  clear hx
  refine dm T_ok 1 (k := 9) (by kernel_rfl) (by kernel_rfl) ?_
  refine dn ?_
  refine xs T_ok (u := 24) (b := 1) (off := 0) (vs := [vi a0.f0_At, .p (.sl 1 ByteArray eS x1), .p (.sl 1 ByteArray eS x2)]) (cs := [vi 0, .p (.sl 1 ByteArray eS []), .p (.sl 1 ByteArray eS [])]) (ti := ti24) rfl rfl rfl rfl (by kernel_rfl) (by kernel_rfl) (by kernel_rfl) (by kernel_rfl) (by kernel_rfl) (by kernel_rfl) rfl ?_
  refine qz T_ok 0 [2] 2 (E2 := [(2, [], .ptr 1 0)]) (h1 := [.cells 24 [vi a0.f0_At, .p (.sl 1 ByteArray eS a0.f1_Old), .p (.sl 1 ByteArray eS a0.f2_New)], .cells 24 [vi a0.f0_At, .p (.sl 1 ByteArray eS x1), .p (.sl 1 ByteArray eS x2)]]) (by kernel_rfl) (by kernel_rfl) (by kernel_rfl) (by kernel_rfl) (by kernel_rfl) ?_
  refine qt ?_
  obtain rfl := Option.some.inj H
  exact ⟨.p (.agg [(.s (.int .i64 a0.f0_At)), (.sl 1 ByteArray eS x1), (.sl 1 ByteArray eS x2)]), by kernel_rfl, rfl⟩
/-! ### quitclaim/hunk.Back: function 24 -/
def hunk_Back.l0 (k : Nat)  : List S_At_Old_New → (List S_At_Old_New) → Option (List S_At_Old_New)
  | [], x5 => some x5
  | x1 :: y2, x5 => ((hunk_Invert.f x1).bind fun x8 => ((app 56 x5 [x8]).bind fun x9 => hunk_Back.l0 k y2 x9))
def hunk_Back.f (k : Nat) (a0 : List S_At_Old_New) : Option (List S_At_Old_New) := ((lnb a0).bind fun _ => hunk_Back.l0 k (a0).reverse [])
theorem hunk_Back.ok (k : Nat) (a0 : List S_At_Old_New) (r : List S_At_Old_New) (H : hunk_Back.f k a0 = some r) : PF Try.prog 24 [.p (.sl 3 S_At_Old_New eS_At_Old_New a0)] (.p (.sl 3 S_At_Old_New eS_At_Old_New r)) := by
  refine PF_mk T_ok Try.func24 rfl (by kernel_rfl) (by kernel_rfl) ?_
  unfold hunk_Back.f at H
  refine qs ?_
  refine qr T_ok [0] (E2 := [(0, [], .p (.sl 3 S_At_Old_New eS_At_Old_New a0))]) (by kernel_rfl) ?_
  refine qs ?_
  refine qg ?_
  refine xO T_ok (e := 24) (n := 3) (enc := eS_At_Old_New) (j := 0) (k := 1) (ti := ti45) rfl rfl rfl rfl (by kernel_rfl) rfl (by kernel_rfl) rfl rfl ?_
  refine qz T_ok 0 [0, 3] 2 (E2 := [(0, [], .p (.sl 3 S_At_Old_New eS_At_Old_New a0)), (3, [], .ptr 1 0)]) (h1 := [.tail, .cells 45 [.own 24 3 S_At_Old_New eS_At_Old_New [] 0]]) (by kernel_rfl) (by kernel_rfl) (by kernel_rfl) (by kernel_rfl) (by kernel_rfl) ?_
  refine qs ?_
  refine qs ?_
  refine qg ?_
  refine qm T_ok 1 (k := 1) (by kernel_rfl) (by kernel_rfl) (by kernel_rfl) ?_
  refine qy rfl (zc (T := T) (slices_Backward_hunk_Hunk_hunk_Hunk.ok a0) Try.func35 rfl rfl (caps := []) (by kernel_rfl) (by kernel_rfl) (by kernel_rfl) (by kernel_rfl) (by kernel_rfl) (by kernel_rfl)) rfl (by kernel_rfl) rfl ?_
  refine qz T_ok 0 [3, 7] 2 (E2 := [(3, [], .ptr 1 0), (7, [], .fn 39 [.padr [(.sl 3 S_At_Old_New eS_At_Old_New a0)]])]) (h1 := [.tail, .cells 45 [.own 24 3 S_At_Old_New eS_At_Old_New [] 0]]) (by kernel_rfl) (by kernel_rfl) (by kernel_rfl) (by kernel_rfl) (by kernel_rfl) ?_
  refine qb ?_
  obtain ⟨u_, hx, H⟩ := bd H
  refine qB T_ok (enc := eS_At_Old_New) (xs := a0) [3] bw39 Try.func39 (by kernel_rfl) rfl rfl (by kernel_rfl) (by kernel_rfl) (lnb_of hx) rfl (by kernel_rfl) (by kernel_rfl) (by kernel_rfl) (by kernel_rfl) (by kernel_rfl) (by kernel_rfl) (by kernel_rfl) (fun bs ys h' => ∃ x5 : List S_At_Old_New, h' = [.tail, .cells 45 [.own 24 3 S_At_Old_New eS_At_Old_New x5 0], .pin 1 (bs 1)] ∧ hunk_Back.l0 k ys x5 = some r) (fun bs => ⟨[], rfl, H⟩) ?_ ?_ ?_
  · rintro bs ys h' ⟨x5, rfl, _⟩ o ho
    exact (List.mem_append_right [.tail, .cells 45 [.own 24 3 S_At_Old_New eS_At_Old_New x5 0]] ho : o ∈ [.tail, .cells 45 [.own 24 3 S_At_Old_New eS_At_Old_New x5 0]] ++ pins bs 0 [.tail, .cells 45 [.own 24 3 S_At_Old_New eS_At_Old_New [] 0]])
  · clear H hx
    rintro bs x1 y2 h' ⟨x5, rfl, H⟩
    rw [hunk_Back.l0] at H
    refine qg ?_
    refine xa T_ok (j := 3) (ti := ti24) rfl rfl rfl rfl (by kernel_rfl) (by kernel_rfl) rfl ?_
    refine xs T_ok (u := 24) (b := 3) (off := 0) (vs := [vi x1.f0_At, .p (.sl 1 ByteArray eS x1.f1_Old), .p (.sl 1 ByteArray eS x1.f2_New)]) (cs := [vi 0, .p (.sl 1 ByteArray eS []), .p (.sl 1 ByteArray eS [])]) (ti := ti24) rfl rfl rfl rfl (by kernel_rfl) (by kernel_rfl) (by kernel_rfl) (by kernel_rfl) (by kernel_rfl) (by kernel_rfl) rfl ?_
    refine qz T_ok 0 [3, 5] 4 (E2 := [(3, [], .ptr 1 0), (5, [], .ptr 3 0)]) (h1 := [.tail, .cells 45 [.own 24 3 S_At_Old_New eS_At_Old_New x5 0], .pin 1 (bs 1), .cells 24 [vi x1.f0_At, .p (.sl 1 ByteArray eS x1.f1_Old), .p (.sl 1 ByteArray eS x1.f2_New)]]) (by kernel_rfl) (by kernel_rfl) (by kernel_rfl) (by kernel_rfl) (by kernel_rfl) ?_
    refine ⟨rfl, ?_⟩
    refine qb ?_
    refine qd (by kernel_rfl) 4 (by kernel_rfl) (by kernel_rfl) (by kernel_rfl) (by kernel_rfl) (by kernel_rfl) ?_
    refine dm T_ok 2 (k := 2) (by kernel_rfl) (by kernel_rfl) ?_
    obtain ⟨x8, hx, H⟩ := bd H
    refine dy rfl (zc (T := T) (hunk_Invert.ok x1 _ hx) Try.func17 rfl rfl (caps := []) (by kernel_rfl) (by kernel_rfl) (by kernel_rfl) (by kernel_rfl) (by kernel_rfl) (by kernel_rfl)) rfl (by kernel_rfl) rfl ?_
    clear hx
    refine dy rfl (ze T_ok (e := 24) (n := 3) eS_At_Old_New ([x8] : List S_At_Old_New) rfl (by kernel_rfl)) rfl (by kernel_rfl) rfl ?_
    refine dn ?_
    obtain ⟨x9, hx, H⟩ := bd H
    refine xp T_ok (enc := eS_At_Old_New) (l := x5) (m := [x8]) (e := 24) (e' := 24) (j := 0) (ei := ti24) (sy := (.p (.sl 3 S_At_Old_New eS_At_Old_New [x8]))) hx rfl rfl rfl rfl rfl rfl rfl (by kernel_rfl) (by kernel_rfl) (by kernel_rfl) (by kernel_rfl) (by kernel_rfl) (by kernel_rfl) (by kernel_rfl) (by kernel_rfl) (by kernel_rfl) rfl ?_
    clear hx
    refine xs T_ok (u := 45) (b := 1) (off := 0) (vs := [.own 24 3 S_At_Old_New eS_At_Old_New x9 0]) (cs := [.p (.sl 3 S_At_Old_New eS_At_Old_New x5)]) (ti := ti45) rfl rfl rfl rfl (by kernel_rfl) (by kernel_rfl) (by kernel_rfl) (by kernel_rfl) (by kernel_rfl) (by kernel_rfl) rfl ?_
    refine qz T_ok 0 [] 3 (E2 := []) (h1 := [.tail, .cells 45 [.own 24 3 S_At_Old_New eS_At_Old_New x9 0], .pin 1 (bs 1)]) (by kernel_rfl) (by kernel_rfl) (by kernel_rfl) (by kernel_rfl) (by kernel_rfl) ?_
    exact ⟨x9, rfl, H⟩
  · clear H hx
    rintro bs h' ⟨x5, rfl, H⟩ h2 e
    obtain rfl : [.tail, .cells 45 [.own 24 3 S_At_Old_New eS_At_Old_New x5 0], .pin 1 (bs 1), .mark] = h2 := e
    rw [hunk_Back.l0] at H
    refine qs ?_
    refine qr T_ok [2] (E2 := [(2, [], .own 24 3 S_At_Old_New eS_At_Old_New x5 0)]) (by kernel_rfl) ?_
    refine qt ?_
    obtain rfl := Option.some.inj H
    exact ⟨.own 24 3 S_At_Old_New eS_At_Old_New x5 0, by kernel_rfl, rfl⟩
/-! ### quitclaim/quitclaimref05.Same: function 11 -/
def quitclaimref05_Same.l0 (a0 : List ByteArray) (a1 : List ByteArray) : Nat → Int → Option Bool
  | 0, _ => none
  | k + 1, x3 => (if x3 < (a0.length : Int) then ((ix a0 x3).bind fun x6 => ((ix a1 x3).bind fun x7 => (if (!decide (x6 = x7)) = true then some false else quitclaimref05_Same.l0 a0 a1 k (w64 (x3 + 1))))) else some true)
def quitclaimref05_Same.f (k : Nat) (a0 : List ByteArray) (a1 : List ByteArray) : Option Bool := (if (!decide ((a0.length : Int) = (a1.length : Int))) = true then some false else quitclaimref05_Same.l0 a0 a1 k 0)
theorem quitclaimref05_Same.ok (k : Nat) (a0 : List ByteArray) (a1 : List ByteArray) (r : Bool) (H : quitclaimref05_Same.f k a0 a1 = some r) : PF Try.prog 11 [.p (.sl 1 ByteArray eS a0), .p (.sl 1 ByteArray eS a1)] (vb r) := by
  refine PF_mk T_ok Try.func11 rfl (by kernel_rfl) (by kernel_rfl) ?_
  unfold quitclaimref05_Same.f at H
  refine qs ?_
  refine qr T_ok [0, 1] (E2 := [(0, [], .p (.sl 1 ByteArray eS a0)), (1, [], .p (.sl 1 ByteArray eS a1))]) (by kernel_rfl) ?_
  refine qs ?_
  refine qs ?_
  refine qr T_ok [0, 1, 10] (E2 := [(0, [], .p (.sl 1 ByteArray eS a0)), (1, [], .p (.sl 1 ByteArray eS a1)), (10, [], vb (!decide ((a0.length : Int) = (a1.length : Int))))]) (by kernel_rfl) ?_
  refine qi (t := !decide ((a0.length : Int) = (a1.length : Int))) (by kernel_rfl) (fun c => ?_) (fun c => ?_)
  · rw [if_pos c] at H
    clear c
    refine qs ?_
    refine qr T_ok [4] (E2 := [(4, [], vb false)]) (by kernel_rfl) ?_
    refine qt ?_
    obtain rfl := Option.some.inj H
    exact ⟨vb false, by kernel_rfl, rfl⟩
  · rw [if_neg (by rw [c]; exact Bool.false_ne_true)] at H
    clear c
    refine qw [0, 1] rfl ?_
    refine qk ?_
    refine qs ?_
    refine qs ?_
    refine qr T_ok [0, 1, 5] (E2 := [(0, [], .p (.sl 1 ByteArray eS a0)), (1, [], .p (.sl 1 ByteArray eS a1)), (5, [], vi 0)]) (by kernel_rfl) ?_
    refine qb ?_
    refine qp (fun k E h => ∃ x3 : Int, E = [(0, [], .p (.sl 1 ByteArray eS a0)), (1, [], .p (.sl 1 ByteArray eS a1)), (5, [], vi x3)] ∧ h = [] ∧ quitclaimref05_Same.l0 a0 a1 k x3 = some r) k ⟨0, rfl, rfl, H⟩ ?_
    clear H
    rintro k E h ⟨x3, rfl, rfl, H⟩
    cases k with
    | zero => exact nomatch (show none = some r from H)
    | succ k =>
      rw [quitclaimref05_Same.l0] at H
      refine qs ?_
      refine qs ?_
      refine qr T_ok [0, 1, 5, 14] (E2 := [(0, [], .p (.sl 1 ByteArray eS a0)), (1, [], .p (.sl 1 ByteArray eS a1)), (5, [], vi x3), (14, [], vb (decide (x3 < (a0.length : Int))))]) (by kernel_rfl) ?_
      refine qi (t := decide (x3 < (a0.length : Int))) (by kernel_rfl) (fun c => ?_) (fun c => ?_)
      · rw [if_pos (of_decide_eq_true c)] at H
        clear c
        refine qw [0, 1, 5] rfl ?_
        refine qk ?_
        refine qs ?_
        refine qb ?_
        refine qs ?_
        refine qd (by kernel_rfl) 9 (by kernel_rfl) (by kernel_rfl) (by kernel_rfl) (by kernel_rfl) (by kernel_rfl) ?_
        refine dm T_ok 2 (k := 2) (by kernel_rfl) (by kernel_rfl) ?_
        obtain ⟨x6, hx, H⟩ := bd H
        refine dy rfl (zi T_ok .i64 (enc := eS) (l := a0) (e := 9) (n := 1) (ei := ti9) (sa := (.p (.sl 1 ByteArray eS a0))) hx rfl (by kernel_rfl) (by kernel_rfl) rfl (by kernel_rfl) (by kernel_rfl) (by kernel_rfl)) rfl (by kernel_rfl) rfl ?_
        clear hx
        refine dm T_ok 3 (k := 6) (by kernel_rfl) (by kernel_rfl) ?_
        obtain ⟨x7, hx, H⟩ := bd H
        refine dy rfl (zi T_ok .i64 (enc := eS) (l := a1) (e := 9) (n := 1) (ei := ti9) (sa := (.p (.sl 1 ByteArray eS a1))) hx rfl (by kernel_rfl) (by kernel_rfl) rfl (by kernel_rfl) (by kernel_rfl) (by kernel_rfl)) rfl (by kernel_rfl) rfl ?_
        clear hx
        refine dm T_ok 2 (k := 9) (by kernel_rfl) (by kernel_rfl) ?_
        refine dn ?_
        refine qz T_ok 0 [0, 1, 5, 25] 0 (E2 := [(0, [], .p (.sl 1 ByteArray eS a0)), (1, [], .p (.sl 1 ByteArray eS a1)), (5, [], vi x3), (25, [], vb (!decide (x6 = x7)))]) (h1 := []) (by kernel_rfl) (by kernel_rfl) (by kernel_rfl) (by kernel_rfl) (by kernel_rfl) ?_
        refine qi (t := !decide (x6 = x7)) (by kernel_rfl) (fun c => ?_) (fun c => ?_)
        · rw [if_pos c] at H
          clear c
          refine qs ?_
          refine qr T_ok [4] (E2 := [(4, [], vb false)]) (by kernel_rfl) ?_
          refine qt ?_
          obtain rfl := Option.some.inj H
          exact ⟨vb false, by kernel_rfl, rfl⟩
        · rw [if_neg (by rw [c]; exact Bool.false_ne_true)] at H
          clear c
          refine qw [0, 1, 5] rfl ?_
          refine qk ?_
          refine qr T_ok [0, 1, 5] (E2 := [(0, [], .p (.sl 1 ByteArray eS a0)), (1, [], .p (.sl 1 ByteArray eS a1)), (5, [], vi (w64 (x3 + 1)))]) (by kernel_rfl) ?_
          exact ⟨_, Nat.lt_succ_self _, w64 (x3 + 1), rfl, rfl, H⟩
      · rw [if_neg (of_decide_eq_false c)] at H
        clear c
        refine qw [] rfl ?_
        refine qx ?_
        refine qs ?_
        refine qr T_ok [4] (E2 := [(4, [], vb true)]) (by kernel_rfl) ?_
        refine qt ?_
        obtain rfl := Option.some.inj H
        exact ⟨vb true, by kernel_rfl, rfl⟩
/-! ### quitclaim/quitclaimlaw11.HunkAll: function 5 -/
def quitclaimlaw11_HunkAll.l0 (a0 : List ByteArray) (a1 : List S_At_Old_New) : Nat → (List ByteArray) → Int → Int → Int → Option Bool
  | 0, _, _, _, _ => none
  | k + 1, x21, x22, x23, x24 => (if (decide (x24 < (a1.length : Int)) && decide (x23 = 0)) = true then ((ix a1 x24).bind fun x39 => ((ix a1 x24).bind fun x40 => ((quitclaimlaw11_long.f k [x39.f1_Old, x40.f2_New]).bind fun x41 => (if x41 = true then ((quitclaimlaw11_awake.f k).bind fun x42 => some x42) else ((ix a1 x24).bind fun x43 => ((quitclaimlaw11_plain.f x43).bind fun x44 => ((quitclaimref11_Apply.f k x21 x44).bind fun x45 => (if (!decide (x45.2 = 0)) = true then quitclaimlaw11_HunkAll.l0 a0 a1 k x45.1 x24 x45.2 (w64 (x24 + 1)) else quitclaimlaw11_HunkAll.l0 a0 a1 k x45.1 x22 x45.2 (w64 (x24 + 1)))))))))) else ((hunk_All.f k a0 a1).bind fun x46 => (if (!decide (x46.2.1 = x22) || !decide (x46.2.2 = x23)) = true then some false else (if (!decide (x23 = 0)) = true then ((gd (decide ((x46.1.length : Int) = 0)) (quitclaimlaw11_awake.f k)).bind fun x47 => some (decide ((x46.1.length : Int) = 0) && x47)) else ((hunk_Back.f k a1).bind fun x48 => ((hunk_All.f k x46.1 x48).bind fun x49 => ((quitclaimref05_Same.f k x46.1 x21).bind fun x50 => ((gd ((x50 && decide (x49.2.2 = 0)) && decide (x49.2.1 = (a1.length : Int))) (quitclaimref05_Same.f k x49.1 a0)).bind fun x51 => ((gd (((x50 && decide (x49.2.2 = 0)) && decide (x49.2.1 = (a1.length : Int))) && x51) (quitclaimlaw11_awake.f k)).bind fun x52 => some ((((x50 && decide (x49.2.2 = 0)) && decide (x49.2.1 = (a1.length : Int))) && x51) && x52))))))))))
def quitclaimlaw11_HunkAll.f (k : Nat) (a0 : List ByteArray) (a1 : List S_At_Old_New) : Option Bool := ((quitclaimlaw11_long.f k [a0]).bind fun x1 => (if (x1 || decide ((a1.length : Int) > 20)) = true then ((quitclaimlaw11_awake.f k).bind fun x2 => some x2) else (jn (fun (x4 : Int) (x5 : Int) => quitclaimlaw11_HunkAll.l0 a0 a1 k a0 x4 x5 0) fun j0 => ((quitclaimref11_Lines.f k a0).bind fun x6 => (if (!x6) = true then j0 0 3 else j0 (a1.length : Int) 0)))))
theorem quitclaimlaw11_HunkAll.ok (k : Nat) (a0 : List ByteArray) (a1 : List S_At_Old_New) (r : Bool) (H : quitclaimlaw11_HunkAll.f k a0 a1 = some r) : PF Try.prog 5 [.p (.sl 1 ByteArray eS a0), .p (.sl 3 S_At_Old_New eS_At_Old_New a1)] (vb r) := by
  refine PF_mk T_ok Try.func5 rfl (by kernel_rfl) (by kernel_rfl) ?_
  unfold quitclaimlaw11_HunkAll.f at H
  refine qs ?_
  refine qr T_ok [0, 1] (E2 := [(0, [], .p (.sl 1 ByteArray eS a0)), (1, [], .p (.sl 3 S_At_Old_New eS_At_Old_New a1))]) (by kernel_rfl) ?_
  refine qs ?_
  refine qs ?_
  refine qg ?_
  refine qm T_ok 1 (k := 1) (by kernel_rfl) (by kernel_rfl) (by kernel_rfl) ?_
  refine qy rfl (ze T_ok (e := 22) (n := 1) (eL 1 eS) ([a0] : List (List ByteArray)) rfl (by kernel_rfl)) rfl (by kernel_rfl) rfl ?_
  obtain ⟨x1, hx, H⟩ := bd H
  refine qy rfl (zc (T := T) (quitclaimlaw11_long.ok k [a0] _ hx) Try.func6 rfl rfl (caps := []) (by kernel_rfl) (by kernel_rfl) (by kernel_rfl) (by kernel_rfl) (by kernel_rfl) (by kernel_rfl)) rfl (by kernel_rfl) rfl ?_
  clear hx
  refine qz T_ok 5 [0, 1, 22] 0 (E2 := [(0, [], .p (.sl 1 ByteArray eS a0)), (1, [], .p (.sl 3 S_At_Old_New eS_At_Old_New a1)), (22, [], vb (x1 || decide ((a1.length : Int) > 20)))]) (h1 := []) (by kernel_rfl) (by kernel_rfl) (by kernel_rfl) (by kernel_rfl) (by kernel_rfl) ?_
  refine qi (t := (x1 || decide ((a1.length : Int) > 20))) (by kernel_rfl) (fun c => ?_) (fun c => ?_)
  · rw [if_pos c] at H
    clear c
    refine qs ?_
    refine qg ?_
    obtain ⟨x2, hx, H⟩ := bd H
    refine qy rfl (zc (T := T) (quitclaimlaw11_awake.ok k _ hx) Try.func7 rfl rfl (caps := []) (by kernel_rfl) (by kernel_rfl) (by kernel_rfl) (by kernel_rfl) (by kernel_rfl) (by kernel_rfl)) rfl (by kernel_rfl) rfl ?_
    clear hx
    refine qz T_ok 1 [4] 0 (E2 := [(4, [], vb x2)]) (h1 := []) (by kernel_rfl) (by kernel_rfl) (by kernel_rfl) (by kernel_rfl) (by kernel_rfl) ?_
    refine qt ?_
    obtain rfl := Option.some.inj H
    exact ⟨vb x2, by kernel_rfl, rfl⟩
  · rw [if_neg (by rw [c]; exact Bool.false_ne_true)] at H
    clear c
    refine qw [0, 1] rfl ?_
    refine qk ?_
    refine qs ?_
    refine qr T_ok [0, 1, 5, 6, 7] (E2 := [(0, [], .p (.sl 1 ByteArray eS a0)), (1, [], .p (.sl 3 S_At_Old_New eS_At_Old_New a1)), (5, [], .p (.sl 1 ByteArray eS a0)), (6, [], vi (a1.length : Int)), (7, [], vi 0)]) (by kernel_rfl) ?_
    obtain ⟨j0, hj, H⟩ := jn_of H
    refine qc (fun E h => ∃ x4 : Int, ∃ x5 : Int, E = [(0, [], .p (.sl 1 ByteArray eS a0)), (1, [], .p (.sl 3 S_At_Old_New eS_At_Old_New a1)), (5, [], .p (.sl 1 ByteArray eS a0)), (6, [], vi x4), (7, [], vi x5)] ∧ h = [] ∧ j0 x4 x5 = some r) ?_ ?_
    · clear hj
      refine qs ?_
      refine qg ?_
      refine qm T_ok 1 (k := 1) (by kernel_rfl) (by kernel_rfl) (by kernel_rfl) ?_
      obtain ⟨x6, hx, H⟩ := bd H
      refine qy rfl (zc (T := T) (quitclaimref11_Lines.ok k a0 _ hx) Try.func13 rfl rfl (caps := []) (by kernel_rfl) (by kernel_rfl) (by kernel_rfl) (by kernel_rfl) (by kernel_rfl) (by kernel_rfl)) rfl (by kernel_rfl) rfl ?_
      clear hx
      refine qz T_ok 1 [0, 1, 5, 6, 7, 29] 0 (E2 := [(0, [], .p (.sl 1 ByteArray eS a0)), (1, [], .p (.sl 3 S_At_Old_New eS_At_Old_New a1)), (5, [], .p (.sl 1 ByteArray eS a0)), (6, [], vi (a1.length : Int)), (7, [], vi 0), (29, [], vb (!x6))]) (h1 := []) (by kernel_rfl) (by kernel_rfl) (by kernel_rfl) (by kernel_rfl) (by kernel_rfl) ?_
      refine qi (t := !x6) (by kernel_rfl) (fun c => ?_) (fun c => ?_)
      · rw [if_pos c] at H
        clear c
        refine qr T_ok [0, 1, 5, 6, 7] (E2 := [(0, [], .p (.sl 1 ByteArray eS a0)), (1, [], .p (.sl 3 S_At_Old_New eS_At_Old_New a1)), (5, [], .p (.sl 1 ByteArray eS a0)), (6, [], vi 0), (7, [], vi 3)]) (by kernel_rfl) ?_
        exact ⟨0, 3, rfl, rfl, H⟩
      · rw [if_neg (by rw [c]; exact Bool.false_ne_true)] at H
        clear c
        refine qw [0, 1, 5, 6, 7] rfl ?_
        refine qk ?_
        exact ⟨(a1.length : Int), 0, rfl, rfl, H⟩
    · clear H
      rintro E h ⟨x4, x5, rfl, rfl, H⟩
      subst hj
      dsimp only at H
      refine qs ?_
      refine qs ?_
      refine qr T_ok [0, 1, 5, 6, 7, 8] (E2 := [(0, [], .p (.sl 1 ByteArray eS a0)), (1, [], .p (.sl 3 S_At_Old_New eS_At_Old_New a1)), (5, [], .p (.sl 1 ByteArray eS a0)), (6, [], vi x4), (7, [], vi x5), (8, [], vi 0)]) (by kernel_rfl) ?_
      refine qb ?_
      refine qp (fun k E h => ∃ x21 : List ByteArray, ∃ x22 : Int, ∃ x23 : Int, ∃ x24 : Int, E = [(0, [], .p (.sl 1 ByteArray eS a0)), (1, [], .p (.sl 3 S_At_Old_New eS_At_Old_New a1)), (5, [], .p (.sl 1 ByteArray eS x21)), (6, [], vi x22), (7, [], vi x23), (8, [], vi x24)] ∧ h = [] ∧ quitclaimlaw11_HunkAll.l0 a0 a1 k x21 x22 x23 x24 = some r) k ⟨a0, x4, x5, 0, rfl, rfl, H⟩ ?_
      clear H
      rintro k E h ⟨x21, x22, x23, x24, rfl, rfl, H⟩
      cases k with
      | zero => exact nomatch (show none = some r from H)
      | succ k =>
        rw [quitclaimlaw11_HunkAll.l0] at H
        refine qs ?_
        refine qs ?_
        refine qr T_ok [0, 1, 5, 6, 7, 8, 37] (E2 := [(0, [], .p (.sl 1 ByteArray eS a0)), (1, [], .p (.sl 3 S_At_Old_New eS_At_Old_New a1)), (5, [], .p (.sl 1 ByteArray eS x21)), (6, [], vi x22), (7, [], vi x23), (8, [], vi x24), (37, [], vb (decide (x24 < (a1.length : Int)) && decide (x23 = 0)))]) (by kernel_rfl) ?_
        refine qi (t := (decide (x24 < (a1.length : Int)) && decide (x23 = 0))) (by kernel_rfl) (fun c => ?_) (fun c => ?_)
        · rw [if_pos c] at H
          clear c
          refine qw [0, 1, 5, 6, 8] rfl ?_
          refine qk ?_
          refine qs ?_
          refine qb ?_
          refine qs ?_
          refine qs ?_
          refine qd (by kernel_rfl) 12 (by kernel_rfl) (by kernel_rfl) (by kernel_rfl) (by kernel_rfl) (by kernel_rfl) ?_
          refine dm T_ok 2 (k := 2) (by kernel_rfl) (by kernel_rfl) ?_
          obtain ⟨x39, hx, H⟩ := bd H
          refine dy rfl (zi T_ok .i64 (enc := eS_At_Old_New) (l := a1) (e := 24) (n := 3) (ei := ti24) (sa := (.p (.sl 3 S_At_Old_New eS_At_Old_New a1))) hx rfl (by kernel_rfl) (by kernel_rfl) rfl (by kernel_rfl) (by kernel_rfl) (by kernel_rfl)) rfl (by kernel_rfl) rfl ?_
          clear hx
          refine dm T_ok 4 (k := 7) (by kernel_rfl) (by kernel_rfl) ?_
          obtain ⟨x40, hx, H⟩ := bd H
          refine dy rfl (zi T_ok .i64 (enc := eS_At_Old_New) (l := a1) (e := 24) (n := 3) (ei := ti24) (sa := (.p (.sl 3 S_At_Old_New eS_At_Old_New a1))) hx rfl (by kernel_rfl) (by kernel_rfl) rfl (by kernel_rfl) (by kernel_rfl) (by kernel_rfl)) rfl (by kernel_rfl) rfl ?_
          clear hx
          refine dm T_ok 2 (k := 10) (by kernel_rfl) (by kernel_rfl) ?_
          refine dy rfl (ze T_ok (e := 22) (n := 1) (eL 1 eS) ([x39.f1_Old, x40.f2_New] : List (List ByteArray)) rfl (by kernel_rfl)) rfl (by kernel_rfl) rfl ?_
          obtain ⟨x41, hx, H⟩ := bd H
          refine dy rfl (zc (T := T) (quitclaimlaw11_long.ok k [x39.f1_Old, x40.f2_New] _ hx) Try.func6 rfl rfl (caps := []) (by kernel_rfl) (by kernel_rfl) (by kernel_rfl) (by kernel_rfl) (by kernel_rfl) (by kernel_rfl)) rfl (by kernel_rfl) rfl ?_
          clear hx
          refine dn ?_
          refine qz T_ok 0 [0, 1, 5, 6, 8, 51] 0 (E2 := [(0, [], .p (.sl 1 ByteArray eS a0)), (1, [], .p (.sl 3 S_At_Old_New eS_At_Old_New a1)), (5, [], .p (.sl 1 ByteArray eS x21)), (6, [], vi x22), (8, [], vi x24), (51, [], vb x41)]) (h1 := []) (by kernel_rfl) (by kernel_rfl) (by kernel_rfl) (by kernel_rfl) (by kernel_rfl) ?_
          refine qi (t := x41) (by kernel_rfl) (fun c => ?_) (fun c => ?_)
          · rw [if_pos c] at H
            clear c
            refine qs ?_
            refine qg ?_
            obtain ⟨x42, hx, H⟩ := bd H
            refine qy rfl (zc (T := T) (quitclaimlaw11_awake.ok k _ hx) Try.func7 rfl rfl (caps := []) (by kernel_rfl) (by kernel_rfl) (by kernel_rfl) (by kernel_rfl) (by kernel_rfl) (by kernel_rfl)) rfl (by kernel_rfl) rfl ?_
            clear hx
            refine qz T_ok 1 [4] 0 (E2 := [(4, [], vb x42)]) (h1 := []) (by kernel_rfl) (by kernel_rfl) (by kernel_rfl) (by kernel_rfl) (by kernel_rfl) ?_
            refine qt ?_
            obtain rfl := Option.some.inj H
            exact ⟨vb x42, by kernel_rfl, rfl⟩
          · rw [if_neg (by rw [c]; exact Bool.false_ne_true)] at H
            clear c
            refine qw [0, 1, 5, 6, 8] rfl ?_
            refine qk ?_
            refine qs ?_
            refine qg ?_
            refine qm T_ok 3 (k := 3) (by kernel_rfl) (by kernel_rfl) (by kernel_rfl) ?_
            obtain ⟨x43, hx, H⟩ := bd H
            refine qy rfl (zi T_ok .i64 (enc := eS_At_Old_New) (l := a1) (e := 24) (n := 3) (ei := ti24) (sa := (.p (.sl 3 S_At_Old_New eS_At_Old_New a1))) hx rfl (by kernel_rfl) (by kernel_rfl) rfl (by kernel_rfl) (by kernel_rfl) (by kernel_rfl)) rfl (by kernel_rfl) rfl ?_
            clear hx
            refine qm T_ok 1 (k := 5) (by kernel_rfl) (by kernel_rfl) (by kernel_rfl) ?_
            obtain ⟨x44, hx, H⟩ := bd H
            refine qy rfl (zc (T := T) (quitclaimlaw11_plain.ok x43 _ hx) Try.func10 rfl rfl (caps := []) (by kernel_rfl) (by kernel_rfl) (by kernel_rfl) (by kernel_rfl) (by kernel_rfl) (by kernel_rfl)) rfl (by kernel_rfl) rfl ?_
            clear hx
            obtain ⟨x45, hx, H⟩ := bd H
            refine qy rfl (zc (T := T) (quitclaimref11_Apply.ok k x21 x44 _ hx) Try.func9 rfl rfl (caps := []) (by kernel_rfl) (by kernel_rfl) (by kernel_rfl) (by kernel_rfl) (by kernel_rfl) (by kernel_rfl)) rfl (by kernel_rfl) rfl ?_
            clear hx
            refine qz T_ok 5 [0, 1, 5, 6, 7, 8] 0 (E2 := [(0, [], .p (.sl 1 ByteArray eS a0)), (1, [], .p (.sl 3 S_At_Old_New eS_At_Old_New a1)), (5, [], .p (.sl 1 ByteArray eS x45.1)), (6, [], vi x22), (7, [], vi x45.2), (8, [], vi x24)]) (h1 := []) (by kernel_rfl) (by kernel_rfl) (by kernel_rfl) (by kernel_rfl) (by kernel_rfl) ?_
            refine qs ?_
            refine qr T_ok [0, 1, 5, 6, 7, 8, 64] (E2 := [(0, [], .p (.sl 1 ByteArray eS a0)), (1, [], .p (.sl 3 S_At_Old_New eS_At_Old_New a1)), (5, [], .p (.sl 1 ByteArray eS x45.1)), (6, [], vi x22), (7, [], vi x45.2), (8, [], vi x24), (64, [], vb (!decide (x45.2 = 0)))]) (by kernel_rfl) ?_
            refine qi (t := !decide (x45.2 = 0)) (by kernel_rfl) (fun c => ?_) (fun c => ?_)
            · rw [if_pos c] at H
              clear c
              refine qr T_ok [0, 1, 5, 6, 7, 8] (E2 := [(0, [], .p (.sl 1 ByteArray eS a0)), (1, [], .p (.sl 3 S_At_Old_New eS_At_Old_New a1)), (5, [], .p (.sl 1 ByteArray eS x45.1)), (6, [], vi x24), (7, [], vi x45.2), (8, [], vi x24)]) (by kernel_rfl) ?_
              refine qr T_ok [0, 1, 5, 6, 7, 8] (E2 := [(0, [], .p (.sl 1 ByteArray eS a0)), (1, [], .p (.sl 3 S_At_Old_New eS_At_Old_New a1)), (5, [], .p (.sl 1 ByteArray eS x45.1)), (6, [], vi x24), (7, [], vi x45.2), (8, [], vi (w64 (x24 + 1)))]) (by kernel_rfl) ?_
              exact ⟨_, Nat.lt_succ_self _, x45.1, x24, x45.2, w64 (x24 + 1), rfl, rfl, H⟩
            · rw [if_neg (by rw [c]; exact Bool.false_ne_true)] at H
              clear c
              refine qw [0, 1, 5, 6, 7, 8] rfl ?_
              refine qk ?_
              refine qr T_ok [0, 1, 5, 6, 7, 8] (E2 := [(0, [], .p (.sl 1 ByteArray eS a0)), (1, [], .p (.sl 3 S_At_Old_New eS_At_Old_New a1)), (5, [], .p (.sl 1 ByteArray eS x45.1)), (6, [], vi x22), (7, [], vi x45.2), (8, [], vi (w64 (x24 + 1)))]) (by kernel_rfl) ?_
              exact ⟨_, Nat.lt_succ_self _, x45.1, x22, x45.2, w64 (x24 + 1), rfl, rfl, H⟩
        · rw [if_neg (by rw [c]; exact Bool.false_ne_true)] at H
          clear c
          refine qw [0, 1, 5, 6, 7] rfl ?_
          refine qx ?_
          refine qs ?_
          refine qg ?_
          refine qm T_ok 2 (k := 2) (by kernel_rfl) (by kernel_rfl) (by kernel_rfl) ?_
          obtain ⟨x46, hx, H⟩ := bd H
          refine qy rfl (zc (T := T) (hunk_All.ok k a0 a1 _ hx) Try.func23 rfl rfl (caps := []) (by kernel_rfl) (by kernel_rfl) (by kernel_rfl) (by kernel_rfl) (by kernel_rfl) (by kernel_rfl)) rfl (by kernel_rfl) rfl ?_
          clear hx
          refine qz T_ok 7 [0, 1, 5, 6, 7, 9, 10, 11] 0 (E2 := [(0, [], .p (.sl 1 ByteArray eS a0)), (1, [], .p (.sl 3 S_At_Old_New eS_At_Old_New a1)), (5, [], .p (.sl 1 ByteArray eS x21)), (6, [], vi x22), (7, [], vi x23), (9, [], .p (.sl 1 ByteArray eS x46.1)), (10, [], vi x46.2.1), (11, [], vi x46.2.2)]) (h1 := []) (by kernel_rfl) (by kernel_rfl) (by kernel_rfl) (by kernel_rfl) (by kernel_rfl) ?_
          refine qs ?_
          refine qs ?_
          refine qr T_ok [0, 1, 5, 7, 9, 80] (E2 := [(0, [], .p (.sl 1 ByteArray eS a0)), (1, [], .p (.sl 3 S_At_Old_New eS_At_Old_New a1)), (5, [], .p (.sl 1 ByteArray eS x21)), (7, [], vi x23), (9, [], .p (.sl 1 ByteArray eS x46.1)), (80, [], vb (!decide (x46.2.1 = x22) || !decide (x46.2.2 = x23)))]) (by kernel_rfl) ?_
          refine qi (t := (!decide (x46.2.1 = x22) || !decide (x46.2.2 = x23))) (by kernel_rfl) (fun c => ?_) (fun c => ?_)
          · rw [if_pos c] at H
            clear c
            refine qs ?_
            refine qr T_ok [4] (E2 := [(4, [], vb false)]) (by kernel_rfl) ?_
            refine qt ?_
            obtain rfl := Option.some.inj H
            exact ⟨vb false, by kernel_rfl, rfl⟩
          · rw [if_neg (by rw [c]; exact Bool.false_ne_true)] at H
            clear c
            refine qw [0, 1, 5, 7, 9] rfl ?_
            refine qk ?_
            refine qs ?_
            refine qs ?_
            refine qr T_ok [0, 1, 5, 9, 82] (E2 := [(0, [], .p (.sl 1 ByteArray eS a0)), (1, [], .p (.sl 3 S_At_Old_New eS_At_Old_New a1)), (5, [], .p (.sl 1 ByteArray eS x21)), (9, [], .p (.sl 1 ByteArray eS x46.1)), (82, [], vb (!decide (x23 = 0)))]) (by kernel_rfl) ?_
            refine qi (t := !decide (x23 = 0)) (by kernel_rfl) (fun c => ?_) (fun c => ?_)
            · rw [if_pos c] at H
              clear c
              refine qs ?_
              refine qg ?_
              refine qm T_ok 4 (k := 4) (by kernel_rfl) (by kernel_rfl) (by kernel_rfl) ?_
              obtain ⟨x47, hx, H⟩ := bd H
              refine qyg rfl (tg := []) (Yld.under (u := 86) (b := true) (t := decide ((x46.1.length : Int) = 0)) (by kernel_rfl) (by simp) fun g0_ => (zc (T := T) (quitclaimlaw11_awake.ok k _ (gd1 hx g0_)) Try.func7 rfl rfl (caps := []) (by kernel_rfl) (by kernel_rfl) (by kernel_rfl) (by kernel_rfl) (by kernel_rfl) (by kernel_rfl))) rfl rfl (by kernel_rfl) (by kernel_rfl) rfl ?_
              clear hx
              refine qz T_ok 2 [4] 0 (E2 := [(4, [], vb (decide ((x46.1.length : Int) = 0) && x47))]) (h1 := []) (by kernel_rfl) (by kernel_rfl) (by kernel_rfl) (by kernel_rfl) (by kernel_rfl) ?_
              refine qt ?_
              obtain rfl := Option.some.inj H
              exact ⟨vb (decide ((x46.1.length : Int) = 0) && x47), by kernel_rfl, rfl⟩
            · rw [if_neg (by rw [c]; exact Bool.false_ne_true)] at H
              clear c
              refine qw [0, 1, 5, 9] rfl ?_
              refine qk ?_
              refine qs ?_
              refine qg ?_
              refine qm T_ok 2 (k := 2) (by kernel_rfl) (by kernel_rfl) (by kernel_rfl) ?_
              obtain ⟨x48, hx, H⟩ := bd H
              refine qy rfl (zc (T := T) (hunk_Back.ok k a1 _ hx) Try.func24 rfl rfl (caps := []) (by kernel_rfl) (by kernel_rfl) (by kernel_rfl) (by kernel_rfl) (by kernel_rfl) (by kernel_rfl)) rfl (by kernel_rfl) rfl ?_
              clear hx
              obtain ⟨x49, hx, H⟩ := bd H
              refine qy rfl (zc (T := T) (hunk_All.ok k x46.1 x48 _ hx) Try.func23 rfl rfl (caps := []) (by kernel_rfl) (by kernel_rfl) (by kernel_rfl) (by kernel_rfl) (by kernel_rfl) (by kernel_rfl)) rfl (by kernel_rfl) rfl ?_
              clear hx
              refine qz T_ok 7 [0, 1, 5, 9, 12, 13, 14] 0 (E2 := [(0, [], .p (.sl 1 ByteArray eS a0)), (1, [], .p (.sl 3 S_At_Old_New eS_At_Old_New a1)), (5, [], .p (.sl 1 ByteArray eS x21)), (9, [], .p (.sl 1 ByteArray eS x46.1)), (12, [], .p (.sl 1 ByteArray eS x49.1)), (13, [], vi x49.2.1), (14, [], vi x49.2.2)]) (h1 := []) (by kernel_rfl) (by kernel_rfl) (by kernel_rfl) (by kernel_rfl) (by kernel_rfl) ?_
              refine qs ?_
              refine qg ?_
              refine qm T_ok 2 (k := 2) (by kernel_rfl) (by kernel_rfl) (by kernel_rfl) ?_
              obtain ⟨x50, hx, H⟩ := bd H
              refine qy rfl (zc (T := T) (quitclaimref05_Same.ok k x46.1 x21 _ hx) Try.func11 rfl rfl (caps := []) (by kernel_rfl) (by kernel_rfl) (by kernel_rfl) (by kernel_rfl) (by kernel_rfl) (by kernel_rfl)) rfl (by kernel_rfl) rfl ?_
              clear hx
              refine qm T_ok 13 (k := 16) (by kernel_rfl) (by kernel_rfl) (by kernel_rfl) ?_
              obtain ⟨x51, hx, H⟩ := bd H
              refine qyg rfl (tg := []) (Yld.under (u := 110) (b := true) (t := ((x50 && decide (x49.2.2 = 0)) && decide (x49.2.1 = (a1.length : Int)))) (by kernel_rfl) (by simp) fun g0_ => (zc (T := T) (quitclaimref05_Same.ok k x49.1 a0 _ (gd1 hx g0_)) Try.func11 rfl rfl (caps := []) (by kernel_rfl) (by kernel_rfl) (by kernel_rfl) (by kernel_rfl) (by kernel_rfl) (by kernel_rfl))) rfl rfl (by kernel_rfl) (by kernel_rfl) rfl ?_
              clear hx
              refine qm T_ok 2 (k := 19) (by kernel_rfl) (by kernel_rfl) (by kernel_rfl) ?_
              obtain ⟨x52, hx, H⟩ := bd H
              refine qyg rfl (tg := []) (Yld.under (u := 115) (b := true) (t := (((x50 && decide (x49.2.2 = 0)) && decide (x49.2.1 = (a1.length : Int))) && x51)) (by kernel_rfl) (by simp) fun g0_ => (zc (T := T) (quitclaimlaw11_awake.ok k _ (gd1 hx g0_)) Try.func7 rfl rfl (caps := []) (by kernel_rfl) (by kernel_rfl) (by kernel_rfl) (by kernel_rfl) (by kernel_rfl) (by kernel_rfl))) rfl rfl (by kernel_rfl) (by kernel_rfl) rfl ?_
              clear hx
              refine qz T_ok 2 [4] 0 (E2 := [(4, [], vb ((((x50 && decide (x49.2.2 = 0)) && decide (x49.2.1 = (a1.length : Int))) && x51) && x52))]) (h1 := []) (by kernel_rfl) (by kernel_rfl) (by kernel_rfl) (by kernel_rfl) (by kernel_rfl) ?_
              refine qt ?_
              obtain rfl := Option.some.inj H
              exact ⟨vb ((((x50 && decide (x49.2.2 = 0)) && decide (x49.2.1 = (a1.length : Int))) && x51) && x52), by kernel_rfl, rfl⟩
end Go.Proofs.Ytngcfmnmjkncoaa.Q
