/- Go functions as Lean functions, and that the code answers what they say; no condition but the typed premises. -/
import Derived.Test.YtngcfmnmjkncoaaDoorQT
import Derived.Test.YtngcfmnmjkncoaaDoorShelf
import Derived.Test.YtngcfmnmjkncoaaDoorRight
namespace Go.Proofs.YtngcfmnmjkncoaaDoor.Q
open Go Go.RowKit
set_option maxRecDepth 100000
set_option linter.unusedVariables false
set_option linter.unusedSimpArgs false
/-! ### quitclaim/path.part: function 45 -/
def path_part.l0 (a0 : ByteArray) : Nat → Int → Option Bool
  | 0, _ => none
  | k + 1, x2 => (if x2 < (a0.size : Int) then ((bx a0 x2).bind fun x4 => (if (((((decide (x4 ≥ 97) && decide (x4 ≤ 122)) || (decide (x4 ≥ 48) && decide (x4 ≤ 57))) || decide (x4 = 46)) || decide (x4 = 95)) || decide (x4 = 45)) = true then path_part.l0 a0 k (w64 (x2 + 1)) else some false)) else some true)
def path_part.f (k : Nat) (a0 : ByteArray) : Option Bool := (if ((decide (a0 = ⟨#[]⟩) || decide (a0 = ⟨#[46]⟩)) || decide (a0 = ⟨#[46, 46]⟩)) = true then some false else path_part.l0 a0 k 0)
theorem path_part.ok (k : Nat) (a0 : ByteArray) (r : Bool) (H : path_part.f k a0 = some r) : PF Tryd.prog 45 [vs a0] (vb r) := by
  refine PF_mk T_ok Tryd.func45 rfl (by kernel_rfl) (by kernel_rfl) ?_
  unfold path_part.f at H
  refine qs ?_
  refine qr T_ok [0] (E2 := [(0, [], vs a0)]) (by kernel_rfl) ?_
  refine qs ?_
  refine qs ?_
  refine qr T_ok [0, 14] (E2 := [(0, [], vs a0), (14, [], vb ((decide (a0 = ⟨#[]⟩) || decide (a0 = ⟨#[46]⟩)) || decide (a0 = ⟨#[46, 46]⟩)))]) (by kernel_rfl) ?_
  refine qi (t := ((decide (a0 = ⟨#[]⟩) || decide (a0 = ⟨#[46]⟩)) || decide (a0 = ⟨#[46, 46]⟩))) (by kernel_rfl) (fun c => ?_) (fun c => ?_)
  · rw [if_pos c] at H
    clear c
    refine qs ?_
    refine qr T_ok [2] (E2 := [(2, [], vb false)]) (by kernel_rfl) ?_
    refine qt ?_
    obtain rfl := Option.some.inj H
    exact ⟨vb false, by kernel_rfl, rfl⟩
  · rw [if_neg (by rw [c]; exact Bool.false_ne_true)] at H
    clear c
    refine qw [0] rfl ?_
    refine qk ?_
    refine qs ?_
    refine qs ?_
    refine qr T_ok [0, 16, 17] (E2 := [(0, [], vs a0), (16, [], vi (a0.size : Int)), (17, [], vi 0)]) (by kernel_rfl) ?_
    refine qb ?_
    refine qp (fun k E h => ∃ x2 : Int, E = [(0, [], vs a0), (16, [], vi (a0.size : Int)), (17, [], vi x2)] ∧ h = [] ∧ path_part.l0 a0 k x2 = some r) k ⟨0, rfl, rfl, H⟩ ?_
    clear H
    rintro k E h ⟨x2, rfl, rfl, H⟩
    cases k with
    | zero => exact nomatch (show none = some r from H)
    | succ k =>
      rw [path_part.l0] at H
      refine qs ?_
      refine qr T_ok [0, 16, 17, 18] (E2 := [(0, [], vs a0), (16, [], vi (a0.size : Int)), (17, [], vi x2), (18, [], vb (decide (x2 < (a0.size : Int))))]) (by kernel_rfl) ?_
      refine qs ?_
      refine qi (t := decide (x2 < (a0.size : Int))) (by kernel_rfl) (fun c => ?_) (fun c => ?_)
      · rw [if_pos (of_decide_eq_true c)] at H
        clear c
        refine qw [0, 16, 17] rfl ?_
        refine qk ?_
        refine qs ?_
        refine qb ?_
        refine qs ?_
        refine qr T_ok [0, 3, 16, 17] (E2 := [(0, [], vs a0), (3, [], vi x2), (16, [], vi (a0.size : Int)), (17, [], vi x2)]) (by kernel_rfl) ?_
        refine qs ?_
        refine qg ?_
        refine qm T_ok 2 (k := 2) (by kernel_rfl) (by kernel_rfl) (by kernel_rfl) ?_
        obtain ⟨x4, hx, H⟩ := bd H
        refine qy rfl (zb T_ok .i64 hx rfl (by kernel_rfl) (by kernel_rfl) (by kernel_rfl)) rfl (by kernel_rfl) rfl ?_
        clear hx
        refine qz T_ok 1 [0, 4, 16, 17] 0 (E2 := [(0, [], vs a0), (4, [], v8 x4), (16, [], vi (a0.size : Int)), (17, [], vi x2)]) (h1 := []) (by kernel_rfl) (by kernel_rfl) (by kernel_rfl) (by kernel_rfl) (by kernel_rfl) ?_
        refine qb ?_
        refine qs ?_
        refine qr T_ok [0, 16, 17, 23] (E2 := [(0, [], vs a0), (16, [], vi (a0.size : Int)), (17, [], vi x2), (23, [], vb (((((decide (x4 ≥ 97) && decide (x4 ≤ 122)) || (decide (x4 ≥ 48) && decide (x4 ≤ 57))) || decide (x4 = 46)) || decide (x4 = 95)) || decide (x4 = 45)))]) (by kernel_rfl) ?_
        refine qi (t := (((((decide (x4 ≥ 97) && decide (x4 ≤ 122)) || (decide (x4 ≥ 48) && decide (x4 ≤ 57))) || decide (x4 = 46)) || decide (x4 = 95)) || decide (x4 = 45))) (by kernel_rfl) (fun c => ?_) (fun c => ?_)
        · rw [if_pos c] at H
          clear c
          refine qw [0, 16, 17] rfl ?_
          refine qk ?_
          refine qr T_ok [0, 16, 17] (E2 := [(0, [], vs a0), (16, [], vi (a0.size : Int)), (17, [], vi (w64 (x2 + 1)))]) (by kernel_rfl) ?_
          exact ⟨_, Nat.lt_succ_self _, w64 (x2 + 1), rfl, rfl, H⟩
        · rw [if_neg (by rw [c]; exact Bool.false_ne_true)] at H
          clear c
          refine qs ?_
          refine qr T_ok [2] (E2 := [(2, [], vb false)]) (by kernel_rfl) ?_
          refine qt ?_
          obtain rfl := Option.some.inj H
          exact ⟨vb false, by kernel_rfl, rfl⟩
      · rw [if_neg (of_decide_eq_false c)] at H
        clear c
        refine qw [] rfl ?_
        refine qx ?_
        refine qs ?_
        refine qr T_ok [2] (E2 := [(2, [], vb true)]) (by kernel_rfl) ?_
        refine qt ?_
        obtain rfl := Option.some.inj H
        exact ⟨vb true, by kernel_rfl, rfl⟩
/-! ### quitclaim/path.Right: function 13 -/
def path_Right.f (k : Nat) (a0 : ByteArray) : Option Bool := Go.Proofs.YtngcfmnmjkncoaaDoor.Right.rightF (path_part.f k) a0
theorem path_Right.ok (k : Nat) (a0 : ByteArray) (r : Bool) (H : path_Right.f k a0 = some r) : PF Tryd.prog 13 [vs a0] (vb r) :=
  PF_of (args := [.string a0]) fun w => Go.Proofs.YtngcfmnmjkncoaaDoor.Right.right (path_part.f k) (fun s b w h => (path_part.ok k s b h).calls (F := fun _ _ => False) (fun _ _ h => h.elim) (.cons (.p (.s _)) .nil)) a0 r w H

/-! ### quitclaim/path.Prefix: function 14 -/
def path_Prefix.f (k : Nat) (a0 : ByteArray) : Option Bool := ((gd (!(decide (a0 = ⟨#[]⟩))) (path_Right.f k a0)).bind fun x1 => some (decide (a0 = ⟨#[]⟩) || x1))
theorem path_Prefix.ok (k : Nat) (a0 : ByteArray) (r : Bool) (H : path_Prefix.f k a0 = some r) : PF Tryd.prog 14 [vs a0] (vb r) := by
  refine PF_mk T_ok Tryd.func14 rfl (by kernel_rfl) (by kernel_rfl) ?_
  unfold path_Prefix.f at H
  refine qs ?_
  refine qr T_ok [0] (E2 := [(0, [], vs a0)]) (by kernel_rfl) ?_
  refine qs ?_
  refine qg ?_
  refine qm T_ok 4 (k := 4) (by kernel_rfl) (by kernel_rfl) (by kernel_rfl) ?_
  obtain ⟨x1, hx, H⟩ := bd H
  refine qyg rfl (tg := []) (Yld.under (u := 5) (b := false) (t := decide (a0 = ⟨#[]⟩)) (by kernel_rfl) (by simp) fun g0_ => (zc (T := T) (path_Right.ok k a0 _ (gd0 hx g0_)) Tryd.func13 rfl rfl (caps := []) (by kernel_rfl) (by kernel_rfl) (by kernel_rfl) (by kernel_rfl) (by kernel_rfl) (by kernel_rfl))) rfl rfl (by kernel_rfl) (by kernel_rfl) rfl ?_
  clear hx
  refine qz T_ok 2 [2] 0 (E2 := [(2, [], vb (decide (a0 = ⟨#[]⟩) || x1))]) (h1 := []) (by kernel_rfl) (by kernel_rfl) (by kernel_rfl) (by kernel_rfl) (by kernel_rfl) ?_
  refine qt ?_
  obtain rfl := Option.some.inj H
  exact ⟨vb (decide (a0 = ⟨#[]⟩) || x1), by kernel_rfl, rfl⟩
/-! ### internal/stringslite.HasPrefix: function 105 -/
def internal_stringslite_HasPrefix.f (a0 : ByteArray) (a1 : ByteArray) : Option Bool := ((gd (decide ((a0.size : Int) ≥ (a1.size : Int))) (sub a0 0 (a1.size : Int))).bind fun x1 => some (decide ((a0.size : Int) ≥ (a1.size : Int)) && decide (x1 = a1)))
theorem internal_stringslite_HasPrefix.ok (a0 : ByteArray) (a1 : ByteArray) (r : Bool) (H : internal_stringslite_HasPrefix.f a0 a1 = some r) : PF Tryd.prog 105 [vs a0, vs a1] (vb r) := by
  refine PF_mk T_ok Tryd.func105 rfl (by kernel_rfl) (by kernel_rfl) ?_
  unfold internal_stringslite_HasPrefix.f at H
  refine qs ?_
  refine qr T_ok [0, 1] (E2 := [(0, [], vs a0), (1, [], vs a1)]) (by kernel_rfl) ?_
  refine qs ?_
  refine qg ?_
  refine qm T_ok 9 (k := 9) (by kernel_rfl) (by kernel_rfl) (by kernel_rfl) ?_
  obtain ⟨x1, hx, H⟩ := bd H
  refine qyg rfl (tg := []) (Yld.under (u := 10) (b := true) (t := decide ((a0.size : Int) ≥ (a1.size : Int))) (by kernel_rfl) (by simp) fun g0_ => (zu T_ok (gd1 hx g0_) rfl (by kernel_rfl) (by kernel_rfl) rfl ⟨.i64, by kernel_rfl⟩)) rfl rfl (by kernel_rfl) (by kernel_rfl) rfl ?_
  clear hx
  refine qz T_ok 4 [4] 0 (E2 := [(4, [], vb (decide ((a0.size : Int) ≥ (a1.size : Int)) && decide (x1 = a1)))]) (h1 := []) (by kernel_rfl) (by kernel_rfl) (by kernel_rfl) (by kernel_rfl) (by kernel_rfl) ?_
  refine qt ?_
  obtain rfl := Option.some.inj H
  exact ⟨vb (decide ((a0.size : Int) ≥ (a1.size : Int)) && decide (x1 = a1)), by kernel_rfl, rfl⟩
/-! ### strings.HasPrefix: function 74 -/
def strings_HasPrefix.f (a0 : ByteArray) (a1 : ByteArray) : Option Bool := ((internal_stringslite_HasPrefix.f a0 a1).bind fun x1 => some x1)
theorem strings_HasPrefix.ok (a0 : ByteArray) (a1 : ByteArray) (r : Bool) (H : strings_HasPrefix.f a0 a1 = some r) : PF Tryd.prog 74 [vs a0, vs a1] (vb r) := by
  refine PF_mk T_ok Tryd.func74 rfl (by kernel_rfl) (by kernel_rfl) ?_
  unfold strings_HasPrefix.f at H
  refine qs ?_
  refine qr T_ok [0, 1] (E2 := [(0, [], vs a0), (1, [], vs a1)]) (by kernel_rfl) ?_
  refine qs ?_
  refine qg ?_
  refine qm T_ok 2 (k := 2) (by kernel_rfl) (by kernel_rfl) (by kernel_rfl) ?_
  obtain ⟨x1, hx, H⟩ := bd H
  refine qy rfl (zc (T := T) (internal_stringslite_HasPrefix.ok a0 a1 _ hx) Tryd.func105 rfl rfl (caps := []) (by kernel_rfl) (by kernel_rfl) (by kernel_rfl) (by kernel_rfl) (by kernel_rfl) (by kernel_rfl)) rfl (by kernel_rfl) rfl ?_
  clear hx
  refine qz T_ok 1 [4] 0 (E2 := [(4, [], vb x1)]) (h1 := []) (by kernel_rfl) (by kernel_rfl) (by kernel_rfl) (by kernel_rfl) (by kernel_rfl) ?_
  refine qt ?_
  obtain rfl := Option.some.inj H
  exact ⟨vb x1, by kernel_rfl, rfl⟩
/-! ### quitclaim/path.covers: function 46 -/
def path_covers.f (a0 : ByteArray) (a1 : ByteArray) : Option Bool := ((gd (!(decide (a0 = ⟨#[]⟩) || decide (a1 = a0))) (cat a0 (⟨#[47]⟩ : ByteArray))).bind fun x1 => ((gd (!(decide (a0 = ⟨#[]⟩) || decide (a1 = a0))) (strings_HasPrefix.f a1 x1)).bind fun x2 => some ((decide (a0 = ⟨#[]⟩) || decide (a1 = a0)) || x2)))
theorem path_covers.ok (a0 : ByteArray) (a1 : ByteArray) (r : Bool) (H : path_covers.f a0 a1 = some r) : PF Tryd.prog 46 [vs a0, vs a1] (vb r) := by
  refine PF_mk T_ok Tryd.func46 rfl (by kernel_rfl) (by kernel_rfl) ?_
  unfold path_covers.f at H
  refine qs ?_
  refine qr T_ok [0, 1] (E2 := [(0, [], vs a0), (1, [], vs a1)]) (by kernel_rfl) ?_
  refine qs ?_
  refine qg ?_
  refine qm T_ok 10 (k := 10) (by kernel_rfl) (by kernel_rfl) (by kernel_rfl) ?_
  obtain ⟨x1, hx, H⟩ := bd H
  refine qyg rfl (tg := []) (Yld.under (u := 12) (b := false) (t := (decide (a0 = ⟨#[]⟩) || decide (a1 = a0))) (by kernel_rfl) (by simp) fun g0_ => (za (gd0 hx g0_) rfl (by kernel_rfl) (by kernel_rfl))) rfl rfl (by kernel_rfl) (by kernel_rfl) rfl ?_
  clear hx
  obtain ⟨x2, hx, H⟩ := bd H
  refine qyg rfl (tg := []) (Yld.under (u := 12) (b := false) (t := (decide (a0 = ⟨#[]⟩) || decide (a1 = a0))) (by kernel_rfl) (by simp) fun g0_ => (zc (T := T) (strings_HasPrefix.ok a1 x1 _ (gd0 hx g0_)) Tryd.func74 rfl rfl (caps := []) (by kernel_rfl) (by kernel_rfl) (by kernel_rfl) (by kernel_rfl) (by kernel_rfl) (by kernel_rfl))) rfl rfl (by kernel_rfl) (by kernel_rfl) rfl ?_
  clear hx
  refine qz T_ok 2 [4] 0 (E2 := [(4, [], vb ((decide (a0 = ⟨#[]⟩) || decide (a1 = a0)) || x2))]) (h1 := []) (by kernel_rfl) (by kernel_rfl) (by kernel_rfl) (by kernel_rfl) (by kernel_rfl) ?_
  refine qt ?_
  obtain rfl := Option.some.inj H
  exact ⟨vb ((decide (a0 = ⟨#[]⟩) || decide (a1 = a0)) || x2), by kernel_rfl, rfl⟩
/-! ### quitclaim/path.Covers: function 15 -/
def path_Covers.f (k : Nat) (a0 : ByteArray) (a1 : ByteArray) : Option Bool := ((path_Prefix.f k a0).bind fun x1 => ((gd x1 (path_Right.f k a1)).bind fun x2 => ((gd (x1 && x2) (path_covers.f a0 a1)).bind fun x3 => some ((x1 && x2) && x3))))
theorem path_Covers.ok (k : Nat) (a0 : ByteArray) (a1 : ByteArray) (r : Bool) (H : path_Covers.f k a0 a1 = some r) : PF Tryd.prog 15 [vs a0, vs a1] (vb r) := by
  refine PF_mk T_ok Tryd.func15 rfl (by kernel_rfl) (by kernel_rfl) ?_
  unfold path_Covers.f at H
  refine qs ?_
  refine qr T_ok [0, 1] (E2 := [(0, [], vs a0), (1, [], vs a1)]) (by kernel_rfl) ?_
  refine qs ?_
  refine qg ?_
  refine qm T_ok 1 (k := 1) (by kernel_rfl) (by kernel_rfl) (by kernel_rfl) ?_
  obtain ⟨x1, hx, H⟩ := bd H
  refine qy rfl (zc (T := T) (path_Prefix.ok k a0 _ hx) Tryd.func14 rfl rfl (caps := []) (by kernel_rfl) (by kernel_rfl) (by kernel_rfl) (by kernel_rfl) (by kernel_rfl) (by kernel_rfl)) rfl (by kernel_rfl) rfl ?_
  clear hx
  refine qm T_ok 2 (k := 4) (by kernel_rfl) (by kernel_rfl) (by kernel_rfl) ?_
  obtain ⟨x2, hx, H⟩ := bd H
  refine qyg rfl (tg := []) (Yld.under (u := 7) (b := true) (t := x1) (by kernel_rfl) (by simp) fun g0_ => (zc (T := T) (path_Right.ok k a1 _ (gd1 hx g0_)) Tryd.func13 rfl rfl (caps := []) (by kernel_rfl) (by kernel_rfl) (by kernel_rfl) (by kernel_rfl) (by kernel_rfl) (by kernel_rfl))) rfl rfl (by kernel_rfl) (by kernel_rfl) rfl ?_
  clear hx
  refine qm T_ok 4 (k := 9) (by kernel_rfl) (by kernel_rfl) (by kernel_rfl) ?_
  obtain ⟨x3, hx, H⟩ := bd H
  refine qyg rfl (tg := []) (Yld.under (u := 11) (b := true) (t := (x1 && x2)) (by kernel_rfl) (by simp) fun g0_ => (zc (T := T) (path_covers.ok a0 a1 _ (gd1 hx g0_)) Tryd.func46 rfl rfl (caps := []) (by kernel_rfl) (by kernel_rfl) (by kernel_rfl) (by kernel_rfl) (by kernel_rfl) (by kernel_rfl))) rfl rfl (by kernel_rfl) (by kernel_rfl) rfl ?_
  clear hx
  refine qz T_ok 2 [4] 0 (E2 := [(4, [], vb ((x1 && x2) && x3))]) (h1 := []) (by kernel_rfl) (by kernel_rfl) (by kernel_rfl) (by kernel_rfl) (by kernel_rfl) ?_
  refine qt ?_
  obtain rfl := Option.some.inj H
  exact ⟨vb ((x1 && x2) && x3), by kernel_rfl, rfl⟩
/-! ### quitclaim/quitclaimlaw10.awake: function 9 -/
def quitclaimlaw10_awake.f (k : Nat)  : Option Bool := ((path_Covers.f k ⟨#[97, 47, 98]⟩ ⟨#[97, 47, 98]⟩).bind fun x1 => ((gd x1 (path_Covers.f k ⟨#[97, 47, 98]⟩ ⟨#[97, 47, 98, 47, 99]⟩)).bind fun x2 => ((gd (x1 && x2) (path_Covers.f k ⟨#[97, 47, 98]⟩ ⟨#[97, 47, 98, 99]⟩)).bind fun x3 => some ((x1 && x2) && !x3))))
theorem quitclaimlaw10_awake.ok (k : Nat)  (r : Bool) (H : quitclaimlaw10_awake.f k = some r) : PF Tryd.prog 9 [] (vb r) := by
  refine PF_mk T_ok Tryd.func9 rfl (by kernel_rfl) (by kernel_rfl) ?_
  unfold quitclaimlaw10_awake.f at H
  refine qs ?_
  refine qr T_ok [] (E2 := []) (by kernel_rfl) ?_
  refine qs ?_
  refine qg ?_
  obtain ⟨x1, hx, H⟩ := bd H
  refine qy rfl (zc (T := T) (path_Covers.ok k ⟨#[97, 47, 98]⟩ ⟨#[97, 47, 98]⟩ _ hx) Tryd.func15 rfl rfl (caps := []) (by kernel_rfl) (by kernel_rfl) (by kernel_rfl) (by kernel_rfl) (by kernel_rfl) (by kernel_rfl)) rfl (by kernel_rfl) rfl ?_
  clear hx
  refine qm T_ok 1 (k := 2) (by kernel_rfl) (by kernel_rfl) (by kernel_rfl) ?_
  obtain ⟨x2, hx, H⟩ := bd H
  refine qyg rfl (tg := []) (Yld.under (u := 2) (b := true) (t := x1) (by kernel_rfl) (by simp) fun g0_ => (zc (T := T) (path_Covers.ok k ⟨#[97, 47, 98]⟩ ⟨#[97, 47, 98, 47, 99]⟩ _ (gd1 hx g0_)) Tryd.func15 rfl rfl (caps := []) (by kernel_rfl) (by kernel_rfl) (by kernel_rfl) (by kernel_rfl) (by kernel_rfl) (by kernel_rfl))) rfl rfl (by kernel_rfl) (by kernel_rfl) rfl ?_
  clear hx
  refine qm T_ok 2 (k := 5) (by kernel_rfl) (by kernel_rfl) (by kernel_rfl) ?_
  obtain ⟨x3, hx, H⟩ := bd H
  refine qyg rfl (tg := []) (Yld.under (u := 5) (b := true) (t := (x1 && x2)) (by kernel_rfl) (by simp) fun g0_ => (zc (T := T) (path_Covers.ok k ⟨#[97, 47, 98]⟩ ⟨#[97, 47, 98, 99]⟩ _ (gd1 hx g0_)) Tryd.func15 rfl rfl (caps := []) (by kernel_rfl) (by kernel_rfl) (by kernel_rfl) (by kernel_rfl) (by kernel_rfl) (by kernel_rfl))) rfl rfl (by kernel_rfl) (by kernel_rfl) rfl ?_
  clear hx
  refine qz T_ok 3 [0] 0 (E2 := [(0, [], vb ((x1 && x2) && !x3))]) (h1 := []) (by kernel_rfl) (by kernel_rfl) (by kernel_rfl) (by kernel_rfl) (by kernel_rfl) ?_
  refine qt ?_
  obtain rfl := Option.some.inj H
  exact ⟨vb ((x1 && x2) && !x3), by kernel_rfl, rfl⟩
/-! ### quitclaim/quitclaimref10.Split: function 20 -/
def quitclaimref10_Split.l0 (a0 : ByteArray) : Nat → (List ByteArray) → Int → Int → Option (List ByteArray)
  | 0, _, _, _ => none
  | k + 1, x6, x7, x8 => (if x8 < (a0.size : Int) then ((bx a0 x8).bind fun x14 => (if x14 = 47 then ((sub a0 x7 x8).bind fun x15 => ((app 16 x6 [x15]).bind fun x16 => quitclaimref10_Split.l0 a0 k x16 (w64 (x8 + 1)) (w64 (x8 + 1)))) else quitclaimref10_Split.l0 a0 k x6 x7 (w64 (x8 + 1)))) else ((sub a0 x7 (a0.size : Int)).bind fun x17 => ((app 16 x6 [x17]).bind fun x18 => some x18)))
def quitclaimref10_Split.f (k : Nat) (a0 : ByteArray) : Option (List ByteArray) := quitclaimref10_Split.l0 a0 k [] 0 0
theorem quitclaimref10_Split.ok (k : Nat) (a0 : ByteArray) (r : List ByteArray) (H : quitclaimref10_Split.f k a0 = some r) : PF Tryd.prog 20 [vs a0] (.p (.sl 1 ByteArray eS r)) := by
  refine PF_mk T_ok Tryd.func20 rfl (by kernel_rfl) (by kernel_rfl) ?_
  unfold quitclaimref10_Split.f at H
  refine qs ?_
  refine qr T_ok [0] (E2 := [(0, [], vs a0)]) (by kernel_rfl) ?_
  refine qs ?_
  refine qg ?_
  refine xl T_ok (e := 9) (n := 1) (j := 0) eS ([]) rfl rfl rfl rfl (by kernel_rfl) (by kernel_rfl) rfl ?_
  refine qz T_ok 1 [0, 3] 1 (E2 := [(0, [], vs a0), (3, [], .own 9 1 ByteArray eS [] 0)]) (h1 := [.tail]) (by kernel_rfl) (by kernel_rfl) (by kernel_rfl) (by kernel_rfl) (by kernel_rfl) ?_
  refine qs ?_
  refine qr T_ok [0, 3, 4] (E2 := [(0, [], vs a0), (3, [], .own 9 1 ByteArray eS [] 0), (4, [], vi 0)]) (by kernel_rfl) ?_
  refine qs ?_
  refine qs ?_
  refine qr T_ok [0, 3, 4, 5] (E2 := [(0, [], vs a0), (3, [], .own 9 1 ByteArray eS [] 0), (4, [], vi 0), (5, [], vi 0)]) (by kernel_rfl) ?_
  refine qb ?_
  refine qp (fun k E h => ∃ x6 : List ByteArray, ∃ x7 : Int, ∃ x8 : Int, E = [(0, [], vs a0), (3, [], .own 9 1 ByteArray eS x6 0), (4, [], vi x7), (5, [], vi x8)] ∧ h = [.tail] ∧ quitclaimref10_Split.l0 a0 k x6 x7 x8 = some r) k ⟨[], 0, 0, rfl, rfl, H⟩ ?_
  clear H
  rintro k E h ⟨x6, x7, x8, rfl, rfl, H⟩
  cases k with
  | zero => exact nomatch (show none = some r from H)
  | succ k =>
    rw [quitclaimref10_Split.l0] at H
    refine qs ?_
    refine qs ?_
    refine qr T_ok [0, 3, 4, 5, 10] (E2 := [(0, [], vs a0), (3, [], .own 9 1 ByteArray eS x6 0), (4, [], vi x7), (5, [], vi x8), (10, [], vb (decide (x8 < (a0.size : Int))))]) (by kernel_rfl) ?_
    refine qi (t := decide (x8 < (a0.size : Int))) (by kernel_rfl) (fun c => ?_) (fun c => ?_)
    · rw [if_pos (of_decide_eq_true c)] at H
      clear c
      refine qw [0, 3, 4, 5] rfl ?_
      refine qk ?_
      refine qs ?_
      refine qb ?_
      refine qs ?_
      refine qg ?_
      refine qm T_ok 2 (k := 2) (by kernel_rfl) (by kernel_rfl) (by kernel_rfl) ?_
      obtain ⟨x14, hx, H⟩ := bd H
      refine qy rfl (zb T_ok .i64 hx rfl (by kernel_rfl) (by kernel_rfl) (by kernel_rfl)) rfl (by kernel_rfl) rfl ?_
      clear hx
      refine qz T_ok 1 [0, 3, 4, 5, 16] 1 (E2 := [(0, [], vs a0), (3, [], .own 9 1 ByteArray eS x6 0), (4, [], vi x7), (5, [], vi x8), (16, [], vb (decide (x14 = 47)))]) (h1 := [.tail]) (by kernel_rfl) (by kernel_rfl) (by kernel_rfl) (by kernel_rfl) (by kernel_rfl) ?_
      refine qi (t := decide (x14 = 47)) (by kernel_rfl) (fun c => ?_) (fun c => ?_)
      · rw [if_pos (of_decide_eq_true c)] at H
        clear c
        refine qs ?_
        refine qg ?_
        refine qm T_ok 4 (k := 4) (by kernel_rfl) (by kernel_rfl) (by kernel_rfl) ?_
        obtain ⟨x15, hx, H⟩ := bd H
        refine qy rfl (zu T_ok hx rfl (by kernel_rfl) (by kernel_rfl) ⟨.i64, by kernel_rfl⟩ ⟨.i64, by kernel_rfl⟩) rfl (by kernel_rfl) rfl ?_
        clear hx
        refine qy rfl (ze T_ok (e := 9) (n := 1) eS ([x15] : List ByteArray) rfl (by kernel_rfl)) rfl (by kernel_rfl) rfl ?_
        obtain ⟨x16, hx, H⟩ := bd H
        refine xp T_ok (enc := eS) (l := x6) (m := [x15]) (e := 9) (e' := 9) (j := 0) (ei := ti9) (sy := (.p (.sl 1 ByteArray eS [x15]))) hx rfl rfl rfl rfl rfl rfl rfl (by kernel_rfl) (by kernel_rfl) (by kernel_rfl) (by kernel_rfl) (by kernel_rfl) (by kernel_rfl) (by kernel_rfl) (by kernel_rfl) (by kernel_rfl) rfl ?_
        clear hx
        refine qz T_ok 1 [0, 3, 5] 1 (E2 := [(0, [], vs a0), (3, [], .own 9 1 ByteArray eS x16 0), (5, [], vi x8)]) (h1 := [.tail]) (by kernel_rfl) (by kernel_rfl) (by kernel_rfl) (by kernel_rfl) (by kernel_rfl) ?_
        refine qr T_ok [0, 3, 4, 5] (E2 := [(0, [], vs a0), (3, [], .own 9 1 ByteArray eS x16 0), (4, [], vi (w64 (x8 + 1))), (5, [], vi x8)]) (by kernel_rfl) ?_
        refine qr T_ok [0, 3, 4, 5] (E2 := [(0, [], vs a0), (3, [], .own 9 1 ByteArray eS x16 0), (4, [], vi (w64 (x8 + 1))), (5, [], vi (w64 (x8 + 1)))]) (by kernel_rfl) ?_
        exact ⟨_, Nat.lt_succ_self _, x16, w64 (x8 + 1), w64 (x8 + 1), rfl, rfl, H⟩
      · rw [if_neg (of_decide_eq_false c)] at H
        clear c
        refine qw [0, 3, 4, 5] rfl ?_
        refine qk ?_
        refine qr T_ok [0, 3, 4, 5] (E2 := [(0, [], vs a0), (3, [], .own 9 1 ByteArray eS x6 0), (4, [], vi x7), (5, [], vi (w64 (x8 + 1)))]) (by kernel_rfl) ?_
        exact ⟨_, Nat.lt_succ_self _, x6, x7, w64 (x8 + 1), rfl, rfl, H⟩
    · rw [if_neg (of_decide_eq_false c)] at H
      clear c
      refine qw [0, 3, 4] rfl ?_
      refine qx ?_
      refine qs ?_
      refine qg ?_
      refine qm T_ok 3 (k := 3) (by kernel_rfl) (by kernel_rfl) (by kernel_rfl) ?_
      obtain ⟨x17, hx, H⟩ := bd H
      refine qy rfl (zu T_ok hx rfl (by kernel_rfl) (by kernel_rfl) ⟨.i64, by kernel_rfl⟩ rfl) rfl (by kernel_rfl) rfl ?_
      clear hx
      refine qy rfl (ze T_ok (e := 9) (n := 1) eS ([x17] : List ByteArray) rfl (by kernel_rfl)) rfl (by kernel_rfl) rfl ?_
      obtain ⟨x18, hx, H⟩ := bd H
      refine xp T_ok (enc := eS) (l := x6) (m := [x17]) (e := 9) (e' := 9) (j := 0) (ei := ti9) (sy := (.p (.sl 1 ByteArray eS [x17]))) hx rfl rfl rfl rfl rfl rfl rfl (by kernel_rfl) (by kernel_rfl) (by kernel_rfl) (by kernel_rfl) (by kernel_rfl) (by kernel_rfl) (by kernel_rfl) (by kernel_rfl) (by kernel_rfl) rfl ?_
      clear hx
      refine qz T_ok 1 [2] 1 (E2 := [(2, [], .own 9 1 ByteArray eS x18 0)]) (h1 := [.tail]) (by kernel_rfl) (by kernel_rfl) (by kernel_rfl) (by kernel_rfl) (by kernel_rfl) ?_
      refine qt ?_
      obtain rfl := Option.some.inj H
      exact ⟨.own 9 1 ByteArray eS x18 0, by kernel_rfl, rfl⟩
/-! ### quitclaim/quitclaimref10.letter: function 72 -/
def quitclaimref10_letter.l0 (a0 : Int) : Nat → Int → Option Bool
  | 0, _ => none
  | k + 1, x2 => (if x2 < ((⟨#[97, 98, 99, 100, 101, 102, 103, 104, 105, 106, 107, 108, 109, 110, 111, 112, 113, 114, 115, 116, 117, 118, 119, 120, 121, 122, 48, 49, 50, 51, 52, 53, 54, 55, 56, 57, 46, 95, 45]⟩ : ByteArray).size : Int) then ((bx ⟨#[97, 98, 99, 100, 101, 102, 103, 104, 105, 106, 107, 108, 109, 110, 111, 112, 113, 114, 115, 116, 117, 118, 119, 120, 121, 122, 48, 49, 50, 51, 52, 53, 54, 55, 56, 57, 46, 95, 45]⟩ x2).bind fun x4 => (if x4 = a0 then some true else quitclaimref10_letter.l0 a0 k (w64 (x2 + 1)))) else some false)
def quitclaimref10_letter.f (k : Nat) (a0 : Int) : Option Bool := quitclaimref10_letter.l0 a0 k 0
theorem quitclaimref10_letter.ok (k : Nat) (a0 : Int) (r : Bool) (H : quitclaimref10_letter.f k a0 = some r) : PF Tryd.prog 72 [v8 a0] (vb r) := by
  refine PF_mk T_ok Tryd.func72 rfl (by kernel_rfl) (by kernel_rfl) ?_
  unfold quitclaimref10_letter.f at H
  refine qs ?_
  refine qr T_ok [0] (E2 := [(0, [], v8 a0)]) (by kernel_rfl) ?_
  refine qs ?_
  refine qr T_ok [0, 3] (E2 := [(0, [], v8 a0), (3, [], vs ⟨#[97, 98, 99, 100, 101, 102, 103, 104, 105, 106, 107, 108, 109, 110, 111, 112, 113, 114, 115, 116, 117, 118, 119, 120, 121, 122, 48, 49, 50, 51, 52, 53, 54, 55, 56, 57, 46, 95, 45]⟩)]) (by kernel_rfl) ?_
  refine qs ?_
  refine qs ?_
  refine qr T_ok [0, 3, 4] (E2 := [(0, [], v8 a0), (3, [], vs ⟨#[97, 98, 99, 100, 101, 102, 103, 104, 105, 106, 107, 108, 109, 110, 111, 112, 113, 114, 115, 116, 117, 118, 119, 120, 121, 122, 48, 49, 50, 51, 52, 53, 54, 55, 56, 57, 46, 95, 45]⟩), (4, [], vi 0)]) (by kernel_rfl) ?_
  refine qb ?_
  refine qp (fun k E h => ∃ x2 : Int, E = [(0, [], v8 a0), (3, [], vs ⟨#[97, 98, 99, 100, 101, 102, 103, 104, 105, 106, 107, 108, 109, 110, 111, 112, 113, 114, 115, 116, 117, 118, 119, 120, 121, 122, 48, 49, 50, 51, 52, 53, 54, 55, 56, 57, 46, 95, 45]⟩), (4, [], vi x2)] ∧ h = [] ∧ quitclaimref10_letter.l0 a0 k x2 = some r) k ⟨0, rfl, rfl, H⟩ ?_
  clear H
  rintro k E h ⟨x2, rfl, rfl, H⟩
  cases k with
  | zero => exact nomatch (show none = some r from H)
  | succ k =>
    rw [quitclaimref10_letter.l0] at H
    refine qs ?_
    refine qs ?_
    refine qr T_ok [0, 3, 4, 8] (E2 := [(0, [], v8 a0), (3, [], vs ⟨#[97, 98, 99, 100, 101, 102, 103, 104, 105, 106, 107, 108, 109, 110, 111, 112, 113, 114, 115, 116, 117, 118, 119, 120, 121, 122, 48, 49, 50, 51, 52, 53, 54, 55, 56, 57, 46, 95, 45]⟩), (4, [], vi x2), (8, [], vb (decide (x2 < ((⟨#[97, 98, 99, 100, 101, 102, 103, 104, 105, 106, 107, 108, 109, 110, 111, 112, 113, 114, 115, 116, 117, 118, 119, 120, 121, 122, 48, 49, 50, 51, 52, 53, 54, 55, 56, 57, 46, 95, 45]⟩ : ByteArray).size : Int))))]) (by kernel_rfl) ?_
    refine qi (t := decide (x2 < ((⟨#[97, 98, 99, 100, 101, 102, 103, 104, 105, 106, 107, 108, 109, 110, 111, 112, 113, 114, 115, 116, 117, 118, 119, 120, 121, 122, 48, 49, 50, 51, 52, 53, 54, 55, 56, 57, 46, 95, 45]⟩ : ByteArray).size : Int))) (by kernel_rfl) (fun c => ?_) (fun c => ?_)
    · rw [if_pos (of_decide_eq_true c)] at H
      clear c
      refine qw [0, 3, 4] rfl ?_
      refine qk ?_
      refine qs ?_
      refine qb ?_
      refine qs ?_
      refine qg ?_
      refine qm T_ok 2 (k := 2) (by kernel_rfl) (by kernel_rfl) (by kernel_rfl) ?_
      obtain ⟨x4, hx, H⟩ := bd H
      refine qy rfl (zb T_ok .i64 hx rfl (by kernel_rfl) (by kernel_rfl) (by kernel_rfl)) rfl (by kernel_rfl) rfl ?_
      clear hx
      refine qz T_ok 2 [0, 3, 4, 15] 0 (E2 := [(0, [], v8 a0), (3, [], vs ⟨#[97, 98, 99, 100, 101, 102, 103, 104, 105, 106, 107, 108, 109, 110, 111, 112, 113, 114, 115, 116, 117, 118, 119, 120, 121, 122, 48, 49, 50, 51, 52, 53, 54, 55, 56, 57, 46, 95, 45]⟩), (4, [], vi x2), (15, [], vb (decide (x4 = a0)))]) (h1 := []) (by kernel_rfl) (by kernel_rfl) (by kernel_rfl) (by kernel_rfl) (by kernel_rfl) ?_
      refine qi (t := decide (x4 = a0)) (by kernel_rfl) (fun c => ?_) (fun c => ?_)
      · rw [if_pos (of_decide_eq_true c)] at H
        clear c
        refine qs ?_
        refine qr T_ok [2] (E2 := [(2, [], vb true)]) (by kernel_rfl) ?_
        refine qt ?_
        obtain rfl := Option.some.inj H
        exact ⟨vb true, by kernel_rfl, rfl⟩
      · rw [if_neg (of_decide_eq_false c)] at H
        clear c
        refine qw [0, 3, 4] rfl ?_
        refine qk ?_
        refine qr T_ok [0, 3, 4] (E2 := [(0, [], v8 a0), (3, [], vs ⟨#[97, 98, 99, 100, 101, 102, 103, 104, 105, 106, 107, 108, 109, 110, 111, 112, 113, 114, 115, 116, 117, 118, 119, 120, 121, 122, 48, 49, 50, 51, 52, 53, 54, 55, 56, 57, 46, 95, 45]⟩), (4, [], vi (w64 (x2 + 1)))]) (by kernel_rfl) ?_
        exact ⟨_, Nat.lt_succ_self _, w64 (x2 + 1), rfl, rfl, H⟩
    · rw [if_neg (of_decide_eq_false c)] at H
      clear c
      refine qw [] rfl ?_
      refine qx ?_
      refine qs ?_
      refine qr T_ok [2] (E2 := [(2, [], vb false)]) (by kernel_rfl) ?_
      refine qt ?_
      obtain rfl := Option.some.inj H
      exact ⟨vb false, by kernel_rfl, rfl⟩
/-! ### quitclaim/quitclaimref10.Part: function 43 -/
def quitclaimref10_Part.l0 (a0 : ByteArray) : Nat → Int → Option Bool
  | 0, _ => none
  | k + 1, x3 => (if x3 < (a0.size : Int) then ((bx a0 x3).bind fun x6 => ((quitclaimref10_letter.f k x6).bind fun x7 => (if (!x7) = true then some false else quitclaimref10_Part.l0 a0 k (w64 (x3 + 1))))) else some true)
def quitclaimref10_Part.f (k : Nat) (a0 : ByteArray) : Option Bool := (if ((decide ((a0.size : Int) = 0) || decide (a0 = ⟨#[46]⟩)) || decide (a0 = ⟨#[46, 46]⟩)) = true then some false else quitclaimref10_Part.l0 a0 k 0)
theorem quitclaimref10_Part.ok (k : Nat) (a0 : ByteArray) (r : Bool) (H : quitclaimref10_Part.f k a0 = some r) : PF Tryd.prog 43 [vs a0] (vb r) := by
  refine PF_mk T_ok Tryd.func43 rfl (by kernel_rfl) (by kernel_rfl) ?_
  unfold quitclaimref10_Part.f at H
  refine qs ?_
  refine qr T_ok [0] (E2 := [(0, [], vs a0)]) (by kernel_rfl) ?_
  refine qs ?_
  refine qs ?_
  refine qr T_ok [0, 14] (E2 := [(0, [], vs a0), (14, [], vb ((decide ((a0.size : Int) = 0) || decide (a0 = ⟨#[46]⟩)) || decide (a0 = ⟨#[46, 46]⟩)))]) (by kernel_rfl) ?_
  refine qi (t := ((decide ((a0.size : Int) = 0) || decide (a0 = ⟨#[46]⟩)) || decide (a0 = ⟨#[46, 46]⟩))) (by kernel_rfl) (fun c => ?_) (fun c => ?_)
  · rw [if_pos c] at H
    clear c
    refine qs ?_
    refine qr T_ok [2] (E2 := [(2, [], vb false)]) (by kernel_rfl) ?_
    refine qt ?_
    obtain rfl := Option.some.inj H
    exact ⟨vb false, by kernel_rfl, rfl⟩
  · rw [if_neg (by rw [c]; exact Bool.false_ne_true)] at H
    clear c
    refine qw [0] rfl ?_
    refine qk ?_
    refine qs ?_
    refine qs ?_
    refine qr T_ok [0, 3] (E2 := [(0, [], vs a0), (3, [], vi 0)]) (by kernel_rfl) ?_
    refine qb ?_
    refine qp (fun k E h => ∃ x3 : Int, E = [(0, [], vs a0), (3, [], vi x3)] ∧ h = [] ∧ quitclaimref10_Part.l0 a0 k x3 = some r) k ⟨0, rfl, rfl, H⟩ ?_
    clear H
    rintro k E h ⟨x3, rfl, rfl, H⟩
    cases k with
    | zero => exact nomatch (show none = some r from H)
    | succ k =>
      rw [quitclaimref10_Part.l0] at H
      refine qs ?_
      refine qs ?_
      refine qr T_ok [0, 3, 18] (E2 := [(0, [], vs a0), (3, [], vi x3), (18, [], vb (decide (x3 < (a0.size : Int))))]) (by kernel_rfl) ?_
      refine qi (t := decide (x3 < (a0.size : Int))) (by kernel_rfl) (fun c => ?_) (fun c => ?_)
      · rw [if_pos (of_decide_eq_true c)] at H
        clear c
        refine qw [0, 3] rfl ?_
        refine qk ?_
        refine qs ?_
        refine qb ?_
        refine qs ?_
        refine qg ?_
        refine qm T_ok 2 (k := 2) (by kernel_rfl) (by kernel_rfl) (by kernel_rfl) ?_
        obtain ⟨x6, hx, H⟩ := bd H
        refine qy rfl (zb T_ok .i64 hx rfl (by kernel_rfl) (by kernel_rfl) (by kernel_rfl)) rfl (by kernel_rfl) rfl ?_
        clear hx
        obtain ⟨x7, hx, H⟩ := bd H
        refine qy rfl (zc (T := T) (quitclaimref10_letter.ok k x6 _ hx) Tryd.func72 rfl rfl (caps := []) (by kernel_rfl) (by kernel_rfl) (by kernel_rfl) (by kernel_rfl) (by kernel_rfl) (by kernel_rfl)) rfl (by kernel_rfl) rfl ?_
        clear hx
        refine qz T_ok 1 [0, 3, 25] 0 (E2 := [(0, [], vs a0), (3, [], vi x3), (25, [], vb (!x7))]) (h1 := []) (by kernel_rfl) (by kernel_rfl) (by kernel_rfl) (by kernel_rfl) (by kernel_rfl) ?_
        refine qi (t := !x7) (by kernel_rfl) (fun c => ?_) (fun c => ?_)
        · rw [if_pos c] at H
          clear c
          refine qs ?_
          refine qr T_ok [2] (E2 := [(2, [], vb false)]) (by kernel_rfl) ?_
          refine qt ?_
          obtain rfl := Option.some.inj H
          exact ⟨vb false, by kernel_rfl, rfl⟩
        · rw [if_neg (by rw [c]; exact Bool.false_ne_true)] at H
          clear c
          refine qw [0, 3] rfl ?_
          refine qk ?_
          refine qr T_ok [0, 3] (E2 := [(0, [], vs a0), (3, [], vi (w64 (x3 + 1)))]) (by kernel_rfl) ?_
          exact ⟨_, Nat.lt_succ_self _, w64 (x3 + 1), rfl, rfl, H⟩
      · rw [if_neg (of_decide_eq_false c)] at H
        clear c
        refine qw [] rfl ?_
        refine qx ?_
        refine qs ?_
        refine qr T_ok [2] (E2 := [(2, [], vb true)]) (by kernel_rfl) ?_
        refine qt ?_
        obtain rfl := Option.some.inj H
        exact ⟨vb true, by kernel_rfl, rfl⟩
/-! ### quitclaim/quitclaimref10.Right: function 10 -/
def quitclaimref10_Right.l0 (x1 : List ByteArray) : Nat → Int → Option Bool
  | 0, _ => none
  | k + 1, x4 => (if x4 < (x1.length : Int) then ((ix x1 x4).bind fun x7 => ((quitclaimref10_Part.f k x7).bind fun x8 => (if (!x8) = true then some false else quitclaimref10_Right.l0 x1 k (w64 (x4 + 1))))) else some (decide ((x1.length : Int) ≤ 16)))
def quitclaimref10_Right.f (k : Nat) (a0 : ByteArray) : Option Bool := (if (a0.size : Int) > 200 then some false else ((quitclaimref10_Split.f k a0).bind fun x1 => quitclaimref10_Right.l0 x1 k 0))
theorem quitclaimref10_Right.ok (k : Nat) (a0 : ByteArray) (r : Bool) (H : quitclaimref10_Right.f k a0 = some r) : PF Tryd.prog 10 [vs a0] (vb r) := by
  refine PF_mk T_ok Tryd.func10 rfl (by kernel_rfl) (by kernel_rfl) ?_
  unfold quitclaimref10_Right.f at H
  refine qs ?_
  refine qr T_ok [0] (E2 := [(0, [], vs a0)]) (by kernel_rfl) ?_
  refine qs ?_
  refine qs ?_
  refine qr T_ok [0, 7] (E2 := [(0, [], vs a0), (7, [], vb (decide ((a0.size : Int) > 200)))]) (by kernel_rfl) ?_
  refine qi (t := decide ((a0.size : Int) > 200)) (by kernel_rfl) (fun c => ?_) (fun c => ?_)
  · rw [if_pos (of_decide_eq_true c)] at H
    clear c
    refine qs ?_
    refine qr T_ok [2] (E2 := [(2, [], vb false)]) (by kernel_rfl) ?_
    refine qt ?_
    obtain rfl := Option.some.inj H
    exact ⟨vb false, by kernel_rfl, rfl⟩
  · rw [if_neg (of_decide_eq_false c)] at H
    clear c
    refine qw [0] rfl ?_
    refine qk ?_
    refine qs ?_
    refine qg ?_
    refine qm T_ok 1 (k := 1) (by kernel_rfl) (by kernel_rfl) (by kernel_rfl) ?_
    obtain ⟨x1, hx, H⟩ := bd H
    refine qy rfl (zc (T := T) (quitclaimref10_Split.ok k a0 _ hx) Tryd.func20 rfl rfl (caps := []) (by kernel_rfl) (by kernel_rfl) (by kernel_rfl) (by kernel_rfl) (by kernel_rfl) (by kernel_rfl)) rfl (by kernel_rfl) rfl ?_
    clear hx
    refine qz T_ok 1 [3] 0 (E2 := [(3, [], .p (.sl 1 ByteArray eS x1))]) (h1 := []) (by kernel_rfl) (by kernel_rfl) (by kernel_rfl) (by kernel_rfl) (by kernel_rfl) ?_
    refine qs ?_
    refine qs ?_
    refine qr T_ok [3, 4] (E2 := [(3, [], .p (.sl 1 ByteArray eS x1)), (4, [], vi 0)]) (by kernel_rfl) ?_
    refine qb ?_
    refine qp (fun k E h => ∃ x4 : Int, E = [(3, [], .p (.sl 1 ByteArray eS x1)), (4, [], vi x4)] ∧ h = [] ∧ quitclaimref10_Right.l0 x1 k x4 = some r) k ⟨0, rfl, rfl, H⟩ ?_
    clear H
    rintro k E h ⟨x4, rfl, rfl, H⟩
    cases k with
    | zero => exact nomatch (show none = some r from H)
    | succ k =>
      rw [quitclaimref10_Right.l0] at H
      refine qs ?_
      refine qs ?_
      refine qr T_ok [3, 4, 13] (E2 := [(3, [], .p (.sl 1 ByteArray eS x1)), (4, [], vi x4), (13, [], vb (decide (x4 < (x1.length : Int))))]) (by kernel_rfl) ?_
      refine qi (t := decide (x4 < (x1.length : Int))) (by kernel_rfl) (fun c => ?_) (fun c => ?_)
      · rw [if_pos (of_decide_eq_true c)] at H
        clear c
        refine qw [3, 4] rfl ?_
        refine qk ?_
        refine qs ?_
        refine qb ?_
        refine qs ?_
        refine qg ?_
        refine qm T_ok 2 (k := 2) (by kernel_rfl) (by kernel_rfl) (by kernel_rfl) ?_
        obtain ⟨x7, hx, H⟩ := bd H
        refine qy rfl (zi T_ok .i64 (enc := eS) (l := x1) (e := 9) (n := 1) (ei := ti9) (sa := (.p (.sl 1 ByteArray eS x1))) hx rfl (by kernel_rfl) (by kernel_rfl) rfl (by kernel_rfl) (by kernel_rfl) (by kernel_rfl)) rfl (by kernel_rfl) rfl ?_
        clear hx
        refine qm T_ok 1 (k := 4) (by kernel_rfl) (by kernel_rfl) (by kernel_rfl) ?_
        obtain ⟨x8, hx, H⟩ := bd H
        refine qy rfl (zc (T := T) (quitclaimref10_Part.ok k x7 _ hx) Tryd.func43 rfl rfl (caps := []) (by kernel_rfl) (by kernel_rfl) (by kernel_rfl) (by kernel_rfl) (by kernel_rfl) (by kernel_rfl)) rfl (by kernel_rfl) rfl ?_
        clear hx
        refine qz T_ok 1 [3, 4, 21] 0 (E2 := [(3, [], .p (.sl 1 ByteArray eS x1)), (4, [], vi x4), (21, [], vb (!x8))]) (h1 := []) (by kernel_rfl) (by kernel_rfl) (by kernel_rfl) (by kernel_rfl) (by kernel_rfl) ?_
        refine qi (t := !x8) (by kernel_rfl) (fun c => ?_) (fun c => ?_)
        · rw [if_pos c] at H
          clear c
          refine qs ?_
          refine qr T_ok [2] (E2 := [(2, [], vb false)]) (by kernel_rfl) ?_
          refine qt ?_
          obtain rfl := Option.some.inj H
          exact ⟨vb false, by kernel_rfl, rfl⟩
        · rw [if_neg (by rw [c]; exact Bool.false_ne_true)] at H
          clear c
          refine qw [3, 4] rfl ?_
          refine qk ?_
          refine qr T_ok [3, 4] (E2 := [(3, [], .p (.sl 1 ByteArray eS x1)), (4, [], vi (w64 (x4 + 1)))]) (by kernel_rfl) ?_
          exact ⟨_, Nat.lt_succ_self _, w64 (x4 + 1), rfl, rfl, H⟩
      · rw [if_neg (of_decide_eq_false c)] at H
        clear c
        refine qw [3] rfl ?_
        refine qx ?_
        refine qs ?_
        refine qr T_ok [2] (E2 := [(2, [], vb (decide ((x1.length : Int) ≤ 16)))]) (by kernel_rfl) ?_
        refine qt ?_
        obtain rfl := Option.some.inj H
        exact ⟨vb (decide ((x1.length : Int) ≤ 16)), by kernel_rfl, rfl⟩
/-! ### quitclaim/quitclaimref10.Covers: function 11 -/
def quitclaimref10_Covers.f (a0 : ByteArray) (a1 : ByteArray) : Option Bool := (if (decide (a0 = ⟨#[]⟩) || decide (a0 = a1)) = true then some true else ((gd (decide ((a1.size : Int) > (a0.size : Int))) (sub a1 0 (a0.size : Int))).bind fun x1 => ((gd (decide ((a1.size : Int) > (a0.size : Int)) && decide (x1 = a0)) (bx a1 (a0.size : Int))).bind fun x2 => some ((decide ((a1.size : Int) > (a0.size : Int)) && decide (x1 = a0)) && decide (x2 = 47)))))
theorem quitclaimref10_Covers.ok (a0 : ByteArray) (a1 : ByteArray) (r : Bool) (H : quitclaimref10_Covers.f a0 a1 = some r) : PF Tryd.prog 11 [vs a0, vs a1] (vb r) := by
  refine PF_mk T_ok Tryd.func11 rfl (by kernel_rfl) (by kernel_rfl) ?_
  unfold quitclaimref10_Covers.f at H
  refine qs ?_
  refine qr T_ok [0, 1] (E2 := [(0, [], vs a0), (1, [], vs a1)]) (by kernel_rfl) ?_
  refine qs ?_
  refine qs ?_
  refine qr T_ok [0, 1, 11] (E2 := [(0, [], vs a0), (1, [], vs a1), (11, [], vb (decide (a0 = ⟨#[]⟩) || decide (a0 = a1)))]) (by kernel_rfl) ?_
  refine qi (t := (decide (a0 = ⟨#[]⟩) || decide (a0 = a1))) (by kernel_rfl) (fun c => ?_) (fun c => ?_)
  · rw [if_pos c] at H
    clear c
    refine qs ?_
    refine qr T_ok [4] (E2 := [(4, [], vb true)]) (by kernel_rfl) ?_
    refine qt ?_
    obtain rfl := Option.some.inj H
    exact ⟨vb true, by kernel_rfl, rfl⟩
  · rw [if_neg (by rw [c]; exact Bool.false_ne_true)] at H
    clear c
    refine qw [0, 1] rfl ?_
    refine qk ?_
    refine qs ?_
    refine qg ?_
    refine qm T_ok 9 (k := 9) (by kernel_rfl) (by kernel_rfl) (by kernel_rfl) ?_
    obtain ⟨x1, hx, H⟩ := bd H
    refine qyg rfl (tg := []) (Yld.under (u := 17) (b := true) (t := decide ((a1.size : Int) > (a0.size : Int))) (by kernel_rfl) (by simp) fun g0_ => (zu T_ok (gd1 hx g0_) rfl (by kernel_rfl) (by kernel_rfl) rfl ⟨.i64, by kernel_rfl⟩)) rfl rfl (by kernel_rfl) (by kernel_rfl) rfl ?_
    clear hx
    refine qm T_ok 7 (k := 17) (by kernel_rfl) (by kernel_rfl) (by kernel_rfl) ?_
    obtain ⟨x2, hx, H⟩ := bd H
    refine qyg rfl (tg := []) (Yld.under (u := 25) (b := true) (t := (decide ((a1.size : Int) > (a0.size : Int)) && decide (x1 = a0))) (by kernel_rfl) (by simp) fun g0_ => (zb T_ok .i64 (gd1 hx g0_) rfl (by kernel_rfl) (by kernel_rfl) (by kernel_rfl))) rfl rfl (by kernel_rfl) (by kernel_rfl) rfl ?_
    clear hx
    refine qz T_ok 3 [4] 0 (E2 := [(4, [], vb ((decide ((a1.size : Int) > (a0.size : Int)) && decide (x1 = a0)) && decide (x2 = 47)))]) (h1 := []) (by kernel_rfl) (by kernel_rfl) (by kernel_rfl) (by kernel_rfl) (by kernel_rfl) ?_
    refine qt ?_
    obtain rfl := Option.some.inj H
    exact ⟨vb ((decide ((a1.size : Int) > (a0.size : Int)) && decide (x1 = a0)) && decide (x2 = 47)), by kernel_rfl, rfl⟩
/-! ### quitclaim/path.Beside: function 16 -/
def path_Beside.f (k : Nat) (a0 : ByteArray) (a1 : ByteArray) : Option Bool := ((path_Right.f k a0).bind fun x1 => ((gd x1 (path_Right.f k a1)).bind fun x2 => ((gd (x1 && x2) (path_covers.f a0 a1)).bind fun x3 => ((gd ((x1 && x2) && !x3) (path_covers.f a1 a0)).bind fun x4 => some (((x1 && x2) && !x3) && !x4)))))
theorem path_Beside.ok (k : Nat) (a0 : ByteArray) (a1 : ByteArray) (r : Bool) (H : path_Beside.f k a0 a1 = some r) : PF Tryd.prog 16 [vs a0, vs a1] (vb r) := by
  refine PF_mk T_ok Tryd.func16 rfl (by kernel_rfl) (by kernel_rfl) ?_
  unfold path_Beside.f at H
  refine qs ?_
  refine qr T_ok [0, 1] (E2 := [(0, [], vs a0), (1, [], vs a1)]) (by kernel_rfl) ?_
  refine qs ?_
  refine qg ?_
  refine qm T_ok 1 (k := 1) (by kernel_rfl) (by kernel_rfl) (by kernel_rfl) ?_
  obtain ⟨x1, hx, H⟩ := bd H
  refine qy rfl (zc (T := T) (path_Right.ok k a0 _ hx) Tryd.func13 rfl rfl (caps := []) (by kernel_rfl) (by kernel_rfl) (by kernel_rfl) (by kernel_rfl) (by kernel_rfl) (by kernel_rfl)) rfl (by kernel_rfl) rfl ?_
  clear hx
  refine qm T_ok 2 (k := 4) (by kernel_rfl) (by kernel_rfl) (by kernel_rfl) ?_
  obtain ⟨x2, hx, H⟩ := bd H
  refine qyg rfl (tg := []) (Yld.under (u := 7) (b := true) (t := x1) (by kernel_rfl) (by simp) fun g0_ => (zc (T := T) (path_Right.ok k a1 _ (gd1 hx g0_)) Tryd.func13 rfl rfl (caps := []) (by kernel_rfl) (by kernel_rfl) (by kernel_rfl) (by kernel_rfl) (by kernel_rfl) (by kernel_rfl))) rfl rfl (by kernel_rfl) (by kernel_rfl) rfl ?_
  clear hx
  refine qm T_ok 4 (k := 9) (by kernel_rfl) (by kernel_rfl) (by kernel_rfl) ?_
  obtain ⟨x3, hx, H⟩ := bd H
  refine qyg rfl (tg := []) (Yld.under (u := 11) (b := true) (t := (x1 && x2)) (by kernel_rfl) (by simp) fun g0_ => (zc (T := T) (path_covers.ok a0 a1 _ (gd1 hx g0_)) Tryd.func46 rfl rfl (caps := []) (by kernel_rfl) (by kernel_rfl) (by kernel_rfl) (by kernel_rfl) (by kernel_rfl) (by kernel_rfl))) rfl rfl (by kernel_rfl) (by kernel_rfl) rfl ?_
  clear hx
  refine qm T_ok 5 (k := 15) (by kernel_rfl) (by kernel_rfl) (by kernel_rfl) ?_
  obtain ⟨x4, hx, H⟩ := bd H
  refine qyg rfl (tg := []) (Yld.under (u := 17) (b := true) (t := ((x1 && x2) && !x3)) (by kernel_rfl) (by simp) fun g0_ => (zc (T := T) (path_covers.ok a1 a0 _ (gd1 hx g0_)) Tryd.func46 rfl rfl (caps := []) (by kernel_rfl) (by kernel_rfl) (by kernel_rfl) (by kernel_rfl) (by kernel_rfl) (by kernel_rfl))) rfl rfl (by kernel_rfl) (by kernel_rfl) rfl ?_
  clear hx
  refine qz T_ok 3 [4] 0 (E2 := [(4, [], vb (((x1 && x2) && !x3) && !x4))]) (h1 := []) (by kernel_rfl) (by kernel_rfl) (by kernel_rfl) (by kernel_rfl) (by kernel_rfl) ?_
  refine qt ?_
  obtain rfl := Option.some.inj H
  exact ⟨vb (((x1 && x2) && !x3) && !x4), by kernel_rfl, rfl⟩
/-! ### strings.explode: function 106 -/
def strings_explode.f (_a0 : ByteArray) (_a1 : Int) : Option (List ByteArray) := none
theorem strings_explode.ok (a0 : ByteArray) (a1 : Int) (r : List ByteArray) (H : strings_explode.f a0 a1 = some r) : PF Tryd.prog 106 [vs a0, vi a1] (.p (.sl 1 ByteArray eS r)) := by cases H

/-! ### strings.Count: function 107 -/
def strings_Count.f (a0 a1 : ByteArray) : Option Int := match a1.data.toList with
  | [c] => some ((Lib.countByte a0.data.toList c : Nat) : Int)
  | _ => none
theorem strings_Count.ok (a0 a1 : ByteArray) (r : Int) (H : strings_Count.f a0 a1 = some r) : PF Tryd.prog 107 [vs a0, vs a1] (vi r) := by
  unfold strings_Count.f at H
  split at H
  case h_1 c hc =>
    obtain rfl := Option.some.inj H
    obtain ⟨⟨l⟩⟩ := a1
    have hc' : l = [c] := hc
    subst hc'
    exact PF_of (args := [.string a0, .string ⟨⟨[c]⟩⟩]) fun w => (Go.Proofs.Tryd.strings_Count_one a0 c w).mono fun e w' ⟨he, hw⟩ => ⟨he, hw ▸ Below.refl _ _⟩
  case h_2 => cases H

/-! ### strings.Index: function 104 -/
def strings_Index.f (a0 a1 : ByteArray) : Option Int := match a1.data.toList with
  | [c] => some (Lib.indexByte a0.data.toList c)
  | _ => none
theorem strings_Index.ok (a0 a1 : ByteArray) (r : Int) (H : strings_Index.f a0 a1 = some r) : PF Tryd.prog 104 [vs a0, vs a1] (vi r) := by
  unfold strings_Index.f at H
  split at H
  case h_1 c hc =>
    obtain rfl := Option.some.inj H
    obtain ⟨⟨l⟩⟩ := a1
    have hc' : l = [c] := hc
    subst hc'
    exact PF_of (args := [.string a0, .string ⟨⟨[c]⟩⟩]) fun w => (Go.Proofs.Tryd.strings_Index_one a0 c w).mono fun e w' ⟨he, hw⟩ => ⟨he, hw ▸ Below.refl _ _⟩
  case h_2 => cases H

/-! ### strings.genSplit: function 75 -/
def strings_genSplit.l1 (a0 : ByteArray) (a1 : ByteArray) (a2 : Int) (x3 : Int) (j1 : (ByteArray → Int → (List ByteArray) → Option (List ByteArray))) : Nat → ByteArray → Int → (List ByteArray) → Option (List ByteArray)
  | 0, _, _, _ => none
  | k + 1, x31, x32, x33 => (if x32 < w64 ((if w64 ((a0.size : Int) + 1) < x3 then w64 ((a0.size : Int) + 1) else x3) - 1) then ((strings_Index.f x31 a1).bind fun x39 => (if x39 < 0 then j1 x31 x32 x33 else ((sub x31 0 (w64 (x39 + a2))).bind fun x40 => ((chk x32 ((if w64 ((a0.size : Int) + 1) < x3 then w64 ((a0.size : Int) + 1) else x3).toNat)).bind fun x41 => ((wr x33 x32.toNat x40).bind fun x42 => ((sub x31 (w64 (x39 + (a1.size : Int))) (x31.size : Int)).bind fun x43 => strings_genSplit.l1 a0 a1 a2 x3 j1 k x43 (w64 (x32 + 1)) x42)))))) else j1 x31 x32 x33)
def strings_genSplit.f (k : Nat) (a0 : ByteArray) (a1 : ByteArray) (a2 : Int) (a3 : Int) : Option (List ByteArray) := (if a3 = 0 then some [] else (if a1 = ⟨#[]⟩ then ((strings_explode.f a0 a3).bind fun x1 => some x1) else (jn (fun (x3 : Int) => ((grw 16 (if w64 ((a0.size : Int) + 1) < x3 then w64 ((a0.size : Int) + 1) else x3)).bind fun _ => (jn (fun (x23 : ByteArray) (x24 : Int) (x25 : List ByteArray) => ((chk x24 ((if w64 ((a0.size : Int) + 1) < x3 then w64 ((a0.size : Int) + 1) else x3).toNat)).bind fun x44 => ((wr x25 x24.toNat x23).bind fun x45 => ((ln x45 ((if w64 ((a0.size : Int) + 1) < x3 then w64 ((a0.size : Int) + 1) else x3).toNat)).bind fun _ => ((cut x45 0 (w64 (x24 + 1))).bind fun x46 => some x46))))) fun j1 => strings_genSplit.l1 a0 a1 a2 x3 j1 k a0 0 (List.replicate (if w64 ((a0.size : Int) + 1) < x3 then w64 ((a0.size : Int) + 1) else x3).toNat (⟨#[]⟩ : ByteArray))))) fun j0 => (if a3 < 0 then ((strings_Count.f a0 a1).bind fun x4 => j0 (w64 (x4 + 1))) else j0 a3))))
theorem strings_genSplit.ok (k : Nat) (a0 : ByteArray) (a1 : ByteArray) (a2 : Int) (a3 : Int) (r : List ByteArray) (H : strings_genSplit.f k a0 a1 a2 a3 = some r) : PF Tryd.prog 75 [vs a0, vs a1, vi a2, vi a3] (.p (.sl 1 ByteArray eS r)) := by
  refine PF_mk T_ok Tryd.func75 rfl (by kernel_rfl) (by kernel_rfl) ?_
  unfold strings_genSplit.f at H
  refine qs ?_
  refine qr T_ok [0, 1, 2, 3] (E2 := [(0, [], vs a0), (1, [], vs a1), (2, [], vi a2), (3, [], vi a3)]) (by kernel_rfl) ?_
  refine qs ?_
  refine qs ?_
  refine qr T_ok [0, 1, 2, 3, 13] (E2 := [(0, [], vs a0), (1, [], vs a1), (2, [], vi a2), (3, [], vi a3), (13, [], vb (decide (a3 = 0)))]) (by kernel_rfl) ?_
  refine qi (t := decide (a3 = 0)) (by kernel_rfl) (fun c => ?_) (fun c => ?_)
  · rw [if_pos (of_decide_eq_true c)] at H
    clear c
    refine qs ?_
    refine qr T_ok [8] (E2 := [(8, [], .p (.sl 1 ByteArray eS []))]) (by kernel_rfl) ?_
    refine qt ?_
    obtain rfl := Option.some.inj H
    exact ⟨.p (.sl 1 ByteArray eS []), by kernel_rfl, rfl⟩
  · rw [if_neg (of_decide_eq_false c)] at H
    clear c
    refine qw [0, 1, 2, 3] rfl ?_
    refine qk ?_
    refine qs ?_
    refine qs ?_
    refine qr T_ok [0, 1, 2, 3, 15] (E2 := [(0, [], vs a0), (1, [], vs a1), (2, [], vi a2), (3, [], vi a3), (15, [], vb (decide (a1 = ⟨#[]⟩)))]) (by kernel_rfl) ?_
    refine qi (t := decide (a1 = ⟨#[]⟩)) (by kernel_rfl) (fun c => ?_) (fun c => ?_)
    · rw [if_pos (of_decide_eq_true c)] at H
      clear c
      refine qs ?_
      refine qg ?_
      refine qm T_ok 2 (k := 2) (by kernel_rfl) (by kernel_rfl) (by kernel_rfl) ?_
      obtain ⟨x1, hx, H⟩ := bd H
      refine qy rfl (zc (T := T) (strings_explode.ok a0 a3 _ hx) Tryd.func106 rfl rfl (caps := []) (by kernel_rfl) (by kernel_rfl) (by kernel_rfl) (by kernel_rfl) (by kernel_rfl) (by kernel_rfl)) rfl (by kernel_rfl) rfl ?_
      clear hx
      refine qz T_ok 1 [8] 0 (E2 := [(8, [], .p (.sl 1 ByteArray eS x1))]) (h1 := []) (by kernel_rfl) (by kernel_rfl) (by kernel_rfl) (by kernel_rfl) (by kernel_rfl) ?_
      refine qt ?_
      obtain rfl := Option.some.inj H
      exact ⟨.p (.sl 1 ByteArray eS x1), by kernel_rfl, rfl⟩
    · rw [if_neg (of_decide_eq_false c)] at H
      clear c
      refine qw [0, 1, 2, 3] rfl ?_
      refine qk ?_
      obtain ⟨j0, hj, H⟩ := jn_of H
      refine qc (fun E h => ∃ x3 : Int, E = [(0, [], vs a0), (1, [], vs a1), (2, [], vi a2), (3, [], vi x3)] ∧ h = [] ∧ j0 x3 = some r) ?_ ?_
      · clear hj
        refine qs ?_
        refine qr T_ok [0, 1, 2, 3, 20] (E2 := [(0, [], vs a0), (1, [], vs a1), (2, [], vi a2), (3, [], vi a3), (20, [], vb (decide (a3 < 0)))]) (by kernel_rfl) ?_
        refine qi (t := decide (a3 < 0)) (by kernel_rfl) (fun c => ?_) (fun c => ?_)
        · rw [if_pos (of_decide_eq_true c)] at H
          clear c
          refine qg ?_
          refine qm T_ok 2 (k := 2) (by kernel_rfl) (by kernel_rfl) (by kernel_rfl) ?_
          obtain ⟨x4, hx, H⟩ := bd H
          refine qy rfl (zc (T := T) (strings_Count.ok a0 a1 _ hx) Tryd.func107 rfl rfl (caps := []) (by kernel_rfl) (by kernel_rfl) (by kernel_rfl) (by kernel_rfl) (by kernel_rfl) (by kernel_rfl)) rfl (by kernel_rfl) rfl ?_
          clear hx
          refine qz T_ok 2 [0, 1, 2, 3] 0 (E2 := [(0, [], vs a0), (1, [], vs a1), (2, [], vi a2), (3, [], vi (w64 (x4 + 1)))]) (h1 := []) (by kernel_rfl) (by kernel_rfl) (by kernel_rfl) (by kernel_rfl) (by kernel_rfl) ?_
          exact ⟨w64 (x4 + 1), rfl, rfl, H⟩
        · rw [if_neg (of_decide_eq_false c)] at H
          clear c
          refine qw [0, 1, 2, 3] rfl ?_
          refine qk ?_
          exact ⟨a3, rfl, rfl, H⟩
      · clear H
        rintro E h ⟨x3, rfl, rfl, H⟩
        subst hj
        dsimp only at H
        refine qs ?_
        refine qr T_ok [0, 1, 2, 3] (E2 := [(0, [], vs a0), (1, [], vs a1), (2, [], vi a2), (3, [], vi (if w64 ((a0.size : Int) + 1) < x3 then w64 ((a0.size : Int) + 1) else x3))]) (by kernel_rfl) ?_
        refine qs ?_
        refine qg ?_
        refine qm T_ok 1 (k := 1) (by kernel_rfl) (by kernel_rfl) (by kernel_rfl) ?_
        obtain ⟨u_, hx, H⟩ := bd H
        refine xm T_ok (e := 9) (j := 0) (k := (if w64 ((a0.size : Int) + 1) < x3 then w64 ((a0.size : Int) + 1) else x3)) (enc := eS) (z0 := (⟨#[]⟩ : ByteArray)) (ei := ti9) rfl rfl rfl rfl (by kernel_rfl) (by kernel_rfl) (by kernel_rfl) (by kernel_rfl) (grw_of hx).1 (grw_of hx).2.1 (grw_of hx).2.2 (by kernel_rfl) rfl ?_
        clear hx
        refine qz T_ok 1 [0, 1, 2, 3, 9] 1 (E2 := [(0, [], vs a0), (1, [], vs a1), (2, [], vi a2), (3, [], vi (if w64 ((a0.size : Int) + 1) < x3 then w64 ((a0.size : Int) + 1) else x3)), (9, [], .row 9 ((if w64 ((a0.size : Int) + 1) < x3 then w64 ((a0.size : Int) + 1) else x3).toNat) 0)]) (h1 := [.cells (rowC eS (List.replicate (if w64 ((a0.size : Int) + 1) < x3 then w64 ((a0.size : Int) + 1) else x3).toNat (⟨#[]⟩ : ByteArray)))]) (by kernel_rfl) (by kernel_rfl) (by kernel_rfl) (by simp [gcO, lowO, noMark, lowL, ids_rowC, SV.idsL, SV.ids, Nat.blt]) (by kernel_rfl) ?_
        refine qs ?_
        refine qr T_ok [0, 1, 2, 3, 9] (E2 := [(0, [], vs a0), (1, [], vs a1), (2, [], vi a2), (3, [], vi (w64 ((if w64 ((a0.size : Int) + 1) < x3 then w64 ((a0.size : Int) + 1) else x3) - 1))), (9, [], .row 9 ((if w64 ((a0.size : Int) + 1) < x3 then w64 ((a0.size : Int) + 1) else x3).toNat) 0)]) (by kernel_rfl) ?_
        refine qs ?_
        refine qr T_ok [0, 1, 2, 3, 9, 10] (E2 := [(0, [], vs a0), (1, [], vs a1), (2, [], vi a2), (3, [], vi (w64 ((if w64 ((a0.size : Int) + 1) < x3 then w64 ((a0.size : Int) + 1) else x3) - 1))), (9, [], .row 9 ((if w64 ((a0.size : Int) + 1) < x3 then w64 ((a0.size : Int) + 1) else x3).toNat) 0), (10, [], vi 0)]) (by kernel_rfl) ?_
        obtain ⟨j1, hj, H⟩ := jn_of H
        refine qc (fun E h => ∃ x23 : ByteArray, ∃ x24 : Int, ∃ x25 : List ByteArray, E = [(0, [], vs x23), (9, [], .row 9 ((if w64 ((a0.size : Int) + 1) < x3 then w64 ((a0.size : Int) + 1) else x3).toNat) 0), (10, [], vi x24)] ∧ h = [.cells (rowC eS x25)] ∧ j1 x23 x24 x25 = some r) ?_ ?_
        · clear hj
          refine qb ?_
          refine qp (fun k E h => ∃ x31 : ByteArray, ∃ x32 : Int, ∃ x33 : List ByteArray, E = [(0, [], vs x31), (1, [], vs a1), (2, [], vi a2), (3, [], vi (w64 ((if w64 ((a0.size : Int) + 1) < x3 then w64 ((a0.size : Int) + 1) else x3) - 1))), (9, [], .row 9 ((if w64 ((a0.size : Int) + 1) < x3 then w64 ((a0.size : Int) + 1) else x3).toNat) 0), (10, [], vi x32)] ∧ h = [.cells (rowC eS x33)] ∧ strings_genSplit.l1 a0 a1 a2 x3 j1 k x31 x32 x33 = some r) k ⟨a0, 0, List.replicate (if w64 ((a0.size : Int) + 1) < x3 then w64 ((a0.size : Int) + 1) else x3).toNat (⟨#[]⟩ : ByteArray), rfl, rfl, H⟩ ?_
          clear H
          rintro k E h ⟨x31, x32, x33, rfl, rfl, H⟩
          cases k with
          | zero => exact nomatch (show none = some r from H)
          | succ k =>
            rw [strings_genSplit.l1] at H
            refine qs ?_
            refine qs ?_
            refine qr T_ok [0, 1, 2, 3, 9, 10, 36] (E2 := [(0, [], vs x31), (1, [], vs a1), (2, [], vi a2), (3, [], vi (w64 ((if w64 ((a0.size : Int) + 1) < x3 then w64 ((a0.size : Int) + 1) else x3) - 1))), (9, [], .row 9 ((if w64 ((a0.size : Int) + 1) < x3 then w64 ((a0.size : Int) + 1) else x3).toNat) 0), (10, [], vi x32), (36, [], vb (decide (x32 < w64 ((if w64 ((a0.size : Int) + 1) < x3 then w64 ((a0.size : Int) + 1) else x3) - 1))))]) (by kernel_rfl) ?_
            refine qi (t := decide (x32 < w64 ((if w64 ((a0.size : Int) + 1) < x3 then w64 ((a0.size : Int) + 1) else x3) - 1))) (by kernel_rfl) (fun c => ?_) (fun c => ?_)
            · rw [if_pos (of_decide_eq_true c)] at H
              clear c
              refine qw [0, 1, 2, 3, 9, 10] rfl ?_
              refine qk ?_
              refine qb ?_
              refine qs ?_
              refine qg ?_
              refine qm T_ok 2 (k := 2) (by kernel_rfl) (by kernel_rfl) (by kernel_rfl) ?_
              obtain ⟨x39, hx, H⟩ := bd H
              refine qy rfl (zc (T := T) (strings_Index.ok x31 a1 _ hx) Tryd.func104 rfl rfl (caps := []) (by kernel_rfl) (by kernel_rfl) (by kernel_rfl) (by kernel_rfl) (by kernel_rfl) (by kernel_rfl)) rfl (by kernel_rfl) rfl ?_
              clear hx
              refine qz T_ok 1 [0, 1, 2, 3, 9, 10, 11] 1 (E2 := [(0, [], vs x31), (1, [], vs a1), (2, [], vi a2), (3, [], vi (w64 ((if w64 ((a0.size : Int) + 1) < x3 then w64 ((a0.size : Int) + 1) else x3) - 1))), (9, [], .row 9 ((if w64 ((a0.size : Int) + 1) < x3 then w64 ((a0.size : Int) + 1) else x3).toNat) 0), (10, [], vi x32), (11, [], vi x39)]) (h1 := [.cells (rowC eS x33)]) (by kernel_rfl) (by kernel_rfl) (by kernel_rfl) (by simp [gcO, lowO, noMark, lowL, ids_rowC, SV.idsL, SV.ids, Nat.blt]) (by kernel_rfl) ?_
              refine qs ?_
              refine qs ?_
              refine qr T_ok [0, 1, 2, 3, 9, 10, 11, 41] (E2 := [(0, [], vs x31), (1, [], vs a1), (2, [], vi a2), (3, [], vi (w64 ((if w64 ((a0.size : Int) + 1) < x3 then w64 ((a0.size : Int) + 1) else x3) - 1))), (9, [], .row 9 ((if w64 ((a0.size : Int) + 1) < x3 then w64 ((a0.size : Int) + 1) else x3).toNat) 0), (10, [], vi x32), (11, [], vi x39), (41, [], vb (decide (x39 < 0)))]) (by kernel_rfl) ?_
              refine qi (t := decide (x39 < 0)) (by kernel_rfl) (fun c => ?_) (fun c => ?_)
              · rw [if_pos (of_decide_eq_true c)] at H
                clear c
                refine qw [0, 9, 10] rfl ?_
                refine qx ?_
                exact ⟨x31, x32, x33, rfl, rfl, H⟩
              · rw [if_neg (of_decide_eq_false c)] at H
                clear c
                refine qw [0, 1, 2, 3, 9, 10, 11] rfl ?_
                refine qk ?_
                refine qs ?_
                refine qg ?_
                refine qm T_ok 6 (k := 6) (by kernel_rfl) (by kernel_rfl) (by kernel_rfl) ?_
                obtain ⟨x40, hx, H⟩ := bd H
                refine qy rfl (zu T_ok hx rfl (by kernel_rfl) (by kernel_rfl) rfl ⟨.i64, by kernel_rfl⟩) rfl (by kernel_rfl) rfl ?_
                clear hx
                obtain ⟨x41, hx, H⟩ := bd H
                refine qy rfl (yi T_ok (e := 9) (k := .i64) (n := x32) (j := 0) (ei := ti9) rfl (by kernel_rfl) (by kernel_rfl) (by kernel_rfl) (by kernel_rfl) (chk_of hx).1 (chk_of hx).2) rfl (by kernel_rfl) rfl ?_
                clear hx
                obtain ⟨x42, hx, H⟩ := bd H
                refine xW T_ok (j := 0) (n := 1) (iv := x32.toNat) (enc := eS) (xs := x33) (y' := x40) (ti := ti9) (s := (vs x40)) hx rfl rfl rfl rfl (by kernel_rfl) (by kernel_rfl) (by kernel_rfl) (by kernel_rfl) rfl (fun _ => rfl) (by kernel_rfl) ?_
                clear hx
                refine qz T_ok 0 [0, 1, 2, 3, 9, 10, 11] 1 (E2 := [(0, [], vs x31), (1, [], vs a1), (2, [], vi a2), (3, [], vi (w64 ((if w64 ((a0.size : Int) + 1) < x3 then w64 ((a0.size : Int) + 1) else x3) - 1))), (9, [], .row 9 ((if w64 ((a0.size : Int) + 1) < x3 then w64 ((a0.size : Int) + 1) else x3).toNat) 0), (10, [], vi x32), (11, [], vi x39)]) (h1 := [.cells (rowC eS x42)]) (by kernel_rfl) (by kernel_rfl) (by kernel_rfl) (by simp [gcO, lowO, noMark, lowL, ids_rowC, SV.idsL, SV.ids, Nat.blt]) (by kernel_rfl) ?_
                refine qs ?_
                refine qg ?_
                refine qm T_ok 5 (k := 5) (by kernel_rfl) (by kernel_rfl) (by kernel_rfl) ?_
                obtain ⟨x43, hx, H⟩ := bd H
                refine qy rfl (zu T_ok hx rfl (by kernel_rfl) (by kernel_rfl) ⟨.i64, by kernel_rfl⟩ rfl) rfl (by kernel_rfl) rfl ?_
                clear hx
                refine qz T_ok 1 [0, 1, 2, 3, 9, 10] 1 (E2 := [(0, [], vs x43), (1, [], vs a1), (2, [], vi a2), (3, [], vi (w64 ((if w64 ((a0.size : Int) + 1) < x3 then w64 ((a0.size : Int) + 1) else x3) - 1))), (9, [], .row 9 ((if w64 ((a0.size : Int) + 1) < x3 then w64 ((a0.size : Int) + 1) else x3).toNat) 0), (10, [], vi x32)]) (h1 := [.cells (rowC eS x42)]) (by kernel_rfl) (by kernel_rfl) (by kernel_rfl) (by simp [gcO, lowO, noMark, lowL, ids_rowC, SV.idsL, SV.ids, Nat.blt]) (by kernel_rfl) ?_
                refine qr T_ok [0, 1, 2, 3, 9, 10] (E2 := [(0, [], vs x43), (1, [], vs a1), (2, [], vi a2), (3, [], vi (w64 ((if w64 ((a0.size : Int) + 1) < x3 then w64 ((a0.size : Int) + 1) else x3) - 1))), (9, [], .row 9 ((if w64 ((a0.size : Int) + 1) < x3 then w64 ((a0.size : Int) + 1) else x3).toNat) 0), (10, [], vi (w64 (x32 + 1)))]) (by kernel_rfl) ?_
                exact ⟨_, Nat.lt_succ_self _, x43, w64 (x32 + 1), x42, rfl, rfl, H⟩
            · rw [if_neg (of_decide_eq_false c)] at H
              clear c
              refine qw [0, 9, 10] rfl ?_
              refine qx ?_
              exact ⟨x31, x32, x33, rfl, rfl, H⟩
        · clear H
          rintro E h ⟨x23, x24, x25, rfl, rfl, H⟩
          subst hj
          dsimp only at H
          refine qs ?_
          refine qg ?_
          refine qm T_ok 3 (k := 3) (by kernel_rfl) (by kernel_rfl) (by kernel_rfl) ?_
          obtain ⟨x44, hx, H⟩ := bd H
          refine qy rfl (yi T_ok (e := 9) (k := .i64) (n := x24) (j := 0) (ei := ti9) rfl (by kernel_rfl) (by kernel_rfl) (by kernel_rfl) (by kernel_rfl) (chk_of hx).1 (chk_of hx).2) rfl (by kernel_rfl) rfl ?_
          clear hx
          obtain ⟨x45, hx, H⟩ := bd H
          refine xW T_ok (j := 0) (n := 1) (iv := x24.toNat) (enc := eS) (xs := x25) (y' := x23) (ti := ti9) (s := (vs x23)) hx rfl rfl rfl rfl (by kernel_rfl) (by kernel_rfl) (by kernel_rfl) (by kernel_rfl) rfl (fun _ => rfl) (by kernel_rfl) ?_
          clear hx
          refine qz T_ok 0 [9, 10] 1 (E2 := [(9, [], .row 9 ((if w64 ((a0.size : Int) + 1) < x3 then w64 ((a0.size : Int) + 1) else x3).toNat) 0), (10, [], vi x24)]) (h1 := [.cells (rowC eS x45)]) (by kernel_rfl) (by kernel_rfl) (by kernel_rfl) (by simp [gcO, lowO, noMark, lowL, ids_rowC, SV.idsL, SV.ids, Nat.blt]) (by kernel_rfl) ?_
          refine qs ?_
          obtain ⟨u_, hx, H⟩ := bd H
          refine qfz (t := 9) (e := 9) (len := ((if w64 ((a0.size : Int) + 1) < x3 then w64 ((a0.size : Int) + 1) else x3).toNat)) (j := 0) (n := 1) (enc := eS) (xs := x45) [10] (by kernel_rfl) (by kernel_rfl) (fun _ => rfl) (ln_of hx) rfl (by kernel_rfl) (by kernel_rfl) ?_
          clear hx
          refine qg ?_
          refine qm T_ok 3 (k := 3) (by kernel_rfl) (by kernel_rfl) (by kernel_rfl) ?_
          obtain ⟨x46, hx, H⟩ := bd H
          refine qy rfl (zt T_ok (enc := eS) (l := x45) (e := 9) (n := 1) (ei := ti9) (sa := (.p (.sl 1 ByteArray eS x45))) hx rfl (by kernel_rfl) (by kernel_rfl) rfl (by kernel_rfl) (by kernel_rfl) rfl ⟨.i64, by kernel_rfl⟩) rfl (by kernel_rfl) rfl ?_
          clear hx
          refine qz T_ok 1 [8] 0 (E2 := [(8, [], .p (.sl 1 ByteArray eS x46))]) (h1 := []) (by kernel_rfl) (by kernel_rfl) (by kernel_rfl) (by kernel_rfl) (by kernel_rfl) ?_
          refine qt ?_
          obtain rfl := Option.some.inj H
          exact ⟨.p (.sl 1 ByteArray eS x46), by kernel_rfl, rfl⟩
/-! ### strings.Split: function 47 -/
def strings_Split.f (k : Nat) (a0 : ByteArray) (a1 : ByteArray) : Option (List ByteArray) := ((strings_genSplit.f k a0 a1 0 (-1)).bind fun x1 => some x1)
theorem strings_Split.ok (k : Nat) (a0 : ByteArray) (a1 : ByteArray) (r : List ByteArray) (H : strings_Split.f k a0 a1 = some r) : PF Tryd.prog 47 [vs a0, vs a1] (.p (.sl 1 ByteArray eS r)) := by
  refine PF_mk T_ok Tryd.func47 rfl (by kernel_rfl) (by kernel_rfl) ?_
  unfold strings_Split.f at H
  refine qs ?_
  refine qr T_ok [0, 1] (E2 := [(0, [], vs a0), (1, [], vs a1)]) (by kernel_rfl) ?_
  refine qs ?_
  refine qg ?_
  refine qm T_ok 2 (k := 2) (by kernel_rfl) (by kernel_rfl) (by kernel_rfl) ?_
  obtain ⟨x1, hx, H⟩ := bd H
  refine qy rfl (zc (T := T) (strings_genSplit.ok k a0 a1 0 (-1) _ hx) Tryd.func75 rfl rfl (caps := []) (by kernel_rfl) (by kernel_rfl) (by kernel_rfl) (by kernel_rfl) (by kernel_rfl) (by kernel_rfl)) rfl (by kernel_rfl) rfl ?_
  clear hx
  refine qz T_ok 1 [4] 0 (E2 := [(4, [], .p (.sl 1 ByteArray eS x1))]) (h1 := []) (by kernel_rfl) (by kernel_rfl) (by kernel_rfl) (by kernel_rfl) (by kernel_rfl) ?_
  refine qt ?_
  obtain rfl := Option.some.inj H
  exact ⟨.p (.sl 1 ByteArray eS x1), by kernel_rfl, rfl⟩
/-! ### quitclaim/path.Parts: function 17 -/
def path_Parts.f (k : Nat) (a0 : ByteArray) : Option (List ByteArray) := ((path_Right.f k a0).bind fun x1 => (if (!x1) = true then some [] else ((strings_Split.f k a0 ⟨#[47]⟩).bind fun x2 => some x2)))
theorem path_Parts.ok (k : Nat) (a0 : ByteArray) (r : List ByteArray) (H : path_Parts.f k a0 = some r) : PF Tryd.prog 17 [vs a0] (.p (.sl 1 ByteArray eS r)) := by
  refine PF_mk T_ok Tryd.func17 rfl (by kernel_rfl) (by kernel_rfl) ?_
  unfold path_Parts.f at H
  refine qs ?_
  refine qr T_ok [0] (E2 := [(0, [], vs a0)]) (by kernel_rfl) ?_
  refine qs ?_
  refine qs ?_
  refine qg ?_
  refine qm T_ok 1 (k := 1) (by kernel_rfl) (by kernel_rfl) (by kernel_rfl) ?_
  obtain ⟨x1, hx, H⟩ := bd H
  refine qy rfl (zc (T := T) (path_Right.ok k a0 _ hx) Tryd.func13 rfl rfl (caps := []) (by kernel_rfl) (by kernel_rfl) (by kernel_rfl) (by kernel_rfl) (by kernel_rfl) (by kernel_rfl)) rfl (by kernel_rfl) rfl ?_
  clear hx
  refine qz T_ok 1 [0, 5] 0 (E2 := [(0, [], vs a0), (5, [], vb (!x1))]) (h1 := []) (by kernel_rfl) (by kernel_rfl) (by kernel_rfl) (by kernel_rfl) (by kernel_rfl) ?_
  refine qi (t := !x1) (by kernel_rfl) (fun c => ?_) (fun c => ?_)
  · rw [if_pos c] at H
    clear c
    refine qs ?_
    refine qr T_ok [2] (E2 := [(2, [], .p (.sl 1 ByteArray eS []))]) (by kernel_rfl) ?_
    refine qt ?_
    obtain rfl := Option.some.inj H
    exact ⟨.p (.sl 1 ByteArray eS []), by kernel_rfl, rfl⟩
  · rw [if_neg (by rw [c]; exact Bool.false_ne_true)] at H
    clear c
    refine qw [0] rfl ?_
    refine qk ?_
    refine qs ?_
    refine qg ?_
    refine qm T_ok 1 (k := 1) (by kernel_rfl) (by kernel_rfl) (by kernel_rfl) ?_
    obtain ⟨x2, hx, H⟩ := bd H
    refine qy rfl (zc (T := T) (strings_Split.ok k a0 ⟨#[47]⟩ _ hx) Tryd.func47 rfl rfl (caps := []) (by kernel_rfl) (by kernel_rfl) (by kernel_rfl) (by kernel_rfl) (by kernel_rfl) (by kernel_rfl)) rfl (by kernel_rfl) rfl ?_
    clear hx
    refine qz T_ok 1 [2] 0 (E2 := [(2, [], .p (.sl 1 ByteArray eS x2))]) (h1 := []) (by kernel_rfl) (by kernel_rfl) (by kernel_rfl) (by kernel_rfl) (by kernel_rfl) ?_
    refine qt ?_
    obtain rfl := Option.some.inj H
    exact ⟨.p (.sl 1 ByteArray eS x2), by kernel_rfl, rfl⟩
/-! ### internal/bytealg.LastIndexByteString: function 108 -/
def internal_bytealg_LastIndexByteString.l0 (a0 : ByteArray) (a1 : Int) : Nat → Int → Option Int
  | 0, _ => none
  | k + 1, x2 => (if x2 ≥ 0 then ((bx a0 x2).bind fun x4 => (if x4 = a1 then some x2 else internal_bytealg_LastIndexByteString.l0 a0 a1 k (w64 (x2 - 1)))) else some (-1))
def internal_bytealg_LastIndexByteString.f (k : Nat) (a0 : ByteArray) (a1 : Int) : Option Int := internal_bytealg_LastIndexByteString.l0 a0 a1 k (w64 ((a0.size : Int) - 1))
theorem internal_bytealg_LastIndexByteString.ok (k : Nat) (a0 : ByteArray) (a1 : Int) (r : Int) (H : internal_bytealg_LastIndexByteString.f k a0 a1 = some r) : PF Tryd.prog 108 [vs a0, v8 a1] (vi r) := by
  refine PF_mk T_ok Tryd.func108 rfl (by kernel_rfl) (by kernel_rfl) ?_
  unfold internal_bytealg_LastIndexByteString.f at H
  refine qs ?_
  refine qr T_ok [0, 1] (E2 := [(0, [], vs a0), (1, [], v8 a1)]) (by kernel_rfl) ?_
  refine qs ?_
  refine qs ?_
  refine qr T_ok [0, 1, 5] (E2 := [(0, [], vs a0), (1, [], v8 a1), (5, [], vi (w64 ((a0.size : Int) - 1)))]) (by kernel_rfl) ?_
  refine qb ?_
  refine qp (fun k E h => ∃ x2 : Int, E = [(0, [], vs a0), (1, [], v8 a1), (5, [], vi x2)] ∧ h = [] ∧ internal_bytealg_LastIndexByteString.l0 a0 a1 k x2 = some r) k ⟨w64 ((a0.size : Int) - 1), rfl, rfl, H⟩ ?_
  clear H
  rintro k E h ⟨x2, rfl, rfl, H⟩
  cases k with
  | zero => exact nomatch (show none = some r from H)
  | succ k =>
    rw [internal_bytealg_LastIndexByteString.l0] at H
    refine qs ?_
    refine qs ?_
    refine qr T_ok [0, 1, 5, 10] (E2 := [(0, [], vs a0), (1, [], v8 a1), (5, [], vi x2), (10, [], vb (decide (x2 ≥ 0)))]) (by kernel_rfl) ?_
    refine qi (t := decide (x2 ≥ 0)) (by kernel_rfl) (fun c => ?_) (fun c => ?_)
    · rw [if_pos (of_decide_eq_true c)] at H
      clear c
      refine qw [0, 1, 5] rfl ?_
      refine qk ?_
      refine qs ?_
      refine qb ?_
      refine qs ?_
      refine qg ?_
      refine qm T_ok 2 (k := 2) (by kernel_rfl) (by kernel_rfl) (by kernel_rfl) ?_
      obtain ⟨x4, hx, H⟩ := bd H
      refine qy rfl (zb T_ok .i64 hx rfl (by kernel_rfl) (by kernel_rfl) (by kernel_rfl)) rfl (by kernel_rfl) rfl ?_
      clear hx
      refine qz T_ok 2 [0, 1, 5, 17] 0 (E2 := [(0, [], vs a0), (1, [], v8 a1), (5, [], vi x2), (17, [], vb (decide (x4 = a1)))]) (h1 := []) (by kernel_rfl) (by kernel_rfl) (by kernel_rfl) (by kernel_rfl) (by kernel_rfl) ?_
      refine qi (t := decide (x4 = a1)) (by kernel_rfl) (fun c => ?_) (fun c => ?_)
      · rw [if_pos (of_decide_eq_true c)] at H
        clear c
        refine qs ?_
        refine qr T_ok [4] (E2 := [(4, [], vi x2)]) (by kernel_rfl) ?_
        refine qt ?_
        obtain rfl := Option.some.inj H
        exact ⟨vi x2, by kernel_rfl, rfl⟩
      · rw [if_neg (of_decide_eq_false c)] at H
        clear c
        refine qw [0, 1, 5] rfl ?_
        refine qk ?_
        refine qr T_ok [0, 1, 5] (E2 := [(0, [], vs a0), (1, [], v8 a1), (5, [], vi (w64 (x2 - 1)))]) (by kernel_rfl) ?_
        exact ⟨_, Nat.lt_succ_self _, w64 (x2 - 1), rfl, rfl, H⟩
    · rw [if_neg (of_decide_eq_false c)] at H
      clear c
      refine qw [] rfl ?_
      refine qx ?_
      refine qs ?_
      refine qr T_ok [4] (E2 := [(4, [], vi (-1))]) (by kernel_rfl) ?_
      refine qt ?_
      obtain rfl := Option.some.inj H
      exact ⟨vi (-1), by kernel_rfl, rfl⟩
/-! ### strings.LastIndexByte: function 76 -/
def strings_LastIndexByte.f (k : Nat) (a0 : ByteArray) (a1 : Int) : Option Int := ((internal_bytealg_LastIndexByteString.f k a0 a1).bind fun x1 => some x1)
theorem strings_LastIndexByte.ok (k : Nat) (a0 : ByteArray) (a1 : Int) (r : Int) (H : strings_LastIndexByte.f k a0 a1 = some r) : PF Tryd.prog 76 [vs a0, v8 a1] (vi r) := by
  refine PF_mk T_ok Tryd.func76 rfl (by kernel_rfl) (by kernel_rfl) ?_
  unfold strings_LastIndexByte.f at H
  refine qs ?_
  refine qr T_ok [0, 1] (E2 := [(0, [], vs a0), (1, [], v8 a1)]) (by kernel_rfl) ?_
  refine qs ?_
  refine qg ?_
  refine qm T_ok 2 (k := 2) (by kernel_rfl) (by kernel_rfl) (by kernel_rfl) ?_
  obtain ⟨x1, hx, H⟩ := bd H
  refine qy rfl (zc (T := T) (internal_bytealg_LastIndexByteString.ok k a0 a1 _ hx) Tryd.func108 rfl rfl (caps := []) (by kernel_rfl) (by kernel_rfl) (by kernel_rfl) (by kernel_rfl) (by kernel_rfl) (by kernel_rfl)) rfl (by kernel_rfl) rfl ?_
  clear hx
  refine qz T_ok 1 [4] 0 (E2 := [(4, [], vi x1)]) (h1 := []) (by kernel_rfl) (by kernel_rfl) (by kernel_rfl) (by kernel_rfl) (by kernel_rfl) ?_
  refine qt ?_
  obtain rfl := Option.some.inj H
  exact ⟨vi x1, by kernel_rfl, rfl⟩
/-! ### quitclaim/path.cut: function 48 -/
def path_cut.f (k : Nat) (a0 : ByteArray) : Option (ByteArray × ByteArray) := ((path_Right.f k a0).bind fun x1 => (if (!x1) = true then some (⟨#[]⟩, ⟨#[]⟩) else ((strings_LastIndexByte.f k a0 47).bind fun x2 => ((sub a0 0 (if 0 > x2 then 0 else x2)).bind fun x3 => ((sub a0 (w64 (x2 + 1)) (a0.size : Int)).bind fun x4 => some (x3, x4))))))
theorem path_cut.ok (k : Nat) (a0 : ByteArray) (r : ByteArray × ByteArray) (H : path_cut.f k a0 = some r) : PF Tryd.prog 48 [vs a0] (.tup [vs r.1, vs r.2]) := by
  refine PF_mk T_ok Tryd.func48 rfl (by kernel_rfl) (by kernel_rfl) ?_
  unfold path_cut.f at H
  refine qs ?_
  refine qr T_ok [0] (E2 := [(0, [], vs a0)]) (by kernel_rfl) ?_
  refine qs ?_
  refine qs ?_
  refine qg ?_
  refine qm T_ok 1 (k := 1) (by kernel_rfl) (by kernel_rfl) (by kernel_rfl) ?_
  obtain ⟨x1, hx, H⟩ := bd H
  refine qy rfl (zc (T := T) (path_Right.ok k a0 _ hx) Tryd.func13 rfl rfl (caps := []) (by kernel_rfl) (by kernel_rfl) (by kernel_rfl) (by kernel_rfl) (by kernel_rfl) (by kernel_rfl)) rfl (by kernel_rfl) rfl ?_
  clear hx
  refine qz T_ok 1 [0, 7] 0 (E2 := [(0, [], vs a0), (7, [], vb (!x1))]) (h1 := []) (by kernel_rfl) (by kernel_rfl) (by kernel_rfl) (by kernel_rfl) (by kernel_rfl) ?_
  refine qi (t := !x1) (by kernel_rfl) (fun c => ?_) (fun c => ?_)
  · rw [if_pos c] at H
    clear c
    refine qs ?_
    refine qr T_ok [2, 3] (E2 := [(2, [], vs ⟨#[]⟩), (3, [], vs ⟨#[]⟩)]) (by kernel_rfl) ?_
    refine qt ?_
    obtain rfl := Option.some.inj H
    exact ⟨.tup [vs ⟨#[]⟩, vs ⟨#[]⟩], by kernel_rfl, rfl⟩
  · rw [if_neg (by rw [c]; exact Bool.false_ne_true)] at H
    clear c
    refine qw [0] rfl ?_
    refine qk ?_
    refine qs ?_
    refine qg ?_
    refine qm T_ok 1 (k := 1) (by kernel_rfl) (by kernel_rfl) (by kernel_rfl) ?_
    obtain ⟨x2, hx, H⟩ := bd H
    refine qy rfl (zc (T := T) (strings_LastIndexByte.ok k a0 47 _ hx) Tryd.func76 rfl rfl (caps := []) (by kernel_rfl) (by kernel_rfl) (by kernel_rfl) (by kernel_rfl) (by kernel_rfl) (by kernel_rfl)) rfl (by kernel_rfl) rfl ?_
    clear hx
    refine qz T_ok 1 [0, 4] 0 (E2 := [(0, [], vs a0), (4, [], vi x2)]) (h1 := []) (by kernel_rfl) (by kernel_rfl) (by kernel_rfl) (by kernel_rfl) (by kernel_rfl) ?_
    refine qs ?_
    refine qd (by kernel_rfl) 10 (by kernel_rfl) (by kernel_rfl) (by kernel_rfl) (by kernel_rfl) (by kernel_rfl) ?_
    refine dm T_ok 3 (k := 3) (by kernel_rfl) (by kernel_rfl) ?_
    obtain ⟨x3, hx, H⟩ := bd H
    refine dy rfl (zu T_ok hx rfl (by kernel_rfl) (by kernel_rfl) rfl ⟨.i64, by kernel_rfl⟩) rfl (by kernel_rfl) rfl ?_
    clear hx
    refine dm T_ok 3 (k := 7) (by kernel_rfl) (by kernel_rfl) ?_
    obtain ⟨x4, hx, H⟩ := bd H
    refine dy rfl (zu T_ok hx rfl (by kernel_rfl) (by kernel_rfl) ⟨.i64, by kernel_rfl⟩ rfl) rfl (by kernel_rfl) rfl ?_
    clear hx
    refine dm T_ok 2 (k := 10) (by kernel_rfl) (by kernel_rfl) ?_
    refine dn ?_
    refine qz T_ok 0 [2, 3] 0 (E2 := [(2, [], vs x3), (3, [], vs x4)]) (h1 := []) (by kernel_rfl) (by kernel_rfl) (by kernel_rfl) (by kernel_rfl) (by kernel_rfl) ?_
    refine qt ?_
    obtain rfl := Option.some.inj H
    exact ⟨.tup [vs x3, vs x4], by kernel_rfl, rfl⟩
/-! ### quitclaim/path.Above: function 18 -/
def path_Above.f (k : Nat) (a0 : ByteArray) : Option ByteArray := ((path_cut.f k a0).bind fun x1 => some x1.1)
theorem path_Above.ok (k : Nat) (a0 : ByteArray) (r : ByteArray) (H : path_Above.f k a0 = some r) : PF Tryd.prog 18 [vs a0] (vs r) := by
  refine PF_mk T_ok Tryd.func18 rfl (by kernel_rfl) (by kernel_rfl) ?_
  unfold path_Above.f at H
  refine qs ?_
  refine qr T_ok [0] (E2 := [(0, [], vs a0)]) (by kernel_rfl) ?_
  refine qs ?_
  refine qg ?_
  refine qm T_ok 1 (k := 1) (by kernel_rfl) (by kernel_rfl) (by kernel_rfl) ?_
  obtain ⟨x1, hx, H⟩ := bd H
  refine qy rfl (zc (T := T) (path_cut.ok k a0 _ hx) Tryd.func48 rfl rfl (caps := []) (by kernel_rfl) (by kernel_rfl) (by kernel_rfl) (by kernel_rfl) (by kernel_rfl) (by kernel_rfl)) rfl (by kernel_rfl) rfl ?_
  clear hx
  refine qz T_ok 5 [3] 0 (E2 := [(3, [], vs x1.1)]) (h1 := []) (by kernel_rfl) (by kernel_rfl) (by kernel_rfl) (by kernel_rfl) (by kernel_rfl) ?_
  refine qs ?_
  refine qr T_ok [2] (E2 := [(2, [], vs x1.1)]) (by kernel_rfl) ?_
  refine qt ?_
  obtain rfl := Option.some.inj H
  exact ⟨vs x1.1, by kernel_rfl, rfl⟩
/-! ### quitclaim/path.Last: function 19 -/
def path_Last.f (k : Nat) (a0 : ByteArray) : Option ByteArray := ((path_cut.f k a0).bind fun x1 => some x1.2)
theorem path_Last.ok (k : Nat) (a0 : ByteArray) (r : ByteArray) (H : path_Last.f k a0 = some r) : PF Tryd.prog 19 [vs a0] (vs r) := by
  refine PF_mk T_ok Tryd.func19 rfl (by kernel_rfl) (by kernel_rfl) ?_
  unfold path_Last.f at H
  refine qs ?_
  refine qr T_ok [0] (E2 := [(0, [], vs a0)]) (by kernel_rfl) ?_
  refine qs ?_
  refine qg ?_
  refine qm T_ok 1 (k := 1) (by kernel_rfl) (by kernel_rfl) (by kernel_rfl) ?_
  obtain ⟨x1, hx, H⟩ := bd H
  refine qy rfl (zc (T := T) (path_cut.ok k a0 _ hx) Tryd.func48 rfl rfl (caps := []) (by kernel_rfl) (by kernel_rfl) (by kernel_rfl) (by kernel_rfl) (by kernel_rfl) (by kernel_rfl)) rfl (by kernel_rfl) rfl ?_
  clear hx
  refine qz T_ok 5 [4] 0 (E2 := [(4, [], vs x1.2)]) (h1 := []) (by kernel_rfl) (by kernel_rfl) (by kernel_rfl) (by kernel_rfl) (by kernel_rfl) ?_
  refine qs ?_
  refine qr T_ok [2] (E2 := [(2, [], vs x1.2)]) (by kernel_rfl) ?_
  refine qt ?_
  obtain rfl := Option.some.inj H
  exact ⟨vs x1.2, by kernel_rfl, rfl⟩
/-! ### quitclaim/quitclaimref05.Same: function 21 -/
def quitclaimref05_Same.l0 (a0 : List ByteArray) (a1 : List ByteArray) : Nat → Int → Option Bool
  | 0, _ => none
  | k + 1, x3 => (if x3 < (a0.length : Int) then ((ix a0 x3).bind fun x6 => ((ix a1 x3).bind fun x7 => (if (!decide (x6 = x7)) = true then some false else quitclaimref05_Same.l0 a0 a1 k (w64 (x3 + 1))))) else some true)
def quitclaimref05_Same.f (k : Nat) (a0 : List ByteArray) (a1 : List ByteArray) : Option Bool := (if (!decide ((a0.length : Int) = (a1.length : Int))) = true then some false else quitclaimref05_Same.l0 a0 a1 k 0)
theorem quitclaimref05_Same.ok (k : Nat) (a0 : List ByteArray) (a1 : List ByteArray) (r : Bool) (H : quitclaimref05_Same.f k a0 a1 = some r) : PF Tryd.prog 21 [.p (.sl 1 ByteArray eS a0), .p (.sl 1 ByteArray eS a1)] (vb r) := by
  refine PF_mk T_ok Tryd.func21 rfl (by kernel_rfl) (by kernel_rfl) ?_
  unfold quitclaimref05_Same.f at H
  refine qs ?_
  refine qr T_ok [0, 1] (E2 := [(0, [], .p (.sl 1 ByteArray eS a0)), (1, [], .p (.sl 1 ByteArray eS a1))]) (by kernel_rfl) ?_
  refine qs ?_
  refine qs ?_
  refine qr T_ok [0, 1, 10] (E2 := [(0, [], .p (.sl 1 ByteArray eS a0)), (1, [], .p (.sl 1 ByteArray eS a1)), (10, [], vb (!decide ((a0.length : Int) = (a1.length : Int))))]) (by kernel_rfl) ?_
  refine qi (t := !decide ((a0.length : Int) = (a1.length : Int))) (by kernel_rfl) (fun c => ?_) (fun c => ?_)
  · rw [if_pos c] at H
    clear c
    refine qs ?_
    refine qr T_ok [4] (E2 := [(4, [], vb false)]) (by kernel_rfl) ?_
    refine qt ?_
    obtain rfl := Option.some.inj H
    exact ⟨vb false, by kernel_rfl, rfl⟩
  · rw [if_neg (by rw [c]; exact Bool.false_ne_true)] at H
    clear c
    refine qw [0, 1] rfl ?_
    refine qk ?_
    refine qs ?_
    refine qs ?_
    refine qr T_ok [0, 1, 5] (E2 := [(0, [], .p (.sl 1 ByteArray eS a0)), (1, [], .p (.sl 1 ByteArray eS a1)), (5, [], vi 0)]) (by kernel_rfl) ?_
    refine qb ?_
    refine qp (fun k E h => ∃ x3 : Int, E = [(0, [], .p (.sl 1 ByteArray eS a0)), (1, [], .p (.sl 1 ByteArray eS a1)), (5, [], vi x3)] ∧ h = [] ∧ quitclaimref05_Same.l0 a0 a1 k x3 = some r) k ⟨0, rfl, rfl, H⟩ ?_
    clear H
    rintro k E h ⟨x3, rfl, rfl, H⟩
    cases k with
    | zero => exact nomatch (show none = some r from H)
    | succ k =>
      rw [quitclaimref05_Same.l0] at H
      refine qs ?_
      refine qs ?_
      refine qr T_ok [0, 1, 5, 14] (E2 := [(0, [], .p (.sl 1 ByteArray eS a0)), (1, [], .p (.sl 1 ByteArray eS a1)), (5, [], vi x3), (14, [], vb (decide (x3 < (a0.length : Int))))]) (by kernel_rfl) ?_
      refine qi (t := decide (x3 < (a0.length : Int))) (by kernel_rfl) (fun c => ?_) (fun c => ?_)
      · rw [if_pos (of_decide_eq_true c)] at H
        clear c
        refine qw [0, 1, 5] rfl ?_
        refine qk ?_
        refine qs ?_
        refine qb ?_
        refine qs ?_
        refine qd (by kernel_rfl) 9 (by kernel_rfl) (by kernel_rfl) (by kernel_rfl) (by kernel_rfl) (by kernel_rfl) ?_
        refine dm T_ok 2 (k := 2) (by kernel_rfl) (by kernel_rfl) ?_
        obtain ⟨x6, hx, H⟩ := bd H
        refine dy rfl (zi T_ok .i64 (enc := eS) (l := a0) (e := 9) (n := 1) (ei := ti9) (sa := (.p (.sl 1 ByteArray eS a0))) hx rfl (by kernel_rfl) (by kernel_rfl) rfl (by kernel_rfl) (by kernel_rfl) (by kernel_rfl)) rfl (by kernel_rfl) rfl ?_
        clear hx
        refine dm T_ok 3 (k := 6) (by kernel_rfl) (by kernel_rfl) ?_
        obtain ⟨x7, hx, H⟩ := bd H
        refine dy rfl (zi T_ok .i64 (enc := eS) (l := a1) (e := 9) (n := 1) (ei := ti9) (sa := (.p (.sl 1 ByteArray eS a1))) hx rfl (by kernel_rfl) (by kernel_rfl) rfl (by kernel_rfl) (by kernel_rfl) (by kernel_rfl)) rfl (by kernel_rfl) rfl ?_
        clear hx
        refine dm T_ok 2 (k := 9) (by kernel_rfl) (by kernel_rfl) ?_
        refine dn ?_
        refine qz T_ok 0 [0, 1, 5, 25] 0 (E2 := [(0, [], .p (.sl 1 ByteArray eS a0)), (1, [], .p (.sl 1 ByteArray eS a1)), (5, [], vi x3), (25, [], vb (!decide (x6 = x7)))]) (h1 := []) (by kernel_rfl) (by kernel_rfl) (by kernel_rfl) (by kernel_rfl) (by kernel_rfl) ?_
        refine qi (t := !decide (x6 = x7)) (by kernel_rfl) (fun c => ?_) (fun c => ?_)
        · rw [if_pos c] at H
          clear c
          refine qs ?_
          refine qr T_ok [4] (E2 := [(4, [], vb false)]) (by kernel_rfl) ?_
          refine qt ?_
          obtain rfl := Option.some.inj H
          exact ⟨vb false, by kernel_rfl, rfl⟩
        · rw [if_neg (by rw [c]; exact Bool.false_ne_true)] at H
          clear c
          refine qw [0, 1, 5] rfl ?_
          refine qk ?_
          refine qr T_ok [0, 1, 5] (E2 := [(0, [], .p (.sl 1 ByteArray eS a0)), (1, [], .p (.sl 1 ByteArray eS a1)), (5, [], vi (w64 (x3 + 1)))]) (by kernel_rfl) ?_
          exact ⟨_, Nat.lt_succ_self _, w64 (x3 + 1), rfl, rfl, H⟩
      · rw [if_neg (of_decide_eq_false c)] at H
        clear c
        refine qw [] rfl ?_
        refine qx ?_
        refine qs ?_
        refine qr T_ok [4] (E2 := [(4, [], vb true)]) (by kernel_rfl) ?_
        refine qt ?_
        obtain rfl := Option.some.inj H
        exact ⟨vb true, by kernel_rfl, rfl⟩
/-! ### quitclaim/quitclaimref10.Join: function 22 -/
def quitclaimref10_Join.l0 (a0 : List ByteArray) : Nat → ByteArray → Int → Option ByteArray
  | 0, _, _ => none
  | k + 1, x6, x7 => (if x7 < (a0.length : Int) then (jn (fun (x14 : ByteArray) => ((ix a0 x7).bind fun x16 => ((cat x14 x16).bind fun x17 => quitclaimref10_Join.l0 a0 k x17 (w64 (x7 + 1))))) fun j2 => (if x7 > 0 then ((cat x6 (⟨#[47]⟩ : ByteArray)).bind fun x15 => j2 x15) else j2 x6)) else some x6)
def quitclaimref10_Join.f (k : Nat) (a0 : List ByteArray) : Option ByteArray := quitclaimref10_Join.l0 a0 k ⟨#[]⟩ 0
theorem quitclaimref10_Join.ok (k : Nat) (a0 : List ByteArray) (r : ByteArray) (H : quitclaimref10_Join.f k a0 = some r) : PF Tryd.prog 22 [.p (.sl 1 ByteArray eS a0)] (vs r) := by
  refine PF_mk T_ok Tryd.func22 rfl (by kernel_rfl) (by kernel_rfl) ?_
  unfold quitclaimref10_Join.f at H
  refine qs ?_
  refine qr T_ok [0] (E2 := [(0, [], .p (.sl 1 ByteArray eS a0))]) (by kernel_rfl) ?_
  refine qs ?_
  refine qr T_ok [0, 3] (E2 := [(0, [], .p (.sl 1 ByteArray eS a0)), (3, [], vs ⟨#[]⟩)]) (by kernel_rfl) ?_
  refine qs ?_
  refine qs ?_
  refine qr T_ok [0, 3, 4] (E2 := [(0, [], .p (.sl 1 ByteArray eS a0)), (3, [], vs ⟨#[]⟩), (4, [], vi 0)]) (by kernel_rfl) ?_
  refine qb ?_
  refine qp (fun k E h => ∃ x6 : ByteArray, ∃ x7 : Int, E = [(0, [], .p (.sl 1 ByteArray eS a0)), (3, [], vs x6), (4, [], vi x7)] ∧ h = [] ∧ quitclaimref10_Join.l0 a0 k x6 x7 = some r) k ⟨⟨#[]⟩, 0, rfl, rfl, H⟩ ?_
  clear H
  rintro k E h ⟨x6, x7, rfl, rfl, H⟩
  cases k with
  | zero => exact nomatch (show none = some r from H)
  | succ k =>
    rw [quitclaimref10_Join.l0] at H
    refine qs ?_
    refine qs ?_
    refine qr T_ok [0, 3, 4, 8] (E2 := [(0, [], .p (.sl 1 ByteArray eS a0)), (3, [], vs x6), (4, [], vi x7), (8, [], vb (decide (x7 < (a0.length : Int))))]) (by kernel_rfl) ?_
    refine qi (t := decide (x7 < (a0.length : Int))) (by kernel_rfl) (fun c => ?_) (fun c => ?_)
    · rw [if_pos (of_decide_eq_true c)] at H
      clear c
      refine qw [0, 3, 4] rfl ?_
      refine qk ?_
      refine qs ?_
      refine qb ?_
      obtain ⟨j2, hj, H⟩ := jn_of H
      refine qc (fun E h => ∃ x14 : ByteArray, E = [(0, [], .p (.sl 1 ByteArray eS a0)), (3, [], vs x14), (4, [], vi x7)] ∧ h = [] ∧ j2 x14 = some r) ?_ ?_
      · clear hj
        refine qs ?_
        refine qr T_ok [0, 3, 4, 12] (E2 := [(0, [], .p (.sl 1 ByteArray eS a0)), (3, [], vs x6), (4, [], vi x7), (12, [], vb (decide (x7 > 0)))]) (by kernel_rfl) ?_
        refine qi (t := decide (x7 > 0)) (by kernel_rfl) (fun c => ?_) (fun c => ?_)
        · rw [if_pos (of_decide_eq_true c)] at H
          clear c
          refine qg ?_
          refine qm T_ok 1 (k := 1) (by kernel_rfl) (by kernel_rfl) (by kernel_rfl) ?_
          obtain ⟨x15, hx, H⟩ := bd H
          refine qy rfl (za hx rfl (by kernel_rfl) (by kernel_rfl)) rfl (by kernel_rfl) rfl ?_
          clear hx
          refine qz T_ok 1 [0, 3, 4] 0 (E2 := [(0, [], .p (.sl 1 ByteArray eS a0)), (3, [], vs x15), (4, [], vi x7)]) (h1 := []) (by kernel_rfl) (by kernel_rfl) (by kernel_rfl) (by kernel_rfl) (by kernel_rfl) ?_
          exact ⟨x15, rfl, rfl, H⟩
        · rw [if_neg (of_decide_eq_false c)] at H
          clear c
          refine qw [0, 3, 4] rfl ?_
          refine qk ?_
          exact ⟨x6, rfl, rfl, H⟩
      · clear H
        rintro E h ⟨x14, rfl, rfl, H⟩
        subst hj
        dsimp only at H
        refine qg ?_
        refine qm T_ok 3 (k := 3) (by kernel_rfl) (by kernel_rfl) (by kernel_rfl) ?_
        obtain ⟨x16, hx, H⟩ := bd H
        refine qy rfl (zi T_ok .i64 (enc := eS) (l := a0) (e := 9) (n := 1) (ei := ti9) (sa := (.p (.sl 1 ByteArray eS a0))) hx rfl (by kernel_rfl) (by kernel_rfl) rfl (by kernel_rfl) (by kernel_rfl) (by kernel_rfl)) rfl (by kernel_rfl) rfl ?_
        clear hx
        refine qm T_ok 1 (k := 5) (by kernel_rfl) (by kernel_rfl) (by kernel_rfl) ?_
        obtain ⟨x17, hx, H⟩ := bd H
        refine qy rfl (za hx rfl (by kernel_rfl) (by kernel_rfl)) rfl (by kernel_rfl) rfl ?_
        clear hx
        refine qz T_ok 1 [0, 3, 4] 0 (E2 := [(0, [], .p (.sl 1 ByteArray eS a0)), (3, [], vs x17), (4, [], vi x7)]) (h1 := []) (by kernel_rfl) (by kernel_rfl) (by kernel_rfl) (by kernel_rfl) (by kernel_rfl) ?_
        refine qr T_ok [0, 3, 4] (E2 := [(0, [], .p (.sl 1 ByteArray eS a0)), (3, [], vs x17), (4, [], vi (w64 (x7 + 1)))]) (by kernel_rfl) ?_
        exact ⟨_, Nat.lt_succ_self _, x17, w64 (x7 + 1), rfl, rfl, H⟩
    · rw [if_neg (of_decide_eq_false c)] at H
      clear c
      refine qw [3] rfl ?_
      refine qx ?_
      refine qs ?_
      refine qr T_ok [2] (E2 := [(2, [], vs x6)]) (by kernel_rfl) ?_
      refine qt ?_
      obtain rfl := Option.some.inj H
      exact ⟨vs x6, by kernel_rfl, rfl⟩
/-! ### quitclaim/quitclaimlaw10.PathTells: function 4 -/
def quitclaimlaw10_PathTells.f (k : Nat) (a0 : ByteArray) (a1 : ByteArray) : Option Bool := (if (decide ((a0.size : Int) > 600) || decide ((a1.size : Int) > 600)) = true then ((quitclaimlaw10_awake.f k).bind fun x1 => some x1) else ((quitclaimref10_Right.f k a0).bind fun x2 => ((quitclaimref10_Right.f k a1).bind fun x3 => ((path_Right.f k a0).bind fun x4 => ((gd (!(!(x4 == x2))) (path_Prefix.f k a0)).bind fun x5 => ((gd (!(!(x4 == x2) || !(x5 == (decide (a0 = ⟨#[]⟩) || x2)))) (path_Covers.f k a0 a1)).bind fun x6 => ((gd (!(!(x4 == x2) || !(x5 == (decide (a0 = ⟨#[]⟩) || x2)))) (gd ((decide (a0 = ⟨#[]⟩) || x2) && x3) (quitclaimref10_Covers.f a0 a1))).bind fun x7 => ((gd (!((!(x4 == x2) || !(x5 == (decide (a0 = ⟨#[]⟩) || x2))) || !(x6 == (((decide (a0 = ⟨#[]⟩) || x2) && x3) && x7)))) (path_Beside.f k a0 a1)).bind fun x8 => ((gd (!((!(x4 == x2) || !(x5 == (decide (a0 = ⟨#[]⟩) || x2))) || !(x6 == (((decide (a0 = ⟨#[]⟩) || x2) && x3) && x7)))) (gd (x2 && x3) (quitclaimref10_Covers.f a0 a1))).bind fun x9 => ((gd (!((!(x4 == x2) || !(x5 == (decide (a0 = ⟨#[]⟩) || x2))) || !(x6 == (((decide (a0 = ⟨#[]⟩) || x2) && x3) && x7)))) (gd ((x2 && x3) && !x9) (quitclaimref10_Covers.f a1 a0))).bind fun x10 => (if (((!(x4 == x2) || !(x5 == (decide (a0 = ⟨#[]⟩) || x2))) || !(x6 == (((decide (a0 = ⟨#[]⟩) || x2) && x3) && x7))) || !(x8 == (((x2 && x3) && !x9) && !x10))) = true then some false else ((path_Parts.f k a0).bind fun x11 => (if (!x2) = true then ((gd (decide ((x11.length : Int) = 0)) (path_Above.f k a0)).bind fun x12 => ((gd (decide ((x11.length : Int) = 0) && decide (x12 = ⟨#[]⟩)) (path_Last.f k a0)).bind fun x13 => ((gd ((decide ((x11.length : Int) = 0) && decide (x12 = ⟨#[]⟩)) && decide (x13 = ⟨#[]⟩)) (quitclaimlaw10_awake.f k)).bind fun x14 => some (((decide ((x11.length : Int) = 0) && decide (x12 = ⟨#[]⟩)) && decide (x13 = ⟨#[]⟩)) && x14)))) else ((quitclaimref10_Split.f k a0).bind fun x15 => ((quitclaimref05_Same.f k x11 x15).bind fun x16 => ((gd x16 (path_Last.f k a0)).bind fun x17 => ((gd x16 (ix x15 (w64 ((x15.length : Int) - 1)))).bind fun x18 => ((gd (x16 && decide (x17 = x18)) (path_Above.f k a0)).bind fun x19 => ((gd (x16 && decide (x17 = x18)) (cut x15 0 (w64 ((x15.length : Int) - 1)))).bind fun x20 => ((gd (x16 && decide (x17 = x18)) (quitclaimref10_Join.f k x20)).bind fun x21 => ((gd ((x16 && decide (x17 = x18)) && decide (x19 = x21)) (quitclaimlaw10_awake.f k)).bind fun x22 => some (((x16 && decide (x17 = x18)) && decide (x19 = x21)) && x22))))))))))))))))))))))
theorem quitclaimlaw10_PathTells.ok (k : Nat) (a0 : ByteArray) (a1 : ByteArray) (r : Bool) (H : quitclaimlaw10_PathTells.f k a0 a1 = some r) : PF Tryd.prog 4 [vs a0, vs a1] (vb r) := by
  refine PF_mk T_ok Tryd.func4 rfl (by kernel_rfl) (by kernel_rfl) ?_
  unfold quitclaimlaw10_PathTells.f at H
  refine qs ?_
  refine qr T_ok [0, 1] (E2 := [(0, [], vs a0), (1, [], vs a1)]) (by kernel_rfl) ?_
  refine qs ?_
  refine qs ?_
  refine qr T_ok [0, 1, 16] (E2 := [(0, [], vs a0), (1, [], vs a1), (16, [], vb (decide ((a0.size : Int) > 600) || decide ((a1.size : Int) > 600)))]) (by kernel_rfl) ?_
  refine qi (t := (decide ((a0.size : Int) > 600) || decide ((a1.size : Int) > 600))) (by kernel_rfl) (fun c => ?_) (fun c => ?_)
  · rw [if_pos c] at H
    clear c
    refine qs ?_
    refine qg ?_
    obtain ⟨x1, hx, H⟩ := bd H
    refine qy rfl (zc (T := T) (quitclaimlaw10_awake.ok k _ hx) Tryd.func9 rfl rfl (caps := []) (by kernel_rfl) (by kernel_rfl) (by kernel_rfl) (by kernel_rfl) (by kernel_rfl) (by kernel_rfl)) rfl (by kernel_rfl) rfl ?_
    clear hx
    refine qz T_ok 1 [4] 0 (E2 := [(4, [], vb x1)]) (h1 := []) (by kernel_rfl) (by kernel_rfl) (by kernel_rfl) (by kernel_rfl) (by kernel_rfl) ?_
    refine qt ?_
    obtain rfl := Option.some.inj H
    exact ⟨vb x1, by kernel_rfl, rfl⟩
  · rw [if_neg (by rw [c]; exact Bool.false_ne_true)] at H
    clear c
    refine qw [0, 1] rfl ?_
    refine qk ?_
    refine qs ?_
    refine qg ?_
    refine qm T_ok 1 (k := 1) (by kernel_rfl) (by kernel_rfl) (by kernel_rfl) ?_
    obtain ⟨x2, hx, H⟩ := bd H
    refine qy rfl (zc (T := T) (quitclaimref10_Right.ok k a0 _ hx) Tryd.func10 rfl rfl (caps := []) (by kernel_rfl) (by kernel_rfl) (by kernel_rfl) (by kernel_rfl) (by kernel_rfl) (by kernel_rfl)) rfl (by kernel_rfl) rfl ?_
    clear hx
    refine qm T_ok 1 (k := 3) (by kernel_rfl) (by kernel_rfl) (by kernel_rfl) ?_
    obtain ⟨x3, hx, H⟩ := bd H
    refine qy rfl (zc (T := T) (quitclaimref10_Right.ok k a1 _ hx) Tryd.func10 rfl rfl (caps := []) (by kernel_rfl) (by kernel_rfl) (by kernel_rfl) (by kernel_rfl) (by kernel_rfl) (by kernel_rfl)) rfl (by kernel_rfl) rfl ?_
    clear hx
    refine qz T_ok 2 [0, 1, 5, 6] 0 (E2 := [(0, [], vs a0), (1, [], vs a1), (5, [], vb x2), (6, [], vb x3)]) (h1 := []) (by kernel_rfl) (by kernel_rfl) (by kernel_rfl) (by kernel_rfl) (by kernel_rfl) ?_
    refine qs ?_
    refine qs ?_
    refine qg ?_
    refine qm T_ok 1 (k := 1) (by kernel_rfl) (by kernel_rfl) (by kernel_rfl) ?_
    obtain ⟨x4, hx, H⟩ := bd H
    refine qy rfl (zc (T := T) (path_Right.ok k a0 _ hx) Tryd.func13 rfl rfl (caps := []) (by kernel_rfl) (by kernel_rfl) (by kernel_rfl) (by kernel_rfl) (by kernel_rfl) (by kernel_rfl)) rfl (by kernel_rfl) rfl ?_
    clear hx
    refine qm T_ok 4 (k := 6) (by kernel_rfl) (by kernel_rfl) (by kernel_rfl) ?_
    obtain ⟨x5, hx, H⟩ := bd H
    refine qyg rfl (tg := []) (Yld.under (u := 26) (b := false) (t := !(x4 == x2)) (by kernel_rfl) (by simp) fun g0_ => (zc (T := T) (path_Prefix.ok k a0 _ (gd0 hx g0_)) Tryd.func14 rfl rfl (caps := []) (by kernel_rfl) (by kernel_rfl) (by kernel_rfl) (by kernel_rfl) (by kernel_rfl) (by kernel_rfl))) rfl rfl (by kernel_rfl) (by kernel_rfl) rfl ?_
    clear hx
    refine qm T_ok 10 (k := 17) (by kernel_rfl) (by kernel_rfl) (by kernel_rfl) ?_
    obtain ⟨x6, hx, H⟩ := bd H
    refine qyg rfl (tg := []) (Yld.under (u := 36) (b := false) (t := (!(x4 == x2) || !(x5 == (decide (a0 = ⟨#[]⟩) || x2)))) (by kernel_rfl) (by simp) fun g0_ => (zc (T := T) (path_Covers.ok k a0 a1 _ (gd0 hx g0_)) Tryd.func15 rfl rfl (caps := []) (by kernel_rfl) (by kernel_rfl) (by kernel_rfl) (by kernel_rfl) (by kernel_rfl) (by kernel_rfl))) rfl rfl (by kernel_rfl) (by kernel_rfl) rfl ?_
    clear hx
    refine qm T_ok 11 (k := 29) (by kernel_rfl) (by kernel_rfl) (by kernel_rfl) ?_
    obtain ⟨x7, hx, H⟩ := bd H
    refine qyg rfl (tg := [(36, false)]) (Yld.under (u := 36) (b := false) (t := (!(x4 == x2) || !(x5 == (decide (a0 = ⟨#[]⟩) || x2)))) (by kernel_rfl) (by simp) fun g0_ => (Yld.under (u := 48) (b := true) (t := ((decide (a0 = ⟨#[]⟩) || x2) && x3)) (by kernel_rfl) (by simp) fun g1_ => (zc (T := T) (quitclaimref10_Covers.ok a0 a1 _ (gd1 (gd0 hx g0_) g1_)) Tryd.func11 rfl rfl (caps := []) (by kernel_rfl) (by kernel_rfl) (by kernel_rfl) (by kernel_rfl) (by kernel_rfl) (by kernel_rfl)))) rfl rfl (by kernel_rfl) (by kernel_rfl) rfl ?_
    clear hx
    refine qm T_ok 6 (k := 36) (by kernel_rfl) (by kernel_rfl) (by kernel_rfl) ?_
    obtain ⟨x8, hx, H⟩ := bd H
    refine qyg rfl (tg := []) (Yld.under (u := 55) (b := false) (t := ((!(x4 == x2) || !(x5 == (decide (a0 = ⟨#[]⟩) || x2))) || !(x6 == (((decide (a0 = ⟨#[]⟩) || x2) && x3) && x7)))) (by kernel_rfl) (by simp) fun g0_ => (zc (T := T) (path_Beside.ok k a0 a1 _ (gd0 hx g0_)) Tryd.func16 rfl rfl (caps := []) (by kernel_rfl) (by kernel_rfl) (by kernel_rfl) (by kernel_rfl) (by kernel_rfl) (by kernel_rfl))) rfl rfl (by kernel_rfl) (by kernel_rfl) rfl ?_
    clear hx
    refine qm T_ok 7 (k := 44) (by kernel_rfl) (by kernel_rfl) (by kernel_rfl) ?_
    obtain ⟨x9, hx, H⟩ := bd H
    refine qyg rfl (tg := [(55, false)]) (Yld.under (u := 55) (b := false) (t := ((!(x4 == x2) || !(x5 == (decide (a0 = ⟨#[]⟩) || x2))) || !(x6 == (((decide (a0 = ⟨#[]⟩) || x2) && x3) && x7)))) (by kernel_rfl) (by simp) fun g0_ => (Yld.under (u := 63) (b := true) (t := (x2 && x3)) (by kernel_rfl) (by simp) fun g1_ => (zc (T := T) (quitclaimref10_Covers.ok a0 a1 _ (gd1 (gd0 hx g0_) g1_)) Tryd.func11 rfl rfl (caps := []) (by kernel_rfl) (by kernel_rfl) (by kernel_rfl) (by kernel_rfl) (by kernel_rfl) (by kernel_rfl)))) rfl rfl (by kernel_rfl) (by kernel_rfl) rfl ?_
    clear hx
    refine qm T_ok 5 (k := 50) (by kernel_rfl) (by kernel_rfl) (by kernel_rfl) ?_
    obtain ⟨x10, hx, H⟩ := bd H
    refine qyg rfl (tg := [(55, false)]) (Yld.under (u := 55) (b := false) (t := ((!(x4 == x2) || !(x5 == (decide (a0 = ⟨#[]⟩) || x2))) || !(x6 == (((decide (a0 = ⟨#[]⟩) || x2) && x3) && x7)))) (by kernel_rfl) (by simp) fun g0_ => (Yld.under (u := 69) (b := true) (t := ((x2 && x3) && !x9)) (by kernel_rfl) (by simp) fun g1_ => (zc (T := T) (quitclaimref10_Covers.ok a1 a0 _ (gd1 (gd0 hx g0_) g1_)) Tryd.func11 rfl rfl (caps := []) (by kernel_rfl) (by kernel_rfl) (by kernel_rfl) (by kernel_rfl) (by kernel_rfl) (by kernel_rfl)))) rfl rfl (by kernel_rfl) (by kernel_rfl) rfl ?_
    clear hx
    refine qz T_ok 4 [0, 5, 76] 0 (E2 := [(0, [], vs a0), (5, [], vb x2), (76, [], vb (((!(x4 == x2) || !(x5 == (decide (a0 = ⟨#[]⟩) || x2))) || !(x6 == (((decide (a0 = ⟨#[]⟩) || x2) && x3) && x7))) || !(x8 == (((x2 && x3) && !x9) && !x10))))]) (h1 := []) (by kernel_rfl) (by kernel_rfl) (by kernel_rfl) (by kernel_rfl) (by kernel_rfl) ?_
    refine qi (t := (((!(x4 == x2) || !(x5 == (decide (a0 = ⟨#[]⟩) || x2))) || !(x6 == (((decide (a0 = ⟨#[]⟩) || x2) && x3) && x7))) || !(x8 == (((x2 && x3) && !x9) && !x10)))) (by kernel_rfl) (fun c => ?_) (fun c => ?_)
    · rw [if_pos c] at H
      clear c
      refine qs ?_
      refine qr T_ok [4] (E2 := [(4, [], vb false)]) (by kernel_rfl) ?_
      refine qt ?_
      obtain rfl := Option.some.inj H
      exact ⟨vb false, by kernel_rfl, rfl⟩
    · rw [if_neg (by rw [c]; exact Bool.false_ne_true)] at H
      clear c
      refine qw [0, 5] rfl ?_
      refine qk ?_
      refine qs ?_
      refine qg ?_
      refine qm T_ok 1 (k := 1) (by kernel_rfl) (by kernel_rfl) (by kernel_rfl) ?_
      obtain ⟨x11, hx, H⟩ := bd H
      refine qy rfl (zc (T := T) (path_Parts.ok k a0 _ hx) Tryd.func17 rfl rfl (caps := []) (by kernel_rfl) (by kernel_rfl) (by kernel_rfl) (by kernel_rfl) (by kernel_rfl) (by kernel_rfl)) rfl (by kernel_rfl) rfl ?_
      clear hx
      refine qz T_ok 1 [0, 5, 7] 0 (E2 := [(0, [], vs a0), (5, [], vb x2), (7, [], .p (.sl 1 ByteArray eS x11))]) (h1 := []) (by kernel_rfl) (by kernel_rfl) (by kernel_rfl) (by kernel_rfl) (by kernel_rfl) ?_
      refine qs ?_
      refine qs ?_
      refine qr T_ok [0, 7, 80] (E2 := [(0, [], vs a0), (7, [], .p (.sl 1 ByteArray eS x11)), (80, [], vb (!x2))]) (by kernel_rfl) ?_
      refine qi (t := !x2) (by kernel_rfl) (fun c => ?_) (fun c => ?_)
      · rw [if_pos c] at H
        clear c
        refine qs ?_
        refine qg ?_
        refine qm T_ok 5 (k := 5) (by kernel_rfl) (by kernel_rfl) (by kernel_rfl) ?_
        obtain ⟨x12, hx, H⟩ := bd H
        refine qyg rfl (tg := []) (Yld.under (u := 84) (b := true) (t := decide ((x11.length : Int) = 0)) (by kernel_rfl) (by simp) fun g0_ => (zc (T := T) (path_Above.ok k a0 _ (gd1 hx g0_)) Tryd.func18 rfl rfl (caps := []) (by kernel_rfl) (by kernel_rfl) (by kernel_rfl) (by kernel_rfl) (by kernel_rfl) (by kernel_rfl))) rfl rfl (by kernel_rfl) (by kernel_rfl) rfl ?_
        clear hx
        refine qm T_ok 4 (k := 10) (by kernel_rfl) (by kernel_rfl) (by kernel_rfl) ?_
        obtain ⟨x13, hx, H⟩ := bd H
        refine qyg rfl (tg := []) (Yld.under (u := 89) (b := true) (t := (decide ((x11.length : Int) = 0) && decide (x12 = ⟨#[]⟩))) (by kernel_rfl) (by simp) fun g0_ => (zc (T := T) (path_Last.ok k a0 _ (gd1 hx g0_)) Tryd.func19 rfl rfl (caps := []) (by kernel_rfl) (by kernel_rfl) (by kernel_rfl) (by kernel_rfl) (by kernel_rfl) (by kernel_rfl))) rfl rfl (by kernel_rfl) (by kernel_rfl) rfl ?_
        clear hx
        refine qm T_ok 3 (k := 14) (by kernel_rfl) (by kernel_rfl) (by kernel_rfl) ?_
        obtain ⟨x14, hx, H⟩ := bd H
        refine qyg rfl (tg := []) (Yld.under (u := 94) (b := true) (t := ((decide ((x11.length : Int) = 0) && decide (x12 = ⟨#[]⟩)) && decide (x13 = ⟨#[]⟩))) (by kernel_rfl) (by simp) fun g0_ => (zc (T := T) (quitclaimlaw10_awake.ok k _ (gd1 hx g0_)) Tryd.func9 rfl rfl (caps := []) (by kernel_rfl) (by kernel_rfl) (by kernel_rfl) (by kernel_rfl) (by kernel_rfl) (by kernel_rfl))) rfl rfl (by kernel_rfl) (by kernel_rfl) rfl ?_
        clear hx
        refine qz T_ok 2 [4] 0 (E2 := [(4, [], vb (((decide ((x11.length : Int) = 0) && decide (x12 = ⟨#[]⟩)) && decide (x13 = ⟨#[]⟩)) && x14))]) (h1 := []) (by kernel_rfl) (by kernel_rfl) (by kernel_rfl) (by kernel_rfl) (by kernel_rfl) ?_
        refine qt ?_
        obtain rfl := Option.some.inj H
        exact ⟨vb (((decide ((x11.length : Int) = 0) && decide (x12 = ⟨#[]⟩)) && decide (x13 = ⟨#[]⟩)) && x14), by kernel_rfl, rfl⟩
      · rw [if_neg (by rw [c]; exact Bool.false_ne_true)] at H
        clear c
        refine qw [0, 7] rfl ?_
        refine qk ?_
        refine qs ?_
        refine qg ?_
        refine qm T_ok 1 (k := 1) (by kernel_rfl) (by kernel_rfl) (by kernel_rfl) ?_
        obtain ⟨x15, hx, H⟩ := bd H
        refine qy rfl (zc (T := T) (quitclaimref10_Split.ok k a0 _ hx) Tryd.func20 rfl rfl (caps := []) (by kernel_rfl) (by kernel_rfl) (by kernel_rfl) (by kernel_rfl) (by kernel_rfl) (by kernel_rfl)) rfl (by kernel_rfl) rfl ?_
        clear hx
        refine qz T_ok 1 [0, 7, 8] 0 (E2 := [(0, [], vs a0), (7, [], .p (.sl 1 ByteArray eS x11)), (8, [], .p (.sl 1 ByteArray eS x15))]) (h1 := []) (by kernel_rfl) (by kernel_rfl) (by kernel_rfl) (by kernel_rfl) (by kernel_rfl) ?_
        refine qs ?_
        refine qd (by kernel_rfl) 29 (by kernel_rfl) (by kernel_rfl) (by kernel_rfl) (by kernel_rfl) (by kernel_rfl) ?_
        refine dm T_ok 2 (k := 2) (by kernel_rfl) (by kernel_rfl) ?_
        obtain ⟨x16, hx, H⟩ := bd H
        refine dy rfl (zc (T := T) (quitclaimref05_Same.ok k x11 x15 _ hx) Tryd.func21 rfl rfl (caps := []) (by kernel_rfl) (by kernel_rfl) (by kernel_rfl) (by kernel_rfl) (by kernel_rfl) (by kernel_rfl)) rfl (by kernel_rfl) rfl ?_
        clear hx
        refine dm T_ok 2 (k := 5) (by kernel_rfl) (by kernel_rfl) ?_
        obtain ⟨x17, hx, H⟩ := bd H
        refine dyg rfl (tg := []) (Yld.under (u := 102) (b := true) (t := x16) (by kernel_rfl) (by simp) fun g0_ => (zc (T := T) (path_Last.ok k a0 _ (gd1 hx g0_)) Tryd.func19 rfl rfl (caps := []) (by kernel_rfl) (by kernel_rfl) (by kernel_rfl) (by kernel_rfl) (by kernel_rfl) (by kernel_rfl))) rfl rfl (by kernel_rfl) (by kernel_rfl) rfl ?_
        clear hx
        refine dm T_ok 4 (k := 10) (by kernel_rfl) (by kernel_rfl) ?_
        obtain ⟨x18, hx, H⟩ := bd H
        refine dyg rfl (tg := []) (Yld.under (u := 102) (b := true) (t := x16) (by kernel_rfl) (by simp) fun g0_ => (zi T_ok .i64 (enc := eS) (l := x15) (e := 9) (n := 1) (ei := ti9) (sa := (.p (.sl 1 ByteArray eS x15))) (gd1 hx g0_) rfl (by kernel_rfl) (by kernel_rfl) rfl (by kernel_rfl) (by kernel_rfl) (by kernel_rfl))) rfl rfl (by kernel_rfl) (by kernel_rfl) rfl ?_
        clear hx
        refine dm T_ok 5 (k := 16) (by kernel_rfl) (by kernel_rfl) ?_
        obtain ⟨x19, hx, H⟩ := bd H
        refine dyg rfl (tg := []) (Yld.under (u := 113) (b := true) (t := (x16 && decide (x17 = x18))) (by kernel_rfl) (by simp) fun g0_ => (zc (T := T) (path_Above.ok k a0 _ (gd1 hx g0_)) Tryd.func18 rfl rfl (caps := []) (by kernel_rfl) (by kernel_rfl) (by kernel_rfl) (by kernel_rfl) (by kernel_rfl) (by kernel_rfl))) rfl rfl (by kernel_rfl) (by kernel_rfl) rfl ?_
        clear hx
        refine dm T_ok 4 (k := 21) (by kernel_rfl) (by kernel_rfl) ?_
        obtain ⟨x20, hx, H⟩ := bd H
        refine dyg rfl (tg := []) (Yld.under (u := 113) (b := true) (t := (x16 && decide (x17 = x18))) (by kernel_rfl) (by simp) fun g0_ => (zt T_ok (enc := eS) (l := x15) (e := 9) (n := 1) (ei := ti9) (sa := (.p (.sl 1 ByteArray eS x15))) (gd1 hx g0_) rfl (by kernel_rfl) (by kernel_rfl) rfl (by kernel_rfl) (by kernel_rfl) rfl ⟨.i64, by kernel_rfl⟩)) rfl rfl (by kernel_rfl) (by kernel_rfl) rfl ?_
        clear hx
        obtain ⟨x21, hx, H⟩ := bd H
        refine dyg rfl (tg := []) (Yld.under (u := 113) (b := true) (t := (x16 && decide (x17 = x18))) (by kernel_rfl) (by simp) fun g0_ => (zc (T := T) (quitclaimref10_Join.ok k x20 _ (gd1 hx g0_)) Tryd.func22 rfl rfl (caps := []) (by kernel_rfl) (by kernel_rfl) (by kernel_rfl) (by kernel_rfl) (by kernel_rfl) (by kernel_rfl))) rfl rfl (by kernel_rfl) (by kernel_rfl) rfl ?_
        clear hx
        refine dm T_ok 3 (k := 26) (by kernel_rfl) (by kernel_rfl) ?_
        obtain ⟨x22, hx, H⟩ := bd H
        refine dyg rfl (tg := []) (Yld.under (u := 124) (b := true) (t := ((x16 && decide (x17 = x18)) && decide (x19 = x21))) (by kernel_rfl) (by simp) fun g0_ => (zc (T := T) (quitclaimlaw10_awake.ok k _ (gd1 hx g0_)) Tryd.func9 rfl rfl (caps := []) (by kernel_rfl) (by kernel_rfl) (by kernel_rfl) (by kernel_rfl) (by kernel_rfl) (by kernel_rfl))) rfl rfl (by kernel_rfl) (by kernel_rfl) rfl ?_
        clear hx
        refine dm T_ok 2 (k := 29) (by kernel_rfl) (by kernel_rfl) ?_
        refine dn ?_
        refine qz T_ok 0 [4] 0 (E2 := [(4, [], vb (((x16 && decide (x17 = x18)) && decide (x19 = x21)) && x22))]) (h1 := []) (by kernel_rfl) (by kernel_rfl) (by kernel_rfl) (by kernel_rfl) (by kernel_rfl) ?_
        refine qt ?_
        obtain rfl := Option.some.inj H
        exact ⟨vb (((x16 && decide (x17 = x18)) && decide (x19 = x21)) && x22), by kernel_rfl, rfl⟩
/-! ### strings.Join: function 55 -/
def strings_Join.f (a0 : List ByteArray) (a1 : ByteArray) : Option ByteArray := if (Lib.join (a0.map (·.data.toList)) a1.data.toList).length ≤ 140737488355328 ∧ a0.length ≤ 140737488355328 then some ⟨(Lib.join (a0.map (·.data.toList)) a1.data.toList).toArray⟩ else none
theorem strings_Join.ok (a0 : List ByteArray) (a1 : ByteArray) (r : ByteArray) (H : strings_Join.f a0 a1 = some r) : PF Tryd.prog 55 [.p (.sl 1 ByteArray eS a0), vs a1] (vs r) := by
  unfold strings_Join.f at H
  split at H
  case isFalse => cases H
  case isTrue h =>
    obtain rfl := Option.some.inj H
    refine PF_sl (args := [.string a1]) fun w F u hu hF => ?_
    rcases rd_row1 hu hF with ⟨a, c, rfl, rfl⟩ | ⟨b, o, c, rfl, hc, hb, hcell⟩
    · exact (Go.Proofs.Tryd.strings_Join_none a c a1 w).mono fun e w' ⟨he, hw⟩ => ⟨he, hw ▸ Below.refl _ _⟩
    · exact Go.Proofs.Tryd.strings_Join b o c a0 a1 w (fun j x hx => hcell j x hx) hb h.2 hc h.1

/-! ### quitclaim/path.Join: function 29 -/
def path_Join.l0 (a0 : List ByteArray) : Nat → Int → Int → Option (ByteArray × Int)
  | 0, _, _ => none
  | k + 1, x4, x5 => (if x5 < (a0.length : Int) then ((ix a0 x5).bind fun x9 => ((gd (!(decide (w64 (x4 + (w64 ((x9.size : Int) + 1))) > 201))) (path_part.f k x9)).bind fun x10 => (if (decide (w64 (x4 + (w64 ((x9.size : Int) + 1))) > 201) || !x10) = true then some (⟨#[]⟩, 3) else path_Join.l0 a0 k (w64 (x4 + (w64 ((x9.size : Int) + 1)))) (w64 (x5 + 1))))) else ((strings_Join.f a0 ⟨#[47]⟩).bind fun x11 => some (x11, 0)))
def path_Join.f (k : Nat) (a0 : List ByteArray) : Option (ByteArray × Int) := (if (decide ((a0.length : Int) = 0) || decide ((a0.length : Int) > 16)) = true then some (⟨#[]⟩, 3) else path_Join.l0 a0 k 0 0)
theorem path_Join.ok (k : Nat) (a0 : List ByteArray) (r : ByteArray × Int) (H : path_Join.f k a0 = some r) : PF Tryd.prog 29 [.p (.sl 1 ByteArray eS a0)] (.tup [vs r.1, vi r.2]) := by
  refine PF_mk T_ok Tryd.func29 rfl (by kernel_rfl) (by kernel_rfl) ?_
  unfold path_Join.f at H
  refine qs ?_
  refine qr T_ok [0] (E2 := [(0, [], .p (.sl 1 ByteArray eS a0))]) (by kernel_rfl) ?_
  refine qs ?_
  refine qs ?_
  refine qr T_ok [0, 14] (E2 := [(0, [], .p (.sl 1 ByteArray eS a0)), (14, [], vb (decide ((a0.length : Int) = 0) || decide ((a0.length : Int) > 16)))]) (by kernel_rfl) ?_
  refine qi (t := (decide ((a0.length : Int) = 0) || decide ((a0.length : Int) > 16))) (by kernel_rfl) (fun c => ?_) (fun c => ?_)
  · rw [if_pos c] at H
    clear c
    refine qs ?_
    refine qr T_ok [2, 3] (E2 := [(2, [], vs ⟨#[]⟩), (3, [], vi 3)]) (by kernel_rfl) ?_
    refine qt ?_
    obtain rfl := Option.some.inj H
    exact ⟨.tup [vs ⟨#[]⟩, vi 3], by kernel_rfl, rfl⟩
  · rw [if_neg (by rw [c]; exact Bool.false_ne_true)] at H
    clear c
    refine qw [0] rfl ?_
    refine qk ?_
    refine qs ?_
    refine qr T_ok [0, 4] (E2 := [(0, [], .p (.sl 1 ByteArray eS a0)), (4, [], vi 0)]) (by kernel_rfl) ?_
    refine qs ?_
    refine qs ?_
    refine qr T_ok [0, 4, 15, 16, 17] (E2 := [(0, [], .p (.sl 1 ByteArray eS a0)), (4, [], vi 0), (15, [], .p (.sl 1 ByteArray eS a0)), (16, [], vi (a0.length : Int)), (17, [], vi 0)]) (by kernel_rfl) ?_
    refine qb ?_
    refine qp (fun k E h => ∃ x4 : Int, ∃ x5 : Int, E = [(0, [], .p (.sl 1 ByteArray eS a0)), (4, [], vi x4), (15, [], .p (.sl 1 ByteArray eS a0)), (16, [], vi (a0.length : Int)), (17, [], vi x5)] ∧ h = [] ∧ path_Join.l0 a0 k x4 x5 = some r) k ⟨0, 0, rfl, rfl, H⟩ ?_
    clear H
    rintro k E h ⟨x4, x5, rfl, rfl, H⟩
    cases k with
    | zero => exact nomatch (show none = some r from H)
    | succ k =>
      rw [path_Join.l0] at H
      refine qs ?_
      refine qr T_ok [0, 4, 15, 16, 17, 18] (E2 := [(0, [], .p (.sl 1 ByteArray eS a0)), (4, [], vi x4), (15, [], .p (.sl 1 ByteArray eS a0)), (16, [], vi (a0.length : Int)), (17, [], vi x5), (18, [], vb (decide (x5 < (a0.length : Int))))]) (by kernel_rfl) ?_
      refine qs ?_
      refine qi (t := decide (x5 < (a0.length : Int))) (by kernel_rfl) (fun c => ?_) (fun c => ?_)
      · rw [if_pos (of_decide_eq_true c)] at H
        clear c
        refine qw [0, 4, 15, 16, 17] rfl ?_
        refine qk ?_
        refine qs ?_
        refine qb ?_
        refine qs ?_
        refine qg ?_
        obtain ⟨x9, hx, H⟩ := bd H
        refine qy rfl (zi T_ok .i64 (enc := eS) (l := a0) (e := 9) (n := 1) (ei := ti9) (sa := (.p (.sl 1 ByteArray eS a0))) hx rfl (by kernel_rfl) (by kernel_rfl) rfl (by kernel_rfl) (by kernel_rfl) (by kernel_rfl)) rfl (by kernel_rfl) rfl ?_
        clear hx
        refine qz T_ok 2 [0, 4, 6, 15, 16, 17] 0 (E2 := [(0, [], .p (.sl 1 ByteArray eS a0)), (4, [], vi x4), (6, [], vs x9), (15, [], .p (.sl 1 ByteArray eS a0)), (16, [], vi (a0.length : Int)), (17, [], vi x5)]) (h1 := []) (by kernel_rfl) (by kernel_rfl) (by kernel_rfl) (by kernel_rfl) (by kernel_rfl) ?_
        refine qs ?_
        refine qr T_ok [0, 4, 6, 15, 16, 17] (E2 := [(0, [], .p (.sl 1 ByteArray eS a0)), (4, [], vi (w64 (x4 + (w64 ((x9.size : Int) + 1))))), (6, [], vs x9), (15, [], .p (.sl 1 ByteArray eS a0)), (16, [], vi (a0.length : Int)), (17, [], vi x5)]) (by kernel_rfl) ?_
        refine qs ?_
        refine qg ?_
        refine qm T_ok 4 (k := 4) (by kernel_rfl) (by kernel_rfl) (by kernel_rfl) ?_
        obtain ⟨x10, hx, H⟩ := bd H
        refine qyg rfl (tg := []) (Yld.under (u := 28) (b := false) (t := decide (w64 (x4 + (w64 ((x9.size : Int) + 1))) > 201)) (by kernel_rfl) (by simp) fun g0_ => (zc (T := T) (path_part.ok k x9 _ (gd0 hx g0_)) Tryd.func45 rfl rfl (caps := []) (by kernel_rfl) (by kernel_rfl) (by kernel_rfl) (by kernel_rfl) (by kernel_rfl) (by kernel_rfl))) rfl rfl (by kernel_rfl) (by kernel_rfl) rfl ?_
        clear hx
        refine qz T_ok 2 [0, 4, 15, 16, 17, 32] 0 (E2 := [(0, [], .p (.sl 1 ByteArray eS a0)), (4, [], vi (w64 (x4 + (w64 ((x9.size : Int) + 1))))), (15, [], .p (.sl 1 ByteArray eS a0)), (16, [], vi (a0.length : Int)), (17, [], vi x5), (32, [], vb (decide (w64 (x4 + (w64 ((x9.size : Int) + 1))) > 201) || !x10))]) (h1 := []) (by kernel_rfl) (by kernel_rfl) (by kernel_rfl) (by kernel_rfl) (by kernel_rfl) ?_
        refine qi (t := (decide (w64 (x4 + (w64 ((x9.size : Int) + 1))) > 201) || !x10)) (by kernel_rfl) (fun c => ?_) (fun c => ?_)
        · rw [if_pos c] at H
          clear c
          refine qs ?_
          refine qr T_ok [2, 3] (E2 := [(2, [], vs ⟨#[]⟩), (3, [], vi 3)]) (by kernel_rfl) ?_
          refine qt ?_
          obtain rfl := Option.some.inj H
          exact ⟨.tup [vs ⟨#[]⟩, vi 3], by kernel_rfl, rfl⟩
        · rw [if_neg (by rw [c]; exact Bool.false_ne_true)] at H
          clear c
          refine qw [0, 4, 15, 16, 17] rfl ?_
          refine qk ?_
          refine qr T_ok [0, 4, 15, 16, 17] (E2 := [(0, [], .p (.sl 1 ByteArray eS a0)), (4, [], vi (w64 (x4 + (w64 ((x9.size : Int) + 1))))), (15, [], .p (.sl 1 ByteArray eS a0)), (16, [], vi (a0.length : Int)), (17, [], vi (w64 (x5 + 1)))]) (by kernel_rfl) ?_
          exact ⟨_, Nat.lt_succ_self _, w64 (x4 + (w64 ((x9.size : Int) + 1))), w64 (x5 + 1), rfl, rfl, H⟩
      · rw [if_neg (of_decide_eq_false c)] at H
        clear c
        refine qw [0] rfl ?_
        refine qx ?_
        refine qs ?_
        refine qg ?_
        refine qm T_ok 1 (k := 1) (by kernel_rfl) (by kernel_rfl) (by kernel_rfl) ?_
        obtain ⟨x11, hx, H⟩ := bd H
        refine qy rfl (zc (T := T) (strings_Join.ok a0 ⟨#[47]⟩ _ hx) Tryd.func55 rfl rfl (caps := []) (by kernel_rfl) (by kernel_rfl) (by kernel_rfl) (by kernel_rfl) (by kernel_rfl) (by kernel_rfl)) rfl (by kernel_rfl) rfl ?_
        clear hx
        refine qz T_ok 2 [2, 3] 0 (E2 := [(2, [], vs x11), (3, [], vi 0)]) (h1 := []) (by kernel_rfl) (by kernel_rfl) (by kernel_rfl) (by kernel_rfl) (by kernel_rfl) ?_
        refine qt ?_
        obtain rfl := Option.some.inj H
        exact ⟨.tup [vs x11, vi 0], by kernel_rfl, rfl⟩
/-! ### quitclaim/quitclaimlaw10.PathJoins: function 6 -/
def quitclaimlaw10_PathJoins.l0 (a0 : List ByteArray) : Nat → Int → Option Bool
  | 0, _ => none
  | k + 1, x12 => (if x12 < (a0.length : Int) then ((ix a0 x12).bind fun x23 => (if (x23.size : Int) > 300 then ((quitclaimlaw10_awake.f k).bind fun x24 => some x24) else quitclaimlaw10_PathJoins.l0 a0 k (w64 (x12 + 1)))) else ((path_Join.f k a0).bind fun x25 => ((quitclaimref10_Join.f k a0).bind fun x26 => ((gd (decide ((a0.length : Int) > 0)) (quitclaimref10_Right.f k x26)).bind fun x27 => ((gd (decide ((a0.length : Int) > 0) && x27) (quitclaimref10_Split.f k x26)).bind fun x28 => (if (!((decide ((a0.length : Int) > 0) && x27) && decide ((x28.length : Int) = (a0.length : Int)))) = true then ((gd (decide (x25.1 = ⟨#[]⟩) && decide (x25.2 = 3)) (quitclaimlaw10_awake.f k)).bind fun x29 => some ((decide (x25.1 = ⟨#[]⟩) && decide (x25.2 = 3)) && x29)) else ((gd (decide (x25.1 = x26) && decide (x25.2 = 0)) (path_Parts.f k x25.1)).bind fun x30 => ((gd (decide (x25.1 = x26) && decide (x25.2 = 0)) (quitclaimref05_Same.f k x30 a0)).bind fun x31 => ((gd ((decide (x25.1 = x26) && decide (x25.2 = 0)) && x31) (quitclaimlaw10_awake.f k)).bind fun x32 => some (((decide (x25.1 = x26) && decide (x25.2 = 0)) && x31) && x32))))))))))
def quitclaimlaw10_PathJoins.f (k : Nat) (a0 : List ByteArray) : Option Bool := (if (a0.length : Int) > 40 then ((quitclaimlaw10_awake.f k).bind fun x1 => some x1) else quitclaimlaw10_PathJoins.l0 a0 k 0)
theorem quitclaimlaw10_PathJoins.ok (k : Nat) (a0 : List ByteArray) (r : Bool) (H : quitclaimlaw10_PathJoins.f k a0 = some r) : PF Tryd.prog 6 [.p (.sl 1 ByteArray eS a0)] (vb r) := by
  refine PF_mk T_ok Tryd.func6 rfl (by kernel_rfl) (by kernel_rfl) ?_
  unfold quitclaimlaw10_PathJoins.f at H
  refine qs ?_
  refine qr T_ok [0] (E2 := [(0, [], .p (.sl 1 ByteArray eS a0))]) (by kernel_rfl) ?_
  refine qs ?_
  refine qs ?_
  refine qr T_ok [0, 11] (E2 := [(0, [], .p (.sl 1 ByteArray eS a0)), (11, [], vb (decide ((a0.length : Int) > 40)))]) (by kernel_rfl) ?_
  refine qi (t := decide ((a0.length : Int) > 40)) (by kernel_rfl) (fun c => ?_) (fun c => ?_)
  · rw [if_pos (of_decide_eq_true c)] at H
    clear c
    refine qs ?_
    refine qg ?_
    obtain ⟨x1, hx, H⟩ := bd H
    refine qy rfl (zc (T := T) (quitclaimlaw10_awake.ok k _ hx) Tryd.func9 rfl rfl (caps := []) (by kernel_rfl) (by kernel_rfl) (by kernel_rfl) (by kernel_rfl) (by kernel_rfl) (by kernel_rfl)) rfl (by kernel_rfl) rfl ?_
    clear hx
    refine qz T_ok 1 [2] 0 (E2 := [(2, [], vb x1)]) (h1 := []) (by kernel_rfl) (by kernel_rfl) (by kernel_rfl) (by kernel_rfl) (by kernel_rfl) ?_
    refine qt ?_
    obtain rfl := Option.some.inj H
    exact ⟨vb x1, by kernel_rfl, rfl⟩
  · rw [if_neg (of_decide_eq_false c)] at H
    clear c
    refine qw [0] rfl ?_
    refine qk ?_
    refine qs ?_
    refine qs ?_
    refine qr T_ok [0, 13, 14, 15] (E2 := [(0, [], .p (.sl 1 ByteArray eS a0)), (13, [], .p (.sl 1 ByteArray eS a0)), (14, [], vi (a0.length : Int)), (15, [], vi 0)]) (by kernel_rfl) ?_
    refine qb ?_
    refine qp (fun k E h => ∃ x12 : Int, E = [(0, [], .p (.sl 1 ByteArray eS a0)), (13, [], .p (.sl 1 ByteArray eS a0)), (14, [], vi (a0.length : Int)), (15, [], vi x12)] ∧ h = [] ∧ quitclaimlaw10_PathJoins.l0 a0 k x12 = some r) k ⟨0, rfl, rfl, H⟩ ?_
    clear H
    rintro k E h ⟨x12, rfl, rfl, H⟩
    cases k with
    | zero => exact nomatch (show none = some r from H)
    | succ k =>
      rw [quitclaimlaw10_PathJoins.l0] at H
      refine qs ?_
      refine qr T_ok [0, 13, 14, 15, 16] (E2 := [(0, [], .p (.sl 1 ByteArray eS a0)), (13, [], .p (.sl 1 ByteArray eS a0)), (14, [], vi (a0.length : Int)), (15, [], vi x12), (16, [], vb (decide (x12 < (a0.length : Int))))]) (by kernel_rfl) ?_
      refine qs ?_
      refine qi (t := decide (x12 < (a0.length : Int))) (by kernel_rfl) (fun c => ?_) (fun c => ?_)
      · rw [if_pos (of_decide_eq_true c)] at H
        clear c
        refine qw [0, 13, 14, 15] rfl ?_
        refine qk ?_
        refine qs ?_
        refine qb ?_
        refine qs ?_
        refine qg ?_
        obtain ⟨x23, hx, H⟩ := bd H
        refine qy rfl (zi T_ok .i64 (enc := eS) (l := a0) (e := 9) (n := 1) (ei := ti9) (sa := (.p (.sl 1 ByteArray eS a0))) hx rfl (by kernel_rfl) (by kernel_rfl) rfl (by kernel_rfl) (by kernel_rfl) (by kernel_rfl)) rfl (by kernel_rfl) rfl ?_
        clear hx
        refine qz T_ok 2 [0, 4, 13, 14, 15] 0 (E2 := [(0, [], .p (.sl 1 ByteArray eS a0)), (4, [], vs x23), (13, [], .p (.sl 1 ByteArray eS a0)), (14, [], vi (a0.length : Int)), (15, [], vi x12)]) (h1 := []) (by kernel_rfl) (by kernel_rfl) (by kernel_rfl) (by kernel_rfl) (by kernel_rfl) ?_
        refine qs ?_
        refine qr T_ok [0, 13, 14, 15, 21] (E2 := [(0, [], .p (.sl 1 ByteArray eS a0)), (13, [], .p (.sl 1 ByteArray eS a0)), (14, [], vi (a0.length : Int)), (15, [], vi x12), (21, [], vb (decide ((x23.size : Int) > 300)))]) (by kernel_rfl) ?_
        refine qi (t := decide ((x23.size : Int) > 300)) (by kernel_rfl) (fun c => ?_) (fun c => ?_)
        · rw [if_pos (of_decide_eq_true c)] at H
          clear c
          refine qs ?_
          refine qg ?_
          obtain ⟨x24, hx, H⟩ := bd H
          refine qy rfl (zc (T := T) (quitclaimlaw10_awake.ok k _ hx) Tryd.func9 rfl rfl (caps := []) (by kernel_rfl) (by kernel_rfl) (by kernel_rfl) (by kernel_rfl) (by kernel_rfl) (by kernel_rfl)) rfl (by kernel_rfl) rfl ?_
          clear hx
          refine qz T_ok 1 [2] 0 (E2 := [(2, [], vb x24)]) (h1 := []) (by kernel_rfl) (by kernel_rfl) (by kernel_rfl) (by kernel_rfl) (by kernel_rfl) ?_
          refine qt ?_
          obtain rfl := Option.some.inj H
          exact ⟨vb x24, by kernel_rfl, rfl⟩
        · rw [if_neg (of_decide_eq_false c)] at H
          clear c
          refine qw [0, 13, 14, 15] rfl ?_
          refine qk ?_
          refine qr T_ok [0, 13, 14, 15] (E2 := [(0, [], .p (.sl 1 ByteArray eS a0)), (13, [], .p (.sl 1 ByteArray eS a0)), (14, [], vi (a0.length : Int)), (15, [], vi (w64 (x12 + 1)))]) (by kernel_rfl) ?_
          exact ⟨_, Nat.lt_succ_self _, w64 (x12 + 1), rfl, rfl, H⟩
      · rw [if_neg (of_decide_eq_false c)] at H
        clear c
        refine qw [0] rfl ?_
        refine qx ?_
        refine qs ?_
        refine qg ?_
        refine qm T_ok 1 (k := 1) (by kernel_rfl) (by kernel_rfl) (by kernel_rfl) ?_
        obtain ⟨x25, hx, H⟩ := bd H
        refine qy rfl (zc (T := T) (path_Join.ok k a0 _ hx) Tryd.func29 rfl rfl (caps := []) (by kernel_rfl) (by kernel_rfl) (by kernel_rfl) (by kernel_rfl) (by kernel_rfl) (by kernel_rfl)) rfl (by kernel_rfl) rfl ?_
        clear hx
        refine qz T_ok 5 [0, 5, 6] 0 (E2 := [(0, [], .p (.sl 1 ByteArray eS a0)), (5, [], vs x25.1), (6, [], vi x25.2)]) (h1 := []) (by kernel_rfl) (by kernel_rfl) (by kernel_rfl) (by kernel_rfl) (by kernel_rfl) ?_
        refine qs ?_
        refine qg ?_
        refine qm T_ok 1 (k := 1) (by kernel_rfl) (by kernel_rfl) (by kernel_rfl) ?_
        obtain ⟨x26, hx, H⟩ := bd H
        refine qy rfl (zc (T := T) (quitclaimref10_Join.ok k a0 _ hx) Tryd.func22 rfl rfl (caps := []) (by kernel_rfl) (by kernel_rfl) (by kernel_rfl) (by kernel_rfl) (by kernel_rfl) (by kernel_rfl)) rfl (by kernel_rfl) rfl ?_
        clear hx
        refine qz T_ok 1 [0, 5, 6, 7] 0 (E2 := [(0, [], .p (.sl 1 ByteArray eS a0)), (5, [], vs x25.1), (6, [], vi x25.2), (7, [], vs x26)]) (h1 := []) (by kernel_rfl) (by kernel_rfl) (by kernel_rfl) (by kernel_rfl) (by kernel_rfl) ?_
        refine qs ?_
        refine qg ?_
        refine qm T_ok 5 (k := 5) (by kernel_rfl) (by kernel_rfl) (by kernel_rfl) ?_
        obtain ⟨x27, hx, H⟩ := bd H
        refine qyg rfl (tg := []) (Yld.under (u := 34) (b := true) (t := decide ((a0.length : Int) > 0)) (by kernel_rfl) (by simp) fun g0_ => (zc (T := T) (quitclaimref10_Right.ok k x26 _ (gd1 hx g0_)) Tryd.func10 rfl rfl (caps := []) (by kernel_rfl) (by kernel_rfl) (by kernel_rfl) (by kernel_rfl) (by kernel_rfl) (by kernel_rfl))) rfl rfl (by kernel_rfl) (by kernel_rfl) rfl ?_
        clear hx
        refine qm T_ok 3 (k := 9) (by kernel_rfl) (by kernel_rfl) (by kernel_rfl) ?_
        obtain ⟨x28, hx, H⟩ := bd H
        refine qyg rfl (tg := []) (Yld.under (u := 38) (b := true) (t := (decide ((a0.length : Int) > 0) && x27)) (by kernel_rfl) (by simp) fun g0_ => (zc (T := T) (quitclaimref10_Split.ok k x26 _ (gd1 hx g0_)) Tryd.func20 rfl rfl (caps := []) (by kernel_rfl) (by kernel_rfl) (by kernel_rfl) (by kernel_rfl) (by kernel_rfl) (by kernel_rfl))) rfl rfl (by kernel_rfl) (by kernel_rfl) rfl ?_
        clear hx
        refine qz T_ok 6 [0, 5, 6, 7, 8] 0 (E2 := [(0, [], .p (.sl 1 ByteArray eS a0)), (5, [], vs x25.1), (6, [], vi x25.2), (7, [], vs x26), (8, [], vb ((decide ((a0.length : Int) > 0) && x27) && decide ((x28.length : Int) = (a0.length : Int))))]) (h1 := []) (by kernel_rfl) (by kernel_rfl) (by kernel_rfl) (by kernel_rfl) (by kernel_rfl) ?_
        refine qs ?_
        refine qs ?_
        refine qr T_ok [0, 5, 6, 7, 47] (E2 := [(0, [], .p (.sl 1 ByteArray eS a0)), (5, [], vs x25.1), (6, [], vi x25.2), (7, [], vs x26), (47, [], vb (!((decide ((a0.length : Int) > 0) && x27) && decide ((x28.length : Int) = (a0.length : Int)))))]) (by kernel_rfl) ?_
        refine qi (t := !((decide ((a0.length : Int) > 0) && x27) && decide ((x28.length : Int) = (a0.length : Int)))) (by kernel_rfl) (fun c => ?_) (fun c => ?_)
        · rw [if_pos c] at H
          clear c
          refine qs ?_
          refine qg ?_
          refine qm T_ok 7 (k := 7) (by kernel_rfl) (by kernel_rfl) (by kernel_rfl) ?_
          obtain ⟨x29, hx, H⟩ := bd H
          refine qyg rfl (tg := []) (Yld.under (u := 54) (b := true) (t := (decide (x25.1 = ⟨#[]⟩) && decide (x25.2 = 3))) (by kernel_rfl) (by simp) fun g0_ => (zc (T := T) (quitclaimlaw10_awake.ok k _ (gd1 hx g0_)) Tryd.func9 rfl rfl (caps := []) (by kernel_rfl) (by kernel_rfl) (by kernel_rfl) (by kernel_rfl) (by kernel_rfl) (by kernel_rfl))) rfl rfl (by kernel_rfl) (by kernel_rfl) rfl ?_
          clear hx
          refine qz T_ok 2 [2] 0 (E2 := [(2, [], vb ((decide (x25.1 = ⟨#[]⟩) && decide (x25.2 = 3)) && x29))]) (h1 := []) (by kernel_rfl) (by kernel_rfl) (by kernel_rfl) (by kernel_rfl) (by kernel_rfl) ?_
          refine qt ?_
          obtain rfl := Option.some.inj H
          exact ⟨vb ((decide (x25.1 = ⟨#[]⟩) && decide (x25.2 = 3)) && x29), by kernel_rfl, rfl⟩
        · rw [if_neg (by rw [c]; exact Bool.false_ne_true)] at H
          clear c
          refine qw [0, 5, 6, 7] rfl ?_
          refine qk ?_
          refine qs ?_
          refine qg ?_
          refine qm T_ok 9 (k := 9) (by kernel_rfl) (by kernel_rfl) (by kernel_rfl) ?_
          obtain ⟨x30, hx, H⟩ := bd H
          refine qyg rfl (tg := []) (Yld.under (u := 64) (b := true) (t := (decide (x25.1 = x26) && decide (x25.2 = 0))) (by kernel_rfl) (by simp) fun g0_ => (zc (T := T) (path_Parts.ok k x25.1 _ (gd1 hx g0_)) Tryd.func17 rfl rfl (caps := []) (by kernel_rfl) (by kernel_rfl) (by kernel_rfl) (by kernel_rfl) (by kernel_rfl) (by kernel_rfl))) rfl rfl (by kernel_rfl) (by kernel_rfl) rfl ?_
          clear hx
          refine qm T_ok 1 (k := 11) (by kernel_rfl) (by kernel_rfl) (by kernel_rfl) ?_
          obtain ⟨x31, hx, H⟩ := bd H
          refine qyg rfl (tg := []) (Yld.under (u := 64) (b := true) (t := (decide (x25.1 = x26) && decide (x25.2 = 0))) (by kernel_rfl) (by simp) fun g0_ => (zc (T := T) (quitclaimref05_Same.ok k x30 a0 _ (gd1 hx g0_)) Tryd.func21 rfl rfl (caps := []) (by kernel_rfl) (by kernel_rfl) (by kernel_rfl) (by kernel_rfl) (by kernel_rfl) (by kernel_rfl))) rfl rfl (by kernel_rfl) (by kernel_rfl) rfl ?_
          clear hx
          refine qm T_ok 2 (k := 14) (by kernel_rfl) (by kernel_rfl) (by kernel_rfl) ?_
          obtain ⟨x32, hx, H⟩ := bd H
          refine qyg rfl (tg := []) (Yld.under (u := 70) (b := true) (t := ((decide (x25.1 = x26) && decide (x25.2 = 0)) && x31)) (by kernel_rfl) (by simp) fun g0_ => (zc (T := T) (quitclaimlaw10_awake.ok k _ (gd1 hx g0_)) Tryd.func9 rfl rfl (caps := []) (by kernel_rfl) (by kernel_rfl) (by kernel_rfl) (by kernel_rfl) (by kernel_rfl) (by kernel_rfl))) rfl rfl (by kernel_rfl) (by kernel_rfl) rfl ?_
          clear hx
          refine qz T_ok 2 [2] 0 (E2 := [(2, [], vb (((decide (x25.1 = x26) && decide (x25.2 = 0)) && x31) && x32))]) (h1 := []) (by kernel_rfl) (by kernel_rfl) (by kernel_rfl) (by kernel_rfl) (by kernel_rfl) ?_
          refine qt ?_
          obtain rfl := Option.some.inj H
          exact ⟨vb (((decide (x25.1 = x26) && decide (x25.2 = 0)) && x31) && x32), by kernel_rfl, rfl⟩
end Go.Proofs.YtngcfmnmjkncoaaDoor.Q
