/- Contracts of the package gauss (both, Add, Sub, Mul, Right, residue), walked by hand: what they answer as functions of the bits; no condition. -/
import Derived.Test.YtabgdpobcloclaaProg
import Derived.Test.YtabgdpobcloclaaXKinds
import Derived.Test.YtabgdpobcloclaaWMore
import Derived.WalkLawsBesides
import Derived.Laws.Externs
import Derived.Lib.Hide
namespace Go.Proofs.Ytabgdpobcloclaa.Gauss
open Go.RowKit Go.Proofs.YtabgdpobcloclaaW.PrintWords Go.Proofs.YtabgdpobcloclaaW.XF
set_option linter.unusedVariables false

/-! ### the body-less functions -/
theorem ext59 (b : Nat) (w : World) : (callFunc 59 #[.float .f64 b]).run Try.prog w = .ok (.value (.int .u64 b)) w := by
  rw [run_callFunc_extern (fn := Try.f59) (e := Extern.MathFloatBits.float64bits) (by kernel_rfl) (by kernel_rfl) (by kernel_rfl) (by kernel_rfl) (by rfl)]
  rfl
def tr (b : Nat) : Nat := FloatKind.f64.encode ((FloatKind.f64.decode b).integral .zero)
theorem ext57 (b : Nat) (hb : (FloatKind.f64.decode b).isNaN = false) (w : World) : (callFunc 57 #[.float .f64 b]).run Try.prog w = .ok (.value (.float .f64 (tr b))) w := by
  rw [run_callFunc_extern (fn := Try.f57) (e := Extern.MathFloor.toIntegral "math.archTrunc" .zero) (by kernel_rfl) (by kernel_rfl) (by kernel_rfl) (by kernel_rfl) (by rfl)]
  have e : Extern.MathFloor.toIntegral "math.archTrunc" .zero #[.float .f64 b] = pure (.float .f64 (tr b)) := by
    unfold tr
    conv => lhs; whnf
    cases h : FloatKind.f64.decode b with
    | nan s t => rw [h] at hb; simp [Ieee.Datum.isNaN] at hb
    | infinity s => rfl
    | number s m e => rfl
  rw [e]; rfl

def sgnb (b : Nat) : Bool := decide (wrap64 (b : Int) < 0)
set_option maxHeartbeats 400000 in
theorem signbit_calls (b : Nat) (w : World) :
    Calls Try.prog 55 #[.float .f64 b] w fun e w' => e = .returned (.bool (sgnb b)) ∧ w = w' := by
  have h := ext59 b
  go_enter Try.func55, Try.ntmps55
  go_wp2
  go_ret
  exact ⟨rfl, rfl⟩
set_option maxHeartbeats 400000 in
theorem trunc_calls (b : Nat) (hb : (FloatKind.f64.decode b).isNaN = false) (w : World) :
    Calls Try.prog 54 #[.float .f64 b] w fun e w' => e = .returned (.float .f64 (tr b)) ∧ w = w' := by
  have h := ext57 b hb
  go_enter Try.func54, Try.ntmps54
  go_wp2
  go_ret
  exact ⟨rfl, rfl⟩

def geB (x y : Nat) : Bool := let c := FloatKind.f64.format.order x y; c == some .gt || c == some .eq
def ltB (x y : Nat) : Bool := FloatKind.f64.format.order x y == some .lt
theorem run_ge (T : TypeId) (x y : Nat) (r : Bool) (h : geB x y = r) (w : World) : (binOp .geq T (.float .f64 x) (.float .f64 y)).run Try.prog w = .ok (.bool r) w := by
  rw [← h]; simp [binOp, Op.floatCmp, geB]
theorem run_lt (T : TypeId) (x y : Nat) (r : Bool) (h : ltB x y = r) (w : World) : (binOp .lss T (.float .f64 x) (.float .f64 y)).run Try.prog w = .ok (.bool r) w := by
  rw [← h]; simp [binOp, Op.floatCmp, ltB]
theorem run_eq (T : TypeId) (x y : Nat) (r : Bool) (h : feq x y = r) (w : World) : (binOp .eql T (.float .f64 x) (.float .f64 y)).run Try.prog w = .ok (.bool r) w := by
  rw [← h]; simp [binOp, Op.floatCmp, feq]

/-- 65519 -/
def PB : Nat := 4679237676375736320
def whole (b : Nat) : Bool := geB b 0 && (ltB b PB && (feq b (tr b) && !(sgnb b)))
theorem order_nan (f : Ieee.Format) (b c : Nat) (s : Bool) (t : Nat) (h : f.read b = .nan s t) : f.order b c = none := by
  unfold Ieee.Format.order
  rw [h]
  cases f.read c <;> rfl
theorem not_nan_of (f : Ieee.Format) (b : Nat) (h : (f.order b 0 == some Ordering.gt || f.order b 0 == some Ordering.eq) = true) : (f.read b).isNaN = false := by
  cases hd : f.read b with
  | nan s t => rw [order_nan f b 0 s t hd] at h; cases h
  | infinity s => rfl
  | number s m e => rfl
theorem not_nan {b : Nat} (h : geB b 0 = true) : (FloatKind.f64.decode b).isNaN = false := by
  unfold geB at h
  unfold FloatKind.decode
  exact not_nan_of FloatKind.f64.format b h

set_option maxHeartbeats 400000 in
theorem whole_calls (b : Nat) (w : World) :
    Calls Try.prog 47 #[.float .f64 b] w fun e w' => e = .returned (.bool (whole b)) ∧ w = w' := by
  unfold whole
  cases h1 : geB b 0
  · have r1 := h1
    simp only [geB] at r1
    clear h1
    go_enter Try.func47, Try.ntmps47
    go_wp2
    go_ret
    exact ⟨rfl, rfl⟩
  · have r1 := h1
    simp only [geB] at r1
    have hn := Lib.hid (not_nan h1)
    clear h1
    cases h2 : ltB b PB
    · have r2 := h2
      simp only [ltB, PB] at r2
      have r2' : (FloatKind.f64.format.order b 4679237676375736320 = some Ordering.lt) = False := eq_false (beq_eq_false_iff_ne.1 r2)
      clear h2
      simp only [Bool.true_and, Bool.false_and]
      go_enter Try.func47, Try.ntmps47
      go_wp2
      go_ret
      exact ⟨rfl, rfl⟩
    · have r2 := h2
      simp only [ltB, PB] at r2
      have r2' : (FloatKind.f64.format.order b 4679237676375736320 = some Ordering.lt) = True := eq_true (beq_iff_eq.1 r2)
      clear h2
      cases h3 : feq b (tr b)
      · have r3 := h3
        simp only [feq] at r3
        have r3' : (FloatKind.f64.format.order b (tr b) = some Ordering.eq) = False := eq_false (beq_eq_false_iff_ne.1 r3)
        clear h3
        simp only [Bool.true_and, Bool.false_and]
        go_enter Try.func47, Try.ntmps47
        go_wp2_with (go_at_call 54; (with_reducible refine (trunc_calls b hn.out _).mono ?_); rintro e w' ⟨rfl, rfl⟩)
        go_ret
        exact ⟨rfl, rfl⟩
      · have r3 := h3
        simp only [feq] at r3
        have r3' : (FloatKind.f64.format.order b (tr b) = some Ordering.eq) = True := eq_true (beq_iff_eq.1 r3)
        clear h3
        simp only [Bool.true_and]
        go_enter Try.func47, Try.ntmps47
        go_wp2_with (first | (go_at_call 54; (with_reducible refine (trunc_calls b hn.out _).mono ?_); rintro e w' ⟨rfl, rfl⟩) | (go_at_call 55; (with_reducible refine (signbit_calls b _).mono ?_); rintro e w' ⟨rfl, rfl⟩))
        go_ret
        exact ⟨rfl, rfl⟩


attribute [irreducible] sgnb

/-! ### Right -/
def rightB (c : Nat × Nat) : Bool := whole c.1 && whole c.2
set_option maxHeartbeats 400000 in
theorem right_calls (c : Nat × Nat) (w : World) :
    Calls Try.prog 26 #[.complex .f64 c.1 c.2] w fun e w' => e = .returned (.bool (rightB c)) ∧ w = w' := by
  obtain ⟨x, y⟩ := c
  unfold rightB
  simp only
  have hx := whole_calls x
  have hy := whole_calls y
  generalize hwx : whole x = p at *
  generalize hwy : whole y = q at *
  have Hx := Lib.hid hx
  have Hy := Lib.hid hy
  clear hx hy hwx hwy
  cases p
  · simp only [Bool.false_and]
    go_enter Try.func26, Try.ntmps26
    go_wp2_with (go_at_call 47; (with_reducible refine (Hx.out _).mono ?_); rintro e w' ⟨rfl, rfl⟩)
    go_ret
    exact ⟨rfl, rfl⟩
  · simp only [Bool.true_and]
    go_enter Try.func26, Try.ntmps26
    go_wp2_with (go_at_call 47; first | ((with_reducible refine (Hx.out _).mono ?_); rintro e w' ⟨rfl, rfl⟩) | ((with_reducible refine (Hy.out _).mono ?_); rintro e w' ⟨rfl, rfl⟩))
    go_ret
    exact ⟨rfl, rfl⟩

/-! ### residues -/
theorem cvt (b : Nat) (v : Int) (h : floatToIntVal .f64 b .i64 = some v) (w : World) : (convert 59 3 (.float .f64 b)).run Try.prog w = .ok (.int .i64 v) w :=
  run_convert_float_int w 59 3 .f64 .i64 _ v (by kernel_rfl) Try.underlying3 h
theorem cvi (r : Nat) (v : Int) (h : floatOfInt .f64 v = r) (w : World) : (convert 3 59 (.int .i64 v)).run Try.prog w = .ok (.float .f64 r) w := by
  rw [← h]
  exact run_convert_int_float w 3 59 .i64 .f64 v (by kernel_rfl) Try.underlying59
set_option maxHeartbeats 400000 in
theorem part_calls (b r : Nat) (v : Int) (hlo : -9007199254740992 ≤ v) (hhi : v ≤ 9007199254740992) (h1 : floatToIntVal .f64 b .i64 = some v) (h2 : floatOfInt .f64 (v % 65519) = r) (w : World) :
    Calls Try.prog 56 #[.float .f64 b] w fun e w' => e = .returned (.float .f64 r) ∧ w = w' := by
  have hcv := cvt b v h1
  clear h1
  by_cases h0 : 0 ≤ v
  · have hci := cvi r (v % 65519) h2
    clear h2
    have hn : ¬ v % 65519 < 0 := by omega
    go_enter Try.func56, Try.ntmps56
    go_wp2
    go_ret
    exact ⟨rfl, rfl⟩
  · have e : Int.tmod v 65519 = -((-v) % 65519) := by
      rw [← Int.neg_neg v, Int.neg_tmod, Int.tmod_eq_emod_of_nonneg (by omega)]
      simp
    generalize ht : Int.tmod v 65519 = t at e
    have hlo : -65519 < t := by omega
    have hhi : t ≤ 0 := by omega
    have Ht := Lib.hid ht
    have hq : v.tmod 65519 = t := ht
    clear ht
    by_cases hz : t < 0
    · have hci := cvi r (t + 65519) (by rw [← h2]; congr 1; omega)
      clear h2 e
      go_enter Try.func56, Try.ntmps56
      go_wp2
      go_ret
      exact ⟨rfl, rfl⟩
    · have hci := cvi r t (by rw [← h2]; congr 1; omega)
      clear h2 e
      go_enter Try.func56, Try.ntmps56
      go_wp2
      go_ret
      exact ⟨rfl, rfl⟩

/-- what part makes of bits; only of whole numbers that are small is anything told -/
def partB (b : Nat) : Option Nat := (floatToIntVal .f64 b .i64).bind fun v => if -9007199254740992 ≤ v then (if v ≤ 9007199254740992 then some (floatOfInt .f64 (v % 65519)) else none) else none
theorem part_bits (b r : Nat) (h : partB b = some r) (w : World) : Calls Try.prog 56 #[.float .f64 b] w fun e w' => e = .returned (.float .f64 r) ∧ w = w' := by
  unfold partB at h
  obtain ⟨v, h1, h⟩ := Option.bind_eq_some_iff.1 h
  split at h
  · split at h
    · exact part_calls b r v ‹_› ‹_› h1 (Option.some.inj h) w
    · cases h
  · cases h
def residueB (c : Nat × Nat) : Option (Nat × Nat) := (partB c.1).bind fun x => (partB c.2).bind fun y => some (x, y)
set_option maxHeartbeats 400000 in
theorem residue_calls (c r : Nat × Nat) (h : residueB c = some r) (w : World) :
    Calls Try.prog 53 #[.complex .f64 c.1 c.2] w fun e w' => e = .returned (.complex .f64 r.1 r.2) ∧ w = w' := by
  obtain ⟨x, y⟩ := c
  unfold residueB at h
  obtain ⟨p, h1, h⟩ := Option.bind_eq_some_iff.1 h
  obtain ⟨q, h2, h⟩ := Option.bind_eq_some_iff.1 h
  obtain rfl := Option.some.inj h
  clear h
  have Hx := Lib.hid (part_bits x p h1)
  have Hy := Lib.hid (part_bits y q h2)
  clear h1 h2
  simp only
  go_enter Try.func53, Try.ntmps53
  go_wp2_with (go_at_call 56; first | ((with_reducible refine (Hx.out _).mono ?_); rintro e w' ⟨rfl, rfl⟩) | ((with_reducible refine (Hy.out _).mono ?_); rintro e w' ⟨rfl, rfl⟩))
  go_ret
  exact ⟨rfl, rfl⟩


set_option maxHeartbeats 800000 in
theorem both_no (a b : Nat × Nat) (f : Value) (h1 : (rightB a && rightB b) = false) (w : World) :
    Calls Try.prog 48 #[.complex .f64 a.1 a.2, .complex .f64 b.1 b.2, f] w fun e w' => e = .returned (.complex .f64 0 0) ∧ w = w' := by
  have Ha := right_calls a
  have Hb := right_calls b
  cases ha : rightB a
  · rw [ha] at Ha
    have Ha := Lib.hid Ha
    clear Hb h1 ha
    obtain ⟨a1, a2⟩ := a
    obtain ⟨b1, b2⟩ := b
    simp only at Ha ⊢
    go_enter Try.func48, Try.ntmps48
    go_wp2_with fail
    refine (Ha.out _).mono ?_
    rintro e w' ⟨rfl, rfl⟩
    go_wp2_with fail
    go_ret
    exact ⟨rfl, rfl⟩
  · rw [ha] at Ha h1
    rw [Bool.true_and] at h1
    rw [h1] at Hb
    have Ha := Lib.hid Ha
    have Hb := Lib.hid Hb
    clear h1 ha
    obtain ⟨a1, a2⟩ := a
    obtain ⟨b1, b2⟩ := b
    simp only at Ha Hb ⊢
    go_enter Try.func48, Try.ntmps48
    go_wp2_with fail
    refine (Ha.out _).mono ?_
    rintro e w' ⟨rfl, rfl⟩
    go_wp2_with fail
    refine (Hb.out _).mono ?_
    rintro e w' ⟨rfl, rfl⟩
    go_wp2_with fail
    go_ret
    exact ⟨rfl, rfl⟩

/-! ### add -/
set_option maxHeartbeats 800000 in
theorem add_clo (a b c : Nat × Nat) (h3 : cSumBits .add .f64 a.1 a.2 b.1 b.2 = some c) (B B' : Nat) (w : World) (hB : w.cell? ⟨B, 0, none⟩ = some (.complex .f64 a.1 a.2)) (hB' : w.cell? ⟨B', 0, none⟩ = some (.complex .f64 b.1 b.2)) :
    Calls Try.prog 49 #[.pointer (some ⟨B, 0, none⟩), .pointer (some ⟨B', 0, none⟩)] w fun e w' => e = .returned (.complex .f64 c.1 c.2) ∧ w = w' := by
  have hs := fun (w : World) => run_complex_sum (P := Try.prog) w .add (.inl rfl) 47 .f64 a.1 a.2 b.1 b.2 c.1 c.2 h3
  clear h3
  obtain ⟨a1, a2⟩ := a
  obtain ⟨b1, b2⟩ := b
  obtain ⟨c1, c2⟩ := c
  simp only at hs hB hB' ⊢
  go_enter Try.func49, Try.ntmps49
  go_wp2
  go_ret
  exact ⟨rfl, rfl⟩
set_option maxHeartbeats 800000 in
theorem add_both (a b c r : Nat × Nat) (h1 : rightB a = true) (h2 : rightB b = true) (h3 : cSumBits .add .f64 a.1 a.2 b.1 b.2 = some c) (h4 : residueB c = some r) (B B' : Nat) (w : World) (hB : w.cell? ⟨B, 0, none⟩ = some (.complex .f64 a.1 a.2)) (hB' : w.cell? ⟨B', 0, none⟩ = some (.complex .f64 b.1 b.2)) :
    Calls Try.prog 48 #[.complex .f64 a.1 a.2, .complex .f64 b.1 b.2, .func (.func 49) #[] #[.pointer (some ⟨B, 0, none⟩), .pointer (some ⟨B', 0, none⟩)]] w fun e w' => e = .returned (.complex .f64 r.1 r.2) ∧ w = w' := by
  have Ha := right_calls a
  have Hb := right_calls b
  rw [h1] at Ha
  rw [h2] at Hb
  have Ha := Lib.hid Ha
  have Hb := Lib.hid Hb
  have Hr := Lib.hid (residue_calls c r h4)
  have Hc := Lib.hid (add_clo a b c h3 B B' w hB hB')
  clear h1 h2 h3 h4 hB hB'
  obtain ⟨a1, a2⟩ := a
  obtain ⟨b1, b2⟩ := b
  obtain ⟨c1, c2⟩ := c
  obtain ⟨r1, r2⟩ := r
  simp only at Ha Hb Hc Hr ⊢
  go_enter Try.func48, Try.ntmps48
  go_wp2_with fail
  refine (Ha.out _).mono ?_
  rintro e w' ⟨rfl, rfl⟩
  go_wp2_with fail
  refine (Hb.out _).mono ?_
  rintro e w' ⟨rfl, rfl⟩
  go_wp2_with fail
  refine Hc.out.mono ?_
  rintro e w' ⟨rfl, rfl⟩
  go_wp2_with fail
  refine (Hr.out _).mono ?_
  rintro e w' ⟨rfl, rfl⟩
  go_wp2_with fail
  go_ret
  exact ⟨rfl, rfl⟩
set_option maxHeartbeats 800000 in
theorem add_yes (a b c r : Nat × Nat) (h1 : rightB a = true) (h2 : rightB b = true) (h3 : cSumBits .add .f64 a.1 a.2 b.1 b.2 = some c) (h4 : residueB c = some r) (w : World) :
    Calls Try.prog 27 #[.complex .f64 a.1 a.2, .complex .f64 b.1 b.2] w fun e w' => e = .returned (.complex .f64 r.1 r.2) ∧ Below w.heap.size w w' := by
  have Hb := Lib.hid (add_both a b c r h1 h2 h3 h4)
  clear h1 h2 h3 h4
  obtain ⟨a1, a2⟩ := a
  obtain ⟨b1, b2⟩ := b
  obtain ⟨r1, r2⟩ := r
  simp only at Hb ⊢
  go_enter Try.func27, Try.ntmps27
  go_wp2_with fail
  refine (Hb.out w.heap.size (w.heap.size + 1) _ (by simp) (by simp)).mono ?_
  rintro e w' ⟨rfl, rfl⟩
  go_wp2_with fail
  go_ret
  exact ⟨rfl, by repeat (first | exact Below.refl _ _ | apply below_alloc)⟩
set_option maxHeartbeats 800000 in
theorem add_no (a b : Nat × Nat) (h1 : (rightB a && rightB b) = false) (w : World) :
    Calls Try.prog 27 #[.complex .f64 a.1 a.2, .complex .f64 b.1 b.2] w fun e w' => e = .returned (.complex .f64 0 0) ∧ Below w.heap.size w w' := by
  have Hb := Lib.hid (fun f w => both_no a b f h1 w)
  clear h1
  obtain ⟨a1, a2⟩ := a
  obtain ⟨b1, b2⟩ := b
  simp only at Hb ⊢
  go_enter Try.func27, Try.ntmps27
  go_wp2_with fail
  refine (Hb.out _ _).mono ?_
  rintro e w' ⟨rfl, rfl⟩
  go_wp2_with fail
  go_ret
  exact ⟨rfl, by repeat (first | exact Below.refl _ _ | apply below_alloc)⟩
def addB (a b : Nat × Nat) : Option (Nat × Nat) := if rightB a && rightB b then (cSumBits .add .f64 a.1 a.2 b.1 b.2).bind residueB else some (0, 0)
theorem add_calls (a b r : Nat × Nat) (w : World) (h : addB a b = some r) :
    Calls Try.prog 27 #[.complex .f64 a.1 a.2, .complex .f64 b.1 b.2] w fun e w' => e = .returned (.complex .f64 r.1 r.2) ∧ Below w.heap.size w w' := by
  unfold addB at h
  cases h1 : rightB a && rightB b
  · rw [h1, if_neg (by simp)] at h
    obtain rfl := Option.some.inj h
    exact add_no a b h1 w
  · rw [h1, if_pos rfl] at h
    obtain ⟨c, h3, h4⟩ := Option.bind_eq_some_iff.1 h
    rw [Bool.and_eq_true] at h1
    exact add_yes a b c r h1.1 h1.2 h3 h4 w

/-! ### sub -/
set_option maxHeartbeats 800000 in
theorem sub_clo (a b c : Nat × Nat) (h3 : cSumBits .sub .f64 a.1 a.2 b.1 b.2 = some c) (B B' : Nat) (w : World) (hB : w.cell? ⟨B, 0, none⟩ = some (.complex .f64 a.1 a.2)) (hB' : w.cell? ⟨B', 0, none⟩ = some (.complex .f64 b.1 b.2)) :
    Calls Try.prog 51 #[.pointer (some ⟨B, 0, none⟩), .pointer (some ⟨B', 0, none⟩)] w fun e w' => e = .returned (.complex .f64 c.1 c.2) ∧ w = w' := by
  have hs := fun (w : World) => run_complex_sum (P := Try.prog) w .sub (.inr rfl) 47 .f64 a.1 a.2 b.1 b.2 c.1 c.2 h3
  clear h3
  obtain ⟨a1, a2⟩ := a
  obtain ⟨b1, b2⟩ := b
  obtain ⟨c1, c2⟩ := c
  simp only at hs hB hB' ⊢
  go_enter Try.func51, Try.ntmps51
  go_wp2
  go_ret
  exact ⟨rfl, rfl⟩
set_option maxHeartbeats 800000 in
theorem sub_both (a b c r : Nat × Nat) (h1 : rightB a = true) (h2 : rightB b = true) (h3 : cSumBits .sub .f64 a.1 a.2 b.1 b.2 = some c) (h4 : residueB c = some r) (B B' : Nat) (w : World) (hB : w.cell? ⟨B, 0, none⟩ = some (.complex .f64 a.1 a.2)) (hB' : w.cell? ⟨B', 0, none⟩ = some (.complex .f64 b.1 b.2)) :
    Calls Try.prog 48 #[.complex .f64 a.1 a.2, .complex .f64 b.1 b.2, .func (.func 51) #[] #[.pointer (some ⟨B, 0, none⟩), .pointer (some ⟨B', 0, none⟩)]] w fun e w' => e = .returned (.complex .f64 r.1 r.2) ∧ w = w' := by
  have Ha := right_calls a
  have Hb := right_calls b
  rw [h1] at Ha
  rw [h2] at Hb
  have Ha := Lib.hid Ha
  have Hb := Lib.hid Hb
  have Hr := Lib.hid (residue_calls c r h4)
  have Hc := Lib.hid (sub_clo a b c h3 B B' w hB hB')
  clear h1 h2 h3 h4 hB hB'
  obtain ⟨a1, a2⟩ := a
  obtain ⟨b1, b2⟩ := b
  obtain ⟨c1, c2⟩ := c
  obtain ⟨r1, r2⟩ := r
  simp only at Ha Hb Hc Hr ⊢
  go_enter Try.func48, Try.ntmps48
  go_wp2_with fail
  refine (Ha.out _).mono ?_
  rintro e w' ⟨rfl, rfl⟩
  go_wp2_with fail
  refine (Hb.out _).mono ?_
  rintro e w' ⟨rfl, rfl⟩
  go_wp2_with fail
  refine Hc.out.mono ?_
  rintro e w' ⟨rfl, rfl⟩
  go_wp2_with fail
  refine (Hr.out _).mono ?_
  rintro e w' ⟨rfl, rfl⟩
  go_wp2_with fail
  go_ret
  exact ⟨rfl, rfl⟩
set_option maxHeartbeats 800000 in
theorem sub_yes (a b c r : Nat × Nat) (h1 : rightB a = true) (h2 : rightB b = true) (h3 : cSumBits .sub .f64 a.1 a.2 b.1 b.2 = some c) (h4 : residueB c = some r) (w : World) :
    Calls Try.prog 29 #[.complex .f64 a.1 a.2, .complex .f64 b.1 b.2] w fun e w' => e = .returned (.complex .f64 r.1 r.2) ∧ Below w.heap.size w w' := by
  have Hb := Lib.hid (sub_both a b c r h1 h2 h3 h4)
  clear h1 h2 h3 h4
  obtain ⟨a1, a2⟩ := a
  obtain ⟨b1, b2⟩ := b
  obtain ⟨r1, r2⟩ := r
  simp only at Hb ⊢
  go_enter Try.func29, Try.ntmps29
  go_wp2_with fail
  refine (Hb.out w.heap.size (w.heap.size + 1) _ (by simp) (by simp)).mono ?_
  rintro e w' ⟨rfl, rfl⟩
  go_wp2_with fail
  go_ret
  exact ⟨rfl, by repeat (first | exact Below.refl _ _ | apply below_alloc)⟩
set_option maxHeartbeats 800000 in
theorem sub_no (a b : Nat × Nat) (h1 : (rightB a && rightB b) = false) (w : World) :
    Calls Try.prog 29 #[.complex .f64 a.1 a.2, .complex .f64 b.1 b.2] w fun e w' => e = .returned (.complex .f64 0 0) ∧ Below w.heap.size w w' := by
  have Hb := Lib.hid (fun f w => both_no a b f h1 w)
  clear h1
  obtain ⟨a1, a2⟩ := a
  obtain ⟨b1, b2⟩ := b
  simp only at Hb ⊢
  go_enter Try.func29, Try.ntmps29
  go_wp2_with fail
  refine (Hb.out _ _).mono ?_
  rintro e w' ⟨rfl, rfl⟩
  go_wp2_with fail
  go_ret
  exact ⟨rfl, by repeat (first | exact Below.refl _ _ | apply below_alloc)⟩
def subB (a b : Nat × Nat) : Option (Nat × Nat) := if rightB a && rightB b then (cSumBits .sub .f64 a.1 a.2 b.1 b.2).bind residueB else some (0, 0)
theorem sub_calls (a b r : Nat × Nat) (w : World) (h : subB a b = some r) :
    Calls Try.prog 29 #[.complex .f64 a.1 a.2, .complex .f64 b.1 b.2] w fun e w' => e = .returned (.complex .f64 r.1 r.2) ∧ Below w.heap.size w w' := by
  unfold subB at h
  cases h1 : rightB a && rightB b
  · rw [h1, if_neg (by simp)] at h
    obtain rfl := Option.some.inj h
    exact sub_no a b h1 w
  · rw [h1, if_pos rfl] at h
    obtain ⟨c, h3, h4⟩ := Option.bind_eq_some_iff.1 h
    rw [Bool.and_eq_true] at h1
    exact sub_yes a b c r h1.1 h1.2 h3 h4 w

/-! ### mul -/
set_option maxHeartbeats 800000 in
theorem mul_clo (a b c : Nat × Nat) (h3 : cMulBits a.1 a.2 b.1 b.2 = some c) (B B' : Nat) (w : World) (hB : w.cell? ⟨B, 0, none⟩ = some (.complex .f64 a.1 a.2)) (hB' : w.cell? ⟨B', 0, none⟩ = some (.complex .f64 b.1 b.2)) :
    Calls Try.prog 52 #[.pointer (some ⟨B, 0, none⟩), .pointer (some ⟨B', 0, none⟩)] w fun e w' => e = .returned (.complex .f64 c.1 c.2) ∧ w = w' := by
  have hs := fun (w : World) => run_complex_mul (P := Try.prog) w 47 a.1 a.2 b.1 b.2 c.1 c.2 h3
  clear h3
  obtain ⟨a1, a2⟩ := a
  obtain ⟨b1, b2⟩ := b
  obtain ⟨c1, c2⟩ := c
  simp only at hs hB hB' ⊢
  go_enter Try.func52, Try.ntmps52
  go_wp2
  go_ret
  exact ⟨rfl, rfl⟩
set_option maxHeartbeats 800000 in
theorem mul_both (a b c r : Nat × Nat) (h1 : rightB a = true) (h2 : rightB b = true) (h3 : cMulBits a.1 a.2 b.1 b.2 = some c) (h4 : residueB c = some r) (B B' : Nat) (w : World) (hB : w.cell? ⟨B, 0, none⟩ = some (.complex .f64 a.1 a.2)) (hB' : w.cell? ⟨B', 0, none⟩ = some (.complex .f64 b.1 b.2)) :
    Calls Try.prog 48 #[.complex .f64 a.1 a.2, .complex .f64 b.1 b.2, .func (.func 52) #[] #[.pointer (some ⟨B, 0, none⟩), .pointer (some ⟨B', 0, none⟩)]] w fun e w' => e = .returned (.complex .f64 r.1 r.2) ∧ w = w' := by
  have Ha := right_calls a
  have Hb := right_calls b
  rw [h1] at Ha
  rw [h2] at Hb
  have Ha := Lib.hid Ha
  have Hb := Lib.hid Hb
  have Hr := Lib.hid (residue_calls c r h4)
  have Hc := Lib.hid (mul_clo a b c h3 B B' w hB hB')
  clear h1 h2 h3 h4 hB hB'
  obtain ⟨a1, a2⟩ := a
  obtain ⟨b1, b2⟩ := b
  obtain ⟨c1, c2⟩ := c
  obtain ⟨r1, r2⟩ := r
  simp only at Ha Hb Hc Hr ⊢
  go_enter Try.func48, Try.ntmps48
  go_wp2_with fail
  refine (Ha.out _).mono ?_
  rintro e w' ⟨rfl, rfl⟩
  go_wp2_with fail
  refine (Hb.out _).mono ?_
  rintro e w' ⟨rfl, rfl⟩
  go_wp2_with fail
  refine Hc.out.mono ?_
  rintro e w' ⟨rfl, rfl⟩
  go_wp2_with fail
  refine (Hr.out _).mono ?_
  rintro e w' ⟨rfl, rfl⟩
  go_wp2_with fail
  go_ret
  exact ⟨rfl, rfl⟩
set_option maxHeartbeats 800000 in
theorem mul_yes (a b c r : Nat × Nat) (h1 : rightB a = true) (h2 : rightB b = true) (h3 : cMulBits a.1 a.2 b.1 b.2 = some c) (h4 : residueB c = some r) (w : World) :
    Calls Try.prog 31 #[.complex .f64 a.1 a.2, .complex .f64 b.1 b.2] w fun e w' => e = .returned (.complex .f64 r.1 r.2) ∧ Below w.heap.size w w' := by
  have Hb := Lib.hid (mul_both a b c r h1 h2 h3 h4)
  clear h1 h2 h3 h4
  obtain ⟨a1, a2⟩ := a
  obtain ⟨b1, b2⟩ := b
  obtain ⟨r1, r2⟩ := r
  simp only at Hb ⊢
  go_enter Try.func31, Try.ntmps31
  go_wp2_with fail
  refine (Hb.out w.heap.size (w.heap.size + 1) _ (by simp) (by simp)).mono ?_
  rintro e w' ⟨rfl, rfl⟩
  go_wp2_with fail
  go_ret
  exact ⟨rfl, by repeat (first | exact Below.refl _ _ | apply below_alloc)⟩
set_option maxHeartbeats 800000 in
theorem mul_no (a b : Nat × Nat) (h1 : (rightB a && rightB b) = false) (w : World) :
    Calls Try.prog 31 #[.complex .f64 a.1 a.2, .complex .f64 b.1 b.2] w fun e w' => e = .returned (.complex .f64 0 0) ∧ Below w.heap.size w w' := by
  have Hb := Lib.hid (fun f w => both_no a b f h1 w)
  clear h1
  obtain ⟨a1, a2⟩ := a
  obtain ⟨b1, b2⟩ := b
  simp only at Hb ⊢
  go_enter Try.func31, Try.ntmps31
  go_wp2_with fail
  refine (Hb.out _ _).mono ?_
  rintro e w' ⟨rfl, rfl⟩
  go_wp2_with fail
  go_ret
  exact ⟨rfl, by repeat (first | exact Below.refl _ _ | apply below_alloc)⟩
def mulB (a b : Nat × Nat) : Option (Nat × Nat) := if rightB a && rightB b then (cMulBits a.1 a.2 b.1 b.2).bind residueB else some (0, 0)
theorem mul_calls (a b r : Nat × Nat) (w : World) (h : mulB a b = some r) :
    Calls Try.prog 31 #[.complex .f64 a.1 a.2, .complex .f64 b.1 b.2] w fun e w' => e = .returned (.complex .f64 r.1 r.2) ∧ Below w.heap.size w w' := by
  unfold mulB at h
  cases h1 : rightB a && rightB b
  · rw [h1, if_neg (by simp)] at h
    obtain rfl := Option.some.inj h
    exact mul_no a b h1 w
  · rw [h1, if_pos rfl] at h
    obtain ⟨c, h3, h4⟩ := Option.bind_eq_some_iff.1 h
    rw [Bool.and_eq_true] at h1
    exact mul_yes a b c r h1.1 h1.2 h3 h4 w
end Go.Proofs.Ytabgdpobcloclaa.Gauss
