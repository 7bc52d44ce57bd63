/- Go functions as Lean functions, and that the code answers what they say (written by wip/tool/print2.py over the print of the kit); no condition but the typed premises. -/
import Derived.Test.YtabgdpobcloclaaPGaussOddx0
namespace Go.Proofs.Ytabgdpobcloclaa.PGaussOdd
open Go.RowKit Go.Proofs.YtabgdpobcloclaaW.PrintWords Go.Proofs.YtabgdpobcloclaaW.PrintLast Go.Proofs.YtabgdpobcloclaaW.PrintMore
attribute [local go_sem] max2_int min2_int max_two min_two max_three min_three max_four min_four   -- for this text's walks alone
set_option linter.unusedVariables false
set_option linter.unusedSimpArgs false

/-! ### quitclaimlaw22_GaussOdd_1: function 39 -/
def quitclaimlaw22_GaussOdd_1.f (a0 : Nat) : Option Bool := some (GO.oddB a0)
theorem quitclaimlaw22_GaussOdd_1.calls (a0 : Nat) (r : Bool) (w : World) (h : quitclaimlaw22_GaussOdd_1.f a0 = some r) :
    Calls Try.prog 39 #[.float .f64 a0] w fun e w' => e = .returned (.bool r) ∧ Below w.heap.size w w' := by
  obtain rfl := Option.some.inj h
  exact GO.odd_calls a0 w


-- NOT PRINTED: function 57 (math_archTrunc)

-- NOT PRINTED: function 59 (math_Float64bits)

-- NOT PRINTED: function 62 (math_Float64frombits)

-- NOT PRINTED: function 60 (math_Abs)

-- NOT PRINTED: function 61 (math_Copysign)

-- NOT PRINTED: function 58 (math_trunc)

-- NOT PRINTED: function 54 (math_Trunc)

-- NOT PRINTED: function 55 (math_Signbit)

-- NOT PRINTED: function 47 (gauss_whole)

/-! ### gauss_Right: function 26 -/
def gauss_Right.f (a0 : Nat × Nat) : Option Bool := some (Gauss.rightB a0)
theorem gauss_Right.calls (a0 : Nat × Nat) (r : Bool) (w : World) (h : gauss_Right.f a0 = some r) :
    Calls Try.prog 26 #[.complex .f64 a0.1 a0.2] w fun e w' => e = .returned (.bool r) ∧ Drawn0 w w' := by
  obtain rfl := Option.some.inj h
  exact (Gauss.right_calls a0 w).mono fun e w' ⟨he, hw⟩ => ⟨he, hw ▸ Drawn0.refl _⟩


-- NOT PRINTED: function 56 (gauss_part)

/-! ### gauss_residue: function 53 -/
def gauss_residue.f (a0 : Nat × Nat) : Option (Nat × Nat) := Gauss.residueB a0
theorem gauss_residue.calls (a0 : Nat × Nat) (r : Nat × Nat) (w : World) (h : gauss_residue.f a0 = some r) :
    Calls Try.prog 53 #[.complex .f64 a0.1 a0.2] w fun e w' => e = .returned (.complex .f64 r.1 r.2) ∧ Drawn0 w w' :=
  (Gauss.residue_calls a0 r h w).mono fun e w' ⟨he, hw⟩ => ⟨he, hw ▸ Drawn0.refl _⟩


-- NOT PRINTED: function 48 (gauss_both)

/-! ### gauss_Add: function 27 -/
def gauss_Add.f (a0 a1 : Nat × Nat) : Option (Nat × Nat) := Gauss.addB a0 a1
theorem gauss_Add.calls (a0 a1 : Nat × Nat) (r : Nat × Nat) (w : World) (h : gauss_Add.f a0 a1 = some r) :
    Calls Try.prog 27 #[.complex .f64 a0.1 a0.2, .complex .f64 a1.1 a1.2] w fun e w' => e = .returned (.complex .f64 r.1 r.2) ∧ Below w.heap.size w w' :=
  Gauss.add_calls a0 a1 r w h


/-! ### gauss_Sub: function 29 -/
def gauss_Sub.f (a0 a1 : Nat × Nat) : Option (Nat × Nat) := Gauss.subB a0 a1
theorem gauss_Sub.calls (a0 a1 : Nat × Nat) (r : Nat × Nat) (w : World) (h : gauss_Sub.f a0 a1 = some r) :
    Calls Try.prog 29 #[.complex .f64 a0.1 a0.2, .complex .f64 a1.1 a1.2] w fun e w' => e = .returned (.complex .f64 r.1 r.2) ∧ Below w.heap.size w w' :=
  Gauss.sub_calls a0 a1 r w h


/-! ### gauss_Mul: function 31 -/
def gauss_Mul.f (a0 a1 : Nat × Nat) : Option (Nat × Nat) := Gauss.mulB a0 a1
theorem gauss_Mul.calls (a0 a1 : Nat × Nat) (r : Nat × Nat) (w : World) (h : gauss_Mul.f a0 a1 = some r) :
    Calls Try.prog 31 #[.complex .f64 a0.1 a0.2, .complex .f64 a1.1 a1.2] w fun e w' => e = .returned (.complex .f64 r.1 r.2) ∧ Below w.heap.size w w' :=
  Gauss.mul_calls a0 a1 r w h


/-! ### gauss_Power: function 33 -/
def gauss_Power.l0 : Nat → (Nat × Nat) → Int → (Nat × Nat) → Option ((Nat × Nat))
  | 0, _, _, _ => none
  | k + 1, x0, x1, x5 => if x1 > 0 then (if (Go.bits .and .i64 x1 1) = 1 then ((gauss_Mul.f x5 x0).bind fun t102 => ((gauss_Mul.f x0 x0).bind fun t103 => (gauss_Power.l0 k t103 (x1 / 2) t102))) else ((gauss_Mul.f x0 x0).bind fun t104 => (gauss_Power.l0 k t104 (x1 / 2) x5))) else (some x5)
def gauss_Power.f (k : Nat) (a0 : (Nat × Nat)) (a1 : Int) : Option ((Nat × Nat)) := (gauss_Right.f a0).bind fun t101 => (if t101 = true then (gauss_Power.l0 k a0 a1 ((4607182418800017408, 0) : Nat × Nat)) else (some ((0, 0) : Nat × Nat)))
theorem gauss_Power.mono_l : ∀ k, (∀ y0 y1 y2, LeO (gauss_Power.l0 k y0 y1 y2) (gauss_Power.l0 (k + 1) y0 y1 y2))
  | 0 => fun _ _ _ r h => by simp [gauss_Power.l0] at h
  | k + 1 => by
    have ih0 := gauss_Power.mono_l k
    · intro y0 y1 y2
      unfold gauss_Power.l0
      repeat' first
      | (with_reducible exact ih0 _ _ _)
      | (with_reducible exact LeO.refl _)
      | (with_reducible exact LeO.none _)
      | (with_reducible refine LeO.ite ?_ ?_)
      | (with_reducible refine LeO.bind ?_ (fun _ => ?_))
      | exact ih0 _ _ _
      | exact LeO.none _
      | refine LeO.ite ?_ ?_
      | refine LeO.bind ?_ (fun _ => ?_)
theorem gauss_Power.mono : ∀ a0 a1 k, LeO (gauss_Power.f k a0 a1) (gauss_Power.f (k + 1) a0 a1) := by
  intro a0 a1 k
  have ih0 := gauss_Power.mono_l k
  unfold gauss_Power.f
  repeat' first
      | (with_reducible exact ih0 _ _ _)
      | (with_reducible exact LeO.refl _)
      | (with_reducible exact LeO.none _)
      | (with_reducible refine LeO.ite ?_ ?_)
      | (with_reducible refine LeO.bind ?_ (fun _ => ?_))
      | exact ih0 _ _ _
      | exact LeO.none _
      | refine LeO.ite ?_ ?_
      | refine LeO.bind ?_ (fun _ => ?_)
set_option maxHeartbeats 8000000 in
set_option maxRecDepth 100000 in
theorem gauss_Power.calls (k : Nat) (a0 : (Nat × Nat)) (a1 : Int) (r : (Nat × Nat)) (w : World) (h : gauss_Power.f k a0 a1 = some r) :
    Calls Try.prog 33 #[.complex .f64 a0.1 a0.2, .int .i64 a1] w fun e w' => e = .returned (.complex .f64 r.1 r.2) ∧ Below w.heap.size w w' := by
  have HB := Aside0.mk (Below.refl w.heap.size w)
  have H : ((gauss_Right.f a0).bind fun t101 => (if t101 = true then (gauss_Power.l0 k a0 a1 ((4607182418800017408, 0) : Nat × Nat)) else (some ((0, 0) : Nat × Nat)))) = some r := h
  clear h
  replace H := Option.bind_eq_some_iff.mp H
  obtain ⟨t101, A30, H⟩ := H
  replace H : (if t101 = true then (gauss_Power.l0 k a0 a1 ((4607182418800017408, 0) : Nat × Nat)) else (some ((0, 0) : Nat × Nat))) = some r := H
  have A3 := Aside0.mk A30
  clear A30
  by_cases c4 : t101 = true
  · subst c4
    have H1 : (gauss_Power.l0 k a0 a1 ((4607182418800017408, 0) : Nat × Nat)) = some r := by rw [if_pos rfl] at H; exact H
    clear H
    have H := H1
    clear H1
    have H' := Aside0.mk H
    clear H
    go_enter Try.func33, Try.ntmps33
    go_wp2_with (first | ((with_reducible refine gate_callee (f := 26) rfl ?_); refine goesL_ (some 7) rfl rfl Try.func26 (by kernel_rfl) rfl #[.complex .f64 a0.1 a0.2] rfl (by (try simp only [List.map_toArray, List.map_cons, List.map_nil]); first | done | rfl | (simp only [List.length_drop, List.length_take]; rfl)) ?_; (with_reducible refine (gauss_Right.calls a0 true _ A3.out).mono ?_); rintro e w' ⟨rfl, ⟨nd, rfl⟩⟩; refine ⟨_, rfl, ?_⟩))
    go_loopg [0, 1, 5] k (fun kq v0 v1 v5 w' => ∃ (x0_1 : (Nat × Nat)) (x1_1 : Int) (x5_1 : (Nat × Nat)), v0 = .complex .f64 x0_1.1 x0_1.2 ∧ v1 = .int .i64 x1_1 ∧ v5 = .complex .f64 x5_1.1 x5_1.2 ∧ Aside0 (gauss_Power.l0 kq x0_1 x1_1 x5_1 = some r) ∧ Aside0 (kq ≤ k) ∧ Aside0 (Below w.heap.size w w'))
    case atStart => exact ⟨(a0), (a1), (((4607182418800017408, 0) : Nat × Nat)), (by first | rfl | (simp; done) | (simp [*]; done)), (by first | rfl | (simp; done) | (simp [*]; done)), (by first | rfl | (simp; done) | (simp [*]; done)), H', ⟨Nat.le_refl _⟩, ⟨by repeat (first | (with_reducible first | exact HB.out | apply below_alloc | apply pw_below_drewN | apply below_drew1) | exact HB.out)⟩⟩
    case round =>
      clear H'
      try clear c2
      try clear p2
      try clear c3
      try clear c4
      obtain ⟨x0_1, x1_1, x5_1, rfl, rfl, rfl, HA, HK1, HB⟩ := hrel
      cases gk with
      | zero => exact absurd HA.out (by simp [gauss_Power.l0])
      | succ k1 =>
        have H := HA.out
        clear HA
        simp only [gauss_Power.l0] at H
        by_cases c5 : x1_1 > 0
        · rw [if_pos c5] at H
          have c5b0 : decide (0 < x1_1) = true := decide_eq_true c5
          clear c5
          by_cases c6 : (Go.bits .and .i64 x1_1 1) = 1
          · rw [if_pos c6] at H
            have c6b0 : ((Go.bits .and .i64 x1_1 1) == 1) = true := beq_iff_eq.mpr c6
            have c6b1 : ((Go.bits .and .i64 x1_1 1) != 1) = false := bne_eq_false_iff_eq.mpr c6
            clear c6
            replace H := Option.bind_eq_some_iff.mp H
            obtain ⟨t102, A70, H⟩ := H
            replace H : ((gauss_Mul.f x0_1 x0_1).bind fun t103 => (gauss_Power.l0 k1 t103 (x1_1 / 2) t102)) = some r := H
            have A7 := Aside0.mk A70
            clear A70
            replace H := Option.bind_eq_some_iff.mp H
            obtain ⟨t103, A80, H⟩ := H
            replace H : (gauss_Power.l0 k1 t103 (x1_1 / 2) t102) = some r := H
            have A8 := Aside0.mk A80
            clear A80
            have H' := Aside0.mk H
            clear H
            go_wp2_with (first | ((with_reducible refine gate_callee (f := 31) rfl ?_); refine goesL_ (some 18) rfl rfl Try.func31 (by kernel_rfl) rfl #[.complex .f64 x5_1.1 x5_1.2, .complex .f64 x0_1.1 x0_1.2] rfl (by (try simp only [List.map_toArray, List.map_cons, List.map_nil]); first | done | rfl | (simp only [List.length_drop, List.length_take]; rfl)) ?_; (with_reducible refine (gauss_Mul.calls x5_1 x0_1 t102 _ A7.out).mono ?_); rintro e w9 ⟨rfl, hb⟩; refine ⟨_, rfl, ?_⟩; have n0_ := Aside0.mk (below_step (by repeat (first | (with_reducible first | exact HB.out | apply below_alloc | apply pw_below_drewN | apply below_drew1) | exact HB.out)) hb); clear HB; have HB := n0_; clear n0_; (try clear hb); (try clear hb2); (try clear hk); (try clear hi)) | ((with_reducible refine gate_callee (f := 31) rfl ?_); refine goesL_ (some 21) rfl rfl Try.func31 (by kernel_rfl) rfl #[.complex .f64 x0_1.1 x0_1.2, .complex .f64 x0_1.1 x0_1.2] rfl (by (try simp only [List.map_toArray, List.map_cons, List.map_nil]); first | done | rfl | (simp only [List.length_drop, List.length_take]; rfl)) ?_; (with_reducible refine (gauss_Mul.calls x0_1 x0_1 t103 _ A8.out).mono ?_); rintro e w10 ⟨rfl, hb⟩; refine ⟨_, rfl, ?_⟩; have n0_ := Aside0.mk (below_step (by repeat (first | (with_reducible first | exact HB.out | apply below_alloc | apply pw_below_drewN | apply below_drew1) | exact HB.out)) hb); clear HB; have HB := n0_; clear n0_; (try clear hb); (try clear hb2); (try clear hk); (try clear hi)))
            go_roundg k1
            case measure => have := HK1.out; omega
            case rel => exact ⟨(t103), (x1_1 / 2), (t102), (by first | rfl | (simp; done) | (simp [*]; done)), (by first | rfl | (simp; done) | (simp [*]; done)), (by first | rfl | (simp; done) | (simp [*]; done)), H', ⟨by have := HK1.out; omega⟩, ⟨by repeat (first | (with_reducible first | exact HB.out | apply below_alloc | apply pw_below_drewN | apply below_drew1) | exact HB.out)⟩⟩
          · rw [if_neg c6] at H
            have c6b0 : ((Go.bits .and .i64 x1_1 1) == 1) = false := beq_eq_false_iff_ne.mpr c6
            have c6b1 : ((Go.bits .and .i64 x1_1 1) != 1) = true := bne_iff_ne.mpr c6
            replace H := Option.bind_eq_some_iff.mp H
            obtain ⟨t104, A110, H⟩ := H
            replace H : (gauss_Power.l0 k1 t104 (x1_1 / 2) x5_1) = some r := H
            have A11 := Aside0.mk A110
            clear A110
            have H' := Aside0.mk H
            clear H
            go_wp2_with (first | ((with_reducible refine gate_callee (f := 31) rfl ?_); refine goesL_ (some 21) rfl rfl Try.func31 (by kernel_rfl) rfl #[.complex .f64 x0_1.1 x0_1.2, .complex .f64 x0_1.1 x0_1.2] rfl (by (try simp only [List.map_toArray, List.map_cons, List.map_nil]); first | done | rfl | (simp only [List.length_drop, List.length_take]; rfl)) ?_; (with_reducible refine (gauss_Mul.calls x0_1 x0_1 t104 _ A11.out).mono ?_); rintro e w12 ⟨rfl, hb⟩; refine ⟨_, rfl, ?_⟩; have n0_ := Aside0.mk (below_step (by repeat (first | (with_reducible first | exact HB.out | apply below_alloc | apply pw_below_drewN | apply below_drew1) | exact HB.out)) hb); clear HB; have HB := n0_; clear n0_; (try clear hb); (try clear hb2); (try clear hk); (try clear hi)))
            go_roundg k1
            case measure => have := HK1.out; omega
            case rel => exact ⟨(t104), (x1_1 / 2), (x5_1), (by first | rfl | (simp; done) | (simp [*]; done)), (by first | rfl | (simp; done) | (simp [*]; done)), (by first | rfl | (simp; done) | (simp [*]; done)), H', ⟨by have := HK1.out; omega⟩, ⟨by repeat (first | (with_reducible first | exact HB.out | apply below_alloc | apply pw_below_drewN | apply below_drew1) | exact HB.out)⟩⟩
        · rw [if_neg c5] at H
          have c5b0 : decide (0 < x1_1) = false := decide_eq_false c5
          clear c5
          obtain rfl := Option.some.inj H
          go_wp2
          go_ret
          exact ⟨by first | rfl | (simp [errW_none, errW_some] <;> rfl) | (simp [*, errW_none, errW_some] <;> rfl), by repeat (first | (with_reducible first | exact HB.out | apply below_alloc | apply pw_below_drewN | apply below_drew1) | exact HB.out)⟩
  · replace c4 := Bool.eq_false_iff.mpr c4
    subst c4
    have H1 : (some ((0, 0) : Nat × Nat)) = some r := by rw [if_neg (show ¬ (false = true) by decide)] at H; exact H
    clear H
    have H := H1
    clear H1
    obtain rfl := Option.some.inj H
    go_enter Try.func33, Try.ntmps33
    go_wp2_with (first | ((with_reducible refine gate_callee (f := 26) rfl ?_); refine goesL_ (some 7) rfl rfl Try.func26 (by kernel_rfl) rfl #[.complex .f64 a0.1 a0.2] rfl (by (try simp only [List.map_toArray, List.map_cons, List.map_nil]); first | done | rfl | (simp only [List.length_drop, List.length_take]; rfl)) ?_; (with_reducible refine (gauss_Right.calls a0 false _ A3.out).mono ?_); rintro e w' ⟨rfl, ⟨nd, rfl⟩⟩; refine ⟨_, rfl, ?_⟩))
    go_ret
    exact ⟨by first | rfl | (simp [errW_none, errW_some] <;> rfl) | (simp [*, errW_none, errW_some] <;> rfl), by repeat (first | (with_reducible first | exact HB.out | apply below_alloc | apply pw_below_drewN | apply below_drew1) | exact HB.out)⟩

/-! ### gauss_Turn: function 35 -/
def gauss_Turn.f (k : Nat) (a0 : (Nat × Nat)) (a1 : Int) : Option ((Nat × Nat)) := (gauss_Power.f k ((0, 4607182418800017408) : Nat × Nat) (Go.bits .and .i64 a1 3)).bind fun t105 => ((gauss_Mul.f a0 t105).bind fun t106 => (some t106))
theorem gauss_Turn.mono : ∀ a0 a1 k, LeO (gauss_Turn.f k a0 a1) (gauss_Turn.f (k + 1) a0 a1) := by
  intro a0 a1 k
  unfold gauss_Turn.f
  repeat' first
      | (with_reducible exact gauss_Power.mono _ _ _)
      | (with_reducible exact LeO.refl _)
      | (with_reducible exact LeO.none _)
      | (with_reducible refine LeO.ite ?_ ?_)
      | (with_reducible refine LeO.bind ?_ (fun _ => ?_))
      | exact gauss_Power.mono _ _ _
      | exact LeO.none _
      | refine LeO.ite ?_ ?_
      | refine LeO.bind ?_ (fun _ => ?_)
set_option maxHeartbeats 8000000 in
set_option maxRecDepth 100000 in
theorem gauss_Turn.calls (k : Nat) (a0 : (Nat × Nat)) (a1 : Int) (r : (Nat × Nat)) (w : World) (h : gauss_Turn.f k a0 a1 = some r) :
    Calls Try.prog 35 #[.complex .f64 a0.1 a0.2, .int .i64 a1] w fun e w' => e = .returned (.complex .f64 r.1 r.2) ∧ Below w.heap.size w w' := by
  have HB := Aside0.mk (Below.refl w.heap.size w)
  have H : ((gauss_Power.f k ((0, 4607182418800017408) : Nat × Nat) (Go.bits .and .i64 a1 3)).bind fun t105 => ((gauss_Mul.f a0 t105).bind fun t106 => (some t106))) = some r := h
  clear h
  replace H := Option.bind_eq_some_iff.mp H
  obtain ⟨t105, A30, H⟩ := H
  replace H : ((gauss_Mul.f a0 t105).bind fun t106 => (some t106)) = some r := H
  have A3 := Aside0.mk A30
  clear A30
  replace H := Option.bind_eq_some_iff.mp H
  obtain ⟨t106, A40, H⟩ := H
  replace H : (some t106) = some r := H
  have A4 := Aside0.mk A40
  clear A40
  obtain rfl := Option.some.inj H
  go_enter Try.func35, Try.ntmps35
  go_wp2_with (first | ((with_reducible refine gate_callee (f := 33) rfl ?_); refine goesL_ (some 8) rfl rfl Try.func33 (by kernel_rfl) rfl #[.complex .f64 0 4607182418800017408, .int .i64 (Go.bits .and .i64 a1 3)] rfl (by (try simp only [List.map_toArray, List.map_cons, List.map_nil]); first | done | rfl | (simp only [List.length_drop, List.length_take]; rfl)) ?_; (with_reducible refine (gauss_Power.calls k ((0, 4607182418800017408) : Nat × Nat) (Go.bits .and .i64 a1 3) t105 _ A3.out).mono ?_); rintro e w5 ⟨rfl, hb⟩; refine ⟨_, rfl, ?_⟩; have n0_ := Aside0.mk (below_step (by repeat (first | (with_reducible first | exact HB.out | apply below_alloc | apply pw_below_drewN | apply below_drew1) | exact HB.out)) hb); clear HB; have HB := n0_; clear n0_; (try clear hb); (try clear hb2); (try clear hk); (try clear hi)) | ((with_reducible refine gate_callee (f := 31) rfl ?_); refine goesL_ (some 9) rfl rfl Try.func31 (by kernel_rfl) rfl #[.complex .f64 a0.1 a0.2, .complex .f64 t105.1 t105.2] rfl (by (try simp only [List.map_toArray, List.map_cons, List.map_nil]); first | done | rfl | (simp only [List.length_drop, List.length_take]; rfl)) ?_; (with_reducible refine (gauss_Mul.calls a0 t105 t106 _ A4.out).mono ?_); rintro e w6 ⟨rfl, hb⟩; refine ⟨_, rfl, ?_⟩; have n0_ := Aside0.mk (below_step (by repeat (first | (with_reducible first | exact HB.out | apply below_alloc | apply pw_below_drewN | apply below_drew1) | exact HB.out)) hb); clear HB; have HB := n0_; clear n0_; (try clear hb); (try clear hb2); (try clear hk); (try clear hi)))
  go_ret
  exact ⟨by first | rfl | (simp [errW_none, errW_some] <;> rfl) | (simp [*, errW_none, errW_some] <;> rfl), by repeat (first | (with_reducible first | exact HB.out | apply below_alloc | apply pw_below_drewN | apply below_drew1) | exact HB.out)⟩

/-! ### gauss_Inverse: function 37 -/
def gauss_Inverse.j0 : Nat → (Nat × Nat) → Bool → Option ((Nat × Nat) × Bool)
  | 0, _, _ => none
  | k + 1, x0, x12 => if x12 = true then (some (((0, 0) : Nat × Nat), false)) else ((gauss_residue.f ((x0.1, Go.Op.negFloat .f64 x0.2) : Nat × Nat)).bind fun t108 => ((gauss_Mul.f x0 t108).bind fun t109 => ((gauss_Power.f k t109 65517).bind fun t110 => ((gauss_Mul.f t108 t110).bind fun t111 => (some (t111, true))))))
def gauss_Inverse.f (k : Nat) (a0 : (Nat × Nat)) : Option ((Nat × Nat) × Bool) := (gauss_Right.f a0).bind fun t107 => (if t107 = true then (gauss_Inverse.j0 k a0 (ceq a0 ((0, 0) : Nat × Nat))) else (gauss_Inverse.j0 k a0 true))
theorem gauss_Inverse.mono_l : ∀ k, (∀ y0 y1, LeO (gauss_Inverse.j0 k y0 y1) (gauss_Inverse.j0 (k + 1) y0 y1))
  | 0 => fun _ _ r h => by simp [gauss_Inverse.j0] at h
  | k + 1 => by
    have ih0 := gauss_Inverse.mono_l k
    · intro y0 y1
      unfold gauss_Inverse.j0
      repeat' first
      | (with_reducible exact ih0 _ _)
      | (with_reducible exact gauss_Power.mono _ _ _)
      | (with_reducible exact LeO.refl _)
      | (with_reducible exact LeO.none _)
      | (with_reducible refine LeO.ite ?_ ?_)
      | (with_reducible refine LeO.bind ?_ (fun _ => ?_))
      | exact ih0 _ _
      | exact gauss_Power.mono _ _ _
      | exact LeO.none _
      | refine LeO.ite ?_ ?_
      | refine LeO.bind ?_ (fun _ => ?_)
theorem gauss_Inverse.mono : ∀ a0 k, LeO (gauss_Inverse.f k a0) (gauss_Inverse.f (k + 1) a0) := by
  intro a0 k
  have ih0 := gauss_Inverse.mono_l k
  unfold gauss_Inverse.f
  repeat' first
      | (with_reducible exact ih0 _ _)
      | (with_reducible exact gauss_Power.mono _ _ _)
      | (with_reducible exact LeO.refl _)
      | (with_reducible exact LeO.none _)
      | (with_reducible refine LeO.ite ?_ ?_)
      | (with_reducible refine LeO.bind ?_ (fun _ => ?_))
      | exact ih0 _ _
      | exact gauss_Power.mono _ _ _
      | exact LeO.none _
      | refine LeO.ite ?_ ?_
      | refine LeO.bind ?_ (fun _ => ?_)
set_option maxHeartbeats 8000000 in
set_option maxRecDepth 100000 in
theorem gauss_Inverse.calls (k : Nat) (a0 : (Nat × Nat)) (r1 : (Nat × Nat)) (r2 : Bool) (w : World) (h : gauss_Inverse.f k a0 = some (r1, r2)) :
    Calls Try.prog 37 #[.complex .f64 a0.1 a0.2] w fun e w' => e = .returned (.tuple #[.complex .f64 r1.1 r1.2, .bool r2]) ∧ Below w.heap.size w w' := by
  have HB := Aside0.mk (Below.refl w.heap.size w)
  have H : ((gauss_Right.f a0).bind fun t107 => (if t107 = true then (gauss_Inverse.j0 k a0 (ceq a0 ((0, 0) : Nat × Nat))) else (gauss_Inverse.j0 k a0 true))) = some (r1, r2) := h
  clear h
  have HC2 := Aside0.mk H
  clear H
  go_enter Try.func37, Try.ntmps37
  go_upto_region 1 with (fail)
  go_cut [12] (fun v12 wc => ∃ (kq : Nat) (x12_1 : Bool), v12 = .bool x12_1 ∧ Aside0 (gauss_Inverse.j0 kq a0 x12_1 = some (r1, r2)) ∧ Aside0 (kq ≤ k) ∧ Aside0 (Below w.heap.size w wc))
  case first =>
    have H := HC2.out
    clear HC2
    replace H := Option.bind_eq_some_iff.mp H
    obtain ⟨t107, A30, H⟩ := H
    replace H : (if t107 = true then (gauss_Inverse.j0 k a0 (ceq a0 ((0, 0) : Nat × Nat))) else (gauss_Inverse.j0 k a0 true)) = some (r1, r2) := H
    have A3 := Aside0.mk A30
    clear A30
    by_cases c4 : t107 = true
    · subst c4
      have H1 : (gauss_Inverse.j0 k a0 (ceq a0 ((0, 0) : Nat × Nat))) = some (r1, r2) := by rw [if_pos rfl] at H; exact H
      clear H
      have H := H1
      clear H1
      have H' := Aside0.mk H
      clear H
      go_wp2_with (first | ((with_reducible refine gate_callee (f := 26) rfl ?_); refine goesL_ (some 7) rfl rfl Try.func26 (by kernel_rfl) rfl #[.complex .f64 a0.1 a0.2] rfl (by (try simp only [List.map_toArray, List.map_cons, List.map_nil]); first | done | rfl | (simp only [List.length_drop, List.length_take]; rfl)) ?_; (with_reducible refine (gauss_Right.calls a0 true _ A3.out).mono ?_); rintro e w' ⟨rfl, ⟨nd, rfl⟩⟩; refine ⟨_, rfl, ?_⟩))
      go_meet
      case rel => exact ⟨_, ((ceq a0 ((0, 0) : Nat × Nat))), (by first | rfl | (simp; done) | (simp [*]; done)), H', ⟨by first | omega | exact Nat.le_refl _⟩, ⟨by repeat (first | (with_reducible first | exact HB.out | apply below_alloc | apply pw_below_drewN | apply below_drew1) | exact HB.out)⟩⟩
    · replace c4 := Bool.eq_false_iff.mpr c4
      subst c4
      have H1 : (gauss_Inverse.j0 k a0 true) = some (r1, r2) := by rw [if_neg (show ¬ (false = true) by decide)] at H; exact H
      clear H
      have H := H1
      clear H1
      have H' := Aside0.mk H
      clear H
      go_wp2_with (first | ((with_reducible refine gate_callee (f := 26) rfl ?_); refine goesL_ (some 7) rfl rfl Try.func26 (by kernel_rfl) rfl #[.complex .f64 a0.1 a0.2] rfl (by (try simp only [List.map_toArray, List.map_cons, List.map_nil]); first | done | rfl | (simp only [List.length_drop, List.length_take]; rfl)) ?_; (with_reducible refine (gauss_Right.calls a0 false _ A3.out).mono ?_); rintro e w' ⟨rfl, ⟨nd, rfl⟩⟩; refine ⟨_, rfl, ?_⟩))
      go_meet
      case rel => exact ⟨_, (true), (by first | rfl | (simp; done) | (simp [*]; done)), H', ⟨by first | omega | exact Nat.le_refl _⟩, ⟨by repeat (first | (with_reducible first | exact HB.out | apply below_alloc | apply pw_below_drewN | apply below_drew1) | exact HB.out)⟩⟩
  case rest =>
    clear HC2
    try clear c2
    try clear p2
    try clear c3
    try clear c4
    obtain ⟨kq, x12_1, rfl, HA, HJ1, HB⟩ := hcut
    cases kq with
    | zero => exact absurd HA.out (by simp [gauss_Inverse.j0])
    | succ kj1 =>
      have H := HA.out
      clear HA
      simp only [gauss_Inverse.j0] at H
      by_cases c5 : x12_1 = true
      · subst c5
        have H1 : (some (((0, 0) : Nat × Nat), false)) = some (r1, r2) := by rw [if_pos rfl] at H; exact H
        clear H
        have H := H1
        clear H1
        simp only [Option.some.injEq, Prod.mk.injEq] at H
        obtain ⟨rfl, rfl⟩ := H
        go_wp2
        go_ret2
        exact ⟨by first | rfl | (simp [errW_none, errW_some] <;> rfl) | (simp [*, errW_none, errW_some] <;> rfl), by repeat (first | (with_reducible first | exact HB.out | apply below_alloc | apply pw_below_drewN | apply below_drew1) | exact HB.out)⟩
      · replace c5 := Bool.eq_false_iff.mpr c5
        subst c5
        have H1 : ((gauss_residue.f ((a0.1, Go.Op.negFloat .f64 a0.2) : Nat × Nat)).bind fun t108 => ((gauss_Mul.f a0 t108).bind fun t109 => ((gauss_Power.f kj1 t109 65517).bind fun t110 => ((gauss_Mul.f t108 t110).bind fun t111 => (some (t111, true)))))) = some (r1, r2) := by rw [if_neg (show ¬ (false = true) by decide)] at H; exact H
        clear H
        have H := H1
        clear H1
        replace H := Option.bind_eq_some_iff.mp H
        obtain ⟨t108, A60, H⟩ := H
        replace H : ((gauss_Mul.f a0 t108).bind fun t109 => ((gauss_Power.f kj1 t109 65517).bind fun t110 => ((gauss_Mul.f t108 t110).bind fun t111 => (some (t111, true))))) = some (r1, r2) := H
        have A6 := Aside0.mk A60
        clear A60
        replace H := Option.bind_eq_some_iff.mp H
        obtain ⟨t109, A70, H⟩ := H
        replace H : ((gauss_Power.f kj1 t109 65517).bind fun t110 => ((gauss_Mul.f t108 t110).bind fun t111 => (some (t111, true)))) = some (r1, r2) := H
        have A7 := Aside0.mk A70
        clear A70
        replace H := Option.bind_eq_some_iff.mp H
        obtain ⟨t110, A80, H⟩ := H
        replace H : ((gauss_Mul.f t108 t110).bind fun t111 => (some (t111, true))) = some (r1, r2) := H
        have A8 := Aside0.mk A80
        clear A80
        replace H := Option.bind_eq_some_iff.mp H
        obtain ⟨t111, A90, H⟩ := H
        replace H : (some (t111, true)) = some (r1, r2) := H
        have A9 := Aside0.mk A90
        clear A90
        simp only [Option.some.injEq, Prod.mk.injEq] at H
        obtain ⟨rfl, rfl⟩ := H
        go_wp2_with (first | ((with_reducible refine gate_callee (f := 53) rfl ?_); refine goesL_ (some 19) rfl rfl Try.func53 (by kernel_rfl) rfl #[.complex .f64 a0.1 (Go.Op.negFloat .f64 a0.2)] rfl (by (try simp only [List.map_toArray, List.map_cons, List.map_nil]); first | done | rfl | (simp only [List.length_drop, List.length_take]; rfl)) ?_; (with_reducible refine (gauss_residue.calls ((a0.1, Go.Op.negFloat .f64 a0.2) : Nat × Nat) t108 _ A6.out).mono ?_); rintro e w' ⟨rfl, ⟨nd, rfl⟩⟩; refine ⟨_, rfl, ?_⟩) | ((with_reducible refine gate_callee (f := 31) rfl ?_); refine goesL_ (some 22) rfl rfl Try.func31 (by kernel_rfl) rfl #[.complex .f64 a0.1 a0.2, .complex .f64 t108.1 t108.2] rfl (by (try simp only [List.map_toArray, List.map_cons, List.map_nil]); first | done | rfl | (simp only [List.length_drop, List.length_take]; rfl)) ?_; (with_reducible refine (gauss_Mul.calls a0 t108 t109 _ A7.out).mono ?_); rintro e w10 ⟨rfl, hb⟩; refine ⟨_, rfl, ?_⟩; have n0_ := Aside0.mk (below_step (by repeat (first | (with_reducible first | exact HB.out | apply below_alloc | apply pw_below_drewN | apply below_drew1) | exact HB.out)) hb); clear HB; have HB := n0_; clear n0_; (try clear hb); (try clear hb2); (try clear hk); (try clear hi)) | ((with_reducible refine gate_callee (f := 33) rfl ?_); refine goesL_ (some 25) rfl rfl Try.func33 (by kernel_rfl) rfl #[.complex .f64 t109.1 t109.2, .int .i64 65517] rfl (by (try simp only [List.map_toArray, List.map_cons, List.map_nil]); first | done | rfl | (simp only [List.length_drop, List.length_take]; rfl)) ?_; (with_reducible refine (gauss_Power.calls kj1 t109 65517 t110 _ A8.out).mono ?_); rintro e w11 ⟨rfl, hb⟩; refine ⟨_, rfl, ?_⟩; have n0_ := Aside0.mk (below_step (by repeat (first | (with_reducible first | exact HB.out | apply below_alloc | apply pw_below_drewN | apply below_drew1) | exact HB.out)) hb); clear HB; have HB := n0_; clear n0_; (try clear hb); (try clear hb2); (try clear hk); (try clear hi)) | ((with_reducible refine gate_callee (f := 31) rfl ?_); refine goesL_ (some 26) rfl rfl Try.func31 (by kernel_rfl) rfl #[.complex .f64 t108.1 t108.2, .complex .f64 t110.1 t110.2] rfl (by (try simp only [List.map_toArray, List.map_cons, List.map_nil]); first | done | rfl | (simp only [List.length_drop, List.length_take]; rfl)) ?_; (with_reducible refine (gauss_Mul.calls t108 t110 t111 _ A9.out).mono ?_); rintro e w12 ⟨rfl, hb⟩; refine ⟨_, rfl, ?_⟩; have n0_ := Aside0.mk (below_step (by repeat (first | (with_reducible first | exact HB.out | apply below_alloc | apply pw_below_drewN | apply below_drew1) | exact HB.out)) hb); clear HB; have HB := n0_; clear n0_; (try clear hb); (try clear hb2); (try clear hk); (try clear hi)))
        go_ret2
        exact ⟨by first | rfl | (simp [errW_none, errW_some] <;> rfl) | (simp [*, errW_none, errW_some] <;> rfl), by repeat (first | (with_reducible first | exact HB.out | apply below_alloc | apply pw_below_drewN | apply below_drew1) | exact HB.out)⟩

/-! ### quitclaimlaw22_awake: function 36 -/
def quitclaimlaw22_awake.f (k : Nat)  : Option (Bool) := (gauss_Inverse.f k ((0, 4607182418800017408) : Nat × Nat)).bind fun bt112 => (if bt112.2 = true then (if (ceq bt112.1 ((0, 4679237538936782848) : Nat × Nat)) = true then (some true) else (some false)) else (some false))
theorem quitclaimlaw22_awake.mono : ∀ k, LeO (quitclaimlaw22_awake.f k ) (quitclaimlaw22_awake.f (k + 1) ) := by
  intro  k
  unfold quitclaimlaw22_awake.f
  repeat' first
      | (with_reducible exact gauss_Inverse.mono _ _)
      | (with_reducible exact LeO.refl _)
      | (with_reducible exact LeO.none _)
      | (with_reducible refine LeO.ite ?_ ?_)
      | (with_reducible refine LeO.bind ?_ (fun _ => ?_))
      | exact gauss_Inverse.mono _ _
      | exact LeO.none _
      | refine LeO.ite ?_ ?_
      | refine LeO.bind ?_ (fun _ => ?_)
set_option maxHeartbeats 8000000 in
set_option maxRecDepth 100000 in
theorem quitclaimlaw22_awake.calls (k : Nat)  (r : Bool) (w : World) (h : quitclaimlaw22_awake.f k  = some r) :
    Calls Try.prog 36 #[] w fun e w' => e = .returned (.bool r) ∧ Below w.heap.size w w' := by
  have HB := Aside0.mk (Below.refl w.heap.size w)
  have H : ((gauss_Inverse.f k ((0, 4607182418800017408) : Nat × Nat)).bind fun bt112 => (if bt112.2 = true then (if (ceq bt112.1 ((0, 4679237538936782848) : Nat × Nat)) = true then (some true) else (some false)) else (some false))) = some r := h
  clear h
  replace H := Option.bind_eq_some_iff.mp H
  obtain ⟨⟨t112, t113⟩, A10, H⟩ := H
  replace H : (if t113 = true then (if (ceq t112 ((0, 4679237538936782848) : Nat × Nat)) = true then (some true) else (some false)) else (some false)) = some r := H
  have A1 := Aside0.mk A10
  clear A10
  by_cases c2 : t113 = true
  · subst c2
    have H1 : (if (ceq t112 ((0, 4679237538936782848) : Nat × Nat)) = true then (some true) else (some false)) = some r := by rw [if_pos rfl] at H; exact H
    clear H
    have H := H1
    clear H1
    by_cases c3 : (ceq t112 ((0, 4679237538936782848) : Nat × Nat)) = true
    · rw [if_pos c3] at H
      have c3b0 : (ceq t112 ((0, 4679237538936782848) : Nat × Nat)) = true := c3
      clear c3
      obtain rfl := Option.some.inj H
      go_enter Try.func36, Try.ntmps36
      go_wp2_with (first | ((with_reducible refine gate_callee (f := 37) rfl ?_); refine goesL_ (some 4) rfl rfl Try.func37 (by kernel_rfl) rfl #[.complex .f64 0 4607182418800017408] rfl (by (try simp only [List.map_toArray, List.map_cons, List.map_nil]); first | done | rfl | (simp only [List.length_drop, List.length_take]; rfl)) ?_; (with_reducible refine (gauss_Inverse.calls k ((0, 4607182418800017408) : Nat × Nat) t112 true _ A1.out).mono ?_); rintro e w4 ⟨rfl, hb⟩; refine ⟨_, rfl, ?_⟩; have n0_ := Aside0.mk (below_step (by repeat (first | (with_reducible first | exact HB.out | apply below_alloc | apply pw_below_drewN | apply below_drew1) | exact HB.out)) hb); clear HB; have HB := n0_; clear n0_; (try clear hb); (try clear hb2); (try clear hk); (try clear hi)))
      go_ret
      exact ⟨by first | rfl | (simp [errW_none, errW_some] <;> rfl) | (simp [*, errW_none, errW_some] <;> rfl), by repeat (first | (with_reducible first | exact HB.out | apply below_alloc | apply pw_below_drewN | apply below_drew1) | exact HB.out)⟩
    · rw [if_neg c3] at H
      have c3b0 : (ceq t112 ((0, 4679237538936782848) : Nat × Nat)) = false := by simpa using c3
      clear c3
      obtain rfl := Option.some.inj H
      go_enter Try.func36, Try.ntmps36
      go_wp2_with (first | ((with_reducible refine gate_callee (f := 37) rfl ?_); refine goesL_ (some 4) rfl rfl Try.func37 (by kernel_rfl) rfl #[.complex .f64 0 4607182418800017408] rfl (by (try simp only [List.map_toArray, List.map_cons, List.map_nil]); first | done | rfl | (simp only [List.length_drop, List.length_take]; rfl)) ?_; (with_reducible refine (gauss_Inverse.calls k ((0, 4607182418800017408) : Nat × Nat) t112 true _ A1.out).mono ?_); rintro e w5 ⟨rfl, hb⟩; refine ⟨_, rfl, ?_⟩; have n0_ := Aside0.mk (below_step (by repeat (first | (with_reducible first | exact HB.out | apply below_alloc | apply pw_below_drewN | apply below_drew1) | exact HB.out)) hb); clear HB; have HB := n0_; clear n0_; (try clear hb); (try clear hb2); (try clear hk); (try clear hi)))
      go_ret
      exact ⟨by first | rfl | (simp [errW_none, errW_some] <;> rfl) | (simp [*, errW_none, errW_some] <;> rfl), by repeat (first | (with_reducible first | exact HB.out | apply below_alloc | apply pw_below_drewN | apply below_drew1) | exact HB.out)⟩
  · replace c2 := Bool.eq_false_iff.mpr c2
    subst c2
    have H1 : (some false) = some r := by rw [if_neg (show ¬ (false = true) by decide)] at H; exact H
    clear H
    have H := H1
    clear H1
    obtain rfl := Option.some.inj H
    go_enter Try.func36, Try.ntmps36
    go_wp2_with (first | ((with_reducible refine gate_callee (f := 37) rfl ?_); refine goesL_ (some 4) rfl rfl Try.func37 (by kernel_rfl) rfl #[.complex .f64 0 4607182418800017408] rfl (by (try simp only [List.map_toArray, List.map_cons, List.map_nil]); first | done | rfl | (simp only [List.length_drop, List.length_take]; rfl)) ?_; (with_reducible refine (gauss_Inverse.calls k ((0, 4607182418800017408) : Nat × Nat) t112 false _ A1.out).mono ?_); rintro e w6 ⟨rfl, hb⟩; refine ⟨_, rfl, ?_⟩; have n0_ := Aside0.mk (below_step (by repeat (first | (with_reducible first | exact HB.out | apply below_alloc | apply pw_below_drewN | apply below_drew1) | exact HB.out)) hb); clear HB; have HB := n0_; clear n0_; (try clear hb); (try clear hb2); (try clear hk); (try clear hi)))
    go_ret
    exact ⟨by first | rfl | (simp [errW_none, errW_some] <;> rfl) | (simp [*, errW_none, errW_some] <;> rfl), by repeat (first | (with_reducible first | exact HB.out | apply below_alloc | apply pw_below_drewN | apply below_drew1) | exact HB.out)⟩

/-! ### gauss_Divide: function 38 -/
def gauss_Divide.f (k : Nat) (a0 : (Nat × Nat)) (a1 : (Nat × Nat)) : Option ((Nat × Nat) × Bool) := (gauss_Inverse.f k a1).bind fun bt114 => (if bt114.2 = true then ((gauss_Right.f a0).bind fun t116 => (if t116 = true then ((gauss_Mul.f a0 bt114.1).bind fun t117 => (some (t117, true))) else (some (((0, 0) : Nat × Nat), false)))) else (some (((0, 0) : Nat × Nat), false)))
theorem gauss_Divide.mono : ∀ a0 a1 k, LeO (gauss_Divide.f k a0 a1) (gauss_Divide.f (k + 1) a0 a1) := by
  intro a0 a1 k
  unfold gauss_Divide.f
  repeat' first
      | (with_reducible exact gauss_Inverse.mono _ _)
      | (with_reducible exact LeO.refl _)
      | (with_reducible exact LeO.none _)
      | (with_reducible refine LeO.ite ?_ ?_)
      | (with_reducible refine LeO.bind ?_ (fun _ => ?_))
      | exact gauss_Inverse.mono _ _
      | exact LeO.none _
      | refine LeO.ite ?_ ?_
      | refine LeO.bind ?_ (fun _ => ?_)
set_option maxHeartbeats 8000000 in
set_option maxRecDepth 100000 in
theorem gauss_Divide.calls (k : Nat) (a0 : (Nat × Nat)) (a1 : (Nat × Nat)) (r1 : (Nat × Nat)) (r2 : Bool) (w : World) (h : gauss_Divide.f k a0 a1 = some (r1, r2)) :
    Calls Try.prog 38 #[.complex .f64 a0.1 a0.2, .complex .f64 a1.1 a1.2] w fun e w' => e = .returned (.tuple #[.complex .f64 r1.1 r1.2, .bool r2]) ∧ Below w.heap.size w w' := by
  have HB := Aside0.mk (Below.refl w.heap.size w)
  have H : ((gauss_Inverse.f k a1).bind fun bt114 => (if bt114.2 = true then ((gauss_Right.f a0).bind fun t116 => (if t116 = true then ((gauss_Mul.f a0 bt114.1).bind fun t117 => (some (t117, true))) else (some (((0, 0) : Nat × Nat), false)))) else (some (((0, 0) : Nat × Nat), false)))) = some (r1, r2) := h
  clear h
  replace H := Option.bind_eq_some_iff.mp H
  obtain ⟨⟨t114, t115⟩, A30, H⟩ := H
  replace H : (if t115 = true then ((gauss_Right.f a0).bind fun t116 => (if t116 = true then ((gauss_Mul.f a0 t114).bind fun t117 => (some (t117, true))) else (some (((0, 0) : Nat × Nat), false)))) else (some (((0, 0) : Nat × Nat), false))) = some (r1, r2) := H
  have A3 := Aside0.mk A30
  clear A30
  by_cases c4 : t115 = true
  · subst c4
    have H1 : ((gauss_Right.f a0).bind fun t116 => (if t116 = true then ((gauss_Mul.f a0 t114).bind fun t117 => (some (t117, true))) else (some (((0, 0) : Nat × Nat), false)))) = some (r1, r2) := by rw [if_pos rfl] at H; exact H
    clear H
    have H := H1
    clear H1
    replace H := Option.bind_eq_some_iff.mp H
    obtain ⟨t116, A50, H⟩ := H
    replace H : (if t116 = true then ((gauss_Mul.f a0 t114).bind fun t117 => (some (t117, true))) else (some (((0, 0) : Nat × Nat), false))) = some (r1, r2) := H
    have A5 := Aside0.mk A50
    clear A50
    by_cases c6 : t116 = true
    · subst c6
      have H1 : ((gauss_Mul.f a0 t114).bind fun t117 => (some (t117, true))) = some (r1, r2) := by rw [if_pos rfl] at H; exact H
      clear H
      have H := H1
      clear H1
      replace H := Option.bind_eq_some_iff.mp H
      obtain ⟨t117, A70, H⟩ := H
      replace H : (some (t117, true)) = some (r1, r2) := H
      have A7 := Aside0.mk A70
      clear A70
      simp only [Option.some.injEq, Prod.mk.injEq] at H
      obtain ⟨rfl, rfl⟩ := H
      go_enter Try.func38, Try.ntmps38
      go_wp2_with (first | ((with_reducible refine gate_callee (f := 37) rfl ?_); refine goesL_ (some 10) rfl rfl Try.func37 (by kernel_rfl) rfl #[.complex .f64 a1.1 a1.2] rfl (by (try simp only [List.map_toArray, List.map_cons, List.map_nil]); first | done | rfl | (simp only [List.length_drop, List.length_take]; rfl)) ?_; (with_reducible refine (gauss_Inverse.calls k a1 t114 true _ A3.out).mono ?_); rintro e w8 ⟨rfl, hb⟩; refine ⟨_, rfl, ?_⟩; have n0_ := Aside0.mk (below_step (by repeat (first | (with_reducible first | exact HB.out | apply below_alloc | apply pw_below_drewN | apply below_drew1) | exact HB.out)) hb); clear HB; have HB := n0_; clear n0_; (try clear hb); (try clear hb2); (try clear hk); (try clear hi)) | (go_at_call 26; (with_reducible refine (gauss_Right.calls a0 true _ A5.out).mono ?_); rintro e w' ⟨rfl, ⟨nd, rfl⟩⟩) | ((with_reducible refine gate_callee (f := 31) rfl ?_); refine goesL_ (some 22) rfl rfl Try.func31 (by kernel_rfl) rfl #[.complex .f64 a0.1 a0.2, .complex .f64 t114.1 t114.2] rfl (by (try simp only [List.map_toArray, List.map_cons, List.map_nil]); first | done | rfl | (simp only [List.length_drop, List.length_take]; rfl)) ?_; (with_reducible refine (gauss_Mul.calls a0 t114 t117 _ A7.out).mono ?_); rintro e w9 ⟨rfl, hb⟩; refine ⟨_, rfl, ?_⟩; have n0_ := Aside0.mk (below_step (by repeat (first | (with_reducible first | exact HB.out | apply below_alloc | apply pw_below_drewN | apply below_drew1) | exact HB.out)) hb); clear HB; have HB := n0_; clear n0_; (try clear hb); (try clear hb2); (try clear hk); (try clear hi)))
      go_ret2
      exact ⟨by first | rfl | (simp [errW_none, errW_some] <;> rfl) | (simp [*, errW_none, errW_some] <;> rfl), by repeat (first | (with_reducible first | exact HB.out | apply below_alloc | apply pw_below_drewN | apply below_drew1) | exact HB.out)⟩
    · replace c6 := Bool.eq_false_iff.mpr c6
      subst c6
      have H1 : (some (((0, 0) : Nat × Nat), false)) = some (r1, r2) := by rw [if_neg (show ¬ (false = true) by decide)] at H; exact H
      clear H
      have H := H1
      clear H1
      simp only [Option.some.injEq, Prod.mk.injEq] at H
      obtain ⟨rfl, rfl⟩ := H
      go_enter Try.func38, Try.ntmps38
      go_wp2_with (first | ((with_reducible refine gate_callee (f := 37) rfl ?_); refine goesL_ (some 10) rfl rfl Try.func37 (by kernel_rfl) rfl #[.complex .f64 a1.1 a1.2] rfl (by (try simp only [List.map_toArray, List.map_cons, List.map_nil]); first | done | rfl | (simp only [List.length_drop, List.length_take]; rfl)) ?_; (with_reducible refine (gauss_Inverse.calls k a1 t114 true _ A3.out).mono ?_); rintro e w10 ⟨rfl, hb⟩; refine ⟨_, rfl, ?_⟩; have n0_ := Aside0.mk (below_step (by repeat (first | (with_reducible first | exact HB.out | apply below_alloc | apply pw_below_drewN | apply below_drew1) | exact HB.out)) hb); clear HB; have HB := n0_; clear n0_; (try clear hb); (try clear hb2); (try clear hk); (try clear hi)) | (go_at_call 26; (with_reducible refine (gauss_Right.calls a0 false _ A5.out).mono ?_); rintro e w' ⟨rfl, ⟨nd, rfl⟩⟩))
      go_ret2
      exact ⟨by first | rfl | (simp [errW_none, errW_some] <;> rfl) | (simp [*, errW_none, errW_some] <;> rfl), by repeat (first | (with_reducible first | exact HB.out | apply below_alloc | apply pw_below_drewN | apply below_drew1) | exact HB.out)⟩
  · replace c4 := Bool.eq_false_iff.mpr c4
    subst c4
    have H1 : (some (((0, 0) : Nat × Nat), false)) = some (r1, r2) := by rw [if_neg (show ¬ (false = true) by decide)] at H; exact H
    clear H
    have H := H1
    clear H1
    simp only [Option.some.injEq, Prod.mk.injEq] at H
    obtain ⟨rfl, rfl⟩ := H
    go_enter Try.func38, Try.ntmps38
    go_wp2_with (first | ((with_reducible refine gate_callee (f := 37) rfl ?_); refine goesL_ (some 10) rfl rfl Try.func37 (by kernel_rfl) rfl #[.complex .f64 a1.1 a1.2] rfl (by (try simp only [List.map_toArray, List.map_cons, List.map_nil]); first | done | rfl | (simp only [List.length_drop, List.length_take]; rfl)) ?_; (with_reducible refine (gauss_Inverse.calls k a1 t114 false _ A3.out).mono ?_); rintro e w11 ⟨rfl, hb⟩; refine ⟨_, rfl, ?_⟩; have n0_ := Aside0.mk (below_step (by repeat (first | (with_reducible first | exact HB.out | apply below_alloc | apply pw_below_drewN | apply below_drew1) | exact HB.out)) hb); clear HB; have HB := n0_; clear n0_; (try clear hb); (try clear hb2); (try clear hk); (try clear hi)))
    go_ret2
    exact ⟨by first | rfl | (simp [errW_none, errW_some] <;> rfl) | (simp [*, errW_none, errW_some] <;> rfl), by repeat (first | (with_reducible first | exact HB.out | apply below_alloc | apply pw_below_drewN | apply below_drew1) | exact HB.out)⟩

/-! ### quitclaimlaw22_GaussOdd: function 8 -/
def quitclaimlaw22_GaussOdd.j0 : Nat → Int → (Nat × Nat) → Bool → Option (Bool)
  | 0, _, _, _ => none
  | k + 1, x2, x7, x9 => (gauss_Right.f x7).bind fun t120 => (if (t120 != x9) = true then (some false) else (if x9 = true then ((quitclaimlaw22_awake.f k).bind fun t121 => (some t121)) else ((gauss_Inverse.f k x7).bind fun bt122 => ((gauss_Divide.f k ((4607182418800017408, 0) : Nat × Nat) x7).bind fun bt124 => ((gauss_Add.f x7 ((4607182418800017408, 0) : Nat × Nat)).bind fun t126 => (if (ceq t126 ((0, 0) : Nat × Nat)) = true then ((gauss_Sub.f ((4607182418800017408, 0) : Nat × Nat) x7).bind fun t127 => (if (ceq t127 ((0, 0) : Nat × Nat)) = true then ((gauss_Mul.f x7 x7).bind fun t128 => (if (ceq t128 ((0, 0) : Nat × Nat)) = true then ((gauss_Power.f k x7 x2).bind fun t129 => (if (ceq t129 ((0, 0) : Nat × Nat)) = true then ((gauss_Turn.f k x7 x2).bind fun t130 => (if (ceq t130 ((0, 0) : Nat × Nat)) = true then (if (ceq bt122.1 ((0, 0) : Nat × Nat)) = true then (if bt122.2 = true then (some false) else (if (ceq bt124.1 ((0, 0) : Nat × Nat)) = true then (if bt124.2 = true then (some false) else ((quitclaimlaw22_awake.f k).bind fun t131 => (some t131))) else (some false))) else (some false)) else (some false))) else (some false))) else (some false))) else (some false))) else (some false)))))))
def quitclaimlaw22_GaussOdd.f (k : Nat) (a0 : Nat) (a1 : Nat) (a2 : Int) : Option (Bool) := (quitclaimlaw22_GaussOdd_1.f a0).bind fun t118 => (if t118 = true then ((quitclaimlaw22_GaussOdd_1.f a1).bind fun t119 => (quitclaimlaw22_GaussOdd.j0 k a2 ((a0, a1) : Nat × Nat) t119)) else (quitclaimlaw22_GaussOdd.j0 k a2 ((a0, a1) : Nat × Nat) false))
theorem quitclaimlaw22_GaussOdd.mono_l : ∀ k, (∀ y0 y1 y2, LeO (quitclaimlaw22_GaussOdd.j0 k y0 y1 y2) (quitclaimlaw22_GaussOdd.j0 (k + 1) y0 y1 y2))
  | 0 => fun _ _ _ r h => by simp [quitclaimlaw22_GaussOdd.j0] at h
  | k + 1 => by
    have ih0 := quitclaimlaw22_GaussOdd.mono_l k
    · intro y0 y1 y2
      unfold quitclaimlaw22_GaussOdd.j0
      repeat' first
      | (with_reducible exact ih0 _ _ _)
      | (with_reducible exact gauss_Divide.mono _ _ _)
      | (with_reducible exact gauss_Inverse.mono _ _)
      | (with_reducible exact gauss_Power.mono _ _ _)
      | (with_reducible exact gauss_Turn.mono _ _ _)
      | (with_reducible exact quitclaimlaw22_awake.mono _)
      | (with_reducible exact LeO.refl _)
      | (with_reducible exact LeO.none _)
      | (with_reducible refine LeO.ite ?_ ?_)
      | (with_reducible refine LeO.bind ?_ (fun _ => ?_))
      | exact ih0 _ _ _
      | exact gauss_Divide.mono _ _ _
      | exact gauss_Inverse.mono _ _
      | exact gauss_Power.mono _ _ _
      | exact gauss_Turn.mono _ _ _
      | exact quitclaimlaw22_awake.mono _
      | exact LeO.none _
      | refine LeO.ite ?_ ?_
      | refine LeO.bind ?_ (fun _ => ?_)
theorem quitclaimlaw22_GaussOdd.mono : ∀ a0 a1 a2 k, LeO (quitclaimlaw22_GaussOdd.f k a0 a1 a2) (quitclaimlaw22_GaussOdd.f (k + 1) a0 a1 a2) := by
  intro a0 a1 a2 k
  have ih0 := quitclaimlaw22_GaussOdd.mono_l k
  unfold quitclaimlaw22_GaussOdd.f
  repeat' first
      | (with_reducible exact ih0 _ _ _)
      | (with_reducible exact gauss_Divide.mono _ _ _)
      | (with_reducible exact gauss_Inverse.mono _ _)
      | (with_reducible exact gauss_Power.mono _ _ _)
      | (with_reducible exact gauss_Turn.mono _ _ _)
      | (with_reducible exact quitclaimlaw22_awake.mono _)
      | (with_reducible exact LeO.refl _)
      | (with_reducible exact LeO.none _)
      | (with_reducible refine LeO.ite ?_ ?_)
      | (with_reducible refine LeO.bind ?_ (fun _ => ?_))
      | exact ih0 _ _ _
      | exact gauss_Divide.mono _ _ _
      | exact gauss_Inverse.mono _ _
      | exact gauss_Power.mono _ _ _
      | exact gauss_Turn.mono _ _ _
      | exact quitclaimlaw22_awake.mono _
      | exact LeO.none _
      | refine LeO.ite ?_ ?_
      | refine LeO.bind ?_ (fun _ => ?_)
set_option maxHeartbeats 8000000 in
set_option maxRecDepth 100000 in
theorem quitclaimlaw22_GaussOdd.calls (k : Nat) (a0 : Nat) (a1 : Nat) (a2 : Int) (r : Bool) (w : World) (h : quitclaimlaw22_GaussOdd.f k a0 a1 a2 = some r) (htr_ : Aside0 (r = true)) :
    Calls Try.prog 8 #[.float .f64 a0, .float .f64 a1, .int .i64 a2] w fun e w' => e = .returned (.bool r) ∧ Below w.heap.size w w' := by
  have HB := Aside0.mk (Below.refl w.heap.size w)
  have H : ((quitclaimlaw22_GaussOdd_1.f a0).bind fun t118 => (if t118 = true then ((quitclaimlaw22_GaussOdd_1.f a1).bind fun t119 => (quitclaimlaw22_GaussOdd.j0 k a2 ((a0, a1) : Nat × Nat) t119)) else (quitclaimlaw22_GaussOdd.j0 k a2 ((a0, a1) : Nat × Nat) false))) = some r := h
  clear h
  have HC4 := Aside0.mk H
  clear H
  go_enter Try.func8, Try.ntmps8
  go_upto_region 3 with (fail)
  go_cut [9] (fun v9 wc => ∃ (kq : Nat) (x9_3 : Bool), v9 = .bool x9_3 ∧ Aside0 (quitclaimlaw22_GaussOdd.j0 kq a2 ((a0, a1) : Nat × Nat) x9_3 = some r) ∧ Aside0 (kq ≤ k) ∧ Aside0 (Below w.heap.size w wc))
  case first =>
    have H := HC4.out
    clear HC4
    replace H := Option.bind_eq_some_iff.mp H
    obtain ⟨t118, A50, H⟩ := H
    replace H : (if t118 = true then ((quitclaimlaw22_GaussOdd_1.f a1).bind fun t119 => (quitclaimlaw22_GaussOdd.j0 k a2 ((a0, a1) : Nat × Nat) t119)) else (quitclaimlaw22_GaussOdd.j0 k a2 ((a0, a1) : Nat × Nat) false)) = some r := H
    have A5 := Aside0.mk A50
    clear A50
    by_cases c6 : t118 = true
    · subst c6
      have H1 : ((quitclaimlaw22_GaussOdd_1.f a1).bind fun t119 => (quitclaimlaw22_GaussOdd.j0 k a2 ((a0, a1) : Nat × Nat) t119)) = some r := by rw [if_pos rfl] at H; exact H
      clear H
      have H := H1
      clear H1
      replace H := Option.bind_eq_some_iff.mp H
      obtain ⟨t119, A70, H⟩ := H
      replace H : (quitclaimlaw22_GaussOdd.j0 k a2 ((a0, a1) : Nat × Nat) t119) = some r := H
      have A7 := Aside0.mk A70
      clear A70
      have H' := Aside0.mk H
      clear H
      go_wp2_with (first | (go_at_call 39; (with_reducible refine (quitclaimlaw22_GaussOdd_1.calls a0 true _ A5.out).mono ?_); rintro e w8 ⟨rfl, hb⟩; have n0_ := Aside0.mk (below_step (by repeat (first | (with_reducible first | exact HB.out | apply below_alloc | apply pw_below_drewN | apply below_drew1) | exact HB.out)) hb); clear HB; have HB := n0_; clear n0_; (try clear hb); (try clear hb2); (try clear hk); (try clear hi)) | (go_at_call 39; (with_reducible refine (quitclaimlaw22_GaussOdd_1.calls a1 t119 _ A7.out).mono ?_); rintro e w9 ⟨rfl, hb⟩; have n0_ := Aside0.mk (below_step (by repeat (first | (with_reducible first | exact HB.out | apply below_alloc | apply pw_below_drewN | apply below_drew1) | exact HB.out)) hb); clear HB; have HB := n0_; clear n0_; (try clear hb); (try clear hb2); (try clear hk); (try clear hi)))
      go_meet
      case rel => exact ⟨_, (t119), (by first | rfl | (simp; done) | (simp [*]; done)), H', ⟨by first | omega | exact Nat.le_refl _⟩, ⟨by repeat (first | (with_reducible first | exact HB.out | apply below_alloc | apply pw_below_drewN | apply below_drew1) | exact HB.out)⟩⟩
    · replace c6 := Bool.eq_false_iff.mpr c6
      subst c6
      have H1 : (quitclaimlaw22_GaussOdd.j0 k a2 ((a0, a1) : Nat × Nat) false) = some r := by rw [if_neg (show ¬ (false = true) by decide)] at H; exact H
      clear H
      have H := H1
      clear H1
      have H' := Aside0.mk H
      clear H
      go_wp2_with (first | (go_at_call 39; (with_reducible refine (quitclaimlaw22_GaussOdd_1.calls a0 false _ A5.out).mono ?_); rintro e w10 ⟨rfl, hb⟩; have n0_ := Aside0.mk (below_step (by repeat (first | (with_reducible first | exact HB.out | apply below_alloc | apply pw_below_drewN | apply below_drew1) | exact HB.out)) hb); clear HB; have HB := n0_; clear n0_; (try clear hb); (try clear hb2); (try clear hk); (try clear hi)))
      go_meet
      case rel => exact ⟨_, (false), (by first | rfl | (simp; done) | (simp [*]; done)), H', ⟨by first | omega | exact Nat.le_refl _⟩, ⟨by repeat (first | (with_reducible first | exact HB.out | apply below_alloc | apply pw_below_drewN | apply below_drew1) | exact HB.out)⟩⟩
  case rest =>
    clear HC4
    try clear p2
    try clear c6
    try clear c8
    obtain ⟨kq, x9_3, rfl, HA, HJ3, HB⟩ := hcut
    cases kq with
    | zero => exact absurd HA.out (by simp [quitclaimlaw22_GaussOdd.j0])
    | succ kj3 =>
      have H := HA.out
      clear HA
      simp only [quitclaimlaw22_GaussOdd.j0] at H
      replace H := Option.bind_eq_some_iff.mp H
      obtain ⟨t120, A110, H⟩ := H
      replace H : (if (t120 != x9_3) = true then (some false) else (if x9_3 = true then ((quitclaimlaw22_awake.f kj3).bind fun t121 => (some t121)) else ((gauss_Inverse.f kj3 ((a0, a1) : Nat × Nat)).bind fun bt122 => ((gauss_Divide.f kj3 ((4607182418800017408, 0) : Nat × Nat) ((a0, a1) : Nat × Nat)).bind fun bt124 => ((gauss_Add.f ((a0, a1) : Nat × Nat) ((4607182418800017408, 0) : Nat × Nat)).bind fun t126 => (if (ceq t126 ((0, 0) : Nat × Nat)) = true then ((gauss_Sub.f ((4607182418800017408, 0) : Nat × Nat) ((a0, a1) : Nat × Nat)).bind fun t127 => (if (ceq t127 ((0, 0) : Nat × Nat)) = true then ((gauss_Mul.f ((a0, a1) : Nat × Nat) ((a0, a1) : Nat × Nat)).bind fun t128 => (if (ceq t128 ((0, 0) : Nat × Nat)) = true then ((gauss_Power.f kj3 ((a0, a1) : Nat × Nat) a2).bind fun t129 => (if (ceq t129 ((0, 0) : Nat × Nat)) = true then ((gauss_Turn.f kj3 ((a0, a1) : Nat × Nat) a2).bind fun t130 => (if (ceq t130 ((0, 0) : Nat × Nat)) = true then (if (ceq bt122.1 ((0, 0) : Nat × Nat)) = true then (if bt122.2 = true then (some false) else (if (ceq bt124.1 ((0, 0) : Nat × Nat)) = true then (if bt124.2 = true then (some false) else ((quitclaimlaw22_awake.f kj3).bind fun t131 => (some t131))) else (some false))) else (some false)) else (some false))) else (some false))) else (some false))) else (some false))) else (some false))))))) = some r := H
      have A11 := Aside0.mk A110
      clear A110
      by_cases c12 : (t120 != x9_3) = true
      · rw [if_pos c12] at H
        have c12b0 : (t120 != x9_3) = true := c12
        (try (have c12b1 : decide (t120 = x9_3) = false := by simpa using c12))
        (try (have c12b2 : (t120 == x9_3) = false := by simpa using c12))
        (try (have c12b3 : ¬ (t120 = x9_3) := by simpa using c12))
        clear c12
        obtain rfl := Option.some.inj H
        exact absurd htr_.out (by decide)
      · rw [if_neg c12] at H
        have c12b0 : (t120 != x9_3) = false := by simpa using c12
        (try (have c12b1 : decide (t120 = x9_3) = true := by simpa using c12))
        (try (have c12b2 : (t120 == x9_3) = true := by simpa using c12))
        clear c12
        by_cases c13 : x9_3 = true
        · subst c13
          have H1 : ((quitclaimlaw22_awake.f kj3).bind fun t121 => (some t121)) = some r := by rw [if_pos rfl] at H; exact H
          clear H
          have H := H1
          clear H1
          replace H := Option.bind_eq_some_iff.mp H
          obtain ⟨t121, A140, H⟩ := H
          replace H : (some t121) = some r := H
          have A14 := Aside0.mk A140
          clear A140
          obtain rfl := Option.some.inj H
          go_wp2_with (first | ((with_reducible refine gate_callee (f := 26) rfl ?_); refine goesL_ (some 26) rfl rfl Try.func26 (by kernel_rfl) rfl #[.complex .f64 a0 a1] rfl (by (try simp only [List.map_toArray, List.map_cons, List.map_nil]); first | done | rfl | (simp only [List.length_drop, List.length_take]; rfl)) ?_; (with_reducible refine (gauss_Right.calls ((a0, a1) : Nat × Nat) t120 _ A11.out).mono ?_); rintro e w' ⟨rfl, ⟨nd, rfl⟩⟩; refine ⟨_, rfl, ?_⟩) | ((with_reducible refine gate_callee (f := 36) rfl ?_); refine goesL_ (some 30) rfl rfl Try.func36 (by kernel_rfl) rfl #[] rfl (by (try simp only [List.map_toArray, List.map_cons, List.map_nil]); first | done | rfl | (simp only [List.length_drop, List.length_take]; rfl)) ?_; (with_reducible refine (quitclaimlaw22_awake.calls kj3  t121 _ A14.out).mono ?_); rintro e w15 ⟨rfl, hb⟩; refine ⟨_, rfl, ?_⟩; have n0_ := Aside0.mk (below_step (by repeat (first | (with_reducible first | exact HB.out | apply below_alloc | apply pw_below_drewN | apply below_drew1) | exact HB.out)) hb); clear HB; have HB := n0_; clear n0_; (try clear hb); (try clear hb2); (try clear hk); (try clear hi)))
          go_ret
          exact ⟨by first | rfl | (simp [errW_none, errW_some] <;> rfl) | (simp [*, errW_none, errW_some] <;> rfl), by repeat (first | (with_reducible first | exact HB.out | apply below_alloc | apply pw_below_drewN | apply below_drew1) | exact HB.out)⟩
        · replace c13 := Bool.eq_false_iff.mpr c13
          subst c13
          have H1 : ((gauss_Inverse.f kj3 ((a0, a1) : Nat × Nat)).bind fun bt122 => ((gauss_Divide.f kj3 ((4607182418800017408, 0) : Nat × Nat) ((a0, a1) : Nat × Nat)).bind fun bt124 => ((gauss_Add.f ((a0, a1) : Nat × Nat) ((4607182418800017408, 0) : Nat × Nat)).bind fun t126 => (if (ceq t126 ((0, 0) : Nat × Nat)) = true then ((gauss_Sub.f ((4607182418800017408, 0) : Nat × Nat) ((a0, a1) : Nat × Nat)).bind fun t127 => (if (ceq t127 ((0, 0) : Nat × Nat)) = true then ((gauss_Mul.f ((a0, a1) : Nat × Nat) ((a0, a1) : Nat × Nat)).bind fun t128 => (if (ceq t128 ((0, 0) : Nat × Nat)) = true then ((gauss_Power.f kj3 ((a0, a1) : Nat × Nat) a2).bind fun t129 => (if (ceq t129 ((0, 0) : Nat × Nat)) = true then ((gauss_Turn.f kj3 ((a0, a1) : Nat × Nat) a2).bind fun t130 => (if (ceq t130 ((0, 0) : Nat × Nat)) = true then (if (ceq bt122.1 ((0, 0) : Nat × Nat)) = true then (if bt122.2 = true then (some false) else (if (ceq bt124.1 ((0, 0) : Nat × Nat)) = true then (if bt124.2 = true then (some false) else ((quitclaimlaw22_awake.f kj3).bind fun t131 => (some t131))) else (some false))) else (some false)) else (some false))) else (some false))) else (some false))) else (some false))) else (some false))))) = some r := by rw [if_neg (show ¬ (false = true) by decide)] at H; exact H
          clear H
          have H := H1
          clear H1
          replace H := Option.bind_eq_some_iff.mp H
          obtain ⟨⟨t122, t123⟩, A160, H⟩ := H
          replace H : ((gauss_Divide.f kj3 ((4607182418800017408, 0) : Nat × Nat) ((a0, a1) : Nat × Nat)).bind fun bt124 => ((gauss_Add.f ((a0, a1) : Nat × Nat) ((4607182418800017408, 0) : Nat × Nat)).bind fun t126 => (if (ceq t126 ((0, 0) : Nat × Nat)) = true then ((gauss_Sub.f ((4607182418800017408, 0) : Nat × Nat) ((a0, a1) : Nat × Nat)).bind fun t127 => (if (ceq t127 ((0, 0) : Nat × Nat)) = true then ((gauss_Mul.f ((a0, a1) : Nat × Nat) ((a0, a1) : Nat × Nat)).bind fun t128 => (if (ceq t128 ((0, 0) : Nat × Nat)) = true then ((gauss_Power.f kj3 ((a0, a1) : Nat × Nat) a2).bind fun t129 => (if (ceq t129 ((0, 0) : Nat × Nat)) = true then ((gauss_Turn.f kj3 ((a0, a1) : Nat × Nat) a2).bind fun t130 => (if (ceq t130 ((0, 0) : Nat × Nat)) = true then (if (ceq t122 ((0, 0) : Nat × Nat)) = true then (if t123 = true then (some false) else (if (ceq bt124.1 ((0, 0) : Nat × Nat)) = true then (if bt124.2 = true then (some false) else ((quitclaimlaw22_awake.f kj3).bind fun t131 => (some t131))) else (some false))) else (some false)) else (some false))) else (some false))) else (some false))) else (some false))) else (some false)))) = some r := H
          have A16 := Aside0.mk A160
          clear A160
          replace H := Option.bind_eq_some_iff.mp H
          obtain ⟨⟨t124, t125⟩, A170, H⟩ := H
          replace H : ((gauss_Add.f ((a0, a1) : Nat × Nat) ((4607182418800017408, 0) : Nat × Nat)).bind fun t126 => (if (ceq t126 ((0, 0) : Nat × Nat)) = true then ((gauss_Sub.f ((4607182418800017408, 0) : Nat × Nat) ((a0, a1) : Nat × Nat)).bind fun t127 => (if (ceq t127 ((0, 0) : Nat × Nat)) = true then ((gauss_Mul.f ((a0, a1) : Nat × Nat) ((a0, a1) : Nat × Nat)).bind fun t128 => (if (ceq t128 ((0, 0) : Nat × Nat)) = true then ((gauss_Power.f kj3 ((a0, a1) : Nat × Nat) a2).bind fun t129 => (if (ceq t129 ((0, 0) : Nat × Nat)) = true then ((gauss_Turn.f kj3 ((a0, a1) : Nat × Nat) a2).bind fun t130 => (if (ceq t130 ((0, 0) : Nat × Nat)) = true then (if (ceq t122 ((0, 0) : Nat × Nat)) = true then (if t123 = true then (some false) else (if (ceq t124 ((0, 0) : Nat × Nat)) = true then (if t125 = true then (some false) else ((quitclaimlaw22_awake.f kj3).bind fun t131 => (some t131))) else (some false))) else (some false)) else (some false))) else (some false))) else (some false))) else (some false))) else (some false))) = some r := H
          have A17 := Aside0.mk A170
          clear A170
          replace H := Option.bind_eq_some_iff.mp H
          obtain ⟨t126, A180, H⟩ := H
          replace H : (if (ceq t126 ((0, 0) : Nat × Nat)) = true then ((gauss_Sub.f ((4607182418800017408, 0) : Nat × Nat) ((a0, a1) : Nat × Nat)).bind fun t127 => (if (ceq t127 ((0, 0) : Nat × Nat)) = true then ((gauss_Mul.f ((a0, a1) : Nat × Nat) ((a0, a1) : Nat × Nat)).bind fun t128 => (if (ceq t128 ((0, 0) : Nat × Nat)) = true then ((gauss_Power.f kj3 ((a0, a1) : Nat × Nat) a2).bind fun t129 => (if (ceq t129 ((0, 0) : Nat × Nat)) = true then ((gauss_Turn.f kj3 ((a0, a1) : Nat × Nat) a2).bind fun t130 => (if (ceq t130 ((0, 0) : Nat × Nat)) = true then (if (ceq t122 ((0, 0) : Nat × Nat)) = true then (if t123 = true then (some false) else (if (ceq t124 ((0, 0) : Nat × Nat)) = true then (if t125 = true then (some false) else ((quitclaimlaw22_awake.f kj3).bind fun t131 => (some t131))) else (some false))) else (some false)) else (some false))) else (some false))) else (some false))) else (some false))) else (some false)) = some r := H
          have A18 := Aside0.mk A180
          clear A180
          by_cases c19 : (ceq t126 ((0, 0) : Nat × Nat)) = true
          · rw [if_pos c19] at H
            have c19b0 : (ceq t126 ((0, 0) : Nat × Nat)) = true := c19
            clear c19
            replace H := Option.bind_eq_some_iff.mp H
            obtain ⟨t127, A200, H⟩ := H
            replace H : (if (ceq t127 ((0, 0) : Nat × Nat)) = true then ((gauss_Mul.f ((a0, a1) : Nat × Nat) ((a0, a1) : Nat × Nat)).bind fun t128 => (if (ceq t128 ((0, 0) : Nat × Nat)) = true then ((gauss_Power.f kj3 ((a0, a1) : Nat × Nat) a2).bind fun t129 => (if (ceq t129 ((0, 0) : Nat × Nat)) = true then ((gauss_Turn.f kj3 ((a0, a1) : Nat × Nat) a2).bind fun t130 => (if (ceq t130 ((0, 0) : Nat × Nat)) = true then (if (ceq t122 ((0, 0) : Nat × Nat)) = true then (if t123 = true then (some false) else (if (ceq t124 ((0, 0) : Nat × Nat)) = true then (if t125 = true then (some false) else ((quitclaimlaw22_awake.f kj3).bind fun t131 => (some t131))) else (some false))) else (some false)) else (some false))) else (some false))) else (some false))) else (some false)) = some r := H
            have A20 := Aside0.mk A200
            clear A200
            by_cases c21 : (ceq t127 ((0, 0) : Nat × Nat)) = true
            · rw [if_pos c21] at H
              have c21b0 : (ceq t127 ((0, 0) : Nat × Nat)) = true := c21
              clear c21
              replace H := Option.bind_eq_some_iff.mp H
              obtain ⟨t128, A220, H⟩ := H
              replace H : (if (ceq t128 ((0, 0) : Nat × Nat)) = true then ((gauss_Power.f kj3 ((a0, a1) : Nat × Nat) a2).bind fun t129 => (if (ceq t129 ((0, 0) : Nat × Nat)) = true then ((gauss_Turn.f kj3 ((a0, a1) : Nat × Nat) a2).bind fun t130 => (if (ceq t130 ((0, 0) : Nat × Nat)) = true then (if (ceq t122 ((0, 0) : Nat × Nat)) = true then (if t123 = true then (some false) else (if (ceq t124 ((0, 0) : Nat × Nat)) = true then (if t125 = true then (some false) else ((quitclaimlaw22_awake.f kj3).bind fun t131 => (some t131))) else (some false))) else (some false)) else (some false))) else (some false))) else (some false)) = some r := H
              have A22 := Aside0.mk A220
              clear A220
              by_cases c23 : (ceq t128 ((0, 0) : Nat × Nat)) = true
              · rw [if_pos c23] at H
                have c23b0 : (ceq t128 ((0, 0) : Nat × Nat)) = true := c23
                clear c23
                replace H := Option.bind_eq_some_iff.mp H
                obtain ⟨t129, A240, H⟩ := H
                replace H : (if (ceq t129 ((0, 0) : Nat × Nat)) = true then ((gauss_Turn.f kj3 ((a0, a1) : Nat × Nat) a2).bind fun t130 => (if (ceq t130 ((0, 0) : Nat × Nat)) = true then (if (ceq t122 ((0, 0) : Nat × Nat)) = true then (if t123 = true then (some false) else (if (ceq t124 ((0, 0) : Nat × Nat)) = true then (if t125 = true then (some false) else ((quitclaimlaw22_awake.f kj3).bind fun t131 => (some t131))) else (some false))) else (some false)) else (some false))) else (some false)) = some r := H
                have A24 := Aside0.mk A240
                clear A240
                by_cases c25 : (ceq t129 ((0, 0) : Nat × Nat)) = true
                · rw [if_pos c25] at H
                  have c25b0 : (ceq t129 ((0, 0) : Nat × Nat)) = true := c25
                  clear c25
                  replace H := Option.bind_eq_some_iff.mp H
                  obtain ⟨t130, A260, H⟩ := H
                  replace H : (if (ceq t130 ((0, 0) : Nat × Nat)) = true then (if (ceq t122 ((0, 0) : Nat × Nat)) = true then (if t123 = true then (some false) else (if (ceq t124 ((0, 0) : Nat × Nat)) = true then (if t125 = true then (some false) else ((quitclaimlaw22_awake.f kj3).bind fun t131 => (some t131))) else (some false))) else (some false)) else (some false)) = some r := H
                  have A26 := Aside0.mk A260
                  clear A260
                  by_cases c27 : (ceq t130 ((0, 0) : Nat × Nat)) = true
                  · rw [if_pos c27] at H
                    have c27b0 : (ceq t130 ((0, 0) : Nat × Nat)) = true := c27
                    clear c27
                    by_cases c28 : (ceq t122 ((0, 0) : Nat × Nat)) = true
                    · rw [if_pos c28] at H
                      have c28b0 : (ceq t122 ((0, 0) : Nat × Nat)) = true := c28
                      clear c28
                      by_cases c29 : t123 = true
                      · subst c29
                        have H1 : (some false) = some r := by rw [if_pos rfl] at H; exact H
                        clear H
                        have H := H1
                        clear H1
                        obtain rfl := Option.some.inj H
                        exact absurd htr_.out (by decide)
                      · replace c29 := Bool.eq_false_iff.mpr c29
                        subst c29
                        have H1 : (if (ceq t124 ((0, 0) : Nat × Nat)) = true then (if t125 = true then (some false) else ((quitclaimlaw22_awake.f kj3).bind fun t131 => (some t131))) else (some false)) = some r := by rw [if_neg (show ¬ (false = true) by decide)] at H; exact H
                        clear H
                        have H := H1
                        clear H1
                        by_cases c30 : (ceq t124 ((0, 0) : Nat × Nat)) = true
                        · rw [if_pos c30] at H
                          have c30b0 : (ceq t124 ((0, 0) : Nat × Nat)) = true := c30
                          clear c30
                          by_cases c31 : t125 = true
                          · subst c31
                            have H1 : (some false) = some r := by rw [if_pos rfl] at H; exact H
                            clear H
                            have H := H1
                            clear H1
                            obtain rfl := Option.some.inj H
                            exact absurd htr_.out (by decide)
                          · replace c31 := Bool.eq_false_iff.mpr c31
                            subst c31
                            have H1 : ((quitclaimlaw22_awake.f kj3).bind fun t131 => (some t131)) = some r := by rw [if_neg (show ¬ (false = true) by decide)] at H; exact H
                            clear H
                            have H := H1
                            clear H1
                            replace H := Option.bind_eq_some_iff.mp H
                            obtain ⟨t131, A320, H⟩ := H
                            replace H : (some t131) = some r := H
                            have A32 := Aside0.mk A320
                            clear A320
                            obtain rfl := Option.some.inj H
                            go_wp2_with (first | ((with_reducible refine gate_callee (f := 26) rfl ?_); refine goesL_ (some 26) rfl rfl Try.func26 (by kernel_rfl) rfl #[.complex .f64 a0 a1] rfl (by (try simp only [List.map_toArray, List.map_cons, List.map_nil]); first | done | rfl | (simp only [List.length_drop, List.length_take]; rfl)) ?_; (with_reducible refine (gauss_Right.calls ((a0, a1) : Nat × Nat) t120 _ A11.out).mono ?_); rintro e w' ⟨rfl, ⟨nd, rfl⟩⟩; refine ⟨_, rfl, ?_⟩) | ((with_reducible refine gate_callee (f := 37) rfl ?_); refine goesL_ (some 33) rfl rfl Try.func37 (by kernel_rfl) rfl #[.complex .f64 a0 a1] rfl (by (try simp only [List.map_toArray, List.map_cons, List.map_nil]); first | done | rfl | (simp only [List.length_drop, List.length_take]; rfl)) ?_; (with_reducible refine (gauss_Inverse.calls kj3 ((a0, a1) : Nat × Nat) t122 false _ A16.out).mono ?_); rintro e w33 ⟨rfl, hb⟩; refine ⟨_, rfl, ?_⟩; have n0_ := Aside0.mk (below_step (by repeat (first | (with_reducible first | exact HB.out | apply below_alloc | apply pw_below_drewN | apply below_drew1) | exact HB.out)) hb); clear HB; have HB := n0_; clear n0_; (try clear hb); (try clear hb2); (try clear hk); (try clear hi)) | ((with_reducible refine gate_callee (f := 38) rfl ?_); refine goesL_ (some 38) rfl rfl Try.func38 (by kernel_rfl) rfl #[.complex .f64 4607182418800017408 0, .complex .f64 a0 a1] rfl (by (try simp only [List.map_toArray, List.map_cons, List.map_nil]); first | done | rfl | (simp only [List.length_drop, List.length_take]; rfl)) ?_; (with_reducible refine (gauss_Divide.calls kj3 ((4607182418800017408, 0) : Nat × Nat) ((a0, a1) : Nat × Nat) t124 false _ A17.out).mono ?_); rintro e w34 ⟨rfl, hb⟩; refine ⟨_, rfl, ?_⟩; have n0_ := Aside0.mk (below_step (by repeat (first | (with_reducible first | exact HB.out | apply below_alloc | apply pw_below_drewN | apply below_drew1) | exact HB.out)) hb); clear HB; have HB := n0_; clear n0_; (try clear hb); (try clear hb2); (try clear hk); (try clear hi)) | ((with_reducible refine gate_callee (f := 27) rfl ?_); refine goesL_ (some 42) rfl rfl Try.func27 (by kernel_rfl) rfl #[.complex .f64 a0 a1, .complex .f64 4607182418800017408 0] rfl (by (try simp only [List.map_toArray, List.map_cons, List.map_nil]); first | done | rfl | (simp only [List.length_drop, List.length_take]; rfl)) ?_; (with_reducible refine (gauss_Add.calls ((a0, a1) : Nat × Nat) ((4607182418800017408, 0) : Nat × Nat) t126 _ A18.out).mono ?_); rintro e w35 ⟨rfl, hb⟩; refine ⟨_, rfl, ?_⟩; have n0_ := Aside0.mk (below_step (by repeat (first | (with_reducible first | exact HB.out | apply below_alloc | apply pw_below_drewN | apply below_drew1) | exact HB.out)) hb); clear HB; have HB := n0_; clear n0_; (try clear hb); (try clear hb2); (try clear hk); (try clear hi)) | (go_at_call 29; (with_reducible refine (gauss_Sub.calls ((4607182418800017408, 0) : Nat × Nat) ((a0, a1) : Nat × Nat) t127 _ A20.out).mono ?_); rintro e w36 ⟨rfl, hb⟩; have n0_ := Aside0.mk (below_step (by repeat (first | (with_reducible first | exact HB.out | apply below_alloc | apply pw_below_drewN | apply below_drew1) | exact HB.out)) hb); clear HB; have HB := n0_; clear n0_; (try clear hb); (try clear hb2); (try clear hk); (try clear hi)) | (go_at_call 31; (with_reducible refine (gauss_Mul.calls ((a0, a1) : Nat × Nat) ((a0, a1) : Nat × Nat) t128 _ A22.out).mono ?_); rintro e w37 ⟨rfl, hb⟩; have n0_ := Aside0.mk (below_step (by repeat (first | (with_reducible first | exact HB.out | apply below_alloc | apply pw_below_drewN | apply below_drew1) | exact HB.out)) hb); clear HB; have HB := n0_; clear n0_; (try clear hb); (try clear hb2); (try clear hk); (try clear hi)) | (go_at_call 33; (with_reducible refine (gauss_Power.calls kj3 ((a0, a1) : Nat × Nat) a2 t129 _ A24.out).mono ?_); rintro e w38 ⟨rfl, hb⟩; have n0_ := Aside0.mk (below_step (by repeat (first | (with_reducible first | exact HB.out | apply below_alloc | apply pw_below_drewN | apply below_drew1) | exact HB.out)) hb); clear HB; have HB := n0_; clear n0_; (try clear hb); (try clear hb2); (try clear hk); (try clear hi)) | (go_at_call 35; (with_reducible refine (gauss_Turn.calls kj3 ((a0, a1) : Nat × Nat) a2 t130 _ A26.out).mono ?_); rintro e w39 ⟨rfl, hb⟩; have n0_ := Aside0.mk (below_step (by repeat (first | (with_reducible first | exact HB.out | apply below_alloc | apply pw_below_drewN | apply below_drew1) | exact HB.out)) hb); clear HB; have HB := n0_; clear n0_; (try clear hb); (try clear hb2); (try clear hk); (try clear hi)) | (go_at_call 36; (with_reducible refine (quitclaimlaw22_awake.calls kj3  t131 _ A32.out).mono ?_); rintro e w40 ⟨rfl, hb⟩; have n0_ := Aside0.mk (below_step (by repeat (first | (with_reducible first | exact HB.out | apply below_alloc | apply pw_below_drewN | apply below_drew1) | exact HB.out)) hb); clear HB; have HB := n0_; clear n0_; (try clear hb); (try clear hb2); (try clear hk); (try clear hi)))
                            go_ret
                            exact ⟨by first | rfl | (simp [errW_none, errW_some] <;> rfl) | (simp [*, errW_none, errW_some] <;> rfl), by repeat (first | (with_reducible first | exact HB.out | apply below_alloc | apply pw_below_drewN | apply below_drew1) | exact HB.out)⟩
                        · rw [if_neg c30] at H
                          have c30b0 : (ceq t124 ((0, 0) : Nat × Nat)) = false := by simpa using c30
                          clear c30
                          obtain rfl := Option.some.inj H
                          exact absurd htr_.out (by decide)
                    · rw [if_neg c28] at H
                      have c28b0 : (ceq t122 ((0, 0) : Nat × Nat)) = false := by simpa using c28
                      clear c28
                      obtain rfl := Option.some.inj H
                      exact absurd htr_.out (by decide)
                  · rw [if_neg c27] at H
                    have c27b0 : (ceq t130 ((0, 0) : Nat × Nat)) = false := by simpa using c27
                    clear c27
                    obtain rfl := Option.some.inj H
                    exact absurd htr_.out (by decide)
                · rw [if_neg c25] at H
                  have c25b0 : (ceq t129 ((0, 0) : Nat × Nat)) = false := by simpa using c25
                  clear c25
                  obtain rfl := Option.some.inj H
                  exact absurd htr_.out (by decide)
              · rw [if_neg c23] at H
                have c23b0 : (ceq t128 ((0, 0) : Nat × Nat)) = false := by simpa using c23
                clear c23
                obtain rfl := Option.some.inj H
                exact absurd htr_.out (by decide)
            · rw [if_neg c21] at H
              have c21b0 : (ceq t127 ((0, 0) : Nat × Nat)) = false := by simpa using c21
              clear c21
              obtain rfl := Option.some.inj H
              exact absurd htr_.out (by decide)
          · rw [if_neg c19] at H
            have c19b0 : (ceq t126 ((0, 0) : Nat × Nat)) = false := by simpa using c19
            clear c19
            obtain rfl := Option.some.inj H
            exact absurd htr_.out (by decide)

/-- THE ONE PURE STATEMENT of quitclaimlaw22_GaussOdd: yours. -/
def quitclaimlaw22_GaussOdd.Pure : Prop := ∀ (a0 : Nat) (a1 : Nat) (a2 : Int), (Lit.float .f64 a0).wf = true → (Lit.float .f64 a1).wf = true → (Lit.int .i64 a2).wf = true → ∃ k, quitclaimlaw22_GaussOdd.f k a0 a1 a2 = some true
theorem quitclaimlaw22_GaussOdd.walk (P : quitclaimlaw22_GaussOdd.Pure) (a0 : Nat) (a1 : Nat) (a2 : Int) (w : World) (w0 : (Lit.float .f64 a0).wf = true) (w1 : (Lit.float .f64 a1).wf = true) (w2 : (Lit.int .i64 a2).wf = true) :
    Calls Try.prog 8 #[.float .f64 a0, .float .f64 a1, .int .i64 a2] w fun e w' => e = .returned (.bool true) ∧ Below w.heap.size w w' := by
  obtain ⟨k, h⟩ := P a0 a1 a2 w0 w1 w2
  refine (quitclaimlaw22_GaussOdd.calls k a0 a1 a2 true w h ⟨rfl⟩).mono ?_
  rintro e w' ⟨rfl, hd⟩
  exact ⟨rfl, hd⟩

end Go.Proofs.Ytabgdpobcloclaa.PGaussOdd
