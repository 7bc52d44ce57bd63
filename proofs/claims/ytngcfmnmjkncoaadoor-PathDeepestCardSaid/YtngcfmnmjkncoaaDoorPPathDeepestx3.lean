/- Go functions as Lean functions, and that the code answers what they say (written by wip/tool/print2.py over the print of the kit); no condition but the typed premises. -/
import Derived.Test.YtngcfmnmjkncoaaDoorPPathDeepestx0
import Derived.Test.YtngcfmnmjkncoaaDoorPPathDeepestx1
import Derived.Test.YtngcfmnmjkncoaaDoorPPathDeepestx2
namespace Go.Proofs.YtngcfmnmjkncoaaDoor.PPathDeepest
open Go.RowKit Go.Proofs.YtngcfmnmjkncoaaDoorW.PrintWords Go.Proofs.YtngcfmnmjkncoaaDoorW.PrintLast Go.Proofs.YtngcfmnmjkncoaaDoorW.PrintMore
attribute [local go_sem] max2_int min2_int max_two min_two max_three min_three max_four min_four   -- for this text's walks alone
set_option linter.unusedVariables false
set_option linter.unusedSimpArgs false

/-! ### path_Deepest: function 12 -/
def path_Deepest.l0 : Nat → List ByteArray → ByteArray → Int → Bool → List ByteArray → Int → Int → Option (Int × Bool)
  | 0, _, _, _, _, _, _, _ => none
  | k + 1, x0, x1, x6, x7, x10, x11, x12 => if x12 < x11 then (if 0 ≤ x12 then (if x12 < (x10.length : Int) then ((path_Covers.f k (rdOf ByteArray.empty x10 x12) x1).bind fun t126 => (if t126 = true then (if x7 = true then (if 0 ≤ x6 then (if x6 < (x0.length : Int) then (if ((rdOf ByteArray.empty x10 x12).size : Int) > ((rdOf ByteArray.empty x0 x6).size : Int) then (path_Deepest.l0 k x0 x1 x12 true x10 x11 (wrap64 (x12 + 1))) else (path_Deepest.l0 k x0 x1 x6 x7 x10 x11 (wrap64 (x12 + 1)))) else (none)) else (none)) else (path_Deepest.l0 k x0 x1 x12 true x10 x11 (wrap64 (x12 + 1)))) else (path_Deepest.l0 k x0 x1 x6 x7 x10 x11 (wrap64 (x12 + 1))))) else (none)) else (none)) else (some (x6, x7))
def path_Deepest.f (k : Nat) (l0 : List ByteArray) (a1 : ByteArray) : Option (Int × Bool) := path_Deepest.l0 k l0 a1 0 false l0 (l0.length : Int) 0
theorem path_Deepest.mono_l : ∀ k, (∀ y0 y1 y2 y3 y4 y5 y6, LeO (path_Deepest.l0 k y0 y1 y2 y3 y4 y5 y6) (path_Deepest.l0 (k + 1) y0 y1 y2 y3 y4 y5 y6))
  | 0 => fun _ _ _ _ _ _ _ r h => by simp [path_Deepest.l0] at h
  | k + 1 => by
    have ih0 := path_Deepest.mono_l k
    · intro y0 y1 y2 y3 y4 y5 y6
      unfold path_Deepest.l0
      repeat' first
      | (with_reducible exact ih0 _ _ _ _ _ _ _)
      | (with_reducible exact path_Covers.mono _ _ _)
      | (with_reducible exact LeO.refl _)
      | (with_reducible exact LeO.none _)
      | (with_reducible refine LeO.ite ?_ ?_)
      | (with_reducible refine LeO.bind ?_ (fun _ => ?_))
      | exact ih0 _ _ _ _ _ _ _
      | exact path_Covers.mono _ _ _
      | exact LeO.none _
      | refine LeO.ite ?_ ?_
      | refine LeO.bind ?_ (fun _ => ?_)
theorem path_Deepest.mono : ∀ a0 a1 k, LeO (path_Deepest.f k a0 a1) (path_Deepest.f (k + 1) a0 a1) := by
  intro a0 a1 k
  have ih0 := path_Deepest.mono_l k
  unfold path_Deepest.f
  repeat' first
      | (with_reducible exact ih0 _ _ _ _ _ _ _)
      | (with_reducible exact path_Covers.mono _ _ _)
      | (with_reducible exact LeO.refl _)
      | (with_reducible exact LeO.none _)
      | (with_reducible refine LeO.ite ?_ ?_)
      | (with_reducible refine LeO.bind ?_ (fun _ => ?_))
      | exact ih0 _ _ _ _ _ _ _
      | exact path_Covers.mono _ _ _
      | exact LeO.none _
      | refine LeO.ite ?_ ?_
      | refine LeO.bind ?_ (fun _ => ?_)
set_option maxHeartbeats 8000000 in
set_option maxRecDepth 100000 in
theorem path_Deepest.calls (k : Nat) (A0 : Option Addr) (c0 : Nat) (l0 : List ByteArray) (a1 : ByteArray) (r1 : Int) (r2 : Bool) (w : World) (hr0 : Kd.C Kd.string w A0 l0.length l0) (hc0 : l0.length ≤ c0) (h : path_Deepest.f k l0 a1 = some (r1, r2)) :
    Calls Tryd.prog 12 #[.slice A0 l0.length c0, .string a1] w fun e w' => e = .returned (.tuple #[.int .i64 r1, .bool r2]) ∧ Below w.heap.size w w' := by
  have HR0 := Aside0.mk hr0
  have HC0 := Aside0.mk hc0
  clear hr0 hc0
  have HB := Aside0.mk (Below.refl w.heap.size w)
  have H : (path_Deepest.l0 k l0 a1 0 false l0 (l0.length : Int) 0) = some (r1, r2) := h
  clear h
  have H' := Aside0.mk H
  clear H
  go_enter Tryd.func12, Tryd.ntmps12
  go_wp2
  go_loopg [6, 7, 12] k (fun kq v6 v7 v12 w' => ∃ (x6_1 : Int) (x7_1 : Bool) (x12_1 : Int), v6 = .int .i64 x6_1 ∧ v7 = .bool x7_1 ∧ v12 = .int .i64 x12_1 ∧ Aside0 (path_Deepest.l0 kq l0 a1 x6_1 x7_1 l0 (l0.length : Int) x12_1 = some (r1, r2)) ∧ Aside0 (kq ≤ k) ∧ Aside0 (Below w.heap.size w w'))
  case atStart => exact ⟨(0), (false), (0), (by first | rfl | (simp; done) | (simp [*]; done)), (by first | rfl | (simp; done) | (simp [*]; done)), (by first | rfl | (simp; done) | (simp [*]; done)), H', ⟨Nat.le_refl _⟩, ⟨by repeat (first | (with_reducible first | exact HB.out | apply below_alloc | apply pw_below_drewN | apply below_drew1) | exact HB.out)⟩⟩
  case round =>
    clear H'
    try clear c1
    try clear p2
    obtain ⟨x6_1, x7_1, x12_1, rfl, rfl, rfl, HA, HK1, HB⟩ := hrel
    cases gk with
    | zero => exact absurd HA.out (by simp [path_Deepest.l0])
    | succ k1 =>
      have H := HA.out
      clear HA
      simp only [path_Deepest.l0] at H
      by_cases c3 : x12_1 < (l0.length : Int)
      · rw [if_pos c3] at H
        have c3b0 : decide (x12_1 < (l0.length : Int)) = true := decide_eq_true c3
        clear c3
        by_cases c4 : 0 ≤ x12_1
        · rw [if_pos c4] at H
          have c4b0 : decide (0 ≤ x12_1) = true := decide_eq_true c4
          clear c4
          by_cases c5 : x12_1 < (l0.length : Int)
          · rw [if_pos c5] at H
            have c5b0 : decide (x12_1 < (l0.length : Int)) = true := decide_eq_true c5
            clear c5
            replace H := Option.bind_eq_some_iff.mp H
            obtain ⟨t126, A60, H⟩ := H
            replace H : (if t126 = true then (if x7_1 = true then (if 0 ≤ x6_1 then (if x6_1 < (l0.length : Int) then (if ((rdOf ByteArray.empty l0 x12_1).size : Int) > ((rdOf ByteArray.empty l0 x6_1).size : Int) then (path_Deepest.l0 k1 l0 a1 x12_1 true l0 (l0.length : Int) (wrap64 (x12_1 + 1))) else (path_Deepest.l0 k1 l0 a1 x6_1 x7_1 l0 (l0.length : Int) (wrap64 (x12_1 + 1)))) else (none)) else (none)) else (path_Deepest.l0 k1 l0 a1 x12_1 true l0 (l0.length : Int) (wrap64 (x12_1 + 1)))) else (path_Deepest.l0 k1 l0 a1 x6_1 x7_1 l0 (l0.length : Int) (wrap64 (x12_1 + 1)))) = some (r1, r2) := H
            have A6 := Aside0.mk A60
            clear A60
            by_cases c7 : t126 = true
            · subst c7
              have H1 : (if x7_1 = true then (if 0 ≤ x6_1 then (if x6_1 < (l0.length : Int) then (if ((rdOf ByteArray.empty l0 x12_1).size : Int) > ((rdOf ByteArray.empty l0 x6_1).size : Int) then (path_Deepest.l0 k1 l0 a1 x12_1 true l0 (l0.length : Int) (wrap64 (x12_1 + 1))) else (path_Deepest.l0 k1 l0 a1 x6_1 x7_1 l0 (l0.length : Int) (wrap64 (x12_1 + 1)))) else (none)) else (none)) else (path_Deepest.l0 k1 l0 a1 x12_1 true l0 (l0.length : Int) (wrap64 (x12_1 + 1)))) = some (r1, r2) := by rw [if_pos rfl] at H; exact H
              clear H
              have H := H1
              clear H1
              by_cases c8 : x7_1 = true
              · subst c8
                have H1 : (if 0 ≤ x6_1 then (if x6_1 < (l0.length : Int) then (if ((rdOf ByteArray.empty l0 x12_1).size : Int) > ((rdOf ByteArray.empty l0 x6_1).size : Int) then (path_Deepest.l0 k1 l0 a1 x12_1 true l0 (l0.length : Int) (wrap64 (x12_1 + 1))) else (path_Deepest.l0 k1 l0 a1 x6_1 true l0 (l0.length : Int) (wrap64 (x12_1 + 1)))) else (none)) else (none)) = some (r1, r2) := by rw [if_pos rfl] at H; exact H
                clear H
                have H := H1
                clear H1
                by_cases c9 : 0 ≤ x6_1
                · rw [if_pos c9] at H
                  have c9b0 : decide (0 ≤ x6_1) = true := decide_eq_true c9
                  clear c9
                  by_cases c10 : x6_1 < (l0.length : Int)
                  · rw [if_pos c10] at H
                    have c10b0 : decide (x6_1 < (l0.length : Int)) = true := decide_eq_true c10
                    clear c10
                    by_cases c11 : ((rdOf ByteArray.empty l0 x12_1).size : Int) > ((rdOf ByteArray.empty l0 x6_1).size : Int)
                    · rw [if_pos c11] at H
                      have c11b0 : decide (((rdOf ByteArray.empty l0 x6_1).size : Int) < ((rdOf ByteArray.empty l0 x12_1).size : Int)) = true := decide_eq_true c11
                      have c11b1 : decide ((rdOf ByteArray.empty l0 x6_1).size < (rdOf ByteArray.empty l0 x12_1).size) = true := decide_eq_true (Int.ofNat_lt.mp c11)
                      clear c11
                      have H' := Aside0.mk H
                      clear H
                      have p125 : 0 ≤ (x12_1 : Int) := of_decide_eq_true (by first | (with_reducible assumption) | assumption)
                      have q125 : x12_1 < (l0.length : Int) := of_decide_eq_true (by first | (with_reducible assumption) | assumption)
                      obtain ⟨ad125, e125, hx125_0⟩ := Kd.at_string HR0.out x12_1 p125 q125
                      cases e125
                      replace hx125_0 := (HB.out.cell (World.block_lt_of_cell? w _ hx125_0)).trans hx125_0
                      replace p125 := eq_true p125
                      replace q125 := eq_true q125
                      go_wp2_with (first | ((with_reducible refine gate_callee (f := 15) rfl ?_); refine goesL_ (some 19) rfl rfl Tryd.func15 (by kernel_rfl) rfl #[.string (rdOf ByteArray.empty l0 x12_1), .string a1] rfl (by (try simp only [List.map_toArray, List.map_cons, List.map_nil]); first | done | rfl | (simp only [List.length_drop, List.length_take]; rfl)) ?_; (with_reducible refine (path_Covers.calls k1 (rdOf ByteArray.empty l0 x12_1) a1 true _ A6.out).mono ?_); rintro e w12 ⟨rfl, hb⟩; refine ⟨_, rfl, ?_⟩; have n0_ := Aside0.mk (below_step (by repeat (first | (with_reducible first | exact HB.out | apply below_alloc | apply pw_below_drewN | apply below_drew1) | exact HB.out)) hb); clear HB; have HB := n0_; clear n0_; (try clear hb); (try clear hb2); (try clear hk); (try clear hi); have p127 : 0 ≤ (x6_1 : Int) := of_decide_eq_true (by first | (with_reducible assumption) | assumption); have q127 : x6_1 < (l0.length : Int) := of_decide_eq_true (by first | (with_reducible assumption) | assumption); obtain ⟨ad127, e127, hx127_0⟩ := Kd.at_string HR0.out x6_1 p127 q127; obtain rfl : ad125 = ad127 := (by injection e127); replace hx127_0 := (HB.out.cell (World.block_lt_of_cell? w _ hx127_0)).trans hx127_0; replace p127 := eq_true p127; replace q127 := eq_true q127))
                      go_roundg k1
                      case measure => have := HK1.out; omega
                      case rel => exact ⟨(x12_1), (true), (wrap64 (x12_1 + 1)), (by first | rfl | (simp; done) | (simp [*]; done)), (by first | rfl | (simp; done) | (simp [*]; done)), (by first | rfl | (simp; done) | (simp [*]; done)), H', ⟨by have := HK1.out; omega⟩, ⟨by repeat (first | (with_reducible first | exact HB.out | apply below_alloc | apply pw_below_drewN | apply below_drew1) | exact HB.out)⟩⟩
                    · rw [if_neg c11] at H
                      have c11b0 : decide (((rdOf ByteArray.empty l0 x6_1).size : Int) < ((rdOf ByteArray.empty l0 x12_1).size : Int)) = false := decide_eq_false c11
                      have c11b1 : decide ((rdOf ByteArray.empty l0 x6_1).size < (rdOf ByteArray.empty l0 x12_1).size) = false := decide_eq_false (fun h => c11 (Int.ofNat_lt.mpr h))
                      clear c11
                      have H' := Aside0.mk H
                      clear H
                      have p125 : 0 ≤ (x12_1 : Int) := of_decide_eq_true (by first | (with_reducible assumption) | assumption)
                      have q125 : x12_1 < (l0.length : Int) := of_decide_eq_true (by first | (with_reducible assumption) | assumption)
                      obtain ⟨ad125, e125, hx125_0⟩ := Kd.at_string HR0.out x12_1 p125 q125
                      cases e125
                      replace hx125_0 := (HB.out.cell (World.block_lt_of_cell? w _ hx125_0)).trans hx125_0
                      replace p125 := eq_true p125
                      replace q125 := eq_true q125
                      go_wp2_with (first | ((with_reducible refine gate_callee (f := 15) rfl ?_); refine goesL_ (some 19) rfl rfl Tryd.func15 (by kernel_rfl) rfl #[.string (rdOf ByteArray.empty l0 x12_1), .string a1] rfl (by (try simp only [List.map_toArray, List.map_cons, List.map_nil]); first | done | rfl | (simp only [List.length_drop, List.length_take]; rfl)) ?_; (with_reducible refine (path_Covers.calls k1 (rdOf ByteArray.empty l0 x12_1) a1 true _ A6.out).mono ?_); rintro e w13 ⟨rfl, hb⟩; refine ⟨_, rfl, ?_⟩; have n0_ := Aside0.mk (below_step (by repeat (first | (with_reducible first | exact HB.out | apply below_alloc | apply pw_below_drewN | apply below_drew1) | exact HB.out)) hb); clear HB; have HB := n0_; clear n0_; (try clear hb); (try clear hb2); (try clear hk); (try clear hi); have p127 : 0 ≤ (x6_1 : Int) := of_decide_eq_true (by first | (with_reducible assumption) | assumption); have q127 : x6_1 < (l0.length : Int) := of_decide_eq_true (by first | (with_reducible assumption) | assumption); obtain ⟨ad127, e127, hx127_0⟩ := Kd.at_string HR0.out x6_1 p127 q127; obtain rfl : ad125 = ad127 := (by injection e127); replace hx127_0 := (HB.out.cell (World.block_lt_of_cell? w _ hx127_0)).trans hx127_0; replace p127 := eq_true p127; replace q127 := eq_true q127))
                      go_roundg k1
                      case measure => have := HK1.out; omega
                      case rel => exact ⟨(x6_1), (true), (wrap64 (x12_1 + 1)), (by first | rfl | (simp; done) | (simp [*]; done)), (by first | rfl | (simp; done) | (simp [*]; done)), (by first | rfl | (simp; done) | (simp [*]; done)), H', ⟨by have := HK1.out; omega⟩, ⟨by repeat (first | (with_reducible first | exact HB.out | apply below_alloc | apply pw_below_drewN | apply below_drew1) | exact HB.out)⟩⟩
                  · rw [if_neg c10] at H
                    exact absurd H (by simp)
                · rw [if_neg c9] at H
                  exact absurd H (by simp)
              · replace c8 := Bool.eq_false_iff.mpr c8
                subst c8
                have H1 : (path_Deepest.l0 k1 l0 a1 x12_1 true l0 (l0.length : Int) (wrap64 (x12_1 + 1))) = some (r1, r2) := by rw [if_neg (show ¬ (false = true) by decide)] at H; exact H
                clear H
                have H := H1
                clear H1
                have H' := Aside0.mk H
                clear H
                have p125 : 0 ≤ (x12_1 : Int) := of_decide_eq_true (by first | (with_reducible assumption) | assumption)
                have q125 : x12_1 < (l0.length : Int) := of_decide_eq_true (by first | (with_reducible assumption) | assumption)
                obtain ⟨ad125, e125, hx125_0⟩ := Kd.at_string HR0.out x12_1 p125 q125
                cases e125
                replace hx125_0 := (HB.out.cell (World.block_lt_of_cell? w _ hx125_0)).trans hx125_0
                replace p125 := eq_true p125
                replace q125 := eq_true q125
                go_wp2_with (first | ((with_reducible refine gate_callee (f := 15) rfl ?_); refine goesL_ (some 19) rfl rfl Tryd.func15 (by kernel_rfl) rfl #[.string (rdOf ByteArray.empty l0 x12_1), .string a1] rfl (by (try simp only [List.map_toArray, List.map_cons, List.map_nil]); first | done | rfl | (simp only [List.length_drop, List.length_take]; rfl)) ?_; (with_reducible refine (path_Covers.calls k1 (rdOf ByteArray.empty l0 x12_1) a1 true _ A6.out).mono ?_); rintro e w14 ⟨rfl, hb⟩; refine ⟨_, rfl, ?_⟩; have n0_ := Aside0.mk (below_step (by repeat (first | (with_reducible first | exact HB.out | apply below_alloc | apply pw_below_drewN | apply below_drew1) | exact HB.out)) hb); clear HB; have HB := n0_; clear n0_; (try clear hb); (try clear hb2); (try clear hk); (try clear hi)))
                go_roundg k1
                case measure => have := HK1.out; omega
                case rel => exact ⟨(x12_1), (true), (wrap64 (x12_1 + 1)), (by first | rfl | (simp; done) | (simp [*]; done)), (by first | rfl | (simp; done) | (simp [*]; done)), (by first | rfl | (simp; done) | (simp [*]; done)), H', ⟨by have := HK1.out; omega⟩, ⟨by repeat (first | (with_reducible first | exact HB.out | apply below_alloc | apply pw_below_drewN | apply below_drew1) | exact HB.out)⟩⟩
            · replace c7 := Bool.eq_false_iff.mpr c7
              subst c7
              have H1 : (path_Deepest.l0 k1 l0 a1 x6_1 x7_1 l0 (l0.length : Int) (wrap64 (x12_1 + 1))) = some (r1, r2) := by rw [if_neg (show ¬ (false = true) by decide)] at H; exact H
              clear H
              have H := H1
              clear H1
              have H' := Aside0.mk H
              clear H
              have p125 : 0 ≤ (x12_1 : Int) := of_decide_eq_true (by first | (with_reducible assumption) | assumption)
              have q125 : x12_1 < (l0.length : Int) := of_decide_eq_true (by first | (with_reducible assumption) | assumption)
              obtain ⟨ad125, e125, hx125_0⟩ := Kd.at_string HR0.out x12_1 p125 q125
              cases e125
              replace hx125_0 := (HB.out.cell (World.block_lt_of_cell? w _ hx125_0)).trans hx125_0
              replace p125 := eq_true p125
              replace q125 := eq_true q125
              go_wp2_with (first | ((with_reducible refine gate_callee (f := 15) rfl ?_); refine goesL_ (some 19) rfl rfl Tryd.func15 (by kernel_rfl) rfl #[.string (rdOf ByteArray.empty l0 x12_1), .string a1] rfl (by (try simp only [List.map_toArray, List.map_cons, List.map_nil]); first | done | rfl | (simp only [List.length_drop, List.length_take]; rfl)) ?_; (with_reducible refine (path_Covers.calls k1 (rdOf ByteArray.empty l0 x12_1) a1 false _ A6.out).mono ?_); rintro e w15 ⟨rfl, hb⟩; refine ⟨_, rfl, ?_⟩; have n0_ := Aside0.mk (below_step (by repeat (first | (with_reducible first | exact HB.out | apply below_alloc | apply pw_below_drewN | apply below_drew1) | exact HB.out)) hb); clear HB; have HB := n0_; clear n0_; (try clear hb); (try clear hb2); (try clear hk); (try clear hi)))
              go_roundg k1
              case measure => have := HK1.out; omega
              case rel => exact ⟨(x6_1), (x7_1), (wrap64 (x12_1 + 1)), (by first | rfl | (simp; done) | (simp [*]; done)), (by first | rfl | (simp; done) | (simp [*]; done)), (by first | rfl | (simp; done) | (simp [*]; done)), H', ⟨by have := HK1.out; omega⟩, ⟨by repeat (first | (with_reducible first | exact HB.out | apply below_alloc | apply pw_below_drewN | apply below_drew1) | exact HB.out)⟩⟩
          · rw [if_neg c5] at H
            exact absurd H (by simp)
        · rw [if_neg c4] at H
          exact absurd H (by simp)
      · rw [if_neg c3] at H
        have c3b0 : decide (x12_1 < (l0.length : Int)) = false := decide_eq_false c3
        clear c3
        simp only [Option.some.injEq, Prod.mk.injEq] at H
        obtain ⟨rfl, rfl⟩ := H
        go_wp2
        go_ret2
        exact ⟨by first | rfl | (simp [errW_none, errW_some] <;> rfl) | (simp [*, errW_none, errW_some] <;> rfl), by repeat (first | (with_reducible first | exact HB.out | apply below_alloc | apply pw_below_drewN | apply below_drew1) | exact HB.out)⟩

/-! ### quitclaimlaw10_PathDeepest: function 3 -/
mutual
def quitclaimlaw10_PathDeepest.j0 : Nat → List ByteArray → ByteArray → Bool → Option (Bool)
  | 0, _, _, _ => none
  | k + 1, x0, x1, x18 => if x18 = true then ((quitclaimlaw10_awake.f k).bind fun t128 => (some t128)) else (quitclaimlaw10_PathDeepest.l0 k x0 x1 0 false x0 (x0.length : Int) 0)
def quitclaimlaw10_PathDeepest.l0 : Nat → List ByteArray → ByteArray → Int → Bool → List ByteArray → Int → Int → Option (Bool)
  | 0, _, _, _, _, _, _, _ => none
  | k + 1, x0, x1, x5, x6, x20, x21, x22 => if x22 < x21 then (if 0 ≤ x22 then (if x22 < (x20.length : Int) then (if ((rdOf ByteArray.empty x20 x22).size : Int) > 300 then ((quitclaimlaw10_awake.f k).bind fun t133 => (some t133)) else (if (rdOf ByteArray.empty x20 x22).toList = ([] : List UInt8) then ((quitclaimref10_Right.f k x1).bind fun t134 => (if t134 = true then ((quitclaimref10_Covers.f (rdOf ByteArray.empty x20 x22) x1).bind fun t135 => (if t135 = true then (if x6 = true then (if 0 ≤ x5 then (if x5 < (x0.length : Int) then (if ((rdOf ByteArray.empty x20 x22).size : Int) > ((rdOf ByteArray.empty x0 x5).size : Int) then (quitclaimlaw10_PathDeepest.l0 k x0 x1 x22 true x20 x21 (wrap64 (x22 + 1))) else (quitclaimlaw10_PathDeepest.l0 k x0 x1 x5 x6 x20 x21 (wrap64 (x22 + 1)))) else (none)) else (none)) else (quitclaimlaw10_PathDeepest.l0 k x0 x1 x22 true x20 x21 (wrap64 (x22 + 1)))) else (quitclaimlaw10_PathDeepest.l0 k x0 x1 x5 x6 x20 x21 (wrap64 (x22 + 1))))) else (quitclaimlaw10_PathDeepest.l0 k x0 x1 x5 x6 x20 x21 (wrap64 (x22 + 1))))) else ((quitclaimref10_Right.f k (rdOf ByteArray.empty x20 x22)).bind fun t137 => (if t137 = true then ((quitclaimref10_Right.f k x1).bind fun t138 => (if t138 = true then ((quitclaimref10_Covers.f (rdOf ByteArray.empty x20 x22) x1).bind fun t139 => (if t139 = true then (if x6 = true then (if 0 ≤ x5 then (if x5 < (x0.length : Int) then (if ((rdOf ByteArray.empty x20 x22).size : Int) > ((rdOf ByteArray.empty x0 x5).size : Int) then (quitclaimlaw10_PathDeepest.l0 k x0 x1 x22 true x20 x21 (wrap64 (x22 + 1))) else (quitclaimlaw10_PathDeepest.l0 k x0 x1 x5 x6 x20 x21 (wrap64 (x22 + 1)))) else (none)) else (none)) else (quitclaimlaw10_PathDeepest.l0 k x0 x1 x22 true x20 x21 (wrap64 (x22 + 1)))) else (quitclaimlaw10_PathDeepest.l0 k x0 x1 x5 x6 x20 x21 (wrap64 (x22 + 1))))) else (quitclaimlaw10_PathDeepest.l0 k x0 x1 x5 x6 x20 x21 (wrap64 (x22 + 1))))) else (quitclaimlaw10_PathDeepest.l0 k x0 x1 x5 x6 x20 x21 (wrap64 (x22 + 1))))))) else (none)) else (none)) else ((path_Deepest.f k x0 x1).bind fun bt129 => (if bt129.1 = x5 then (if (bt129.2 == x6) = true then ((quitclaimlaw10_awake.f k).bind fun t131 => (some t131)) else (some false)) else (some false)))
end
def quitclaimlaw10_PathDeepest.f (k : Nat) (l0 : List ByteArray) (a1 : ByteArray) : Option (Bool) := if (l0.length : Int) > 40 then (quitclaimlaw10_PathDeepest.j0 k l0 a1 true) else (quitclaimlaw10_PathDeepest.j0 k l0 a1 (decide ((a1.size : Int) > 300)))
theorem quitclaimlaw10_PathDeepest.mono_l : ∀ k, (∀ y0 y1 y2, LeO (quitclaimlaw10_PathDeepest.j0 k y0 y1 y2) (quitclaimlaw10_PathDeepest.j0 (k + 1) y0 y1 y2)) ∧ (∀ y0 y1 y2 y3 y4 y5 y6, LeO (quitclaimlaw10_PathDeepest.l0 k y0 y1 y2 y3 y4 y5 y6) (quitclaimlaw10_PathDeepest.l0 (k + 1) y0 y1 y2 y3 y4 y5 y6))
  | 0 => ⟨fun _ _ _ r h => by simp [quitclaimlaw10_PathDeepest.j0] at h, fun _ _ _ _ _ _ _ r h => by simp [quitclaimlaw10_PathDeepest.l0] at h⟩
  | k + 1 => by
    obtain ⟨ih0, ih1⟩ := quitclaimlaw10_PathDeepest.mono_l k
    refine ⟨?_, ?_⟩
    · intro y0 y1 y2
      unfold quitclaimlaw10_PathDeepest.j0
      repeat' first
      | (with_reducible exact ih0 _ _ _)
      | (with_reducible exact ih1 _ _ _ _ _ _ _)
      | (with_reducible exact path_Deepest.mono _ _ _)
      | (with_reducible exact quitclaimlaw10_awake.mono _)
      | (with_reducible exact quitclaimref10_Right.mono _ _)
      | (with_reducible exact LeO.refl _)
      | (with_reducible exact LeO.none _)
      | (with_reducible refine LeO.ite ?_ ?_)
      | (with_reducible refine LeO.bind ?_ (fun _ => ?_))
      | exact ih0 _ _ _
      | exact ih1 _ _ _ _ _ _ _
      | exact path_Deepest.mono _ _ _
      | exact quitclaimlaw10_awake.mono _
      | exact quitclaimref10_Right.mono _ _
      | exact LeO.none _
      | refine LeO.ite ?_ ?_
      | refine LeO.bind ?_ (fun _ => ?_)
    · intro y0 y1 y2 y3 y4 y5 y6
      unfold quitclaimlaw10_PathDeepest.l0
      repeat' first
      | (with_reducible exact ih0 _ _ _)
      | (with_reducible exact ih1 _ _ _ _ _ _ _)
      | (with_reducible exact path_Deepest.mono _ _ _)
      | (with_reducible exact quitclaimlaw10_awake.mono _)
      | (with_reducible exact quitclaimref10_Right.mono _ _)
      | (with_reducible exact LeO.refl _)
      | (with_reducible exact LeO.none _)
      | (with_reducible refine LeO.ite ?_ ?_)
      | (with_reducible refine LeO.bind ?_ (fun _ => ?_))
      | exact ih0 _ _ _
      | exact ih1 _ _ _ _ _ _ _
      | exact path_Deepest.mono _ _ _
      | exact quitclaimlaw10_awake.mono _
      | exact quitclaimref10_Right.mono _ _
      | exact LeO.none _
      | refine LeO.ite ?_ ?_
      | refine LeO.bind ?_ (fun _ => ?_)
theorem quitclaimlaw10_PathDeepest.mono : ∀ a0 a1 k, LeO (quitclaimlaw10_PathDeepest.f k a0 a1) (quitclaimlaw10_PathDeepest.f (k + 1) a0 a1) := by
  intro a0 a1 k
  obtain ⟨ih0, ih1⟩ := quitclaimlaw10_PathDeepest.mono_l k
  unfold quitclaimlaw10_PathDeepest.f
  repeat' first
      | (with_reducible exact ih0 _ _ _)
      | (with_reducible exact ih1 _ _ _ _ _ _ _)
      | (with_reducible exact path_Deepest.mono _ _ _)
      | (with_reducible exact quitclaimlaw10_awake.mono _)
      | (with_reducible exact quitclaimref10_Right.mono _ _)
      | (with_reducible exact LeO.refl _)
      | (with_reducible exact LeO.none _)
      | (with_reducible refine LeO.ite ?_ ?_)
      | (with_reducible refine LeO.bind ?_ (fun _ => ?_))
      | exact ih0 _ _ _
      | exact ih1 _ _ _ _ _ _ _
      | exact path_Deepest.mono _ _ _
      | exact quitclaimlaw10_awake.mono _
      | exact quitclaimref10_Right.mono _ _
      | exact LeO.none _
      | refine LeO.ite ?_ ?_
      | refine LeO.bind ?_ (fun _ => ?_)
set_option maxHeartbeats 8000000 in
set_option maxRecDepth 100000 in
theorem quitclaimlaw10_PathDeepest.calls (k : Nat) (A0 : Option Addr) (c0 : Nat) (l0 : List ByteArray) (a1 : ByteArray) (r : Bool) (w : World) (hr0 : Kd.C Kd.string w A0 l0.length l0) (hc0 : l0.length ≤ c0) (h : quitclaimlaw10_PathDeepest.f k l0 a1 = some r) (htr_ : Aside0 (r = true)) :
    Calls Tryd.prog 3 #[.slice A0 l0.length c0, .string a1] w fun e w' => e = .returned (.bool r) ∧ Below w.heap.size w w' := by
  have HR0 := Aside0.mk hr0
  have HC0 := Aside0.mk hc0
  clear hr0 hc0
  have HB := Aside0.mk (Below.refl w.heap.size w)
  have H : (if (l0.length : Int) > 40 then (quitclaimlaw10_PathDeepest.j0 k l0 a1 true) else (quitclaimlaw10_PathDeepest.j0 k l0 a1 (decide ((a1.size : Int) > 300)))) = some r := h
  clear h
  have HC3 := Aside0.mk H
  clear H
  go_enter Tryd.func3, Tryd.ntmps3
  go_upto_region 1 with (fail)
  go_cut [18] (fun v18 wc => ∃ (kq : Nat) (x18_2 : Bool), v18 = .bool x18_2 ∧ Aside0 (quitclaimlaw10_PathDeepest.j0 kq l0 a1 x18_2 = some r) ∧ Aside0 (kq ≤ k) ∧ Aside0 (Below w.heap.size w wc))
  case first =>
    have H := HC3.out
    clear HC3
    by_cases c4 : (l0.length : Int) > 40
    · rw [if_pos c4] at H
      have c4b0 : decide (40 < (l0.length : Int)) = true := decide_eq_true c4
      have c4b1 : decide (40 < l0.length) = true := decide_eq_true (by omega)
      clear c4
      (first | rw [c4b0] | (simp only [i64_w, i32_w]; rw [c4b0]) | skip)
      have H' := Aside0.mk H
      clear H
      go_wp2
      go_meet
      case rel => exact ⟨_, (true), (by first | rfl | (simp; done) | (simp [*]; done)), H', ⟨by first | omega | exact Nat.le_refl _⟩, ⟨by repeat (first | (with_reducible first | exact HB.out | apply below_alloc | apply pw_below_drewN | apply below_drew1) | exact HB.out)⟩⟩
    · rw [if_neg c4] at H
      have c4b0 : decide (40 < (l0.length : Int)) = false := decide_eq_false c4
      have c4b1 : decide (40 < l0.length) = false := decide_eq_false (by omega)
      clear c4
      (first | rw [c4b0] | (simp only [i64_w, i32_w]; rw [c4b0]) | skip)
      have H' := Aside0.mk H
      clear H
      go_wp2
      go_meet
      case rel => exact ⟨_, (decide ((a1.size : Int) > 300)), (by first | rfl | (simp; done) | (simp [*]; done)), H', ⟨by first | omega | exact Nat.le_refl _⟩, ⟨by repeat (first | (with_reducible first | exact HB.out | apply below_alloc | apply pw_below_drewN | apply below_drew1) | exact HB.out)⟩⟩
  case rest =>
    clear HC3
    try clear p2
    try clear c3
    try clear c4
    try clear c4b0
    try clear c4b1
    obtain ⟨kq, x18_2, rfl, HA, HJ2, HB⟩ := hcut
    cases kq with
    | zero => exact absurd HA.out (by simp [quitclaimlaw10_PathDeepest.j0])
    | succ kj2 =>
      have H := HA.out
      clear HA
      simp only [quitclaimlaw10_PathDeepest.j0] at H
      by_cases c5 : x18_2 = true
      · subst c5
        have H1 : ((quitclaimlaw10_awake.f kj2).bind fun t128 => (some t128)) = some r := by rw [if_pos rfl] at H; exact H
        clear H
        have H := H1
        clear H1
        replace H := Option.bind_eq_some_iff.mp H
        obtain ⟨t128, A60, H⟩ := H
        replace H : (some t128) = some r := H
        have A6 := Aside0.mk A60
        clear A60
        obtain rfl := Option.some.inj H
        go_wp2_with (first | ((with_reducible refine gate_callee (f := 9) rfl ?_); refine goesL_ (some 19) rfl rfl Tryd.func9 (by kernel_rfl) rfl #[] rfl (by (try simp only [List.map_toArray, List.map_cons, List.map_nil]); first | done | rfl | (simp only [List.length_drop, List.length_take]; rfl)) ?_; (with_reducible refine (quitclaimlaw10_awake.calls kj2  t128 _ A6.out).mono ?_); rintro e w7 ⟨rfl, hb⟩; refine ⟨_, rfl, ?_⟩; have n0_ := Aside0.mk (below_step (by repeat (first | (with_reducible first | exact HB.out | apply below_alloc | apply pw_below_drewN | apply below_drew1) | exact HB.out)) hb); clear HB; have HB := n0_; clear n0_; (try clear hb); (try clear hb2); (try clear hk); (try clear hi)))
        go_ret
        exact ⟨by first | rfl | (simp [errW_none, errW_some] <;> rfl) | (simp [*, errW_none, errW_some] <;> rfl), by repeat (first | (with_reducible first | exact HB.out | apply below_alloc | apply pw_below_drewN | apply below_drew1) | exact HB.out)⟩
      · replace c5 := Bool.eq_false_iff.mpr c5
        subst c5
        have H1 : (quitclaimlaw10_PathDeepest.l0 kj2 l0 a1 0 false l0 (l0.length : Int) 0) = some r := by rw [if_neg (show ¬ (false = true) by decide)] at H; exact H
        clear H
        have H := H1
        clear H1
        have H' := Aside0.mk H
        clear H
        go_wp2
        go_loopg [5, 6, 22] kj2 (fun kq v5 v6 v22 w' => ∃ (x5_2 : Int) (x6_2 : Bool) (x22_2 : Int), v5 = .int .i64 x5_2 ∧ v6 = .bool x6_2 ∧ v22 = .int .i64 x22_2 ∧ Aside0 (quitclaimlaw10_PathDeepest.l0 kq l0 a1 x5_2 x6_2 l0 (l0.length : Int) x22_2 = some r) ∧ Aside0 (kq ≤ kj2) ∧ Aside0 (Below w.heap.size w w'))
        case atStart => exact ⟨(0), (false), (0), (by first | rfl | (simp; done) | (simp [*]; done)), (by first | rfl | (simp; done) | (simp [*]; done)), (by first | rfl | (simp; done) | (simp [*]; done)), H', ⟨Nat.le_refl _⟩, ⟨by repeat (first | (with_reducible first | exact HB.out | apply below_alloc | apply pw_below_drewN | apply below_drew1) | exact HB.out)⟩⟩
        case round =>
          clear H'
          try clear p2
          try clear c3
          try clear c4
          try clear c4b0
          try clear c4b1
          try clear c5
          try clear p2
          obtain ⟨x5_2, x6_2, x22_2, rfl, rfl, rfl, HA, HK2, HB⟩ := hrel
          cases gk with
          | zero => exact absurd HA.out (by simp [quitclaimlaw10_PathDeepest.l0])
          | succ k2 =>
            have H := HA.out
            clear HA
            simp only [quitclaimlaw10_PathDeepest.l0] at H
            by_cases c8 : x22_2 < (l0.length : Int)
            · rw [if_pos c8] at H
              have c8b0 : decide (x22_2 < (l0.length : Int)) = true := decide_eq_true c8
              clear c8
              by_cases c9 : 0 ≤ x22_2
              · rw [if_pos c9] at H
                have c9b0 : decide (0 ≤ x22_2) = true := decide_eq_true c9
                clear c9
                by_cases c10 : x22_2 < (l0.length : Int)
                · rw [if_pos c10] at H
                  have c10b0 : decide (x22_2 < (l0.length : Int)) = true := decide_eq_true c10
                  clear c10
                  by_cases c11 : ((rdOf ByteArray.empty l0 x22_2).size : Int) > 300
                  · rw [if_pos c11] at H
                    have c11b0 : decide (300 < ((rdOf ByteArray.empty l0 x22_2).size : Int)) = true := decide_eq_true c11
                    have c11b1 : decide (300 < (rdOf ByteArray.empty l0 x22_2).size) = true := decide_eq_true (by omega)
                    clear c11
                    replace H := Option.bind_eq_some_iff.mp H
                    obtain ⟨t133, A120, H⟩ := H
                    replace H : (some t133) = some r := H
                    have A12 := Aside0.mk A120
                    clear A120
                    obtain rfl := Option.some.inj H
                    have p132 : 0 ≤ (x22_2 : Int) := of_decide_eq_true (by first | (with_reducible assumption) | assumption)
                    have q132 : x22_2 < (l0.length : Int) := of_decide_eq_true (by first | (with_reducible assumption) | assumption)
                    obtain ⟨ad132, e132, hx132_0⟩ := Kd.at_string HR0.out x22_2 p132 q132
                    cases e132
                    replace hx132_0 := (HB.out.cell (World.block_lt_of_cell? w _ hx132_0)).trans hx132_0
                    replace p132 := eq_true p132
                    replace q132 := eq_true q132
                    go_wp2_with (first | ((with_reducible refine gate_callee (f := 9) rfl ?_); refine goesL_ (some 30) rfl rfl Tryd.func9 (by kernel_rfl) rfl #[] rfl (by (try simp only [List.map_toArray, List.map_cons, List.map_nil]); first | done | rfl | (simp only [List.length_drop, List.length_take]; rfl)) ?_; (with_reducible refine (quitclaimlaw10_awake.calls k2  t133 _ A12.out).mono ?_); rintro e w13 ⟨rfl, hb⟩; refine ⟨_, rfl, ?_⟩; have n0_ := Aside0.mk (below_step (by repeat (first | (with_reducible first | exact HB.out | apply below_alloc | apply pw_below_drewN | apply below_drew1) | exact HB.out)) hb); clear HB; have HB := n0_; clear n0_; (try clear hb); (try clear hb2); (try clear hk); (try clear hi)))
                    go_ret
                    exact ⟨by first | rfl | (simp [errW_none, errW_some] <;> rfl) | (simp [*, errW_none, errW_some] <;> rfl), by repeat (first | (with_reducible first | exact HB.out | apply below_alloc | apply pw_below_drewN | apply below_drew1) | exact HB.out)⟩
                  · rw [if_neg c11] at H
                    have c11b0 : decide (300 < ((rdOf ByteArray.empty l0 x22_2).size : Int)) = false := decide_eq_false c11
                    have c11b1 : decide (300 < (rdOf ByteArray.empty l0 x22_2).size) = false := decide_eq_false (by omega)
                    clear c11
                    by_cases c14 : (rdOf ByteArray.empty l0 x22_2).toList = ([] : List UInt8)
                    · rw [if_pos c14] at H
                      have c14b0 : ((rdOf ByteArray.empty l0 x22_2).toList == ([] : List UInt8)) = true := beq_iff_eq.mpr c14
                      have c14b1 : ((rdOf ByteArray.empty l0 x22_2).toList != ([] : List UInt8)) = false := bne_eq_false_iff_eq.mpr c14
                      clear c14
                      replace H := Option.bind_eq_some_iff.mp H
                      obtain ⟨t134, A150, H⟩ := H
                      replace H : (if t134 = true then ((quitclaimref10_Covers.f (rdOf ByteArray.empty l0 x22_2) a1).bind fun t135 => (if t135 = true then (if x6_2 = true then (if 0 ≤ x5_2 then (if x5_2 < (l0.length : Int) then (if ((rdOf ByteArray.empty l0 x22_2).size : Int) > ((rdOf ByteArray.empty l0 x5_2).size : Int) then (quitclaimlaw10_PathDeepest.l0 k2 l0 a1 x22_2 true l0 (l0.length : Int) (wrap64 (x22_2 + 1))) else (quitclaimlaw10_PathDeepest.l0 k2 l0 a1 x5_2 x6_2 l0 (l0.length : Int) (wrap64 (x22_2 + 1)))) else (none)) else (none)) else (quitclaimlaw10_PathDeepest.l0 k2 l0 a1 x22_2 true l0 (l0.length : Int) (wrap64 (x22_2 + 1)))) else (quitclaimlaw10_PathDeepest.l0 k2 l0 a1 x5_2 x6_2 l0 (l0.length : Int) (wrap64 (x22_2 + 1))))) else (quitclaimlaw10_PathDeepest.l0 k2 l0 a1 x5_2 x6_2 l0 (l0.length : Int) (wrap64 (x22_2 + 1)))) = some r := H
                      have A15 := Aside0.mk A150
                      clear A150
                      by_cases c16 : t134 = true
                      · subst c16
                        have H1 : ((quitclaimref10_Covers.f (rdOf ByteArray.empty l0 x22_2) a1).bind fun t135 => (if t135 = true then (if x6_2 = true then (if 0 ≤ x5_2 then (if x5_2 < (l0.length : Int) then (if ((rdOf ByteArray.empty l0 x22_2).size : Int) > ((rdOf ByteArray.empty l0 x5_2).size : Int) then (quitclaimlaw10_PathDeepest.l0 k2 l0 a1 x22_2 true l0 (l0.length : Int) (wrap64 (x22_2 + 1))) else (quitclaimlaw10_PathDeepest.l0 k2 l0 a1 x5_2 x6_2 l0 (l0.length : Int) (wrap64 (x22_2 + 1)))) else (none)) else (none)) else (quitclaimlaw10_PathDeepest.l0 k2 l0 a1 x22_2 true l0 (l0.length : Int) (wrap64 (x22_2 + 1)))) else (quitclaimlaw10_PathDeepest.l0 k2 l0 a1 x5_2 x6_2 l0 (l0.length : Int) (wrap64 (x22_2 + 1))))) = some r := by rw [if_pos rfl] at H; exact H
                        clear H
                        have H := H1
                        clear H1
                        replace H := Option.bind_eq_some_iff.mp H
                        obtain ⟨t135, A170, H⟩ := H
                        replace H : (if t135 = true then (if x6_2 = true then (if 0 ≤ x5_2 then (if x5_2 < (l0.length : Int) then (if ((rdOf ByteArray.empty l0 x22_2).size : Int) > ((rdOf ByteArray.empty l0 x5_2).size : Int) then (quitclaimlaw10_PathDeepest.l0 k2 l0 a1 x22_2 true l0 (l0.length : Int) (wrap64 (x22_2 + 1))) else (quitclaimlaw10_PathDeepest.l0 k2 l0 a1 x5_2 x6_2 l0 (l0.length : Int) (wrap64 (x22_2 + 1)))) else (none)) else (none)) else (quitclaimlaw10_PathDeepest.l0 k2 l0 a1 x22_2 true l0 (l0.length : Int) (wrap64 (x22_2 + 1)))) else (quitclaimlaw10_PathDeepest.l0 k2 l0 a1 x5_2 x6_2 l0 (l0.length : Int) (wrap64 (x22_2 + 1)))) = some r := H
                        have A17 := Aside0.mk A170
                        clear A170
                        by_cases c18 : t135 = true
                        · subst c18
                          have H1 : (if x6_2 = true then (if 0 ≤ x5_2 then (if x5_2 < (l0.length : Int) then (if ((rdOf ByteArray.empty l0 x22_2).size : Int) > ((rdOf ByteArray.empty l0 x5_2).size : Int) then (quitclaimlaw10_PathDeepest.l0 k2 l0 a1 x22_2 true l0 (l0.length : Int) (wrap64 (x22_2 + 1))) else (quitclaimlaw10_PathDeepest.l0 k2 l0 a1 x5_2 x6_2 l0 (l0.length : Int) (wrap64 (x22_2 + 1)))) else (none)) else (none)) else (quitclaimlaw10_PathDeepest.l0 k2 l0 a1 x22_2 true l0 (l0.length : Int) (wrap64 (x22_2 + 1)))) = some r := by rw [if_pos rfl] at H; exact H
                          clear H
                          have H := H1
                          clear H1
                          by_cases c19 : x6_2 = true
                          · subst c19
                            have H1 : (if 0 ≤ x5_2 then (if x5_2 < (l0.length : Int) then (if ((rdOf ByteArray.empty l0 x22_2).size : Int) > ((rdOf ByteArray.empty l0 x5_2).size : Int) then (quitclaimlaw10_PathDeepest.l0 k2 l0 a1 x22_2 true l0 (l0.length : Int) (wrap64 (x22_2 + 1))) else (quitclaimlaw10_PathDeepest.l0 k2 l0 a1 x5_2 true l0 (l0.length : Int) (wrap64 (x22_2 + 1)))) else (none)) else (none)) = some r := by rw [if_pos rfl] at H; exact H
                            clear H
                            have H := H1
                            clear H1
                            by_cases c20 : 0 ≤ x5_2
                            · rw [if_pos c20] at H
                              have c20b0 : decide (0 ≤ x5_2) = true := decide_eq_true c20
                              clear c20
                              by_cases c21 : x5_2 < (l0.length : Int)
                              · rw [if_pos c21] at H
                                have c21b0 : decide (x5_2 < (l0.length : Int)) = true := decide_eq_true c21
                                clear c21
                                by_cases c22 : ((rdOf ByteArray.empty l0 x22_2).size : Int) > ((rdOf ByteArray.empty l0 x5_2).size : Int)
                                · rw [if_pos c22] at H
                                  have c22b0 : decide (((rdOf ByteArray.empty l0 x5_2).size : Int) < ((rdOf ByteArray.empty l0 x22_2).size : Int)) = true := decide_eq_true c22
                                  have c22b1 : decide ((rdOf ByteArray.empty l0 x5_2).size < (rdOf ByteArray.empty l0 x22_2).size) = true := decide_eq_true (Int.ofNat_lt.mp c22)
                                  clear c22
                                  have H' := Aside0.mk H
                                  clear H
                                  have p132 : 0 ≤ (x22_2 : Int) := of_decide_eq_true (by first | (with_reducible assumption) | assumption)
                                  have q132 : x22_2 < (l0.length : Int) := of_decide_eq_true (by first | (with_reducible assumption) | assumption)
                                  obtain ⟨ad132, e132, hx132_0⟩ := Kd.at_string HR0.out x22_2 p132 q132
                                  cases e132
                                  replace hx132_0 := (HB.out.cell (World.block_lt_of_cell? w _ hx132_0)).trans hx132_0
                                  replace p132 := eq_true p132
                                  replace q132 := eq_true q132
                                  go_wp2_with (first | (go_at_call 10; (with_reducible refine (quitclaimref10_Right.calls k2 a1 true _ A15.out).mono ?_); rintro e w23 ⟨rfl, hb⟩; have n0_ := Aside0.mk (below_step (by repeat (first | (with_reducible first | exact HB.out | apply below_alloc | apply pw_below_drewN | apply below_drew1) | exact HB.out)) hb); clear HB; have HB := n0_; clear n0_; (try clear hb); (try clear hb2); (try clear hk); (try clear hi)) | (go_at_call 11; (with_reducible refine (quitclaimref10_Covers.calls (rdOf ByteArray.empty l0 x22_2) a1 true _ A17.out).mono ?_); rintro e w' ⟨rfl, ⟨nd, rfl⟩⟩; have p136 : 0 ≤ (x5_2 : Int) := of_decide_eq_true (by first | (with_reducible assumption) | assumption); have q136 : x5_2 < (l0.length : Int) := of_decide_eq_true (by first | (with_reducible assumption) | assumption); obtain ⟨ad136, e136, hx136_0⟩ := Kd.at_string HR0.out x5_2 p136 q136; obtain rfl : ad132 = ad136 := (by injection e136); replace hx136_0 := (HB.out.cell (World.block_lt_of_cell? w _ hx136_0)).trans hx136_0; replace p136 := eq_true p136; replace q136 := eq_true q136))
                                  go_roundg k2
                                  case measure => have := HJ2.out; have := HK2.out; omega
                                  case rel => exact ⟨(x22_2), (true), (wrap64 (x22_2 + 1)), (by first | rfl | (simp; done) | (simp [*]; done)), (by first | rfl | (simp; done) | (simp [*]; done)), (by first | rfl | (simp; done) | (simp [*]; done)), H', ⟨by have := HJ2.out; have := HK2.out; omega⟩, ⟨by repeat (first | (with_reducible first | exact HB.out | apply below_alloc | apply pw_below_drewN | apply below_drew1) | exact HB.out)⟩⟩
                                · rw [if_neg c22] at H
                                  have c22b0 : decide (((rdOf ByteArray.empty l0 x5_2).size : Int) < ((rdOf ByteArray.empty l0 x22_2).size : Int)) = false := decide_eq_false c22
                                  have c22b1 : decide ((rdOf ByteArray.empty l0 x5_2).size < (rdOf ByteArray.empty l0 x22_2).size) = false := decide_eq_false (fun h => c22 (Int.ofNat_lt.mpr h))
                                  clear c22
                                  have H' := Aside0.mk H
                                  clear H
                                  have p132 : 0 ≤ (x22_2 : Int) := of_decide_eq_true (by first | (with_reducible assumption) | assumption)
                                  have q132 : x22_2 < (l0.length : Int) := of_decide_eq_true (by first | (with_reducible assumption) | assumption)
                                  obtain ⟨ad132, e132, hx132_0⟩ := Kd.at_string HR0.out x22_2 p132 q132
                                  cases e132
                                  replace hx132_0 := (HB.out.cell (World.block_lt_of_cell? w _ hx132_0)).trans hx132_0
                                  replace p132 := eq_true p132
                                  replace q132 := eq_true q132
                                  go_wp2_with (first | (go_at_call 10; (with_reducible refine (quitclaimref10_Right.calls k2 a1 true _ A15.out).mono ?_); rintro e w24 ⟨rfl, hb⟩; have n0_ := Aside0.mk (below_step (by repeat (first | (with_reducible first | exact HB.out | apply below_alloc | apply pw_below_drewN | apply below_drew1) | exact HB.out)) hb); clear HB; have HB := n0_; clear n0_; (try clear hb); (try clear hb2); (try clear hk); (try clear hi)) | (go_at_call 11; (with_reducible refine (quitclaimref10_Covers.calls (rdOf ByteArray.empty l0 x22_2) a1 true _ A17.out).mono ?_); rintro e w' ⟨rfl, ⟨nd, rfl⟩⟩; have p136 : 0 ≤ (x5_2 : Int) := of_decide_eq_true (by first | (with_reducible assumption) | assumption); have q136 : x5_2 < (l0.length : Int) := of_decide_eq_true (by first | (with_reducible assumption) | assumption); obtain ⟨ad136, e136, hx136_0⟩ := Kd.at_string HR0.out x5_2 p136 q136; obtain rfl : ad132 = ad136 := (by injection e136); replace hx136_0 := (HB.out.cell (World.block_lt_of_cell? w _ hx136_0)).trans hx136_0; replace p136 := eq_true p136; replace q136 := eq_true q136))
                                  go_roundg k2
                                  case measure => have := HJ2.out; have := HK2.out; omega
                                  case rel => exact ⟨(x5_2), (true), (wrap64 (x22_2 + 1)), (by first | rfl | (simp; done) | (simp [*]; done)), (by first | rfl | (simp; done) | (simp [*]; done)), (by first | rfl | (simp; done) | (simp [*]; done)), H', ⟨by have := HJ2.out; have := HK2.out; omega⟩, ⟨by repeat (first | (with_reducible first | exact HB.out | apply below_alloc | apply pw_below_drewN | apply below_drew1) | exact HB.out)⟩⟩
                              · rw [if_neg c21] at H
                                exact absurd H (by simp)
                            · rw [if_neg c20] at H
                              exact absurd H (by simp)
                          · replace c19 := Bool.eq_false_iff.mpr c19
                            subst c19
                            have H1 : (quitclaimlaw10_PathDeepest.l0 k2 l0 a1 x22_2 true l0 (l0.length : Int) (wrap64 (x22_2 + 1))) = some r := by rw [if_neg (show ¬ (false = true) by decide)] at H; exact H
                            clear H
                            have H := H1
                            clear H1
                            have H' := Aside0.mk H
                            clear H
                            have p132 : 0 ≤ (x22_2 : Int) := of_decide_eq_true (by first | (with_reducible assumption) | assumption)
                            have q132 : x22_2 < (l0.length : Int) := of_decide_eq_true (by first | (with_reducible assumption) | assumption)
                            obtain ⟨ad132, e132, hx132_0⟩ := Kd.at_string HR0.out x22_2 p132 q132
                            cases e132
                            replace hx132_0 := (HB.out.cell (World.block_lt_of_cell? w _ hx132_0)).trans hx132_0
                            replace p132 := eq_true p132
                            replace q132 := eq_true q132
                            go_wp2_with (first | (go_at_call 10; (with_reducible refine (quitclaimref10_Right.calls k2 a1 true _ A15.out).mono ?_); rintro e w25 ⟨rfl, hb⟩; have n0_ := Aside0.mk (below_step (by repeat (first | (with_reducible first | exact HB.out | apply below_alloc | apply pw_below_drewN | apply below_drew1) | exact HB.out)) hb); clear HB; have HB := n0_; clear n0_; (try clear hb); (try clear hb2); (try clear hk); (try clear hi)) | (go_at_call 11; (with_reducible refine (quitclaimref10_Covers.calls (rdOf ByteArray.empty l0 x22_2) a1 true _ A17.out).mono ?_); rintro e w' ⟨rfl, ⟨nd, rfl⟩⟩))
                            go_roundg k2
                            case measure => have := HJ2.out; have := HK2.out; omega
                            case rel => exact ⟨(x22_2), (true), (wrap64 (x22_2 + 1)), (by first | rfl | (simp; done) | (simp [*]; done)), (by first | rfl | (simp; done) | (simp [*]; done)), (by first | rfl | (simp; done) | (simp [*]; done)), H', ⟨by have := HJ2.out; have := HK2.out; omega⟩, ⟨by repeat (first | (with_reducible first | exact HB.out | apply below_alloc | apply pw_below_drewN | apply below_drew1) | exact HB.out)⟩⟩
                        · replace c18 := Bool.eq_false_iff.mpr c18
                          subst c18
                          have H1 : (quitclaimlaw10_PathDeepest.l0 k2 l0 a1 x5_2 x6_2 l0 (l0.length : Int) (wrap64 (x22_2 + 1))) = some r := by rw [if_neg (show ¬ (false = true) by decide)] at H; exact H
                          clear H
                          have H := H1
                          clear H1
                          have H' := Aside0.mk H
                          clear H
                          have p132 : 0 ≤ (x22_2 : Int) := of_decide_eq_true (by first | (with_reducible assumption) | assumption)
                          have q132 : x22_2 < (l0.length : Int) := of_decide_eq_true (by first | (with_reducible assumption) | assumption)
                          obtain ⟨ad132, e132, hx132_0⟩ := Kd.at_string HR0.out x22_2 p132 q132
                          cases e132
                          replace hx132_0 := (HB.out.cell (World.block_lt_of_cell? w _ hx132_0)).trans hx132_0
                          replace p132 := eq_true p132
                          replace q132 := eq_true q132
                          go_wp2_with (first | (go_at_call 10; (with_reducible refine (quitclaimref10_Right.calls k2 a1 true _ A15.out).mono ?_); rintro e w26 ⟨rfl, hb⟩; have n0_ := Aside0.mk (below_step (by repeat (first | (with_reducible first | exact HB.out | apply below_alloc | apply pw_below_drewN | apply below_drew1) | exact HB.out)) hb); clear HB; have HB := n0_; clear n0_; (try clear hb); (try clear hb2); (try clear hk); (try clear hi)) | (go_at_call 11; (with_reducible refine (quitclaimref10_Covers.calls (rdOf ByteArray.empty l0 x22_2) a1 false _ A17.out).mono ?_); rintro e w' ⟨rfl, ⟨nd, rfl⟩⟩))
                          go_roundg k2
                          case measure => have := HJ2.out; have := HK2.out; omega
                          case rel => exact ⟨(x5_2), (x6_2), (wrap64 (x22_2 + 1)), (by first | rfl | (simp; done) | (simp [*]; done)), (by first | rfl | (simp; done) | (simp [*]; done)), (by first | rfl | (simp; done) | (simp [*]; done)), H', ⟨by have := HJ2.out; have := HK2.out; omega⟩, ⟨by repeat (first | (with_reducible first | exact HB.out | apply below_alloc | apply pw_below_drewN | apply below_drew1) | exact HB.out)⟩⟩
                      · replace c16 := Bool.eq_false_iff.mpr c16
                        subst c16
                        have H1 : (quitclaimlaw10_PathDeepest.l0 k2 l0 a1 x5_2 x6_2 l0 (l0.length : Int) (wrap64 (x22_2 + 1))) = some r := by rw [if_neg (show ¬ (false = true) by decide)] at H; exact H
                        clear H
                        have H := H1
                        clear H1
                        have H' := Aside0.mk H
                        clear H
                        have p132 : 0 ≤ (x22_2 : Int) := of_decide_eq_true (by first | (with_reducible assumption) | assumption)
                        have q132 : x22_2 < (l0.length : Int) := of_decide_eq_true (by first | (with_reducible assumption) | assumption)
                        obtain ⟨ad132, e132, hx132_0⟩ := Kd.at_string HR0.out x22_2 p132 q132
                        cases e132
                        replace hx132_0 := (HB.out.cell (World.block_lt_of_cell? w _ hx132_0)).trans hx132_0
                        replace p132 := eq_true p132
                        replace q132 := eq_true q132
                        go_wp2_with (first | (go_at_call 10; (with_reducible refine (quitclaimref10_Right.calls k2 a1 false _ A15.out).mono ?_); rintro e w27 ⟨rfl, hb⟩; have n0_ := Aside0.mk (below_step (by repeat (first | (with_reducible first | exact HB.out | apply below_alloc | apply pw_below_drewN | apply below_drew1) | exact HB.out)) hb); clear HB; have HB := n0_; clear n0_; (try clear hb); (try clear hb2); (try clear hk); (try clear hi)))
                        go_roundg k2
                        case measure => have := HJ2.out; have := HK2.out; omega
                        case rel => exact ⟨(x5_2), (x6_2), (wrap64 (x22_2 + 1)), (by first | rfl | (simp; done) | (simp [*]; done)), (by first | rfl | (simp; done) | (simp [*]; done)), (by first | rfl | (simp; done) | (simp [*]; done)), H', ⟨by have := HJ2.out; have := HK2.out; omega⟩, ⟨by repeat (first | (with_reducible first | exact HB.out | apply below_alloc | apply pw_below_drewN | apply below_drew1) | exact HB.out)⟩⟩
                    · rw [if_neg c14] at H
                      have c14b0 : ((rdOf ByteArray.empty l0 x22_2).toList == ([] : List UInt8)) = false := beq_eq_false_iff_ne.mpr c14
                      have c14b1 : ((rdOf ByteArray.empty l0 x22_2).toList != ([] : List UInt8)) = true := bne_iff_ne.mpr c14
                      replace H := Option.bind_eq_some_iff.mp H
                      obtain ⟨t137, A280, H⟩ := H
                      replace H : (if t137 = true then ((quitclaimref10_Right.f k2 a1).bind fun t138 => (if t138 = true then ((quitclaimref10_Covers.f (rdOf ByteArray.empty l0 x22_2) a1).bind fun t139 => (if t139 = true then (if x6_2 = true then (if 0 ≤ x5_2 then (if x5_2 < (l0.length : Int) then (if ((rdOf ByteArray.empty l0 x22_2).size : Int) > ((rdOf ByteArray.empty l0 x5_2).size : Int) then (quitclaimlaw10_PathDeepest.l0 k2 l0 a1 x22_2 true l0 (l0.length : Int) (wrap64 (x22_2 + 1))) else (quitclaimlaw10_PathDeepest.l0 k2 l0 a1 x5_2 x6_2 l0 (l0.length : Int) (wrap64 (x22_2 + 1)))) else (none)) else (none)) else (quitclaimlaw10_PathDeepest.l0 k2 l0 a1 x22_2 true l0 (l0.length : Int) (wrap64 (x22_2 + 1)))) else (quitclaimlaw10_PathDeepest.l0 k2 l0 a1 x5_2 x6_2 l0 (l0.length : Int) (wrap64 (x22_2 + 1))))) else (quitclaimlaw10_PathDeepest.l0 k2 l0 a1 x5_2 x6_2 l0 (l0.length : Int) (wrap64 (x22_2 + 1))))) else (quitclaimlaw10_PathDeepest.l0 k2 l0 a1 x5_2 x6_2 l0 (l0.length : Int) (wrap64 (x22_2 + 1)))) = some r := H
                      have A28 := Aside0.mk A280
                      clear A280
                      by_cases c29 : t137 = true
                      · subst c29
                        have H1 : ((quitclaimref10_Right.f k2 a1).bind fun t138 => (if t138 = true then ((quitclaimref10_Covers.f (rdOf ByteArray.empty l0 x22_2) a1).bind fun t139 => (if t139 = true then (if x6_2 = true then (if 0 ≤ x5_2 then (if x5_2 < (l0.length : Int) then (if ((rdOf ByteArray.empty l0 x22_2).size : Int) > ((rdOf ByteArray.empty l0 x5_2).size : Int) then (quitclaimlaw10_PathDeepest.l0 k2 l0 a1 x22_2 true l0 (l0.length : Int) (wrap64 (x22_2 + 1))) else (quitclaimlaw10_PathDeepest.l0 k2 l0 a1 x5_2 x6_2 l0 (l0.length : Int) (wrap64 (x22_2 + 1)))) else (none)) else (none)) else (quitclaimlaw10_PathDeepest.l0 k2 l0 a1 x22_2 true l0 (l0.length : Int) (wrap64 (x22_2 + 1)))) else (quitclaimlaw10_PathDeepest.l0 k2 l0 a1 x5_2 x6_2 l0 (l0.length : Int) (wrap64 (x22_2 + 1))))) else (quitclaimlaw10_PathDeepest.l0 k2 l0 a1 x5_2 x6_2 l0 (l0.length : Int) (wrap64 (x22_2 + 1))))) = some r := by rw [if_pos rfl] at H; exact H
                        clear H
                        have H := H1
                        clear H1
                        replace H := Option.bind_eq_some_iff.mp H
                        obtain ⟨t138, A300, H⟩ := H
                        replace H : (if t138 = true then ((quitclaimref10_Covers.f (rdOf ByteArray.empty l0 x22_2) a1).bind fun t139 => (if t139 = true then (if x6_2 = true then (if 0 ≤ x5_2 then (if x5_2 < (l0.length : Int) then (if ((rdOf ByteArray.empty l0 x22_2).size : Int) > ((rdOf ByteArray.empty l0 x5_2).size : Int) then (quitclaimlaw10_PathDeepest.l0 k2 l0 a1 x22_2 true l0 (l0.length : Int) (wrap64 (x22_2 + 1))) else (quitclaimlaw10_PathDeepest.l0 k2 l0 a1 x5_2 x6_2 l0 (l0.length : Int) (wrap64 (x22_2 + 1)))) else (none)) else (none)) else (quitclaimlaw10_PathDeepest.l0 k2 l0 a1 x22_2 true l0 (l0.length : Int) (wrap64 (x22_2 + 1)))) else (quitclaimlaw10_PathDeepest.l0 k2 l0 a1 x5_2 x6_2 l0 (l0.length : Int) (wrap64 (x22_2 + 1))))) else (quitclaimlaw10_PathDeepest.l0 k2 l0 a1 x5_2 x6_2 l0 (l0.length : Int) (wrap64 (x22_2 + 1)))) = some r := H
                        have A30 := Aside0.mk A300
                        clear A300
                        by_cases c31 : t138 = true
                        · subst c31
                          have H1 : ((quitclaimref10_Covers.f (rdOf ByteArray.empty l0 x22_2) a1).bind fun t139 => (if t139 = true then (if x6_2 = true then (if 0 ≤ x5_2 then (if x5_2 < (l0.length : Int) then (if ((rdOf ByteArray.empty l0 x22_2).size : Int) > ((rdOf ByteArray.empty l0 x5_2).size : Int) then (quitclaimlaw10_PathDeepest.l0 k2 l0 a1 x22_2 true l0 (l0.length : Int) (wrap64 (x22_2 + 1))) else (quitclaimlaw10_PathDeepest.l0 k2 l0 a1 x5_2 x6_2 l0 (l0.length : Int) (wrap64 (x22_2 + 1)))) else (none)) else (none)) else (quitclaimlaw10_PathDeepest.l0 k2 l0 a1 x22_2 true l0 (l0.length : Int) (wrap64 (x22_2 + 1)))) else (quitclaimlaw10_PathDeepest.l0 k2 l0 a1 x5_2 x6_2 l0 (l0.length : Int) (wrap64 (x22_2 + 1))))) = some r := by rw [if_pos rfl] at H; exact H
                          clear H
                          have H := H1
                          clear H1
                          replace H := Option.bind_eq_some_iff.mp H
                          obtain ⟨t139, A320, H⟩ := H
                          replace H : (if t139 = true then (if x6_2 = true then (if 0 ≤ x5_2 then (if x5_2 < (l0.length : Int) then (if ((rdOf ByteArray.empty l0 x22_2).size : Int) > ((rdOf ByteArray.empty l0 x5_2).size : Int) then (quitclaimlaw10_PathDeepest.l0 k2 l0 a1 x22_2 true l0 (l0.length : Int) (wrap64 (x22_2 + 1))) else (quitclaimlaw10_PathDeepest.l0 k2 l0 a1 x5_2 x6_2 l0 (l0.length : Int) (wrap64 (x22_2 + 1)))) else (none)) else (none)) else (quitclaimlaw10_PathDeepest.l0 k2 l0 a1 x22_2 true l0 (l0.length : Int) (wrap64 (x22_2 + 1)))) else (quitclaimlaw10_PathDeepest.l0 k2 l0 a1 x5_2 x6_2 l0 (l0.length : Int) (wrap64 (x22_2 + 1)))) = some r := H
                          have A32 := Aside0.mk A320
                          clear A320
                          by_cases c33 : t139 = true
                          · subst c33
                            have H1 : (if x6_2 = true then (if 0 ≤ x5_2 then (if x5_2 < (l0.length : Int) then (if ((rdOf ByteArray.empty l0 x22_2).size : Int) > ((rdOf ByteArray.empty l0 x5_2).size : Int) then (quitclaimlaw10_PathDeepest.l0 k2 l0 a1 x22_2 true l0 (l0.length : Int) (wrap64 (x22_2 + 1))) else (quitclaimlaw10_PathDeepest.l0 k2 l0 a1 x5_2 x6_2 l0 (l0.length : Int) (wrap64 (x22_2 + 1)))) else (none)) else (none)) else (quitclaimlaw10_PathDeepest.l0 k2 l0 a1 x22_2 true l0 (l0.length : Int) (wrap64 (x22_2 + 1)))) = some r := by rw [if_pos rfl] at H; exact H
                            clear H
                            have H := H1
                            clear H1
                            by_cases c34 : x6_2 = true
                            · subst c34
                              have H1 : (if 0 ≤ x5_2 then (if x5_2 < (l0.length : Int) then (if ((rdOf ByteArray.empty l0 x22_2).size : Int) > ((rdOf ByteArray.empty l0 x5_2).size : Int) then (quitclaimlaw10_PathDeepest.l0 k2 l0 a1 x22_2 true l0 (l0.length : Int) (wrap64 (x22_2 + 1))) else (quitclaimlaw10_PathDeepest.l0 k2 l0 a1 x5_2 true l0 (l0.length : Int) (wrap64 (x22_2 + 1)))) else (none)) else (none)) = some r := by rw [if_pos rfl] at H; exact H
                              clear H
                              have H := H1
                              clear H1
                              by_cases c35 : 0 ≤ x5_2
                              · rw [if_pos c35] at H
                                have c35b0 : decide (0 ≤ x5_2) = true := decide_eq_true c35
                                clear c35
                                by_cases c36 : x5_2 < (l0.length : Int)
                                · rw [if_pos c36] at H
                                  have c36b0 : decide (x5_2 < (l0.length : Int)) = true := decide_eq_true c36
                                  clear c36
                                  by_cases c37 : ((rdOf ByteArray.empty l0 x22_2).size : Int) > ((rdOf ByteArray.empty l0 x5_2).size : Int)
                                  · rw [if_pos c37] at H
                                    have c37b0 : decide (((rdOf ByteArray.empty l0 x5_2).size : Int) < ((rdOf ByteArray.empty l0 x22_2).size : Int)) = true := decide_eq_true c37
                                    have c37b1 : decide ((rdOf ByteArray.empty l0 x5_2).size < (rdOf ByteArray.empty l0 x22_2).size) = true := decide_eq_true (Int.ofNat_lt.mp c37)
                                    clear c37
                                    have H' := Aside0.mk H
                                    clear H
                                    have p132 : 0 ≤ (x22_2 : Int) := of_decide_eq_true (by first | (with_reducible assumption) | assumption)
                                    have q132 : x22_2 < (l0.length : Int) := of_decide_eq_true (by first | (with_reducible assumption) | assumption)
                                    obtain ⟨ad132, e132, hx132_0⟩ := Kd.at_string HR0.out x22_2 p132 q132
                                    cases e132
                                    replace hx132_0 := (HB.out.cell (World.block_lt_of_cell? w _ hx132_0)).trans hx132_0
                                    replace p132 := eq_true p132
                                    replace q132 := eq_true q132
                                    go_wp2_with (first | (go_at_call 10; (with_reducible refine (quitclaimref10_Right.calls k2 (rdOf ByteArray.empty l0 x22_2) true _ A28.out).mono ?_); rintro e w38 ⟨rfl, hb⟩; have n0_ := Aside0.mk (below_step (by repeat (first | (with_reducible first | exact HB.out | apply below_alloc | apply pw_below_drewN | apply below_drew1) | exact HB.out)) hb); clear HB; have HB := n0_; clear n0_; (try clear hb); (try clear hb2); (try clear hk); (try clear hi)) | (go_at_call 10; (with_reducible refine (quitclaimref10_Right.calls k2 a1 true _ A30.out).mono ?_); rintro e w39 ⟨rfl, hb⟩; have n0_ := Aside0.mk (below_step (by repeat (first | (with_reducible first | exact HB.out | apply below_alloc | apply pw_below_drewN | apply below_drew1) | exact HB.out)) hb); clear HB; have HB := n0_; clear n0_; (try clear hb); (try clear hb2); (try clear hk); (try clear hi)) | (go_at_call 11; (with_reducible refine (quitclaimref10_Covers.calls (rdOf ByteArray.empty l0 x22_2) a1 true _ A32.out).mono ?_); rintro e w' ⟨rfl, ⟨nd, rfl⟩⟩; have p140 : 0 ≤ (x5_2 : Int) := of_decide_eq_true (by first | (with_reducible assumption) | assumption); have q140 : x5_2 < (l0.length : Int) := of_decide_eq_true (by first | (with_reducible assumption) | assumption); obtain ⟨ad140, e140, hx140_0⟩ := Kd.at_string HR0.out x5_2 p140 q140; obtain rfl : ad132 = ad140 := (by injection e140); replace hx140_0 := (HB.out.cell (World.block_lt_of_cell? w _ hx140_0)).trans hx140_0; replace p140 := eq_true p140; replace q140 := eq_true q140))
                                    go_roundg k2
                                    case measure => have := HJ2.out; have := HK2.out; omega
                                    case rel => exact ⟨(x22_2), (true), (wrap64 (x22_2 + 1)), (by first | rfl | (simp; done) | (simp [*]; done)), (by first | rfl | (simp; done) | (simp [*]; done)), (by first | rfl | (simp; done) | (simp [*]; done)), H', ⟨by have := HJ2.out; have := HK2.out; omega⟩, ⟨by repeat (first | (with_reducible first | exact HB.out | apply below_alloc | apply pw_below_drewN | apply below_drew1) | exact HB.out)⟩⟩
                                  · rw [if_neg c37] at H
                                    have c37b0 : decide (((rdOf ByteArray.empty l0 x5_2).size : Int) < ((rdOf ByteArray.empty l0 x22_2).size : Int)) = false := decide_eq_false c37
                                    have c37b1 : decide ((rdOf ByteArray.empty l0 x5_2).size < (rdOf ByteArray.empty l0 x22_2).size) = false := decide_eq_false (fun h => c37 (Int.ofNat_lt.mpr h))
                                    clear c37
                                    have H' := Aside0.mk H
                                    clear H
                                    have p132 : 0 ≤ (x22_2 : Int) := of_decide_eq_true (by first | (with_reducible assumption) | assumption)
                                    have q132 : x22_2 < (l0.length : Int) := of_decide_eq_true (by first | (with_reducible assumption) | assumption)
                                    obtain ⟨ad132, e132, hx132_0⟩ := Kd.at_string HR0.out x22_2 p132 q132
                                    cases e132
                                    replace hx132_0 := (HB.out.cell (World.block_lt_of_cell? w _ hx132_0)).trans hx132_0
                                    replace p132 := eq_true p132
                                    replace q132 := eq_true q132
                                    go_wp2_with (first | (go_at_call 10; (with_reducible refine (quitclaimref10_Right.calls k2 (rdOf ByteArray.empty l0 x22_2) true _ A28.out).mono ?_); rintro e w40 ⟨rfl, hb⟩; have n0_ := Aside0.mk (below_step (by repeat (first | (with_reducible first | exact HB.out | apply below_alloc | apply pw_below_drewN | apply below_drew1) | exact HB.out)) hb); clear HB; have HB := n0_; clear n0_; (try clear hb); (try clear hb2); (try clear hk); (try clear hi)) | (go_at_call 10; (with_reducible refine (quitclaimref10_Right.calls k2 a1 true _ A30.out).mono ?_); rintro e w41 ⟨rfl, hb⟩; have n0_ := Aside0.mk (below_step (by repeat (first | (with_reducible first | exact HB.out | apply below_alloc | apply pw_below_drewN | apply below_drew1) | exact HB.out)) hb); clear HB; have HB := n0_; clear n0_; (try clear hb); (try clear hb2); (try clear hk); (try clear hi)) | (go_at_call 11; (with_reducible refine (quitclaimref10_Covers.calls (rdOf ByteArray.empty l0 x22_2) a1 true _ A32.out).mono ?_); rintro e w' ⟨rfl, ⟨nd, rfl⟩⟩; have p140 : 0 ≤ (x5_2 : Int) := of_decide_eq_true (by first | (with_reducible assumption) | assumption); have q140 : x5_2 < (l0.length : Int) := of_decide_eq_true (by first | (with_reducible assumption) | assumption); obtain ⟨ad140, e140, hx140_0⟩ := Kd.at_string HR0.out x5_2 p140 q140; obtain rfl : ad132 = ad140 := (by injection e140); replace hx140_0 := (HB.out.cell (World.block_lt_of_cell? w _ hx140_0)).trans hx140_0; replace p140 := eq_true p140; replace q140 := eq_true q140))
                                    go_roundg k2
                                    case measure => have := HJ2.out; have := HK2.out; omega
                                    case rel => exact ⟨(x5_2), (true), (wrap64 (x22_2 + 1)), (by first | rfl | (simp; done) | (simp [*]; done)), (by first | rfl | (simp; done) | (simp [*]; done)), (by first | rfl | (simp; done) | (simp [*]; done)), H', ⟨by have := HJ2.out; have := HK2.out; omega⟩, ⟨by repeat (first | (with_reducible first | exact HB.out | apply below_alloc | apply pw_below_drewN | apply below_drew1) | exact HB.out)⟩⟩
                                · rw [if_neg c36] at H
                                  exact absurd H (by simp)
                              · rw [if_neg c35] at H
                                exact absurd H (by simp)
                            · replace c34 := Bool.eq_false_iff.mpr c34
                              subst c34
                              have H1 : (quitclaimlaw10_PathDeepest.l0 k2 l0 a1 x22_2 true l0 (l0.length : Int) (wrap64 (x22_2 + 1))) = some r := by rw [if_neg (show ¬ (false = true) by decide)] at H; exact H
                              clear H
                              have H := H1
                              clear H1
                              have H' := Aside0.mk H
                              clear H
                              have p132 : 0 ≤ (x22_2 : Int) := of_decide_eq_true (by first | (with_reducible assumption) | assumption)
                              have q132 : x22_2 < (l0.length : Int) := of_decide_eq_true (by first | (with_reducible assumption) | assumption)
                              obtain ⟨ad132, e132, hx132_0⟩ := Kd.at_string HR0.out x22_2 p132 q132
                              cases e132
                              replace hx132_0 := (HB.out.cell (World.block_lt_of_cell? w _ hx132_0)).trans hx132_0
                              replace p132 := eq_true p132
                              replace q132 := eq_true q132
                              go_wp2_with (first | (go_at_call 10; (with_reducible refine (quitclaimref10_Right.calls k2 (rdOf ByteArray.empty l0 x22_2) true _ A28.out).mono ?_); rintro e w42 ⟨rfl, hb⟩; have n0_ := Aside0.mk (below_step (by repeat (first | (with_reducible first | exact HB.out | apply below_alloc | apply pw_below_drewN | apply below_drew1) | exact HB.out)) hb); clear HB; have HB := n0_; clear n0_; (try clear hb); (try clear hb2); (try clear hk); (try clear hi)) | (go_at_call 10; (with_reducible refine (quitclaimref10_Right.calls k2 a1 true _ A30.out).mono ?_); rintro e w43 ⟨rfl, hb⟩; have n0_ := Aside0.mk (below_step (by repeat (first | (with_reducible first | exact HB.out | apply below_alloc | apply pw_below_drewN | apply below_drew1) | exact HB.out)) hb); clear HB; have HB := n0_; clear n0_; (try clear hb); (try clear hb2); (try clear hk); (try clear hi)) | (go_at_call 11; (with_reducible refine (quitclaimref10_Covers.calls (rdOf ByteArray.empty l0 x22_2) a1 true _ A32.out).mono ?_); rintro e w' ⟨rfl, ⟨nd, rfl⟩⟩))
                              go_roundg k2
                              case measure => have := HJ2.out; have := HK2.out; omega
                              case rel => exact ⟨(x22_2), (true), (wrap64 (x22_2 + 1)), (by first | rfl | (simp; done) | (simp [*]; done)), (by first | rfl | (simp; done) | (simp [*]; done)), (by first | rfl | (simp; done) | (simp [*]; done)), H', ⟨by have := HJ2.out; have := HK2.out; omega⟩, ⟨by repeat (first | (with_reducible first | exact HB.out | apply below_alloc | apply pw_below_drewN | apply below_drew1) | exact HB.out)⟩⟩
                          · replace c33 := Bool.eq_false_iff.mpr c33
                            subst c33
                            have H1 : (quitclaimlaw10_PathDeepest.l0 k2 l0 a1 x5_2 x6_2 l0 (l0.length : Int) (wrap64 (x22_2 + 1))) = some r := by rw [if_neg (show ¬ (false = true) by decide)] at H; exact H
                            clear H
                            have H := H1
                            clear H1
                            have H' := Aside0.mk H
                            clear H
                            have p132 : 0 ≤ (x22_2 : Int) := of_decide_eq_true (by first | (with_reducible assumption) | assumption)
                            have q132 : x22_2 < (l0.length : Int) := of_decide_eq_true (by first | (with_reducible assumption) | assumption)
                            obtain ⟨ad132, e132, hx132_0⟩ := Kd.at_string HR0.out x22_2 p132 q132
                            cases e132
                            replace hx132_0 := (HB.out.cell (World.block_lt_of_cell? w _ hx132_0)).trans hx132_0
                            replace p132 := eq_true p132
                            replace q132 := eq_true q132
                            go_wp2_with (first | (go_at_call 10; (with_reducible refine (quitclaimref10_Right.calls k2 (rdOf ByteArray.empty l0 x22_2) true _ A28.out).mono ?_); rintro e w44 ⟨rfl, hb⟩; have n0_ := Aside0.mk (below_step (by repeat (first | (with_reducible first | exact HB.out | apply below_alloc | apply pw_below_drewN | apply below_drew1) | exact HB.out)) hb); clear HB; have HB := n0_; clear n0_; (try clear hb); (try clear hb2); (try clear hk); (try clear hi)) | (go_at_call 10; (with_reducible refine (quitclaimref10_Right.calls k2 a1 true _ A30.out).mono ?_); rintro e w45 ⟨rfl, hb⟩; have n0_ := Aside0.mk (below_step (by repeat (first | (with_reducible first | exact HB.out | apply below_alloc | apply pw_below_drewN | apply below_drew1) | exact HB.out)) hb); clear HB; have HB := n0_; clear n0_; (try clear hb); (try clear hb2); (try clear hk); (try clear hi)) | (go_at_call 11; (with_reducible refine (quitclaimref10_Covers.calls (rdOf ByteArray.empty l0 x22_2) a1 false _ A32.out).mono ?_); rintro e w' ⟨rfl, ⟨nd, rfl⟩⟩))
                            go_roundg k2
                            case measure => have := HJ2.out; have := HK2.out; omega
                            case rel => exact ⟨(x5_2), (x6_2), (wrap64 (x22_2 + 1)), (by first | rfl | (simp; done) | (simp [*]; done)), (by first | rfl | (simp; done) | (simp [*]; done)), (by first | rfl | (simp; done) | (simp [*]; done)), H', ⟨by have := HJ2.out; have := HK2.out; omega⟩, ⟨by repeat (first | (with_reducible first | exact HB.out | apply below_alloc | apply pw_below_drewN | apply below_drew1) | exact HB.out)⟩⟩
                        · replace c31 := Bool.eq_false_iff.mpr c31
                          subst c31
                          have H1 : (quitclaimlaw10_PathDeepest.l0 k2 l0 a1 x5_2 x6_2 l0 (l0.length : Int) (wrap64 (x22_2 + 1))) = some r := by rw [if_neg (show ¬ (false = true) by decide)] at H; exact H
                          clear H
                          have H := H1
                          clear H1
                          have H' := Aside0.mk H
                          clear H
                          have p132 : 0 ≤ (x22_2 : Int) := of_decide_eq_true (by first | (with_reducible assumption) | assumption)
                          have q132 : x22_2 < (l0.length : Int) := of_decide_eq_true (by first | (with_reducible assumption) | assumption)
                          obtain ⟨ad132, e132, hx132_0⟩ := Kd.at_string HR0.out x22_2 p132 q132
                          cases e132
                          replace hx132_0 := (HB.out.cell (World.block_lt_of_cell? w _ hx132_0)).trans hx132_0
                          replace p132 := eq_true p132
                          replace q132 := eq_true q132
                          go_wp2_with (first | (go_at_call 10; (with_reducible refine (quitclaimref10_Right.calls k2 (rdOf ByteArray.empty l0 x22_2) true _ A28.out).mono ?_); rintro e w46 ⟨rfl, hb⟩; have n0_ := Aside0.mk (below_step (by repeat (first | (with_reducible first | exact HB.out | apply below_alloc | apply pw_below_drewN | apply below_drew1) | exact HB.out)) hb); clear HB; have HB := n0_; clear n0_; (try clear hb); (try clear hb2); (try clear hk); (try clear hi)) | (go_at_call 10; (with_reducible refine (quitclaimref10_Right.calls k2 a1 false _ A30.out).mono ?_); rintro e w47 ⟨rfl, hb⟩; have n0_ := Aside0.mk (below_step (by repeat (first | (with_reducible first | exact HB.out | apply below_alloc | apply pw_below_drewN | apply below_drew1) | exact HB.out)) hb); clear HB; have HB := n0_; clear n0_; (try clear hb); (try clear hb2); (try clear hk); (try clear hi)))
                          go_roundg k2
                          case measure => have := HJ2.out; have := HK2.out; omega
                          case rel => exact ⟨(x5_2), (x6_2), (wrap64 (x22_2 + 1)), (by first | rfl | (simp; done) | (simp [*]; done)), (by first | rfl | (simp; done) | (simp [*]; done)), (by first | rfl | (simp; done) | (simp [*]; done)), H', ⟨by have := HJ2.out; have := HK2.out; omega⟩, ⟨by repeat (first | (with_reducible first | exact HB.out | apply below_alloc | apply pw_below_drewN | apply below_drew1) | exact HB.out)⟩⟩
                      · replace c29 := Bool.eq_false_iff.mpr c29
                        subst c29
                        have H1 : (quitclaimlaw10_PathDeepest.l0 k2 l0 a1 x5_2 x6_2 l0 (l0.length : Int) (wrap64 (x22_2 + 1))) = some r := by rw [if_neg (show ¬ (false = true) by decide)] at H; exact H
                        clear H
                        have H := H1
                        clear H1
                        have H' := Aside0.mk H
                        clear H
                        have p132 : 0 ≤ (x22_2 : Int) := of_decide_eq_true (by first | (with_reducible assumption) | assumption)
                        have q132 : x22_2 < (l0.length : Int) := of_decide_eq_true (by first | (with_reducible assumption) | assumption)
                        obtain ⟨ad132, e132, hx132_0⟩ := Kd.at_string HR0.out x22_2 p132 q132
                        cases e132
                        replace hx132_0 := (HB.out.cell (World.block_lt_of_cell? w _ hx132_0)).trans hx132_0
                        replace p132 := eq_true p132
                        replace q132 := eq_true q132
                        go_wp2_with (first | (go_at_call 10; (with_reducible refine (quitclaimref10_Right.calls k2 (rdOf ByteArray.empty l0 x22_2) false _ A28.out).mono ?_); rintro e w48 ⟨rfl, hb⟩; have n0_ := Aside0.mk (below_step (by repeat (first | (with_reducible first | exact HB.out | apply below_alloc | apply pw_below_drewN | apply below_drew1) | exact HB.out)) hb); clear HB; have HB := n0_; clear n0_; (try clear hb); (try clear hb2); (try clear hk); (try clear hi)))
                        go_roundg k2
                        case measure => have := HJ2.out; have := HK2.out; omega
                        case rel => exact ⟨(x5_2), (x6_2), (wrap64 (x22_2 + 1)), (by first | rfl | (simp; done) | (simp [*]; done)), (by first | rfl | (simp; done) | (simp [*]; done)), (by first | rfl | (simp; done) | (simp [*]; done)), H', ⟨by have := HJ2.out; have := HK2.out; omega⟩, ⟨by repeat (first | (with_reducible first | exact HB.out | apply below_alloc | apply pw_below_drewN | apply below_drew1) | exact HB.out)⟩⟩
                · rw [if_neg c10] at H
                  exact absurd H (by simp)
              · rw [if_neg c9] at H
                exact absurd H (by simp)
            · rw [if_neg c8] at H
              have c8b0 : decide (x22_2 < (l0.length : Int)) = false := decide_eq_false c8
              clear c8
              replace H := Option.bind_eq_some_iff.mp H
              obtain ⟨⟨t129, t130⟩, A490, H⟩ := H
              replace H : (if t129 = x5_2 then (if (t130 == x6_2) = true then ((quitclaimlaw10_awake.f k2).bind fun t131 => (some t131)) else (some false)) else (some false)) = some r := H
              have A49 := Aside0.mk A490
              clear A490
              by_cases c50 : t129 = x5_2
              · rw [if_pos c50] at H
                have c50b0 : (t129 == x5_2) = true := beq_iff_eq.mpr c50
                have c50b1 : (t129 != x5_2) = false := bne_eq_false_iff_eq.mpr c50
                clear c50
                by_cases c51 : (t130 == x6_2) = true
                · rw [if_pos c51] at H
                  have c51b0 : (t130 == x6_2) = true := c51
                  (try (have c51b1 : decide (t130 = x6_2) = true := by simpa using c51))
                  (try (have c51b2 : (t130 == x6_2) = true := by simpa using c51))
                  clear c51
                  replace H := Option.bind_eq_some_iff.mp H
                  obtain ⟨t131, A520, H⟩ := H
                  replace H : (some t131) = some r := H
                  have A52 := Aside0.mk A520
                  clear A520
                  obtain rfl := Option.some.inj H
                  go_wp2_with (first | ((with_reducible refine gate_callee (f := 12) rfl ?_); refine goesL_ (some 65) rfl rfl Tryd.func12 (by kernel_rfl) rfl #[.slice A0 l0.length c0, .string a1] rfl (by (try simp only [List.map_toArray, List.map_cons, List.map_nil]); first | done | rfl | (simp only [List.length_drop, List.length_take]; rfl)) ?_; (with_reducible refine (path_Deepest.calls k2 _ _ l0 a1 t129 t130 _ ?side1 ?side2 A49.out).mono ?_); (case side1 => repeat (first | exact (Kd.C_below HR0.out HB.out) | (with_reducible refine Kd.C_alloc ?_ _) | (with_reducible refine Kd.C_drewN ?_ _) | (with_reducible refine Kd.C_drew ?_))); (case side2 => exact HC0.out); rintro e w53 ⟨rfl, hb⟩; refine ⟨_, rfl, ?_⟩; have n0_ := Aside0.mk (below_step (by repeat (first | (with_reducible first | exact HB.out | apply below_alloc | apply pw_below_drewN | apply below_drew1) | exact HB.out)) hb); clear HB; have HB := n0_; clear n0_; (try clear hb); (try clear hb2); (try clear hk); (try clear hi)) | (go_at_call 9; (with_reducible refine (quitclaimlaw10_awake.calls k2  t131 _ A52.out).mono ?_); rintro e w54 ⟨rfl, hb⟩; have n0_ := Aside0.mk (below_step (by repeat (first | (with_reducible first | exact HB.out | apply below_alloc | apply pw_below_drewN | apply below_drew1) | exact HB.out)) hb); clear HB; have HB := n0_; clear n0_; (try clear hb); (try clear hb2); (try clear hk); (try clear hi)))
                  go_ret
                  exact ⟨by first | rfl | (simp [errW_none, errW_some] <;> rfl) | (simp [*, errW_none, errW_some] <;> rfl), by repeat (first | (with_reducible first | exact HB.out | apply below_alloc | apply pw_below_drewN | apply below_drew1) | exact HB.out)⟩
                · rw [if_neg c51] at H
                  have c51b0 : (t130 == x6_2) = false := by simpa using c51
                  (try (have c51b1 : decide (t130 = x6_2) = false := by simpa using c51))
                  (try (have c51b2 : (t130 == x6_2) = false := by simpa using c51))
                  (try (have c51b3 : ¬ (t130 = x6_2) := by simpa using c51))
                  clear c51
                  obtain rfl := Option.some.inj H
                  exact absurd htr_.out (by decide)
              · rw [if_neg c50] at H
                have c50b0 : (t129 == x5_2) = false := beq_eq_false_iff_ne.mpr c50
                have c50b1 : (t129 != x5_2) = true := bne_iff_ne.mpr c50
                obtain rfl := Option.some.inj H
                exact absurd htr_.out (by decide)

end Go.Proofs.YtngcfmnmjkncoaaDoor.PPathDeepest
