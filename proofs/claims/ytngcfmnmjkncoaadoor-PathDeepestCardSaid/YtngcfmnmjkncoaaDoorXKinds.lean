/- This session's words beside the print's: floats and complex numbers as scalars told by their bits; no condition. -/
import Derived.Test.YtngcfmnmjkncoaaDoorWWords
import Derived.Test.YtngcfmnmjkncoaaDoorXFloat
import Derived.WalkLawsBesides
namespace Go.Proofs.YtngcfmnmjkncoaaDoorW.PrintWords
open Go.RowKit
namespace Kd
def f64 : Kd Nat := scalar (fun b => Value.float .f64 b) (fun _ => rfl)
def c128 : Kd (Nat × Nat) := scalar (fun p => Value.complex .f64 p.1 p.2) (fun _ => rfl)
end Kd
/-- '==' of floats -/
def feq (x y : Nat) : Bool := FloatKind.f64.format.order x y == some .eq
/-- '==' of complex numbers -/
def ceq (x y : Nat × Nat) : Bool := feq x.1 y.1 && feq x.2 y.2
section
variable {P : Program} (T : TypeId) (w : World)
theorem run_ceq (a b c d : Nat) : (binOp .eql T (.complex .f64 a b) (.complex .f64 c d)).run P w = .ok (.bool (ceq (a, b) (c, d))) w := by
  simp [binOp, Op.complexOp, Op.Complex.cmp, Op.floatCmp, ceq, feq, asBool]
@[go_sem high] theorem run_ceq_vv (x y : Nat × Nat) : (binOp .eql T (.complex .f64 x.1 x.2) (.complex .f64 y.1 y.2)).run P w = .ok (.bool (ceq x y)) w := run_ceq T w _ _ _ _
@[go_sem high] theorem run_ceq_vc (x : Nat × Nat) (c d : Nat) : (binOp .eql T (.complex .f64 x.1 x.2) (.complex .f64 c d)).run P w = .ok (.bool (ceq x (c, d))) w := run_ceq T w _ _ _ _
@[go_sem high] theorem run_cne_vv (x y : Nat × Nat) : (binOp .neq T (.complex .f64 x.1 x.2) (.complex .f64 y.1 y.2)).run P w = .ok (.bool (!(ceq x y))) w := by
  simp [binOp, Op.complexOp, Op.Complex.cmp, Op.floatCmp, ceq, feq, asBool]
@[go_sem high] theorem run_fneg (b : Nat) : (Op.unary .neg (.float .f64 b)).run P w = .ok (.float .f64 (Op.negFloat .f64 b)) w := rfl
end
end Go.Proofs.YtngcfmnmjkncoaaDoorW.PrintWords
