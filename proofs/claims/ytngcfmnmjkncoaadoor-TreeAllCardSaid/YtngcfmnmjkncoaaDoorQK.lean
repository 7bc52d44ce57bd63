/- The rules under short names, what follows kept as a row; regions that draw their order; no condition but the typed premises. -/
import Derived.Test.YtngcfmnmjkncoaaDoorQJ
namespace Go.Proofs.YtngcfmnmjkncoaaDoor.Q
open Go Go.RowKit
set_option linter.unusedVariables false
set_option linter.unusedSimpArgs false

/-- What is still to be done: code that follows, a block to be left, a loop's next round. -/
inductive Fr where
  | sq (c : Code)
  | bk (id : Nat)
  | lp (J : Env → List Ob → Prop)
def K (P : Program) (nt : Nat) (B : QB) : List Fr → Exit → Env → List Ob → Prop
  | [], x, E, h => B x E h
  | .sq c :: ks, .normal, E, h => W P nt c E h (K P nt B ks)
  | .sq _ :: ks, x, E, h => K P nt B ks x E h
  | .lp J :: _, .normal, E, h => J E h
  | .lp _ :: ks, x, E, h => K P nt B ks x E h
  | .bk id :: ks, .exit i, E, h => bif Nat.beq i id then K P nt B ks .normal E h else K P nt B ks (.exit i) E h
  | .bk _ :: ks, x, E, h => K P nt B ks x E h

section
variable {P : Program} {T : Tab} {nt : Nat} {E E1 E2 : Env} {h h1 : List Ob} {B : QB} {ks : List Fr} {Q : QB}

theorem qs {x y : Code} (hW : W P nt x E h (K P nt B (.sq y :: ks))) : W P nt (.seq x y) E h (K P nt B ks) :=
  W_seq (W_conseq hW fun x E h hq => by cases x <;> simpa [K, Nx] using hq)
theorem qb {id : Nat} {c : Code} (hW : W P nt c E h (K P nt B (.bk id :: ks))) : W P nt (.block id c) E h (K P nt B ks) :=
  W_block (W_conseq hW fun x E h hq => by cases x <;> simpa [K, Bk] using hq)
theorem qk (hq : K P nt B ks .normal E h) : W P nt .skip E h (K P nt B ks) := W_skip hq
theorem ql {l : Nat} (hq : K P nt B ks .normal E h) : W P nt (.label l) E h (K P nt B ks) := W_label hq
theorem qt (hq : K P nt B ks .ret E h) : W P nt .ret E h (K P nt B ks) := W_ret hq
theorem qx {id : Nat} (hq : K P nt B ks (.exit id) E h) : W P nt (.exit id) E h (K P nt B ks) := W_exit hq
theorem qi {c : Operand} {x y : Code} {t : Bool} (hc : look E [] c = some (.p (.s (.bool t)))) (hx : t = true → W P nt x E h Q) (hy : t = false → W P nt y E h Q) : W P nt (.cond c x y) E h Q := W_cond hc hx hy
theorem qi1 {c : Operand} {x y : Code} {t : Bool} (hc : look E [] c = some (.p (.s (.bool t)))) (ht : t = true) (hx : W P nt x E h Q) : W P nt (.cond c x y) E h Q := W_cond hc (fun _ => hx) (fun h => by rw [ht] at h; cases h)
theorem qi0 {c : Operand} {x y : Code} {t : Bool} (hc : look E [] c = some (.p (.s (.bool t)))) (ht : t = false) (hy : W P nt y E h Q) : W P nt (.cond c x y) E h Q := W_cond hc (fun h => by rw [ht] at h; cases h) (fun _ => hy)
/-- A loop. -/
theorem qp {c : Code} (I : Nat → Env → List Ob → Prop) (n : Nat) (hI : I n E h) (round : ∀ n E h, I n E h → W P nt c E h (K P nt B (.lp (fun E' h' => ∃ n', n' < n ∧ I n' E' h') :: ks))) : W P nt (.loop c) E h (K P nt B ks) :=
  W_loop I n hI fun n E h hI => W_conseq (round n E h hI) fun x E h hq => by cases x <;> simpa [K, Nx] using hq
/-- A cut: what holds behind a piece, in however many ways it is come by. -/
theorem qc {x y : Code} (J : Env → List Ob → Prop) (hx : W P nt x E h (K P nt B (.lp J :: ks))) (hy : ∀ E h, J E h → W P nt y E h (K P nt B ks)) : W P nt (.seq x y) E h (K P nt B ks) :=
  W_seq (W_conseq hx fun x E h hq => by cases x <;> first | exact hy _ _ hq | simpa [K, Nx] using hq)
theorem qw {c : Code} (L : List Nat) (hE : E.keep L = E1) (hW : W P nt c E1 h Q) : W P nt c E h Q := W_keep L hE hW

theorem WL_keep {ops : Array Oper} {i : Nat} (L : List Nat) (hE : E.keep L = E1) (hW : WL P nt ops i E1 h Q) : WL P nt ops i E h Q := by
  subst hE
  exact ⟨fun a w F m hr => hW.out a w F m ⟨hr.size, hr.defers, fun t tg s ht => hr.env t tg s (Env.keep_get ht), hr.sim⟩⟩

/-- A region of operations that cannot panic, and what is kept behind it. -/
def evReg (T : Tab) (nt : Nat) (ops : Array Oper) (h : List Ob) (n i : Nat) (L : List Nat) (E : Env) : Option Env := match evRun T nt ops h n i E with
  | some E => some (E.keep L)
  | none => none
theorem evReg_run {ops : Array Oper} {n i : Nat} {L : List Nat} (hr : evReg T nt ops h n i L E = some E2) : ∃ E1, evRun T nt ops h n i E = some E1 ∧ E1.keep L = E2 := by
  unfold evReg at hr
  split at hr
  · rename_i E1 h1; simp only [Option.some.injEq] at hr; exact ⟨E1, h1, hr⟩
  · cases hr
theorem qr (hT : TOk P T) {id : Nat} {ops : Array Oper} (L : List Nat) (hr : evReg T nt ops h ops.size 0 L E = some E2) (hq : Q .normal E2 h) : W P nt (.region id ops false) E h Q := by
  obtain ⟨E1, h1, h2⟩ := evReg_run hr
  refine W_region (WL_head (evRun_head hT h1) (by simp) ?_)
  rw [Nat.zero_add]
  exact WL_keep L h2 (WL_nil (by simp) hq)
/-- A region, operation by operation. -/
theorem qg {id : Nat} {ops : Array Oper} (hW : WL P nt ops 0 E h Q) : W P nt (.region id ops false) E h Q := W_region hW
/-- The operations from number i on, n of them. -/
theorem qn (hT : TOk P T) {ops : Array Oper} {i k : Nat} (n : Nat) (hr : evRun T nt ops h n i E = some E1) (hk : i + n = k) (hn : Nat.ble k ops.size = true) (hW : WL P nt ops k E1 h Q) : WL P nt ops i E h Q := by
  subst hk
  exact WL_head (evRun_head hT hr) hn hW
/-- All the rest. -/
theorem qe (hT : TOk P T) {ops : Array Oper} {i : Nat} (n : Nat) (L : List Nat) (hr : evReg T nt ops h n i L E = some E2) (hk : i + n = ops.size) (hq : Q .normal E2 h) : WL P nt ops i E h Q := by
  obtain ⟨E1, h1, h2⟩ := evReg_run hr
  refine WL_head (evRun_head hT h1) (by rw [hk]; simp) ?_
  exact WL_keep L h2 (WL_nil (by rw [hk]; simp) hq)
/-- One operation that yields s. -/
theorem qy {ops : Array Oper} {i : Nat} {o : Oper} {s : SV} {E1 : Env} (ho : ops[i]? = some o) (hy : Yld P o E [] h s) (hg : o.guard = none) (hd : dstOk nt E [] o.dst = true) (hE : E.putO o.dst [] s = E1) (hW : WL P nt ops (i + 1) E1 h Q) : WL P nt ops i E h Q := by
  subst hE
  have hlt := (Array.getElem?_eq_some_iff.1 ho).1
  exact WL_head (.plain ho hg hd hy (.nil _ _)) (by simp; omega) hW
/-- One operation under a test. -/
theorem qyg {ops : Array Oper} {i : Nat} {o : Oper} {s : SV} {E1 : Env} {j u : Nat} {b : Bool} {tg : Tg} (ho : ops[i]? = some o) (hy : Yld P o E ((u, b) :: tg) h s) (hg : o.guard = some (j, b)) (hj : (ops[j]?).bind (·.dst) = some u)
    (hug : (E.get u).map Prod.fst = some tg) (hd : dstOk nt E ((u, b) :: tg) o.dst = true) (hE : E.putO o.dst ((u, b) :: tg) s = E1) (hW : WL P nt ops (i + 1) E1 h Q) : WL P nt ops i E h Q := by
  subst hE
  obtain ⟨⟨tg', su⟩, hu, rfl⟩ := Option.map_eq_some_iff.1 hug
  have hlt := (Array.getElem?_eq_some_iff.1 ho).1
  exact WL_head (.guarded ho hg hj hu hd hy (.nil _ _)) (by simp; omega) hW
end

end Go.Proofs.YtngcfmnmjkncoaaDoor.Q
