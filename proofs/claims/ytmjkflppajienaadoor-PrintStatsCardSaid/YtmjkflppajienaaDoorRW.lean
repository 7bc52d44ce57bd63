/- The walk as a function: what code answers, reckoned over what is told; and that the machine answers it. Operations that yield; no condition but the typed premises. -/
import Derived.Test.YtmjkflppajienaaDoorRV
import Derived.WideLaws
namespace Go.Proofs.YtmjkflppajienaaDoor.R
open Go Go.RowKit
set_option linter.unusedVariables false
set_option linter.unusedSimpArgs false

/-! ### Things that are typed outright -/
mutual
def Ty.dflt : (t : Ty) → t.den
  | .i _ => (0 : Int)
  | .b => false
  | .s => (⟨#[]⟩ : ByteArray)
  | .f => (0 : Nat)
  | .c => ((0, 0) : Nat × Nat)
  | .u => (0 : UInt8)
  | .sl _ _ => []
  | .un => ()
  | .pr x y => (x.dflt, y.dflt)
  | .ar n t => vRep n t.dflt
  | .pt _ => none
  | .mp _ _ => []
  | .er => false
def vRep {α : Type} : (n : Nat) → α → Vec α n
  | 0, _ => ()
  | n + 1, x => (x, vRep n x)
end
instance (t : Ty) : Inhabited t.den := ⟨t.dflt⟩
def noNil : PV → Bool
  | .s (.slice none 0 0) => false
  | .s (.pointer none) => false
  | .s (.map none) => false
  | .s .nilIface => false
  | _ => true
def DecEq {α : Type} (f : List PV → Option (α × List PV)) (e : α → List PV) : Prop := ∀ (qs r : List PV) (x : α), f qs = some (x, r) → qs.all noNil = true → qs = e x ++ r ∧ r.all noNil = true
theorem dV_eq {α : Type} {f : List PV → Option (α × List PV)} {e : α → List PV} (hf : DecEq f e) : ∀ n : Nat, DecEq (dV f n) (Vec.flat e n)
  | 0 => by
    intro qs r x h hr
    obtain rfl : qs = r := congrArg Prod.snd (Option.some.inj h)
    exact ⟨rfl, hr⟩
  | n + 1 => by
    intro qs r x h hr
    simp only [dV] at h
    split at h
    · rename_i y r1 h1
      split at h
      · rename_i v r2 h2
        simp only [Option.some.injEq, Prod.mk.injEq] at h
        obtain ⟨rfl, rfl⟩ := h
        obtain ⟨rfl, g2⟩ := hf _ _ _ h1 hr
        obtain ⟨rfl, k2⟩ := dV_eq hf n _ _ _ h2 g2
        exact ⟨by simp [Vec.flat], k2⟩
      · cases h
    · cases h
theorem dOne_eq {α : Type} {f : PV → Option α} {e : α → PV} (hf : ∀ q x, f q = some x → noNil q = true → q = e x) : DecEq (dOne f) (fun x => [e x]) := by
  intro qs r x h hr
  cases qs with
  | nil => simp [dOne] at h
  | cons q qs =>
    simp only [dOne] at h
    simp only [List.all_cons, Bool.and_eq_true] at hr
    split at h
    · rename_i y hy
      simp only [Option.some.injEq, Prod.mk.injEq] at h
      obtain ⟨rfl, rfl⟩ := h
      rw [hf _ _ hy hr.1]
      exact ⟨rfl, hr.2⟩
    · cases h
theorem dPr_eq {α β : Type} {f : List PV → Option (α × List PV)} {g : List PV → Option (β × List PV)} {e : α → List PV} {e' : β → List PV} (hf : DecEq f e) (hg : DecEq g e') : DecEq (dPr f g) (fun x => e x.1 ++ e' x.2) := by
  intro qs r x h hr
  unfold dPr at h
  split at h
  · rename_i y r1 h1
    split at h
    · rename_i v r2 h2
      simp only [Option.some.injEq, Prod.mk.injEq] at h
      obtain ⟨rfl, rfl⟩ := h
      obtain ⟨rfl, g2⟩ := hf _ _ _ h1 hr
      obtain ⟨rfl, k2⟩ := hg _ _ _ h2 g2
      exact ⟨by simp, k2⟩
    · cases h
  · cases h
theorem dSl_eq {n : Nat} {t : Ty} {q : PV} {x : List t.den} (h : dSl n t q = some x) (hn : noNil q = true) : q = .sl n t x := by
  unfold dSl at h; split at h
  · split at h
    · rename_i ht
      subst ht
      obtain ⟨h1, h2⟩ := bif_some h
      obtain rfl := Nat.eq_of_beq_eq_true h1
      obtain rfl := Option.some.inj h2
      rfl
    · cases h
  · cases hn
  · cases h
theorem dPt_eq {t : Ty} {q : PV} {x : Option t.den} (h : dPt t q = some x) (hn : noNil q = true) : q = .pt t x := by
  unfold dPt at h; split at h
  · split at h
    · rename_i ht; subst ht; obtain rfl := Option.some.inj h; rfl
    · cases h
  · cases hn
  · cases h
theorem dMp_eq {a bt : Ty} {q : PV} {x : List (a.den × bt.den)} (h : dMp a bt q = some x) (hn : noNil q = true) : q = .mp a bt x := by
  unfold dMp at h; split at h
  · split at h
    · rename_i ha
      split at h
      · rename_i hb; subst ha hb; obtain rfl := Option.some.inj h; rfl
      · cases h
    · cases h
  · cases hn
  · cases h
theorem dEr_eq {q : PV} {x : Bool} (h : dEr q = some x) (hn : noNil q = true) : q = .er x := by
  unfold dEr at h; split at h
  · obtain rfl := Option.some.inj h; rfl
  · cases hn
  · cases h
theorem dec_eq : ∀ t : Ty, DecEq t.dec (fun x => (t.enc x).cells)
  | .i k => dOne_eq (e := fun x => .s (.int k x)) fun q x h hn => dI_ok h
  | .b => dOne_eq (e := fun x => .s (.bool x)) fun q x h hn => dB_ok h
  | .s => dOne_eq (e := fun x => .s (.string x)) fun q x h hn => dS_ok h
  | .f => dOne_eq (e := fun x => .s (.float .f64 x)) fun q x h hn => dF_ok h
  | .c => dOne_eq (e := fun (x : Nat × Nat) => .s (.complex .f64 x.1 x.2)) fun q x h hn => dC_ok h
  | .u => fun qs r x h hr => by cases h
  | .sl n t => dOne_eq (e := fun x => .sl n t x) fun q x h hn => dSl_eq h hn
  | .un => fun qs r x h hr => by
    obtain rfl : qs = r := congrArg Prod.snd (Option.some.inj h)
    exact ⟨rfl, hr⟩
  | .pr g h => dPr_eq (dec_eq g) (dec_eq h)
  | .ar n t => dV_eq (dec_eq t) n
  | .pt t => dOne_eq (e := fun x => .pt t x) fun q x h hn => dPt_eq h hn
  | .mp g h => dOne_eq (e := fun x => .mp g h x) fun q x h hn => dMp_eq h hn
  | .er => dOne_eq (e := fun x => .er x) fun q x h hn => dEr_eq h hn
/-- Pure data, taken as a typed thing that is told just so. -/
def Ty.getS (t : Ty) (q : PV) : Option t.den := bif t.isAg then
    match q with
    | .agg cs => bif cs.all noNil then dAll (t.dec cs) else none
    | _ => none
  else bif noNil q then dAll (t.dec [q]) else none
theorem getS_eq {t : Ty} {q : PV} {x : t.den} (h : t.getS q = some x) : t.enc x = q := by
  unfold Ty.getS at h
  cases ha : t.isAg with
  | true =>
    rw [ha] at h
    simp only [cond_true] at h
    rw [enc_agg ha]
    split at h
    · obtain ⟨h1, h2⟩ := bif_some h
      obtain ⟨rfl, _⟩ := dec_eq t _ _ _ (dAll_of h2) h1
      simp
    · cases h
  | false =>
    rw [ha] at h
    simp only [cond_false] at h
    obtain ⟨h1, h2⟩ := bif_some h
    obtain ⟨h3, _⟩ := dec_eq t _ _ _ (dAll_of h2) (by simpa using h1)
    simp only [List.append_nil] at h3
    rw [enc_one ha] at h3
    exact (List.cons.inj h3).1.symm
def getSs (t : Ty) : List PV → Option (List t.den)
  | [] => some []
  | q :: qs => match t.getS q with
    | some x => match getSs t qs with
      | some xs => some (x :: xs)
      | none => none
    | none => none
theorem getSs_eq {t : Ty} : ∀ {qs : List PV} {xs : List t.den}, getSs t qs = some xs → xs.map t.enc = qs
  | [], xs, h => by obtain rfl := Option.some.inj h; rfl
  | q :: qs, xs, h => by
    simp only [getSs] at h
    split at h
    · rename_i x hx
      split at h
      · rename_i ys hys
        obtain rfl := Option.some.inj h
        rw [List.map_cons, getS_eq hx, getSs_eq hys]
      · cases h
    · cases h

/-! ### What may fail is asked where the tests hold -/
def gds {α : Type} [Inhabited α] (E : Env) (A0 : Tg) : Tg → Option α → Option α
  | [], X => X
  | (u, b) :: A, X => match look E A0 (.tmp u) with
    | some (.p (.s (.bool t))) => gds E A0 A (match b with | true => gd t X | false => gd (!t) X)
    | _ => none
section
variable {P : Program} {T : Tab} {E : Env} {A : Tg} {h : List Ob} {o : Oper} {β : Type} {r : β}
theorem gds_yld {α : Type} [Inhabited α] {x : α} {s : SV} : ∀ {B : Tg} {X : Option α}, gds E A B X = some x → (∀ y ∈ B, y ∈ A) → (X = some x → Yld P o E A h s) → Yld P o E A h s
  | [], X, hx, _, hy => hy hx
  | (u, b) :: B, X, hx, hm, hy => by
    simp only [gds] at hx
    split at hx
    · rename_i t ht
      refine gds_yld hx (fun y hy => hm y (List.mem_cons_of_mem _ hy)) fun hX => ?_
      refine Yld.under ht (hm (u, b) List.mem_cons_self) fun e => hy ?_
      subst e
      cases t with
      | true => exact gd1 hX rfl
      | false => exact gd0 hX rfl
    · cases hx

/-! ### Operations that yield -/
def pIndex (T : Tab) (t : Nat) (a c : Operand) (E : Env) (A : Tg) (K : SV → Option β) : Option β := match kOf T t with
  | .str => match look E A a, look E A c with
    | some (.p (.s (.string b))), some (.p (.s (.int k i))) => (gds E A A (bx b i)).bind fun x => K (v8 x)
    | _, _ => none
  | _ => none
theorem pIndex_ok (hT : TOk P T) {t : Nat} {a c : Operand} {K : SV → Option β} (ho : o.op = .index t a c) (hr : pIndex T t a c E A K = some r) : ∃ s, (∀ h, Yld P o E A h s) ∧ K s = some r := by
  unfold pIndex at hr
  split at hr
  · rename_i hk
    split at hr
    · rename_i b k i ha hc
      obtain ⟨x, hx, hK⟩ := bd hr
      exact ⟨_, fun h => gds_yld hx (fun _ h => h) fun hx => zb hT k hx ho hk ha hc, hK⟩
    · cases hr
  · cases hr

def bdOf (E : Env) (A : Tg) (d : Int) : Option Operand → Option Int
  | none => some d
  | some y => match look E A y with
    | some (.p (.s (.int _ l))) => some l
    | _ => none
theorem bdOf_ok {d l : Int} {y : Option Operand} (hb : bdOf E A d y = some l) : Bd E A d y l := by
  unfold bdOf at hb
  split at hb
  · obtain rfl := Option.some.inj hb; rfl
  · split at hb
    · rename_i k l' hl; obtain rfl := Option.some.inj hb; exact ⟨_, hl⟩
    · cases hb
def pIndexAddr (T : Tab) (t : Nat) (a c : Operand) (E : Env) (A : Tg) (K : SV → Option β) : Option β := match kOf T t with
  | .sl e => match T e, look E A a, look E A c with
    | some ei, some sa, some (.p (.s (.int k i))) => match pur sa with
      | some (.sl n τ l) => bif Nat.beq ei.size n then (gds E A A (ix l i)).bind fun x => K (.padr (τ.enc x).cells) else none
      | _ => none
    | _, _, _ => none
  | _ => none
theorem pIndexAddr_ok (hT : TOk P T) {t : Nat} {a c : Operand} {K : SV → Option β} (ho : o.op = .indexAddr t a c) (hr : pIndexAddr T t a c E A K = some r) : ∃ s, (∀ h, Yld P o E A h s) ∧ K s = some r := by
  unfold pIndexAddr at hr
  split at hr
  · rename_i e hk
    split at hr
    · rename_i ei sa k i he ha hc
      split at hr
      · rename_i n τ l hq
        obtain ⟨h1, hr⟩ := bif_some hr
        obtain ⟨x, hx, hK⟩ := bd hr
        exact ⟨_, fun h => gds_yld hx (fun _ h => h) fun hx => zi hT k hx ho hk he (Nat.eq_of_beq_eq_true h1) ha hq hc, hK⟩
      · cases hr
    · cases hr
  · cases hr

def pSlice (T : Tab) (t : Nat) (a : Operand) (lo hi : Option Operand) (E : Env) (A : Tg) (K : SV → Option β) : Option β := match kOf T t with
  | .sl e => match T e, look E A a with
    | some ei, some sa => match pur sa with
      | some (.sl n τ l) => match bdOf E A 0 lo, bdOf E A l.length hi with
        | some i, some j => bif Nat.beq ei.size n then (gds E A A (cut l i j)).bind fun x => K (.p (.sl n τ x)) else none
        | _, _ => none
      | _ => none
    | _, _ => none
  | .str => match look E A a with
    | some (.p (.s (.string b))) => match bdOf E A 0 lo, bdOf E A b.size hi with
      | some i, some j => (gds E A A (sub b i j)).bind fun x => K (vs x)
      | _, _ => none
    | _ => none
  | _ => none
theorem pSlice_ok (hT : TOk P T) {t : Nat} {a : Operand} {lo hi : Option Operand} {K : SV → Option β} (ho : o.op = .slice t a lo hi none) (hr : pSlice T t a lo hi E A K = some r) : ∃ s, (∀ h, Yld P o E A h s) ∧ K s = some r := by
  unfold pSlice at hr
  split at hr
  · rename_i e hk
    split at hr
    · rename_i ei sa he ha
      split at hr
      · rename_i n τ l hq
        split at hr
        · rename_i i j hi' hj'
          obtain ⟨h1, hr⟩ := bif_some hr
          obtain ⟨x, hx, hK⟩ := bd hr
          exact ⟨_, fun h => gds_yld hx (fun _ h => h) fun hx => zt hT hx ho hk he (Nat.eq_of_beq_eq_true h1) ha hq (bdOf_ok hi') (bdOf_ok hj'), hK⟩
        · cases hr
      · cases hr
    · cases hr
  · rename_i hk
    split at hr
    · rename_i b ha
      split at hr
      · rename_i i j hi' hj'
        obtain ⟨x, hx, hK⟩ := bd hr
        exact ⟨_, fun h => gds_yld hx (fun _ h => h) fun hx => zu hT hx ho hk ha (bdOf_ok hi') (bdOf_ok hj'), hK⟩
      · cases hr
    · cases hr
  · cases hr

def pBin (op : BinOp) (a c : Operand) (E : Env) (A : Tg) (K : SV → Option β) : Option β := match look E A a, look E A c with
  | some (.p (.s (.string b))), some (.p (.s (.string d))) => match op with
    | .add => (gds E A A (cat b d)).bind fun x => K (vs x)
    | _ => none
  | some (.p (.s (.int k i))), some (.p (.s (.int k' j))) => match op with
    | .quo => if k' = k then (gds E A A (dv k i j)).bind fun x => K (.p (.s (.int k x))) else none
    | .rem => if k' = k then (gds E A A (md i j)).bind fun x => K (.p (.s (.int k x))) else none
    | .shl => (gds E A A (shl k i j)).bind fun x => K (.p (.s (.int k x)))
    | .shr => (gds E A A (shr k i j)).bind fun x => K (.p (.s (.int k x)))
    | _ => none
  | _, _ => none
theorem pBin_ok (hT : TOk P T) {op : BinOp} {t u : Nat} {a c : Operand} {K : SV → Option β} (ho : o.op = .binOp op t a c u) (hr : pBin op a c E A K = some r) : ∃ s, (∀ h, Yld P o E A h s) ∧ K s = some r := by
  unfold pBin at hr
  split at hr
  · rename_i b d ha hc
    split at hr
    · obtain ⟨x, hx, hK⟩ := bd hr
      exact ⟨_, fun h => gds_yld hx (fun _ h => h) fun hx => za hx ho ha hc, hK⟩
    · cases hr
  · rename_i k i k' j ha hc
    split at hr
    · split at hr
      · rename_i hk
        subst hk
        obtain ⟨x, hx, hK⟩ := bd hr
        exact ⟨_, fun h => gds_yld hx (fun _ h => h) fun hx => zq hT hx ho ha hc, hK⟩
      · cases hr
    · split at hr
      · rename_i hk
        subst hk
        obtain ⟨x, hx, hK⟩ := bd hr
        exact ⟨_, fun h => gds_yld hx (fun _ h => h) fun hx => zm hT hx ho ha hc, hK⟩
      · cases hr
    · obtain ⟨x, hx, hK⟩ := bd hr
      exact ⟨_, fun h => gds_yld hx (fun _ h => h) fun hx => zl hx ho ha hc, hK⟩
    · obtain ⟨x, hx, hK⟩ := bd hr
      exact ⟨_, fun h => gds_yld hx (fun _ h => h) fun hx => zr hx ho ha hc, hK⟩
    · cases hr
  · cases hr

/-- Arrays held against one another. -/
noncomputable def pEqAr (P : Program) (T : Tab) (op : BinOp) (t : Nat) (x y : Operand) (E : Env) (A : Tg) (K : SV → Option β) : Option β := match kOf T t with
  | .ar n e => match kOf T e, (T e).map (·.size), (look E A x).map (coS (T t)), (look E A y).map (coS (T t)) with
    | .int k, some 1, some (.p (.agg q1)), some (.p (.agg q2)) => match (Ty.ar n (.i k)).getS (.agg q1), (Ty.ar n (.i k)).getS (.agg q2) with
      | some a, some b => bif P.eqGuardType P.depth t then none else match op with
        | .eql => K (vb (teq (.ar n (.i k)) a b))
        | .neq => K (vb (!teq (.ar n (.i k)) a b))
        | _ => none
      | _, _ => none
    | _, _, _, _ => none
  | _ => none
theorem getS_ints {n : Nat} {k : IntKind} {q : List PV} {a : (Ty.ar n (.i k)).den} (h : (Ty.ar n (.i k)).getS (.agg q) = some a) : purI k q = some (vlist n a) := by
  have h1 := getS_eq h
  have h2 : q = (vlist n a).map fun z => PV.s (.int k z) := by
    have : PV.agg (Vec.flat (fun y => ((Ty.i k).enc y).cells) n a) = .agg q := h1
    rw [flat_ints] at this
    exact (PV.agg.inj this).symm
  rw [h2, purI_ints]
theorem pEqAr_ok (hT : TOk P T) {op : BinOp} {t u : Nat} {x y : Operand} {K : SV → Option β} (ho : o.op = .binOp op t x y u) (hr : pEqAr P T op t x y E A K = some r) : ∃ s, (∀ h, Yld P o E A h s) ∧ K s = some r := by
  unfold pEqAr at hr
  split at hr
  · rename_i n e hk
    split at hr
    · rename_i k q1 q2 hke hz hx hy
      split at hr
      · rename_i a b ha hb
        cases hm : P.eqGuardType P.depth t with
        | true => rw [hm] at hr; cases hr
        | false =>
          rw [hm] at hr
          simp only [cond_false] at hr
          have l1 : Nat.beq (vlist n a).length n = true := by rw [vlist_length]; exact Nat.beq_refl _
          have l2 : Nat.beq (vlist n b).length n = true := by rw [vlist_length]; exact Nat.beq_refl _
          have hd : decide (vlist n a = vlist n b) = teq (.ar n (.i k)) a b := by
            rw [Bool.eq_iff_iff, teq_iff, decide_eq_true_iff]
            exact ⟨vlist_inj n, fun e => by rw [e]⟩
          split at hr
          · exact ⟨_, fun h => by have := zEq (hp := h) hT (.inl rfl) ho hk hke hm hx hy (getS_ints ha) (getS_ints hb) l1 l2 hz; rw [hd] at this; exact this, hr⟩
          · exact ⟨_, fun h => by have := zEq (hp := h) hT (.inr rfl) ho hk hke hm hx hy (getS_ints ha) (getS_ints hb) l1 l2 hz; rw [hd] at this; exact this, hr⟩
          · cases hr
      · cases hr
    · cases hr
  · cases hr
/-- Complex numbers held against one another. -/
def pEqC (op : BinOp) (x y : Operand) (E : Env) (A : Tg) (K : SV → Option β) : Option β := match look E A x, look E A y with
  | some (.p (.s (.complex .f64 a b))), some (.p (.s (.complex .f64 c d))) => match op with
    | .eql => K (vb (ceq (a, b) (c, d)))
    | .neq => K (vb (!ceq (a, b) (c, d)))
    | _ => none
  | _, _ => none
theorem pEqC_ok {op : BinOp} {t u : Nat} {x y : Operand} {K : SV → Option β} (ho : o.op = .binOp op t x y u) (hr : pEqC op x y E A K = some r) : ∃ s, (∀ h, Yld P o E A h s) ∧ K s = some r := by
  unfold pEqC at hr
  split at hr
  · rename_i a b c d hx hy
    split at hr
    · exact ⟨_, fun h => zXe (a := (a, b)) (b := (c, d)) ho hx hy, hr⟩
    · exact ⟨_, fun h => zXn (a := (a, b)) (b := (c, d)) ho hx hy, hr⟩
    · cases hr
  · cases hr
theorem RdS.ofp {w : World} {F : Fz} {m : Mp} {v : Value} {q : PV} (h : RdS w F m v (.p q)) : Rd w F v q := by
  cases h with | p h => exact h
/-- An error held against nil. -/
def pEqE (P : Program) (op : BinOp) (t : Nat) (x y : Operand) (E : Env) (A : Tg) (K : SV → Option β) : Option β := match P.underlying t, look E A x, y with
  | some (.interface _), some (.p (.er a)), .const .nilIface => match op with
    | .eql => K (vb (!a))
    | .neq => K (vb a)
    | _ => none
  | _, _, _ => none
theorem pEqE_ok {op : BinOp} {t u : Nat} {x y : Operand} {K : SV → Option β} (ho : o.op = .binOp op t x y u) (hr : pEqE P op t x y E A K = some r) : ∃ s, (∀ h, Yld P o E A h s) ∧ K s = some r := by
  unfold pEqE at hr
  split at hr
  · rename_i ms a ht hx
    have hm : P.underlying t = some (.interface (P.methodsAt t)) := by simp only [Program.methodsAt, ht]
    split at hr
    · refine ⟨_, fun h => .of_still fun ac w F m hs hO => ⟨.bool (!a), ?_, .p (.s _)⟩, hr⟩
      have ex := RdS.ofp (hO.rd (by simp [ho, Op.operands]) hx)
      have e2 : ac.eval (.const .nilIface) = .nilIface := rfl
      generalize hv : ac.eval x = v at ex
      cases ex with
      | er0 =>
        simp only [execOp, ho, hv, e2, eqGuard_nil_constR, Sem.run_bind, Sem.run_pure, run_eql_nil_nil w t hm, Result.andThen_ok]
        rfl
      | er1 d v =>
        simp only [execOp, ho, hv, e2, eqGuard_at_iface, Sem.run_bind, Sem.run_pure, run_eql_held_nil w t d v hm, Result.andThen_ok]
        rfl
    · refine ⟨_, fun h => .of_still fun ac w F m hs hO => ⟨.bool a, ?_, .p (.s _)⟩, hr⟩
      have ex := RdS.ofp (hO.rd (by simp [ho, Op.operands]) hx)
      have e2 : ac.eval (.const .nilIface) = .nilIface := rfl
      generalize hv : ac.eval x = v at ex
      cases ex with
      | er0 =>
        simp only [execOp, ho, hv, e2, eqGuard_nil_constR, Sem.run_bind, Sem.run_pure, run_neq_nil_nil w t hm, Result.andThen_ok]
      | er1 d v =>
        simp only [execOp, ho, hv, e2, eqGuard_at_iface, Sem.run_bind, Sem.run_pure, run_neq_held_nil w t d v hm, Result.andThen_ok]
    · cases hr
  · cases hr
/-- x[:j:j], its spare cells forgotten. -/
def pSlice3 (T : Tab) (t : Nat) (x y z : Operand) (E : Env) (A : Tg) (K : SV → Option β) : Option β := match kOf T t, look E A x, look E A y, look E A z with
  | .sl e, some sx, some (.p (.s (.int _ hi))), some (.p (.s (.int _ hi'))) => match T e, pur sx with
    | some ei, some (.sl n τ l) => bif Nat.beq ei.size n then (gds E A A (if hi' = hi then cut l 0 hi else none)).bind fun x => K (.p (.sl n τ x)) else none
    | _, _ => none
  | _, _, _, _ => none
theorem pSlice3_ok (hT : TOk P T) {t : Nat} {x y z : Operand} {K : SV → Option β} (ho : o.op = .slice t x none (some y) (some z)) (hr : pSlice3 T t x y z E A K = some r) : ∃ s, (∀ h, Yld P o E A h s) ∧ K s = some r := by
  unfold pSlice3 at hr
  split at hr
  · rename_i e sx k hi k' hi' hk hx hy hz
    split at hr
    · rename_i ei n τ l he hq
      obtain ⟨h1, hr⟩ := bif_some hr
      obtain ⟨zs, hzs, hK⟩ := bd hr
      refine ⟨_, fun h => gds_yld hzs (fun _ h => h) fun hzs => ?_, hK⟩
      split at hzs
      · rename_i e1
        subst e1
        exact zt3 hT _ _ hzs ho hk he (Nat.eq_of_beq_eq_true h1) hx hq hy hz
      · cases hzs
    · cases hr
  · cases hr
/-- A place in a small array of one's own: told by cases. -/
def arrK (off sz : Nat) (b : Nat) (iv : Int) (K : SV → Option β) : Nat → Nat → Option β
  | 0, _ => none
  | n + 1, c => if iv = (c : Int) then K (.ptr b (off + c * sz)) else arrK off sz b iv K n (c + 1)
def pArr (T : Tab) (t : Nat) (x y : Operand) (E : Env) (A : Tg) (K : SV → Option β) : Option β := match kOf T t with
  | .ar n e => match T e, look E A x, look E A y with
    | some ei, some (.ptr b off), some (.p (.s (.int _ iv))) => bif Nat.ble n 8 then arrK off ei.size b iv K n 0 else match iv with
      | .ofNat c => bif Nat.blt c n then K (.ptr b (off + c * ei.size)) else none
      | .negSucc _ => none
    | _, _, _ => none
  | _ => none
theorem arrK_of {off sz b : Nat} {iv : Int} {K : SV → Option β} : ∀ {n c : Nat}, arrK off sz b iv K n c = some r → ∃ j, c ≤ j ∧ j < c + n ∧ iv = (j : Int) ∧ K (.ptr b (off + j * sz)) = some r
  | 0, c, h => by cases h
  | n + 1, c, h => by
    simp only [arrK] at h
    split at h
    · rename_i he; exact ⟨c, Nat.le_refl _, by omega, he, h⟩
    · obtain ⟨j, h1, h2, h3, h4⟩ := arrK_of h
      exact ⟨j, by omega, by omega, h3, h4⟩
theorem pArr_ok (hT : TOk P T) {t : Nat} {x y : Operand} {K : SV → Option β} (ho : o.op = .indexAddr t x y) (hr : pArr T t x y E A K = some r) : ∃ s, (∀ h, Yld P o E A h s) ∧ K s = some r := by
  unfold pArr at hr
  split at hr
  · rename_i n e hk
    split at hr
    · rename_i ei b off k iv he hx hy
      cases hb : Nat.ble n 8 with
      | true =>
        rw [hb] at hr
        obtain ⟨j, _, h2, rfl, hK⟩ := arrK_of hr
        exact ⟨_, fun h => zA hT ho hk he hx hy (by omega) (by omega), by simpa using hK⟩
      | false =>
        rw [hb] at hr
        simp only [cond_false] at hr
        split at hr
        · rename_i c
          obtain ⟨h1, hK⟩ := bif_some hr
          have := of_blt h1
          exact ⟨_, fun h => zA hT ho hk he hx hy (Int.natCast_nonneg c) (Int.ofNat_lt.2 this), by simpa using hK⟩
        · cases hr
    · cases hr
  · cases hr

/-- The type of an element, as a code. -/
def tyOf (T : Tab) (t : Nat) : Option Ty := match T t with
  | some i => i.ty
  | none => none
def pLit (T : Tab) (t len : Nat) (parts : List (Nat × Operand)) (E : Env) (A : Tg) (K : SV → Option β) : Option β := match litV E A T t len parts with
  | some (e, n, qs) => match tyOf T e with
    | some τ => match getSs τ qs with
      | some xs => K (.p (.sl n τ xs))
      | none => none
    | none => none
  | none => none
theorem pLit_ok (hT : TOk P T) {t len : Nat} {parts : Array (Nat × Operand)} {K : SV → Option β} (ho : o.op = .buildSlice t len parts) (hr : pLit T t len parts.toList E A K = some r) : ∃ s, (∀ h, Yld P o E A h s) ∧ K s = some r := by
  unfold pLit at hr
  split at hr
  · rename_i e n qs hl
    split at hr
    · rename_i τ ht
      split at hr
      · rename_i xs hxs
        exact ⟨_, fun h => y_lit hT ho hl τ xs (getSs_eq hxs), hr⟩
      · cases hr
    · cases hr
  · cases hr

/-- A pointer to what nobody writes any more, looked through. -/
def pNil (a : Operand) (E : Env) (A : Tg) (K : SV → Option β) : Option β := match look E A a with
  | some (.p (.pt τ x)) => (gds E A A x).bind fun y => K (.padr (τ.enc y).cells)
  | _ => none
theorem pNil_ok {a : Operand} {K : SV → Option β} (ho : o.op = .nilCheck a) (hr : pNil a E A K = some r) : ∃ s, (∀ h, Yld P o E A h s) ∧ K s = some r := by
  unfold pNil at hr
  split at hr
  · rename_i τ x ha
    obtain ⟨y, hy, hK⟩ := bd hr
    refine ⟨_, fun h => gds_yld hy (fun _ h => h) fun hx => ?_, hK⟩
    subst hx
    refine Yld.of_still fun ac w F m hs hO => ?_
    have hv := hO.rd (x := a) (by simp [ho, Op.operands]) ha
    generalize hva : ac.eval a = v at hv
    cases hv with
    | p hp =>
      cases hp with
      | pt hr => exact ⟨_, by simp [execOp, ho, hva], .padr hr⟩
  · cases hr
end
end Go.Proofs.YtmjkflppajienaaDoor.R
