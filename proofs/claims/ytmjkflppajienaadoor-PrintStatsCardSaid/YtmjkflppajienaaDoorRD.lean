/- What one operation yields, told by a function, and that the machine yields it; no condition but the typed premises. -/
import Derived.Test.YtmjkflppajienaaDoorRC
import Derived.Great.FillDense
namespace Go.Proofs.YtmjkflppajienaaDoor.R
open Go Go.RowKit
set_option linter.unusedVariables false
set_option linter.unusedSimpArgs false

/-! ### Scalars -/
def intV (op : BinOp) (k : IntKind) (a b : Int) : Option Value :=
  match op with
  | .add => some (.int k (k.wrap (a + b)))
  | .sub => some (.int k (k.wrap (a - b)))
  | .mul => some (.int k (k.wrap (a * b)))
  | .quo => if b = 0 then none else some (.int k (k.wrap (a.tdiv b)))
  | .rem => if b = 0 then none else some (.int k (a.tmod b))
  | .and => some (.int k (k.wrap ((BitVec.ofInt k.bits a &&& BitVec.ofInt k.bits b).toNat)))
  | .or => some (.int k (k.wrap ((BitVec.ofInt k.bits a ||| BitVec.ofInt k.bits b).toNat)))
  | .xor => some (.int k (k.wrap ((BitVec.ofInt k.bits a ^^^ BitVec.ofInt k.bits b).toNat)))
  | .andNot => some (.int k (k.wrap ((BitVec.ofInt k.bits a &&& ~~~ BitVec.ofInt k.bits b).toNat)))
  | .eql => some (.bool (decide (a = b)))
  | .neq => some (.bool (!decide (a = b)))
  | .lss => some (.bool (decide (a < b)))
  | .leq => some (.bool (decide (a ≤ b)))
  | .gtr => some (.bool (decide (a > b)))
  | .geq => some (.bool (decide (a ≥ b)))
  | _ => none
def strV (op : BinOp) (a b : ByteArray) : Option Value :=
  match op with
  | .eql => some (.bool (decide (a = b)))
  | .neq => some (.bool (!decide (a = b)))
  | .lss => some (.bool (Op.bytesLess a.toList b.toList))
  | .leq => some (.bool (Op.bytesLess a.toList b.toList || decide (a = b)))
  | .gtr => some (.bool !(Op.bytesLess a.toList b.toList || decide (a = b)))
  | .geq => some (.bool !(Op.bytesLess a.toList b.toList))
  | _ => none
def isBl (T : Tab) (t : Nat) : Bool := match T t with | some i => (match i.k with | .bl => true | _ => false) | none => false
/-- An operation on two scalars; none where it may panic. -/
def binV (T : Tab) (op : BinOp) (xt : Nat) : Value → Value → Option Value
  | .int k a, .int k' b => if k = k' then (match op with | .shl | .shr => none | op => intV op k a b) else none
  | .string a, .string b => strV op a b
  | .bool a, .bool b => bif isBl T xt then (match op with | .eql => some (.bool (a == b)) | .neq => some (.bool (!(a == b))) | _ => none) else none
  | _, _ => none
def unV (op : UnOp) : Value → Option Value
  | .bool b => match op with | .not => some (.bool (!b)) | _ => none
  | .int k n => match op with | .neg => some (.int k (k.wrap (0 - n))) | _ => none
  | _ => none

theorem toList_beq (a b : ByteArray) : (a.toList == b.toList) = decide (a = b) := by
  rw [ByteArray.toList_eq, ByteArray.toList_eq]
  by_cases h : a = b
  · subst h; simp
  · have h2 : ¬ a.data = b.data := fun e => h (ByteArray.ext e)
    simp [h, h2]

theorem isBl_ok {P : Program} {T : Tab} (hT : TOk P T) {t : Nat} (h : isBl T t = true) : P.underlying t = some .bool := by
  unfold isBl at h
  split at h
  · rename_i i hi
    split at h
    · rename_i hk; exact (hT t i hi).bool hk
    · cases h
  · cases h

theorem binV_run {P : Program} {T : Tab} (hT : TOk P T) {op : BinOp} {xt : Nat} {u v r : Value} (x y : Operand) (h : binV T op xt u v = some r) (w : World) :
    (do eqGuard op xt x y u v; binOp op xt u v : Sem Value).run P w = .ok r w := by
  unfold binV at h
  split at h
  · rename_i k a k' b
    split at h
    · rename_i hk
      subst hk
      cases op <;> simp only [intV, reduceCtorEq, Option.some.injEq] at h <;> (try (split at h <;> simp only [reduceCtorEq, Option.some.injEq] at h)) <;> subst h <;>
        simp_all [eqGuard, binOp, Op.intArith, Op.intDiv, Op.intBits, Op.intCmp] <;> rfl
    · cases h
  · rename_i a b
    cases op <;> simp only [strV, reduceCtorEq, Option.some.injEq] at h <;> subst h <;>
        simp [eqGuard, binOp, Op.stringOp, toList_beq]
  · rename_i a b
    cases hb : isBl T xt with
    | false => rw [hb] at h; simp at h
    | true =>
      rw [hb] at h
      have hu := isBl_ok hT hb
      cases op <;> simp only [cond_true, reduceCtorEq, Option.some.injEq] at h <;> subst h
      · simpa [eqGuard] using run_eql_bool (P := P) w xt a b hu
      · simpa [eqGuard] using run_neq_bool (P := P) w xt a b hu
  · cases h

theorem unV_run {P : Program} {op : UnOp} {u r : Value} (h : unV op u = some r) (w : World) : (Op.unary op u).run P w = .ok r w := by
  unfold unV at h
  split at h
  · cases op <;> simp only [reduceCtorEq, Option.some.injEq] at h; subst h; rfl
  · cases op <;> simp only [reduceCtorEq, Option.some.injEq] at h; subst h; rfl
  · cases h

/-! ### Structs -/
def allP : List SV → Option (List PV)
  | [] => some []
  | .p q :: ss => match allP ss with | some qs => some (q :: qs) | none => none
  | _ :: _ => none
def mkAgg (cs : List SV) : SV := match allP cs with | some ps => .p (.agg ps) | none => .agg cs
theorem allP_rd {w : World} {F : Fz} {m : Mp} : ∀ {cs : List SV} {ps : List PV} {vs : List Value}, allP cs = some ps → (∀ v ∈ vs, v.oneCell' = true) → RdSL w F m vs cs → RdL w F vs ps
  | [], ps, _, h, h1, .nil => by simp only [allP, Option.some.injEq] at h; subst h; exact .nil
  | s :: ss, ps, _, h, h1, .cons hv hs => by
    cases s <;> simp only [allP, reduceCtorEq] at h
    rename_i q
    split at h
    · rename_i qs hq
      simp only [Option.some.injEq] at h
      subst h
      cases hv with | p hv => exact .cons (h1 _ (by simp)) hv (allP_rd hq (fun v hv => h1 v (by simp [hv])) hs)
    · cases h
theorem mkAgg_rd {w : World} {F : Fz} {m : Mp} {cs : List SV} {vs : List Value} (h1 : ∀ v ∈ vs, v.oneCell' = true) (h : RdSL w F m vs cs) : RdS w F m (.agg vs.toArray) (mkAgg cs) := by
  unfold mkAgg
  split
  · rename_i ps hps; exact .p (.agg (allP_rd hps h1 h))
  · exact .agg h1 h

/-- The cells of a thing. -/
def scells : SV → Option (List SV)
  | .p (.agg ps) => some (ps.map .p)
  | .p (.s v) => bif v.oneCell' then some [.p (.s v)] else none
  | .p (.sl n τ xs) => some [.p (.sl n τ xs)]
  | .p (.pt τ x) => some [.p (.pt τ x)]
  | .p (.mp κ τ m) => some [.p (.mp κ τ m)]
  | .p (.er x) => some [.p (.er x)]
  | .agg cs => some cs
  | .tup _ => none
  | .any => none
  | s => some [s]
theorem cells_one {v : Value} (h : v.oneCell' = true) : v.cells = #[v] := by cases v <;> first | rfl | (simp [Value.oneCell'] at h)
theorem RdL.toS {w : World} {F : Fz} {m : Mp} : ∀ {vs : List Value} {ps : List PV}, RdL w F vs ps → RdSL w F m vs (ps.map .p)
  | _, _, .nil => .nil
  | _, _, .cons _ h hs => .cons (.p h) (RdL.toS hs)
theorem scells_rd {w : World} {F : Fz} {m : Mp} {v : Value} {s : SV} {ss : List SV} (h : scells s = some ss) (hr : RdS w F m v s) : RdSL w F m v.cells.toList ss ∧ ∀ u ∈ v.cells.toList, u.oneCell' = true := by
  cases hr with
  | p hp =>
    cases hp with
    | s v =>
      simp only [scells] at h
      cases ho : v.oneCell' with
      | true => rw [ho] at h; simp only [cond_true, Option.some.injEq] at h; subst h; rw [cells_one ho]; exact ⟨.cons (.p (.s v)) .nil, by simpa using ho⟩
      | false => rw [ho] at h; simp at h
    | nil n τ => simp only [scells, Option.some.injEq] at h; subst h; exact ⟨.cons (.p (.nil n τ)) .nil, by simp [Value.cells, Value.oneCell']⟩
    | emp a n τ => simp only [scells, Option.some.injEq] at h; subst h; exact ⟨.cons (.p (.emp a n τ)) .nil, by simp [Value.cells, Value.oneCell']⟩
    | pt0 τ => simp only [scells, Option.some.injEq] at h; subst h; exact ⟨.cons (.p (.pt0 τ)) .nil, by simp [Value.cells, Value.oneCell']⟩
    | pt hr => simp only [scells, Option.some.injEq] at h; subst h; exact ⟨.cons (.p (.pt hr)) .nil, by simp [Value.cells, Value.oneCell']⟩
    | er0 => simp only [scells, Option.some.injEq] at h; subst h; exact ⟨.cons (.p .er0) .nil, by simp [Value.cells, Value.oneCell']⟩
    | er1 t v => simp only [scells, Option.some.injEq] at h; subst h; exact ⟨.cons (.p (.er1 t v)) .nil, by simp [Value.cells, Value.oneCell']⟩
    | mp0 κ τ => simp only [scells, Option.some.injEq] at h; subst h; exact ⟨.cons (.p (.mp0 κ τ)) .nil, by simp [Value.cells, Value.oneCell']⟩
    | mp hF hb hn hr => simp only [scells, Option.some.injEq] at h; subst h; exact ⟨.cons (.p (.mp hF hb hn hr)) .nil, by simp [Value.cells, Value.oneCell']⟩
    | sl hn hc hr => simp only [scells, Option.some.injEq] at h; subst h; exact ⟨.cons (.p (.sl hn hc hr)) .nil, by simp [Value.cells, Value.oneCell']⟩
    | agg hl => simp only [scells, Option.some.injEq] at h; subst h; exact ⟨by simpa [Value.cells] using hl.toS, by simpa [Value.cells] using hl.one⟩
  | own0 hm => simp only [scells, Option.some.injEq] at h; subst h; exact ⟨.cons (.own0 hm) .nil, by simp [Value.cells, Value.oneCell']⟩
  | owne a hm => simp only [scells, Option.some.injEq] at h; subst h; exact ⟨.cons (.owne a hm) .nil, by simp [Value.cells, Value.oneCell']⟩
  | ownx hn hr hm => simp only [scells, Option.some.injEq] at h; subst h; exact ⟨.cons (.ownx hn hr hm) .nil, by simp [Value.cells, Value.oneCell']⟩
  | own hn hr hm hb hc hcm hs => simp only [scells, Option.some.injEq] at h; subst h; exact ⟨.cons (.own hn hr hm hb hc hcm hs) .nil, by simp [Value.cells, Value.oneCell']⟩
  | row hm => simp only [scells, Option.some.injEq] at h; subst h; exact ⟨.cons (.row hm) .nil, by simp [Value.cells, Value.oneCell']⟩
  | ptr hm => simp only [scells, Option.some.injEq] at h; subst h; exact ⟨.cons (.ptr hm) .nil, by simp [Value.cells, Value.oneCell']⟩
  | padr hr => simp only [scells, Option.some.injEq] at h; subst h; exact ⟨.cons (.padr hr) .nil, by simp [Value.cells, Value.oneCell']⟩
  | agg h1 hl => simp only [scells, Option.some.injEq] at h; subst h; exact ⟨by simpa [Value.cells] using hl, by simpa [Value.cells] using h1⟩
  | tup hl => simp [scells] at h
  | fn hl => simp only [scells, Option.some.injEq] at h; subst h; exact ⟨.cons (.fn hl) .nil, by simp [Value.cells, Value.oneCell']⟩
  | rw hm hb hc hcm hs => simp only [scells, Option.some.injEq] at h; subst h; exact ⟨.cons (.rw hm hb hc hcm hs) .nil, by simp [Value.cells, Value.oneCell']⟩
  | np0 => simp only [scells, Option.some.injEq] at h; subst h; exact ⟨.cons .np0 .nil, by simp [Value.cells, Value.oneCell']⟩
  | np1 hm => simp only [scells, Option.some.injEq] at h; subst h; exact ⟨.cons (.np1 hm) .nil, by simp [Value.cells, Value.oneCell']⟩
  | bf0 hm => simp only [scells, Option.some.injEq] at h; subst h; exact ⟨.cons (.bf0 hm) .nil, by simp [Value.cells, Value.oneCell']⟩
  | bf hr hm hb hc hcm hs => simp only [scells, Option.some.injEq] at h; subst h; exact ⟨.cons (.bf hr hm hb hc hcm hs) .nil, by simp [Value.cells, Value.oneCell']⟩
  | mo hm => simp only [scells, Option.some.injEq] at h; subst h; exact ⟨.cons (.mo hm) .nil, by simp [Value.cells, Value.oneCell']⟩
  | rp hm => simp only [scells, Option.some.injEq] at h; subst h; exact ⟨.cons (.rp hm) .nil, by simp [Value.cells, Value.oneCell']⟩
  | any v => simp [scells] at h

def placeOf (sz : Nat → Option Nat) (fs : List (Nat × Nat)) (i : Nat) : Option (Nat × Nat) := match fs[i]? with
  | some (off, t) => match sz t with | some n => some (off, n) | none => none
  | none => none
def fillS (place : Nat → Option (Nat × Nat)) : List SV → List (Nat × List SV) → Option (List SV)
  | cells, [] => some cells
  | cells, (i, vs) :: rest => match place i with
    | some (off, size) => bif Nat.beq vs.length size && Nat.ble (off + size) cells.length then fillS place (cells.take off ++ vs ++ cells.drop (off + size)) rest else none
    | none => none

theorem foldl_set (off : Nat) : ∀ (vs : List Value) (i : Nat) (cur : Array Value), off + i + vs.length ≤ cur.size →
    ((vs.zipIdx i).foldl (fun cs (x : Value × Nat) => cs.setIfInBounds (off + x.2) x.1) cur).toList = cur.toList.take (off + i) ++ vs ++ cur.toList.drop (off + i + vs.length)
  | [], i, cur, h => by simp
  | v :: vs, i, cur, h => by
    rw [List.zipIdx_cons, List.foldl_cons, foldl_set off vs (i + 1) _ (by simp at h ⊢; omega)]
    simp only [Array.toList_setIfInBounds, List.length_cons]
    have hlt : off + i < cur.toList.length := by simp at h ⊢; omega
    rw [← Nat.add_assoc off i 1, List.take_succ_eq_append_getElem (by simpa using hlt)]
    rw [List.getElem_set_self]
    have e1 : List.take (off + i) (cur.toList.set (off + i) v) = List.take (off + i) cur.toList := by rw [List.take_set]; rw [List.set_eq_of_length_le (by simp; omega)]
    have e2 : List.drop (off + i + 1 + vs.length) (cur.toList.set (off + i) v) = List.drop (off + i + (vs.length + 1)) cur.toList := by
      rw [List.drop_set_of_lt (by omega)]; congr 1; omega
    rw [e1, e2]
    simp

/-- Parts that are as they are told to be. -/
inductive Prt (w : World) (F : Fz) (m : Mp) : List (Nat × Value) → List (Nat × List SV) → Prop
  | nil : Prt w F m [] []
  | cons {i : Nat} {v : Value} {vs : List SV} {ps : List (Nat × Value)} {ss : List (Nat × List SV)} (hv : RdSL w F m v.cells.toList vs) (ho : ∀ u ∈ v.cells.toList, u.oneCell' = true) (hs : Prt w F m ps ss) : Prt w F m ((i, v) :: ps) ((i, vs) :: ss)

theorem fill_rd {w : World} {F : Fz} {m : Mp} {place : Nat → Option (Nat × Nat)} : ∀ {parts : List (Nat × Value)} {sp : List (Nat × List SV)} {cells out : List SV} {cur : Array Value},
    fillS place cells sp = some out → RdSL w F m cur.toList cells → (∀ v ∈ cur.toList, v.oneCell' = true) →
    Prt w F m parts sp →
    ∃ r, Instr.fill place cur parts = some r ∧ RdSL w F m r.toList out ∧ ∀ v ∈ r.toList, v.oneCell' = true
  | [], [], cells, out, cur, h, hr, h1, _ => by simp only [fillS, Option.some.injEq] at h; subst h; exact ⟨cur, rfl, hr, h1⟩
  | (i, v) :: parts, (_, vs) :: sp, cells, out, cur, h, hr, h1, .cons hv ho hrest => by
    simp only [fillS] at h
    split at h
    · rename_i off size hp
      cases hb : Nat.beq vs.length size && Nat.ble (off + size) cells.length with
      | false => rw [hb] at h; simp at h
      | true =>
        rw [hb] at h
        simp only [cond_true] at h
        simp only [Bool.and_eq_true] at hb
        have e1 : vs.length = size := Nat.eq_of_beq_eq_true hb.1
        have e2 : off + size ≤ cells.length := Nat.le_of_ble_eq_true hb.2
        have l1 := hv.length
        have l2 := hr.length
        have hsz : v.cells.size = size := by simp at l1; omega
        have hcur : cells.length = cur.size := by simp at l2; omega
        have hf := foldl_set off v.cells.toList 0 cur (by simp; omega)
        have hz : (v.cells.zipIdx.foldl (fun cs (x : Value × Nat) => cs.setIfInBounds (off + x.2) x.1) cur) = (v.cells.toList.zipIdx.foldl (fun cs (x : Value × Nat) => cs.setIfInBounds (off + x.2) x.1) cur) := by
          rw [← Array.foldl_toList, Array.toList_zipIdx]
        have hl : v.cells.toList.length = size := by simp [hsz]
        simp only [Nat.add_zero, hl] at hf
        obtain ⟨r, g1, g2, g3⟩ := fill_rd (cur := v.cells.zipIdx.foldl (fun cs (x : Value × Nat) => cs.setIfInBounds (off + x.2) x.1) cur) h (by
            rw [hz, hf]; exact ((hr.take off).append hv).append (hr.drop (off + size))) (by
            rw [hz, hf]
            intro u hu
            simp only [List.mem_append] at hu
            rcases hu with (hu | hu) | hu
            · exact h1 u (List.mem_of_mem_take hu)
            · exact ho u hu
            · exact h1 u (List.mem_of_mem_drop hu)) hrest
        refine ⟨r, ?_, g2, g3⟩
        simp only [Instr.fill, hp]
        rw [if_neg (by simp [hsz]; omega)]
        exact g1
    · cases h
end Go.Proofs.YtmjkflppajienaaDoor.R
