/- Rows of bytes behind a pointer (strings.Builder), and variables whose rows are appended to; no condition but the typed premises. -/
import Derived.Test.YtmjkflppajienaaDoorR4
namespace Go.Proofs.YtmjkflppajienaaDoor.R
open Go Go.RowKit
set_option linter.unusedVariables false
set_option linter.unusedSimpArgs false

theorem strCells_rdb {w : World} {F : Fz} (s : ByteArray) : RdL w F (Lib.strCells s) ((s.data.toList.map (Ty.enc .u)).flatMap PV.cells) := by
  have key : ∀ l : List UInt8, RdL w F (l.map fun b => Value.int .u8 b.toNat) ((l.map (Ty.enc .u)).flatMap PV.cells) := by
    intro l
    induction l with
    | nil => exact .nil
    | cons b l ih => rw [List.map_cons, List.map_cons, List.flatMap_cons]; exact .cons rfl (.s _) ih
  exact key s.data.toList
theorem bf_mk {w : World} {F : Fz} {m : Mp} {e j b cap n : Nat} {cur : Array Value} {xs : List UInt8} (hn : xs.length = n) (hr : RdC w F b 0 ((xs.map (Ty.enc .u)).flatMap PV.cells)) (hm : m j = .tail b n) (hb : w.heap[b]? = some (.cells cur e (0, 0))) (hc : n ≤ cap) (hcm : cap ≤ maxLen) (hs : cur.size = cap) :
    RdS w F m (.slice (some ⟨b, 0, none⟩) n cap) (.bf e xs j) := by subst hn; exact .bf hr hm hb hc hcm hs
theorem flat_b : ∀ xs : List UInt8, ((xs.map (Ty.enc .u)).flatMap PV.cells).length = xs.length
  | [] => rfl
  | x :: xs => by rw [List.map_cons, List.flatMap_cons, List.length_append, flat_b xs, List.length_cons, Nat.add_comm]; rfl

section
variable {bs : Nat → Nat} {P : Program} {T : Tab} {nt : Nat} {E E1 : Env} {h h1 : List Ob} {Q : QB} {o : Oper} {i d : Nat} {ops : Array Oper}

/-- What append of a text does to a row of bytes. -/
theorem append_tk_bf (hT : TOk P T) {t u ty e : Nat} {ei : TI} (ht : P.underlying t = some (.slice e)) (hu : P.underlying u = some .string) (he : T e = some ei) (hs1 : ei.size = 1) {w : World} {F : Fz} {m : Mp} (sim : Sim bs w F m h) {v : Value} {xs : List UInt8} {j : Nat} {s : ByteArray}
    (hv : RdS w F m v (.bf e xs j)) (hb0 : 0 < ei.bytes) (hb : (xs.length + s.size) * ei.bytes ≤ 140737488355328) :
    ∃ v' w' F' p, (Builtin.append_ #[t, u] ty #[v, .string s]).run P w = .ok v' w' ∧ Tk w F m j w' F' p ∧ RdS w' F' (upd m j p) v' (.bf e (xs ++ s.data.toList) j) := by
  obtain ⟨inf, z, hi, hi1, hi2, hz, hzc⟩ := (hT e ei he).zeros
  have hsl : s.data.toList.length = s.size := Array.length_toList
  have hmax : xs.length + s.size ≤ 140737488355328 := by
    have : (xs.length + s.size) * 1 ≤ (xs.length + s.size) * ei.bytes := Nat.mul_le_mul_left _ hb0
    omega
  have hscl : (Lib.strCells s).length = s.size := Lib.strCells_length s
  have hlen : (xs ++ s.data.toList).length = xs.length + s.size := by rw [List.length_append, hsl]
  have hscr : ∀ (w : World) (F : Fz), RdL w F (Lib.strCells s) ((s.data.toList.map (Ty.enc .u)).flatMap PV.cells) := fun w F => strCells_rdb s
  have hzs : z.cells.size = 1 := by
    have := congrArg List.length hzc
    have h2 := Nat.eq_of_beq_eq_true (hT e ei he).zl
    simp at this
    omega
  -- it grows into a new block
  have grow : ∀ (cap : Nat) (olds : List Value), RdL w F olds ((xs.map (Ty.enc .u)).flatMap PV.cells) →
      (Builtin.append_ #[t, u] ty #[v, .string s]).run P w = .ok (.slice (some ⟨w.heap.size, 0, none⟩) (xs.length + s.size) (grownCap w (xs.length + s.size) cap e))
        (w.drew.alloc (.cells (olds.toArray ++ (Lib.strCells s).toArray ++ Builtin.zeroCells z.cells (grownCap w (xs.length + s.size) cap e - (xs.length + s.size))) e)) →
      ∃ v' w' F' p, (Builtin.append_ #[t, u] ty #[v, .string s]).run P w = .ok v' w' ∧ Tk w F m j w' F' p ∧ RdS w' F' (upd m j p) v' (.bf e (xs ++ s.data.toList) j) := by
    intro cap olds holds hrun
    have hol : olds.length = xs.length := by rw [holds.length, flat_b]
    have hge := grownCap_ge w (xs.length + s.size) cap e
    have hcm : grownCap w (xs.length + s.size) cap e ≤ maxLen := grownCap_le_maxLen w _ cap e (by simp only [maxLen]; omega)
    have ext : Ext w F (w.drew.alloc (.cells (olds.toArray ++ (Lib.strCells s).toArray ++ Builtin.zeroCells z.cells (grownCap w (xs.length + s.size) cap e - (xs.length + s.size))) e))
        (fun b i => F b i ∨ (b = w.heap.size ∧ i < xs.length + s.size)) := fun b i h => ⟨.inl h, cell_of_heap (Below.heap_alloc w.drew _ b (sim.fl b i h))⟩
    refine ⟨_, _, fun b i => F b i ∨ (b = w.heap.size ∧ i < xs.length + s.size), .tail w.heap.size (xs.length + s.size), hrun,
      ⟨rfl, rfl, rfl, by simp, ext, fun b hb _ => Below.heap_alloc w.drew _ b hb, fun b o hF => ?_, fun b o hh => ?_, fun b o hF hh => ?_, fun b h => by cases h⟩, ?_⟩
    · rcases hF with h | ⟨rfl, h⟩
      · exact .inl h
      · exact .inr (.inl ⟨Nat.le_refl _, by simp⟩)
    · obtain ⟨rfl, _⟩ := hh
      exact .inl ⟨Nat.le_refl _, by simp⟩
    · obtain ⟨rfl, hh⟩ := hh
      rcases hF with h | ⟨_, h⟩
      · exact absurd (sim.fl _ _ h) (Nat.lt_irrefl _)
      · omega
    · refine bf_mk hlen ?_ upd_same (heap_alloc_new w.drew _) hge hcm ?_
      · rw [List.map_append, List.flatMap_append]
        refine RdC.of_vals (vs := olds ++ Lib.strCells s) ((holds.append (hscr _ _)).ext ext) (fun k x hk => ?_) fun k hk => .inr ⟨rfl, ?_⟩
        · rw [Nat.zero_add, show w.heap.size = w.drew.heap.size from rfl, World.cell?_alloc_new]
          have hlt := (List.getElem?_eq_some_iff.1 hk).1
          rw [Array.getElem?_append_left (by simpa using hlt)]
          simpa using hk
        · rw [List.length_append, flat_b, flat_b, hsl] at hk
          omega
      · simp only [Array.size_append, List.size_toArray, size_zeroCells, hol, hscl, hzs]
        omega
  cases hv with
  | bf0 hm =>
    by_cases h0 : s.size = 0
    · have hn : s.data.toList = [] := List.eq_nil_of_length_eq_zero (by omega)
      rw [hn, List.append_nil]
      have hf := Lib.run_firstCells_string (P := P) w 1 s
      have hsc : Lib.strCells s = [] := List.eq_nil_of_length_eq_zero (by omega)
      rw [h0, hsc] at hf
      refine ⟨.slice none 0 0, w, F, m j, ?_, ⟨rfl, rfl, rfl, Nat.le_refl _, Ext.refl w F, fun _ _ _ => rfl, fun b o h => .inl h, fun b o h => .inr h, fun b o hF => sim.fr j b o hF, fun b h => by rw [hm] at h; cases h⟩, .bf0 (by rw [upd_same]; exact hm)⟩
      simp [Builtin.append_, run_underlying ht, run_underlying hu, sizeOf, typeInfo, hi, hi1, hs1, Builtin.lenOf, h0, hf]
    · refine grow 0 [] .nil ?_
      have hr := run_append_nil_string (P := P) w t u ty e inf z ht hu hi hz s (by omega) (by omega) (by rw [hi2]; simp only [List.length_nil, Nat.zero_add] at hb; omega)
      have e1 : (s.data.map fun b => Value.int .u8 b.toNat) = (Lib.strCells s).toArray := by
        apply Array.ext'
        simp [Lib.strCells]
      rw [e1] at hr
      simpa using hr
  | @bf _ _ b cap cur _ hr hm hb' hc hcm hsz =>
    obtain ⟨olds, g1, g2, g3⟩ := hr.vals
    have hol : olds.length = xs.length := by rw [g1, flat_b]
    by_cases hroom : xs.length + s.size ≤ cap
    · have hrun := Lib.run_append_room_string (P := P) w t u ty e inf ht hu hi (by rw [hi1]; exact hs1) b xs.length cap cur hb' s hroom (by omega)
      have hFo : ∀ o, F b o → o < xs.length := fun o hF => by
        have := sim.fr j b o hF
        rw [hm] at this
        exact Nat.lt_of_not_le fun h => this ⟨rfl, h⟩
      have hold : ∀ o, o < xs.length → (cur.toList.take xs.length ++ Lib.strCells s ++ cur.toList.drop (xs.length + s.size)).toArray[o]? = cur[o]? := by
        intro o ho
        rw [List.getElem?_toArray, List.append_assoc, List.getElem?_append_left (by simp; omega), List.getElem?_take_of_lt ho]
        simp
      have ext : Ext w F (w.setRow b (cur.toList.take xs.length ++ Lib.strCells s ++ cur.toList.drop (xs.length + s.size)).toArray)
          (fun b' i => F b' i ∨ (b' = b ∧ xs.length ≤ i ∧ i < xs.length + s.size)) := fun b' i h => ⟨.inl h, peek_row hb' (by
        by_cases hbb : b' = b
        · subst hbb
          rw [cell_setRow_same w b' i cur _ e (0, 0) hb', hold i (hFo i h), cell_of_row w b' i cur e (0, 0) hb']
        · exact cell_setRow_other w b _ _ hbb)⟩
      refine ⟨_, _, fun b' i => F b' i ∨ (b' = b ∧ xs.length ≤ i ∧ i < xs.length + s.size), .tail b (xs.length + s.size), hrun,
        ⟨rfl, rfl, rfl, by simp, ext, fun b' hb _ => setRow_other w b b' _ (by rintro rfl; simp [hm, Pl.blk] at *), fun b' o hF => ?_, fun b' o hh => ?_, fun b' o hF hh => ?_, fun b h => by cases h⟩, ?_⟩
      · rcases hF with h | ⟨rfl, h, _⟩
        · exact .inl h
        · rw [hm]; exact .inr (.inr ⟨rfl, h⟩)
      · obtain ⟨rfl, hh⟩ := hh
        rw [hm]
        exact .inr ⟨rfl, by omega⟩
      · obtain ⟨rfl, hh⟩ := hh
        rcases hF with h | ⟨_, _, h⟩
        · have := hFo o h; omega
        · omega
      · refine bf_mk hlen ?_ upd_same (setRow_heap w b cur _ e _ hb') hroom hcm ?_
        · rw [List.map_append, List.flatMap_append]
          refine RdC.append ?_ ?_
          · exact hr.ext ext
          · rw [Nat.zero_add, flat_b]
            refine RdC.of_vals (vs := Lib.strCells s) ((hscr _ _).ext ext) (fun k x hk => ?_) fun k hk => .inr ⟨rfl, by omega, ?_⟩
            · rw [cell_setRow_same w b _ cur _ e (0, 0) hb', List.getElem?_toArray]
              have hlt := (List.getElem?_eq_some_iff.1 hk).1
              have htl : (cur.toList.take xs.length).length = xs.length := by simp; omega
              rw [List.append_assoc, List.getElem?_append_right (by omega), htl, Nat.add_sub_cancel_left, List.getElem?_append_left hlt]
              exact hk
            · rw [flat_b, hsl] at hk
              omega
        · simp only [List.size_toArray, List.length_append, List.length_take, List.length_drop, Array.length_toList, hscl]
          omega
    · refine grow cap olds g3 ?_
      exact Lib.run_append_grow_string (P := P) w t u ty e inf z ht hu hi hz _ xs.length cap olds (by rw [hol, hi1, hs1, Nat.mul_one]) (fun k x hk => by rw [Addr.add_lit]; exact g2 k x hk) s (by omega) (by omega)
        (growslice_fits (by omega) (by rw [hi2]; exact hb))

/-- The text of bytes. -/
def bmk (xs : List UInt8) : ByteArray := ⟨xs.toArray⟩
/-- A text behind bytes; none beyond what memory bears. -/
def bcat (xs : List UInt8) (s : ByteArray) : Option (List UInt8) := if xs.length + s.size ≤ 140737488355328 then some (xs ++ s.data.toList) else none
theorem xpb (hT : TOk P T) {j e : Nat} {c : Call} {x y : Operand} {t u : Nat} {ei : TI} {xs r : List UInt8} {s : ByteArray} (hx : bcat xs s = some r) (ho : ops[i]? = some o) (hop : o.op = .call c) (hg : o.guard = none) (hc : c.callee = .builtin .append) (ha : c.args.toList = [x, y]) (hts : c.argTypes.toList = [t, u]) (hd : o.dst = some d)
    (hk : kOf T t = .sl e) (hk' : kOf T u = .str) (he : T e = some ei) (hs1 : Nat.beq ei.size 1 = true) (hb1 : Nat.beq ei.bytes 1 = true) (hok : dstOk nt E [] (some d) = true) (hlx : look E [] x = some (.bf e xs j)) (hly : look E [] y = some (vs s))
    (hj : Nat.blt j h.length = true) (hW : WL P nt ops (i + 1) ((d, [], SV.bf e r j) :: stripE j E) (stripO j h) Q) : WL P nt ops i E h Q := by
  unfold bcat at hx
  split at hx
  case isFalse => cases hx
  rename_i hb
  simp only [Option.some.injEq] at hx
  subst hx
  have hs1 := Nat.eq_of_beq_eq_true hs1
  have hb1 := Nat.eq_of_beq_eq_true hb1
  refine WL_op ho hg fun {bs} a w F m hr N Q hN => ?_
  have hO := hr.opd (Tags.nil a) o
  obtain ⟨ti, hti, htk⟩ := kOf_ti (T := T) (t := t) (by rw [hk]; simp)
  have ht := (hT t ti hti).slice (htk.trans hk)
  obtain ⟨ui, hui, huk⟩ := kOf_ti (T := T) (t := u) (by rw [hk']; simp)
  have hu := (hT u ui hui).string (huk.trans hk')
  have hmx : x ∈ o.op.operands := by rw [hop]; exact Array.mem_append.2 (.inr (Array.mem_toList_iff.1 (by rw [ha]; simp)))
  have hmy : y ∈ o.op.operands := by rw [hop]; exact Array.mem_append.2 (.inr (Array.mem_toList_iff.1 (by rw [ha]; simp)))
  have rx := hO.rd hmx hlx
  have ry := rd_s (hO.rd hmy hly)
  obtain ⟨v', w', F', p, g1, g2, g3⟩ := append_tk_bf hT ht hu he hs1 (ty := o.type) hr.sim (s := s) rx (by omega) (by rw [hb1, Nat.mul_one]; exact hb)
  have hargs : c.args = #[x, y] := by cases hca : c.args; simp [hca] at ha; simp [ha]
  have hat : c.argTypes = #[t, u] := by cases hca : c.argTypes; simp [hca] at hts; simp [hts]
  have hno : ∀ b, m j ≠ .obj b := by
    intro b hbo
    revert rx
    generalize a.eval x = vx
    intro rx
    cases rx with
    | bf0 hm => rw [hm] at hbo; cases hbo
    | bf hr hm => rw [hm] at hbo; cases hbo
  obtain ⟨r1, r2⟩ := hr.retok hno (of_blt hj) hok g2 g3
  unfold Oper.wp
  have hrun : (execOp a.eval o).run P w = .ok (.value v') w' := by simp [execOp, hop, resolve, hc, invoke, builtin, hargs, hat, ry, g1]
  rw [hrun]
  simp only [Oper.upon, hd]
  exact hN _ _ _ _ _ _ hW r1 r2

end
section
variable {bs : Nat → Nat} {P : Program} {T : Tab} {nt : Nat} {E E1 : Env} {h h1 : List Ob} {Q : QB} {o : Oper} {i d : Nat} {ops : Array Oper}
/-! ### A builder of its own -/
/-- Room for a row's spare cells, told beside the rest. -/
theorem Rel.addTail {w : World} {F : Fz} {m : Mp} {a : Act} {j : Nat} (hr : Rel bs nt w F m E h a) (hj : h.length = j) : Rel bs nt w F (upd m j .no) E (h ++ [.tail]) a ∧ Gr w F m w F (upd m j .no) := by
  subst hj
  have sim := hr.sim
  have hfree : m h.length = .free := sim.dom _ (Nat.le_refl _)
  have hsame : ∀ i, m i ≠ .free → Same w m w (upd m h.length .no) i := fun i hi => ⟨upd_other (by rintro rfl; exact hi hfree), fun _ _ _ => rfl⟩
  have hoth : ∀ {i b}, (upd m h.length .no i).blk = some b → (m i).blk = some b := fun {i b} hi => by
    by_cases hij : i = h.length
    · subst hij; rw [upd_same] at hi; simp [Pl.blk] at hi
    · rwa [upd_other hij] at hi
  refine ⟨⟨hr.size, hr.defers.same fun i D h1 h2 h3 _ => ?_, fun t tg s ht => (hr.env t tg s ht).imp (fun h => ⟨h.1, h.2.keep (Ext.refl _ _) fun i _ hi => hsame i hi⟩) id, ?_⟩, ⟨rfl, rfl, rfl, Nat.le_refl _, Ext.refl _ _, fun _ _ _ => rfl, fun i b o hh _ => ?_, fun b o hF => .inl hF⟩⟩
  · have hlt := (List.getElem?_eq_some_iff.1 h1).1
    exact ⟨by rw [List.getElem?_append_left hlt]; exact h1, (upd_other (by omega)).trans h2, rfl⟩
  · have get : ∀ {i : Nat} {o : Ob}, (h ++ [Ob.tail])[i]? = some o → (i < h.length ∧ h[i]? = some o) ∨ (i = h.length ∧ o = .tail) := fun {i o} hi => by
      have hlt := (List.getElem?_eq_some_iff.1 hi).1
      simp at hlt
      by_cases hij : i = h.length
      · subst hij; rw [List.getElem?_concat_length] at hi; exact .inr ⟨rfl, (Option.some.inj hi).symm⟩
      · rw [List.getElem?_append_left (by omega)] at hi; exact .inl ⟨by omega, hi⟩
    refine ⟨sim.fl, fun i b hi => sim.lt i b (hoth hi), fun i b o hF hh => ?_, fun i k b hi hk => sim.inj i k b (hoth hi) (hoth hk), fun i hi => ?_, fun i o hi ho => ?_, fun i hi b => ?_, fun k i hi => ?_, sim.kn⟩
    · by_cases hij : i = h.length
      · subst hij; rw [upd_same] at hh; exact hh
      · rw [upd_other hij] at hh; exact sim.fr i b o hF hh
    · simp at hi; rw [upd_other (by omega)]; exact sim.dom i (by omega)
    · rcases get hi with ⟨hl, h1⟩ | ⟨_, rfl⟩
      · obtain ⟨b, x, g1, g2, g3⟩ := sim.obj i o h1 ho
        exact ⟨b, x, (upd_other (by omega)).trans g1, g2, g3.keep (Ext.refl _ _) fun i _ hi => hsame i hi⟩
      · cases ho
    · rcases get hi with ⟨hl, h1⟩ | ⟨h1, _⟩
      · rw [upd_other (by omega)]; exact sim.tl i h1 b
      · subst h1; rw [upd_same]; exact fun h => by cases h
    · rcases get hi with ⟨hl, h1⟩ | ⟨_, h1⟩
      · have h2 := sim.pn k i h1
        exact (upd_other (by rintro rfl; rw [hfree] at h2; cases h2)).trans h2
      · cases h1
  · by_cases hij : i = h.length
    · subst hij; rw [upd_same] at hh; exact hh.elim
    · rw [upd_other hij] at hh; exact ⟨i, hh⟩
/-- Nowhere, n from a on. -/
def noM (m : Mp) (a n : Nat) : Mp := fun k => if a ≤ k ∧ k < a + n then .no else m k
theorem noM_in {m : Mp} {a n k : Nat} (h : a ≤ k) (h' : k < a + n) : noM m a n k = .no := by simp [noM, h, h']
theorem Rel.addTails {w : World} {F : Fz} {a : Act} : ∀ (n : Nat) {h : List Ob} {m : Mp}, Rel bs nt w F m E h a → Rel bs nt w F (noM m h.length n) E (h ++ List.replicate n .tail) a ∧ Gr w F m w F (noM m h.length n)
  | 0, h, m, hr => by
    have e : noM m h.length 0 = m := by funext k; simp only [noM]; rw [if_neg (by omega)]
    rw [e]
    exact ⟨by simpa using hr, Gr.refl _ _ _⟩
  | n + 1, h, m, hr => by
    obtain ⟨q1, q2⟩ := hr.addTail rfl
    obtain ⟨r1, r2⟩ := Rel.addTails n q1
    have e : noM (upd m h.length .no) (h ++ [Ob.tail]).length n = noM m h.length (n + 1) := by
      funext k
      simp only [noM, List.length_append, List.length_singleton]
      by_cases hk : k = h.length
      · subst hk; rw [if_neg (by omega), if_pos (by omega), upd_same]
      · by_cases h2 : h.length + 1 ≤ k ∧ k < h.length + 1 + n
        · rw [if_pos h2, if_pos (by omega)]
        · rw [if_neg h2, if_neg (by omega), upd_other hk]
    rw [e] at r1 r2
    refine ⟨by simpa [List.replicate_succ] using r1, q2.trans r2⟩

/-- The slice that begins at a cell of a type. -/
def slAt (T : Tab) (t i : Nat) : Option Nat := match kOf T t with
  | .sl e => bif Nat.beq i 0 then some e else none
  | .st fs => fs.findSome? fun x => bif Nat.beq x.1 i then (match kOf T x.2 with | .sl e => some e | _ => none) else none
  | _ => none
/-- The rows that it may be. -/
def slT (T : Tab) (t i : Nat) : Option (Nat × Nat × Ty) := match slAt T t i with
  | some e => match T e with
    | some ei => match ei.ty with
      | some τ => some (e, ei.size, τ)
      | none => none
    | none => none
  | none => none
/-- The cells of a new variable whose rows are appended to: j is the first token, o the variable's own number. -/
def ownB (T : Tab) (t o : Nat) : Nat → Nat → List SV → List SV
  | _, _, [] => []
  | i, j, s :: l => match s with
    | .p (.s (.slice none 0 0)) => match slT T t i with
      | some (e, n, τ) => .own e n τ [] j :: ownB T t o (i + 1) (j + 1) l
      | none => s :: ownB T t o (i + 1) j l
    | .p (.s (.pointer none)) => .np o 0 :: ownB T t o (i + 1) j l
    | s => s :: ownB T t o (i + 1) j l
def cntB (T : Tab) (t : Nat) : Nat → List SV → Nat
  | _, [] => 0
  | i, s :: l => match s with
    | .p (.s (.slice none 0 0)) => match slT T t i with
      | some _ => cntB T t (i + 1) l + 1
      | none => cntB T t (i + 1) l
    | _ => cntB T t (i + 1) l
theorem ownB_rd {w : World} {F : Fz} {m : Mp} {t k : Nat} : ∀ {l : List SV} {vs : List Value} {i j : Nat}, RdSL w F m vs l → (∀ x, j ≤ x → x < j + cntB T t i l → m x = .no) → RdSL w F m vs (ownB T t k i j l)
  | [], vs, i, j, h, _ => by cases h; exact .nil
  | s :: l, _, i, j, .cons hs h, hm => by
    unfold ownB
    unfold cntB at hm
    split
    · simp only at hm
      split
      · rename_i e n τ he
        rw [he] at hm
        dsimp only at hm
        have hv := rd_s hs
        subst hv
        exact .cons (.own0 (hm j (Nat.le_refl _) (by omega))) (ownB_rd h fun x hx hx' => hm x (by omega) (by omega))
      · rename_i he
        rw [he] at hm
        dsimp only at hm
        exact .cons hs (ownB_rd h hm)
    · have hv := rd_s hs
      subst hv
      exact .cons .np0 (ownB_rd h hm)
    · rename_i h2 h3
      refine .cons hs (ownB_rd h fun x hx hx' => hm x hx ?_)
      split
      · exact absurd rfl h2
      · exact hx'
variable {β : Type} {r : β}
/-- Is it a row of bytes behind a pointer of its own? -/
def isBu (T : Tab) (t : Nat) : List SV → Option Nat
  | [.p (.s (.pointer none)), .p (.s (.slice none 0 0))] => match slT T t 1 with
    | some (e, 1, .i .u8) => some e
    | _ => none
  | _ => none
def eNew (T : Tab) (nt t : Nat) (cs : List SV) (d : Nat) (E : Env) (h : List Ob) (K : Env → List Ob → Option β) : Option β := match isBu T t cs with
  | some e => K ((d, [], .ptr (h.length + 1) 0) :: E) (h ++ [.tail, .cells t [.np (h.length + 1) 0, .bf e [] h.length]])
  | none => K ((d, [], .ptr (h.length + cntB T t 0 cs) 0) :: E) (h ++ List.replicate (cntB T t 0 cs) .tail ++ [.cells t (ownB T t (h.length + cntB T t 0 cs) 0 h.length cs)])
theorem isBu_eq {t e : Nat} {cs : List SV} (h : isBu T t cs = some e) : cs = [.p (.s (.pointer none)), .p (.s (.slice none 0 0))] := by
  unfold isBu at h
  split at h
  · rfl
  · cases h
theorem eNew_ok {t : Nat} {cs : List SV} {K : Env → List Ob → Option β} {d : Nat} {R : Env → List Ob → Prop} (hok : dstOk nt E [] (some d) = true) (hr : eNew T nt t cs d E h K = some r) (hK : ∀ E' h', K E' h' = some r → R E' h')
    {a : Act} {w : World} {F : Fz} {m : Mp} {cells : Array Value} (hrel : Rel bs nt w F m E h a) (hc : RdSL w F m cells.toList cs) (h1 : ∀ v ∈ cells.toList, v.oneCell' = true) :
    ∃ E' h' m', R E' h' ∧ Rel bs nt (w.alloc (.cells cells t)) F m' E' h' (a.put (some d) (.pointer (some ⟨w.heap.size, 0, none⟩))) ∧ Gr w F m (w.alloc (.cells cells t)) F m' := by
  have sim := hrel.sim
  have hext : Ext w F (w.alloc (.cells cells t)) F := fun b o hF => ⟨hF, cell_of_heap (Below.heap_alloc w _ b (sim.fl b o hF))⟩
  unfold eNew at hr
  split at hr
  · rename_i e he
    obtain rfl := isBu_eq he
    have hv : cells.toList = [.pointer none, .slice none 0 0] := by
      revert hc
      generalize cells.toList = l
      intro hc
      cases hc with
      | cons h0 hc =>
        cases hc with
        | cons h1 hc => cases hc; rw [rd_s h0, rd_s h1]
    obtain ⟨q1, q2⟩ := hrel.addTail rfl
    obtain ⟨r1, r2⟩ := q1.new (ob := .cells t [.np (h.length + 1) 0, .bf e [] h.length]) (v := .pointer (some ⟨w.heap.size, 0, none⟩)) (j := h.length + 1) (d := d) (by simp) hok (Nw.alloc q1.sim.fl (.cells cells t))
      ⟨w.heap.size, .cells cells t, rfl, heap_alloc_new w _, .cells (by
        rw [hv]
        exact .cons .np0 (.cons (.bf0 (by rw [upd_other (by omega), upd_same])) .nil)) h1⟩ (s := .ptr (h.length + 1) 0) (.ptr upd_same)
    exact ⟨_, _, _, hK _ _ hr, by simpa using r1, q2.trans r2⟩
  · obtain ⟨q1, q2⟩ := hrel.addTails (cntB T t 0 cs)
    have hlen : (h ++ List.replicate (cntB T t 0 cs) Ob.tail).length = h.length + cntB T t 0 cs := by simp
    have hfree : ∀ i, h.length ≤ i → m i = .free := fun i hi => sim.dom i hi
    have hc2 : RdSL (w.alloc (.cells cells t)) F (upd (noM m h.length (cntB T t 0 cs)) (h.length + cntB T t 0 cs) (.obj w.heap.size)) cells.toList cs := hc.keep hext fun i hi hne => by
      have hlt : i < h.length := Nat.lt_of_not_le fun h => hne (hfree i h)
      refine ⟨?_, fun b lo hb => Below.heap_alloc w _ b (sim.lt i b (by simp [hb, Pl.blk]))⟩
      rw [upd_other (by omega)]
      simp only [noM]
      rw [if_neg (by omega)]
    have hc3 := ownB_rd (T := T) (t := t) (k := h.length + cntB T t 0 cs) (i := 0) (j := h.length) hc2 fun x hx hx' => by rw [upd_other (by omega)]; exact noM_in hx hx'
    obtain ⟨r1, r2⟩ := q1.new (ob := .cells t (ownB T t (h.length + cntB T t 0 cs) 0 h.length cs)) (v := .pointer (some ⟨w.heap.size, 0, none⟩)) (j := h.length + cntB T t 0 cs) (d := d) hlen hok (Nw.alloc q1.sim.fl (.cells cells t))
      ⟨w.heap.size, .cells cells t, rfl, heap_alloc_new w _, .cells hc3 h1⟩ (s := .ptr (h.length + cntB T t 0 cs) 0) (.ptr upd_same)
    exact ⟨_, _, _, hK _ _ hr, r1, q2.trans r2⟩
def eAllocO (T : Tab) (nt t : Nat) (d : Option Nat) (E : Env) (h : List Ob) (K : Env → List Ob → Option β) : Option β := match d, T t with
  | some d, some ti => bif dstOk nt E [] (some d) then eNew T nt t (ti.zero.map .p) d E h K else none
  | _, _ => none
theorem eAllocO_ok (hT : TOk P T) {t : Nat} {K : Env → List Ob → Option β} (hoi : ops[i]? = some o) (hg : o.guard = none) (ho : o.op = .alloc t)
    (hr : eAllocO T nt t o.dst E h K = some r) (hK : ∀ E' h', K E' h' = some r → WL P nt ops (i + 1) E' h' Q) : WL P nt ops i E h Q := by
  unfold eAllocO at hr
  split at hr
  · rename_i d ti hd ht
    obtain ⟨hok, hr⟩ := bif_some hr
    have hti := hT t ti ht
    obtain ⟨inf, z, hi, hi1, hi2, hz', hzc⟩ := hti.zeros
    refine WL_op hoi hg fun {bs} a w F m hrel N Q hN => ?_
    obtain ⟨g1, g2⟩ := zero_rd (w := w) (F := F) (m := m) hti.zok
    rw [← hzc] at g1 g2
    obtain ⟨E', h', m', k1, k2, k3⟩ := eNew_ok hok hr hK hrel g1 g2
    unfold Oper.wp
    have hrun : (execOp a.eval o).run P w = .ok (.value (.pointer (some ⟨w.heap.size, 0, none⟩))) (w.alloc (.cells z.cells t)) := by simp [execOp, ho, Instr.alloc, zeroValue, typeInfo, hi, hz', newVar, newRow]
    rw [hrun]
    simp only [Oper.upon, hd]
    exact hN _ _ _ _ _ _ k1 k2 k3
  · cases hr
def eBoxO (T : Tab) (nt t : Nat) (x : Operand) (d : Option Nat) (E : Env) (h : List Ob) (K : Env → List Ob → Option β) : Option β := match d, look E [] x with
  | some d, some s => match scells (coS (T t) s) with
    | some cs => bif dstOk nt E [] (some d) then eNew T nt t cs d E h K else none
    | none => none
  | _, _ => none
theorem eBoxO_ok {t : Nat} {x : Operand} {K : Env → List Ob → Option β} (hoi : ops[i]? = some o) (hg : o.guard = none) (ho : o.op = .box t x)
    (hr : eBoxO T nt t x o.dst E h K = some r) (hK : ∀ E' h', K E' h' = some r → WL P nt ops (i + 1) E' h' Q) : WL P nt ops i E h Q := by
  unfold eBoxO at hr
  split at hr
  · rename_i d s hd hx
    split at hr
    · rename_i cs hc
      obtain ⟨hok, hr⟩ := bif_some hr
      refine WL_op hoi hg fun {bs} a w F m hrel N Q hN => ?_
      have rx := (hrel.opd (Tags.nil a) o).rd (by simp [ho, Op.operands]) hx
      obtain ⟨g1, g2⟩ := scells_rd hc (coS_rd (i := T t) rx)
      obtain ⟨E', h', m', k1, k2, k3⟩ := eNew_ok hok hr hK hrel g1 g2
      unfold Oper.wp
      have hrun : (execOp a.eval o).run P w = .ok (.value (.pointer (some ⟨w.heap.size, 0, none⟩))) (w.alloc (.cells (a.eval x).cells t)) := by simp [execOp, ho, Instr.box, newVar, newRow]
      rw [hrun]
      simp only [Oper.upon, hd]
      exact hN _ _ _ _ _ _ k1 k2 k3
    · cases hr
  · cases hr
def eAppB (T : Tab) (nt : Nat) (c : Call) (d : Option Nat) (E : Env) (h : List Ob) (K : Env → List Ob → Option β) : Option β := match d, c.args.toList, c.argTypes.toList with
  | some d, [x, y], [t, u] => match kOf T t, kOf T u, look E [] x, look E [] y with
    | .sl e, .str, some (.bf e2 xs j), some (.p (.s (.string s))) => match T e with
      | some ei => bif Nat.beq e2 e && Nat.beq ei.size 1 && Nat.beq ei.bytes 1 && Nat.blt j h.length && dstOk nt E [] (some d) then
            (bcat xs s).bind fun (zs : List UInt8) => K ((d, [], .bf e zs j) :: stripE j E) (stripO j h) else none
      | none => none
    | _, _, _, _ => none
  | _, _, _ => none
theorem eAppB_ok (hT : TOk P T) {c : Call} {K : Env → List Ob → Option β} (hoi : ops[i]? = some o) (hg : o.guard = none) (ho : o.op = .call c) (hc : c.callee = .builtin .append)
    (hr : eAppB T nt c o.dst E h K = some r) (hK : ∀ E' h', K E' h' = some r → WL P nt ops (i + 1) E' h' Q) : WL P nt ops i E h Q := by
  unfold eAppB at hr
  split at hr
  · rename_i d x y t u hd ha hts
    split at hr
    · rename_i e e2 xs j s hk hk' hlx hly
      split at hr
      · rename_i ei he
        obtain ⟨h1, hr⟩ := bif_some hr
        simp only [Bool.and_eq_true] at h1
        obtain ⟨⟨⟨⟨h1, h2⟩, h3⟩, h4⟩, h5⟩ := h1
        obtain ⟨zs, hz, hr⟩ := bd hr
        obtain rfl := Nat.eq_of_beq_eq_true h1
        exact xpb hT hz hoi ho hg hc ha hts hd hk hk' he h2 h3 h5 hlx hly h4 (hK _ _ hr)
      · cases hr
    · cases hr
  · cases hr
end
end Go.Proofs.YtmjkflppajienaaDoor.R
