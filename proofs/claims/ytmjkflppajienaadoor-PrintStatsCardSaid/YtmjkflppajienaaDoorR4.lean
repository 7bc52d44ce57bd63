/- Texts and rows of bytes: turned into one another, a text appended to bytes; variables whose rows are appended to; no condition but the typed premises. -/
import Derived.Test.YtmjkflppajienaaDoorRQ
import Derived.Test.YtmjkflppajienaaDoorRR
import Derived.Lib.AppendStr
import Derived.Laws.IdiomStrings
import Derived.Laws.BytesArg
namespace Go.Proofs.YtmjkflppajienaaDoor.R
open Go Go.RowKit
set_option linter.unusedVariables false
set_option linter.unusedSimpArgs false

/-- The bytes of a text, and back. -/
def strb (s : ByteArray) : List Int := s.data.toList.map fun b => ((b.toNat : Nat) : Int)
def bstr (xs : List Int) : ByteArray := ⟨(xs.map fun n => UInt8.ofNat n.toNat).toArray⟩
abbrev uT : Ty := .i .u8
theorem flat_u : ∀ xs : List Int, ((xs.map uT.enc).flatMap PV.cells) = xs.map fun x => .s (.int .u8 x)
  | [] => rfl
  | x :: xs => by rw [List.map_cons, List.flatMap_cons, flat_u xs]; rfl
theorem cells_u : ∀ (xs : List Int), ∀ x ∈ xs.map uT.enc, x.cells.length = 1 := fun xs x hx => by
  obtain ⟨y, _, rfl⟩ := List.mem_map.1 hx; rfl
theorem strCells_rd {w : World} {F : Fz} (s : ByteArray) : RdL w F (Lib.strCells s) (((strb s).map uT.enc).flatMap PV.cells) := by
  have key : ∀ l : List UInt8, RdL w F (l.map fun b => Value.int .u8 b.toNat) (((l.map fun b => ((b.toNat : Nat) : Int)).map uT.enc).flatMap PV.cells) := by
    intro l
    induction l with
    | nil => exact .nil
    | cons b l ih => rw [List.map_cons, List.map_cons, List.map_cons, List.flatMap_cons]; exact .cons rfl (.s _) ih
  exact key s.data.toList
theorem vals_u {w : World} {F : Fz} : ∀ {vs : List Value} {xs : List Int}, RdL w F vs (xs.map fun x => .s (.int .u8 x)) → vs = xs.map (Value.int .u8)
  | [], [], .nil => rfl
  | v :: vs, x :: xs, .cons _ h hs => by cases h; rw [vals_u hs]; rfl
theorem strb_length (s : ByteArray) : (strb s).length = s.size := by unfold strb; rw [List.length_map, Array.length_toList]; rfl

section
variable {bs : Nat → Nat} {P : Program} {T : Tab} {nt : Nat} {E : Env} {A : Tg} {h : List Ob} {Q : QB} {o : Oper} {s : SV} {i d : Nat} {ops : Array Oper} {β : Type} {r : β}
def pConv (T : Tab) (src dst : Nat) (x : Operand) (E : Env) (A : Tg) (K : SV → Option β) : Option β := match kOf T src, kOf T dst, look E A x with
  | .sl e, .str, some s => match kOf T e, pur s with
    | .int .u8, some (.sl 1 (.i .u8) xs) => K (vs (bstr xs))
    | .int .u8, some (.s (.slice none 0 0)) => K (vs ⟨#[]⟩)
    | _, _ => none
  | .str, .sl e, some (.p (.s (.string b))) => match kOf T e with
    | .int .u8 => K (.p (.sl 1 (.i .u8) (strb b)))
    | _ => none
  | _, _, _ => none
theorem pConv_ok (hT : TOk P T) {src dst : Nat} {x : Operand} {K : SV → Option β} (ho : o.op = .convert src dst x) (hr : pConv T src dst x E A K = some r) : ∃ s, (∀ h, Yld P o E A h s) ∧ K s = some r := by
  unfold pConv at hr
  split at hr
  · rename_i e s hks hkd hx
    obtain ⟨si, hsi, hsk⟩ := kOf_ti (T := T) (t := src) (by rw [hks]; simp)
    have hs := (hT src si hsi).slice (hsk.trans hks)
    obtain ⟨di, hdi, hdk⟩ := kOf_ti (T := T) (t := dst) (by rw [hkd]; simp)
    have hd := (hT dst di hdi).string (hdk.trans hkd)
    split at hr
    · rename_i xs hke hq
      obtain ⟨ei, hei, hek⟩ := kOf_ti (T := T) (t := e) (by rw [hke]; simp)
      have he := (hT e ei hei).int (hek.trans hke)
      refine ⟨_, fun h => .of_still fun a w F m hsim hO => ?_, hr⟩
      have rx := pur_rd hq (hO.rd (by simp [ho, Op.operands]) hx)
      revert rx
      generalize hv : a.eval x = v
      intro rx
      cases rx with
      | nil =>
        refine ⟨.string ByteArray.empty, ?_, .p (.s _)⟩
        simp [execOp, ho, hv, run_convert_bytes_nil w src e hs he 0 0 dst hd]
      | emp ad =>
        refine ⟨.string ByteArray.empty, ?_, .p (.s _)⟩
        have h0 : (loadCells ad 0).run P w = .ok (([] : List Int).map (Value.int .u8)).toArray w := by
          have := run_loadCells_list (P := P) w ad [] (fun j v hj => by simp at hj)
          simpa using this
        simp [execOp, ho, hv, run_convert_bytes_string w src dst e (some ad) 0 0 hs he hd, run_bytesToString w ad 0 0 [] h0]
      | @sl b off cap _ _ _ hn hc hrr =>
        obtain ⟨olds, g1, g2, g3⟩ := hrr.vals
        rw [flat_u] at g3
        obtain rfl := vals_u g3
        refine ⟨.string (bstr xs), ?_, .p (.s _)⟩
        have := run_convert_bytes_arg (P := P) w src e hs he b off xs.length cap xs rfl (fun i hi => g2 i _ (by
          rw [List.getElem?_map, List.getElem?_eq_getElem hi, List.getD_eq_getElem?_getD, List.getElem?_eq_getElem hi]; rfl)) dst hd
        simp [execOp, ho, hv, this]
        rfl
    · rename_i hke hq
      obtain ⟨ei, hei, hek⟩ := kOf_ti (T := T) (t := e) (by rw [hke]; simp)
      have he := (hT e ei hei).int (hek.trans hke)
      refine ⟨_, fun h => .of_still fun a w F m hsim hO => ?_, hr⟩
      have rx := pur_rd hq (hO.rd (by simp [ho, Op.operands]) hx)
      revert rx
      generalize hv : a.eval x = v
      intro rx
      cases rx
      refine ⟨.string ByteArray.empty, ?_, .p (.s _)⟩
      simp [execOp, ho, hv, run_convert_bytes_nil w src e hs he 0 0 dst hd]
    · cases hr
  · rename_i e b hks hkd hx
    obtain ⟨si, hsi, hsk⟩ := kOf_ti (T := T) (t := src) (by rw [hks]; simp)
    have hs := (hT src si hsi).string (hsk.trans hks)
    obtain ⟨di, hdi, hdk⟩ := kOf_ti (T := T) (t := dst) (by rw [hkd]; simp)
    have hd := (hT dst di hdi).slice (hdk.trans hkd)
    split at hr
    · rename_i hke
      obtain ⟨ei, hei, hek⟩ := kOf_ti (T := T) (t := e) (by rw [hke]; simp)
      have he := (hT e ei hei).int (hek.trans hke)
      refine ⟨_, fun h => .of_run fun a w F m hsim hO => ?_, hr⟩
      have rx := rd_s (hO.rd (by simp [ho, Op.operands]) hx)
      have hrun := run_bytes_of_string (P := P) w src dst e b hs hd he
      have hge := grownCap_ge w b.size 0 e
      refine ⟨_, _, fun b' i => F b' i ∨ b' = w.heap.size, by simp only [execOp, ho, rx]; simp only [Sem.run_bind, hrun, Result.andThen]; rfl, ?_, ?_⟩
      · have hcell : ∀ (j : Nat) v, (Lib.strCells b)[j]? = some v → (w.drew.alloc (.cells (bytesRow b (grownCap w b.size 0 e)) e ((bytesRow b (grownCap w b.size 0 e)).size, (bytesRow b (grownCap w b.size 0 e)).size + 1))).cell? ⟨w.heap.size, 0 + j, none⟩ = some v := fun j v hj => by
          rw [Nat.zero_add, show w.heap.size = w.drew.heap.size from rfl, World.cell?_alloc_mark]
          have hlt := (List.getElem?_eq_some_iff.1 hj).1
          rw [Lib.strCells_length] at hlt
          unfold bytesRow
          rw [Array.getElem?_append_left (by rw [Array.size_map]; exact hlt)]
          simpa [Lib.strCells] using hj
        have hext : Ext w F (w.drew.alloc (.cells (bytesRow b (grownCap w b.size 0 e)) e ((bytesRow b (grownCap w b.size 0 e)).size, (bytesRow b (grownCap w b.size 0 e)).size + 1))) (fun b' i => F b' i ∨ b' = w.heap.size) := fun b' i hF => ⟨.inl hF, cell_of_heap (Below.heap_alloc w.drew _ b' (hsim.fl b' i hF))⟩
        have := RdC.of_vals (b := w.heap.size) (off := 0) (((strCells_rd (w := w) (F := F) b)).ext hext) hcell (fun j hj => .inr rfl)
        have hsl := Rd.sl (n := 1) (τ := uT) (xs := strb b) (cap := grownCap w b.size 0 e) (cells_u _) (by rw [strb_length]; exact hge) this
        rw [strb_length] at hsl
        exact .p hsl
      · exact ⟨rfl, rfl, rfl, by simp, fun _ _ h => .inl h, fun b' hb => Below.heap_alloc w.drew _ b' hb, fun b' i h => by
          rcases h with h | rfl
          · exact .inl h
          · exact .inr ⟨Nat.le_refl _, by simp⟩⟩
    · cases hr
  · cases hr
end

/-! ### A text appended to bytes -/
section
variable {bs : Nat → Nat} {P : Program} {T : Tab} {nt : Nat} {E : Env} {h : List Ob} {Q : QB} {o : Oper} {i d : Nat} {ops : Array Oper} {β : Type} {r : β}
theorem append_tk_s (hT : TOk P T) {t u ty e : Nat} {ei : TI} (ht : P.underlying t = some (.slice e)) (hu : P.underlying u = some .string) (he : T e = some ei) (hs1 : ei.size = 1) {w : World} {F : Fz} {m : Mp} (sim : Sim bs w F m h) {v : Value} {xs : List Int} {j : Nat} {s : ByteArray}
    (hv : RdS w F m v (.own e 1 uT xs j)) (hb0 : 0 < ei.bytes) (hb : (xs.length + s.size) * ei.bytes ≤ 140737488355328) :
    ∃ v' w' F' p, (Builtin.append_ #[t, u] ty #[v, .string s]).run P w = .ok v' w' ∧ Tk w F m j w' F' p ∧ RdS w' F' (upd m j p) v' (.own e 1 uT (xs ++ strb s) j) := by
  obtain ⟨inf, z, hi, hi1, hi2, hz, hzc⟩ := (hT e ei he).zeros
  have hsl : (strb s).length = s.size := strb_length s
  have hmax : xs.length + s.size ≤ 140737488355328 := by
    have : (xs.length + s.size) * 1 ≤ (xs.length + s.size) * ei.bytes := Nat.mul_le_mul_left _ hb0
    omega
  have hscl : (Lib.strCells s).length = s.size := Lib.strCells_length s
  have hlen : (xs ++ strb s).length = xs.length + s.size := by rw [List.length_append, hsl]
  have hscr : ∀ (w : World) (F : Fz), RdL w F (Lib.strCells s) (((strb s).map uT.enc).flatMap PV.cells) := fun w F => strCells_rd s
  have fl : ∀ xs : List Int, ((xs.map uT.enc).flatMap PV.cells).length = xs.length := fun xs => by rw [flat_u, List.length_map]
  have hzs : z.cells.size = 1 := by
    have := congrArg List.length hzc
    have h2 := Nat.eq_of_beq_eq_true (hT e ei he).zl
    simp at this
    omega
  have still : s.size = 0 → (Builtin.append_ #[t, u] ty #[v, .string s]).run P w = .ok v w → ∃ v' w' F' p, (Builtin.append_ #[t, u] ty #[v, .string s]).run P w = .ok v' w' ∧ Tk w F m j w' F' p ∧ RdS w' F' (upd m j p) v' (.own e 1 uT (xs ++ strb s) j) := by
    intro h0 hr
    have hnil : strb s = [] := List.eq_nil_of_length_eq_zero (by omega)
    have hno : ∀ b, m j ≠ .obj b := by
      intro b hbo
      cases hv with
      | own0 hm => rw [hm] at hbo; cases hbo
      | owne ad hm => rw [hm] at hbo; cases hbo
      | ownx hn hr hm => rw [hm] at hbo; cases hbo
      | own hn hr hm => rw [hm] at hbo; cases hbo
    refine ⟨v, w, F, m j, hr, ⟨rfl, rfl, rfl, Nat.le_refl _, Ext.refl w F, fun _ _ _ => rfl, fun b o h => .inl h, fun b o h => .inr h, fun b o hF => sim.fr j b o hF, hno⟩, ?_⟩
    rw [hnil, List.append_nil]
    refine hv.keep (Ext.refl w F) fun i hi _ => ⟨?_, fun _ _ _ => rfl⟩
    simp only [SV.ids, List.mem_singleton] at hi
    subst hi
    exact upd_same
  have grow : ∀ (cap : Nat) (olds : List Value), RdL w F olds ((xs.map uT.enc).flatMap PV.cells) →
      (Builtin.append_ #[t, u] ty #[v, .string s]).run P w = .ok (.slice (some ⟨w.heap.size, 0, none⟩) (xs.length + s.size) (grownCap w (xs.length + s.size) cap e))
        (w.drew.alloc (.cells (olds.toArray ++ (Lib.strCells s).toArray ++ Builtin.zeroCells z.cells (grownCap w (xs.length + s.size) cap e - (xs.length + s.size))) e)) →
      ∃ v' w' F' p, (Builtin.append_ #[t, u] ty #[v, .string s]).run P w = .ok v' w' ∧ Tk w F m j w' F' p ∧ RdS w' F' (upd m j p) v' (.own e 1 uT (xs ++ strb s) j) := by
    intro cap olds holds hrun
    have hol : olds.length = xs.length := by rw [holds.length, fl]
    have hge := grownCap_ge w (xs.length + s.size) cap e
    have hcm : grownCap w (xs.length + s.size) cap e ≤ maxLen := grownCap_le_maxLen w _ cap e (by simp only [maxLen]; omega)
    have ext : Ext w F (w.drew.alloc (.cells (olds.toArray ++ (Lib.strCells s).toArray ++ Builtin.zeroCells z.cells (grownCap w (xs.length + s.size) cap e - (xs.length + s.size))) e))
        (fun b i => F b i ∨ (b = w.heap.size ∧ i < xs.length + s.size)) := fun b i h => ⟨.inl h, cell_of_heap (Below.heap_alloc w.drew _ b (sim.fl b i h))⟩
    refine ⟨_, _, fun b i => F b i ∨ (b = w.heap.size ∧ i < xs.length + s.size), .tail w.heap.size (xs.length + s.size), hrun,
      ⟨rfl, rfl, rfl, by simp, ext, fun b hb _ => Below.heap_alloc w.drew _ b hb, fun b o hF => ?_, fun b o hh => ?_, fun b o hF hh => ?_, fun b h => by cases h⟩, ?_⟩
    · rcases hF with h | ⟨rfl, h⟩
      · exact .inl h
      · exact .inr (.inl ⟨Nat.le_refl _, by simp⟩)
    · obtain ⟨rfl, _⟩ := hh
      exact .inl ⟨Nat.le_refl _, by simp⟩
    · obtain ⟨rfl, hh⟩ := hh
      rcases hF with h | ⟨_, h⟩
      · exact absurd (sim.fl _ _ h) (Nat.lt_irrefl _)
      · omega
    · rw [← hlen]
      refine .own (cells_u _) ?_ (by rw [upd_same, Nat.mul_one]) (heap_alloc_new w.drew _) (by rw [hlen]; exact hge) (by rw [hlen]; exact hcm) ?_
      · rw [List.map_append, List.flatMap_append]
        refine RdC.of_vals (vs := olds ++ Lib.strCells s) ((holds.append (hscr _ _)).ext (by rw [hlen]; exact ext)) (fun k x hk => ?_) fun k hk => .inr ⟨rfl, ?_⟩
        · rw [Nat.zero_add, show w.heap.size = w.drew.heap.size from rfl, World.cell?_alloc_new]
          have hlt := (List.getElem?_eq_some_iff.1 hk).1
          rw [Array.getElem?_append_left (by simpa using hlt)]
          simpa using hk
        · rw [List.length_append, fl, fl, hsl] at hk
          rw [hlen]
          omega
      · simp only [Array.size_append, List.size_toArray, size_zeroCells, hol, hscl, hzs, hlen]
        omega
  have hf := Lib.run_firstCells_string (P := P) w 1 s
  have hsc0 : s.size = 0 → Lib.strCells s = [] := fun h0 => List.eq_nil_of_length_eq_zero (by omega)
  by_cases h0 : s.size = 0
  · refine still h0 ?_
    rw [h0, hsc0 h0] at hf
    cases hv with
    | own0 hm => simp [Builtin.append_, run_underlying ht, run_underlying hu, sizeOf, typeInfo, hi, hi1, hs1, Builtin.lenOf, h0, hf]
    | owne ad hm => simp [Builtin.append_, run_underlying ht, run_underlying hu, sizeOf, typeInfo, hi, hi1, hs1, Builtin.lenOf, h0, hf, storeCells]
    | ownx hn hr hm => simp [Builtin.append_, run_underlying ht, run_underlying hu, sizeOf, typeInfo, hi, hi1, hs1, Builtin.lenOf, h0, hf, storeCells]
    | own hn hr hm hb' hc hcm hsz => simp [Builtin.append_, run_underlying ht, run_underlying hu, sizeOf, typeInfo, hi, hi1, hs1, Builtin.lenOf, h0, hf, storeCells, hc]
  cases hv with
  | own0 hm =>
    refine grow 0 [] .nil ?_
    have hr := run_append_nil_string (P := P) w t u ty e inf z ht hu hi hz s (by omega) (by omega) (by rw [hi2]; simp only [List.length_nil, Nat.zero_add] at hb; omega)
    have e1 : (s.data.map fun b => Value.int .u8 b.toNat) = (Lib.strCells s).toArray := by
      apply Array.ext'
      simp [Lib.strCells]
    rw [e1] at hr
    simpa using hr
  | owne ad hm =>
    refine grow 0 [] .nil ?_
    have := Lib.run_append_grow_string (P := P) w t u ty e inf z ht hu hi hz ad 0 0 [] (by simp) (fun k x hk => by simp at hk) s (by omega) (by omega) (growslice_fits (by omega) (by rw [hi2]; simpa using hb))
    simpa using this
  | ownx hn hr hm =>
    obtain ⟨olds, g1, g2, g3⟩ := hr.vals
    refine grow xs.length olds g3 ?_
    exact Lib.run_append_grow_string (P := P) w t u ty e inf z ht hu hi hz _ xs.length xs.length olds (by rw [g1, fl, hi1, hs1, Nat.mul_one]) (fun k x hk => by rw [Addr.add_lit]; exact g2 k x hk) s (by omega) (by omega) (growslice_fits (by omega) (by rw [hi2]; exact hb))
  | @own _ _ _ b cap cur _ _ hn hr hm hb' hc hcm hsz =>
    obtain ⟨olds, g1, g2, g3⟩ := hr.vals
    rw [Nat.mul_one] at hm hsz
    have hol : olds.length = xs.length := by rw [g1, fl]
    by_cases hroom : xs.length + s.size ≤ cap
    · have hrun := Lib.run_append_room_string (P := P) w t u ty e inf ht hu hi (by rw [hi1]; exact hs1) b xs.length cap cur hb' s hroom (by omega)
      have hFo : ∀ o, F b o → o < xs.length := fun o hF => by
        have := sim.fr j b o hF
        rw [hm] at this
        exact Nat.lt_of_not_le fun h => this ⟨rfl, h⟩
      have hold : ∀ o, o < xs.length → (cur.toList.take xs.length ++ Lib.strCells s ++ cur.toList.drop (xs.length + s.size)).toArray[o]? = cur[o]? := by
        intro o ho
        rw [List.getElem?_toArray, List.append_assoc, List.getElem?_append_left (by simp; omega), List.getElem?_take_of_lt ho]
        simp
      have ext : Ext w F (w.setRow b (cur.toList.take xs.length ++ Lib.strCells s ++ cur.toList.drop (xs.length + s.size)).toArray)
          (fun b' i => F b' i ∨ (b' = b ∧ xs.length ≤ i ∧ i < xs.length + s.size)) := fun b' i h => ⟨.inl h, peek_row hb' (by
        by_cases hbb : b' = b
        · subst hbb
          rw [cell_setRow_same w b' i cur _ e (0, 0) hb', hold i (hFo i h), cell_of_row w b' i cur e (0, 0) hb']
        · exact cell_setRow_other w b _ _ hbb)⟩
      refine ⟨_, _, fun b' i => F b' i ∨ (b' = b ∧ xs.length ≤ i ∧ i < xs.length + s.size), .tail b (xs.length + s.size), hrun,
        ⟨rfl, rfl, rfl, by simp, ext, fun b' hb _ => setRow_other w b b' _ (by rintro rfl; simp [hm, Pl.blk] at *), fun b' o hF => ?_, fun b' o hh => ?_, fun b' o hF hh => ?_, fun b h => by cases h⟩, ?_⟩
      · rcases hF with h | ⟨rfl, h, _⟩
        · exact .inl h
        · rw [hm]; exact .inr (.inr ⟨rfl, h⟩)
      · obtain ⟨rfl, hh⟩ := hh
        rw [hm]
        exact .inr ⟨rfl, by omega⟩
      · obtain ⟨rfl, hh⟩ := hh
        rcases hF with h | ⟨_, _, h⟩
        · have := hFo o h; omega
        · omega
      · rw [← hlen]
        refine .own (cells_u _) ?_ (by rw [upd_same, Nat.mul_one]) (setRow_heap w b cur _ e _ hb') (by rw [hlen]; exact hroom) hcm ?_
        · rw [List.map_append, List.flatMap_append, hlen]
          refine RdC.append ?_ ?_
          · exact hr.ext ext
          · rw [Nat.zero_add, fl]
            refine RdC.of_vals (vs := Lib.strCells s) ((hscr _ _).ext ext) (fun k x hk => ?_) fun k hk => .inr ⟨rfl, by omega, ?_⟩
            · rw [cell_setRow_same w b _ cur _ e (0, 0) hb', List.getElem?_toArray]
              have hlt := (List.getElem?_eq_some_iff.1 hk).1
              have htl : (cur.toList.take xs.length).length = xs.length := by simp; omega
              rw [List.append_assoc, List.getElem?_append_right (by omega), htl, Nat.add_sub_cancel_left, List.getElem?_append_left hlt]
              exact hk
            · rw [fl, hsl] at hk
              omega
        · simp only [List.size_toArray, List.length_append, List.length_take, List.length_drop, Array.length_toList, hscl]
          omega
    · refine grow cap olds g3 ?_
      exact Lib.run_append_grow_string (P := P) w t u ty e inf z ht hu hi hz _ xs.length cap olds (by rw [hol, hi1, hs1, Nat.mul_one]) (fun k x hk => by rw [Addr.add_lit]; exact g2 k x hk) s (by omega) (by omega)
        (growslice_fits (by omega) (by rw [hi2]; exact hb))

def eAppS (T : Tab) (nt : Nat) (c : Call) (d : Option Nat) (E : Env) (h : List Ob) (K : Env → List Ob → Option β) : Option β := match d, c.args.toList, c.argTypes.toList with
  | some d, [x, y], [t, u] => match kOf T t, kOf T u, look E [] x, look E [] y with
    | .sl e, .str, some (.own e2 1 (.i .u8) xs j), some (.p (.s (.string s))) => match T e with
      | some ei => bif Nat.beq e2 e && Nat.beq ei.size 1 && Nat.blt j h.length && Nat.blt 0 ei.bytes && dstOk nt E [] (some d) then
            (app ei.bytes xs (strb s)).bind fun (zs : List Int) => K ((d, [], .own e 1 (.i .u8) zs j) :: stripE j E) (stripO j h) else none
      | none => none
    | _, _, _, _ => none
  | _, _, _ => none
theorem eAppS_ok (hT : TOk P T) {c : Call} {K : Env → List Ob → Option β} (hoi : ops[i]? = some o) (hg : o.guard = none) (ho : o.op = .call c) (hc : c.callee = .builtin .append)
    (hr : eAppS T nt c o.dst E h K = some r) (hK : ∀ E' h', K E' h' = some r → WL P nt ops (i + 1) E' h' Q) : WL P nt ops i E h Q := by
  unfold eAppS at hr
  split at hr
  · rename_i d x y t u hd ha hts
    split at hr
    · rename_i e e2 xs j s hk hk' hlx hly
      split at hr
      · rename_i ei he
        obtain ⟨h1, hr⟩ := bif_some hr
        simp only [Bool.and_eq_true] at h1
        obtain ⟨⟨⟨⟨h1, h2⟩, h3⟩, h4⟩, h5⟩ := h1
        obtain ⟨zs, hz, hr⟩ := bd hr
        obtain rfl := Nat.eq_of_beq_eq_true h1
        unfold app at hz
        split at hz
        · rename_i hb
          obtain rfl := Option.some.inj hz
          have hW := hK _ _ hr
          rw [strb_length] at hb
          refine WL_op hoi hg fun a w F m hrel N Q hN => ?_
          have hO := hrel.opd (Tags.nil a) o
          obtain ⟨ti, hti, htk⟩ := kOf_ti (T := T) (t := t) (by rw [hk]; simp)
          have ht := (hT t ti hti).slice (htk.trans hk)
          obtain ⟨ui, hui, huk⟩ := kOf_ti (T := T) (t := u) (by rw [hk']; simp)
          have hu := (hT u ui hui).string (huk.trans hk')
          have hmx : x ∈ o.op.operands := by rw [ho]; exact Array.mem_append.2 (.inr (Array.mem_toList_iff.1 (by rw [ha]; simp)))
          have hmy : y ∈ o.op.operands := by rw [ho]; exact Array.mem_append.2 (.inr (Array.mem_toList_iff.1 (by rw [ha]; simp)))
          have rx := hO.rd hmx hlx
          have ry := rd_s (hO.rd hmy hly)
          obtain ⟨v', w', F', p, g1, g2, g3⟩ := append_tk_s hT ht hu he (Nat.eq_of_beq_eq_true h2) (ty := o.type) hrel.sim (s := s) rx (of_blt h4) hb
          have hargs : c.args = #[x, y] := by cases hca : c.args; simp [hca] at ha; simp [ha]
          have hat : c.argTypes = #[t, u] := by cases hca : c.argTypes; simp [hca] at hts; simp [hts]
          have hno : ∀ b, m j ≠ .obj b := by
            intro b hbo
            revert rx
            generalize a.eval x = vx
            intro rx
            cases rx with
            | own0 hm => rw [hm] at hbo; cases hbo
            | owne ad hm => rw [hm] at hbo; cases hbo
            | ownx hn hr hm => rw [hm] at hbo; cases hbo
            | own hn hr hm => rw [hm] at hbo; cases hbo
          obtain ⟨r1, r2⟩ := hrel.retok hno (of_blt h3) h5 g2 g3
          unfold Oper.wp
          have hrun : (execOp a.eval o).run P w = .ok (.value v') w' := by simp [execOp, ho, resolve, hc, invoke, builtin, hargs, hat, ry, g1]
          rw [hrun]
          simp only [Oper.upon, hd]
          exact hN _ _ _ _ _ _ hW r1 r2
        · cases hz
      · cases hr
    · cases hr
  · cases hr
end
end Go.Proofs.YtmjkflppajienaaDoor.R
