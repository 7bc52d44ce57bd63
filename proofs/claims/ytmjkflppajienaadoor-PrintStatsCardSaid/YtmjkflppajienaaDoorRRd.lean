/- What came in, read by its type's code; no condition but the typed premises. -/
import Derived.Test.YtmjkflppajienaaDoorRP
import Derived.OpenShut
import Derived.DataElems
import Derived.WideShapes
import Derived.ShutString
import Derived.ChangeOld
import Derived.SliceStrings
namespace Go.Proofs.YtmjkflppajienaaDoor.R
open Go Go.RowKit Go.ChangeShapes Go.WideShapes
set_option linter.unusedVariables false
set_option linter.unusedSimpArgs false

/-- All that lies there. -/
abbrev FA (w : World) : Fz := fun b _ => b < w.heap.size
theorem cell_lt {w : World} {a : Addr} {v : Value} (h : w.cell? a = some v) : a.spot = none ∧ a.block < w.heap.size := by
  unfold World.cell? at h
  split at h
  · rename_i c e d hb
    refine ⟨?_, (Array.getElem?_eq_some_iff.1 hb).1⟩
    cases hs : a.spot with
    | none => rfl
    | some s => rw [hs] at h; simp at h
  · cases h
theorem Rd.rowAt {w : World} {F : Fz} {τ : Ty} {n cap : Nat} {xs : List τ.den} {a : Addr} {vs : List Value} (hn : ∀ x ∈ xs.map τ.enc, x.cells.length = n) (hc : xs.length ≤ cap) (ha : 0 < cap → a.spot = none)
    (hr : RdL w F vs ((xs.map τ.enc).flatMap PV.cells)) (hv : ∀ j v, vs[j]? = some v → w.cell? (a.add j) = some v) (hF : 0 < xs.length → ∀ o, F a.block o) : Rd w F (.slice (some a) xs.length cap) (.sl n τ xs) := by
  by_cases h0 : 0 < cap
  · obtain ⟨b, off, sp⟩ := a
    obtain rfl : sp = none := ha h0
    refine .sl hn hc (RdC.of_vals hr (fun j v hj => ?_) fun j hj => hF ?_ _)
    · have := hv j v hj
      rwa [Addr.add_lit] at this
    · cases xs with
      | nil => simp at hj
      | cons x xs => simp
  · obtain rfl : cap = 0 := by omega
    obtain rfl : xs = [] := List.length_eq_zero_iff.1 (by omega)
    exact .emp _ _ _
def tyFs (c : Nat → Nat) (g : Nat → Ty → Bool) (m : Nat) : List Field → Nat → Ty → Bool
  | [], k, .un => Nat.beq k m
  | f :: fs, k, .pr x y => Nat.beq f.offset k && g f.type x && Nat.ble (k + c f.type) m && tyFs c g m fs (k + c f.type) y
  | _, _, _ => false
/-- Is it a type of this code? -/
def tyIs (P : Program) : Nat → Nat → Ty → Bool
  | 0, _, _ => false
  | n + 1, t, τ => match P.underlying t, τ with
    | some (.int k), .i k' => decide (k = k') && Nat.beq (P.cellsOf t) 1
    | some .bool, .b => Nat.beq (P.cellsOf t) 1
    | some .string, .s => Nat.beq (P.cellsOf t) 1
    | some (.slice e), .sl m τ => Nat.beq (P.cellsOf t) 1 && Nat.beq (P.cellsOf e) m && Nat.blt 0 m && tyIs P n e τ
    | some (.array m e), .ar m' τ => Nat.beq m m' && Nat.beq (P.cellsOf t) (m * P.cellsOf e) && tyIs P n e τ
    | some (.struct fs), τ => tyFs P.cellsOf (tyIs P n) (P.cellsOf t) fs.toList 0 τ
    | _, _ => false
/-- What the machine's own bounds say of a thing. -/
def okT : (τ : Ty) → τ.den → Prop
  | .i k, z => (Lit.int k z).wf = true
  | .s, s => ByteArray.size s ≤ maxLen
  | .sl _ t, xs => List.length (α := t.den) xs ≤ maxLen ∧ ∀ y : t.den, List.Mem y xs → okT t y
  | .pr x y, p => okT x (Prod.fst (α := x.den) (β := y.den) p) ∧ okT y (Prod.snd (α := x.den) (β := y.den) p)
  | .ar n t, v => ∀ y : t.den, List.Mem y (vlist n v) → okT t y
  | _, _ => True
/-- What lies there as a value of the type is one of these. -/
structure Reads (P : Program) (t : TypeId) (τ : Ty) : Prop where
  out : ∀ {H : Type} (en : TypeId × Value → H) (w : World) (held : Bool) (fuel : Nat) (cs : List Value) (x : DataW H × List MemPlace), DataW.trod en P w 0 (fun _ => true) held fuel t cs = some x → ∃ y : τ.den, okT τ y ∧ cs.length = P.cellsOf t ∧ (τ.enc y).cells.length = P.cellsOf t ∧ RdL w (FA w) cs (τ.enc y).cells
variable {P : Program} {t e : TypeId} {n : Nat}
theorem RdL.len {w : World} {F : Fz} : ∀ {vs : List Value} {ps : List PV}, RdL w F vs ps → vs.length = ps.length
  | _, _, .nil => rfl
  | _, _, .cons _ _ h => by rw [List.length_cons, List.length_cons, h.len]
theorem Reads.sl {τ : Ty} (ht : P.underlying t = some (.slice e)) (hc : P.cellsOf t = 1) (hce : P.cellsOf e = n) (hr : Reads P e τ) (hn : 0 < n) : Reads P t (.sl n τ) := ⟨fun en w held fuel cs x h => by
    rw [hc]
    rcases DataW.trod_slice ht h with ⟨rfl, _⟩ | ⟨a, len, cap, elems, rest, m, _, rfl, _, _, hl, hm, hlen, hel, hsp, _⟩
    · exact ⟨[], ⟨by simp, by intro y hy; cases hy⟩, rfl, rfl, .cons rfl (.nil _ _) .nil⟩
    · rw [hce] at hel hsp
      have key : ∀ j, j ≤ len → ∃ (xs : List τ.den) (vs : List Value), xs.length = j ∧ vs.length = j * n ∧ (∀ y ∈ xs, okT τ y ∧ (τ.enc y).cells.length = n) ∧ RdL w (FA w) vs ((xs.map τ.enc).flatMap PV.cells) ∧ ∀ (i : Nat) v, vs[i]? = some v → w.cell? (a.add i) = some v := by
        intro j
        induction j with
        | zero => intro _; exact ⟨[], [], rfl, by simp, by simp, .nil, by simp⟩
        | succ j ih =>
          intro hj
          obtain ⟨xs, vs, e1, e2, e3, e4, e5⟩ := ih (by omega)
          have h1 := hel j (by omega)
          rw [List.getElem?_eq_getElem (by omega), Option.bind_eq_some_iff] at h1
          obtain ⟨cs', h2, h3⟩ := h1
          obtain ⟨y, y1, y2, y3, y4⟩ := hr.out en w held m cs' _ h3
          obtain ⟨_, h4, h5⟩ := World.cells?_some h2
          refine ⟨xs ++ [y], vs ++ cs', by simp [e1], by rw [List.length_append, e2, h4, Nat.succ_mul], fun z hz => ?_, ?_, fun i v hi => ?_⟩
          · rcases List.mem_append.1 hz with hz | hz
            · exact e3 z hz
            · obtain rfl : z = y := by simpa using hz
              exact ⟨y1, y3.trans hce⟩
          · rw [List.map_append, List.flatMap_append]
            exact e4.append (by simpa using y4)
          · by_cases hlt : i < vs.length
            · rw [List.getElem?_append_left hlt] at hi; exact e5 i v hi
            · rw [List.getElem?_append_right (by omega)] at hi
              have hb := (List.getElem?_eq_some_iff.1 hi).1
              have h6 := h5 (i - vs.length) (by omega)
              rw [Addr.add_add, hi, e2, show j * n + (i - j * n) = i by rw [e2] at hlt; omega] at h6
              exact h6
      obtain ⟨xs, vs, e1, e2, e3, e4, e5⟩ := key len (Nat.le_refl _)
      have cell0 : 0 < cap → ∃ v, w.cell? a = some v := fun h0 => by
        have : ∃ cs', w.cells? 0 (a.add (0 * n)) n = some cs' := by
          by_cases hl0 : 0 < len
          · have h1 := hel 0 hl0
            rw [List.getElem?_eq_getElem (by omega), Option.bind_eq_some_iff] at h1
            obtain ⟨cs', h2, _⟩ := h1
            exact ⟨cs', h2⟩
          · obtain ⟨hrl, hrr⟩ := hsp rfl
            have h1 := hrr 0 (by omega)
            rw [List.getElem?_eq_getElem (by omega), Option.bind_eq_some_iff] at h1
            obtain ⟨cs', h2, _⟩ := h1
            exact ⟨cs', by rw [show (0 : Nat) * n = (len + 0) * n by rw [show len = 0 by omega]]; exact h2⟩
        obtain ⟨cs', h2⟩ := this
        obtain ⟨_, h4, h5⟩ := World.cells?_some h2
        have h6 := h5 0 hn
        rw [List.getElem?_eq_getElem (by omega), Addr.add_add] at h6
        exact ⟨_, by simpa [Addr.add] using h6⟩
      refine ⟨xs, ⟨by omega, fun y hy => (e3 y hy).1⟩, rfl, rfl, .cons rfl ?_ .nil⟩
      have := Rd.rowAt (w := w) (F := FA w) (τ := τ) (n := n) (cap := cap) (xs := xs) (a := a) (vs := vs) (fun x hx => by obtain ⟨y, hy, rfl⟩ := List.mem_map.1 hx; exact (e3 y hy).2) (by omega) (fun h0 => by obtain ⟨v, hv⟩ := cell0 h0; exact (cell_lt hv).1) e4 e5 (fun h0 o => by obtain ⟨v, hv⟩ := cell0 (by omega); exact (cell_lt hv).2)
      rwa [e1] at this⟩
theorem Reads.arr {τ : Ty} {m : Nat} (ht : P.underlying t = some (.array m e)) (hc : P.cellsOf t = m * P.cellsOf e) (hr : Reads P e τ) : Reads P t (.ar m τ) := ⟨fun en w held fuel cs x h => by
    rw [hc]
    obtain ⟨xs, f, _, _, h1, h2, h3⟩ := DataW.trod_array ht h
    have key : ∀ (k i : Nat), i + k = m → ∃ v : Vec τ.den k, (∀ y : τ.den, List.Mem y (vlist k v) → okT τ y) ∧ (Vec.flat (fun y => (τ.enc y).cells) k v).length = k * P.cellsOf e ∧ RdL w (FA w) (cs.drop (i * P.cellsOf e)) (Vec.flat (fun y => (τ.enc y).cells) k v) := by
      intro k
      induction k with
      | zero =>
        intro i hi
        refine ⟨(), fun y hy => (by cases hy), (by simp [Vec.flat]), ?_⟩
        rw [List.drop_eq_nil_of_le (by rw [h1, hc, show i = m by omega]; exact Nat.le_refl _)]
        exact .nil
      | succ k ih =>
        intro i hi
        obtain ⟨v, v1, v2, v3⟩ := ih (i + 1) (by omega)
        have h4 := h3 i (by omega)
        rw [List.getElem?_eq_getElem (by omega)] at h4
        obtain ⟨y, y1, y2, y3, y4⟩ := hr.out en w held _ _ _ h4
        refine ⟨(y, v), fun z hz => ?_, ?_, ?_⟩
        · have hz' : z ∈ y :: vlist k v := hz
          rcases List.mem_cons.1 hz' with rfl | hz
          · exact y1
          · exact v1 z hz
        · simp only [Vec.flat, List.length_append, y3, v2, Nat.succ_mul]; omega
        · have e : cs.drop (i * P.cellsOf e) = (cs.drop (i * P.cellsOf e)).take (P.cellsOf e) ++ cs.drop ((i + 1) * P.cellsOf e) := by rw [Nat.succ_mul, ← List.drop_drop, List.take_append_drop]
          rw [e]
          exact y4.append v3
    obtain ⟨v, v1, v2, v3⟩ := key m 0 (by omega)
    exact ⟨v, v1, h1.trans hc, v2, by rw [Nat.zero_mul, List.drop_zero] at v3; exact v3⟩⟩
/-- The fields of a structure, from a cell on. -/
structure ReadsF (P : Program) (fs : List Field) (k m : Nat) (τ : Ty) : Prop where
  out : ∀ {H : Type} (en : TypeId × Value → H) (w : World) (held : Bool) (fuel : Nat) (cs : List Value) (xs : List (DataW H × List MemPlace)), cs.length = m → xs.length = fs.length → (∀ (i : Nat) (f : Field), fs[i]? = some f → DataW.trod en P w 0 (fun _ => true) held fuel f.type ((cs.drop f.offset).take (P.cellsOf f.type)) = xs[i]?) →
    ∃ y : τ.den, okT τ y ∧ τ.enc y = .agg (τ.enc y).cells ∧ (τ.enc y).cells.length = m - k ∧ RdL w (FA w) (cs.drop k) (τ.enc y).cells
theorem readsF {n m : Nat} (hg : ∀ t τ, tyIs P n t τ = true → Reads P t τ) : ∀ {fs : List Field} {k : Nat} {τ : Ty}, k ≤ m → tyFs P.cellsOf (tyIs P n) m fs k τ = true → ReadsF P fs k m τ
  | [], k, τ, hk, h => by
    cases τ <;> simp only [tyFs] at h <;> first | cases h; done | skip
    obtain rfl := Nat.eq_of_beq_eq_true h
    exact ⟨fun en w held fuel cs xs hl _ _ => ⟨(), trivial, rfl, by simp [Ty.enc, PV.cells], by rw [List.drop_eq_nil_of_le (by omega)]; exact .nil⟩⟩
  | f :: fs, k, τ, hk, h => by
    cases τ <;> simp only [tyFs] at h <;> first | cases h; done | skip
    rename_i ta tb
    simp only [Bool.and_eq_true] at h
    obtain ⟨⟨⟨e1, e2⟩, e3⟩, e4⟩ := h
    have hf := Nat.eq_of_beq_eq_true e1
    have hle := Nat.le_of_ble_eq_true e3
    have ha := hg _ _ e2
    have hb := readsF hg hle e4
    refine ⟨fun {H} en w held fuel cs xs hl hx h => ?_⟩
    have h0 := h 0 f rfl
    rw [hf, List.getElem?_eq_getElem (by rw [hx]; simp)] at h0
    obtain ⟨y, y1, y2, y3, y4⟩ := ha.out en w held fuel _ _ h0
    cases xs with
    | nil => simp at hx
    | cons x xs =>
      obtain ⟨z, z1, z0, z2, z3⟩ := hb.out en w held fuel cs xs hl (by simpa using hx) fun i g hg => by simpa using h (i + 1) g (by simpa using hg)
      refine ⟨(y, z), ⟨y1, z1⟩, rfl, ?_, ?_⟩
      · show ((ta.enc y).cells ++ (tb.enc z).cells).length = m - k
        simp only [List.length_append, y3, z2]; omega
      · have e : cs.drop k = (cs.drop k).take (P.cellsOf f.type) ++ cs.drop (k + P.cellsOf f.type) := by rw [← List.drop_drop, List.take_append_drop]
        rw [e]
        exact y4.append z3
theorem reads : ∀ (n : Nat) (t : Nat) (τ : Ty), tyIs P n t τ = true → Reads P t τ
  | 0, t, τ, h => by cases h
  | n + 1, t, τ, h => by
    unfold tyIs at h
    split at h
    · rename_i k k' ht
      simp only [Bool.and_eq_true, decide_eq_true_eq] at h
      obtain ⟨rfl, h⟩ := h
      have hc := Nat.eq_of_beq_eq_true h
      refine ⟨fun {H} en w held fuel cs x h => ?_⟩
      obtain ⟨z, rfl, _, hw⟩ := DataW.trod_int ht h
      exact ⟨z, hw, hc.symm, hc.symm, .cons rfl (.s _) .nil⟩
    · rename_i ht
      have hc := Nat.eq_of_beq_eq_true h
      refine ⟨fun {H} en w held fuel cs x h => ?_⟩
      obtain ⟨z, rfl, _⟩ := DataW.trod_bool ht h
      exact ⟨z, trivial, hc.symm, hc.symm, .cons rfl (.s _) .nil⟩
    · rename_i ht
      have hc := Nat.eq_of_beq_eq_true h
      refine ⟨fun {H} en w held fuel cs x h => ?_⟩
      obtain ⟨z, rfl, _, hw⟩ := DataW.trod_string ht h
      exact ⟨z, hw, hc.symm, hc.symm, .cons rfl (.s _) .nil⟩
    · rename_i e m τ ht
      simp only [Bool.and_eq_true] at h
      obtain ⟨⟨⟨h1, h2⟩, h3⟩, h4⟩ := h
      exact Reads.sl ht (Nat.eq_of_beq_eq_true h1) (Nat.eq_of_beq_eq_true h2) (reads n e τ h4) (of_blt h3)
    · rename_i m e m' τ ht
      simp only [Bool.and_eq_true] at h
      obtain ⟨⟨h1, h2⟩, h3⟩ := h
      obtain rfl := Nat.eq_of_beq_eq_true h1
      exact Reads.arr ht (Nat.eq_of_beq_eq_true h2) (reads n e τ h3)
    · rename_i fs ht
      refine ⟨fun {H} en w held fuel cs x hx => ?_⟩
      obtain ⟨xs, k, _, _, h1, h2, h3⟩ := DataW.trod_struct ht hx
      obtain ⟨y, y1, _, y2, y3⟩ := (readsF (reads n) (Nat.zero_le _) h).out en w held k cs xs h1 (by simpa using h2) fun i f hf => h3 i f (by simpa using hf)
      exact ⟨y, y1, h1, by simpa using y2, by simpa using y3⟩
    · cases h

/-! ### parameters -/
variable {H : Type} {en : TypeId × Value → H} {w : World} {held : Bool} {base : Nat}
theorem Reads.one {τ : Ty} (hr : Reads P t τ) (hs : ∀ y, (τ.enc y).cells = [τ.enc y]) {v : Value} {d : DataW H} {p : List MemPlace} (hv : v.cells.toList = [v]) (h : DataW.Trod en P w 0 (fun _ => true) held t v d p) : ∃ y, RdS w (FA w) (fun _ => .free) v (.p (τ.enc y)) ∧ okT τ y := by
  obtain ⟨fuel, hf⟩ := h
  obtain ⟨y, y1, _, _, y4⟩ := hr.out en w held fuel _ _ hf
  rw [hv, hs] at y4
  cases y4 with
  | cons _ h _ => exact ⟨y, .p h, y1⟩
/-- A parameter, of a code. -/
theorem param (n : Nat) {τ : Ty} (hty : tyIs P n t τ = true) {v : Value} {d : DataW H} {p : List MemPlace} (hv : Value.okWide P w .any base t v) (h : DataW.Trod en P w 0 (fun _ => true) held t v d p) :
    ∃ y, RdS w (FA w) (fun _ => .free) v (.p (τ.enc y)) ∧ okT τ y := by
  have hr := reads n t τ hty
  cases n with
  | zero => cases hty
  | succ n =>
    unfold tyIs at hty
    split at hty
    · rename_i k k' ht
      refine hr.one (fun _ => rfl) ?_ h
      simp only [Value.okWide, ht, Cell.okWide] at hv
      cases v <;> simp_all [Cell.ok, Value.cells]
    · rename_i ht
      refine hr.one (fun _ => rfl) ?_ h
      simp only [Value.okWide, ht, Cell.okWide] at hv
      cases v <;> simp_all [Cell.ok, Value.cells]
    · rename_i ht
      refine hr.one (fun _ => rfl) ?_ h
      simp only [Value.okWide, ht, Cell.okWide] at hv
      cases v <;> simp_all [Cell.ok, Value.cells]
    · rename_i e m τ ht
      obtain ⟨a, len, cap, rfl⟩ := okWide_slice ht hv
      exact hr.one (fun _ => rfl) (by simp [Value.cells]) h
    · rename_i m e m' τ ht
      simp only [Value.okWide, ht] at hv
      obtain ⟨cs, rfl, _⟩ := hv
      obtain ⟨fuel, hf⟩ := h
      obtain ⟨y, y1, _, _, y4⟩ := hr.out en w held fuel _ _ hf
      refine ⟨y, .p ?_, y1⟩
      have e0 : (Ty.ar m' τ).enc y = .agg ((Ty.ar m' τ).enc y).cells := rfl
      rw [e0]
      have := Rd.agg y4
      simpa [Value.cells] using this
    · rename_i fs ht
      simp only [Value.okWide, ht] at hv
      obtain ⟨cs, rfl, _, _⟩ := hv
      obtain ⟨fuel, hf⟩ := h
      obtain ⟨xs, k, _, _, h1, h2, h3⟩ := DataW.trod_struct ht hf
      obtain ⟨y, y1, y0, y2, y3⟩ := (readsF (reads n) (Nat.zero_le _) hty).out en w held k _ xs h1 (by simpa using h2) fun i f hf => h3 i f (by simpa using hf)
      refine ⟨y, .p ?_, y1⟩
      rw [y0]
      have := Rd.agg (w := w) (F := FA w) (by simpa using y3)
      simpa [Value.cells] using this
    · cases hty
end Go.Proofs.YtmjkflppajienaaDoor.R
