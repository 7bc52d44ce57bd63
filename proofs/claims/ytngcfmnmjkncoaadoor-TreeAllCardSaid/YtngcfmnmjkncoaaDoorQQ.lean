/- What came in, read by its type: a reader for each type, built out of its parts'; no condition but the typed premises. -/
import Derived.Test.YtngcfmnmjkncoaaDoorQU
import Derived.Test.YtngcfmnmjkncoaaDoorQF1
import Derived.OpenShut
import Derived.DataElems
namespace Go.Proofs.YtngcfmnmjkncoaaDoor.Q
open Go Go.RowKit Go.ChangeShapes Go.WideShapes
set_option linter.unusedVariables false
set_option linter.unusedSimpArgs false

/-- What lies there as a value of the type is one of these. -/
def Reads (P : Program) (t : TypeId) (α : Type) (enc : α → PV) (n : Nat) (ok : α → Prop) : Prop :=
  P.cellsOf t = n ∧ ∀ {H : Type} (en : TypeId × Value → H) (w : World) (held : Bool) (fuel : Nat) (cs : List Value) (x : DataW H × List MemPlace), DataW.trod en P w 0 (fun _ => true) held fuel t cs = some x → ∃ y, ok y ∧ cs.length = n ∧ (enc y).cells.length = n ∧ RdL w (FA w) cs (enc y).cells
variable {P : Program} {t e : TypeId} {n : Nat}
theorem Reads.int {k : IntKind} (ht : P.underlying t = some (.int k)) (hc : P.cellsOf t = 1) : Reads P t Int (eI k) 1 (fun z => (Lit.int k z).wf = true) :=
  ⟨hc, fun en w held fuel cs x h => by
    obtain ⟨z, rfl, _, hw⟩ := DataW.trod_int ht h
    exact ⟨z, hw, rfl, rfl, .cons rfl (.s _) .nil⟩⟩
theorem Reads.bool (ht : P.underlying t = some .bool) (hc : P.cellsOf t = 1) : Reads P t Bool eB 1 (fun _ => True) :=
  ⟨hc, fun en w held fuel cs x h => by
    obtain ⟨z, rfl, _⟩ := DataW.trod_bool ht h
    exact ⟨z, trivial, rfl, rfl, .cons rfl (.s _) .nil⟩⟩
theorem Reads.string (ht : P.underlying t = some .string) (hc : P.cellsOf t = 1) : Reads P t ByteArray eS 1 (fun s => s.size ≤ maxLen) :=
  ⟨hc, fun en w held fuel cs x h => by
    obtain ⟨z, rfl, _, hw⟩ := DataW.trod_string ht h
    exact ⟨z, hw, rfl, rfl, .cons rfl (.s _) .nil⟩⟩
theorem RdL.len {w : World} {F : Fz} : ∀ {vs : List Value} {ps : List PV}, RdL w F vs ps → vs.length = ps.length
  | _, _, .nil => rfl
  | _, _, .cons _ _ h => by rw [List.length_cons, List.length_cons, h.len]
theorem RdL.app {w : World} {F : Fz} : ∀ {vs us : List Value} {ps qs : List PV}, RdL w F vs ps → RdL w F us qs → RdL w F (vs ++ us) (ps ++ qs)
  | _, _, _, _, .nil, k => k
  | _, _, _, _, .cons h1 h hs, k => .cons h1 h (hs.app k)
theorem Reads.sl {α : Type} {enc : α → PV} {ok : α → Prop} (ht : P.underlying t = some (.slice e)) (hc : P.cellsOf t = 1) (hr : Reads P e α enc n ok) (hn : 0 < n) : Reads P t (List α) (eL n enc) 1 (fun xs => xs.length ≤ maxLen ∧ ∀ y ∈ xs, ok y) :=
  ⟨hc, fun en w held fuel cs x h => by
    obtain ⟨hce, hrd⟩ := hr
    rcases DataW.trod_slice ht h with ⟨rfl, _⟩ | ⟨a, len, cap, elems, rest, m, _, rfl, _, _, hl, hm, hlen, hel, hsp, _⟩
    · exact ⟨[], ⟨by simp, by simp⟩, rfl, rfl, .cons rfl (.nil _ _ _) .nil⟩
    · rw [hce] at hel hsp
      have key : ∀ j, j ≤ len → ∃ (xs : List α) (vs : List Value), xs.length = j ∧ vs.length = j * n ∧ (∀ y ∈ xs, ok y ∧ (enc y).cells.length = n) ∧ RdL w (FA w) vs ((xs.map enc).flatMap PV.cells) ∧ ∀ (i : Nat) v, vs[i]? = some v → w.cell? (a.add i) = some v := by
        intro j
        induction j with
        | zero => intro _; exact ⟨[], [], rfl, by simp, by simp, .nil, by simp⟩
        | succ j ih =>
          intro hj
          obtain ⟨xs, vs, e1, e2, e3, e4, e5⟩ := ih (by omega)
          have h1 := hel j (by omega)
          rw [List.getElem?_eq_getElem (by omega), Option.bind_eq_some_iff] at h1
          obtain ⟨cs', h2, h3⟩ := h1
          obtain ⟨y, y1, y2, y3, y4⟩ := hrd en w held m cs' _ h3
          obtain ⟨_, h4, h5⟩ := World.cells?_some h2
          refine ⟨xs ++ [y], vs ++ cs', by simp [e1], by rw [List.length_append, e2, h4, Nat.succ_mul], fun z hz => ?_, ?_, fun i v hi => ?_⟩
          · rcases List.mem_append.1 hz with hz | hz
            · exact e3 z hz
            · obtain rfl : z = y := by simpa using hz
              exact ⟨y1, y3⟩
          · rw [List.map_append, List.flatMap_append]
            exact e4.app (by simpa using y4)
          · by_cases hlt : i < vs.length
            · rw [List.getElem?_append_left hlt] at hi; exact e5 i v hi
            · rw [List.getElem?_append_right (by omega)] at hi
              have hb := (List.getElem?_eq_some_iff.1 hi).1
              have h6 := h5 (i - vs.length) (by omega)
              rw [Addr.add_add, hi, e2, show j * n + (i - j * n) = i by rw [e2] at hlt; omega] at h6
              exact h6
      obtain ⟨xs, vs, e1, e2, e3, e4, e5⟩ := key len (Nat.le_refl _)
      have cell0 : 0 < cap → ∃ v, w.cell? a = some v := fun h0 => by
        have : ∃ cs', w.cells? 0 (a.add (0 * n)) n = some cs' := by
          by_cases hl0 : 0 < len
          · have h1 := hel 0 hl0
            rw [List.getElem?_eq_getElem (by omega), Option.bind_eq_some_iff] at h1
            obtain ⟨cs', h2, _⟩ := h1
            exact ⟨cs', h2⟩
          · obtain ⟨hrl, hrr⟩ := hsp rfl
            have h1 := hrr 0 (by omega)
            rw [List.getElem?_eq_getElem (by omega), Option.bind_eq_some_iff] at h1
            obtain ⟨cs', h2, _⟩ := h1
            exact ⟨cs', by rw [show (0 : Nat) * n = (len + 0) * n by rw [show len = 0 by omega]]; exact h2⟩
        obtain ⟨cs', h2⟩ := this
        obtain ⟨_, h4, h5⟩ := World.cells?_some h2
        have h6 := h5 0 hn
        rw [List.getElem?_eq_getElem (by omega), Addr.add_add] at h6
        exact ⟨_, by simpa [Addr.add] using h6⟩
      refine ⟨xs, ⟨by omega, fun y hy => (e3 y hy).1⟩, rfl, rfl, .cons rfl ?_ .nil⟩
      have := Rd.row (w := w) (F := FA w) (enc := enc) (n := n) (cap := cap) (xs := xs) (a := a) (vs := vs) (fun x hx => by obtain ⟨y, hy, rfl⟩ := List.mem_map.1 hx; exact (e3 y hy).2) (by omega) (fun h0 => by obtain ⟨v, hv⟩ := cell0 h0; exact (cell_lt hv).1) e4 e5 (fun h0 o => by obtain ⟨v, hv⟩ := cell0 (by omega); exact (cell_lt hv).2)
      rwa [e1] at this⟩

theorem Reads.arr {k : IntKind} {m : Nat} (ht : P.underlying t = some (.array m e)) (hc : P.cellsOf t = m) (he : P.underlying e = some (.int k)) (hce : P.cellsOf e = 1) : Reads P t (List Int) (eA m (eI k)) m (fun _ => True) :=
  ⟨hc, fun en w held fuel cs x h => by
    obtain ⟨xs, f, _, _, h1, h2, h3⟩ := DataW.trod_array ht h
    have hl : cs.length = m := by omega
    have hcell : ∀ i (hi : i < cs.length), ∃ z, cs[i] = .int k z := fun i hi => by
      have h4 := h3 i (by omega)
      rw [hce, Nat.mul_one, List.getElem?_eq_getElem (by omega)] at h4
      obtain ⟨z, hz, _⟩ := DataW.trod_int he h4
      rw [List.drop_eq_getElem_cons hi, List.take_succ_cons, List.take_zero] at hz
      simp only [List.cons.injEq, and_true] at hz
      exact ⟨z, hz⟩
    have key : ∀ (n i : Nat), i + n = m → RdL w (FA w) (cs.drop i) (eAc (eI k) 0 (cs.map fun v => match v with | .int _ z => z | _ => 0) n i) ∧ (eAc (eI k) 0 (cs.map fun v => match v with | .int _ z => z | _ => 0) n i).length = n := by
      intro n
      induction n with
      | zero => intro i hi; rw [List.drop_eq_nil_of_le (by omega)]; exact ⟨.nil, rfl⟩
      | succ n ih =>
        intro i hi
        have h5 : i < cs.length := by omega
        obtain ⟨z, hz⟩ := hcell i h5
        obtain ⟨g1, g2⟩ := ih (i + 1) (by omega)
        have hd : (cs.map fun v => match v with | .int _ z => z | _ => 0).getD i 0 = z := by
          rw [List.getD_eq_getElem?_getD, List.getElem?_map, List.getElem?_eq_getElem h5, hz]; rfl
        rw [List.drop_eq_getElem_cons h5, hz]
        unfold eAc
        rw [hd]
        exact ⟨.cons rfl (.s _) g1, by rw [List.length_cons, g2]⟩
    obtain ⟨g1, g2⟩ := key m 0 (by omega)
    exact ⟨_, trivial, hl, g2, by rw [List.drop_zero] at g1; exact g1⟩⟩
/-- The fields of a structure, from a cell on. -/
def ReadsF (P : Program) (fs : List Field) (k m : Nat) (β : Type) (cells : β → List PV) (ok : β → Prop) : Prop :=
  ∀ {H : Type} (en : TypeId × Value → H) (w : World) (held : Bool) (fuel : Nat) (cs : List Value) (xs : List (DataW H × List MemPlace)), cs.length = m → xs.length = fs.length → (∀ (i : Nat) (f : Field), fs[i]? = some f → DataW.trod en P w 0 (fun _ => true) held fuel f.type ((cs.drop f.offset).take (P.cellsOf f.type)) = xs[i]?) →
    ∃ y, ok y ∧ (cells y).length = m - k ∧ RdL w (FA w) (cs.drop k) (cells y)
theorem ReadsF.nil {m : Nat} : ReadsF P [] m m Unit (fun _ => []) (fun _ => True) := fun en w held fuel cs xs hl _ _ =>
  ⟨(), trivial, by simp, by rw [List.drop_eq_nil_of_le (by omega)]; exact .nil⟩
theorem ReadsF.cons {f : Field} {fs : List Field} {k m : Nat} {α β : Type} {enc : α → PV} {cells : β → List PV} {oka : α → Prop} {okb : β → Prop} (ha : Reads P f.type α enc n oka) (hf : f.offset = k) (hk : k + n ≤ m) (hb : ReadsF P fs (k + n) m β cells okb) :
    ReadsF P (f :: fs) k m (α × β) (fun p => (enc p.1).cells ++ cells p.2) (fun p => oka p.1 ∧ okb p.2) := fun en w held fuel cs xs hl hx h => by
  obtain ⟨hc, hr⟩ := ha
  have h0 := h 0 f rfl
  rw [hf, hc, List.getElem?_eq_getElem (by rw [hx]; simp)] at h0
  obtain ⟨y, y1, y2, y3, y4⟩ := hr en w held fuel _ _ h0
  cases xs with
  | nil => simp at hx
  | cons x xs =>
    obtain ⟨z, z1, z2, z3⟩ := hb en w held fuel cs xs hl (by simpa using hx) fun i g hg => by simpa using h (i + 1) g (by simpa using hg)
    refine ⟨(y, z), ⟨y1, z1⟩, by simp only [List.length_append, y3, z2]; omega, ?_⟩
    have e : cs.drop k = (cs.drop k).take n ++ cs.drop (k + n) := by rw [← List.drop_drop, List.take_append_drop]
    rw [e]
    exact y4.app z3
theorem Reads.st {fs : Array Field} {m : Nat} {β S : Type} {cells : β → List PV} {ok : β → Prop} {enc : S → PV} (ht : P.underlying t = some (.struct fs)) (hc : P.cellsOf t = m) {l : List Field} (hl : fs.toList = l) (hF : ReadsF P l 0 m β cells ok) (g : β → S) (hg : ∀ b, (enc (g b)).cells = cells b) :
    Reads P t S enc m (fun s => ∃ b, g b = s ∧ ok b) :=
  ⟨hc, fun en w held fuel cs x h => by
    subst hl
    obtain ⟨xs, k, _, _, h1, h2, h3⟩ := DataW.trod_struct ht h
    obtain ⟨y, y1, y2, y3⟩ := hF en w held k cs xs (by omega) (by simpa using h2) fun i f hf => h3 i f (by simpa using hf)
    exact ⟨g y, ⟨y, rfl, y1⟩, by omega, by rw [hg]; simpa using y2, by rw [hg]; simpa using y3⟩⟩

/-! ### parameters -/
variable {H : Type} {en : TypeId × Value → H} {w : World} {held : Bool} {base : Nat}
theorem Reads.one {α : Type} {enc : α → PV} {ok : α → Prop} (hr : Reads P t α enc 1 ok) (hs : ∀ y, (enc y).cells = [enc y]) {v : Value} {d : DataW H} {p : List MemPlace} (hv : v.cells.toList = [v]) (h : DataW.Trod en P w 0 (fun _ => true) held t v d p) : ∃ y, RdS w (FA w) (fun _ => .free) v (.p (enc y)) ∧ ok y := by
  obtain ⟨fuel, hf⟩ := h
  obtain ⟨y, y1, _, _, y4⟩ := hr.2 en w held fuel _ _ hf
  rw [hv, hs] at y4
  cases y4 with
  | cons _ h _ => exact ⟨y, .p h, y1⟩
theorem Reads.pslice {α : Type} {enc : α → PV} {k : Nat} {ok : List α → Prop} (hr : Reads P t (List α) (eL k enc) 1 ok) (ht : P.underlying t = some (.slice e)) {v : Value} {d : DataW H} {p : List MemPlace} (hv : Value.okWide P w .any base t v) (h : DataW.Trod en P w 0 (fun _ => true) held t v d p) :
    ∃ y, RdS w (FA w) (fun _ => .free) v (.p (.sl k α enc y)) ∧ ok y := by
  obtain ⟨a, len, cap, rfl⟩ := okWide_slice ht hv
  exact hr.one (fun _ => rfl) (by simp [Value.cells]) h
theorem Reads.pint {k : IntKind} {ok : Int → Prop} (hr : Reads P t Int (eI k) 1 ok) (ht : P.underlying t = some (.int k)) {v : Value} {d : DataW H} {p : List MemPlace} (hv : Value.okWide P w .any base t v) (h : DataW.Trod en P w 0 (fun _ => true) held t v d p) :
    ∃ y, RdS w (FA w) (fun _ => .free) v (.p (.s (.int k y))) ∧ ok y := by
  refine hr.one (fun _ => rfl) ?_ h
  simp only [Value.okWide, ht, Cell.okWide] at hv
  cases v <;> simp_all [Cell.ok, Value.cells]
theorem Reads.pbool {ok : Bool → Prop} (hr : Reads P t Bool eB 1 ok) (ht : P.underlying t = some .bool) {v : Value} {d : DataW H} {p : List MemPlace} (hv : Value.okWide P w .any base t v) (h : DataW.Trod en P w 0 (fun _ => true) held t v d p) :
    ∃ y, RdS w (FA w) (fun _ => .free) v (.p (.s (.bool y))) ∧ ok y := by
  refine hr.one (fun _ => rfl) ?_ h
  simp only [Value.okWide, ht, Cell.okWide] at hv
  cases v <;> simp_all [Cell.ok, Value.cells]
theorem Reads.pstruct {S : Type} {enc : S → PV} {m : Nat} {ok : S → Prop} {fs : Array Field} (hr : Reads P t S enc m ok) (ht : P.underlying t = some (.struct fs)) (hs : ∀ y, enc y = .agg (enc y).cells) {v : Value} {d : DataW H} {p : List MemPlace} (hv : Value.okWide P w .any base t v) (h : DataW.Trod en P w 0 (fun _ => true) held t v d p) :
    ∃ y, RdS w (FA w) (fun _ => .free) v (.p (enc y)) ∧ ok y := by
  simp only [Value.okWide, ht] at hv
  obtain ⟨cs, rfl, _, _⟩ := hv
  obtain ⟨fuel, hf⟩ := h
  obtain ⟨y, y1, _, _, y4⟩ := hr.2 en w held fuel _ _ hf
  refine ⟨y, .p ?_, y1⟩
  rw [hs]
  have := Rd.agg y4
  simpa [Value.cells] using this
end Go.Proofs.YtngcfmnmjkncoaaDoor.Q
