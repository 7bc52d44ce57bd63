/- The operations that yield pure data, told by one function, and that the machine yields what it tells; no condition but the typed premises. -/
import Derived.Test.YtmjkflppajienaaDoorRB
import Derived.Laws.Strings
import Derived.Laws.Strings2
import Derived.Laws.Strings3
import Derived.Laws.Concat
import Derived.ChangeKeysEq
namespace Go.Proofs.YtmjkflppajienaaDoor.R
open Go Go.RowKit
set_option linter.unusedVariables false
set_option linter.unusedSimpArgs false

/-- What is asked of a type. -/
inductive TK where
  | sl (e : Nat)
  | st (fs : List (Nat × Nat))
  | ar (n e : Nat)
  | str
  | int (k : IntKind)
  | bl
  | ot
def dk : TypeDesc → TK
  | .slice e => .sl e
  | .struct fs => .st (fs.toList.map fun f => (f.offset, f.type))
  | .array n e => .ar n e
  | .string => .str
  | .int k => .int k
  | .bool => .bl
  | _ => .ot
structure TI where
  size : Nat
  bytes : Nat
  k : TK
  zero : List PV
  ty : Option Ty
def zv : PV → Value
  | .s v => v
  | .sl _ _ _ => .slice none 0 0
  | .pt _ _ => .pointer none
  | .mp _ _ _ => .map none
  | .er _ => .nilIface
  | .agg _ => undef
def zok : PV → Bool
  | .s v => v.oneCell'
  | .sl _ _ [] => true
  | .pt _ none => true
  | .mp _ _ [] => true
  | .er false => true
  | _ => false
structure TIok (P : Program) (t : Nat) (i : TI) : Prop where
  size : (P.info? t).map (fun x => (x.size, x.bytes)) = some (i.size, i.bytes)
  k : (P.underlying t).map dk = some i.k
  zero : ((P.info? t).bind (·.zero)).map (fun z => z.cells.toList) = some (i.zero.map zv)
  zok : i.zero.all zok = true
  zl : Nat.beq i.zero.length i.size = true
abbrev Tab := Nat → Option TI
def TOk (P : Program) (T : Tab) : Prop := ∀ t i, T t = some i → TIok P t i
def tab (l : List (Nat × TI)) : Tab := match l with
  | [] => fun _ => none
  | (u, i) :: l => fun t => bif Nat.beq u t then some i else tab l t
def TIoks (P : Program) : List (Nat × TI) → Prop
  | [] => True
  | (t, i) :: l => TIok P t i ∧ TIoks P l
theorem TOk.of {P : Program} : ∀ {l : List (Nat × TI)}, TIoks P l → TOk P (tab l)
  | [], _, t, i, h => by simp [tab] at h
  | (u, j) :: l, ⟨h1, h2⟩, t, i, h => by
    simp only [tab] at h
    cases hb : Nat.beq u t with
    | true => rw [hb] at h; simp only [cond_true, Option.some.injEq] at h; subst h; obtain rfl := Nat.eq_of_beq_eq_true hb; exact h1
    | false => rw [hb] at h; exact TOk.of h2 t i h

/-- Is it kept as a row of cells? -/
def TK.agg : TK → Bool
  | .st _ | .ar _ _ => true
  | _ => false

section
variable {P : Program} {T : Tab} {t : Nat} {i : TI}

theorem TIok.info (h : TIok P t i) : ∃ x, P.info? t = some x ∧ x.size = i.size ∧ x.bytes = i.bytes := by
  have h1 := h.size
  cases hi : P.info? t with
  | none => rw [hi] at h1; simp at h1
  | some x => rw [hi] at h1; simp at h1; exact ⟨x, rfl, h1.1, h1.2⟩

theorem TIok.desc (h : TIok P t i) : ∃ d, P.underlying t = some d ∧ dk d = i.k := by
  have h1 := h.k
  cases hi : P.underlying t with
  | none => rw [hi] at h1; simp at h1
  | some x => rw [hi] at h1; simp at h1; exact ⟨x, rfl, h1⟩

theorem TIok.zeros (h : TIok P t i) : ∃ x z, P.info? t = some x ∧ x.size = i.size ∧ x.bytes = i.bytes ∧ x.zero = some z ∧ z.cells.toList = i.zero.map zv := by
  obtain ⟨x, hx, h1, h2⟩ := h.info
  have h3 := h.zero
  rw [hx] at h3
  simp only [Option.bind_some, Option.map_eq_some_iff] at h3
  obtain ⟨z, hz, h4⟩ := h3
  exact ⟨x, z, hx, h1, h2, hz, h4⟩

theorem TIok.slice (h : TIok P t i) {e : Nat} (hk : i.k = .sl e) : P.underlying t = some (.slice e) := by
  obtain ⟨d, hd, h1⟩ := h.desc
  rw [hd]
  cases d <;> simp [dk, hk] at h1
  rw [h1]
theorem TIok.string (h : TIok P t i) (hk : i.k = .str) : P.underlying t = some .string := by
  obtain ⟨d, hd, h1⟩ := h.desc
  rw [hd]
  cases d <;> simp [dk, hk] at h1
  rfl
theorem TIok.bool (h : TIok P t i) (hk : i.k = .bl) : P.underlying t = some .bool := by
  obtain ⟨d, hd, h1⟩ := h.desc
  rw [hd]
  cases d <;> simp [dk, hk] at h1
  rfl
theorem TIok.int (h : TIok P t i) {k : IntKind} (hk : i.k = .int k) : P.underlying t = some (.int k) := by
  obtain ⟨d, hd, h1⟩ := h.desc
  rw [hd]
  cases d <;> simp [dk, hk] at h1
  rw [h1]
theorem TIok.array (h : TIok P t i) {n e : Nat} (hk : i.k = .ar n e) : P.underlying t = some (.array n e) := by
  obtain ⟨d, hd, h1⟩ := h.desc
  rw [hd]
  cases d <;> simp [dk, hk] at h1
  rw [h1.1, h1.2]
theorem TIok.struct (h : TIok P t i) {fs : List (Nat × Nat)} (hk : i.k = .st fs) : ∃ Fs, P.underlying t = some (.struct Fs) ∧ Fs.toList.map (fun f => (f.offset, f.type)) = fs := by
  obtain ⟨d, hd, h1⟩ := h.desc
  rw [hd]
  cases d <;> simp [dk, hk] at h1
  exact ⟨_, rfl, by simpa using h1⟩

theorem TIok.run_isAgg (h : TIok P t i) (w : World) : (isAgg t).run P w = .ok i.k.agg w := by
  obtain ⟨d, hd, h1⟩ := h.desc
  rw [← h1]
  unfold isAgg
  simp only [Sem.run_bind, run_underlying hd, Result.andThen_ok]
  cases d <;> rfl
theorem TIok.run_size (h : TIok P t i) (w : World) : (sizeOf t).run P w = .ok i.size w := by
  obtain ⟨x, hx, h1, _⟩ := h.info
  simp [sizeOf, typeInfo, hx, h1]
end

/-! ### Rows of cells -/
section
variable {w : World} {F : Fz} {b off : Nat}

theorem RdC.vals : ∀ {off : Nat} {cs : List PV}, RdC w F b off cs → ∃ vs : List Value, vs.length = cs.length ∧ (∀ j v, vs[j]? = some v → w.cell? ⟨b, off + j, none⟩ = some v) ∧ RdL w F vs cs
  | _, _, .nil _ _ => ⟨[], rfl, by simp, .nil⟩
  | off, _, .cons (v := v) hF hv h1 h hs => by
    obtain ⟨vs, h2, h3, h4⟩ := RdC.vals hs
    refine ⟨v :: vs, by simp [h2], fun j u hj => ?_, .cons h1 h h4⟩
    cases j with
    | zero => simp at hj; subst hj; simpa using hv
    | succ j => simp at hj; have := h3 j u hj; rwa [show off + 1 + j = off + (j + 1) by omega] at this

theorem RdC.drop : ∀ {off : Nat} {cs : List PV} (n : Nat), RdC w F b off cs → RdC w F b (off + n) (cs.drop n)
  | off, cs, 0, h => by simpa using h
  | off, _, n + 1, .nil _ _ => by simpa using RdC.nil b _
  | off, _, n + 1, .cons hF hv h1 h hs => by
    have := RdC.drop n hs
    rwa [show off + 1 + n = off + (n + 1) by omega] at this
theorem RdC.take : ∀ {off : Nat} {cs : List PV} (n : Nat), RdC w F b off cs → RdC w F b off (cs.take n)
  | off, cs, 0, h => by simpa using RdC.nil b off
  | off, _, n + 1, .nil _ _ => by simpa using RdC.nil b _
  | off, _, n + 1, .cons hF hv h1 h hs => by simpa using RdC.cons hF hv h1 h (RdC.take n hs)
theorem RdC.append : ∀ {off : Nat} {cs ds : List PV}, RdC w F b off cs → RdC w F b (off + cs.length) ds → RdC w F b off (cs ++ ds)
  | off, _, ds, .nil _ _, h => by simpa using h
  | off, _, ds, .cons hF hv h1 h hs, hd => .cons hF hv h1 h (RdC.append hs (by simpa [Nat.add_assoc, Nat.add_comm 1] using hd))
theorem RdC.length_drop {cs ds : List PV} (h : RdC w F b off (cs ++ ds)) : RdC w F b (off + cs.length) ds := by simpa using h.drop cs.length

theorem RdL.length : ∀ {vs : List Value} {cs : List PV}, RdL w F vs cs → vs.length = cs.length
  | _, _, .nil => rfl
  | _, _, .cons _ _ hs => by simp [RdL.length hs]
theorem RdL.one : ∀ {vs : List Value} {cs : List PV}, RdL w F vs cs → ∀ v ∈ vs, v.oneCell' = true
  | _, _, .nil, v, hv => by simp at hv
  | _, _, .cons h1 _ hs, v, hv => by
    rcases List.mem_cons.1 hv with rfl | hv
    · exact h1
    · exact RdL.one hs v hv
theorem RdL.append : ∀ {vs us : List Value} {cs ds : List PV}, RdL w F vs cs → RdL w F us ds → RdL w F (vs ++ us) (cs ++ ds)
  | _, _, _, _, .nil, h => h
  | _, _, _, _, .cons h1 h hs, h2 => .cons h1 h (RdL.append hs h2)
theorem RdL.drop : ∀ {vs : List Value} {cs : List PV} (n : Nat), RdL w F vs cs → RdL w F (vs.drop n) (cs.drop n)
  | _, _, 0, h => by simpa using h
  | _, _, n + 1, .nil => by simpa using RdL.nil
  | _, _, n + 1, .cons _ _ hs => by simpa using RdL.drop n hs
theorem RdL.take : ∀ {vs : List Value} {cs : List PV} (n : Nat), RdL w F vs cs → RdL w F (vs.take n) (cs.take n)
  | _, _, 0, h => by simpa using RdL.nil
  | _, _, n + 1, .nil => by simpa using RdL.nil
  | _, _, n + 1, .cons h1 h hs => by simpa using RdL.cons h1 h (RdL.take n hs)
/-- A row of cells that stands in memory, and is frozen. -/
theorem RdC.of_vals : ∀ {off : Nat} {vs : List Value} {cs : List PV}, RdL w F vs cs → (∀ j v, vs[j]? = some v → w.cell? ⟨b, off + j, none⟩ = some v) → (∀ j, j < cs.length → F b (off + j)) → RdC w F b off cs
  | off, _, _, .nil, _, _ => .nil b off
  | off, _, _, .cons (v := v) h1 h hs, hc, hF => by
    refine .cons (by simpa using hF 0 (by simp)) (by simpa using hc 0 v (by simp)) h1 h (RdC.of_vals hs (fun j u hj => ?_) fun j hj => ?_)
    · have := hc (j + 1) u (by simpa using hj); rwa [show off + (j + 1) = off + 1 + j by omega] at this
    · have := hF (j + 1) (by simpa using hj); rwa [show off + (j + 1) = off + 1 + j by omega] at this

theorem RdSL.length {m : Mp} : ∀ {vs : List Value} {cs : List SV}, RdSL w F m vs cs → vs.length = cs.length
  | _, _, .nil => rfl
  | _, _, .cons _ hs => by simp [RdSL.length hs]
theorem RdSL.get {m : Mp} : ∀ {vs : List Value} {cs : List SV} {j : Nat} {s : SV}, RdSL w F m vs cs → cs[j]? = some s → ∃ v, vs[j]? = some v ∧ RdS w F m v s
  | _, _, j, s, .nil, h => by simp at h
  | _, _, 0, s, .cons hv hs, h => by simp at h; subst h; exact ⟨_, by simp, hv⟩
  | _, _, j + 1, s, .cons hv hs, h => by simp at h; obtain ⟨v, h1, h2⟩ := RdSL.get hs h; exact ⟨v, by simpa using h1, h2⟩
theorem RdSL.drop {m : Mp} : ∀ {vs : List Value} {cs : List SV} (n : Nat), RdSL w F m vs cs → RdSL w F m (vs.drop n) (cs.drop n)
  | _, _, 0, h => by simpa using h
  | _, _, n + 1, .nil => by simpa using RdSL.nil
  | _, _, n + 1, .cons _ hs => by simpa using RdSL.drop n hs
theorem RdSL.take {m : Mp} : ∀ {vs : List Value} {cs : List SV} (n : Nat), RdSL w F m vs cs → RdSL w F m (vs.take n) (cs.take n)
  | _, _, 0, h => by simpa using RdSL.nil
  | _, _, n + 1, .nil => by simpa using RdSL.nil
  | _, _, n + 1, .cons h hs => by simpa using RdSL.cons h (RdSL.take n hs)
theorem RdSL.append {m : Mp} : ∀ {vs us : List Value} {cs ds : List SV}, RdSL w F m vs cs → RdSL w F m us ds → RdSL w F m (vs ++ us) (cs ++ ds)
  | _, _, _, _, .nil, h => h
  | _, _, _, _, .cons h hs, h2 => .cons h (RdSL.append hs h2)
end

/-! ### Pure data out of what is told -/
mutual
/-- A thing told as pure data, the spare cells forgotten. -/
def pur : SV → Option PV
  | .p q => some q
  | .own _ n τ xs _ => some (.sl n τ xs)
  | .bf _ xs _ => some (.sl 1 .u xs)
  | .agg cs => match purL cs with | some ps => some (.agg ps) | none => none
  | _ => none
def purL : List SV → Option (List PV)
  | [] => some []
  | s :: ss => match pur s, purL ss with | some p, some ps => some (p :: ps) | _, _ => none
end
mutual
theorem pur_rd {w : World} {F : Fz} {m : Mp} : ∀ {s : SV} {v : Value} {q : PV}, pur s = some q → RdS w F m v s → Rd w F v q
  | .p _, v, q, h, .p hr => by simp only [pur, Option.some.injEq] at h; subst h; exact hr
  | .own _ _ _ _ _, _, q, h, .own0 hm => by simp only [pur, Option.some.injEq] at h; subst h; exact .nil _ _
  | .own _ _ _ _ _, _, q, h, .owne a hm => by simp only [pur, Option.some.injEq] at h; subst h; exact .emp _ _ _
  | .own _ _ _ _ _, _, q, h, .ownx hn hr hm => by simp only [pur, Option.some.injEq] at h; subst h; exact .sl hn (Nat.le_refl _) hr
  | .own _ _ _ _ _, _, q, h, .own hn hr hm hb hc hcm hs => by simp only [pur, Option.some.injEq] at h; subst h; exact .sl hn hc hr
  | .agg cs, _, q, h, .agg h1 hl => by
    simp only [pur] at h
    split at h
    · rename_i ps hps; simp only [Option.some.injEq] at h; subst h; exact .agg (purL_rd hps h1 hl)
    · cases h
  | .ptr _ _, _, q, h, _ => by simp [pur] at h
  | .row _ _ _, _, q, h, _ => by simp [pur] at h
  | .padr _, _, q, h, _ => by simp [pur] at h
  | .tup _, _, q, h, _ => by simp [pur] at h
  | .fn _ _, _, q, h, _ => by simp [pur] at h
  | .rw _ _ _ _, _, q, h, _ => by simp [pur] at h
  | .np _ _, _, q, h, _ => by simp [pur] at h
  | .bf _ _ _, _, q, h, .bf0 hm => by simp only [pur, Option.some.injEq] at h; subst h; exact .nil _ _
  | .bf _ xs _, _, q, h, .bf hr hm hb hc hcm hs => by simp only [pur, Option.some.injEq] at h; subst h; exact .sl (fun x hx => by obtain ⟨y, _, rfl⟩ := List.mem_map.1 hx; rfl) hc hr
  | .mo _, _, q, h, _ => by simp [pur] at h
  | .rp _ _ _ _, _, q, h, _ => by simp [pur] at h
  | .any, _, q, h, _ => by simp [pur] at h
theorem purL_rd {w : World} {F : Fz} {m : Mp} : ∀ {ss : List SV} {vs : List Value} {qs : List PV}, purL ss = some qs → (∀ v ∈ vs, v.oneCell' = true) → RdSL w F m vs ss → RdL w F vs qs
  | [], _, qs, h, h1, .nil => by simp only [purL, Option.some.injEq] at h; subst h; exact .nil
  | s :: ss, _, qs, h, h1, .cons hv hs => by
    simp only [purL] at h
    split at h
    · rename_i p ps hp hps
      simp only [Option.some.injEq] at h
      subst h
      exact .cons (h1 _ (by simp)) (pur_rd hp hv) (purL_rd hps (fun v hv => h1 v (by simp [hv])) hs)
    · cases h
end

/-- A constant told by its type: a nil slice as a row of nothing; an aggregate as its cells. -/
def co1 : PV → PV → PV
  | .sl n τ _, .s (.slice none 0 0) => .sl n τ []
  | .pt τ _, .s (.pointer none) => .pt τ none
  | .mp κ τ _, .s (.map none) => .mp κ τ []
  | .er _, .s .nilIface => .er false
  | _, q => q
def coL : List PV → List PV → List PV
  | z :: zs, q :: qs => co1 z q :: coL zs qs
  | _, qs => qs
def ones : List Value → Bool
  | [] => true
  | v :: vs => v.oneCell' && ones vs
def coP : Option TI → PV → PV
  | some i, .s (.agg vs) => bif ones vs.toList then .agg (coL i.zero (vs.toList.map .s)) else .s (.agg vs)
  | some i, .s v => match i.zero with | [z] => co1 z (.s v) | _ => .s v
  | some i, .agg qs => .agg (coL i.zero qs)
  | _, q => q
def coS (i : Option TI) : SV → SV
  | .p q => .p (coP i q)
  | s => s
theorem co1_rd {w : World} {F : Fz} {v : Value} : ∀ {z q : PV}, Rd w F v q → Rd w F v (co1 z q) := by
  intro z q h
  unfold co1
  split
  · cases h; exact .nil _ _
  · cases h; exact .pt0 _
  · cases h; exact .mp0 _ _
  · cases h; exact .er0
  · exact h
theorem coL_rd {w : World} {F : Fz} : ∀ {zs qs : List PV} {vs : List Value}, RdL w F vs qs → RdL w F vs (coL zs qs)
  | [], qs, vs, h => by simpa [coL] using h
  | z :: zs, [], vs, h => by simpa [coL] using h
  | z :: zs, q :: qs, _, .cons h1 h hs => .cons h1 (co1_rd h) (coL_rd hs)
theorem ones_rd {w : World} {F : Fz} : ∀ {vs : List Value}, ones vs = true → RdL w F vs (vs.map .s)
  | [], _ => .nil
  | v :: vs, h => by simp only [ones, Bool.and_eq_true] at h; exact .cons h.1 (.s v) (ones_rd h.2)
theorem coP_rd {w : World} {F : Fz} {v : Value} {i : Option TI} {q : PV} (h : Rd w F v q) : Rd w F v (coP i q) := by
  unfold coP
  split
  · rename_i i vs
    cases h
    cases ho : ones vs.toList with
    | true => have := Rd.agg (coL_rd (zs := i.zero) (ones_rd (w := w) (F := F) ho)); simpa using this
    | false => exact .s _
  · split
    · exact co1_rd h
    · exact h
  · rename_i qs
    cases h with
    | agg hl => exact .agg (coL_rd hl)
  · exact h
theorem coS_rd {w : World} {F : Fz} {m : Mp} {v : Value} {i : Option TI} {s : SV} (h : RdS w F m v s) : RdS w F m v (coS i s) := by
  unfold coS
  split
  · cases h with | p h => exact .p (coP_rd h)
  · exact h
end Go.Proofs.YtmjkflppajienaaDoor.R
