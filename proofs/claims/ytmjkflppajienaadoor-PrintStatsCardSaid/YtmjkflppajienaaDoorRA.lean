/- A store of pure data over the memory of Go: what a value reads as, what a call owns, and rules by which a Go function is walked with its memory out of sight; no condition but the typed premises. -/
import Derived.Orders
import Derived.Test.YtmjkflppajienaaDoorR0
import Derived.ControlIn
import Derived.CallsIn
import Derived.OrdersIn
import Derived.RangeFuncCalls
import Derived.Below
import Derived.Laws.AppendOwn
import Derived.Laws.MakeOwn
import Derived.Laws.Slices
import Derived.Laws.Cells
import Derived.Laws.Small
import Derived.KernelRfl
namespace Go.Proofs.YtmjkflppajienaaDoor.R
open Go Go.RowKit
set_option linter.unusedVariables false
set_option linter.unusedSimpArgs false
variable {bs : Nat → Nat}

/-- Codes of types: integers, bools, texts, floats, complex numbers, bytes, slices (n cells an element), structs (pairs that end in un), arrays, pointers to what nobody writes any more, maps that nobody writes any more, errors (nil, or not). -/
inductive Ty where
  | i (k : IntKind)
  | b
  | s
  | f
  | c
  | u
  | sl (n : Nat) (t : Ty)
  | un
  | pr (x y : Ty)
  | ar (n : Nat) (t : Ty)
  | pt (t : Ty)
  | mp (x y : Ty)
  | er
  deriving DecidableEq
/-- A row of n. -/
abbrev Vec (α : Type) : Nat → Type
  | 0 => Unit
  | n + 1 => α × Vec α n
abbrev Ty.den : Ty → Type
  | .i _ => Int
  | .b => Bool
  | .s => ByteArray
  | .f => Nat
  | .c => Nat × Nat
  | .u => UInt8
  | .sl _ t => List t.den
  | .un => Unit
  | .pr x y => x.den × y.den
  | .ar n t => Vec t.den n
  | .pt t => Option t.den
  | .mp x y => List (x.den × y.den)
  | .er => Bool

/-- Pure data. -/
inductive PV where
  | s (v : Value)
  | sl (n : Nat) (τ : Ty) (xs : List τ.den)
  | pt (τ : Ty) (x : Option τ.den)
  | mp (κ τ : Ty) (m : List (κ.den × τ.den))
  | er (x : Bool)
  | agg (cs : List PV)

def PV.cells : PV → List PV
  | .agg cs => cs
  | p => [p]
def Vec.flat {α β : Type} (f : α → List β) : (n : Nat) → Vec α n → List β
  | 0, _ => []
  | n + 1, v => f (Prod.fst (α := α) (β := Vec α n) v) ++ Vec.flat f n (Prod.snd (α := α) (β := Vec α n) v)
/-- How a thing of a coded type is told. -/
def Ty.enc : (t : Ty) → t.den → PV
  | .i k, x => .s (.int k x)
  | .b, x => .s (.bool x)
  | .s, x => .s (.string x)
  | .f, x => .s (.float .f64 x)
  | .c, x => .s (.complex .f64 (Prod.fst (α := Nat) (β := Nat) x) (Prod.snd (α := Nat) (β := Nat) x))
  | .u, x => .s (.int .u8 ((UInt8.toNat x : Nat) : Int))
  | .sl n t, x => .sl n t x
  | .un, _ => .agg []
  | .pr g h, x => .agg ((g.enc (Prod.fst (α := g.den) (β := h.den) x)).cells ++ (h.enc (Prod.snd (α := g.den) (β := h.den) x)).cells)
  | .ar n t, x => .agg (Vec.flat (fun y => (t.enc y).cells) n x)
  | .pt t, x => .pt t x
  | .mp g h, x => .mp g h x
  | .er, x => .er x

/-- What a temporary holds: pure data, a slice whose spare cells the call owns, pointers, values that hold these. -/
inductive SV where
  | p (v : PV)
  | own (e n : Nat) (τ : Ty) (xs : List τ.den) (j : Nat)
  | ptr (o off : Nat)
  | row (e len o : Nat)
  | padr (cs : List PV)
  | agg (cs : List SV)
  | tup (vs : List SV)
  | fn (f : Nat) (caps : List SV)
  | rw (e n len j : Nat)
  | np (o off : Nat)
  | bf (e : Nat) (xs : List UInt8) (j : Nat)
  | mo (o : Nat)
  | rp (o n : Nat) (i : Int) (off : Nat)
  | any

/-- What the call owns. -/
inductive Ob where
  | cells (t : Nat) (cs : List SV)
  | tail
  | mark
  | pin (i : Nat)
  | row (t n : Nat) (τ : Ty) (xs : List τ.den)
  | map (κ τ : Ty) (l : List (κ.den × τ.den))

abbrev Fz := Nat → Nat → Prop
/-- Where a thing lies: there is none; nowhere (no spare cells); a block of its own; the spare cells of a block, from the cell lo on. -/
inductive Pl where
  | free
  | no
  | obj (b : Nat)
  | tail (b lo : Nat)
abbrev Mp := Nat → Pl
/-- The cells that a thing owns. -/
def Pl.has : Pl → Nat → Nat → Prop
  | .free, _, _ => False
  | .no, _, _ => False
  | .obj b, b', _ => b = b'
  | .tail b lo, b', o => b = b' ∧ lo ≤ o
/-- The block in which it owns cells. -/
def Pl.blk : Pl → Option Nat
  | .free => none
  | .no => none
  | .obj b => some b
  | .tail b _ => some b

/-- A block that is a map. -/
def mapAt (w : World) (b : Nat) : Option (Array MapEntry × Nat) := match w.heap[b]? with
  | some (.map es c) => some (es, c)
  | _ => none
mutual
inductive Rd (w : World) (F : Fz) : Value → PV → Prop
  | s (v : Value) : Rd w F v (.s v)
  | nil (n : Nat) (τ : Ty) : Rd w F (.slice none 0 0) (.sl n τ [])
  | emp (a : Addr) (n : Nat) (τ : Ty) : Rd w F (.slice (some a) 0 0) (.sl n τ [])
  | sl {b off cap n : Nat} {τ : Ty} {xs : List τ.den} (hn : ∀ x ∈ xs.map τ.enc, x.cells.length = n) (hc : xs.length ≤ cap) (hr : RdC w F b off ((xs.map τ.enc).flatMap PV.cells)) :
      Rd w F (.slice (some ⟨b, off, none⟩) xs.length cap) (.sl n τ xs)
  | pt0 (τ : Ty) : Rd w F (.pointer none) (.pt τ none)
  | pt {b off : Nat} {τ : Ty} {x : τ.den} (hr : RdC w F b off (τ.enc x).cells) : Rd w F (.pointer (some ⟨b, off, none⟩)) (.pt τ (some x))
  | mp0 (κ τ : Ty) : Rd w F (.map none) (.mp κ τ [])
  | mp {b c : Nat} {κ τ : Ty} {es : Array MapEntry} {l : List (κ.den × τ.den)} (hF : F b 0) (hb : mapAt w b = some (es, c)) (hn : (es.toList.map (·.born)).Pairwise (· < ·) ∧ ∀ e ∈ es.toList, e.born < c) (hr : RdM w F κ τ es.toList l) : Rd w F (.map (some b)) (.mp κ τ l)
  | er0 : Rd w F .nilIface (.er false)
  | er1 (t : TypeId) (v : Value) : Rd w F (.iface t v) (.er true)
  | agg {vs : List Value} {cs : List PV} (h : RdL w F vs cs) : Rd w F (.agg vs.toArray) (.agg cs)
inductive RdL (w : World) (F : Fz) : List Value → List PV → Prop
  | nil : RdL w F [] []
  | cons {v : Value} {p : PV} {vs : List Value} {ps : List PV} (h1 : v.oneCell' = true) (h : Rd w F v p) (hs : RdL w F vs ps) : RdL w F (v :: vs) (p :: ps)
inductive RdC (w : World) (F : Fz) : Nat → Nat → List PV → Prop
  | nil (b off : Nat) : RdC w F b off []
  | cons {b off : Nat} {v : Value} {p : PV} {ps : List PV} (hF : F b off) (hv : w.cell? ⟨b, off, none⟩ = some v) (h1 : v.oneCell' = true) (h : Rd w F v p) (hs : RdC w F b (off + 1) ps) : RdC w F b off (p :: ps)
inductive RdM (w : World) (F : Fz) : (κ τ : Ty) → List MapEntry → List (κ.den × τ.den) → Prop
  | nil (κ τ : Ty) : RdM w F κ τ [] []
  | cons {κ τ : Ty} {e : MapEntry} {x : κ.den} {y : τ.den} {es : List MapEntry} {l : List (κ.den × τ.den)} (hk : Rd w F e.key (κ.enc x)) (hv : Rd w F e.val (τ.enc y)) (hs : RdM w F κ τ es l) : RdM w F κ τ (e :: es) ((x, y) :: l)
end

/-- What is frozen stays, and reads as it did. -/
def peek (w : World) (b o : Nat) : Option Value × Option (Array MapEntry × Nat) := (w.cell? ⟨b, o, none⟩, mapAt w b)
def Ext (w : World) (F : Fz) (w' : World) (F' : Fz) : Prop := ∀ b o, F b o → F' b o ∧ peek w' b o = peek w b o
theorem Ext.cell {w : World} {F : Fz} {w' : World} {F' : Fz} (k : Ext w F w' F') {b o : Nat} (h : F b o) : w'.cell? ⟨b, o, none⟩ = w.cell? ⟨b, o, none⟩ := congrArg Prod.fst (k b o h).2
theorem Ext.map {w : World} {F : Fz} {w' : World} {F' : Fz} (k : Ext w F w' F') {b o : Nat} (h : F b o) : mapAt w' b = mapAt w b := congrArg Prod.snd (k b o h).2

theorem Ext.kn {w : World} {F : Fz} {w' : World} {F' : Fz} (k : Ext w F w' F') (h : Known fun b o v => F b o ∧ w.cell? ⟨b, o, none⟩ = v) : Known fun b o v => F' b o ∧ w'.cell? ⟨b, o, none⟩ = v :=
  h.mono fun b o v hv => ⟨(k b o hv.1).1, (k.cell hv.1).trans hv.2⟩
theorem Ext.refl (w : World) (F : Fz) : Ext w F w F := fun _ _ h => ⟨h, rfl⟩
theorem Ext.trans {w w' w'' : World} {F F' F'' : Fz} (h : Ext w F w' F') (k : Ext w' F' w'' F'') : Ext w F w'' F'' :=
  fun b o hF => ⟨(k b o (h b o hF).1).1, ((k b o (h b o hF).1).2).trans (h b o hF).2⟩

mutual
theorem Rd.ext {w w' : World} {F F' : Fz} (k : Ext w F w' F') {v : Value} {p : PV} : Rd w F v p → Rd w' F' v p
  | .s v => .s v
  | .nil n τ => .nil n τ
  | .emp a n τ => .emp a n τ
  | .sl hn hc hr => .sl hn hc (RdC.ext k hr)
  | .pt0 τ => .pt0 τ
  | .pt hr => .pt (RdC.ext k hr)
  | .mp0 κ τ => .mp0 κ τ
  | .mp hF hb hn hr => .mp (k _ _ hF).1 ((k.map hF).trans hb) hn (RdM.ext k hr)
  | .er0 => .er0
  | .er1 t v => .er1 t v
  | .agg h => .agg (RdL.ext k h)
theorem RdL.ext {w w' : World} {F F' : Fz} (k : Ext w F w' F') {vs : List Value} {ps : List PV} : RdL w F vs ps → RdL w' F' vs ps
  | .nil => .nil
  | .cons h1 h hs => .cons h1 (Rd.ext k h) (RdL.ext k hs)
theorem RdC.ext {w w' : World} {F F' : Fz} (k : Ext w F w' F') {b o : Nat} {ps : List PV} : RdC w F b o ps → RdC w' F' b o ps
  | .nil b o => .nil b o
  | .cons hF hv h1 h hs => .cons (k _ _ hF).1 ((k.cell hF).trans hv) h1 (Rd.ext k h) (RdC.ext k hs)
theorem RdM.ext {w w' : World} {F F' : Fz} (k : Ext w F w' F') {κ τ : Ty} {es : List MapEntry} {l : List (κ.den × τ.den)} : RdM w F κ τ es l → RdM w' F' κ τ es l
  | .nil κ τ => .nil κ τ
  | .cons hk hv hs => .cons (Rd.ext k hk) (Rd.ext k hv) (RdM.ext k hs)
end

mutual
inductive RdS (w : World) (F : Fz) (m : Mp) : Value → SV → Prop
  | p {v : Value} {q : PV} (h : Rd w F v q) : RdS w F m v (.p q)
  | own0 {e n j : Nat} {τ : Ty} (hm : m j = .no) : RdS w F m (.slice none 0 0) (.own e n τ [] j)
  | owne {e n j : Nat} {τ : Ty} (a : Addr) (hm : m j = .no) : RdS w F m (.slice (some a) 0 0) (.own e n τ [] j)
  | ownx {e n j b off : Nat} {τ : Ty} {xs : List τ.den} (hn : ∀ x ∈ xs.map τ.enc, x.cells.length = n) (hr : RdC w F b off ((xs.map τ.enc).flatMap PV.cells)) (hm : m j = .no) :
      RdS w F m (.slice (some ⟨b, off, none⟩) xs.length xs.length) (.own e n τ xs j)
  | own {e n j b cap : Nat} {cur : Array Value} {τ : Ty} {xs : List τ.den} (hn : ∀ x ∈ xs.map τ.enc, x.cells.length = n) (hr : RdC w F b 0 ((xs.map τ.enc).flatMap PV.cells)) (hm : m j = .tail b (xs.length * n))
      (hb : w.heap[b]? = some (.cells cur e (0, 0))) (hc : xs.length ≤ cap) (hcm : cap ≤ maxLen) (hs : cur.size = cap * n) :
      RdS w F m (.slice (some ⟨b, 0, none⟩) xs.length cap) (.own e n τ xs j)
  | ptr {o off b : Nat} (hm : m o = .obj b) : RdS w F m (.pointer (some ⟨b, off, none⟩)) (.ptr o off)
  | row {e len o b : Nat} (hm : m o = .obj b) : RdS w F m (.slice (some ⟨b, 0, none⟩) len len) (.row e len o)
  | padr {b off : Nat} {cs : List PV} (hr : RdC w F b off cs) : RdS w F m (.pointer (some ⟨b, off, none⟩)) (.padr cs)
  | agg {vs : List Value} {cs : List SV} (h1 : ∀ v ∈ vs, v.oneCell' = true) (h : RdSL w F m vs cs) : RdS w F m (.agg vs.toArray) (.agg cs)
  | tup {vs : List Value} {cs : List SV} (h : RdSL w F m vs cs) : RdS w F m (.tuple vs.toArray) (.tup cs)
  | fn {f : Nat} {vs : List Value} {cs : List SV} (h : RdSL w F m vs cs) : RdS w F m (.func (.func f) #[] vs.toArray) (.fn f cs)
  | rw {e n len j b cap : Nat} {cur : Array Value} (hm : m j = .tail b 0) (hb : w.heap[b]? = some (.cells cur e (0, 0))) (hc : len ≤ cap) (hcm : cap ≤ maxLen) (hs : cur.size = cap * n) :
      RdS w F m (.slice (some ⟨b, 0, none⟩) len cap) (.rw e n len j)
  | np0 {o off : Nat} : RdS w F m (.pointer none) (.np o off)
  | np1 {o off b : Nat} (hm : m o = .obj b) : RdS w F m (.pointer (some ⟨b, off, none⟩)) (.np o off)
  | bf0 {e j : Nat} (hm : m j = .no) : RdS w F m (.slice none 0 0) (.bf e [] j)
  | bf {e j b cap : Nat} {cur : Array Value} {xs : List UInt8} (hr : RdC w F b 0 ((xs.map (Ty.enc .u)).flatMap PV.cells)) (hm : m j = .tail b xs.length) (hb : w.heap[b]? = some (.cells cur e (0, 0))) (hc : xs.length ≤ cap) (hcm : cap ≤ maxLen) (hs : cur.size = cap) :
      RdS w F m (.slice (some ⟨b, 0, none⟩) xs.length cap) (.bf e xs j)
  | mo {o b : Nat} (hm : m o = .obj b) : RdS w F m (.map (some b)) (.mo o)
  | rp {o n off b : Nat} {i : Int} (hm : m o = .obj b) : RdS w F m (.pointer (some ⟨b, i.toNat * n + off, none⟩)) (.rp o n i off)
  | any (v : Value) : RdS w F m v .any
inductive RdSL (w : World) (F : Fz) (m : Mp) : List Value → List SV → Prop
  | nil : RdSL w F m [] []
  | cons {v : Value} {p : SV} {vs : List Value} {ps : List SV} (h : RdS w F m v p) (hs : RdSL w F m vs ps) : RdSL w F m (v :: vs) (p :: ps)
end

mutual
def SV.ids : SV → List Nat
  | .p _ | .padr _ => []
  | .ptr o _ => [o]
  | .row _ _ o => [o]
  | .own _ _ _ _ j => [j]
  | .rw _ _ _ j => [j]
  | .np o _ => [o]
  | .bf _ _ j => [j]
  | .mo o => [o]
  | .rp o _ _ _ => [o]
  | .any => []
  | .agg cs => SV.idsL cs
  | .tup cs => SV.idsL cs
  | .fn _ cs => SV.idsL cs
def SV.idsL : List SV → List Nat
  | [] => []
  | s :: ss => SV.ids s ++ SV.idsL ss
end

/-- A thing lies where it did; spare cells lie in a block that is as it was. -/
def Same (w : World) (m : Mp) (w' : World) (m' : Mp) (j : Nat) : Prop := m' j = m j ∧ ∀ b lo, m j = .tail b lo → w'.heap[b]? = w.heap[b]?

theorem Same.refl (w : World) (m : Mp) (j : Nat) : Same w m w m j := ⟨rfl, fun _ _ _ => rfl⟩

mutual
theorem RdS.keep {w w' : World} {F F' : Fz} {m m' : Mp} (k : Ext w F w' F') {v : Value} {s : SV} : (∀ j ∈ s.ids, m j ≠ .free → Same w m w' m' j) → RdS w F m v s → RdS w' F' m' v s
  | _, .p h => .p (h.ext k)
  | hs, .own0 hm => .own0 ((hs _ (by simp [SV.ids]) (by rw [hm]; intro h; cases h)).1.trans hm)
  | hs, .owne a hm => .owne a ((hs _ (by simp [SV.ids]) (by rw [hm]; intro h; cases h)).1.trans hm)
  | hs, .ownx hn hr hm => .ownx hn (hr.ext k) ((hs _ (by simp [SV.ids]) (by rw [hm]; intro h; cases h)).1.trans hm)
  | hs, .own hn hr hm hb hc hcm hsz => .own hn (hr.ext k) ((hs _ (by simp [SV.ids]) (by rw [hm]; intro h; cases h)).1.trans hm) (((hs _ (by simp [SV.ids]) (by rw [hm]; intro h; cases h)).2 _ _ hm).trans hb) hc hcm hsz
  | hs, .ptr hm => .ptr ((hs _ (by simp [SV.ids]) (by rw [hm]; intro h; cases h)).1.trans hm)
  | hs, .row hm => .row ((hs _ (by simp [SV.ids]) (by rw [hm]; intro h; cases h)).1.trans hm)
  | _, .padr hr => .padr (hr.ext k)
  | hs, .agg h1 h => .agg h1 (RdSL.keep k (by simpa [SV.ids] using hs) h)
  | hs, .tup h => .tup (RdSL.keep k (by simpa [SV.ids] using hs) h)
  | hs, .fn h => .fn (RdSL.keep k (by simpa [SV.ids] using hs) h)
  | hs, .rw hm hb hc hcm hsz => .rw ((hs _ (by simp [SV.ids]) (by rw [hm]; intro h; cases h)).1.trans hm) (((hs _ (by simp [SV.ids]) (by rw [hm]; intro h; cases h)).2 _ _ hm).trans hb) hc hcm hsz
  | _, .np0 => .np0
  | hs, .np1 hm => .np1 ((hs _ (by simp [SV.ids]) (by rw [hm]; intro h; cases h)).1.trans hm)
  | hs, .bf0 hm => .bf0 ((hs _ (by simp [SV.ids]) (by rw [hm]; intro h; cases h)).1.trans hm)
  | hs, .bf hr hm hb hc hcm hsz => .bf (hr.ext k) ((hs _ (by simp [SV.ids]) (by rw [hm]; intro h; cases h)).1.trans hm) (((hs _ (by simp [SV.ids]) (by rw [hm]; intro h; cases h)).2 _ _ hm).trans hb) hc hcm hsz
  | hs, .mo hm => .mo ((hs _ (by simp [SV.ids]) (by rw [hm]; intro h; cases h)).1.trans hm)
  | hs, .rp hm => .rp ((hs _ (by simp [SV.ids]) (by rw [hm]; intro h; cases h)).1.trans hm)
  | _, .any v => .any v
theorem RdSL.keep {w w' : World} {F F' : Fz} {m m' : Mp} (k : Ext w F w' F') {vs : List Value} {ss : List SV} : (∀ j ∈ SV.idsL ss, m j ≠ .free → Same w m w' m' j) → RdSL w F m vs ss → RdSL w' F' m' vs ss
  | _, .nil => .nil
  | hs, .cons h ht => .cons (RdS.keep k (fun j hj => hs j (by simp [SV.idsL, hj])) h) (RdSL.keep k (fun j hj => hs j (by simp [SV.idsL, hj])) ht)
end

/-- Born one behind the other. -/
def BornOk (es : Array MapEntry) (c : Nat) : Prop := (es.toList.map (·.born)).Pairwise (· < ·) ∧ ∀ e ∈ es.toList, e.born < c
/-- What a block of one's own reads as. -/
inductive RdO (w : World) (F : Fz) (m : Mp) : Obj → Ob → Prop
  | cells {cur : Array Value} {t : Nat} {cs : List SV} (h : RdSL w F m cur.toList cs) (h1 : ∀ v ∈ cur.toList, v.oneCell' = true) : RdO w F m (.cells cur t (0, 0)) (.cells t cs)
  | row {cur : Array Value} {t n : Nat} {τ : Ty} {xs : List τ.den} (h : RdL w F cur.toList (xs.flatMap fun x => (τ.enc x).cells)) (hn : ∀ x ∈ xs, (τ.enc x).cells.length = n) : RdO w F m (.cells cur t (0, 0)) (.row t n τ xs)
  | map {es : Array MapEntry} {c : Nat} {κ τ : Ty} {l : List (κ.den × τ.den)} (h : RdM w F κ τ es.toList l) (hb : BornOk es c) : RdO w F m (.map es c) (.map κ τ l)
def Ob.ids : Ob → List Nat
  | .cells _ cs => SV.idsL cs
  | _ => []
def Ob.isO : Ob → Bool
  | .cells _ _ | .row _ _ _ _ | .map _ _ _ => true
  | _ => false
theorem RdO.keep {w w' : World} {F F' : Fz} {m m' : Mp} (k : Ext w F w' F') {x : Obj} {o : Ob} (hs : ∀ j ∈ o.ids, m j ≠ .free → Same w m w' m' j) (h : RdO w F m x o) : RdO w' F' m' x o := by
  cases h with
  | cells h h1 => exact .cells (h.keep k hs) h1
  | row h hn => exact .row (h.ext k) hn
  | map h hb => exact .map (h.ext k) hb

/-- The memory is what is said of it: each owned thing lies apart from the others and from what is frozen; a block of its own reads as its cells. -/
structure Sim (bs : Nat → Nat) (w : World) (F : Fz) (m : Mp) (h : List Ob) : Prop where
  fl : ∀ b o, F b o → b < w.heap.size
  lt : ∀ i b, (m i).blk = some b → b < w.heap.size
  fr : ∀ i b o, F b o → ¬ (m i).has b o
  inj : ∀ i k b, (m i).blk = some b → (m k).blk = some b → i = k
  dom : ∀ i, h.length ≤ i → m i = .free
  obj : ∀ i o, h[i]? = some o → o.isO = true → ∃ b x, m i = .obj b ∧ w.heap[b]? = some x ∧ RdO w F m x o
  tl : ∀ i, h[i]? = some .tail → ∀ b, m i ≠ .obj b
  pn : ∀ (k i : Nat), h[k]? = some (.pin i) → m i = .obj (bs i)
  kn : Known fun b o v => F b o ∧ w.cell? ⟨b, o, none⟩ = v
/-- The like, wherever the pinned things stand. -/
def SimE (w : World) (F : Fz) (m : Mp) (h : List Ob) : Prop := ∃ bs, Sim bs w F m h
theorem Sim.E {w : World} {F : Fz} {m : Mp} {h : List Ob} (hs : Sim bs w F m h) : SimE w F m h := ⟨bs, hs⟩
theorem SimE.kn {w : World} {F : Fz} {m : Mp} {h : List Ob} (hs : SimE w F m h) : Known fun b o v => F b o ∧ w.cell? ⟨b, o, none⟩ = v := let ⟨_, h⟩ := hs; h.kn
theorem SimE.fl {w : World} {F : Fz} {m : Mp} {h : List Ob} (hs : SimE w F m h) : ∀ b o, F b o → b < w.heap.size := let ⟨_, h⟩ := hs; h.fl
theorem Sim.ob {w : World} {F : Fz} {m : Mp} {h : List Ob} (hs : Sim bs w F m h) (i t : Nat) (cs : List SV) (hi : h[i]? = some (.cells t cs)) : ∃ b cur, m i = .obj b ∧ w.heap[b]? = some (.cells cur t (0, 0)) ∧ RdSL w F m cur.toList cs ∧ ∀ v ∈ cur.toList, v.oneCell' = true := by
  obtain ⟨b, x, h1, h2, h3⟩ := hs.obj i _ hi rfl
  cases h3 with | cells h h' => exact ⟨b, _, h1, h2, h, h'⟩

theorem SimE.ob {w : World} {F : Fz} {m : Mp} {h : List Ob} (hs : SimE w F m h) (i t : Nat) (cs : List SV) (hi : h[i]? = some (.cells t cs)) : ∃ b cur, m i = .obj b ∧ w.heap[b]? = some (.cells cur t (0, 0)) ∧ RdSL w F m cur.toList cs ∧ ∀ v ∈ cur.toList, v.oneCell' = true :=
  let ⟨_, h⟩ := hs; h.ob i t cs hi

theorem Pl.has_blk {p : Pl} {b o : Nat} (h : p.has b o) : p.blk = some b := by
  cases p with
  | free => exact h.elim
  | no => exact h.elim
  | obj b' => simp only [Pl.has] at h; simp [Pl.blk, h]
  | tail b' lo => simp only [Pl.has] at h; simp [Pl.blk, h.1]

theorem Pl.blk_has {p : Pl} {b : Nat} (h : p.blk = some b) : ∃ o, p.has b o := by
  cases p with
  | free => simp [Pl.blk] at h
  | no => simp [Pl.blk] at h
  | obj b' => simp only [Pl.blk, Option.some.injEq] at h; exact ⟨0, h⟩
  | tail b' lo => simp only [Pl.blk, Option.some.injEq] at h; exact ⟨lo, h, Nat.le_refl _⟩

/-- The world has grown: what is not owned is as it was; new places are new, or were owned. -/
structure Gr (w : World) (F : Fz) (m : Mp) (w' : World) (F' : Fz) (m' : Mp) : Prop where
  os : w'.os = w.os
  tape : w'.tape = w.tape
  output : w'.output = w.output
  size : w.heap.size ≤ w'.heap.size
  ext : Ext w F w' F'
  block : ∀ b, b < w.heap.size → (∀ i, (m i).blk ≠ some b) → w'.heap[b]? = w.heap[b]?
  own : ∀ i b o, (m' i).has b o → b < w.heap.size → ∃ k, (m k).has b o
  fl : ∀ b o, F' b o → F b o ∨ w.heap.size ≤ b ∨ ∃ k, (m k).has b o

theorem Gr.refl (w : World) (F : Fz) (m : Mp) : Gr w F m w F m := ⟨rfl, rfl, rfl, Nat.le_refl _, Ext.refl w F, fun _ _ _ => rfl, fun i b o h _ => ⟨i, h⟩, fun b o h => .inl h⟩

theorem Gr.trans {w w' w'' : World} {F F' F'' : Fz} {m m' m'' : Mp} (h : Gr w F m w' F' m') (k : Gr w' F' m' w'' F'' m'') : Gr w F m w'' F'' m'' :=
  ⟨k.os.trans h.os, k.tape.trans h.tape, k.output.trans h.output, Nat.le_trans h.size k.size, h.ext.trans k.ext,
    fun b hb hm => (k.block b (Nat.lt_of_lt_of_le hb h.size) (fun i hi => by
      obtain ⟨o, ho⟩ := Pl.blk_has hi
      obtain ⟨j, hj⟩ := h.own i b o ho hb
      exact hm j (Pl.has_blk hj))).trans (h.block b hb hm),
    fun i b o hi hb => by obtain ⟨j, hj⟩ := k.own i b o hi (Nat.lt_of_lt_of_le hb h.size); exact h.own j b o hj hb,
    fun b o hF => by
      rcases k.fl b o hF with h1 | h1 | ⟨j, hj⟩
      · exact h.fl b o h1
      · exact .inr (.inl (Nat.le_trans h.size h1))
      · by_cases hb : b < w.heap.size
        · exact .inr (.inr (h.own j b o hj hb))
        · exact .inr (.inl (by omega))⟩

/-- What the temporaries are told to be: each entry under the tests under which it is (none, but within a region that holds && or ||). -/
abbrev Tg := List (Nat × Bool)
abbrev Env := List (Nat × Tg × SV)
def Env.get (E : Env) (t : Nat) : Option (Tg × SV) := match E with
  | [] => none
  | (u, s) :: E => bif Nat.beq u t then some s else Env.get E t
/-- No entry hangs on the temporary. -/
def Env.free (d : Nat) : Env → Bool
  | [] => true
  | (_, tg, _) :: E => tg.all (fun x => !Nat.beq x.1 d) && Env.free d E

def Tags (a : Act) (tg : Tg) : Prop := ∀ x ∈ tg, a.tmps.getD x.1 undef = .bool x.2

/-- The calls that are put off: a range over a function leaves a mark of its own, with nothing behind it. -/
structure Dfr (w : World) (m : Mp) (h : List Ob) (ds : List Deferred) : Prop where
  nd : ds.Nodup
  at_ : ∀ d ∈ ds, ∃ i D, h[i]? = some .mark ∧ m i = .obj D ∧ d = { target := .collected D, args := #[] } ∧ w.heap[D]? = some (.deferred (some []))
theorem Dfr.nil {w : World} {m : Mp} {h : List Ob} : Dfr w m h [] := ⟨List.nodup_nil, fun _ hd => by simp at hd⟩
theorem Dfr.same {w w' : World} {m m' : Mp} {h h' : List Ob} {ds : List Deferred} (hd : Dfr w m h ds) (k : ∀ i D, h[i]? = some .mark → m i = .obj D → D < w.heap.size → w.heap[D]? = some (.deferred (some [])) → h'[i]? = some .mark ∧ m' i = .obj D ∧ w'.heap[D]? = w.heap[D]?) : Dfr w' m' h' ds :=
  ⟨hd.nd, fun d hm => by
    obtain ⟨i, D, h1, h2, h3, h4⟩ := hd.at_ d hm
    obtain ⟨g1, g2, g3⟩ := k i D h1 h2 (Array.getElem?_eq_some_iff.1 h4).1 h4
    exact ⟨i, D, g1, g2, h3, g3.trans h4⟩⟩

structure Rel (bs : Nat → Nat) (nt : Nat) (w : World) (F : Fz) (m : Mp) (E : Env) (h : List Ob) (a : Act) : Prop where
  size : a.tmps.size = nt
  defers : Dfr w m h a.defers
  env : ∀ t tg s, E.get t = some (tg, s) → (Tags a tg ∧ RdS w F m (a.tmps.getD t undef) s) ∨ (¬ Tags a tg ∧ a.tmps.getD t undef = undef)
  sim : Sim bs w F m h

/-- No deferred calls, no range over a function. -/
def opPlain (o : Oper) : Bool := match o.op with
  | .defer _ => false
  | _ => true
def plain : Code → Bool
  | .region _ ops _ => ops.toList.all opPlain
  | .seq x y => plain x && plain y
  | .cond _ x y => plain x && plain y
  | .block _ c => plain c
  | .loop c => plain c
  | .rangeFunc _ _ _ _ => false
  | .scope _ => false
  | _ => true
abbrev QB := Exit → Env → List Ob → Prop
/-- Nothing is asked where memory runs out. -/
def NoOut (Q : QB) : Prop := ∀ E h, ¬ Q .outgrown E h
/-- What a walk leaves. -/
def Post (bs : Nat → Nat) (nt : Nat) (Q : QB) (w : World) (F : Fz) (m : Mp) (x : Exit) (a' : Act) (w' : World) : Prop := ∃ E' h' F' m', Q x E' h' ∧ Rel bs nt w' F' m' E' h' a' ∧ Gr w F m w' F' m'

/-- Code that from this state on ends as Q says; in a round of a range over a function, too. -/
structure W (P : Program) (nt : Nat) (c : Code) (E : Env) (h : List Ob) (Q : QB) : Prop where
  out : ∀ {bs : Nat → Nat} a w F m, Rel bs nt w F m E h a → c.wp P (Post bs nt Q w F m) a w
  inn : ∀ {bs : Nat → Nat}, plain c = true → NoOut Q → ∀ l n a w F m, Rel bs nt w F m E h a → c.wpIn (Fence.wide.inRound l) n P (Post bs nt Q w F m) a w

theorem wp_loop_n {P : Program} {c : Code} {Q : Exit → Act → World → Prop} {a : Act} {w : World} (I : Nat → Act → World → Prop) (n : Nat) (h₀ : I n a w)
    (round : ∀ n a w, I n a w → c.wp P (Exit.then (fun a' w' => ∃ n', n' < n ∧ I n' a' w') Q) a w) : (Code.loop c).wp P Q a w := by
  intro b k cs
  have key : ∀ n a w, I n a w →
      ∃ e a' w', Q e a' w' ∧ Arrives P (lone (b.at a (.code c :: .inLoop c :: k)) cs w) b k cs e a' w' := by
    intro n
    induction n using Nat.strongRecOn with
    | _ n ih =>
      intro a w hI
      obtain ⟨e, a₁, w₁, hq, harr⟩ := round n a w hI b (.inLoop c :: k) cs
      cases e with
      | normal =>
        obtain ⟨n', hlt, hI₁⟩ := hq
        obtain ⟨e₂, a₂, w₂, hq₂, harr₂⟩ := ih n' hlt a₁ w₁ hI₁
        exact ⟨e₂, a₂, w₂, hq₂, .of_steps (Steps.trans harr (.one step_inLoop)) harr₂⟩
      | exit id => exact ⟨_, a₁, w₁, hq, .pass (x := .inLoop c) rfl (fun _ _ => .inl (by simp)) harr⟩
      | goto l => exact ⟨_, a₁, w₁, hq, .pass (x := .inLoop c) rfl (fun _ _ => .inl (by simp)) harr⟩
      | ret => exact ⟨_, a₁, w₁, hq, .pass (x := .inLoop c) rfl (fun _ _ => .inl (by simp)) harr⟩
      | panic ch => exact ⟨_, a₁, w₁, hq, .pass (x := .inLoop c) rfl (fun _ _ => .inl (by simp)) harr⟩
      | outgrown => exact ⟨_, a₁, w₁, hq, .pass (x := .inLoop c) rfl (fun _ _ => .inl (by simp)) harr⟩
  obtain ⟨e, a', w', hq, harr⟩ := key n a w h₀
  exact ⟨e, a', w', hq, .of_steps (.one step_loop) harr⟩
theorem wpIn_loop_n {G : Fence} {r : Nat} {P : Program} {c : Code} {Q : Exit → Act → World → Prop} {a : Act} {w : World} (I : Nat → Act → World → Prop) (n : Nat) (h₀ : I n a w)
    (round : ∀ n a w, I n a w → c.wpIn G r P (Exit.then (fun a' w' => ∃ n', n' < n ∧ I n' a' w') Q) a w) : (Code.loop c).wpIn G r P Q a w := by
  intro b k cs hro hb hr
  have key : ∀ n a w, I n a w →
      ∃ e a' w', Q e a' w' ∧ ArrivesIn (Machine.fenced P G) P (lone (b.atR a (.code c :: .inLoop c :: k)) cs w) b k cs e a' w' := by
    intro n
    induction n using Nat.strongRecOn with
    | _ n ih =>
      intro a w hI
      obtain ⟨e, a₁, w₁, hq, harr⟩ := round n a w hI b (.inLoop c :: k) cs hro hb hr
      cases e with
      | normal =>
        obtain ⟨n', hlt, hI₁⟩ := hq
        obtain ⟨e₂, a₂, w₂, hq₂, harr₂⟩ := ih n' hlt a₁ w₁ hI₁
        exact ⟨e₂, a₂, w₂, hq₂, .of_steps (StepsIn.trans harr (.one (fenced_calm hb hr rfl) stepR_inLoop)) harr₂⟩
      | exit id => exact ⟨_, a₁, w₁, hq, .pass (x := .inLoop c) rfl (fun _ _ => .inl (by simp)) harr⟩
      | goto l => exact ⟨_, a₁, w₁, hq, .pass (x := .inLoop c) rfl (fun _ _ => .inl (by simp)) harr⟩
      | ret => exact ⟨_, a₁, w₁, hq, .pass (x := .inLoop c) rfl (fun _ _ => .inl (by simp)) harr⟩
      | panic ch => exact ⟨_, a₁, w₁, hq, .pass (x := .inLoop c) rfl (fun _ _ => .inl (by simp)) harr⟩
      | outgrown => exact ⟨_, a₁, w₁, hq, .pass (x := .inLoop c) rfl (fun _ _ => .inl (by simp)) harr⟩
  obtain ⟨e, a', w', hq, harr⟩ := key n a w h₀
  exact ⟨e, a', w', hq, .of_steps (.one (fenced_calm hb hr rfl) stepR_loop) harr⟩

section rules
variable {P : Program} {nt : Nat} {E : Env} {h : List Ob} {Q : QB}

theorem Post.of {w w' : World} {F F' : Fz} {m m' : Mp} {Q' : QB} (hg : Gr w F m w' F' m') (hq : ∀ x E h, Q' x E h → Q x E h) {x : Exit} {a : Act} {w2 : World} (h : Post bs nt Q' w' F' m' x a w2) : Post bs nt Q w F m x a w2 :=
  let ⟨E', h', F'', m'', hQ, hr', hg'⟩ := h
  ⟨E', h', F'', m'', hq _ _ _ hQ, hr', hg.trans hg'⟩
theorem Post.here {w : World} {F : Fz} {m : Mp} {x : Exit} {a : Act} (hq : Q x E h) (hr : Rel bs nt w F m E h a) : Post bs nt Q w F m x a w := ⟨E, h, F, m, hq, hr, Gr.refl _ _ _⟩

theorem W_conseq {c : Code} {Q' : QB} (hW : W P nt c E h Q') (hq : ∀ x E h, Q' x E h → Q x E h) : W P nt c E h Q :=
  ⟨fun a w F m hr => wp_mono (hW.out a w F m hr) fun x a' w' hp => hp.of (Gr.refl _ _ _) hq,
   fun hp hn l n a w F m hr => wpIn_mono (hW.inn hp (fun E h hQ => hn E h (hq _ _ _ hQ)) l n a w F m hr) fun x a' w' hp => hp.of (Gr.refl _ _ _) hq⟩

theorem W_skip (hq : Q .normal E h) : W P nt .skip E h Q := ⟨fun a w F m hr => wp_skip (.here hq hr), fun _ _ l n a w F m hr => wpIn_skip (.here hq hr)⟩
theorem W_label {l : Nat} (hq : Q .normal E h) : W P nt (.label l) E h Q := ⟨fun a w F m hr => wp_label (.here hq hr), fun _ _ l n a w F m hr => wpIn_label (.here hq hr)⟩
theorem W_ret (hq : Q .ret E h) : W P nt .ret E h Q := ⟨fun a w F m hr => wp_ret (.here hq hr), fun _ _ l n a w F m hr => wpIn_ret (.here hq hr)⟩
theorem W_exit {id : Nat} (hq : Q (.exit id) E h) : W P nt (.exit id) E h Q := ⟨fun a w F m hr => wp_exit (.here hq hr), fun _ _ l n a w F m hr => wpIn_exit (.here hq hr)⟩

/-- What follows, behind a normal end. -/
def Nx (K : Env → List Ob → Prop) (Q : Exit → Env → List Ob → Prop) : Exit → Env → List Ob → Prop
  | .normal, E, h => K E h
  | x, E, h => Q x E h

theorem W_seq {x y : Code} (hW : W P nt x E h (Nx (fun E h => W P nt y E h Q) Q)) : W P nt (.seq x y) E h Q := by
  refine ⟨fun a w F m hr => ?_, fun hp hn l n a w F m hr => ?_⟩
  · refine wp_seq (wp_mono (hW.out a w F m hr) ?_)
    rintro e a' w' ⟨E', h', F', m', hQ, hr', hg⟩
    cases e with
    | normal => exact wp_mono (W.out hQ a' w' F' m' hr') fun e a'' w'' hp => hp.of hg fun _ _ _ h => h
    | _ => exact ⟨E', h', F', m', hQ, hr', hg⟩
  · simp only [plain, Bool.and_eq_true] at hp
    refine wpIn_seq (wpIn_mono (hW.inn hp.1 hn l n a w F m hr) ?_)
    rintro e a' w' ⟨E', h', F', m', hQ, hr', hg⟩
    cases e with
    | normal => exact wpIn_mono (W.inn hQ hp.2 hn l n a' w' F' m' hr') fun e a'' w'' hp => hp.of hg fun _ _ _ h => h
    | _ => exact ⟨E', h', F', m', hQ, hr', hg⟩

/-- A block's exit. -/
def Bk (id : Nat) (Q : Exit → Env → List Ob → Prop) : Exit → Env → List Ob → Prop
  | .exit i, E, h => bif Nat.beq i id then Q .normal E h else Q (.exit i) E h
  | x, E, h => Q x E h

theorem beq_ne {i j : Nat} (h : i ≠ j) : Nat.beq i j = false := by
  cases hb : Nat.beq i j with
  | false => rfl
  | true => exact absurd (Nat.eq_of_beq_eq_true hb) h

theorem W_block {id : Nat} {c : Code} (hW : W P nt c E h (Bk id Q)) : W P nt (.block id c) E h Q := by
  have key : ∀ {bs : Nat → Nat} w F m e a' w', Post bs nt (Bk id Q) w F m e a' w' → Exit.inBlock id (Post bs nt Q w F m) e a' w' := by
    rintro _ w F m e a' w' ⟨E', h', F', m', hQ, hr', hg⟩
    cases e with
    | exit i =>
      simp only [Bk] at hQ
      simp only [Exit.inBlock]
      split
      · rename_i hi; subst hi; rw [show Nat.beq i i = true from Nat.beq_refl i] at hQ; exact ⟨E', h', F', m', hQ, hr', hg⟩
      · rename_i hi; rw [beq_ne hi] at hQ; exact ⟨E', h', F', m', hQ, hr', hg⟩
    | _ => exact ⟨E', h', F', m', hQ, hr', hg⟩
  exact ⟨fun a w F m hr => wp_block (wp_mono (hW.out a w F m hr) (key w F m)),
    fun hp hn l n a w F m hr => wpIn_block (wpIn_mono (hW.inn hp hn l n a w F m hr) (key w F m))⟩

/-- A loop by a relation that each round keeps, and a number that falls. -/
theorem W_loop {c : Code} (I : Nat → Env → List Ob → Prop) (n : Nat) (hI : I n E h) (round : ∀ n E h, I n E h → W P nt c E h (Nx (fun E' h' => ∃ n', n' < n ∧ I n' E' h') Q)) : W P nt (.loop c) E h Q := by
  refine ⟨fun {bs} a w F m hr => ?_, fun {bs} hp hn l r a w F m hr => ?_⟩
  · refine wp_loop_n (fun n a' w' => ∃ E' h' F' m', I n E' h' ∧ Rel bs nt w' F' m' E' h' a' ∧ Gr w F m w' F' m') n ⟨E, h, F, m, hI, hr, Gr.refl _ _ _⟩ ?_
    rintro n a' w' ⟨E', h', F', m', hI', hr', hg⟩
    refine wp_mono ((round n E' h' hI').out a' w' F' m' hr') ?_
    rintro e a'' w'' ⟨E'', h'', F'', m'', hQ, hr'', hg'⟩
    cases e with
    | normal => obtain ⟨n', hlt, hI''⟩ := hQ; exact ⟨n', hlt, E'', h'', F'', m'', hI'', hr'', hg.trans hg'⟩
    | _ => exact ⟨E'', h'', F'', m'', hQ, hr'', hg.trans hg'⟩
  · refine wpIn_loop_n (fun n a' w' => ∃ E' h' F' m', I n E' h' ∧ Rel bs nt w' F' m' E' h' a' ∧ Gr w F m w' F' m') n ⟨E, h, F, m, hI, hr, Gr.refl _ _ _⟩ ?_
    rintro n a' w' ⟨E', h', F', m', hI', hr', hg⟩
    refine wpIn_mono ((round n E' h' hI').inn hp hn l r a' w' F' m' hr') ?_
    rintro e a'' w'' ⟨E'', h'', F'', m'', hQ, hr'', hg'⟩
    cases e with
    | normal => obtain ⟨n', hlt, hI''⟩ := hQ; exact ⟨n', hlt, E'', h'', F'', m'', hI'', hr'', hg.trans hg'⟩
    | _ => exact ⟨E'', h'', F'', m'', hQ, hr'', hg.trans hg'⟩

/-- A smaller store: the named entries that hang on no test. -/
def Env.keep (E : Env) : List Nat → Env
  | [] => []
  | t :: ts => match E.get t with
    | some ([], s) => (t, [], s) :: Env.keep E ts
    | _ => Env.keep E ts

theorem Env.keep_get {E : Env} : ∀ {L : List Nat} {t : Nat} {x : Tg × SV}, (E.keep L).get t = some x → E.get t = some x
  | [], t, x, h => by simp [Env.keep, Env.get] at h
  | u :: L, t, x, h => by
    simp only [Env.keep] at h
    split at h
    · rename_i s hs
      simp only [Env.get] at h
      cases hb : Nat.beq u t with
      | true =>
        rw [hb] at h
        obtain rfl := Nat.eq_of_beq_eq_true hb
        simp only [cond_true, Option.some.injEq] at h
        subst h
        exact hs
      | false => rw [hb] at h; exact Env.keep_get h
    · exact Env.keep_get h

theorem W_keep {c : Code} (L : List Nat) {E' : Env} (hE : E.keep L = E') (hW : W P nt c E' h Q) : W P nt c E h Q := by
  subst hE
  have key : ∀ {bs : Nat → Nat} {a w F m}, Rel bs nt w F m E h a → Rel bs nt w F m (E.keep L) h a := fun hr => ⟨hr.size, hr.defers, fun t tg s ht => hr.env t tg s (Env.keep_get ht), hr.sim⟩
  exact ⟨fun a w F m hr => hW.out a w F m (key hr), fun hp hn l n a w F m hr => hW.inn hp hn l n a w F m (key hr)⟩

/-- Under these tests an entry can be read. -/
def Tg.le : Tg → Tg → Bool
  | [], _ => true
  | x :: tg, A => A.any (fun y => Nat.beq x.1 y.1 && (x.2 == y.2)) && Tg.le tg A

/-- What an operand is told to be, under the tests A. -/
def look (E : Env) (A : Tg) : Operand → Option SV
  | .tmp t => match E.get t with
    | some (tg, s) => bif Tg.le tg A then some s else none
    | none => none
  | .const v => some (.p (.s v))
  | .func f => some (.fn f [])
  | .global _ => none

theorem Tg.le_tags {a : Act} {A : Tg} (hA : Tags a A) : ∀ {tg : Tg}, Tg.le tg A = true → Tags a tg
  | [], _ => by intro x hx; simp at hx
  | x :: tg, h => by
    simp only [Tg.le, Bool.and_eq_true, List.any_eq_true] at h
    obtain ⟨⟨y, hy, h1, h2⟩, h3⟩ := h
    intro z hz
    rcases List.mem_cons.1 hz with rfl | hz
    · have e1 : z.1 = y.1 := Nat.eq_of_beq_eq_true h1
      have e2 : z.2 = y.2 := by simpa using h2
      rw [e1, e2]; exact hA y hy
    · exact Tg.le_tags hA h3 z hz

theorem undef_ne_bool (b : Bool) : undef ≠ .bool b := by intro h; cases h

/-- An entry whose tests hold is as it is told to be. -/
theorem look_rd {w : World} {F : Fz} {m : Mp} {a : Act} {A : Tg} (hr : ∀ t tg s, E.get t = some (tg, s) → Tags a tg → RdS w F m (a.tmps.getD t undef) s) (hA : Tags a A) : ∀ {x : Operand} {s : SV}, look E A x = some s → RdS w F m (a.eval x) s := by
  intro x s hl
  cases x with
  | tmp t =>
    simp only [look] at hl
    split at hl
    · rename_i tg s' hs
      cases hb : Tg.le tg A with
      | true => rw [hb] at hl; simp only [cond_true, Option.some.injEq] at hl; subst hl; exact hr t tg s' hs (Tg.le_tags hA hb)
      | false => rw [hb] at hl; simp at hl
    · cases hl
  | const v => simp only [look, Option.some.injEq] at hl; subst hl; exact .p (.s v)
  | func f => simp only [look, Option.some.injEq] at hl; subst hl; exact .fn (vs := []) .nil
  | global g => simp [look] at hl

theorem rd_s {w : World} {F : Fz} {m : Mp} {v u : Value} (h : RdS w F m v (.p (.s u))) : v = u := by
  cases h with
  | p h => cases h; rfl

theorem Rel.rd {w : World} {F : Fz} {m : Mp} {a : Act} (hr : Rel bs nt w F m E h a) : ∀ t tg s, E.get t = some (tg, s) → Tags a tg → RdS w F m (a.tmps.getD t undef) s := by
  intro t tg s ht hT
  rcases hr.env t tg s ht with h1 | ⟨h1, h2⟩
  · exact h1.2
  · exact absurd hT h1

theorem Tags.nil (a : Act) : Tags a [] := by intro x hx; simp at hx

theorem W_cond {c : Operand} {x y : Code} {t : Bool} (hc : look E [] c = some (.p (.s (.bool t)))) (hx : t = true → W P nt x E h Q) (hy : t = false → W P nt y E h Q) : W P nt (.cond c x y) E h Q := by
  refine ⟨fun a w F m hr => ?_, fun hp hn l n a w F m hr => ?_⟩
  · refine wp_cond (t := t) (rd_s (look_rd hr.rd (Tags.nil a) hc)) ?_
    cases t
    · simpa using (hy rfl).out a w F m hr
    · simpa using (hx rfl).out a w F m hr
  · simp only [plain, Bool.and_eq_true] at hp
    refine wpIn_cond (t := t) (rd_s (look_rd hr.rd (Tags.nil a) hc)) ?_
    cases t
    · simpa using (hy rfl).inn hp.2 hn l n a w F m hr
    · simpa using (hx rfl).inn hp.1 hn l n a w F m hr

end rules
end Go.Proofs.YtmjkflppajienaaDoor.R
