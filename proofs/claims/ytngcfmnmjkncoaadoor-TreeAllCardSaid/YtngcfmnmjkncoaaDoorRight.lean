/- path.Right: a range over strings.SplitSeq(s, "/"), by hand. -/
import Derived.RangeFuncNested
import Derived.RangeFuncBound
import Derived.RangeFuncCalls
import Derived.RangeFuncLeaves
import Derived.Shelf.Abstract
import Derived.Shelf.RegionOpen
import Derived.WalkKit
import Derived.OwnWalkIn
import Derived.TacticsInMore
import Derived.LoopNIn
import Derived.LoopIn
import Derived.Deep.RegionHeld
import Derived.Test.YtngcfmnmjkncoaaDoorProg
import Derived.Test.YtngcfmnmjkncoaaDoorShelf
import Derived.Below
namespace Go.Proofs.YtngcfmnmjkncoaaDoor.Right
open Go.RowKit Go.Shelf Go.Proofs
set_option linter.unusedVariables false
set_option linter.unusedSimpArgs false
attribute [local go_sem] Oper.semAt_some

/-- The three boxes that strings.SplitSeq lays. -/
def boxes (w : World) (s sep : ByteArray) : World := ((w.alloc (.cells #[.string s] 9)).alloc (.cells #[.string sep] 9)).alloc (.cells #[.int .i64 0] 3)

set_option maxRecDepth 100000 in
set_option maxHeartbeats 2000000 in
theorem splitSeq (s sep : ByteArray) (w : World) :
    Calls Tryd.prog 73 #[.string s, .string sep, .int .i64 0] w fun e w' => e = .returned (.func (.func 102) #[] #[.pointer (some ⟨w.heap.size + 1, 0, none⟩), .pointer (some ⟨w.heap.size, 0, none⟩), .pointer (some ⟨w.heap.size + 2, 0, none⟩)]) ∧ w' = boxes w s sep := by
  go_enter Tryd.func73, Tryd.ntmps73
  go_wp2
  go_ret
  exact ⟨rfl, rfl⟩
set_option maxRecDepth 100000 in
set_option maxHeartbeats 2000000 in
theorem splitSeq0 (s sep : ByteArray) (w : World) :
    Calls Tryd.prog 44 #[.string s, .string sep] w fun e w' => e = .returned (.func (.func 102) #[] #[.pointer (some ⟨w.heap.size + 1, 0, none⟩), .pointer (some ⟨w.heap.size, 0, none⟩), .pointer (some ⟨w.heap.size + 2, 0, none⟩)]) ∧ w' = boxes w s sep := by
  go_enter Tryd.func44, Tryd.ntmps44
  go_wp2_with (go_at_call 73; refine (splitSeq _ _ _).mono ?_; rintro e w' ⟨rfl, rfl⟩)
  go_ret
  exact ⟨rfl, rfl⟩

def idx (s : ByteArray) : Int := Lib.indexByte s.data.toList 47
def piece (s : ByteArray) : ByteArray := if idx s < 0 then s else s.extract 0 (idx s).toNat
def tail (s : ByteArray) : ByteArray := s.extract ((idx s).toNat + 1) s.size

theorem idx_lt (l : List UInt8) (c : UInt8) : Lib.indexByte l c < l.length := by
  induction l with
  | nil => unfold Lib.indexByte; simp
  | cons b l ih =>
    unfold Lib.indexByte
    rw [List.length_cons]
    split
    · omega
    · split
      · omega
      · omega
/-- How much is left in the box. -/
def left (B : Nat) (w : World) : Nat := match w.cell? ⟨B, 0, none⟩ with | some (.string s) => s.size | _ => 0
set_option maxRecDepth 100000 in
set_option maxHeartbeats 2000000 in
theorem iter (n l B : Nat) (hn : 2 ≤ n) (A A' : ByteArray → World → Prop) (Z : World → Prop)
    (hc : ∀ s W, A s W → W.cell? ⟨B, 0, none⟩ = some (.string s) ∧ W.frozen? ⟨B, 0, none⟩ = false ∧ W.cell? ⟨B + 1, 0, none⟩ = some (.string ⟨#[47]⟩) ∧ W.cell? ⟨B + 2, 0, none⟩ = some (.int .i64 0) ∧ s.size ≤ 200)
    (hc' : ∀ s W, A' s W → W.cell? ⟨B, 0, none⟩ = some (.string s) ∧ W.frozen? ⟨B, 0, none⟩ = false ∧ W.cell? ⟨B + 1, 0, none⟩ = some (.string ⟨#[47]⟩) ∧ W.cell? ⟨B + 2, 0, none⟩ = some (.int .i64 0) ∧ s.size ≤ 200)
    (hY : ∀ s W, A s W → YieldAt Fence.wide (n - 1) Tryd.prog l #[.string (piece s)] W fun e W' => (e = .returned (.bool true) ∧ A' s W') ∨ (e = .returned (.bool false) ∧ Z W'))
    (hS : ∀ s W, A' s W → 0 ≤ idx s → A (tail s) (W.setCell ⟨B, 0, none⟩ (.string (tail s))))
    (s : ByteArray) (W : World) (h0 : A s W) :
    CallsIn Fence.wide n Tryd.prog 102 #[.func (.yield l) #[] #[], .pointer (some ⟨B + 1, 0, none⟩), .pointer (some ⟨B, 0, none⟩), .pointer (some ⟨B + 2, 0, none⟩)] W fun e W' =>
      (∃ v, e = .returned v) ∧ ((∃ s, idx s < 0 ∧ A' s W') ∨ Z W') := by
  refine callsIn_of_wp Tryd.func102 rfl trivial ?_ rfl
  simp only [Tryd.ntmps102, List.size_toArray, List.length_cons, List.length_nil, Nat.reduceAdd, Nat.reduceSub, Array.replicate_succ, Array.replicate_zero, List.push_toArray, List.append_toArray, List.nil_append, List.cons_append]
  obtain ⟨c0, c1, c2, c3, c4⟩ := hc s W h0
  gi_wp2
  clear c0 c1 c2 c3 c4
  gi_loopw [7] (fun p wr => ∃ s, A s wr) (fun p wr => left B wr)
  case atStart => exact ⟨s, h0⟩
  case round =>
    obtain ⟨t, hA⟩ := hrel
    obtain ⟨c0, c1, c2, c3, c4⟩ := hc t wr hA
    obtain ⟨fn, tmps, assign, body, hy, hR⟩ := hY t wr hA
    by_cases hneg : Lib.indexByte t.data.toList 47 < 0
    · have hp : piece t = t := if_pos hneg
      rw [hp] at hy
      gi_wp2_with (refine ⟨trivial, fun _ => by omega, ?_⟩; gi_at_call 104; refine (callsIn_wide.2 (Tryd.strings_Index_one _ _ _)).mono ?_; rintro e w' ⟨rfl, rfl⟩)
      refine ⟨fun _ => by omega, hR.mono ?_⟩
      rintro e W' (⟨rfl, hA'⟩ | ⟨rfl, hZ⟩)
      · gi_wp2
        go_end0
        exact ⟨⟨_, rfl⟩, .inl ⟨t, hneg, hA'⟩⟩
      · gi_wp2
        go_end0
        exact ⟨⟨_, rfl⟩, .inr hZ⟩
    · obtain ⟨m, hm⟩ := Int.eq_ofNat_of_zero_le (Int.not_lt.1 hneg)
      have hlt : m < t.size := by have := idx_lt t.data.toList 47; rw [hm, Array.length_toList] at this; exact Int.ofNat_lt.1 this
      have hp : piece t = t.extract 0 m := by unfold piece idx; rw [if_neg hneg, hm]; rfl
      rw [hp] at hy
      have hw0 : wrap64 (m : Int) = m := by unfold wrap64; omega
      have hw1 : wrap64 ((m : Int) + 1) = m + 1 := by unfold wrap64; omega
      gi_wp2_with (refine ⟨trivial, fun _ => by omega, ?_⟩; gi_at_call 104; refine (callsIn_wide.2 (Tryd.strings_Index_one _ _ _)).mono ?_; rintro e w' ⟨rfl, rfl⟩; rw [hm])
      refine ⟨fun _ => by omega, hR.mono ?_⟩
      rintro e W' (⟨rfl, hA'⟩ | ⟨rfl, hZ⟩)
      · obtain ⟨d0, d1, d2, d3, d4⟩ := hc' t W' hA'
        gi_wp2
        have hi : idx t = (m : Int) := hm
        have ht : tail t = t.extract (m + 1) t.size := by unfold tail; rw [hi]; rfl
        rw [← ht]
        refine ⟨⟨_, hS t W' hA' (by rw [hi]; omega)⟩, ?_⟩
        have e1 : left B (W'.setCell ⟨B, 0, none⟩ (.string (tail t))) = (tail t).size := by
          unfold left
          rw [World.cell?_setCell_same' _ _ _ (by rw [d0]; rfl)]
        have e2 : left B w' = t.size := by unfold left; rw [c0]
        rw [e1, e2, ht, ByteArray.size_extract]
        omega
      · gi_wp2
        refine bodyPost_ret (results_none rfl _ _ _) rfl ?_
        exact ⟨⟨_, rfl⟩, .inr hZ⟩

/-- How a round of 'path.Right' may be left. -/
def roundLeft (D : Nat) (A' X : World → Prop) (W : World) : Exit → Act → World → Prop
  | .normal, _, W' => (∀ k o, D ≤ k → W.heap[k]? = some o → o.isCells = false → W'.heap[k]? = some o) ∧ A' W'
  | .ret, _, W' => (∀ k o, D ≤ k → W.heap[k]? = some o → o.isCells = false → W'.heap[k]? = some o) ∧ X W'
  | _, _, _ => False

/-- The statement 'for p := range strings.SplitSeq(s, "/") { .. }', its body leaving by 'return' alone. -/
theorem range {g : Operand} {p : Tmp} {assign body : Code} {Q : Exit → Act → World → Prop} {a : Act} {w : World} (n B : Nat) (hn : 5 ≤ n) (hBw : B + 3 ≤ w.heap.size)
    (hg : a.eval g = .func (.func 102) #[] #[.pointer (some ⟨B + 1, 0, none⟩), .pointer (some ⟨B, 0, none⟩), .pointer (some ⟨B + 2, 0, none⟩)])
    (A A' : ByteArray → World → Prop) (X : World → Prop)
    (pA : ∀ s W k o, A s W → w.heap.size ≤ k → A s (W.putObj k o)) (pA' : ∀ s W k o, A' s W → w.heap.size ≤ k → A' s (W.putObj k o)) (pX : ∀ W k o, X W → w.heap.size ≤ k → X (W.putObj k o))
    (hc : ∀ s W, A s W → W.cell? ⟨B, 0, none⟩ = some (.string s) ∧ W.frozen? ⟨B, 0, none⟩ = false ∧ W.cell? ⟨B + 1, 0, none⟩ = some (.string ⟨#[47]⟩) ∧ W.cell? ⟨B + 2, 0, none⟩ = some (.int .i64 0) ∧ s.size ≤ 200)
    (hc' : ∀ s W, A' s W → W.cell? ⟨B, 0, none⟩ = some (.string s) ∧ W.frozen? ⟨B, 0, none⟩ = false ∧ W.cell? ⟨B + 1, 0, none⟩ = some (.string ⟨#[47]⟩) ∧ W.cell? ⟨B + 2, 0, none⟩ = some (.int .i64 0) ∧ s.size ≤ 200)
    (hS : ∀ s W, A' s W → 0 ≤ idx s → A (tail s) (W.setCell ⟨B, 0, none⟩ (.string (tail s))))
    (s : ByteArray) (h0 : ∀ o o', A s ((w.alloc o).alloc o')) (a₁ : ByteArray → Act)
    (hassign : ∀ (l : Nat) (x : ByteArray) (W : World) (K : Act → World → Prop), K (a₁ x) W →
      assign.wpIn (Fence.wide.inRound l) (n - 1 - 1) Tryd.prog (Exit.then K (fun _ _ _ => False)) { tmps := ((#[p] : Array Tmp).zip (#[.string x] : Array Value)).foldl (fun t (p, v) => t.setIfInBounds p v) a.tmps, defers := [] } W)
    (hbody : ∀ (l : Nat) (s : ByteArray) (W : World), A s W → body.wpIn (Fence.wide.inRound l) (n - 1 - 1) Tryd.prog (roundLeft w.heap.size (A' s) X W) (a₁ (piece s)) W)
    (hdone : ∀ (D : Nat) (s : ByteArray) (W : World), w.heap.size ≤ D → idx s < 0 → A' s W → W.heap[D]? = some (.deferred (some [])) → Q .normal { a with defers := { target := .collected D, args := #[] } :: a.defers } W)
    (hstop : ∀ (D : Nat) (W : World), w.heap.size ≤ D → X W → W.heap[D]? = some (.deferred (some [])) → Code.ret.wpIn Fence.wide n Tryd.prog Q { a with defers := { target := .collected D, args := #[] } :: a.defers } W) :
    (Code.rangeFunc g #[p] assign body).wpIn Fence.wide n Tryd.prog Q a w := by
  refine wpIn_rangeFunc fun fn hfn => ?_
  obtain ⟨D, hD⟩ : ∃ D, D = w.heap.size := ⟨_, rfl⟩
  obtain ⟨rec, hrec⟩ : ∃ rec : LoopState → Option Code → Loop, rec = fun st pe => { state := st, pending := pe, fn, tmps := a.tmps, params := #[p], assign, body, defers := w.heap.size } := ⟨_, rfl⟩
  let dfr : Obj := .deferred (some [])
  let Rdy : World → Prop := fun W => W.heap[D]? = some (.deferred (some [])) ∧ W.heap[D + 1]? = some (.loop (rec .ready none))
  let Gone : World → Prop := fun W => X W ∧ W.heap[D]? = some (.deferred (some [])) ∧ W.heap[D + 1]? = some (.loop (rec .done (some .ret)))
  have hR0 : Rdy ((w.alloc (.deferred (some []))).alloc (.loop (rec .ready none))) := by
    refine ⟨?_, ?_⟩
    · rw [hD]; exact (Below.heap_alloc _ _ _ (by simp)).trans (World.alloc_heap_new w _)
    · rw [hD]; have := World.alloc_heap_new (w.alloc (.deferred (some []))) (.loop (rec .ready none)); rwa [World.size_alloc] at this
  have hit := iter (n - 1) (D + 1) B (by omega) (fun s W => A s W ∧ Rdy W) (fun s W => A' s W ∧ Rdy W) Gone (fun s W h => hc s W h.1) (fun s W h => hc' s W h.1) ?round
    (fun s W h hi => And.intro (hS s W h.1 hi) (show Rdy _ from ⟨(KeepsOthers.setCell W _ _).same _ _ h.2.1 rfl, (KeepsOthers.setCell W _ _).same _ _ h.2.2 rfl⟩)) s ((w.alloc (.deferred (some []))).alloc (.loop (rec .ready none))) (show A s _ ∧ Rdy _ from ⟨h0 _ _, hR0⟩)
  case round =>
    rintro t W ⟨hA, hd, hl⟩
    have hlt : D + 1 < W.heap.size := (Array.getElem?_eq_some_iff.1 hl).1
    have hy := run_yield (P := Tryd.prog) (args := #[.string (piece t)]) hl (by rw [hrec]; rfl)
    rw [hrec] at hy
    refine ⟨fn, _, assign, body, hy, roundIn_of_wpIn hfn (hassign _ (piece t) W _ ⟨_, run_beginRound hl (by rw [hrec]), ?_⟩)⟩
    have hl2 : (W.putObj (D + 1) (.loop { rec .ready none with state := .busy })).heap[D + 1]? = some (.loop { rec .ready none with state := .busy }) := World.putObj_heap_same hlt
    have hd2 : (W.putObj (D + 1) (.loop { rec .ready none with state := .busy })).heap[D]? = some (.deferred (some [])) := (World.putObj_heap_other (by omega)).trans hd
    refine wpIn_mono (hbody _ t _ (pA t W _ _ hA (by omega))) ?_
    rintro e a3 W3 hp
    cases e with
    | normal =>
      obtain ⟨hk, hA3⟩ := hp
      have hl3 := hk _ _ (by omega) hl2 rfl
      have hd3 := hk _ _ (by omega) hd2 rfl
      have hr := run_endRound (P := Tryd.prog) none hl3
      rw [hrec] at hr
      refine ⟨_, _, hr, .inl ⟨rfl, pA' t W3 _ _ hA3 (by omega), (World.putObj_heap_other (by omega)).trans hd3, ?_⟩⟩
      rw [hrec]
      exact World.putObj_heap_same (Array.getElem?_eq_some_iff.1 hl3).1
    | ret =>
      obtain ⟨hk, hX3⟩ := hp
      have hl3 := hk _ _ (by omega) hl2 rfl
      have hd3 := hk _ _ (by omega) hd2 rfl
      have hr := run_endRound (P := Tryd.prog) (some .ret) hl3
      rw [hrec] at hr
      refine ⟨_, _, hr, .inr ⟨rfl, pX W3 _ _ hX3 (by omega), (World.putObj_heap_other (by omega)).trans hd3, ?_⟩⟩
      rw [hrec]
      exact World.putObj_heap_same (Array.getElem?_eq_some_iff.1 hl3).1
    | exit id => exact hp.elim
    | goto t => exact hp.elim
    | panic ch => exact hp.elim
    | outgrown => exact hp.elim
  obtain ⟨W1, hW1⟩ : ∃ W1, ((w.alloc (.deferred (some []))).alloc (.loop (rec .ready none))) = W1 := ⟨_, rfl⟩
  rw [hW1] at hit
  refine ⟨D + 1, [{ target := .collected D, args := #[] }], W1, { target := .fn (.func 102) #[.pointer (some ⟨B + 1, 0, none⟩), .pointer (some ⟨B, 0, none⟩), .pointer (some ⟨B + 2, 0, none⟩)], args := #[.func (.yield (D + 1)) #[] #[]] }, W1, 102,
    #[.func (.yield (D + 1)) #[] #[], .pointer (some ⟨B + 1, 0, none⟩), .pointer (some ⟨B, 0, none⟩), .pointer (some ⟨B + 2, 0, none⟩)], W1, (by rw [← hW1, hrec, hD]; exact run_enterLoop_outer _ _ _ _ _), ?_, (fun _ _ => trivial), ?_, (fun h => by cases h), hit.mono ?_⟩
  · simp only [resolve, hg]
    simp [go_sem]
  · simp [invoke, go_sem, enters_of Tryd.func102 (by kernel_rfl) rfl]
  · rintro e W2 ⟨⟨v, rfl⟩, (⟨t, ht, hA2, hd2, hl2⟩ | ⟨hX2, hd2, hl2⟩)⟩
    · refine ⟨none, _, by have := run_endLoop (P := Tryd.prog) hl2 (by rw [hrec]; simp); rw [hrec] at this; exact this, ?_⟩
      exact hdone D t _ (by omega) ht (pA' t W2 _ _ hA2 (by omega)) ((World.putObj_heap_other (by omega)).trans hd2)
    · refine ⟨some .ret, _, by have := run_endLoop (P := Tryd.prog) hl2 (by rw [hrec]; simp); rw [hrec] at this; exact this, ?_⟩
      exact hstop D _ (by omega) (pX W2 _ _ hX2 (by omega)) ((World.putObj_heap_other (by omega)).trans hd2)

theorem keeps_through {X Y : World} {k : Nat} {o : Obj} (h : Below X.heap.size X Y) (hk : X.heap[k]? = some o) : Y.heap[k]? = some o := (h.block k (Array.getElem?_eq_some_iff.1 hk).1).trans hk

def go (part : ByteArray → Option Bool) : Nat → ByteArray → Int → Option Bool
  | 0, _, _ => none
  | f + 1, s, n => if n + 1 > 16 then some false else (part (piece s)).bind fun b => if b = true then (if idx s < 0 then some true else go part f (tail s) (n + 1)) else some false
def rightF (part : ByteArray → Option Bool) (s : ByteArray) : Option Bool := if (s.size : Int) > 200 then some false else go part 18 s 0

theorem go_mono {p q : ByteArray → Option Bool} (h : ∀ s r, p s = some r → q s = some r) : ∀ (f : Nat) (s : ByteArray) (n : Int) (r : Bool), go p f s n = some r → go q f s n = some r := by
  intro f
  induction f with
  | zero => intro s n r hr; cases hr
  | succ f ih =>
    intro s n r hr
    unfold go at hr ⊢
    split at hr
    next h16 => rw [if_pos h16]; exact hr
    next h16 =>
      rw [if_neg h16]
      obtain ⟨b, hb, hg⟩ := Option.bind_eq_some_iff.1 hr
      refine Option.bind_eq_some_iff.2 ⟨b, h _ _ hb, ?_⟩
      cases b with
      | false => exact hg
      | true =>
        rw [if_pos rfl] at hg ⊢
        split at hg
        next hi => rw [if_pos hi]; exact hg
        next hi => rw [if_neg hi]; exact ih _ _ _ hg
theorem rightF_mono {p q : ByteArray → Option Bool} (h : ∀ s r, p s = some r → q s = some r) (s : ByteArray) (r : Bool) (hr : rightF p s = some r) : rightF q s = some r := by
  unfold rightF at hr ⊢
  split at hr
  next hl => rw [if_pos hl]; exact hr
  next hl => rw [if_neg hl]; exact go_mono h 18 s 0 r hr
/-- What path.Right's own boxes and the iterator's hold between two rounds. -/
structure Inv (w : World) (n : Int) (s : ByteArray) (W : World) : Prop where
  below : Below w.heap.size w W
  size : w.heap.size + 5 ≤ W.heap.size
  res : W.cell? ⟨w.heap.size, 0, none⟩ = some (.bool false)
  resf : W.frozen? ⟨w.heap.size, 0, none⟩ = false
  num : W.cell? ⟨w.heap.size + 1, 0, none⟩ = some (.int .i64 n)
  numf : W.frozen? ⟨w.heap.size + 1, 0, none⟩ = false
  box : W.cell? ⟨w.heap.size + 2, 0, none⟩ = some (.string s)
  boxf : W.frozen? ⟨w.heap.size + 2, 0, none⟩ = false
  sep : W.cell? ⟨w.heap.size + 2 + 1, 0, none⟩ = some (.string ⟨#[47]⟩)
  save : W.cell? ⟨w.heap.size + 2 + 2, 0, none⟩ = some (.int .i64 0)
theorem Inv.move {w W W' : World} {n : Int} {s : ByteArray} (h : Inv w n s W) (hb : Below (w.heap.size + 5) W W') : Inv w n s W' :=
  ⟨h.below.trans (hb.mono (by omega)), Nat.le_trans h.size hb.size, (hb.cell (by show w.heap.size < _; omega)).trans h.res, (hb.frozen (by show w.heap.size < _; omega)).trans h.resf, (hb.cell (by show w.heap.size + 1 < _; omega)).trans h.num, (hb.frozen (by show w.heap.size + 1 < _; omega)).trans h.numf,
    (hb.cell (by show w.heap.size + 2 < _; omega)).trans h.box, (hb.frozen (by show w.heap.size + 2 < _; omega)).trans h.boxf, (hb.cell (by show w.heap.size + 2 + 1 < _; omega)).trans h.sep, (hb.cell (by show w.heap.size + 2 + 2 < _; omega)).trans h.save⟩
theorem set_far (W : World) {a b : Nat} (h : a ≠ b) (v : Value) : (W.setCell ⟨a, 0, none⟩ v).cell? ⟨b, 0, none⟩ = W.cell? ⟨b, 0, none⟩ := World.cell?_setCell_far W ⟨a, 0, none⟩ ⟨b, 0, none⟩ v h
theorem Inv.count {w W : World} {n m : Int} {s : ByteArray} (h : Inv w n s W) : Inv w m s (W.setCell ⟨w.heap.size + 1, 0, none⟩ (.int .i64 m)) :=
  ⟨h.below.setCell (by show w.heap.size ≤ w.heap.size + 1; omega) _, by simp [World.setCell]; exact h.size, (set_far _ (by omega) _).trans h.res, by rw [World.frozen?_setCell]; exact h.resf, World.cell?_setCell_same' _ _ _ (by rw [h.num]; rfl), by rw [World.frozen?_setCell]; exact h.numf,
    (set_far _ (by omega) _).trans h.box, by rw [World.frozen?_setCell]; exact h.boxf, (set_far _ (by omega) _).trans h.sep, (set_far _ (by omega) _).trans h.save⟩
theorem Inv.rest {w W : World} {n : Int} {s t : ByteArray} (h : Inv w n s W) : Inv w n t (W.setCell ⟨w.heap.size + 2, 0, none⟩ (.string t)) :=
  ⟨h.below.setCell (by show w.heap.size ≤ w.heap.size + 2; omega) _, by simp [World.setCell]; exact h.size, (set_far _ (by omega) _).trans h.res, by rw [World.frozen?_setCell]; exact h.resf, (set_far _ (by omega) _).trans h.num, by rw [World.frozen?_setCell]; exact h.numf,
    World.cell?_setCell_same' _ _ _ (by rw [h.box]; rfl), by rw [World.frozen?_setCell]; exact h.boxf, (set_far _ (by omega) _).trans h.sep, (set_far _ (by omega) _).trans h.save⟩
theorem box_cell {W : World} {B : Nat} {v : Value} {t : TypeId} (h : W.heap[B]? = some (.cells #[v] t (0, 0))) : W.cell? ⟨B, 0, none⟩ = some v := by simp [World.cell?, h]
theorem box_frozen {W : World} {B : Nat} {v : Value} {t : TypeId} (h : W.heap[B]? = some (.cells #[v] t (0, 0))) : W.frozen? ⟨B, 0, none⟩ = false := by simp [World.frozen?, h]
theorem new_cell (W : World) (v : Value) (t : TypeId) : (W.alloc (.cells #[v] t)).cell? ⟨W.heap.size, 0, none⟩ = some v := box_cell (World.alloc_heap_new W _)
theorem new_frozen (W : World) (v : Value) (t : TypeId) : (W.alloc (.cells #[v] t)).frozen? ⟨W.heap.size, 0, none⟩ = false := box_frozen (World.alloc_heap_new W _)
theorem below_putObj {B : Nat} (W : World) (k : Nat) (o : Obj) (h : B ≤ k) : Below B W (W.putObj k o) := ⟨rfl, rfl, rfl, by simp, fun i hi => World.putObj_heap_other (by omega)⟩

/-- Behind a round: what is told of the rest. -/
def After (part : ByteArray → Option Bool) (r : Bool) (w : World) (s : ByteArray) (W : World) : Prop := ∃ n, (0 ≤ n ∧ n ≤ 16) ∧ (if idx s < 0 then r = true else ∃ f, go part f (tail s) n = some r) ∧ Inv w n s W ∧ s.size ≤ 200
def Away (r : Bool) (w : World) (W : World) : Prop := r = false ∧ Below w.heap.size w W ∧ W.cell? ⟨w.heap.size, 0, none⟩ = some (.bool false)
set_option maxRecDepth 100000 in
set_option maxHeartbeats 2000000 in
theorem right (part : ByteArray → Option Bool) (hpart : ∀ s b w, part s = some b → Calls Tryd.prog 45 #[.string s] w fun e w' => e = .returned (.bool b) ∧ Below w.heap.size w w')
    (s : ByteArray) (r : Bool) (w : World) (h : rightF part s = some r) :
    Calls Tryd.prog 13 #[.string s] w fun e w' => e = .returned (.bool r) ∧ Below w.heap.size w w' := by
  refine (callsIn_wide (n := 8)).1 ?_
  refine callsIn_of_wp_marks Tryd.func13 rfl trivial ?_ rfl
  simp only [Tryd.ntmps13, List.size_toArray, List.length_cons, List.length_nil, Nat.reduceAdd, Nat.reduceSub, Array.replicate_succ, Array.replicate_zero, List.push_toArray, List.append_toArray, List.nil_append, List.cons_append]
  unfold rightF at h
  by_cases hl : (s.size : Int) > 200
  · rw [if_pos hl] at h
    obtain rfl := Option.some.inj h
    gi_wp2
    refine ⟨.bool false, ?_, rfl, (Below.refl _ w).alloc (Nat.le_refl _) _⟩
    simp [results, Tryd.f13, go_sem]
  · rw [if_neg hl] at h
    have h0 : Inv w 0 s (boxes ((w.alloc (.cells #[.bool false] 4)).alloc (.cells #[.int .i64 0] 3)) s ⟨#[47]⟩) := by
      obtain ⟨X1, e1⟩ : ∃ X, X = w.alloc (.cells #[.bool false] 4) := ⟨_, rfl⟩
      obtain ⟨X2, e2⟩ : ∃ X, X = X1.alloc (.cells #[.int .i64 0] 3) := ⟨_, rfl⟩
      obtain ⟨X3, e3⟩ : ∃ X, X = X2.alloc (.cells #[.string s] 9) := ⟨_, rfl⟩
      obtain ⟨X4, e4⟩ : ∃ X, X = X3.alloc (.cells #[.string ⟨#[47]⟩] 9) := ⟨_, rfl⟩
      obtain ⟨X5, e5⟩ : ∃ X, X = X4.alloc (.cells #[.int .i64 0] 3) := ⟨_, rfl⟩
      have z1 : X1.heap.size = w.heap.size + 1 := by rw [e1]; simp
      have z2 : X2.heap.size = w.heap.size + 2 := by rw [e2]; simp; omega
      have z3 : X3.heap.size = w.heap.size + 3 := by rw [e3]; simp; omega
      have z4 : X4.heap.size = w.heap.size + 4 := by rw [e4]; simp; omega
      have z5 : X5.heap.size = w.heap.size + 5 := by rw [e5]; simp; omega
      have b1 : Below w.heap.size w X1 := by rw [e1]; exact (Below.refl _ w).alloc (Nat.le_refl _) _
      have b2 : Below X1.heap.size X1 X2 := by rw [e2]; exact (Below.refl _ X1).alloc (Nat.le_refl _) _
      have b3 : Below X2.heap.size X2 X3 := by rw [e3]; exact (Below.refl _ X2).alloc (Nat.le_refl _) _
      have b4 : Below X3.heap.size X3 X4 := by rw [e4]; exact (Below.refl _ X3).alloc (Nat.le_refl _) _
      have b5 : Below X4.heap.size X4 X5 := by rw [e5]; exact (Below.refl _ X4).alloc (Nat.le_refl _) _
      have c4 : Below X3.heap.size X3 X5 := b4.trans (b5.mono (by omega))
      have c3 : Below X2.heap.size X2 X5 := b3.trans (c4.mono (by omega))
      have c2 : Below X1.heap.size X1 X5 := b2.trans (c3.mono (by omega))
      have c1 : Below w.heap.size w X5 := b1.trans (c2.mono (by omega))
      have n1 : X1.cell? ⟨w.heap.size, 0, none⟩ = some (.bool false) ∧ X1.frozen? ⟨w.heap.size, 0, none⟩ = false := by rw [e1]; exact ⟨new_cell _ _ _, new_frozen _ _ _⟩
      have n2 : X2.cell? ⟨w.heap.size + 1, 0, none⟩ = some (.int .i64 0) ∧ X2.frozen? ⟨w.heap.size + 1, 0, none⟩ = false := by rw [e2, ← z1]; exact ⟨new_cell _ _ _, new_frozen _ _ _⟩
      have n3 : X3.cell? ⟨w.heap.size + 2, 0, none⟩ = some (.string s) ∧ X3.frozen? ⟨w.heap.size + 2, 0, none⟩ = false := by rw [e3, ← z2]; exact ⟨new_cell _ _ _, new_frozen _ _ _⟩
      have n4 : X4.cell? ⟨w.heap.size + 3, 0, none⟩ = some (.string ⟨#[47]⟩) := by rw [e4, ← z3]; exact new_cell _ _ _
      have n5 : X5.cell? ⟨w.heap.size + 4, 0, none⟩ = some (.int .i64 0) := by rw [e5, ← z4]; exact new_cell _ _ _
      rw [← e1, ← e2, show boxes X2 s ⟨#[47]⟩ = X5 from by rw [e5, e4, e3]; rfl]
      exact ⟨c1, by omega, (c2.cell (by show w.heap.size < _; omega)).trans n1.1, (c2.frozen (by show w.heap.size < _; omega)).trans n1.2, (c3.cell (by show w.heap.size + 1 < _; omega)).trans n2.1, (c3.frozen (by show w.heap.size + 1 < _; omega)).trans n2.2,
        (c4.cell (by show w.heap.size + 2 < _; omega)).trans n3.1, (c4.frozen (by show w.heap.size + 2 < _; omega)).trans n3.2, (b5.cell (by show w.heap.size + 3 < _; omega)).trans n4, n5⟩
    gi_wp2_with (refine ⟨trivial, ?_⟩; gi_at_call 44; refine (callsIn_wide.2 (splitSeq0 _ _ _)).mono ?_; rintro e w' ⟨rfl, rfl⟩)
    obtain ⟨W0, hW0⟩ : ∃ W0, boxes ((w.alloc (.cells #[.bool false] 4)).alloc (.cells #[.int .i64 0] 3)) s ⟨#[47]⟩ = W0 := ⟨_, rfl⟩
    have hsz : W0.heap.size = w.heap.size + 5 := by rw [← hW0]; simp [boxes]
    simp only [hW0]
    rw [hW0] at h0
    refine range 8 (w.heap.size + 2) (by omega) (by omega) rfl
      (fun s W => ∃ f n, (0 ≤ n ∧ n ≤ 16) ∧ go part f s n = some r ∧ Inv w n s W ∧ s.size ≤ 200)
      (After part r w) (Away r w)
      (fun s W k o hA hk => by obtain ⟨f, n, hn, hg, hI, hs⟩ := hA; exact ⟨f, n, hn, hg, hI.move (below_putObj W k o (by omega)), hs⟩)
      (fun s W k o hA hk => by obtain ⟨n, hn, hg, hI, hs⟩ := hA; exact ⟨n, hn, hg, hI.move (below_putObj W k o (by omega)), hs⟩)
      (fun W k o hX hk => ⟨hX.1, hX.2.1.trans (below_putObj W k o (by omega)), ((below_putObj (B := w.heap.size + 5) W k o (by omega)).cell (by show w.heap.size < _; omega)).trans hX.2.2⟩)
      (fun s W hA => by obtain ⟨f, n, hn, hg, hI, hs⟩ := hA; exact ⟨hI.box, hI.boxf, hI.sep, hI.save, hs⟩)
      (fun s W hA => by obtain ⟨n, hn, hg, hI, hs⟩ := hA; exact ⟨hI.box, hI.boxf, hI.sep, hI.save, hs⟩)
      (fun s W hA hi => by
        obtain ⟨n, hn, hg, hI, hs⟩ := hA
        rw [if_neg (by omega)] at hg
        obtain ⟨f, hg⟩ := hg
        exact ⟨f, n, hn, hg, hI.rest, by unfold tail; rw [ByteArray.size_extract]; omega⟩)
      s (fun o o' => ⟨18, 0, ⟨by omega, by omega⟩, h, h0.move (((Below.refl _ W0).alloc (by omega) _).alloc (by simp; omega) _), by omega⟩)
      (fun x => { tmps := #[.string s, undef, .pointer (some ⟨w.heap.size, 0, none⟩), .pointer (some ⟨w.heap.size + 1, 0, none⟩), .string x, .string s, .int .i64 (s.size : Int), .bool false, .string s,
        .func (.func 102) #[] #[.pointer (some ⟨w.heap.size + 2 + 1, 0, none⟩), .pointer (some ⟨w.heap.size + 2, 0, none⟩), .pointer (some ⟨w.heap.size + 2 + 2, 0, none⟩)], .string x, undef, undef, undef, undef, undef, undef, undef, undef, undef], defers := [] }) ?assign ?body ?done ?stop
    case assign =>
      intro l x W K hK
      gi_wp2
      exact hK
    case body =>
      rintro l t W ⟨f, n, hn, hg, hI, hs⟩
      have c0 := hI.res
      have c1 := hI.resf
      have c2 := hI.num
      have c3 := hI.numf
      have hw : wrap64 (n + 1) = n + 1 := by unfold wrap64; omega
      cases f with
      | zero => cases hg
      | succ f =>
        unfold go at hg
        by_cases h16 : n + 1 > 16
        · rw [if_pos h16] at hg
          obtain rfl := Option.some.inj hg
          gi_wp2
          refine ⟨trivial, ?_⟩
          gi_wp2
          exact ⟨fun k o hk ho hc => ((KeepsOthers.setCell W _ _).trans (KeepsOthers.setCell _ _ _)).same k o ho hc, rfl, (hI.below.setCell (p := ⟨w.heap.size + 1, 0, none⟩) (by show w.heap.size ≤ w.heap.size + 1; omega) _).setCell (p := ⟨w.heap.size, 0, none⟩) (Nat.le_refl _) _,
            World.cell?_setCell_same' _ _ _ (by rw [(hI.count (m := n + 1)).res]; rfl)⟩
        · rw [if_neg h16] at hg
          obtain ⟨b, hb, hg⟩ := Option.bind_eq_some_iff.1 hg
          have hI1 := hI.count (m := n + 1)
          have d0 := hI1.res
          have d1 := hI1.resf
          cases b with
          | false =>
            rw [if_neg (by decide)] at hg
            obtain rfl := Option.some.inj hg
            gi_wp2_with (refine ⟨trivial, ?_⟩; gi_at_call 45; refine (CallsIn.inRound l (callsIn_wide.2 (hpart _ _ _ hb))).mono ?_; rintro e w' ⟨rfl, hbw⟩; have hI2 := hI1.move (hbw.mono hI1.size); have e0 := hI2.res; have e1 := hI2.resf)
            exact ⟨fun k o hk ho hc => (KeepsOthers.setCell _ _ _).same k o (keeps_through hbw ((KeepsOthers.setCell W ⟨w.heap.size + 1, 0, none⟩ (.int .i64 (n + 1))).same k o ho hc)) hc, rfl, hI2.below.setCell (p := ⟨w.heap.size, 0, none⟩) (Nat.le_refl _) _,
              World.cell?_setCell_same' _ _ _ (by rw [hI2.res]; rfl)⟩
          | true =>
            rw [if_pos rfl] at hg
            gi_wp2_with (refine ⟨trivial, ?_⟩; gi_at_call 45; refine (CallsIn.inRound l (callsIn_wide.2 (hpart _ _ _ hb))).mono ?_; rintro e w' ⟨rfl, hbw⟩; have hI2 := hI1.move (hbw.mono hI1.size); have e0 := hI2.res; have e1 := hI2.resf)
            refine ⟨fun k o hk ho hc => (keeps_through hbw ((KeepsOthers.setCell W ⟨w.heap.size + 1, 0, none⟩ (.int .i64 (n + 1))).same k o ho hc)), n + 1, by omega, ?_, hI2, hs⟩
            split at hg
            next hi => rw [if_pos hi]; exact (Option.some.inj hg).symm
            next hi => rw [if_neg hi]; exact ⟨f, hg⟩
    case done =>
      rintro D t W hD hi ⟨n, hn, hg, hI, hs⟩ hK
      rw [if_pos hi] at hg
      subst hg
      have c0 := hI.res
      have c1 := hI.resf
      gi_wp2
      have hK' := (KeepsOthers.setCell W ⟨w.heap.size, 0, none⟩ (.bool true)).same D _ hK rfl
      refine ⟨by simp, .inl ⟨_, _, rfl, run_takeDeferred hK', ?_⟩⟩
      have hb5 := below_putObj (B := w.heap.size + 5) (W.setCell ⟨w.heap.size, 0, none⟩ (.bool true)) D (.deferred none) (by omega)
      have hc5 := (hb5.cell (p := ⟨w.heap.size, 0, none⟩) (by show w.heap.size < _; omega)).trans (World.cell?_setCell_same' W ⟨w.heap.size, 0, none⟩ (.bool true) (by rw [c0]; rfl))
      refine ⟨.bool true, ?_, rfl, (hI.below.setCell (p := ⟨w.heap.size, 0, none⟩) (Nat.le_refl _) _).trans (hb5.mono (by omega))⟩
      simp [results, Tryd.f13, go_sem, hc5]
    case stop =>
      rintro D W hD ⟨hr, hB, hcr⟩ hK
      subst hr
      gi_wp2
      refine ⟨by simp, .inl ⟨_, _, rfl, run_takeDeferred hK, ?_⟩⟩
      have hb5 := below_putObj (B := w.heap.size + 5) W D (.deferred none) (by omega)
      have hc5 := (hb5.cell (p := ⟨w.heap.size, 0, none⟩) (by show w.heap.size < _; omega)).trans hcr
      refine ⟨.bool false, ?_, rfl, hB.trans (hb5.mono (by omega))⟩
      simp [results, Tryd.f13, go_sem, hc5]
end Go.Proofs.YtngcfmnmjkncoaaDoor.Right
