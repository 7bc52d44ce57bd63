/- Lines: what strings.Split answers at a line's end; no condition. -/
import Derived.Test.YtngcfmnmjkncoaaDoorQV
import Derived.Test.YtngcfmnmjkncoaaDoorQF0
namespace Go.Proofs.YtngcfmnmjkncoaaDoor.PureL
open Go Go.RowKit Go.Proofs.YtngcfmnmjkncoaaDoor.Q Go.Proofs.YtngcfmnmjkncoaaDoor.Pu
set_option linter.unusedVariables false

theorem idx_lt (l : List UInt8) (c : UInt8) : Lib.indexByte l c < l.length := by
  induction l with
  | nil => unfold Lib.indexByte; simp
  | cons b l ih =>
    unfold Lib.indexByte
    rw [List.length_cons]
    split
    · omega
    · split
      · omega
      · omega
/-! ### what stands between line ends -/
def mk (l : List UInt8) : ByteArray := ⟨l.toArray⟩
theorem mk_list (s : ByteArray) : mk s.data.toList = s := by cases s; simp [mk]
theorem list_mk (l : List UInt8) : (mk l).data.toList = l := by simp [mk]
theorem ext {x y : ByteArray} (h : x.data.toList = y.data.toList) : x = y := by rw [← mk_list x, ← mk_list y, h]
theorem size_mk (l : List UInt8) : (mk l).size = l.length := by show l.toArray.size = _; simp
theorem cut_list (s : ByteArray) (a b : Nat) : (s.extract a b).data.toList = (s.data.toList.take b).drop a := by
  rw [ByteArray.data_extract, Array.toList_extract, List.extract_eq_take_drop, ← List.drop_take]
def glue (p : List UInt8) : List (List UInt8) → List (List UInt8)
  | [] => [p]
  | x :: xs => (p ++ x) :: xs
def spl : List UInt8 → List (List UInt8)
  | [] => [[]]
  | c :: l => if c = 10 then [] :: spl l else glue [c] (spl l)
theorem glue_ne (p : List UInt8) (x : List (List UInt8)) : glue p x ≠ [] := by cases x <;> simp [glue]
theorem spl_ne (l : List UInt8) : spl l ≠ [] := by
  cases l with
  | nil => simp [spl]
  | cons c l =>
    unfold spl
    split
    · simp
    · exact glue_ne _ _
theorem glue_nil {x : List (List UInt8)} (h : x ≠ []) : glue [] x = x := by
  cases x with
  | nil => exact absurd rfl h
  | cons a x => rfl
theorem glue_glue (p q : List UInt8) {x : List (List UInt8)} (h : x ≠ []) : glue p (glue q x) = glue (p ++ q) x := by
  cases x with
  | nil => exact absurd rfl h
  | cons a x => simp [glue]
theorem spl_len (l : List UInt8) : (spl l).length ≤ l.length + 1 := by
  induction l with
  | nil => simp [spl]
  | cons c l ih =>
    unfold spl
    split
    · simp; omega
    · have h := spl_ne l
      cases e : spl l with
      | nil => exact absurd e h
      | cons a x => rw [e] at ih; simp [glue] at ih ⊢; omega
/-- By the first slash. -/
theorem spl_idx (l : List UInt8) : (Lib.indexByte l 10 < 0 → spl l = [l]) ∧ (∀ m : Nat, Lib.indexByte l 10 = (m : Int) → spl l = l.take m :: spl (l.drop (m + 1))) := by
  induction l with
  | nil => exact ⟨fun _ => rfl, fun m h => by unfold Lib.indexByte at h; omega⟩
  | cons c l ih =>
    have ge := Lib.indexByte_ge l 10
    unfold Lib.indexByte
    rw [show spl (c :: l) = if c = 10 then [] :: spl l else glue [c] (spl l) from rfl]
    by_cases hc : c = 10
    · rw [if_pos (by rw [hc]; rfl), if_pos hc]
      refine ⟨fun h => by omega, fun m h => ?_⟩
      obtain rfl : m = 0 := by omega
      rfl
    · rw [if_neg (by simpa using hc), if_neg hc]
      split
      next h =>
        have h1 := beq_iff_eq.1 h
        refine ⟨fun _ => ?_, fun m hm => by omega⟩
        rw [ih.1 (by omega)]
        rfl
      next h =>
        have h1 : Lib.indexByte l 10 ≠ -1 := fun e => h (by rw [e]; rfl)
        refine ⟨fun hh => by omega, fun m hm => ?_⟩
        obtain ⟨j, hj⟩ := Int.eq_ofNat_of_zero_le (show 0 ≤ Lib.indexByte l 10 by omega)
        obtain rfl : m = j + 1 := by omega
        rw [ih.2 j hj]
        simp [glue]
theorem glue_len (p : List UInt8) {x : List (List UInt8)} (h : x ≠ []) : (glue p x).length = x.length := by
  cases x with
  | nil => exact absurd rfl h
  | cons a r => simp [glue]
theorem spl_cons (c : UInt8) (l : List UInt8) : spl (c :: l) = if c = 10 then [] :: spl l else glue [c] (spl l) := rfl
theorem spl_count (l : List UInt8) : (spl l).length = Lib.countByte l 10 + 1 := by
  induction l with
  | nil => rfl
  | cons c l ih =>
    rw [spl_cons]
    unfold Lib.countByte at ih ⊢
    by_cases h : c = 10
    · rw [if_pos h, List.length_cons, ih, h, List.count_cons_self]
    · rw [if_neg h, glue_len _ (spl_ne _), ih, List.count_cons_of_ne h]
theorem take_set {α : Type} (x : List α) (i : Nat) (y : α) (h : i < x.length) : (x.set i y).take (i + 1) = x.take i ++ [y] := by
  rw [List.take_succ_eq_append_getElem (by rw [List.length_set]; exact h), List.getElem_set_self, List.take_set_of_le (Nat.le_refl _)]
theorem gs_loop (s : ByteArray) (x3 : Int) (N : Nat) (hN : (if w64 ((s.size : Int) + 1) < x3 then w64 ((s.size : Int) + 1) else x3) = (N : Int)) (hl : N ≤ 2000) (j1 : ByteArray → Int → List ByteArray → Option (List ByteArray))
    (hj : ∀ (rest : ByteArray) (i : Nat) (row : List ByteArray), i < N → row.length = N → j1 rest (i : Int) row = some (row.take i ++ [rest])) :
    ∀ (c : Nat) (rest : ByteArray) (i : Nat) (row : List ByteArray), (spl rest.data.toList).length = c + 1 → i + c + 1 = N → row.length = N → rest.size ≤ 1000 →
      ∀ k, c < k → strings_genSplit.l1 s ⟨#[10]⟩ 0 x3 j1 k rest (i : Int) row = some (row.take i ++ (spl rest.data.toList).map mk) := by
  intro c
  induction c with
  | zero =>
    intro rest i row hc hi hr hs k hk
    obtain ⟨k, rfl⟩ : ∃ m, k = m + 1 := ⟨k - 1, by omega⟩
    rw [strings_genSplit.l1, hN, w (by omega) (by omega), if_neg (by omega), hj rest i row (by omega) hr]
    cases e : spl rest.data.toList with
    | nil => exact absurd e (spl_ne _)
    | cons a y =>
      have hy : y = [] := by rw [e] at hc; simpa using hc
      subst hy
      obtain ⟨sn, sp⟩ := spl_idx rest.data.toList
      have hidx : Lib.indexByte rest.data.toList 10 < 0 := by
        refine Int.not_le.1 fun h0 => ?_
        obtain ⟨m, hm⟩ := Int.eq_ofNat_of_zero_le h0
        have := sp m hm
        rw [e] at this
        exact spl_ne _ (List.cons.inj this).2.symm
      have := sn hidx
      rw [e] at this
      rw [(List.cons.inj this).1]
      simp [mk_list]
  | succ c ih =>
    intro rest i row hc hi hr hs k hk
    obtain ⟨k, rfl⟩ : ∃ m, k = m + 1 := ⟨k - 1, by omega⟩
    have hlr : rest.data.toList.length = rest.size := Array.length_toList
    obtain ⟨sn, sp⟩ := spl_idx rest.data.toList
    have hidx : 0 ≤ Lib.indexByte rest.data.toList 10 := by
      refine Int.not_lt.1 fun h0 => ?_
      rw [sn h0] at hc
      simp at hc
    obtain ⟨m, hm⟩ := Int.eq_ofNat_of_zero_le hidx
    have hlt : m < rest.size := by have := idx_lt rest.data.toList 10; rw [hm, hlr] at this; exact Int.ofNat_lt.1 this
    have e := sp m hm
    have hidx' : strings_Index.f rest ⟨#[10]⟩ = some (m : Int) := by show some (Lib.indexByte rest.data.toList 10) = _; rw [hm]
    have e1 : rest.extract 0 m = mk (rest.data.toList.take m) := ext (by rw [cut_list, list_mk, List.drop_zero])
    have e2 : rest.extract (m + 1) rest.size = mk (rest.data.toList.drop (m + 1)) := ext (by rw [cut_list, list_mk, ← hlr, List.take_length])
    have hsub1 : sub rest 0 (m : Int) = some (rest.extract 0 m) := sub_ (i := 0) (by omega) (by omega)
    have hsub2 : sub rest ((m + 1 : Nat) : Int) (rest.size : Int) = some (rest.extract (m + 1) rest.size) := sub_ (by omega) (Nat.le_refl _)
    have hchk : chk (i : Int) N = some () := by unfold chk; rw [if_pos (by omega)]
    have hwr : wr row i (rest.extract 0 m) = some (row.set i (rest.extract 0 m)) := by unfold wr; rw [if_pos (by omega)]
    have hw1 : w64 ((m : Int) + ((⟨#[10]⟩ : ByteArray).size : Int)) = ((m + 1 : Nat) : Int) := by show w64 ((m : Int) + 1) = _; exact w (by omega) (by omega)
    rw [strings_genSplit.l1, hN, w (x := (N : Int) - 1) (by omega) (by omega), if_pos (by omega), hidx', Option.bind_some, if_neg (by omega), Int.add_zero, w (x := (m : Int)) (by omega) (by omega), hsub1, Option.bind_some, Int.toNat_natCast, hchk, Option.bind_some, Int.toNat_natCast, hwr, Option.bind_some, hw1, hsub2, Option.bind_some, w (x := (i : Int) + 1) (by omega) (by omega)]
    have q := ih (rest.extract (m + 1) rest.size) (i + 1) (row.set i (rest.extract 0 m)) (by rw [e2, list_mk]; rw [e] at hc; simpa using hc) (by omega) (by rw [List.length_set]; exact hr) (by rw [e2, size_mk, List.length_drop]; omega) k (by omega)
    rw [show ((i : Int) + 1) = ((i + 1 : Nat) : Int) from rfl, q, take_set _ _ _ (by omega), e2, list_mk, e, e1]
    simp
theorem split_code (s : ByteArray) (hs : s.size ≤ 1000) : Ev (fun k => strings_Split.f k s ⟨#[10]⟩) ((spl s.data.toList).map mk) := by
  have hl : s.data.toList.length = s.size := Array.length_toList
  have h1 := spl_len s.data.toList
  have h2 := spl_count s.data.toList
  have ne : 0 < (spl s.data.toList).length := Nat.pos_of_ne_zero fun e => spl_ne _ (List.eq_nil_of_length_eq_zero e)
  unfold strings_Split.f
  refine Ev.bind (a := (spl s.data.toList).map mk) ?_ (Ev.const _)
  unfold strings_genSplit.f
  refine Ev.neg (by decide) (Ev.neg (by decide) ?_)
  simp only [jn]
  refine Ev.pos (by decide) ?_
  have hc : strings_Count.f s ⟨#[10]⟩ = some ((Lib.countByte s.data.toList 10 : Nat) : Int) := rfl
  refine Ev.now hc ?_
  rw [w (x := ((Lib.countByte s.data.toList 10 : Nat) : Int) + 1) (by omega) (by omega)]
  have hN : (if w64 ((s.size : Int) + 1) < ((Lib.countByte s.data.toList 10 : Nat) : Int) + 1 then w64 ((s.size : Int) + 1) else ((Lib.countByte s.data.toList 10 : Nat) : Int) + 1) = (((spl s.data.toList).length : Nat) : Int) := by
    rw [w (by omega) (by omega), if_neg (by omega)]; omega
  rw [hN]
  have hg : grw 16 (((spl s.data.toList).length : Nat) : Int) = some () := by unfold grw; rw [if_pos (by omega)]
  refine Ev.now hg ?_
  rw [Int.toNat_natCast]
  refine ⟨(spl s.data.toList).length + 1, fun k hk => ?_⟩
  have q := gs_loop s _ _ hN (by omega) (fun x23 x24 x25 => (chk x24 (spl s.data.toList).length).bind fun x44 => (wr x25 x24.toNat x23).bind fun x45 => (ln x45 (spl s.data.toList).length).bind fun _ => (cut x45 0 (w64 (x24 + 1))).bind fun x46 => some x46)
    (fun rest i row hi hr => by
      have hchk : chk (i : Int) (spl s.data.toList).length = some () := by unfold chk; rw [if_pos (by omega)]
      have hwr : wr row i rest = some (row.set i rest) := by unfold wr; rw [if_pos (by omega)]
      have hln : ln (row.set i rest) (spl s.data.toList).length = some () := by unfold ln; rw [if_pos (by rw [List.length_set]; exact hr)]
      have hcut : cut (row.set i rest) 0 ((i + 1 : Nat) : Int) = some ((row.set i rest).take (i + 1)) := by unfold cut; rw [if_pos (by rw [List.length_set]; omega)]; simp
      show ((chk (i : Int) (spl s.data.toList).length).bind fun x44 => (wr row ((i : Int)).toNat rest).bind fun x45 => (ln x45 (spl s.data.toList).length).bind fun _ => (cut x45 0 (w64 ((i : Int) + 1))).bind fun x46 => some x46) = _
      rw [hchk, Option.bind_some, Int.toNat_natCast, hwr, Option.bind_some, hln, Option.bind_some, w (by omega) (by omega), show ((i : Int) + 1) = ((i + 1 : Nat) : Int) from rfl, hcut, Option.bind_some, take_set _ _ _ (by omega)])
    ((spl s.data.toList).length - 1) s 0 (List.replicate (spl s.data.toList).length (⟨#[]⟩ : ByteArray)) (by omega) (by omega) (by rw [List.length_replicate]) hs k (by omega)
  rw [List.take_zero, List.nil_append] at q
  exact q

theorem spl_no (b : List UInt8) (h : 10 ∉ b) : spl b = [b] := by
  induction b with
  | nil => rfl
  | cons c b ih =>
    rw [spl_cons, if_neg (fun e => h (by rw [e]; exact List.mem_cons_self ..)), ih (fun m => h (List.mem_cons_of_mem _ m))]
    rfl
theorem spl_last (b : List UInt8) (h : 10 ∉ b) : ∀ a : List UInt8, spl (a ++ 10 :: b) = spl a ++ [b]
  | [] => by rw [List.nil_append, spl_cons, if_pos rfl, spl_no b h]; rfl
  | c :: a => by
    rw [List.cons_append, spl_cons, spl_cons, spl_last b h a]
    by_cases hc : c = 10
    · rw [if_pos hc, if_pos hc]; rfl
    · rw [if_neg hc, if_neg hc]
      cases e : spl a with
      | nil => exact absurd e (spl_ne _)
      | cons x y => rfl
end Go.Proofs.YtngcfmnmjkncoaaDoor.PureL
