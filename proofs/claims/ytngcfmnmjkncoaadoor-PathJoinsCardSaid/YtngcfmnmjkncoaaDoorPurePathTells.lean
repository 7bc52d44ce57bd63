/- PathTells' pure statement: whether texts are paths, what covers what, what is above, last: one with the reference; no condition. -/
import Derived.Test.YtngcfmnmjkncoaaDoorPurePath
namespace Go.Proofs.YtngcfmnmjkncoaaDoor.PureP
open Go Go.RowKit Go.Proofs.YtngcfmnmjkncoaaDoor.Q Go.Proofs.YtngcfmnmjkncoaaDoor.Pu
set_option linter.unusedVariables false

theorem beside_ev (a b : ByteArray) (ha : a.size ≤ 1000) (hb : b.size ≤ 1000) : Ev (fun k => path_Beside.f k a b) (((right a && right b) && !cov a b) && !cov b a) := by
  unfold path_Beside.f
  refine Ev.bind (right_ev a) ?_
  cases right a with
  | false => exact Ev.bind (Ev.g0 rfl) (Ev.bind (Ev.g0 rfl) (Ev.bind (Ev.g0 rfl) (Ev.const _)))
  | true =>
    refine Ev.bind (Ev.g1 rfl (right_ev b)) ?_
    cases right b with
    | false => exact Ev.bind (Ev.g0 rfl) (Ev.bind (Ev.g0 rfl) (Ev.const _))
    | true =>
      refine Ev.bind (Ev.g1 rfl (Ev.ev (covers_eq a b ha))) ?_
      cases cov a b with
      | true => exact Ev.bind (Ev.g0 rfl) (Ev.const _)
      | false => exact Ev.bind (Ev.g1 rfl (Ev.ev (covers_eq b a hb))) (Ev.const _)

/-! ### the code's split -/
theorem glue_len (p : List UInt8) {x : List (List UInt8)} (h : x ≠ []) : (glue p x).length = x.length := by
  cases x with
  | nil => exact absurd rfl h
  | cons a r => simp [glue]
theorem spl_cons (c : UInt8) (l : List UInt8) : spl (c :: l) = if c = 47 then [] :: spl l else glue [c] (spl l) := rfl
theorem spl_count (l : List UInt8) : (spl l).length = Lib.countByte l 47 + 1 := by
  induction l with
  | nil => rfl
  | cons c l ih =>
    rw [spl_cons]
    unfold Lib.countByte at ih ⊢
    by_cases h : c = 47
    · rw [if_pos h, List.length_cons, ih, h, List.count_cons_self]
    · rw [if_neg h, glue_len _ (spl_ne _), ih, List.count_cons_of_ne h]
theorem take_set {α : Type} (x : List α) (i : Nat) (y : α) (h : i < x.length) : (x.set i y).take (i + 1) = x.take i ++ [y] := by
  rw [List.take_succ_eq_append_getElem (by rw [List.length_set]; exact h), List.getElem_set_self, List.take_set_of_le (Nat.le_refl _)]
theorem gs_loop (s : ByteArray) (x3 : Int) (N : Nat) (hN : (if w64 ((s.size : Int) + 1) < x3 then w64 ((s.size : Int) + 1) else x3) = (N : Int)) (hl : N ≤ 2000) (j1 : ByteArray → Int → List ByteArray → Option (List ByteArray))
    (hj : ∀ (rest : ByteArray) (i : Nat) (row : List ByteArray), i < N → row.length = N → j1 rest (i : Int) row = some (row.take i ++ [rest])) :
    ∀ (c : Nat) (rest : ByteArray) (i : Nat) (row : List ByteArray), (spl rest.data.toList).length = c + 1 → i + c + 1 = N → row.length = N → rest.size ≤ 1000 →
      ∀ k, c < k → strings_genSplit.l1 s ⟨#[47]⟩ 0 x3 j1 k rest (i : Int) row = some (row.take i ++ (spl rest.data.toList).map mk) := by
  intro c
  induction c with
  | zero =>
    intro rest i row hc hi hr hs k hk
    obtain ⟨k, rfl⟩ : ∃ m, k = m + 1 := ⟨k - 1, by omega⟩
    rw [strings_genSplit.l1, hN, w (by omega) (by omega), if_neg (by omega), hj rest i row (by omega) hr]
    cases e : spl rest.data.toList with
    | nil => exact absurd e (spl_ne _)
    | cons a y =>
      have hy : y = [] := by rw [e] at hc; simpa using hc
      subst hy
      obtain ⟨sn, sp⟩ := spl_idx rest.data.toList
      have hidx : Lib.indexByte rest.data.toList 47 < 0 := by
        refine Int.not_le.1 fun h0 => ?_
        obtain ⟨m, hm⟩ := Int.eq_ofNat_of_zero_le h0
        have := sp m hm
        rw [e] at this
        exact spl_ne _ (List.cons.inj this).2.symm
      have := sn hidx
      rw [e] at this
      rw [(List.cons.inj this).1]
      simp [mk_list]
  | succ c ih =>
    intro rest i row hc hi hr hs k hk
    obtain ⟨k, rfl⟩ : ∃ m, k = m + 1 := ⟨k - 1, by omega⟩
    have hlr : rest.data.toList.length = rest.size := Array.length_toList
    obtain ⟨sn, sp⟩ := spl_idx rest.data.toList
    have hidx : 0 ≤ Lib.indexByte rest.data.toList 47 := by
      refine Int.not_lt.1 fun h0 => ?_
      rw [sn h0] at hc
      simp at hc
    obtain ⟨m, hm⟩ := Int.eq_ofNat_of_zero_le hidx
    have hlt : m < rest.size := by have := Go.Proofs.YtngcfmnmjkncoaaDoor.Right.idx_lt rest.data.toList 47; rw [hm, hlr] at this; exact Int.ofNat_lt.1 this
    have e := sp m hm
    have hidx' : strings_Index.f rest ⟨#[47]⟩ = some (m : Int) := by show some (Lib.indexByte rest.data.toList 47) = _; rw [hm]
    have e1 : rest.extract 0 m = mk (rest.data.toList.take m) := ext (by rw [cut_list, list_mk, List.drop_zero])
    have e2 : rest.extract (m + 1) rest.size = mk (rest.data.toList.drop (m + 1)) := ext (by rw [cut_list, list_mk, ← hlr, List.take_length])
    have hsub1 : sub rest 0 (m : Int) = some (rest.extract 0 m) := sub_ (i := 0) (by omega) (by omega)
    have hsub2 : sub rest ((m + 1 : Nat) : Int) (rest.size : Int) = some (rest.extract (m + 1) rest.size) := sub_ (by omega) (Nat.le_refl _)
    have hchk : chk (i : Int) N = some () := by unfold chk; rw [if_pos (by omega)]
    have hwr : wr row i (rest.extract 0 m) = some (row.set i (rest.extract 0 m)) := by unfold wr; rw [if_pos (by omega)]
    have hw1 : w64 ((m : Int) + ((⟨#[47]⟩ : ByteArray).size : Int)) = ((m + 1 : Nat) : Int) := by show w64 ((m : Int) + 1) = _; exact w (by omega) (by omega)
    rw [strings_genSplit.l1, hN, w (x := (N : Int) - 1) (by omega) (by omega), if_pos (by omega), hidx', Option.bind_some, if_neg (by omega), Int.add_zero, w (x := (m : Int)) (by omega) (by omega), hsub1, Option.bind_some, Int.toNat_natCast, hchk, Option.bind_some, Int.toNat_natCast, hwr, Option.bind_some, hw1, hsub2, Option.bind_some, w (x := (i : Int) + 1) (by omega) (by omega)]
    have q := ih (rest.extract (m + 1) rest.size) (i + 1) (row.set i (rest.extract 0 m)) (by rw [e2, list_mk]; rw [e] at hc; simpa using hc) (by omega) (by rw [List.length_set]; exact hr) (by rw [e2, size_mk, List.length_drop]; omega) k (by omega)
    rw [show ((i : Int) + 1) = ((i + 1 : Nat) : Int) from rfl, q, take_set _ _ _ (by omega), e2, list_mk, e, e1]
    simp
theorem split_code (s : ByteArray) (hs : s.size ≤ 1000) : Ev (fun k => strings_Split.f k s ⟨#[47]⟩) ((spl s.data.toList).map mk) := by
  have hl : s.data.toList.length = s.size := Array.length_toList
  have h1 := spl_len s.data.toList
  have h2 := spl_count s.data.toList
  have ne : 0 < (spl s.data.toList).length := Nat.pos_of_ne_zero fun e => spl_ne _ (List.eq_nil_of_length_eq_zero e)
  unfold strings_Split.f
  refine Ev.bind (a := (spl s.data.toList).map mk) ?_ (Ev.const _)
  unfold strings_genSplit.f
  refine Ev.neg (by decide) (Ev.neg (by decide) ?_)
  simp only [jn]
  refine Ev.pos (by decide) ?_
  have hc : strings_Count.f s ⟨#[47]⟩ = some ((Lib.countByte s.data.toList 47 : Nat) : Int) := rfl
  refine Ev.now hc ?_
  rw [w (x := ((Lib.countByte s.data.toList 47 : Nat) : Int) + 1) (by omega) (by omega)]
  have hN : (if w64 ((s.size : Int) + 1) < ((Lib.countByte s.data.toList 47 : Nat) : Int) + 1 then w64 ((s.size : Int) + 1) else ((Lib.countByte s.data.toList 47 : Nat) : Int) + 1) = (((spl s.data.toList).length : Nat) : Int) := by
    rw [w (by omega) (by omega), if_neg (by omega)]; omega
  rw [hN]
  have hg : grw 16 (((spl s.data.toList).length : Nat) : Int) = some () := by unfold grw; rw [if_pos (by omega)]
  refine Ev.now hg ?_
  rw [Int.toNat_natCast]
  refine ⟨(spl s.data.toList).length + 1, fun k hk => ?_⟩
  have q := gs_loop s _ _ hN (by omega) (fun x23 x24 x25 => (chk x24 (spl s.data.toList).length).bind fun x44 => (wr x25 x24.toNat x23).bind fun x45 => (ln x45 (spl s.data.toList).length).bind fun _ => (cut x45 0 (w64 (x24 + 1))).bind fun x46 => some x46)
    (fun rest i row hi hr => by
      have hchk : chk (i : Int) (spl s.data.toList).length = some () := by unfold chk; rw [if_pos (by omega)]
      have hwr : wr row i rest = some (row.set i rest) := by unfold wr; rw [if_pos (by omega)]
      have hln : ln (row.set i rest) (spl s.data.toList).length = some () := by unfold ln; rw [if_pos (by rw [List.length_set]; exact hr)]
      have hcut : cut (row.set i rest) 0 ((i + 1 : Nat) : Int) = some ((row.set i rest).take (i + 1)) := by unfold cut; rw [if_pos (by rw [List.length_set]; omega)]; simp
      show ((chk (i : Int) (spl s.data.toList).length).bind fun x44 => (wr row ((i : Int)).toNat rest).bind fun x45 => (ln x45 (spl s.data.toList).length).bind fun _ => (cut x45 0 (w64 ((i : Int) + 1))).bind fun x46 => some x46) = _
      rw [hchk, Option.bind_some, Int.toNat_natCast, hwr, Option.bind_some, hln, Option.bind_some, w (by omega) (by omega), show ((i : Int) + 1) = ((i + 1 : Nat) : Int) from rfl, hcut, Option.bind_some, take_set _ _ _ (by omega)])
    ((spl s.data.toList).length - 1) s 0 (List.replicate (spl s.data.toList).length (⟨#[]⟩ : ByteArray)) (by omega) (by omega) (by rw [List.length_replicate]) hs k (by omega)
  rw [List.take_zero, List.nil_append] at q
  exact q

/-! ### the last part -/
def jo : List (List UInt8) → List UInt8
  | [] => []
  | a :: r => a ++ r.flatMap fun b => 47 :: b
theorem jo_spl (l : List UInt8) : jo (spl l) = l := by
  induction l with
  | nil => rfl
  | cons c l ih =>
    rw [spl_cons]
    cases e : spl l with
    | nil => exact absurd e (spl_ne _)
    | cons a r =>
      rw [e] at ih
      replace ih : a ++ r.flatMap (fun b => 47 :: b) = l := ih
      by_cases h : c = 47
      · rw [if_pos h, h]
        show [] ++ (a :: r).flatMap (fun b => 47 :: b) = _
        rw [List.flatMap_cons, List.nil_append, List.cons_append, ih]
      · rw [if_neg h]
        show ([c] ++ a) ++ r.flatMap (fun b => 47 :: b) = _
        rw [List.append_assoc, ih]; rfl
theorem spl_no (b : List UInt8) (h : 47 ∉ b) : spl b = [b] := by
  induction b with
  | nil => rfl
  | cons c b ih =>
    rw [spl_cons, if_neg (fun e => h (by rw [e]; exact List.mem_cons_self ..)), ih (fun m => h (List.mem_cons_of_mem _ m))]
    rfl
theorem spl_last (b : List UInt8) (h : 47 ∉ b) : ∀ a : List UInt8, spl (a ++ 47 :: b) = spl a ++ [b]
  | [] => by rw [List.nil_append, spl_cons, if_pos rfl, spl_no b h]; rfl
  | c :: a => by
    rw [List.cons_append, spl_cons, spl_cons, spl_last b h a]
    by_cases hc : c = 47
    · rw [if_pos hc, if_pos hc]; rfl
    · rw [if_neg hc, if_neg hc]
      cases e : spl a with
      | nil => exact absurd e (spl_ne _)
      | cons x y => rfl
theorem li_loop (s : ByteArray) (hs : s.size ≤ 1000) : ∀ n : Nat, n ≤ s.size → 47 ∉ s.data.toList.drop n →
    ∃ r : Int, Ev (fun k => internal_bytealg_LastIndexByteString.l0 s 47 k ((n : Int) - 1)) r ∧ ((r = -1 ∧ 47 ∉ s.data.toList) ∨ ∃ i : Nat, r = (i : Int) ∧ ∃ h : i < s.data.toList.length, s.data.toList[i] = 47 ∧ 47 ∉ s.data.toList.drop (i + 1)) := by
  have hl : s.data.toList.length = s.size := Array.length_toList
  intro n
  induction n with
  | zero =>
    intro _ h
    rw [List.drop_zero] at h
    exact ⟨-1, Ev.stepc fun k => by rw [internal_bytealg_LastIndexByteString.l0, if_neg (by omega)], .inl ⟨rfl, h⟩⟩
  | succ n ih =>
    intro hn h
    have h1 : n < s.data.toList.length := by omega
    have en : ((n + 1 : Nat) : Int) - 1 = (n : Int) := by omega
    rw [en]
    by_cases hc : s.data.toList[n] = 47
    · exact ⟨(n : Int), Ev.stepc fun k => by rw [internal_bytealg_LastIndexByteString.l0, if_pos (by omega), bx_ h1, Option.bind_some, if_pos (by rw [hc]; rfl)], .inr ⟨n, rfl, h1, hc, h⟩⟩
    · obtain ⟨r, hr, q⟩ := ih (by omega) (by
        rw [List.drop_eq_getElem_cons h1]
        intro m
        rcases List.mem_cons.1 m with e | m
        · exact hc e.symm
        · exact h m)
      refine ⟨r, Ev.step hr fun k => ?_, q⟩
      rw [internal_bytealg_LastIndexByteString.l0, if_pos (by omega), bx_ h1, Option.bind_some, if_neg (by
        intro e
        apply hc
        apply UInt8.toNat.inj
        have : (s.data.toList[n]).toNat = 47 := by omega
        exact this), w (by omega) (by omega)]
/-- What is above, and last. -/
def above (l : List UInt8) : List UInt8 := jo (spl l).dropLast
def last (l : List UInt8) : List UInt8 := (spl l).getLast (spl_ne l)
theorem cut_ev (s : ByteArray) (hs : s.size ≤ 1000) (hr : right s = true) : Ev (fun k => path_cut.f k s) (mk (above s.data.toList), mk (last s.data.toList)) := by
  have hl : s.data.toList.length = s.size := Array.length_toList
  unfold path_cut.f
  refine Ev.bind (right_ev s) ?_
  rw [hr]
  refine Ev.neg (by decide) ?_
  obtain ⟨r, hev, q⟩ := li_loop s hs s.size (Nat.le_refl _) (by rw [List.drop_eq_nil_of_le (by omega)]; simp)
  have hli : Ev (fun k => strings_LastIndexByte.f k s 47) r := by
    unfold strings_LastIndexByte.f internal_bytealg_LastIndexByteString.f
    rw [w (by omega) (by omega)]
    exact Ev.bind hev (Ev.const _)
  refine Ev.bind hli ?_
  rcases q with ⟨rfl, hno⟩ | ⟨i, rfl, h1, hc, hno⟩
  · have e := spl_no _ hno
    have ea : above s.data.toList = [] := by unfold above; rw [e]; rfl
    have el : last s.data.toList = s.data.toList := by unfold last; simp only [e]; rfl
    refine Ev.now (a := s.extract 0 0) (by show sub s 0 0 = _; exact sub_ (i := 0) (j := 0) (Nat.le_refl _) (by omega)) ?_
    refine Ev.now (a := s.extract 0 s.size) (by show sub s (w64 (-1 + 1)) _ = _; exact sub_ (i := 0) (by omega) (Nat.le_refl _)) ?_
    rw [ea, el, show s.extract 0 0 = mk [] from ext (by rw [cut_list, list_mk, List.take_zero, List.drop_nil]), show s.extract 0 s.size = mk s.data.toList from ext (by rw [cut_list, list_mk, ← hl, List.take_length, List.drop_zero])]
    exact Ev.const _
  · have el0 : s.data.toList = s.data.toList.take i ++ 47 :: s.data.toList.drop (i + 1) := by
      conv => lhs; rw [← List.take_append_drop i s.data.toList, List.drop_eq_getElem_cons h1, hc]
    have e : spl s.data.toList = spl (s.data.toList.take i) ++ [s.data.toList.drop (i + 1)] := by
      conv => lhs; rw [el0]
      exact spl_last _ hno _
    have ea : above s.data.toList = s.data.toList.take i := by unfold above; rw [e, List.dropLast_concat, jo_spl]
    have el : last s.data.toList = s.data.toList.drop (i + 1) := by unfold last; simp only [e]; exact List.getLast_concat ..
    refine Ev.now (a := s.extract 0 i) (by rw [if_neg (by omega)]; exact sub_ (i := 0) (by omega) (by omega)) ?_
    refine Ev.now (a := s.extract (i + 1) s.size) (by rw [w (by omega) (by omega)]; exact sub_ (i := i + 1) (by omega) (Nat.le_refl _)) ?_
    rw [ea, el, show s.extract 0 i = mk (s.data.toList.take i) from ext (by rw [cut_list, list_mk, List.drop_zero]), show s.extract (i + 1) s.size = mk (s.data.toList.drop (i + 1)) from ext (by rw [cut_list, list_mk, ← hl, List.take_length])]
    exact Ev.const _
theorem same_loop (x y : List ByteArray) (hx : x.length = y.length) (hl : x.length ≤ 1000000) :
    ∀ (n i : Nat), i + n = x.length → Ev (fun k => quitclaimref05_Same.l0 x y k (i : Int)) (decide (x.drop i = y.drop i)) := by
  intro n
  induction n with
  | zero =>
    intro i hi
    refine Ev.stepc fun k => ?_
    rw [quitclaimref05_Same.l0, if_neg (by omega), List.drop_eq_nil_of_le (by omega), List.drop_eq_nil_of_le (by omega)]
    simp
  | succ n ih =>
    intro i hi
    have h1 : i < x.length := by omega
    have h2 : i < y.length := by omega
    rw [drop_at h1, drop_at h2]
    by_cases he : x[i] = y[i]
    · have e : (decide (x[i] :: x.drop (i + 1) = y[i] :: y.drop (i + 1))) = decide (x.drop (i + 1) = y.drop (i + 1)) := by rw [decide_eq_decide, List.cons.injEq]; exact ⟨fun h => h.2, fun h => ⟨he, h⟩⟩
      rw [e]
      refine Ev.step (ih (i + 1) (by omega)) fun k => ?_
      rw [quitclaimref05_Same.l0, if_pos (by omega), ix_ h1, ix_ h2, Option.bind_some, Option.bind_some, if_neg (by simp [he]), w (by omega) (by omega)]
      rfl
    · have e : (decide (x[i] :: x.drop (i + 1) = y[i] :: y.drop (i + 1))) = false := decide_eq_false fun h => he (List.cons.inj h).1
      rw [e]
      refine Ev.stepc fun k => ?_
      rw [quitclaimref05_Same.l0, if_pos (by omega), ix_ h1, ix_ h2, Option.bind_some, Option.bind_some, if_pos (by simp [he])]
theorem same (x y : List ByteArray) (hl : x.length ≤ 1000000) : Ev (fun k => quitclaimref05_Same.f k x y) (decide (x = y)) := by
  unfold quitclaimref05_Same.f
  by_cases h : x.length = y.length
  · exact Ev.neg (by simp; omega) (same_loop x y h hl x.length 0 (by omega))
  · have e : decide (x = y) = false := decide_eq_false fun e => h (by rw [e])
    rw [e]
    exact Ev.pos (by simp; omega) (Ev.const false)
theorem same1 (x : List ByteArray) (hl : x.length ≤ 1000000) : Ev (fun k => quitclaimref05_Same.f k x x) true := (same x x hl).to (decide_eq_true rfl)


/-! ### the reference's join -/
theorem join_loop (x : List (List UInt8)) (hx : x.length ≤ 1000) : ∀ (n i : Nat) (acc : ByteArray), 0 < i → i + n = x.length → acc.size + ((x.drop i).flatMap fun b => 47 :: b).length ≤ 1000000 →
    Ev (fun k => quitclaimref10_Join.l0 (x.map mk) k acc (i : Int)) (mk (acc.data.toList ++ (x.drop i).flatMap fun b => 47 :: b)) := by
  intro n
  induction n with
  | zero =>
    intro i acc h0 hi ha
    refine Ev.stepc fun k => ?_
    rw [quitclaimref10_Join.l0, if_neg (by rw [List.length_map]; omega), List.drop_eq_nil_of_le (by omega)]
    simp [mk_list]
  | succ n ih =>
    intro i acc h0 hi ha
    have h1 : i < x.length := by omega
    have hl : acc.data.toList.length = acc.size := Array.length_toList
    have ed : x.drop i = x[i] :: x.drop (i + 1) := List.drop_eq_getElem_cons h1
    rw [ed, List.flatMap_cons] at ha ⊢
    simp only [List.length_append, List.length_cons] at ha
    have hix : ix (x.map mk) (i : Int) = some (mk x[i]) := by rw [ix_ (by rw [List.length_map]; exact h1), List.getElem_map]
    have z1 : (acc ++ (⟨#[47]⟩ : ByteArray)).size = acc.size + 1 := by rw [ByteArray.size_append]; rfl
    have hc1 : cat acc (⟨#[47]⟩ : ByteArray) = some (acc ++ (⟨#[47]⟩ : ByteArray)) := by unfold cat; rw [if_pos (by show acc.size + 1 ≤ _; omega)]
    have hc2 : cat (acc ++ (⟨#[47]⟩ : ByteArray)) (mk x[i]) = some (acc ++ (⟨#[47]⟩ : ByteArray) ++ mk x[i]) := by unfold cat; rw [if_pos (by rw [z1, size_mk]; omega)]
    have q := ih (i + 1) (acc ++ (⟨#[47]⟩ : ByteArray) ++ mk x[i]) (by omega) (by omega) (by rw [ByteArray.size_append, z1, size_mk]; omega)
    rw [app_list, app_list, list_mk, List.append_assoc, List.append_assoc] at q
    rw [List.cons_append]
    refine Ev.step q fun k => ?_
    rw [quitclaimref10_Join.l0, if_pos (by rw [List.length_map]; omega)]
    simp only [jn]
    rw [if_pos (by omega), hc1, Option.bind_some, hix, Option.bind_some, hc2, Option.bind_some, w (by omega) (by omega)]
    rfl
theorem join_ev (x : List (List UInt8)) (hx : x.length ≤ 1000) (hj : (jo x).length ≤ 100000) : Ev (fun k => quitclaimref10_Join.f k (x.map mk)) (mk (jo x)) := by
  unfold quitclaimref10_Join.f
  cases x with
  | nil => exact Ev.stepc fun k => by rw [quitclaimref10_Join.l0, if_neg (by decide)]; rfl
  | cons a r =>
    simp only [jo, List.length_append] at hj
    have hc : cat (⟨#[]⟩ : ByteArray) (mk a) = some (mk a) := by
      unfold cat
      rw [if_pos (by rw [size_mk]; show 0 + a.length ≤ _; omega)]
      rw [show (⟨#[]⟩ : ByteArray) ++ mk a = mk a from ext (by rw [app_list]; rfl)]
    have q := join_loop (a :: r) hx r.length 1 (mk a) (by omega) (by simp; omega) (by rw [size_mk]; simp only [List.drop_succ_cons, List.drop_zero]; omega)
    rw [list_mk] at q
    refine Ev.step q fun k => ?_
    rw [quitclaimref10_Join.l0, if_pos (by simp)]
    simp only [jn]
    have hix : ix ((a :: r).map mk) 0 = some (mk a) := rfl
    rw [if_neg (by omega), hix, Option.bind_some, hc, Option.bind_some]
    rfl

/-! ### the law -/
theorem law (a b : ByteArray) : Ev (fun k => quitclaimlaw10_PathTells.f k a b) true := by
  unfold quitclaimlaw10_PathTells.f
  by_cases hbig : a.size > 600 ∨ b.size > 600
  · refine Ev.pos ?_ (Ev.bind awake_ev (Ev.const true))
    rcases hbig with h | h
    · rw [decide_eq_true (show (a.size : Int) > 600 by omega)]; rfl
    · rw [decide_eq_true (show (b.size : Int) > 600 by omega), Bool.or_true]
  · have ha : a.size ≤ 600 := by omega
    have hb : b.size ≤ 600 := by omega
    refine Ev.neg (by rw [decide_eq_false (by omega), decide_eq_false (by omega)]; decide) ?_
    refine Ev.bind (rright_ev a) (Ev.bind (rright_ev b) (Ev.bind (right_ev a) ?_))
    rw [show decide (a = ⟨#[]⟩) = _ from eqb a []]
    obtain ⟨e, he⟩ : ∃ e, e = (a.data.toList == []) := ⟨_, rfl⟩
    rw [← he]
    have t1 : (!(!(right a == right a))) = true := by simp
    refine Ev.bind (Ev.g1 t1 (he ▸ prefix_ev a)) ?_
    have t2 : (!(!(right a == right a) || !((e || right a) == (e || right a)))) = true := by simp
    refine Ev.bind (Ev.g1 t2 (covers_ev a b (by omega))) ?_
    refine Ev.bind (Ev.g1 t2 (Ev.gd fun _ => Ev.ev (rcovers_eq a b))) ?_
    have c7 : cv a b = (((e || right a) && right b) && (if ((e || right a) && right b) = true then cov a b else default)) := by
      unfold cv; rw [← he]
      cases (e || right a) <;> cases right b <;> rfl
    rw [← c7]
    have t3 : (!((!(right a == right a) || !((e || right a) == (e || right a))) || !(cv a b == cv a b))) = true := by simp
    refine Ev.bind (Ev.g1 t3 (beside_ev a b (by omega) (by omega))) ?_
    refine Ev.bind (Ev.g1 t3 (Ev.gd fun _ => Ev.ev (rcovers_eq a b))) ?_
    refine Ev.bind (Ev.g1 t3 (Ev.gd fun _ => Ev.ev (rcovers_eq b a))) ?_
    have c8 : (((right a && right b) && !cov a b) && !cov b a) = (((right a && right b) && !(if (right a && right b) = true then cov a b else default)) && !(if ((right a && right b) && !(if (right a && right b) = true then cov a b else default)) = true then cov b a else default)) := by
      cases (right a && right b) <;> cases cov a b <;> cases cov b a <;> rfl
    rw [← c8]
    refine Ev.neg (by simp) ?_
    cases hr : right a with
    | false =>
      have hp : Ev (fun k => path_Parts.f k a) [] := by
        unfold path_Parts.f
        exact Ev.bind (hr ▸ right_ev a) (Ev.pos rfl (Ev.const _))
      have hcut : Ev (fun k => path_cut.f k a) ((⟨#[]⟩ : ByteArray), (⟨#[]⟩ : ByteArray)) := by
        unfold path_cut.f
        exact Ev.bind (hr ▸ right_ev a) (Ev.pos rfl (Ev.const _))
      refine Ev.bind hp (Ev.pos rfl ?_)
      have hab : Ev (fun k => path_Above.f k a) (⟨#[]⟩ : ByteArray) := by unfold path_Above.f; exact Ev.bind hcut (Ev.const _)
      have hla : Ev (fun k => path_Last.f k a) (⟨#[]⟩ : ByteArray) := by unfold path_Last.f; exact Ev.bind hcut (Ev.const _)
      exact Ev.bind (Ev.g1 rfl hab) (Ev.bind (Ev.g1 rfl hla) (Ev.bind (Ev.g1 rfl awake_ev) (Ev.const _)))
    | true =>
      have hl : a.data.toList.length = a.size := Array.length_toList
      have hsl := spl_len a.data.toList
      have ne : 0 < (spl a.data.toList).length := Nat.pos_of_ne_zero fun e => spl_ne _ (List.eq_nil_of_length_eq_zero e)
      have hp : Ev (fun k => path_Parts.f k a) ((spl a.data.toList).map mk) := by
        unfold path_Parts.f
        exact Ev.bind (hr ▸ right_ev a) (Ev.neg (by decide) (Ev.bind (split_code a (by omega)) (Ev.const _)))
      refine Ev.bind hp (Ev.neg (by decide) ?_)
      refine Ev.bind (split_ev a (by omega)) ?_
      refine Ev.bind (same1 _ (by rw [List.length_map]; omega)) ?_
      have hcut := cut_ev a (by omega) hr
      have hab : Ev (fun k => path_Above.f k a) (mk (above a.data.toList)) := by unfold path_Above.f; exact Ev.bind hcut (Ev.const _)
      have hla : Ev (fun k => path_Last.f k a) (mk (last a.data.toList)) := by unfold path_Last.f; exact Ev.bind hcut (Ev.const _)
      have hw : w64 ((((spl a.data.toList).map mk).length : Int) - 1) = (((spl a.data.toList).length - 1 : Nat) : Int) := by rw [List.length_map, w (by omega) (by omega)]; omega
      rw [hw]
      have hix : ix ((spl a.data.toList).map mk) (((spl a.data.toList).length - 1 : Nat) : Int) = some (mk (last a.data.toList)) := by
        rw [ix_ (by rw [List.length_map]; omega), List.getElem_map]
        unfold last
        rw [List.getLast_eq_getElem]
      have hcc : cut ((spl a.data.toList).map mk) 0 (((spl a.data.toList).length - 1 : Nat) : Int) = some ((spl a.data.toList).dropLast.map mk) := by
        unfold cut
        rw [if_pos (by rw [List.length_map]; omega), Int.toNat_natCast]
        simp only [Int.toNat_zero, List.drop_zero]
        rw [← List.map_take, List.dropLast_eq_take]
      have hj : Ev (fun k => quitclaimref10_Join.f k ((spl a.data.toList).dropLast.map mk)) (mk (above a.data.toList)) := by
        refine join_ev _ (by rw [List.length_dropLast]; omega) ?_
        have key : (jo (spl a.data.toList).dropLast).length ≤ a.data.toList.length := by
          have h := jo_spl a.data.toList
          have hne := spl_ne a.data.toList
          have e := List.dropLast_concat_getLast hne
          rw [← e] at h
          generalize (spl a.data.toList).dropLast = d at h ⊢
          generalize (spl a.data.toList).getLast hne = z at h
          rw [← h]
          cases d with
          | nil => simp [jo]
          | cons x y => simp [jo, List.flatMap_append]
        omega
      have tt : (true && decide (mk (last a.data.toList) = mk (last a.data.toList))) = true := by simp
      refine Ev.bind (Ev.g1 rfl hla) (Ev.bind (Ev.g1 rfl (Ev.ev hix)) (Ev.bind (Ev.g1 tt hab) (Ev.bind (Ev.g1 tt (Ev.ev hcc)) (Ev.bind (Ev.g1 tt hj) ?_))))
      have tu : ((true && decide (mk (last a.data.toList) = mk (last a.data.toList))) && decide (mk (above a.data.toList) = mk (above a.data.toList))) = true := by simp
      refine Ev.to (Ev.bind (Ev.g1 tu awake_ev) (Ev.const _)) ?_
      rw [tu]; rfl
end Go.Proofs.YtngcfmnmjkncoaaDoor.PureP
namespace Go.Proofs.YtngcfmnmjkncoaaDoor.Pure
theorem pathTells (a b : ByteArray) : ∃ k, Q.quitclaimlaw10_PathTells.f k a b = some true := by
  obtain ⟨K, h⟩ := PureP.law a b
  exact ⟨K, h K (Nat.le_refl _)⟩
end Go.Proofs.YtngcfmnmjkncoaaDoor.Pure
