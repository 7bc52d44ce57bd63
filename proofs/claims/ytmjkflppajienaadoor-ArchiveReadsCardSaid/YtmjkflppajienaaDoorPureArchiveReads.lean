/- The law of layer 39 on reading; no condition but the typed premises. -/
import Derived.Test.YtmjkflppajienaaDoorPLin
import Derived.Test.YtmjkflppajienaaDoorPPk
namespace Go.Proofs.YtmjkflppajienaaDoor.R.Pu
open Go Go.RowKit
set_option linter.unusedVariables false
set_option linter.unusedSimpArgs false

theorem equal_ev (a b : List ByteArray) (hl : a.length ≤ 1000000000) (hl' : b.length ≤ 1000000000) : slices_Equal_string_string.f a b = some (decide (a = b)) := by
  refine slices_Equal_string_string.in _ _ ?_
  by_cases hn : a.length = b.length
  · rw [decide_eq_true (show (a.length : Int) = (b.length : Int) by omega), if_neg (by decide)]
    refine (wh_ind (fun i : Nat => (a, b, (a.length : Int), (i : Int), ())) (fun i => i ≤ a.length) (fun i => a.length - i) (fun i => decide (a.drop i = b.drop i)) (fun i hi r hr => ?_) 0 (Nat.zero_le _)).trans (by simp)
    by_cases h : i < a.length
    · have hb : i < b.length := by omega
      have hr := hr (i + 1) h (by omega)
      simp (disch := omega) only [decide_eq_true_eq, if_pos, ix_, Option.bind_some, wS, hr]
      by_cases he : a[i] = b[i]
      · rw [decide_eq_true he, if_neg (by decide)]
        congr 1
        rw [decide_eq_decide, drop_eq_iff h hb]
        exact ⟨fun h => ⟨he, h⟩, fun h => h.2⟩
      · rw [decide_eq_false he, if_pos (by decide), decide_eq_false (fun h' => he ((drop_eq_iff h hb).1 h').1)]
    · simp (disch := omega) only [decide_eq_true_eq, if_neg]
      rw [List.drop_eq_nil_of_le (by omega), List.drop_eq_nil_of_le (by omega)]; rfl
  · rw [decide_eq_false (show ¬ (a.length : Int) = (b.length : Int) by omega), if_pos (by decide), decide_eq_false (fun h => hn (by rw [h]))]

theorem spd_part (d : UInt8) : ∀ (l : List UInt8) (z : List UInt8), z ∈ spd d l → z.length ≤ l.length
  | [], z, hz => by simp [spd] at hz; subst hz; simp
  | c :: l, z, hz => by
    have ih := spd_part d l
    unfold spd at hz
    split at hz
    · rcases List.mem_cons.1 hz with rfl | hz
      · simp
      · have := ih z hz; rw [List.length_cons]; omega
    · cases e : spd d l with
      | nil => exact absurd e (spd_ne d l)
      | cons a x =>
        rw [e] at hz
        rcases List.mem_cons.1 hz with rfl | hz
        · have := ih a (by rw [e]; simp); simp only [List.length_append, List.length_cons, List.length_nil]; omega
        · have := ih z (by rw [e]; simp [hz]); rw [List.length_cons]; omega
theorem lns_len (l : List File) (h : ∀ f ∈ l, f.2.1.length ≤ 1000) : (lns l).length ≤ l.length * 1001 := by
  induction l with
  | nil => simp [lns]
  | cons f l ih =>
    have h1 := h f (by simp)
    have h2 := ih fun g hg => h g (by simp [hg])
    rw [show lns (f :: l) = (hdl f :: f.2.1) ++ lns l from rfl, List.length_append, List.length_cons, List.length_cons]
    omega
/-! ### a file's lines -/
/-- How many lines a word says that there are. -/
def cnt (s : ByteArray) (most : Nat) : Option Nat := match Lib.atoiAll s.data.toList with
  | .ok v => bif decide (v < 0) || decide (v > (most : Int)) then none else some v.toNat
  | _ => none
def hdw (w l : List ByteArray) : Option (File × List ByteArray) := match w with
  | [_, p, n] => match cnt n l.length with
    | some k => some ((p, l.take k, ()), l.drop k)
    | none => none
  | _ => none
/-- The file with which lines begin, and what is left of them. -/
def hdr : List ByteArray → Option (File × List ByteArray)
  | [] => none
  | x :: l => hdw ((spd 32 x.data.toList).map bmk) l
theorem hdw_some {w l : List ByteArray} {f : File} {r : List ByteArray} (h : hdw w l = some (f, r)) : ∃ k p, f = (p, l.take k, ()) ∧ r = l.drop k := by
  unfold hdw at h
  split at h
  · split at h
    · obtain ⟨rfl, rfl⟩ := Prod.mk.inj (Option.some.inj h)
      exact ⟨_, _, rfl, rfl⟩
    · cases h
  · cases h
theorem hdr_len {l : List ByteArray} {f : File} {r : List ByteArray} (h : hdr l = some (f, r)) : r.length < l.length := by
  cases l with
  | nil => cases h
  | cons x l =>
    obtain ⟨k, p, rfl, rfl⟩ := hdw_some h
    rw [List.length_drop, List.length_cons]; omega
theorem file_ev (x : ByteArray) (l : List ByteArray) (hx : x.size ≤ 1000000) (hl : l.length ≤ 1000000) : archive_file.f (x :: l) = some (match hdr (x :: l) with
    | some (f, r) => (f, r, true, ())
    | none => ((⟨⟨[]⟩⟩, [], ()), [], false, ())) := by
  refine archive_file.in _ ?_
  rw [ix0 (by simp), Option.bind_some, List.getElem_cons_zero, split_ev _ _ (by omega), Option.bind_some]
  have hsz := spd_len 32 x.data.toList
  have hlx := len_text x
  have hmem : ∀ y ∈ (spd 32 x.data.toList).map bmk, y.size ≤ 1000000 := fun y hy => by
    obtain ⟨z, hz, rfl⟩ := List.mem_map.1 hy
    rw [size_bmk]
    have := spd_part 32 x.data.toList z hz
    omega
  rw [show hdr (x :: l) = hdw ((spd 32 x.data.toList).map bmk) l from rfl]
  generalize (spd 32 x.data.toList).map bmk = w at *
  match w with
  | [a, p, n] =>
    have hn := hmem n (by simp)
    rw [decide_eq_true (show (([a, p, n] : List ByteArray).length : Int) = 3 from rfl), if_neg (by decide)]
    have e2 : ix [a, p, n] 2 = some n := rfl
    have e1 : ix [a, p, n] 1 = some p := rfl
    rw [e2, Option.bind_some]
    have hA : ∀ r, strconv_Atoi.g n = some r → strconv_Atoi.f n = some r := fun r h => strconv_Atoi.in _ h
    unfold strconv_Atoi.g at hA
    rw [if_pos (show n.size ≤ 281474976710656 by omega)] at hA
    have hw : w64 (((x :: l).length : Int) - 1) = (l.length : Int) := by rw [List.length_cons, w_ (by omega) (by omega)]; omega
    simp only [hdw, cnt]
    rcases hv : Lib.atoiAll n.data.toList with v | _ | _
    · rw [hv] at hA
      rw [hA _ rfl, Option.bind_some]
      simp only [Bool.false_or, hw]
      cases hb : decide (v < 0) || decide (v > (l.length : Int)) with
      | true => rw [if_pos rfl]; rfl
      | false =>
        simp only [Bool.or_eq_false_iff, decide_eq_false_iff_not] at hb
        obtain ⟨k, rfl⟩ : ∃ k : Nat, v = (k : Int) := ⟨v.toNat, by omega⟩
        have hk : k ≤ l.length := by omega
        rw [if_neg (by decide), e1, Option.bind_some]
        have e3 : w64 (1 + (k : Int)) = ((k + 1 : Nat) : Int) := by rw [w_ (by omega) (by omega)]; omega
        have c1 := cut_ (x := x :: l) (i := 1) (j := k + 1) (by omega) (by rw [List.length_cons]; omega)
        have c2 := cut_ (x := x :: l) (i := k + 1) (j := (x :: l).length) (by rw [List.length_cons]; omega) (Nat.le_refl _)
        rw [e3, show (1 : Int) = ((1 : Nat) : Int) from rfl, c1, Option.bind_some, c2, Option.bind_some]
        simp
    · rw [hv] at hA
      rw [hA _ rfl, Option.bind_some]
      simp only [Bool.true_or, if_true]
    · rw [hv] at hA
      rw [hA _ rfl, Option.bind_some]
      simp only [Bool.true_or, if_true]
  | [] => rfl
  | [a] => rfl
  | [a, b] => rfl
  | a :: b :: c :: d :: e =>
    rw [decide_eq_false (show ¬ (((a :: b :: c :: d :: e) : List ByteArray).length : Int) = 3 by simp only [List.length_cons]; omega), if_pos (by decide)]
    rfl
/-- The files of lines. -/
def rd (l : List ByteArray) (acc : List File) : Option (List File) := match l with
  | [] => some acc
  | x :: l' => match h : hdr (x :: l') with
    | some (f, r) => rd r (acc ++ [f])
    | none => none
termination_by l.length
decreasing_by exact hdr_len h
def rdF (l : List ByteArray) (fs : List File) : (List File × Unit) × Int × Unit := bif decide ((frm fs []).2 = 0) && decide (lns (frm fs []).1 = l) then (((frm fs []).1, ()), 0, ()) else (([], ()), 3, ())
def rdT (l : List ByteArray) : (List File × Unit) × Int × Unit := match rd l [] with
  | some fs => rdF l fs
  | none => (([], ()), 3, ())
theorem hdr_mem {l : List ByteArray} {f : File} {r : List ByteArray} (h : hdr l = some (f, r)) : (∀ x ∈ r, x ∈ l) ∧ f.2.1.length ≤ l.length := by
  cases l with
  | nil => cases h
  | cons x l =>
    obtain ⟨k, p, rfl, rfl⟩ := hdw_some h
    exact ⟨fun y hy => List.mem_cons_of_mem _ (List.mem_of_mem_drop hy), by simp only [List.length_take, List.length_cons]; omega⟩
theorem rd_some {x : ByteArray} {w : List ByteArray} {f : File} {r : List ByteArray} {acc : List File} (h : hdr (x :: w) = some (f, r)) : rd (x :: w) acc = rd r (acc ++ [f]) := by
  rw [rd]
  split
  · rename_i f' r' h'
    rw [h] at h'
    obtain ⟨rfl, rfl⟩ := Prod.mk.inj (Option.some.inj h')
    rfl
  · rename_i h'
    rw [h] at h'; cases h'
theorem rd_none {x : ByteArray} {w : List ByteArray} {acc : List File} (h : hdr (x :: w) = none) : rd (x :: w) acc = none := by
  rw [rd]
  split
  · rename_i f' r' h'
    rw [h] at h'; cases h'
  · rfl
theorem read_ev (l : List ByteArray) (hl : l.length ≤ 60) (hs : ∀ x ∈ l, x.size ≤ 300) : archive_Read.f l = some (rdT l) := by
  refine archive_Read.in _ ?_
  refine (wh_ind (fun (p : List ByteArray × List File) => ((l, (), p.2, p.1, ()), ([], ()), (), ())) (fun p => (∀ x ∈ p.1, x ∈ l) ∧ p.2.length + p.1.length ≤ l.length ∧ ∀ f ∈ p.2, f.2.1.length ≤ 60) (fun p => p.1.length)
    (fun p => match rd p.1 p.2 with
      | some fs => rdF l fs
      | none => (([], ()), 3, ())) (fun p hp r hr => ?_) (l, []) ⟨fun x h => h, by simp, by simp⟩).trans rfl
  obtain ⟨w, fs⟩ := p
  obtain ⟨h1, h2, h3⟩ := hp
  simp only at h1 h2 h3 hr
  cases w with
  | nil =>
    simp only []
    rw [rd]
    have T := frm_tr fs [] Tr.nil
    simp only [List.length_nil, Nat.zero_add] at T
    rw [decide_eq_false (show ¬ (([] : List ByteArray).length : Int) > 0 by simp), if_neg (by decide), from_ev fs (by omega) (fun f hf => by have := h3 f hf; omega), Option.bind_some]
    show _ = some (rdF l fs)
    unfold rdF
    cases hc : decide ((frm fs []).2 = 0) with
    | false => simp only [Bool.not_false, Bool.not_true, gdF, Option.bind_some, Bool.true_or, if_true, Bool.false_and, cond_false]
    | true =>
      simp only [Bool.not_true, Bool.not_false, gdT, Bool.false_or, Bool.true_and]
      rw [lines_ev _ T.1 (by omega), Option.bind_some, equal_ev _ _ ?_ (by omega), Option.bind_some]
      · cases hd : decide (lns (frm fs []).1 = l) with
        | false => rfl
        | true => rfl
      · have := lns_len (frm fs []).1 fun f hf => (linesOk_len (T.1.lines f hf)).1
        omega
  | cons x w =>
    simp only []
    rw [decide_eq_true (show ((x :: w).length : Int) > 0 by rw [List.length_cons]; omega), if_pos rfl, file_ev x w (by have := hs x (h1 x (by simp)); omega) (by rw [List.length_cons] at h2; omega), Option.bind_some]
    cases hh : hdr (x :: w) with
    | some q =>
      obtain ⟨f, rest⟩ := q
      have hm := hdr_mem hh
      have hlen := hdr_len hh
      rw [rd_some hh]
      rw [List.length_cons] at hlen h2 hm
      simp only [Bool.not_true, Bool.false_eq_true, if_false]
      rw [app_ (by simp; omega), Option.bind_some]
      exact hr (rest, fs ++ [f]) ⟨fun y hy => h1 y (hm.1 y hy), by simp only [List.length_append, List.length_singleton]; omega, fun g hg => by
        rcases List.mem_append.1 hg with hg | hg
        · exact h3 g hg
        · rw [List.mem_singleton] at hg; subst hg; have := hm.2; omega⟩ (by simp only [List.length_cons]; omega)
    | none =>
      rw [rd_none hh]
      rfl
theorem rdT_or (l : List ByteArray) : rdT l = (([], ()), 3, ()) ∨ ∃ t, rdT l = ((t, ()), 0, ()) ∧ Tr t ∧ t.length ≤ 200 ∧ lns t = l := by
  unfold rdT
  cases rd l [] with
  | none => exact .inl rfl
  | some fs =>
    have T := frm_tr fs [] Tr.nil
    show rdF l fs = _ ∨ ∃ t, rdF l fs = _ ∧ _
    unfold rdF
    cases hc : decide ((frm fs []).2 = 0) && decide (lns (frm fs []).1 = l) with
    | false => exact .inl rfl
    | true =>
      simp only [Bool.and_eq_true, decide_eq_true_eq] at hc
      exact .inr ⟨_, rfl, T.1, T.2.2, hc.2⟩
/-! ### the law -/
theorem len_ev (t : List File) : tree_Tree_Len.f (t, ()) = some (t.length : Int) := tree_Tree_Len.in (t, ()) rfl
end Go.Proofs.YtmjkflppajienaaDoor.R.Pu
namespace Go.Proofs.YtmjkflppajienaaDoor.R.Pure
open Go Go.RowKit Pu
set_option linter.unusedVariables false
set_option linter.unusedSimpArgs false
theorem archiveReads (l : List ByteArray) (y : okT (.sl 1 .s) l) : quitclaimlaw39_ArchiveReads.f l = some true := by
  refine quitclaimlaw39_ArchiveReads.in _ ?_
  by_cases hl : 60 < l.length
  · rw [decide_eq_true (show (l.length : Int) > 60 by omega), if_pos rfl, awake_ev]; rfl
  · rw [decide_eq_false (show ¬ (l.length : Int) > 60 by omega), if_neg (by decide)]
    refine (wh_list l (fun i (_ : Unit) => (l, l, (l.length : Int), i, ())) (fun i _ => ∀ (j : Nat) (h : j < l.length), j < i → l[j].size ≤ 300) (fun _ _ => true) (fun _ r hI => ?_) (fun i _ r h hI hr => ?_) () (fun j _ h => by omega)).trans rfl
    · have hs : ∀ x ∈ l, x.size ≤ 300 := fun x hx => by
        obtain ⟨j, hj, rfl⟩ := List.getElem_of_mem hx
        exact hI j hj hj
      simp (disch := omega) only [decide_eq_true_eq, if_neg]
      rw [read_ev l (by omega) hs, Option.bind_some]
      rcases rdT_or l with h | ⟨t, h, T, ht, hl2⟩
      · rw [h]
        simp only [len_ev, awake_ev]; rfl
      · rw [h, if_neg (show ¬ (!decide ((0 : Int) = 0)) = true by decide), plain_ev _ (by omega) (fun f hf => by have := (linesOk_len (T.lines f hf)).1; omega), Option.bind_some, rlin_ev _ T (by omega), Option.bind_some, hl2, same_ev _ _ (by omega) (by omega), Option.bind_some, decide_eq_true rfl, gdT, awake_ev]
        rfl
    · simp (disch := omega) only [decide_eq_true_eq, if_pos, ix_, Option.bind_some, wS]
      by_cases hz : 300 < l[i].size
      · rw [if_pos (by omega), awake_ev]; rfl
      · rw [if_neg (by omega)]
        exact hr () fun j hj hji => by
          rcases Nat.lt_succ_iff_lt_or_eq.1 hji with h | rfl
          · exact hI j hj h
          · omega
end Go.Proofs.YtmjkflppajienaaDoor.R.Pure
