/- Archives, unpacked: the program's and the reference's, as one; no condition. -/
import Derived.Test.YtmjkflppajienaaDoorPFrom
import Derived.Test.YtmjkflppajienaaDoorPPack
namespace Go.Proofs.YtmjkflppajienaaDoor.R.Pu
open Go Go.RowKit
set_option linter.unusedVariables false
set_option linter.unusedSimpArgs false

/-- Does each stand ahead of the next one? -/
def adj : List File → Bool
  | x :: y :: r => lts x.1 y.1 && adj (y :: r)
  | _ => true
theorem less_lts (a b : ByteArray) : Op.bytesLess a.toList b.toList = lts a b := by rw [toList_data, toList_data, less_eq]; rfl
def fin_ (s : ByteArray) (fs : List File) (a : Nat) (e : Int) : List File × Int := bif !decide (e = 0) then ([], e) else bif decide (a < s.size) then ([], 3) else bif adj fs then frm fs [] else ([], 17)
def pfiles (s : ByteArray) : Nat → Nat → List File → List File × Nat × Int
  | 0, a, acc => (acc, a, 0)
  | n + 1, a, acc => bif !decide ((ptext 4194304 s (ptext 200 s a 0).2.1 (ptext 200 s a 0).2.2).2.2 = 0) then (acc, a, (ptext 4194304 s (ptext 200 s a 0).2.1 (ptext 200 s a 0).2.2).2.2)
    else bif !(hsplit (ptext 4194304 s (ptext 200 s a 0).2.1 (ptext 200 s a 0).2.2).1).2 then (acc, a, 3)
    else pfiles s n (ptext 4194304 s (ptext 200 s a 0).2.1 (ptext 200 s a 0).2.2).2.1 (acc ++ [((ptext 200 s a 0).1, (hsplit (ptext 4194304 s (ptext 200 s a 0).2.1 (ptext 200 s a 0).2.2).1).1, ())])
def sign : ByteArray := ⟨⟨[81, 65, 49]⟩⟩
def unp (s : ByteArray) : List File × Int := bif decide (s.size < 3) then ([], 2) else bif !decide (s.extract 0 3 = sign) then ([], 3) else bif !decide ((pnum s 3 0).2.2 = 0) then ([], (pnum s 3 0).2.2) else bif decide (200 < (pnum s 3 0).1) then ([], 4)
  else fin_ s (pfiles s (pnum s 3 0).1 (pnum s 3 0).2.1 []).1 (pfiles s (pnum s 3 0).1 (pnum s 3 0).2.1 []).2.1 (pfiles s (pnum s 3 0).1 (pnum s 3 0).2.1 []).2.2
theorem hsplit_len (s : ByteArray) : (hsplit s).1.length ≤ s.size ∧ ∀ t ∈ (hsplit s).1, t.size ≤ s.size := by
  have hl := len_text s
  have := spd_len 10 s.data.toList
  have h0 := spd_ne 10 s.data.toList
  unfold hsplit
  refine ⟨?_, dropLast_bytes 10 _ _ (by omega)⟩
  simp only [List.length_map, List.length_dropLast]
  omega
/-- What is known of files on the way. -/
def Fs (s : ByteArray) (fs : List File) : Prop := ∀ f ∈ fs, f.2.1.length ≤ s.size ∧ ∀ t ∈ f.2.1, t.size ≤ s.size
theorem Fs.snoc {s : ByteArray} {fs : List File} (h : Fs s fs) {f : File} (h1 : f.2.1.length ≤ s.size) (h2 : ∀ t ∈ f.2.1, t.size ≤ s.size) : Fs s (fs ++ [f]) := fun g hg => by
  rcases List.mem_append.1 hg with hg | hg
  · exact h g hg
  · obtain rfl := List.mem_singleton.1 hg; exact ⟨h1, h2⟩
theorem adj_drop {l : List File} {i : Nat} (h1 : 1 ≤ i) (h : i < l.length) : adj (l.drop (i - 1)) = (lts l[i - 1].1 l[i].1 && adj (l.drop (i + 1 - 1))) := by
  have h2 : i - 1 < l.length := by omega
  rw [List.drop_eq_getElem_cons h2, show i - 1 + 1 = i by omega, Nat.add_sub_cancel, List.drop_eq_getElem_cons h]
  rfl
theorem adj_end {l : List File} {i : Nat} (h : l.length ≤ i) : adj (l.drop (i - 1)) = true := by
  have : (l.drop (i - 1)).length ≤ 1 := by rw [List.length_drop]; omega
  match l.drop (i - 1), this with
  | [], _ => rfl
  | [_], _ => rfl
  | _ :: _ :: _, h => simp at h
noncomputable def unpJ (v11 : ((Unit × Unit × List File × Unit) × (List File × Unit) × Rdr × Unit × Unit)) : Option ((List File × Unit) × Int × Unit) := (pack_Reader_End.f v11.2.2.1).bind fun x13 => if !decide (x13.1 = 0) then some (([], ()), x13.1, ()) else wh (fun r14 (v15 : ((Unit × List File × Int × Unit) × (List File × Unit) × Rdr × Unit × Unit)) => if decide (v15.1.2.2.1 < (↑v15.1.2.1.length : Int)) then ((ix v15.1.2.1 (w64 (v15.1.2.2.1 - 1))).bind fun x16 => (ix v15.1.2.1 v15.1.2.2.1).bind fun x17 => if !Op.bytesLess x16.1.toList x17.1.toList then some (([], ()), 17, ()) else r14 (((), v15.1.2.1, w64 (v15.1.2.2.1 + 1), ()), v15.2.1, v15.2.2.1, (), ())) else (tree_From.f v15.1.2.1).bind fun x18 => some x18) (((), v11.1.2.2.1, 1, ()), v11.2.1, x13.2.1, (), ())
theorem unpJ_ev (s : ByteArray) (hs : s.size ≤ 100000) (t : List File × Unit) (fs : List File) (a : Nat) (e : Int) (hl : fs.length ≤ 800) (hf : Fs s fs) : unpJ (((), (), fs, ()), t, (s, (a : Int), e, ()), (), ()) = some (((fin_ s fs a e).1, ()), (fin_ s fs a e).2, ()) := by
  have he : pack_Reader_End.f (s, (a : Int), e, ()) = some (bif decide (e = 0) && decide (a < s.size) then ((3 : Int), (s, (a : Int), e, ()), ()) else (e, (s, (a : Int), e, ()), ())) := by
    refine pack_Reader_End.in _ ?_
    have c : decide ((a : Int) < (s.size : Int)) = decide (a < s.size) := by rw [decide_eq_decide]; omega
    simp only [c]
    cases (decide (e = 0) && decide (a < s.size)) <;> rfl
  unfold unpJ fin_
  simp only []
  rw [he, Option.bind_some]
  cases h0 : decide (e = 0) with
  | false => simp only [Bool.false_and, cond_false, h0, Bool.not_false, if_true, cond_true]
  | true =>
    cases h1 : decide (a < s.size) with
    | true => rfl
    | false =>
      obtain rfl := of_decide_eq_true h0
      simp only [Bool.and_false, cond_false, decide_true, Bool.not_true, Bool.false_eq_true, if_false]
      refine (wh_ind (fun (i : Nat) => (((), fs, (i : Int), ()), t, (s, (a : Int), 0, ()), (), ())) (fun i => 1 ≤ i) (fun i => fs.length - i) (fun i => (((bif adj (fs.drop (i - 1)) then frm fs [] else ([], 17)).1, ()), (bif adj (fs.drop (i - 1)) then frm fs [] else ([], 17)).2, ())) (fun i hi r hr => ?_) 1 (by simp)).trans rfl
      by_cases h : i < fs.length
      · have wi : w64 ((i : Int) - 1) = ((i - 1 : Nat) : Int) := by rw [w_ (by omega) (by omega)]; omega
        have hr := hr (i + 1) (by omega) (by omega)
        simp (disch := omega) only [decide_eq_true_eq, if_pos, wi, ix_, Option.bind_some, wS, less_lts]
        rw [adj_drop hi h]
        cases lts fs[i - 1].1 fs[i].1 with
        | false => rfl
        | true => simp only [Bool.not_true, Bool.false_eq_true, if_false, Bool.true_and]; exact hr
      · simp (disch := omega) only [decide_eq_true_eq, if_neg]
        rw [adj_end (by omega), from_ev fs hl (fun f hf' => by have := (hf f hf').1; omega)]
        rfl
noncomputable def unpL (r19 : ((Unit × Unit × Int × List File × Int × Unit) × (List File × Unit) × Rdr × Unit × Unit) → Option ((List File × Unit) × Int × Unit)) (v20 : ((Unit × Unit × Int × List File × Int × Unit) × (List File × Unit) × Rdr × Unit × Unit)) : Option ((List File × Unit) × Int × Unit) := if decide (v20.1.2.2.2.2.1 < v20.1.2.2.1) && true then ((pack_Reader_Err.f v20.2.2.1).bind fun x21 => if decide (v20.1.2.2.2.2.1 < v20.1.2.2.1) && decide (x21.1 = 0) then ((pack_Reader_Text.f 200 x21.2.1).bind fun x22 => (pack_Reader_Text.f 4194304 x22.2.1).bind fun x23 => (pack_Reader_Err.f x23.2.1).bind fun x24 => if !decide (x24.1 = 0) then unpJ (((), (), v20.1.2.2.2.1, ()), v20.2.1, x24.2.1, (), ()) else (hunk_Split.f x23.1).bind fun x25 => (pack_Reader_Fail.f x25.2.1 x24.2.1).bind fun x26 => (app 40 v20.1.2.2.2.1 [(x22.1, x25.1, ())]).bind fun x27 => r19 (((), (), v20.1.2.2.1, x27, w64 (v20.1.2.2.2.2.1 + 1), ()), v20.2.1, x26.2.1, (), ())) else unpJ (((), (), v20.1.2.2.2.1, ()), v20.2.1, x21.2.1, (), ())) else unpJ (((), (), v20.1.2.2.2.1, ()), v20.2.1, v20.2.2.1, (), ())
theorem err_ev (r : Rdr) : pack_Reader_Err.f r = some (r.2.2.1, r, ()) := pack_Reader_Err.in _ rfl
theorem fin_err {s : ByteArray} {fs fs' : List File} {a a' : Nat} {e : Int} (he : e ≠ 0) : fin_ s fs a e = fin_ s fs' a' e := by
  unfold fin_; rw [decide_eq_false he]; rfl
theorem unpL_err (s : ByteArray) (hs : s.size ≤ 100000) (t : List File × Unit) (n i : Nat) (fs : List File) (a : Nat) (e : Int) (he : e ≠ 0) (hl : fs.length ≤ 800) (hf : Fs s fs) : wh unpL (((), (), (n : Int), fs, (i : Int), ()), t, (s, (a : Int), e, ()), (), ()) = some (((fin_ s fs a e).1, ()), (fin_ s fs a e).2, ()) := by
  refine wh_ind (F := unpL) (fun _ : Unit => (((), (), (n : Int), fs, (i : Int), ()), t, (s, (a : Int), e, ()), (), ())) (fun _ => True) (fun _ => 0) (fun _ => (((fin_ s fs a e).1, ()), (fin_ s fs a e).2, ())) (fun _ _ r _ => ?_) () trivial
  have hj := unpJ_ev s hs t fs a e hl hf
  unfold unpL
  simp only [err_ev, Option.bind_some, decide_eq_false he, Bool.and_false, Bool.false_eq_true, if_false, hj]
  split <;> rfl
theorem unpL_ev (s : ByteArray) (hs : s.size ≤ 100000) (t : List File × Unit) (N : Nat) (hN : N ≤ 200) : ∀ (m i : Nat), i + m = N → ∀ (a : Nat) (fs : List File), a ≤ s.size → fs.length ≤ i → Fs s fs →
    wh unpL (((), (), (N : Int), fs, (i : Int), ()), t, (s, (a : Int), 0, ()), (), ()) = some (((fin_ s (pfiles s m a fs).1 (pfiles s m a fs).2.1 (pfiles s m a fs).2.2).1, ()), (fin_ s (pfiles s m a fs).1 (pfiles s m a fs).2.1 (pfiles s m a fs).2.2).2, ()) := by
  intro m0 i0 h0 a0 fs0 ha0 hl0 hf0
  refine wh_ind (F := unpL) (fun (p : Nat × Nat × List File × Int) => (((), (), (N : Int), p.2.2.1, ((N - p.1 : Nat) : Int), ()), t, (s, (p.2.1 : Int), p.2.2.2, ()), (), ())) (fun p => p.1 ≤ N ∧ p.2.1 ≤ s.size ∧ p.2.2.1.length ≤ N - p.1 + 1 ∧ (p.2.2.2 = 0 → p.2.2.1.length ≤ N - p.1) ∧ Fs s p.2.2.1) (fun p => p.1) (fun p => bif decide (p.2.2.2 = 0) then (((fin_ s (pfiles s p.1 p.2.1 p.2.2.1).1 (pfiles s p.1 p.2.1 p.2.2.1).2.1 (pfiles s p.1 p.2.1 p.2.2.1).2.2).1, ()), (fin_ s (pfiles s p.1 p.2.1 p.2.2.1).1 (pfiles s p.1 p.2.1 p.2.2.1).2.1 (pfiles s p.1 p.2.1 p.2.2.1).2.2).2, ()) else (((fin_ s p.2.2.1 p.2.1 p.2.2.2).1, ()), (fin_ s p.2.2.1 p.2.1 p.2.2.2).2, ()))
    (fun p hp r hr => ?_) (m0, a0, fs0, 0) ⟨by simp only; omega, ha0, by simp only; omega, fun _ => by simp only; omega, hf0⟩ |> fun h => by
      simp only at h
      rw [show N - m0 = i0 by omega] at h
      exact h
  obtain ⟨m, a, fs, e⟩ := p
  obtain ⟨h1, h2, h3, h3', h4⟩ := hp
  simp only at h1 h2 h3 h3' h4 hr
  have hj := fun e => unpJ_ev s hs t fs a e (by omega) h4
  by_cases he : e = 0
  · subst he
    have h3' := h3' rfl
    simp only [decide_true, cond_true]
    cases m with
    | zero =>
      unfold unpL
      simp only [Nat.sub_zero]
      rw [decide_eq_false (by omega), Bool.false_and, if_neg (by decide), hj]
      rfl
    | succ m =>
      unfold unpL
      simp only []
      rw [decide_eq_true (show ((N - (m + 1) : Nat) : Int) < (N : Int) by omega)]
      simp only [Bool.true_and, if_true, err_ev, Option.bind_some, decide_true]
      have le1 := ptext_le 200 s a 0 h2
      have le2 := ptext_le 4194304 s (ptext 200 s a 0).2.1 (ptext 200 s a 0).2.2 le1.1
      have t1 := text_ev 200 s a 0 (by omega) h2
      have t2 := text_ev 4194304 s (ptext 200 s a 0).2.1 (ptext 200 s a 0).2.2 (by omega) le1.1
      rw [show (200 : Int) = ((200 : Nat) : Int) from rfl, t1, Option.bind_some, show (4194304 : Int) = ((4194304 : Nat) : Int) from rfl, t2, Option.bind_some]
      rw [show pfiles s (m + 1) a fs = (bif !decide ((ptext 4194304 s (ptext 200 s a 0).2.1 (ptext 200 s a 0).2.2).2.2 = 0) then (fs, a, (ptext 4194304 s (ptext 200 s a 0).2.1 (ptext 200 s a 0).2.2).2.2)
        else bif !(hsplit (ptext 4194304 s (ptext 200 s a 0).2.1 (ptext 200 s a 0).2.2).1).2 then (fs, a, 3)
        else pfiles s m (ptext 4194304 s (ptext 200 s a 0).2.1 (ptext 200 s a 0).2.2).2.1 (fs ++ [((ptext 200 s a 0).1, (hsplit (ptext 4194304 s (ptext 200 s a 0).2.1 (ptext 200 s a 0).2.2).1).1, ())])) from rfl]
      generalize (ptext 4194304 s (ptext 200 s a 0).2.1 (ptext 200 s a 0).2.2) = q at le2
      obtain ⟨qt, qa, qe⟩ := q
      simp only at le2
      simp only []
      cases hq : decide (qe = 0) with
      | false =>
        simp only [Bool.not_false, if_true, cond_true]
        rw [unpJ_ev s hs t fs qa qe (by omega) h4, fin_err (of_decide_eq_false hq)]
      | true =>
        obtain rfl := of_decide_eq_true hq
        simp only [Bool.not_true, Bool.false_eq_true, if_false, cond_false]
        rw [hunk_Split_ev qt (by omega), Option.bind_some]
        have hw : w64 (((N - (m + 1) : Nat) : Int) + 1) = ((N - m : Nat) : Int) := by rw [wS (by omega)]; congr 1; omega
        have hh := hsplit_len qt
        cases h2q : (hsplit qt).2 with
        | true =>
          simp only [if_true, fail_ev, Option.bind_some, decide_true, cond_true, Bool.not_true, cond_false]
          rw [app_ (by simp; omega), Option.bind_some, hw]
          have := hr (m, qa, fs ++ [((ptext 200 s a 0).1, (hsplit qt).1, ())], 0) ⟨by simp only; omega, le2.1, by simp; omega, fun _ => by simp; omega, h4.snoc (by simp only; omega) (fun t ht => by have := hh.2 t ht; omega)⟩ (by simp only; omega)
          simp only [decide_true, cond_true] at this
          exact this
        | false =>
          simp only [Bool.false_eq_true, if_false, fail_ev, Option.bind_some, decide_true, cond_true, Bool.not_false]
          rw [app_ (by simp; omega), Option.bind_some, hw]
          have := hr (m, qa, fs ++ [((ptext 200 s a 0).1, [], ())], 3) ⟨by simp only; omega, le2.1, by simp; omega, fun h => (by cases h), h4.snoc (by simp) (by simp)⟩ (by simp only; omega)
          simp only [show decide ((3 : Int) = 0) = false from rfl, cond_false] at this
          rw [this, fin_err (s := s) (fs := fs ++ [((ptext 200 s a 0).1, [], ())]) (fs' := fs) (a := qa) (a' := a) (e := 3) (by decide)]
  · simp only [decide_eq_false he, cond_false]
    unfold unpL
    simp only [err_ev, Option.bind_some, decide_eq_false he, Bool.and_false, Bool.false_eq_true, if_false, hj]
    split <;> rfl
noncomputable def unpT (v6 : ((Unit × Unit × Unit) × (List File × Unit) × Rdr × Unit)) : Option ((List File × Unit) × Int × Unit) := (pack_Reader_Num.f v6.2.2.1).bind fun x8 => jn (fun (v9 : ((Unit × Unit × Int × Unit) × (List File × Unit) × Rdr × Unit)) => wh unpL (((), (), v9.1.2.2.1, [], 0, ()), v9.2.1, v9.2.2.1, (), ())) fun j10 => if decide (x8.1 > 200) then ((pack_Reader_Fail.f 4 x8.2.1).bind fun x28 => j10 (((), (), x8.1, ()), v6.2.1, x28.2)) else j10 (((), (), x8.1, ()), v6.2.1, x8.2)
theorem Fs.nil (s : ByteArray) : Fs s [] := fun f hf => by cases hf
theorem unpT_err (s : ByteArray) (hs : s.size ≤ 100000) (t : List File × Unit) (a : Nat) (e : Int) (he : e ≠ 0) (ha : a ≤ s.size) : unpT (((), (), ()), t, (s, (a : Int), e, ()), ()) = some (([], ()), e, ()) := by
  unfold unpT
  simp only [jn_eq]
  rw [num_err s a e he (by omega) ha, Option.bind_some]
  simp only []
  rw [show decide ((0 : Int) > 200) = false from rfl, if_neg (by decide)]
  have := unpL_err s hs t 0 0 [] a e he (by simp) (Fs.nil s)
  refine this.trans ?_
  unfold fin_
  rw [decide_eq_false he]; rfl
theorem unpT_ev (s : ByteArray) (hs : s.size ≤ 100000) (t : List File × Unit) (a : Nat) (ha : a ≤ s.size) : unpT (((), (), ()), t, (s, (a : Int), 0, ()), ()) = some (bif !decide ((pnum s a 0).2.2 = 0) then (([], ()), (pnum s a 0).2.2, ()) else bif decide (200 < (pnum s a 0).1) then (([], ()), 4, ())
    else (((fin_ s (pfiles s (pnum s a 0).1 (pnum s a 0).2.1 []).1 (pfiles s (pnum s a 0).1 (pnum s a 0).2.1 []).2.1 (pfiles s (pnum s a 0).1 (pnum s a 0).2.1 []).2.2).1, ()), (fin_ s (pfiles s (pnum s a 0).1 (pnum s a 0).2.1 []).1 (pfiles s (pnum s a 0).1 (pnum s a 0).2.1 []).2.1 (pfiles s (pnum s a 0).1 (pnum s a 0).2.1 []).2.2).2, ())) := by
  unfold unpT
  simp only [jn_eq]
  rw [pNum_ev s a 0 (by omega) ha, Option.bind_some]
  obtain ⟨h1, h2, h3⟩ := pnum_le s a 0 ha
  have hz : (pnum s a 0).2.2 ≠ 0 → (pnum s a 0).1 = 0 := fun h => by
    unfold pnum at h ⊢
    simp only [decide_true, cond_true] at h ⊢
    cases hg : decide ((gn 9 0 0 (s.data.toList.drop a)).1 = 0) with
    | true => rw [hg] at h; exact absurd rfl h
    | false => rfl
  generalize pnum s a 0 = p at *
  obtain ⟨n, a', e⟩ := p
  simp only at h1 h2 h3 hz
  simp only []
  have c : decide ((n : Int) > 200) = decide (200 < n) := by rw [decide_eq_decide]; omega
  rw [c]
  cases he : decide (e = 0) with
  | false =>
    have he' := of_decide_eq_false he
    obtain rfl := hz he'
    rw [show decide (200 < 0) = false from rfl, if_neg (by decide)]
    have := unpL_err s hs t 0 0 [] a' e he' (by simp) (Fs.nil s)
    refine this.trans ?_
    unfold fin_
    rw [he]; rfl
  | true =>
    obtain rfl := of_decide_eq_true he
    cases h2 : decide (200 < n) with
    | true =>
      rw [if_pos rfl, fail_ev, Option.bind_some]
      have := unpL_err s hs t n 0 [] a' 4 (by decide) (by simp) (Fs.nil s)
      exact this
    | false =>
      rw [if_neg (by decide)]
      have := unpL_ev s hs t n (by have := of_decide_eq_false h2; omega) n 0 (by omega) a' [] h1 (by simp) (Fs.nil s)
      exact this

theorem byte_ev (s : ByteArray) (a : Nat) (hs : s.size ≤ 100000) (h : a < s.data.toList.length) : pack_Reader_Byte.f (s, (a : Int), 0, ()) = some (((s.data.toList[a]).toNat : Int), (s, ((a + 1 : Nat) : Int), 0, ()), ()) := by
  refine pack_Reader_Byte.in _ ?_
  rw [take1_ev s a h (by omega), Option.bind_some]
  simp only [Bool.not_true, Bool.false_eq_true, if_false, bx_one h, Option.bind_some]
theorem byte_end (s : ByteArray) (hs : s.size ≤ 100000) : pack_Reader_Byte.f (s, (s.size : Int), 0, ()) = some (0, (s, (s.size : Int), 2, ()), ()) := by
  refine pack_Reader_Byte.in _ ?_
  rw [take1_end s (by omega)]; rfl
theorem byte_err (s : ByteArray) (a : Nat) (e : Int) (he : e ≠ 0) (ha : a ≤ s.size) (hs : s.size ≤ 100000) : pack_Reader_Byte.f (s, (a : Int), e, ()) = some (0, (s, (a : Int), e, ()), ()) := by
  refine pack_Reader_Byte.in _ ?_
  rw [show (1 : Int) = ((1 : Nat) : Int) from rfl, take_err s 1 a e he ha (by omega) (by omega)]; rfl
theorem bstr1 (b : UInt8) : bstr [(b.toNat : Int)] = bmk [b] := by
  unfold bstr bmk
  simp
theorem unpack_ev (s : ByteArray) (hs : s.size ≤ 100000) : archive_Unpack.f s = some (((unp s).1, ()), (unp s).2, ()) := by
  have hl := len_text s
  refine archive_Unpack.in _ ?_
  rw [pack_New.in s (r := ((), (s, 0, 0, ()), ())) rfl, Option.bind_some]
  refine (wh_list [(), (), ()] (fun i (p : ByteArray × Nat × Int) => (((), (), p.1, i, ()), (([] : List File), ()), (s, (p.2.1 : Int), p.2.2, ()), ())) (fun i p => p.1.size ≤ i ∧ p.2.1 ≤ s.size ∧ ((i ≤ s.size ∧ p.2.2 = 0 ∧ p.2.1 = i ∧ p.1 = s.extract 0 i) ∨ (s.size < i ∧ p.2.2 = 2))) (fun _ _ => (((unp s).1, ()), (unp s).2, ())) (fun p r hI => ?_) (fun i p r h hI hr => ?_) (⟨⟨[]⟩⟩, 0, 0) ⟨Nat.le_refl _, Nat.zero_le _, .inl ⟨Nat.zero_le _, rfl, rfl, text_ext (by rw [cut_list]; rfl)⟩⟩).trans rfl
  · obtain ⟨b, a, e⟩ := p
    obtain ⟨h0, h1, h2⟩ := hI
    simp only [List.length_cons, List.length_nil] at h0 h1 h2
    show (if decide (((3 : Nat) : Int) < 3) = true then _ else _) = _
    rw [if_neg (by decide)]
    simp only [jn_eq]
    unfold unp
    rcases h2 with ⟨h2, rfl, rfl, rfl⟩ | ⟨h2, rfl⟩
    · rw [decide_eq_false (show ¬ s.size < 3 by omega)]
      simp only [cond_false]
      change (if (!decide (s.extract 0 3 = sign)) = true then ((pack_Reader_Fail.f 3 (s, ((3 : Nat) : Int), 0, ())).bind fun x29 => unpT (((), (), ()), ([], ()), x29.2)) else unpT (((), (), ()), ([], ()), (s, ((3 : Nat) : Int), 0, ()), ())) = _
      cases hq : decide (s.extract 0 3 = sign) with
      | false =>
        rw [if_pos (show (!false) = true from rfl), fail_ev, Option.bind_some]
        exact unpT_err s hs ([], ()) 3 3 (by decide) (by omega)
      | true =>
        rw [if_neg (by decide), unpT_ev s hs ([], ()) 3 (by omega)]
        cases hp : decide ((pnum s 3 0).2.2 = 0) with
        | false => rfl
        | true => cases h4 : decide (200 < (pnum s 3 0).1) <;> rfl
    · rw [decide_eq_true (show s.size < 3 by omega)]
      change (if (!decide (b = sign)) = true then ((pack_Reader_Fail.f 3 (s, (a : Int), 2, ())).bind fun x29 => unpT (((), (), ()), ([], ()), x29.2)) else unpT (((), (), ()), ([], ()), (s, (a : Int), 2, ()), ())) = _
      have := unpT_err s hs ([], ()) a 2 (by decide) h1
      cases hq : decide (b = sign) with
      | false => rw [if_pos (show (!false) = true from rfl), fail_ev, Option.bind_some]; exact this
      | true => rw [if_neg (by decide)]; exact this
  · obtain ⟨b, a, e⟩ := p
    obtain ⟨h0, h1, h2⟩ := hI
    simp only at h0 h1 h2 hr
    have h3 : i < 3 := h
    simp only []
    rw [decide_eq_true (show (i : Int) < 3 by omega), if_pos rfl, wS (by omega)]
    rcases h2 with ⟨h2, rfl, rfl, rfl⟩ | ⟨h2, rfl⟩
    · by_cases hlt : a < s.data.toList.length
      · rw [byte_ev s a hs hlt, Option.bind_some, bstr1, cat_ (by rw [size_bmk]; simp <;> omega), Option.bind_some]
        have e1 : s.extract 0 a ++ bmk [s.data.toList[a]] = s.extract 0 (a + 1) := text_ext (by rw [app_list, list_bmk, cut_list, cut_list, List.drop_zero, List.drop_zero, List.take_succ_eq_append_getElem hlt])
        rw [e1]
        exact hr (s.extract 0 (a + 1), a + 1, 0) ⟨by rw [ByteArray.size_extract]; omega, by simp only; omega, .inl ⟨by omega, rfl, rfl, rfl⟩⟩
      · obtain rfl : a = s.size := by omega
        rw [byte_end s hs, Option.bind_some, show bstr [0] = bmk [0] from bstr1 0, cat_ (by rw [size_bmk]; simp <;> omega), Option.bind_some]
        exact hr (s.extract 0 s.size ++ bmk [0], s.size, 2) ⟨by rw [size_app, size_bmk]; simp <;> omega, by simp only; omega, .inr ⟨by omega, rfl⟩⟩
    · rw [byte_err s a 2 (by decide) h1 hs, Option.bind_some, show bstr [0] = bmk [0] from bstr1 0, cat_ (by rw [size_bmk]; simp <;> omega), Option.bind_some]
      exact hr (b ++ bmk [0], a, 2) ⟨by rw [size_app, size_bmk]; simp <;> omega, h1, .inr ⟨by omega, rfl⟩⟩

/-! ### the reference's -/
theorem runpack_ev (s : ByteArray) (hs : s.size ≤ 100000) : quitclaimref39_Unpack.f s = some ((unp s).1, (unp s).2, ()) := by
  have hl := len_text s
  refine quitclaimref39_Unpack.in _ ?_
  unfold unp
  by_cases h3 : s.size < 3
  · rw [decide_eq_true (show (s.size : Int) < 3 by omega), decide_eq_true h3]; rfl
  · rw [decide_eq_false (show ¬ (s.size : Int) < 3 by omega), decide_eq_false h3, if_neg (by decide), show sub s 0 3 = some (s.extract 0 3) from sub0 (j := 3) (by omega), Option.bind_some]
    cases hq : decide (s.extract 0 3 = sign) with
    | false =>
      rw [show decide (s.extract 0 3 = ({ data := { toList := [81, 65, 49] } } : ByteArray)) = false from hq]; rfl
    | true =>
      rw [show decide (s.extract 0 3 = ({ data := { toList := [81, 65, 49] } } : ByteArray)) = true from hq, if_neg (by decide), show quitclaimref05_GetNum.f (s, 3, 0, ()) = _ from rNum_ev s 3 0 (by omega) (by omega), Option.bind_some]
      obtain ⟨h1, h2, h3'⟩ := pnum_le s 3 0 (by omega)
      generalize pnum s 3 0 = p at *
      obtain ⟨n, a', e⟩ := p
      simp only at h1 h2 h3'
      simp only [Bool.not_true, cond_false]
      cases he : decide (e = 0) with
      | false => rfl
      | true =>
        obtain rfl := of_decide_eq_true he
        rw [if_neg (by decide)]
        have c : decide ((n : Int) > 200) = decide (200 < n) := by rw [decide_eq_decide]; omega
        rw [c]
        cases h2n : decide (200 < n) with
        | true => rfl
        | false =>
          have hn := of_decide_eq_false h2n
          rw [if_neg (by decide)]
          simp only [Bool.not_true, cond_false]
          refine (wh_ind (fun (p : Nat × Nat × List File) => ((s, (), (n : Int), p.2.2, (p.1 : Int), ()), (s, (p.2.1 : Int), 0, ()), (), ())) (fun p => p.1 ≤ n ∧ p.2.1 ≤ s.size ∧ p.2.2.length ≤ p.1 ∧ Fs s p.2.2) (fun p => n - p.1) (fun p => ((fin_ s (pfiles s (n - p.1) p.2.1 p.2.2).1 (pfiles s (n - p.1) p.2.1 p.2.2).2.1 (pfiles s (n - p.1) p.2.1 p.2.2).2.2).1, (fin_ s (pfiles s (n - p.1) p.2.1 p.2.2).1 (pfiles s (n - p.1) p.2.1 p.2.2).2.1 (pfiles s (n - p.1) p.2.1 p.2.2).2.2).2, ()))
            (fun p hp r hr => ?_) (0, a', []) ⟨Nat.zero_le _, h1, by simp, Fs.nil s⟩).trans rfl
          obtain ⟨i, a, fs⟩ := p
          obtain ⟨g1, g2, g3, g4⟩ := hp
          simp only at g1 g2 g3 g4 hr
          simp only []
          obtain ⟨m, hm⟩ : ∃ m, n - i = m := ⟨_, rfl⟩
          rw [hm]
          cases m with
          | zero =>
            obtain rfl : i = n := by omega
            rw [decide_eq_false (show ¬ ((i : Int) < (i : Int)) by omega), if_neg (by decide)]
            show _ = some ((fin_ s fs a 0).1, (fin_ s fs a 0).2, ())
            unfold fin_
            have ca : decide ((a : Int) < (s.size : Int)) = decide (a < s.size) := by rw [decide_eq_decide]; omega
            rw [ca]
            cases hd : decide (a < s.size) with
            | true => rfl
            | false =>
              rw [if_neg (by decide)]
              simp only [decide_true, Bool.not_true, cond_false]
              refine (wh_ind (fun (i : Nat) => ((fs, (i : Int), ()), (s, (a : Int), 0, ()), (), ())) (fun i => 1 ≤ i) (fun i => fs.length - i) (fun i => ((bif adj (fs.drop (i - 1)) then frm fs [] else ([], 17)).1, (bif adj (fs.drop (i - 1)) then frm fs [] else ([], 17)).2, ())) (fun i hi r hr => ?_) 1 (by simp)).trans rfl
              by_cases h : i < fs.length
              · have wi : w64 ((i : Int) - 1) = ((i - 1 : Nat) : Int) := by rw [w_ (by omega) (by omega)]; omega
                have hr := hr (i + 1) (by omega) (by omega)
                simp (disch := omega) only [decide_eq_true_eq, if_pos, wi, ix_, Option.bind_some, wS, less_lts]
                rw [adj_drop hi h]
                cases lts fs[i - 1].1 fs[i].1 with
                | false => rfl
                | true => simp only [Bool.not_true, Bool.false_eq_true, if_false, Bool.true_and]; exact hr
              · simp (disch := omega) only [decide_eq_true_eq, if_neg]
                rw [adj_end (by omega), rfrom_ev fs (by omega) (fun f hf' => by have := g4 f hf'; exact ⟨by omega, fun t ht => by have := this.2 t ht; omega⟩), Option.bind_some]
                simp only [cond_true]
                cases hz : decide ((frm fs []).2 = 0) with
                | true =>
                  rw [if_neg (by decide), of_decide_eq_true hz]
                | false =>
                  have : ∀ (l acc : List File), (frm l acc).2 ≠ 0 → (frm l acc).1 = [] := by
                    intro l
                    induction l with
                    | nil => intro acc h; unfold frm at h ⊢; cases hq : decide (200 < acc.length) with | true => rfl | false => rw [hq] at h; exact absurd rfl h
                    | cons f l ih =>
                      intro acc h
                      unfold frm at h ⊢
                      cases h1 : (!right f.1 || !linesOk f.2.1) with
                      | true => rfl
                      | false =>
                        rw [h1] at h
                        cases h2 : (!decide (rm acc f.1 = 0)) with
                        | true => rfl
                        | false => rw [h2] at h; exact ih _ h
                  rw [if_pos (show (!false) = true from rfl), this fs [] (of_decide_eq_false hz)]
          | succ m =>
            rw [decide_eq_true (show (i : Int) < (n : Int) by omega), if_pos rfl]
            have le1 := ptext_le 200 s a 0 g2
            have le2 := ptext_le 4194304 s (ptext 200 s a 0).2.1 (ptext 200 s a 0).2.2 le1.1
            have t1 := rtext_ev 200 s a 0 (by omega) g2
            have t2 := rtext_ev 4194304 s (ptext 200 s a 0).2.1 (ptext 200 s a 0).2.2 (by omega) le1.1
            rw [show quitclaimref05_GetText.f (s, (a : Int), 0, ()) 200 = _ from t1, Option.bind_some, show quitclaimref05_GetText.f (s, ((ptext 200 s a 0).2.1 : Int), (ptext 200 s a 0).2.2, ()) 4194304 = _ from t2, Option.bind_some]
            rw [show pfiles s (m + 1) a fs = (bif !decide ((ptext 4194304 s (ptext 200 s a 0).2.1 (ptext 200 s a 0).2.2).2.2 = 0) then (fs, a, (ptext 4194304 s (ptext 200 s a 0).2.1 (ptext 200 s a 0).2.2).2.2)
              else bif !(hsplit (ptext 4194304 s (ptext 200 s a 0).2.1 (ptext 200 s a 0).2.2).1).2 then (fs, a, 3)
              else pfiles s m (ptext 4194304 s (ptext 200 s a 0).2.1 (ptext 200 s a 0).2.2).2.1 (fs ++ [((ptext 200 s a 0).1, (hsplit (ptext 4194304 s (ptext 200 s a 0).2.1 (ptext 200 s a 0).2.2).1).1, ())])) from rfl]
            generalize (ptext 4194304 s (ptext 200 s a 0).2.1 (ptext 200 s a 0).2.2) = q at le2
            obtain ⟨qt, qa, qe⟩ := q
            simp only at le2
            simp only []
            cases hq : decide (qe = 0) with
            | false =>
              simp only [Bool.not_false, if_true, cond_true]
              unfold fin_
              rw [hq]; rfl
            | true =>
              obtain rfl := of_decide_eq_true hq
              simp only [Bool.not_true, Bool.false_eq_true, if_false, cond_false]
              rw [rSplit_ev qt (by omega), Option.bind_some]
              have hh := hsplit_len qt
              cases h2q : (hsplit qt).2 with
              | true =>
                simp only [Bool.not_true, Bool.false_eq_true, if_false, cond_false]
                rw [app_ (by simp; omega), Option.bind_some, wS (by omega)]
                have := hr (i + 1, qa, fs ++ [((ptext 200 s a 0).1, (hsplit qt).1, ())]) ⟨by simp only; omega, le2.1, by simp; omega, g4.snoc (by simp only; omega) (fun t ht => by have := hh.2 t ht; omega)⟩ (by simp only; omega)
                rw [show n - (i + 1) = m by omega] at this
                exact this
              | false => rfl
end Go.Proofs.YtmjkflppajienaaDoor.R.Pu
