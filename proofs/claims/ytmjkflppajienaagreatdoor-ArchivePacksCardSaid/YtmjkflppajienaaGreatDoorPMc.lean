/- Plain laws of what the walks answer (texts joined: PArch PRound PRd PRt); no condition but the typed premises. -/
import Derived.Test.YtmjkflppajienaaGreatDoorPMa
import Derived.Test.YtmjkflppajienaaGreatDoorPMb
namespace Go.Proofs.YtmjkflppajienaaGreatDoor.R.Pu
open Go Go.RowKit
set_option linter.unusedVariables false
set_option linter.unusedSimpArgs false

/-- Does each stand ahead of the next one? -/
def adj : List File → Bool
  | x :: y :: r => lts x.1 y.1 && adj (y :: r)
  | _ => true
theorem less_lts (a b : ByteArray) : Op.bytesLess a.toList b.toList = lts a b := by rw [toList_data, toList_data, less_eq]; rfl
def fin_ (s : ByteArray) (fs : List File) (a : Nat) (e : Int) : List File × Int := bif !decide (e = 0) then ([], e) else bif decide (a < s.size) then ([], 3) else bif adj fs then frm fs [] else ([], 17)
def pfiles (s : ByteArray) : Nat → Nat → List File → List File × Nat × Int
  | 0, a, acc => (acc, a, 0)
  | n + 1, a, acc => bif !decide ((ptext 4194304 s (ptext 200 s a 0).2.1 (ptext 200 s a 0).2.2).2.2 = 0) then (acc, a, (ptext 4194304 s (ptext 200 s a 0).2.1 (ptext 200 s a 0).2.2).2.2)
    else bif !(hsplit (ptext 4194304 s (ptext 200 s a 0).2.1 (ptext 200 s a 0).2.2).1).2 then (acc, a, 3)
    else pfiles s n (ptext 4194304 s (ptext 200 s a 0).2.1 (ptext 200 s a 0).2.2).2.1 (acc ++ [((ptext 200 s a 0).1, (hsplit (ptext 4194304 s (ptext 200 s a 0).2.1 (ptext 200 s a 0).2.2).1).1, ())])
def sign : ByteArray := ⟨⟨[81, 65, 49]⟩⟩
def unp (s : ByteArray) : List File × Int := bif decide (s.size < 3) then ([], 2) else bif !decide (s.extract 0 3 = sign) then ([], 3) else bif !decide ((pnum s 3 0).2.2 = 0) then ([], (pnum s 3 0).2.2) else bif decide (200 < (pnum s 3 0).1) then ([], 4)
  else fin_ s (pfiles s (pnum s 3 0).1 (pnum s 3 0).2.1 []).1 (pfiles s (pnum s 3 0).1 (pnum s 3 0).2.1 []).2.1 (pfiles s (pnum s 3 0).1 (pnum s 3 0).2.1 []).2.2
theorem hsplit_len (s : ByteArray) : (hsplit s).1.length ≤ s.size ∧ ∀ t ∈ (hsplit s).1, t.size ≤ s.size := by
  have hl := len_text s
  have := spd_len 10 s.data.toList
  have h0 := spd_ne 10 s.data.toList
  unfold hsplit
  refine ⟨?_, dropLast_bytes 10 _ _ (by omega)⟩
  simp only [List.length_map, List.length_dropLast]
  omega
/-- What is known of files on the way. -/
def Fs (s : ByteArray) (fs : List File) : Prop := ∀ f ∈ fs, f.2.1.length ≤ s.size ∧ ∀ t ∈ f.2.1, t.size ≤ s.size
theorem Fs.snoc {s : ByteArray} {fs : List File} (h : Fs s fs) {f : File} (h1 : f.2.1.length ≤ s.size) (h2 : ∀ t ∈ f.2.1, t.size ≤ s.size) : Fs s (fs ++ [f]) := fun g hg => by
  rcases List.mem_append.1 hg with hg | hg
  · exact h g hg
  · obtain rfl := List.mem_singleton.1 hg; exact ⟨h1, h2⟩
theorem adj_drop {l : List File} {i : Nat} (h1 : 1 ≤ i) (h : i < l.length) : adj (l.drop (i - 1)) = (lts l[i - 1].1 l[i].1 && adj (l.drop (i + 1 - 1))) := by
  have h2 : i - 1 < l.length := by omega
  rw [List.drop_eq_getElem_cons h2, show i - 1 + 1 = i by omega, Nat.add_sub_cancel, List.drop_eq_getElem_cons h]
  rfl
theorem adj_end {l : List File} {i : Nat} (h : l.length ≤ i) : adj (l.drop (i - 1)) = true := by
  have : (l.drop (i - 1)).length ≤ 1 := by rw [List.length_drop]; omega
  match l.drop (i - 1), this with
  | [], _ => rfl
  | [_], _ => rfl
  | _ :: _ :: _, h => simp at h
noncomputable def unpJ (v11 : ((Unit × Unit × List File × Unit) × (List File × Unit) × Rdr × Unit × Unit)) : Option ((List File × Unit) × Int × Unit) := (pack_Reader_End.f v11.2.2.1).bind fun x13 => if !decide (x13.1 = 0) then some (([], ()), x13.1, ()) else wh (fun r14 (v15 : ((Unit × List File × Int × Unit) × (List File × Unit) × Rdr × Unit × Unit)) => if decide (v15.1.2.2.1 < (↑v15.1.2.1.length : Int)) then ((ix v15.1.2.1 (w64 (v15.1.2.2.1 - 1))).bind fun x16 => (ix v15.1.2.1 v15.1.2.2.1).bind fun x17 => if !Op.bytesLess x16.1.toList x17.1.toList then some (([], ()), 17, ()) else r14 (((), v15.1.2.1, w64 (v15.1.2.2.1 + 1), ()), v15.2.1, v15.2.2.1, (), ())) else (tree_From.f v15.1.2.1).bind fun x18 => some x18) (((), v11.1.2.2.1, 1, ()), v11.2.1, x13.2.1, (), ())
theorem unpJ_ev (s : ByteArray) (hs : s.size ≤ 100000000) (t : List File × Unit) (fs : List File) (a : Nat) (e : Int) (hl : fs.length ≤ 800) (hf : Fs s fs) : unpJ (((), (), fs, ()), t, (s, (a : Int), e, ()), (), ()) = some (((fin_ s fs a e).1, ()), (fin_ s fs a e).2, ()) := by
  have he : pack_Reader_End.f (s, (a : Int), e, ()) = some (bif decide (e = 0) && decide (a < s.size) then ((3 : Int), (s, (a : Int), e, ()), ()) else (e, (s, (a : Int), e, ()), ())) := by
    refine pack_Reader_End.in _ ?_
    have c : decide ((a : Int) < (s.size : Int)) = decide (a < s.size) := by rw [decide_eq_decide]; omega
    simp only [c]
    cases (decide (e = 0) && decide (a < s.size)) <;> rfl
  unfold unpJ fin_
  simp only []
  rw [he, Option.bind_some]
  cases h0 : decide (e = 0) with
  | false => simp only [Bool.false_and, cond_false, h0, Bool.not_false, if_true, cond_true]
  | true =>
    cases h1 : decide (a < s.size) with
    | true => rfl
    | false =>
      obtain rfl := of_decide_eq_true h0
      simp only [Bool.and_false, cond_false, decide_true, Bool.not_true, Bool.false_eq_true, if_false]
      refine (wh_ind (fun (i : Nat) => (((), fs, (i : Int), ()), t, (s, (a : Int), 0, ()), (), ())) (fun i => 1 ≤ i) (fun i => fs.length - i) (fun i => (((bif adj (fs.drop (i - 1)) then frm fs [] else ([], 17)).1, ()), (bif adj (fs.drop (i - 1)) then frm fs [] else ([], 17)).2, ())) (fun i hi r hr => ?_) 1 (by simp)).trans rfl
      by_cases h : i < fs.length
      · have wi : w64 ((i : Int) - 1) = ((i - 1 : Nat) : Int) := by rw [w_ (by omega) (by omega)]; omega
        have hr := hr (i + 1) (by omega) (by omega)
        simp (disch := omega) only [decide_eq_true_eq, if_pos, wi, ix_, Option.bind_some, wS, less_lts]
        rw [adj_drop hi h]
        cases lts fs[i - 1].1 fs[i].1 with
        | false => rfl
        | true => simp only [Bool.not_true, Bool.false_eq_true, if_false, Bool.true_and]; exact hr
      · simp (disch := omega) only [decide_eq_true_eq, if_neg]
        rw [adj_end (by omega), from_ev fs hl (fun f hf' => by have := (hf f hf').1; omega)]
        rfl
noncomputable def unpL (r19 : ((Unit × Unit × Int × List File × Int × Unit) × (List File × Unit) × Rdr × Unit × Unit) → Option ((List File × Unit) × Int × Unit)) (v20 : ((Unit × Unit × Int × List File × Int × Unit) × (List File × Unit) × Rdr × Unit × Unit)) : Option ((List File × Unit) × Int × Unit) := if decide (v20.1.2.2.2.2.1 < v20.1.2.2.1) && true then ((pack_Reader_Err.f v20.2.2.1).bind fun x21 => if decide (v20.1.2.2.2.2.1 < v20.1.2.2.1) && decide (x21.1 = 0) then ((pack_Reader_Text.f 200 x21.2.1).bind fun x22 => (pack_Reader_Text.f 4194304 x22.2.1).bind fun x23 => (pack_Reader_Err.f x23.2.1).bind fun x24 => if !decide (x24.1 = 0) then unpJ (((), (), v20.1.2.2.2.1, ()), v20.2.1, x24.2.1, (), ()) else (hunk_Split.f x23.1).bind fun x25 => (pack_Reader_Fail.f x25.2.1 x24.2.1).bind fun x26 => (app 40 v20.1.2.2.2.1 [(x22.1, x25.1, ())]).bind fun x27 => r19 (((), (), v20.1.2.2.1, x27, w64 (v20.1.2.2.2.2.1 + 1), ()), v20.2.1, x26.2.1, (), ())) else unpJ (((), (), v20.1.2.2.2.1, ()), v20.2.1, x21.2.1, (), ())) else unpJ (((), (), v20.1.2.2.2.1, ()), v20.2.1, v20.2.2.1, (), ())
theorem err_ev (r : Rdr) : pack_Reader_Err.f r = some (r.2.2.1, r, ()) := pack_Reader_Err.in _ rfl
theorem fin_err {s : ByteArray} {fs fs' : List File} {a a' : Nat} {e : Int} (he : e ≠ 0) : fin_ s fs a e = fin_ s fs' a' e := by
  unfold fin_; rw [decide_eq_false he]; rfl
theorem unpL_err (s : ByteArray) (hs : s.size ≤ 100000000) (t : List File × Unit) (n i : Nat) (fs : List File) (a : Nat) (e : Int) (he : e ≠ 0) (hl : fs.length ≤ 800) (hf : Fs s fs) : wh unpL (((), (), (n : Int), fs, (i : Int), ()), t, (s, (a : Int), e, ()), (), ()) = some (((fin_ s fs a e).1, ()), (fin_ s fs a e).2, ()) := by
  refine wh_ind (F := unpL) (fun _ : Unit => (((), (), (n : Int), fs, (i : Int), ()), t, (s, (a : Int), e, ()), (), ())) (fun _ => True) (fun _ => 0) (fun _ => (((fin_ s fs a e).1, ()), (fin_ s fs a e).2, ())) (fun _ _ r _ => ?_) () trivial
  have hj := unpJ_ev s hs t fs a e hl hf
  unfold unpL
  simp only [err_ev, Option.bind_some, decide_eq_false he, Bool.and_false, Bool.false_eq_true, if_false, hj]
  split <;> rfl
theorem unpL_ev (s : ByteArray) (hs : s.size ≤ 100000000) (t : List File × Unit) (N : Nat) (hN : N ≤ 200) : ∀ (m i : Nat), i + m = N → ∀ (a : Nat) (fs : List File), a ≤ s.size → fs.length ≤ i → Fs s fs →
    wh unpL (((), (), (N : Int), fs, (i : Int), ()), t, (s, (a : Int), 0, ()), (), ()) = some (((fin_ s (pfiles s m a fs).1 (pfiles s m a fs).2.1 (pfiles s m a fs).2.2).1, ()), (fin_ s (pfiles s m a fs).1 (pfiles s m a fs).2.1 (pfiles s m a fs).2.2).2, ()) := by
  intro m0 i0 h0 a0 fs0 ha0 hl0 hf0
  refine wh_ind (F := unpL) (fun (p : Nat × Nat × List File × Int) => (((), (), (N : Int), p.2.2.1, ((N - p.1 : Nat) : Int), ()), t, (s, (p.2.1 : Int), p.2.2.2, ()), (), ())) (fun p => p.1 ≤ N ∧ p.2.1 ≤ s.size ∧ p.2.2.1.length ≤ N - p.1 + 1 ∧ (p.2.2.2 = 0 → p.2.2.1.length ≤ N - p.1) ∧ Fs s p.2.2.1) (fun p => p.1) (fun p => bif decide (p.2.2.2 = 0) then (((fin_ s (pfiles s p.1 p.2.1 p.2.2.1).1 (pfiles s p.1 p.2.1 p.2.2.1).2.1 (pfiles s p.1 p.2.1 p.2.2.1).2.2).1, ()), (fin_ s (pfiles s p.1 p.2.1 p.2.2.1).1 (pfiles s p.1 p.2.1 p.2.2.1).2.1 (pfiles s p.1 p.2.1 p.2.2.1).2.2).2, ()) else (((fin_ s p.2.2.1 p.2.1 p.2.2.2).1, ()), (fin_ s p.2.2.1 p.2.1 p.2.2.2).2, ()))
    (fun p hp r hr => ?_) (m0, a0, fs0, 0) ⟨by simp only; omega, ha0, by simp only; omega, fun _ => by simp only; omega, hf0⟩ |> fun h => by
      simp only at h
      rw [show N - m0 = i0 by omega] at h
      exact h
  obtain ⟨m, a, fs, e⟩ := p
  obtain ⟨h1, h2, h3, h3', h4⟩ := hp
  simp only at h1 h2 h3 h3' h4 hr
  have hj := fun e => unpJ_ev s hs t fs a e (by omega) h4
  by_cases he : e = 0
  · subst he
    have h3' := h3' rfl
    simp only [decide_true, cond_true]
    cases m with
    | zero =>
      unfold unpL
      simp only [Nat.sub_zero]
      rw [decide_eq_false (by omega), Bool.false_and, if_neg (by decide), hj]
      rfl
    | succ m =>
      unfold unpL
      simp only []
      rw [decide_eq_true (show ((N - (m + 1) : Nat) : Int) < (N : Int) by omega)]
      simp only [Bool.true_and, if_true, err_ev, Option.bind_some, decide_true]
      have le1 := ptext_le 200 s a 0 h2
      have le2 := ptext_le 4194304 s (ptext 200 s a 0).2.1 (ptext 200 s a 0).2.2 le1.1
      have t1 := text_ev 200 s a 0 (by omega) h2
      have t2 := text_ev 4194304 s (ptext 200 s a 0).2.1 (ptext 200 s a 0).2.2 (by omega) le1.1
      rw [show (200 : Int) = ((200 : Nat) : Int) from rfl, t1, Option.bind_some, show (4194304 : Int) = ((4194304 : Nat) : Int) from rfl, t2, Option.bind_some]
      rw [show pfiles s (m + 1) a fs = (bif !decide ((ptext 4194304 s (ptext 200 s a 0).2.1 (ptext 200 s a 0).2.2).2.2 = 0) then (fs, a, (ptext 4194304 s (ptext 200 s a 0).2.1 (ptext 200 s a 0).2.2).2.2)
        else bif !(hsplit (ptext 4194304 s (ptext 200 s a 0).2.1 (ptext 200 s a 0).2.2).1).2 then (fs, a, 3)
        else pfiles s m (ptext 4194304 s (ptext 200 s a 0).2.1 (ptext 200 s a 0).2.2).2.1 (fs ++ [((ptext 200 s a 0).1, (hsplit (ptext 4194304 s (ptext 200 s a 0).2.1 (ptext 200 s a 0).2.2).1).1, ())])) from rfl]
      generalize (ptext 4194304 s (ptext 200 s a 0).2.1 (ptext 200 s a 0).2.2) = q at le2
      obtain ⟨qt, qa, qe⟩ := q
      simp only at le2
      simp only []
      cases hq : decide (qe = 0) with
      | false =>
        simp only [Bool.not_false, if_true, cond_true]
        rw [unpJ_ev s hs t fs qa qe (by omega) h4, fin_err (of_decide_eq_false hq)]
      | true =>
        obtain rfl := of_decide_eq_true hq
        simp only [Bool.not_true, Bool.false_eq_true, if_false, cond_false]
        rw [hunk_Split_ev qt (by omega), Option.bind_some]
        have hw : w64 (((N - (m + 1) : Nat) : Int) + 1) = ((N - m : Nat) : Int) := by rw [wS (by omega)]; congr 1; omega
        have hh := hsplit_len qt
        cases h2q : (hsplit qt).2 with
        | true =>
          simp only [if_true, fail_ev, Option.bind_some, decide_true, cond_true, Bool.not_true, cond_false]
          rw [app_ (by simp; omega), Option.bind_some, hw]
          have := hr (m, qa, fs ++ [((ptext 200 s a 0).1, (hsplit qt).1, ())], 0) ⟨by simp only; omega, le2.1, by simp; omega, fun _ => by simp; omega, h4.snoc (by simp only; omega) (fun t ht => by have := hh.2 t ht; omega)⟩ (by simp only; omega)
          simp only [decide_true, cond_true] at this
          exact this
        | false =>
          simp only [Bool.false_eq_true, if_false, fail_ev, Option.bind_some, decide_true, cond_true, Bool.not_false]
          rw [app_ (by simp; omega), Option.bind_some, hw]
          have := hr (m, qa, fs ++ [((ptext 200 s a 0).1, [], ())], 3) ⟨by simp only; omega, le2.1, by simp; omega, fun h => (by cases h), h4.snoc (by simp) (by simp)⟩ (by simp only; omega)
          simp only [show decide ((3 : Int) = 0) = false from rfl, cond_false] at this
          rw [this, fin_err (s := s) (fs := fs ++ [((ptext 200 s a 0).1, [], ())]) (fs' := fs) (a := qa) (a' := a) (e := 3) (by decide)]
  · simp only [decide_eq_false he, cond_false]
    unfold unpL
    simp only [err_ev, Option.bind_some, decide_eq_false he, Bool.and_false, Bool.false_eq_true, if_false, hj]
    split <;> rfl
noncomputable def unpT (v6 : ((Unit × Unit × Unit) × (List File × Unit) × Rdr × Unit)) : Option ((List File × Unit) × Int × Unit) := (pack_Reader_Num.f v6.2.2.1).bind fun x8 => jn (fun (v9 : ((Unit × Unit × Int × Unit) × (List File × Unit) × Rdr × Unit)) => wh unpL (((), (), v9.1.2.2.1, [], 0, ()), v9.2.1, v9.2.2.1, (), ())) fun j10 => if decide (x8.1 > 200) then ((pack_Reader_Fail.f 4 x8.2.1).bind fun x28 => j10 (((), (), x8.1, ()), v6.2.1, x28.2)) else j10 (((), (), x8.1, ()), v6.2.1, x8.2)
theorem Fs.nil (s : ByteArray) : Fs s [] := fun f hf => by cases hf
theorem unpT_err (s : ByteArray) (hs : s.size ≤ 100000000) (t : List File × Unit) (a : Nat) (e : Int) (he : e ≠ 0) (ha : a ≤ s.size) : unpT (((), (), ()), t, (s, (a : Int), e, ()), ()) = some (([], ()), e, ()) := by
  unfold unpT
  simp only [jn_eq]
  rw [num_err s a e he (by omega) ha, Option.bind_some]
  simp only []
  rw [show decide ((0 : Int) > 200) = false from rfl, if_neg (by decide)]
  have := unpL_err s hs t 0 0 [] a e he (by simp) (Fs.nil s)
  refine this.trans ?_
  unfold fin_
  rw [decide_eq_false he]; rfl
theorem unpT_ev (s : ByteArray) (hs : s.size ≤ 100000000) (t : List File × Unit) (a : Nat) (ha : a ≤ s.size) : unpT (((), (), ()), t, (s, (a : Int), 0, ()), ()) = some (bif !decide ((pnum s a 0).2.2 = 0) then (([], ()), (pnum s a 0).2.2, ()) else bif decide (200 < (pnum s a 0).1) then (([], ()), 4, ())
    else (((fin_ s (pfiles s (pnum s a 0).1 (pnum s a 0).2.1 []).1 (pfiles s (pnum s a 0).1 (pnum s a 0).2.1 []).2.1 (pfiles s (pnum s a 0).1 (pnum s a 0).2.1 []).2.2).1, ()), (fin_ s (pfiles s (pnum s a 0).1 (pnum s a 0).2.1 []).1 (pfiles s (pnum s a 0).1 (pnum s a 0).2.1 []).2.1 (pfiles s (pnum s a 0).1 (pnum s a 0).2.1 []).2.2).2, ())) := by
  unfold unpT
  simp only [jn_eq]
  rw [pNum_ev s a 0 (by omega) ha, Option.bind_some]
  obtain ⟨h1, h2, h3⟩ := pnum_le s a 0 ha
  have hz : (pnum s a 0).2.2 ≠ 0 → (pnum s a 0).1 = 0 := fun h => by
    unfold pnum at h ⊢
    simp only [decide_true, cond_true] at h ⊢
    cases hg : decide ((gn 9 0 0 (s.data.toList.drop a)).1 = 0) with
    | true => rw [hg] at h; exact absurd rfl h
    | false => rfl
  generalize pnum s a 0 = p at *
  obtain ⟨n, a', e⟩ := p
  simp only at h1 h2 h3 hz
  simp only []
  have c : decide ((n : Int) > 200) = decide (200 < n) := by rw [decide_eq_decide]; omega
  rw [c]
  cases he : decide (e = 0) with
  | false =>
    have he' := of_decide_eq_false he
    obtain rfl := hz he'
    rw [show decide (200 < 0) = false from rfl, if_neg (by decide)]
    have := unpL_err s hs t 0 0 [] a' e he' (by simp) (Fs.nil s)
    refine this.trans ?_
    unfold fin_
    rw [he]; rfl
  | true =>
    obtain rfl := of_decide_eq_true he
    cases h2 : decide (200 < n) with
    | true =>
      rw [if_pos rfl, fail_ev, Option.bind_some]
      have := unpL_err s hs t n 0 [] a' 4 (by decide) (by simp) (Fs.nil s)
      exact this
    | false =>
      rw [if_neg (by decide)]
      have := unpL_ev s hs t n (by have := of_decide_eq_false h2; omega) n 0 (by omega) a' [] h1 (by simp) (Fs.nil s)
      exact this

theorem byte_ev (s : ByteArray) (a : Nat) (hs : s.size ≤ 100000000) (h : a < s.data.toList.length) : pack_Reader_Byte.f (s, (a : Int), 0, ()) = some (((s.data.toList[a]).toNat : Int), (s, ((a + 1 : Nat) : Int), 0, ()), ()) := by
  refine pack_Reader_Byte.in _ ?_
  rw [take1_ev s a h (by omega), Option.bind_some]
  simp only [Bool.not_true, Bool.false_eq_true, if_false, bx_one h, Option.bind_some]
theorem byte_end (s : ByteArray) (hs : s.size ≤ 100000000) : pack_Reader_Byte.f (s, (s.size : Int), 0, ()) = some (0, (s, (s.size : Int), 2, ()), ()) := by
  refine pack_Reader_Byte.in _ ?_
  rw [take1_end s (by omega)]; rfl
theorem byte_err (s : ByteArray) (a : Nat) (e : Int) (he : e ≠ 0) (ha : a ≤ s.size) (hs : s.size ≤ 100000000) : pack_Reader_Byte.f (s, (a : Int), e, ()) = some (0, (s, (a : Int), e, ()), ()) := by
  refine pack_Reader_Byte.in _ ?_
  rw [show (1 : Int) = ((1 : Nat) : Int) from rfl, take_err s 1 a e he ha (by omega) (by omega)]; rfl
theorem bstr1 (b : UInt8) : bstr [(b.toNat : Int)] = bmk [b] := by
  unfold bstr bmk
  simp
theorem unpack_ev (s : ByteArray) (hs : s.size ≤ 100000000) : archive_Unpack.f s = some (((unp s).1, ()), (unp s).2, ()) := by
  have hl := len_text s
  refine archive_Unpack.in _ ?_
  rw [pack_New.in s (r := ((), (s, 0, 0, ()), ())) rfl, Option.bind_some]
  refine (wh_list [(), (), ()] (fun i (p : ByteArray × Nat × Int) => (((), (), p.1, i, ()), (([] : List File), ()), (s, (p.2.1 : Int), p.2.2, ()), ())) (fun i p => p.1.size ≤ i ∧ p.2.1 ≤ s.size ∧ ((i ≤ s.size ∧ p.2.2 = 0 ∧ p.2.1 = i ∧ p.1 = s.extract 0 i) ∨ (s.size < i ∧ p.2.2 = 2))) (fun _ _ => (((unp s).1, ()), (unp s).2, ())) (fun p r hI => ?_) (fun i p r h hI hr => ?_) (⟨⟨[]⟩⟩, 0, 0) ⟨Nat.le_refl _, Nat.zero_le _, .inl ⟨Nat.zero_le _, rfl, rfl, text_ext (by rw [cut_list]; rfl)⟩⟩).trans rfl
  · obtain ⟨b, a, e⟩ := p
    obtain ⟨h0, h1, h2⟩ := hI
    simp only [List.length_cons, List.length_nil] at h0 h1 h2
    show (if decide (((3 : Nat) : Int) < 3) = true then _ else _) = _
    rw [if_neg (by decide)]
    simp only [jn_eq]
    unfold unp
    rcases h2 with ⟨h2, rfl, rfl, rfl⟩ | ⟨h2, rfl⟩
    · rw [decide_eq_false (show ¬ s.size < 3 by omega)]
      simp only [cond_false]
      change (if (!decide (s.extract 0 3 = sign)) = true then ((pack_Reader_Fail.f 3 (s, ((3 : Nat) : Int), 0, ())).bind fun x29 => unpT (((), (), ()), ([], ()), x29.2)) else unpT (((), (), ()), ([], ()), (s, ((3 : Nat) : Int), 0, ()), ())) = _
      cases hq : decide (s.extract 0 3 = sign) with
      | false =>
        rw [if_pos (show (!false) = true from rfl), fail_ev, Option.bind_some]
        exact unpT_err s hs ([], ()) 3 3 (by decide) (by omega)
      | true =>
        rw [if_neg (by decide), unpT_ev s hs ([], ()) 3 (by omega)]
        cases hp : decide ((pnum s 3 0).2.2 = 0) with
        | false => rfl
        | true => cases h4 : decide (200 < (pnum s 3 0).1) <;> rfl
    · rw [decide_eq_true (show s.size < 3 by omega)]
      change (if (!decide (b = sign)) = true then ((pack_Reader_Fail.f 3 (s, (a : Int), 2, ())).bind fun x29 => unpT (((), (), ()), ([], ()), x29.2)) else unpT (((), (), ()), ([], ()), (s, (a : Int), 2, ()), ())) = _
      have := unpT_err s hs ([], ()) a 2 (by decide) h1
      cases hq : decide (b = sign) with
      | false => rw [if_pos (show (!false) = true from rfl), fail_ev, Option.bind_some]; exact this
      | true => rw [if_neg (by decide)]; exact this
  · obtain ⟨b, a, e⟩ := p
    obtain ⟨h0, h1, h2⟩ := hI
    simp only at h0 h1 h2 hr
    have h3 : i < 3 := h
    simp only []
    rw [decide_eq_true (show (i : Int) < 3 by omega), if_pos rfl, wS (by omega)]
    rcases h2 with ⟨h2, rfl, rfl, rfl⟩ | ⟨h2, rfl⟩
    · by_cases hlt : a < s.data.toList.length
      · rw [byte_ev s a hs hlt, Option.bind_some, bstr1, cat_ (by rw [size_bmk]; simp <;> omega), Option.bind_some]
        have e1 : s.extract 0 a ++ bmk [s.data.toList[a]] = s.extract 0 (a + 1) := text_ext (by rw [app_list, list_bmk, cut_list, cut_list, List.drop_zero, List.drop_zero, List.take_succ_eq_append_getElem hlt])
        rw [e1]
        exact hr (s.extract 0 (a + 1), a + 1, 0) ⟨by rw [ByteArray.size_extract]; omega, by simp only; omega, .inl ⟨by omega, rfl, rfl, rfl⟩⟩
      · obtain rfl : a = s.size := by omega
        rw [byte_end s hs, Option.bind_some, show bstr [0] = bmk [0] from bstr1 0, cat_ (by rw [size_bmk]; simp <;> omega), Option.bind_some]
        exact hr (s.extract 0 s.size ++ bmk [0], s.size, 2) ⟨by rw [size_app, size_bmk]; simp <;> omega, by simp only; omega, .inr ⟨by omega, rfl⟩⟩
    · rw [byte_err s a 2 (by decide) h1 hs, Option.bind_some, show bstr [0] = bmk [0] from bstr1 0, cat_ (by rw [size_bmk]; simp <;> omega), Option.bind_some]
      exact hr (b ++ bmk [0], a, 2) ⟨by rw [size_app, size_bmk]; simp <;> omega, h1, .inr ⟨by omega, rfl⟩⟩

end Go.Proofs.YtmjkflppajienaaGreatDoor.R.Pu
namespace Go.Proofs.YtmjkflppajienaaGreatDoor.R.Pu
open Go Go.RowKit
set_option linter.unusedVariables false
set_option linter.unusedSimpArgs false

theorem gn_of : ∀ (f i v x : Nat) (r : List UInt8), i + (enc x).length ≤ 8 → (enc x).length ≤ f → (0 < i → x ≠ 0) → v + x * 2 ^ (7 * i) ≤ 4611686018427387904 → gn f i v (enc x ++ r) = (0, v + x * 2 ^ (7 * i), i + (enc x).length)
  | 0, i, v, x, r, h1, h2, h3, h4 => by
    rw [enc] at h2
    split at h2 <;> simp at h2
  | f + 1, i, v, x, r, h1, h2, h3, h4 => by
    by_cases hx : x < 128
    · have e : enc x = [UInt8.ofNat x] := by rw [enc, dif_pos hx]
      have et : (UInt8.ofNat x).toNat = x := by simp; omega
      rw [e] at h1 ⊢
      rw [List.length_singleton] at h1 ⊢
      show (bif decide (i = 8) && decide (64 < (UInt8.ofNat x).toNat) then _ else bif decide ((UInt8.ofNat x).toNat < 128) then (bif (decide (0 < i) && decide ((UInt8.ofNat x).toNat = 0)) || decide (4611686018427387904 < v + (UInt8.ofNat x).toNat % 128 * 2 ^ (7 * i)) then _ else _) else _) = _
      rw [et, decide_eq_false (show ¬ i = 8 by omega), decide_eq_true hx, Nat.mod_eq_of_lt hx]
      have e0 : (decide (0 < i) && decide (x = 0)) = false := by
        cases hd : decide (0 < i) with
        | false => rfl
        | true => rw [decide_eq_false (h3 (of_decide_eq_true hd))]; rfl
      rw [e0, decide_eq_false (show ¬ 4611686018427387904 < v + x * 2 ^ (7 * i) by omega)]
      rfl
    · have e : enc x = UInt8.ofNat (x % 128 + 128) :: enc (x / 128) := by rw [enc, dif_neg hx]
      have et : (UInt8.ofNat (x % 128 + 128)).toNat = x % 128 + 128 := by simp; omega
      rw [e] at h1 h2 ⊢
      rw [List.length_cons] at h1 h2 ⊢
      have ep : v + x % 128 * 2 ^ (7 * i) + x / 128 * 2 ^ (7 * (i + 1)) = v + x * 2 ^ (7 * i) := by
        have : x / 128 * 2 ^ (7 * (i + 1)) = 128 * (x / 128) * 2 ^ (7 * i) := by
          rw [show 7 * (i + 1) = 7 * i + 7 by omega, Nat.pow_add, show (2 : Nat) ^ 7 = 128 from rfl, Nat.mul_comm (2 ^ (7 * i)) 128, ← Nat.mul_assoc, Nat.mul_comm (x / 128) 128]
        rw [this, Nat.add_assoc, ← Nat.add_mul]
        congr 2
        omega
      have ih := gn_of f (i + 1) (v + x % 128 * 2 ^ (7 * i)) (x / 128) r (by omega) (by omega) (fun _ => by omega) (by omega)
      show (bif decide (i = 8) && decide (64 < (UInt8.ofNat (x % 128 + 128)).toNat) then _ else bif decide ((UInt8.ofNat (x % 128 + 128)).toNat < 128) then _ else gn f (i + 1) (v + (UInt8.ofNat (x % 128 + 128)).toNat % 128 * 2 ^ (7 * i)) (enc (x / 128) ++ r)) = _
      rw [et, decide_eq_false (show ¬ i = 8 by omega), decide_eq_false (show ¬ x % 128 + 128 < 128 by omega), show (x % 128 + 128) % 128 = x % 128 by omega, ih, ep]
      simp only [Bool.false_and, cond_false, Prod.mk.injEq, true_and]
      omega
theorem enc_len5 (n : Nat) (h : n < 34359738368) : (enc n).length ≤ 5 := by
  rw [enc]; split
  · simp
  rw [List.length_cons, enc]; split
  · simp
  rw [List.length_cons, enc]; split
  · simp
  rw [List.length_cons, enc]; split
  · simp
  rw [List.length_cons, enc]; split
  · simp
  · omega
theorem pnum_of {s : ByteArray} {a n : Nat} {r : List UInt8} (h : s.data.toList.drop a = enc n ++ r) (hn : n < 34359738368) : pnum s a 0 = (n, a + (enc n).length, 0) := by
  have hl := enc_len5 n hn
  have := gn_of 9 0 0 n r (by omega) (by omega) (fun h => by omega) (by omega)
  unfold pnum
  rw [h, this]
  simp
theorem ptext_of {s t : ByteArray} {most a : Nat} {r : List UInt8} (h : s.data.toList.drop a = enc t.size ++ t.data.toList ++ r) (hn : t.size ≤ most) (hm : most < 34359738368) : ptext most s a 0 = (t, a + (enc t.size ++ t.data.toList).length, 0) := by
  have hl := len_text s
  have hlt := len_text t
  have hp := pnum_of (s := s) (a := a) (n := t.size) (r := t.data.toList ++ r) (by rw [h, List.append_assoc]) (by omega)
  have hd := congrArg List.length h
  rw [List.length_drop, List.length_append, List.length_append] at hd
  have ha : 0 < (enc t.size).length := by rw [enc]; split <;> simp
  unfold ptext
  rw [hp]
  simp only []
  rw [decide_true, decide_eq_false (show ¬ most < t.size by omega), decide_eq_false (show ¬ s.size - (a + (enc t.size).length) < t.size by omega)]
  simp only [Bool.not_true, cond_false, Prod.mk.injEq, and_true]
  refine ⟨text_ext ?_, by rw [List.length_append]; omega⟩
  rw [cut_list, List.drop_take, ← List.drop_drop, h, List.append_assoc, List.drop_left' rfl, show a + (enc t.size).length + t.size - (a + (enc t.size).length) = t.size by omega, List.take_left' hlt]

/-! ### trees whose files lie apart -/
def Far (l : List File) : Prop := ∀ f ∈ l, ∀ g ∈ l, f.1 ≠ g.1 → near g.1 f = false
theorem near_comm (f g : File) : near g.1 f = near f.1 g := by unfold near; rw [Bool.or_comm]
theorem rm_far {l : List File} {s : ByteArray} (h : rm l s = 0) : ∀ g ∈ l, near s g = false := by
  unfold rm at h
  cases hf : fnd l s with
  | true => rw [hf] at h; cases h
  | false =>
    rw [hf] at h
    simp only [cond_false] at h
    cases ha : l.any (near s) with
    | true => rw [ha] at h; cases h
    | false => exact fun g hg => by simpa using List.any_eq_false.1 ha g hg
theorem Far.del {l : List File} {s : ByteArray} (h : Far l) : Far (del l s) := fun f hf g hg hn => h f (mem_del hf) g (mem_del hg) hn
theorem far_put {l : List File} {f : File} (h : Far l) (h0 : rm l f.1 = 0) : Far (put l f) := fun a ha b hb hn => by
  have hr := rm_far h0
  rcases mem_put ha with e | ha'
  · rcases mem_put hb with e2 | hb'
    · exact absurd (by rw [e, e2]) hn
    · rw [e, near_comm]; exact hr b hb'
  · rcases mem_put hb with e2 | hb'
    · rw [e2]; exact hr a ha'
    · exact h a ha' b hb' hn
theorem far_put1 {l : List File} {f : File} (h : Far l) (h0 : fnd l f.1 = true) : Far (put l f) := fun a ha b hb hn => by
  obtain ⟨hp, e⟩ := fnd_true h0
  have hm := List.getElem_mem hp
  rcases mem_put ha with e1 | ha'
  · rcases mem_put hb with e2 | hb'
    · exact absurd (by rw [e1, e2]) hn
    · have := h _ hm b hb' (by rw [e, ← e1]; exact hn)
      unfold near at this ⊢
      rw [e, ← e1] at this; exact this
  · rcases mem_put hb with e2 | hb'
    · have := h a ha' _ hm (by rw [e, ← e2]; exact hn)
      rw [e, ← e2] at this; exact this
    · exact h a ha' b hb' hn
theorem Far.nil : Far [] := fun f hf => by cases hf
theorem stp_far {l : List File} {o : Op} (F : Far l) : Far (stp l o).1 := by
  unfold stp
  cases decide (wrg o = 0) with
  | false => exact Far.nil
  | true =>
  cases decide (o.1 > 4) with
  | true => exact F
  | false =>
  cases decide (o.1 = 1) with
  | true =>
    cases h0 : decide (rm l o.2.1 = 0) with
    | false => exact Far.nil
    | true =>
      cases decide (200 ≤ l.length) with
      | true => exact Far.nil
      | false => exact far_put F (f := (o.2.1, [], ())) (of_decide_eq_true h0)
  | false =>
  cases hn : fnd l o.2.1 with
  | false => exact Far.nil
  | true =>
  cases decide (o.1 = 2) with
  | true =>
    cases decide (lno l o.2.1 = o.2.2.2.2.1) with
    | false => exact Far.nil
    | true => exact F.del
  | false =>
  cases decide (o.1 = 3) with
  | true =>
    cases decide ((ap (lno l o.2.1) (hk o)).2 = 0) with
    | false => exact Far.nil
    | true => exact far_put1 F (f := (o.2.1, (ap (lno l o.2.1) (hk o)).1, ())) hn
  | false =>
    cases h0 : decide (rm (del l o.2.1) o.2.2.1 = 0) with
    | false => exact Far.nil
    | true => exact far_put F.del (f := (o.2.2.1, lno l o.2.1, ())) (of_decide_eq_true h0)
theorem alls_far {l0 : List File} (F0 : Far l0) : ∀ (os : List Op) (i : Nat) (t : List File), Far t → Far (alls l0 os i t).1
  | [], i, t, F => F
  | o :: os, i, t, F => by
    unfold alls
    cases decide ((stp t o).2 = 0) with
    | false => exact F0
    | true => exact alls_far F0 os (i + 1) _ (stp_far F)
theorem frm_id {l : List File} (T : Tr l) (F : Far l) (hl : l.length ≤ 200) : ∀ (r acc : List File), acc ++ r = l → frm r acc = (l, 0)
  | [], acc, e => by
    rw [List.append_nil] at e
    subst e
    unfold frm
    rw [decide_eq_false (by omega)]; rfl
  | f :: r, acc, e => by
    have hm : f ∈ l := by rw [← e]; simp
    have hs := T.srt
    rw [← e] at hs
    have hlt : ∀ g ∈ acc, by_ g.1 < by_ f.1 := fun g hg => (List.pairwise_append.1 hs).2.2 g hg f (by simp)
    have hp : pos acc f.1 = acc.length := by
      have := pos_split (a := acc) (b := []) hlt (fun g hg => by cases hg)
      rwa [List.append_nil] at this
    have hf : fnd acc f.1 = false := by unfold fnd; rw [hp, List.getElem?_eq_none (Nat.le_refl _)]
    have hr : rm acc f.1 = 0 := by
      unfold rm
      rw [hf, show acc.any (near f.1) = false from List.any_eq_false.2 fun g hg => by
        have hn : g.1 ≠ f.1 := fun e => l_irrefl _ (by have := hlt g hg; rwa [e] at this)
        rw [F g (by rw [← e]; simp [hg]) f hm hn]; decide]
      rfl
    have hput : put acc f = acc ++ [f] := by
      unfold put
      rw [hp, hf, List.take_length, if_neg (by decide), Nat.add_zero, List.drop_length]
    unfold frm
    rw [T.good f hm, T.lines f hm, hr, hput]
    exact frm_id T F hl r (acc ++ [f]) (by rw [List.append_assoc]; exact e)
theorem adj_srt : ∀ {l : List File}, Srt l → adj l = true
  | [], _ => rfl
  | [x], _ => rfl
  | x :: y :: r, h => by
    have h' := List.pairwise_cons.1 h
    show (lts x.1 y.1 && adj (y :: r)) = true
    rw [adj_srt (l := y :: r) h'.2]
    unfold lts
    rw [decide_eq_true (h'.1 y (by simp))]; rfl

/-! ### texts and files, unpacked -/
theorem spd_cat (d : UInt8) : ∀ (a r : List UInt8), (∀ c ∈ a, c ≠ d) → spd d (a ++ d :: r) = a :: spd d r
  | [], r, _ => by show spd d (d :: r) = _; rw [spd, if_pos rfl]
  | c :: a, r, h => by
    show spd d (c :: (a ++ d :: r)) = _
    rw [spd, if_neg (h c (by simp)), spd_cat d a r fun x hx => h x (by simp [hx])]
    rfl
theorem spd_none (d : UInt8) : ∀ (a : List UInt8), (∀ c ∈ a, c ≠ d) → spd d a = [a]
  | [], _ => rfl
  | c :: a, h => by
    rw [spd, if_neg (h c (by simp)), spd_none d a fun x hx => h x (by simp [hx])]
    rfl
theorem spd_htext : ∀ (l : List ByteArray), (∀ s ∈ l, lineOk s = true) → spd 10 (htext l) = l.map (·.data.toList) ++ [[]]
  | [], _ => rfl
  | s :: l, h => by
    have hs := h s (by simp)
    unfold lineOk at hs
    simp only [Bool.and_eq_true, List.all_eq_true, bne_iff_ne] at hs
    show spd 10 ((s.data.toList ++ [10]) ++ htext l) = _
    rw [List.append_assoc, List.singleton_append, spd_cat 10 _ _ fun c hc => hs.2 c hc, spd_htext l fun x hx => h x (by simp [hx])]
    rfl
theorem linesOk_all {l : List ByteArray} (h : linesOk l = true) : ∀ s ∈ l, lineOk s = true := by
  unfold linesOk at h
  simp only [Bool.and_eq_true, List.all_eq_true] at h
  exact h.2
theorem hsplit_htext {l : List ByteArray} (h : linesOk l = true) : hsplit (bmk (htext l)) = (l, true) := by
  have e := spd_htext l (linesOk_all h)
  unfold hsplit
  rw [list_bmk, e, List.dropLast_concat, List.map_map]
  have em : l.map (bmk ∘ fun s => s.data.toList) = l := by
    exact (List.map_congr_left (g := id) fun s _ => bmk_list s).trans (List.map_id l)
  rw [em, h]
  have : ends (l.map (·.data.toList) ++ [[]]) = true := by unfold ends; simp
  rw [this]; rfl
theorem htext_len {l : List ByteArray} (h : linesOk l = true) : (htext l).length ≤ 201000 := by
  obtain ⟨h1, h2⟩ := linesOk_len h
  have key : ∀ l : List ByteArray, (∀ s ∈ l, s.size ≤ 200) → (htext l).length ≤ l.length * 201 := by
    intro l
    induction l with
    | nil => intro _; simp [htext]
    | cons s l ih =>
      intro h
      have := ih fun x hx => h x (by simp [hx])
      have := h s (by simp)
      have hl := len_text s
      rw [show htext (s :: l) = (s.data.toList ++ [10]) ++ htext l from rfl, List.length_append, List.length_append, List.length_singleton, List.length_cons]
      omega
  have := key l h2
  omega
theorem pfiles_of {s : ByteArray} {l : List File} (T : Tr l) : ∀ (r acc : List File) (a : Nat), acc ++ r = l → s.data.toList.drop a = r.flatMap pkf → a ≤ s.size → pfiles s r.length a acc = (l, s.size, 0)
  | [], acc, a, e, h, ha => by
    rw [List.append_nil] at e
    have hl := len_text s
    have := congrArg List.length h
    rw [List.length_drop] at this
    simp at this
    show (acc, a, (0 : Int)) = _
    rw [e, show a = s.size by omega]
  | f :: r, acc, a, e, h, ha => by
    have hl := len_text s
    have hm : f ∈ l := by rw [← e]; simp
    have h1 := right_size (T.good f hm)
    have h2 := T.lines f hm
    have h3 := htext_len h2
    have hk : pkf f = (enc f.1.size ++ f.1.data.toList) ++ (enc (bmk (htext f.2.1)).size ++ (bmk (htext f.2.1)).data.toList) := by unfold pkf; rw [size_bmk, list_bmk]
    rw [List.flatMap_cons, hk, List.append_assoc] at h
    have p1 := ptext_of (most := 200) h h1 (by omega)
    have hd : s.data.toList.drop (a + (enc f.1.size ++ f.1.data.toList).length) = enc (bmk (htext f.2.1)).size ++ (bmk (htext f.2.1)).data.toList ++ r.flatMap pkf := by
      rw [← List.drop_drop, h, List.drop_left' rfl]
    have p2 := ptext_of (most := 4194304) hd (by rw [size_bmk]; omega) (by omega)
    have hd2 : s.data.toList.drop (a + (enc f.1.size ++ f.1.data.toList).length + (enc (bmk (htext f.2.1)).size ++ (bmk (htext f.2.1)).data.toList).length) = r.flatMap pkf := by
      rw [← List.drop_drop, hd, List.drop_left' rfl]
    have hlen := congrArg List.length h
    rw [List.length_drop] at hlen
    simp only [List.length_append] at hlen
    rw [List.length_cons]
    unfold pfiles
    rw [p1]
    simp only []
    rw [p2, hsplit_htext h2]
    simp only [decide_true, Bool.not_true, cond_false]
    exact pfiles_of T r (acc ++ [(f.1, f.2.1, ())]) _ (by rw [List.append_assoc]; exact e) hd2 (by simp only [List.length_append]; omega)
theorem unp_pk {l : List File} (T : Tr l) (F : Far l) (hl : l.length ≤ 200) : unp (bmk (pk l)) = (l, 0) := by
  have hs : (bmk (pk l)).data.toList = [81, 65, 49] ++ (enc l.length ++ l.flatMap pkf) := list_bmk _
  have hsz : (bmk (pk l)).size = 3 + (enc l.length ++ l.flatMap pkf).length := by rw [size_bmk]; unfold pk; rw [List.length_append]; rfl
  have hd : (bmk (pk l)).data.toList.drop 3 = enc l.length ++ l.flatMap pkf := by rw [hs]; rfl
  have hp := pnum_of hd (by omega)
  have hd2 : (bmk (pk l)).data.toList.drop (3 + (enc l.length).length) = l.flatMap pkf := by rw [← List.drop_drop, hd, List.drop_left' rfl]
  have hsg : (bmk (pk l)).extract 0 3 = sign := text_ext (by rw [cut_list, hs]; rfl)
  unfold unp
  rw [decide_eq_false (show ¬ (bmk (pk l)).size < 3 by omega), hsg, hp]
  simp only [decide_true, Bool.not_true, cond_false]
  rw [decide_eq_false (show ¬ 200 < l.length by omega), pfiles_of T l [] _ rfl hd2 (by rw [hsz, List.length_append]; omega)]
  simp only [cond_false]
  unfold fin_
  rw [show decide ((0 : Int) = 0) = true from rfl, decide_eq_false (Nat.lt_irrefl _), adj_srt T.srt, frm_id T F hl l [] rfl]
  rfl
end Go.Proofs.YtmjkflppajienaaGreatDoor.R.Pu
namespace Go.Proofs.YtmjkflppajienaaGreatDoor.R.Pu
open Go Go.RowKit
set_option linter.unusedVariables false
set_option linter.unusedSimpArgs false

theorem spd_part (d : UInt8) : ∀ (l : List UInt8) (z : List UInt8), z ∈ spd d l → z.length ≤ l.length
  | [], z, hz => by simp [spd] at hz; subst hz; simp
  | c :: l, z, hz => by
    have ih := spd_part d l
    unfold spd at hz
    split at hz
    · rcases List.mem_cons.1 hz with rfl | hz
      · simp
      · have := ih z hz; rw [List.length_cons]; omega
    · cases e : spd d l with
      | nil => exact absurd e (spd_ne d l)
      | cons a x =>
        rw [e] at hz
        rcases List.mem_cons.1 hz with rfl | hz
        · have := ih a (by rw [e]; simp); simp only [List.length_append, List.length_cons, List.length_nil]; omega
        · have := ih z (by rw [e]; simp [hz]); rw [List.length_cons]; omega
theorem lns_len (l : List File) (h : ∀ f ∈ l, f.2.1.length ≤ 1000) : (lns l).length ≤ l.length * 1001 := by
  induction l with
  | nil => simp [lns]
  | cons f l ih =>
    have h1 := h f (by simp)
    have h2 := ih fun g hg => h g (by simp [hg])
    rw [show lns (f :: l) = (hdl f :: f.2.1) ++ lns l from rfl, List.length_append, List.length_cons, List.length_cons]
    omega
/-! ### a file's lines -/
/-- How many lines a word says that there are. -/
def cnt (s : ByteArray) (most : Nat) : Option Nat := match Lib.atoiAll s.data.toList with
  | .ok v => bif decide (v < 0) || decide (v > (most : Int)) then none else some v.toNat
  | _ => none
def hdw (w l : List ByteArray) : Option (File × List ByteArray) := match w with
  | [_, p, n] => match cnt n l.length with
    | some k => some ((p, l.take k, ()), l.drop k)
    | none => none
  | _ => none
/-- The file with which lines begin, and what is left of them. -/
def hdr : List ByteArray → Option (File × List ByteArray)
  | [] => none
  | x :: l => hdw ((spd 32 x.data.toList).map bmk) l
theorem hdw_some {w l : List ByteArray} {f : File} {r : List ByteArray} (h : hdw w l = some (f, r)) : ∃ k p, f = (p, l.take k, ()) ∧ r = l.drop k := by
  unfold hdw at h
  split at h
  · split at h
    · obtain ⟨rfl, rfl⟩ := Prod.mk.inj (Option.some.inj h)
      exact ⟨_, _, rfl, rfl⟩
    · cases h
  · cases h
theorem hdr_len {l : List ByteArray} {f : File} {r : List ByteArray} (h : hdr l = some (f, r)) : r.length < l.length := by
  cases l with
  | nil => cases h
  | cons x l =>
    obtain ⟨k, p, rfl, rfl⟩ := hdw_some h
    rw [List.length_drop, List.length_cons]; omega
theorem file_ev (x : ByteArray) (l : List ByteArray) (hx : x.size ≤ 1000000) (hl : l.length ≤ 1000000) : archive_file.f (x :: l) = some (match hdr (x :: l) with
    | some (f, r) => (f, r, true, ())
    | none => ((⟨⟨[]⟩⟩, [], ()), [], false, ())) := by
  refine archive_file.in _ ?_
  rw [ix0 (by simp), Option.bind_some, List.getElem_cons_zero, split_ev _ _ (by omega), Option.bind_some]
  have hsz := spd_len 32 x.data.toList
  have hlx := len_text x
  have hmem : ∀ y ∈ (spd 32 x.data.toList).map bmk, y.size ≤ 1000000 := fun y hy => by
    obtain ⟨z, hz, rfl⟩ := List.mem_map.1 hy
    rw [size_bmk]
    have := spd_part 32 x.data.toList z hz
    omega
  rw [show hdr (x :: l) = hdw ((spd 32 x.data.toList).map bmk) l from rfl]
  generalize (spd 32 x.data.toList).map bmk = w at *
  match w with
  | [a, p, n] =>
    have hn := hmem n (by simp)
    rw [decide_eq_true (show (([a, p, n] : List ByteArray).length : Int) = 3 from rfl), if_neg (by decide)]
    have e2 : ix [a, p, n] 2 = some n := rfl
    have e1 : ix [a, p, n] 1 = some p := rfl
    rw [e2, Option.bind_some]
    have hA : ∀ r, strconv_Atoi.g n = some r → strconv_Atoi.f n = some r := fun r h => strconv_Atoi.in _ h
    unfold strconv_Atoi.g at hA
    rw [if_pos (show n.size ≤ 281474976710656 by omega)] at hA
    have hw : w64 (((x :: l).length : Int) - 1) = (l.length : Int) := by rw [List.length_cons, w_ (by omega) (by omega)]; omega
    simp only [hdw, cnt]
    rcases hv : Lib.atoiAll n.data.toList with v | _ | _
    · rw [hv] at hA
      rw [hA _ rfl, Option.bind_some]
      simp only [Bool.false_or, hw]
      cases hb : decide (v < 0) || decide (v > (l.length : Int)) with
      | true => rw [if_pos rfl]; rfl
      | false =>
        simp only [Bool.or_eq_false_iff, decide_eq_false_iff_not] at hb
        obtain ⟨k, rfl⟩ : ∃ k : Nat, v = (k : Int) := ⟨v.toNat, by omega⟩
        have hk : k ≤ l.length := by omega
        rw [if_neg (by decide), e1, Option.bind_some]
        have e3 : w64 (1 + (k : Int)) = ((k + 1 : Nat) : Int) := by rw [w_ (by omega) (by omega)]; omega
        have c1 := cut_ (x := x :: l) (i := 1) (j := k + 1) (by omega) (by rw [List.length_cons]; omega)
        have c2 := cut_ (x := x :: l) (i := k + 1) (j := (x :: l).length) (by rw [List.length_cons]; omega) (Nat.le_refl _)
        rw [e3, show (1 : Int) = ((1 : Nat) : Int) from rfl, c1, Option.bind_some, c2, Option.bind_some]
        simp
    · rw [hv] at hA
      rw [hA _ rfl, Option.bind_some]
      simp only [Bool.true_or, if_true]
    · rw [hv] at hA
      rw [hA _ rfl, Option.bind_some]
      simp only [Bool.true_or, if_true]
  | [] => rfl
  | [a] => rfl
  | [a, b] => rfl
  | a :: b :: c :: d :: e =>
    rw [decide_eq_false (show ¬ (((a :: b :: c :: d :: e) : List ByteArray).length : Int) = 3 by simp only [List.length_cons]; omega), if_pos (by decide)]
    rfl
/-- The files of lines. -/
def rd (l : List ByteArray) (acc : List File) : Option (List File) := match l with
  | [] => some acc
  | x :: l' => match h : hdr (x :: l') with
    | some (f, r) => rd r (acc ++ [f])
    | none => none
termination_by l.length
decreasing_by exact hdr_len h
def rdF (l : List ByteArray) (fs : List File) : (List File × Unit) × Int × Unit := bif decide ((frm fs []).2 = 0) && decide (lns (frm fs []).1 = l) then (((frm fs []).1, ()), 0, ()) else (([], ()), 3, ())
def rdT (l : List ByteArray) : (List File × Unit) × Int × Unit := match rd l [] with
  | some fs => rdF l fs
  | none => (([], ()), 3, ())
theorem hdr_mem {l : List ByteArray} {f : File} {r : List ByteArray} (h : hdr l = some (f, r)) : (∀ x ∈ r, x ∈ l) ∧ f.2.1.length ≤ l.length := by
  cases l with
  | nil => cases h
  | cons x l =>
    obtain ⟨k, p, rfl, rfl⟩ := hdw_some h
    exact ⟨fun y hy => List.mem_cons_of_mem _ (List.mem_of_mem_drop hy), by simp only [List.length_take, List.length_cons]; omega⟩
theorem rd_some {x : ByteArray} {w : List ByteArray} {f : File} {r : List ByteArray} {acc : List File} (h : hdr (x :: w) = some (f, r)) : rd (x :: w) acc = rd r (acc ++ [f]) := by
  rw [rd]
  split
  · rename_i f' r' h'
    rw [h] at h'
    obtain ⟨rfl, rfl⟩ := Prod.mk.inj (Option.some.inj h')
    rfl
  · rename_i h'
    rw [h] at h'; cases h'
theorem rd_none {x : ByteArray} {w : List ByteArray} {acc : List File} (h : hdr (x :: w) = none) : rd (x :: w) acc = none := by
  rw [rd]
  split
  · rename_i f' r' h'
    rw [h] at h'; cases h'
  · rfl
theorem read_ev (l : List ByteArray) (hl : l.length ≤ 1000000) (hs : ∀ x ∈ l, x.size ≤ 1000000) (hN : ∀ fs, rd l [] = some fs → fs.length ≤ 800) : archive_Read.f l = some (rdT l) := by
  refine archive_Read.in _ ?_
  refine (wh_ind (fun (p : List ByteArray × List File) => ((l, (), p.2, p.1, ()), ([], ()), (), ())) (fun p => (∀ x ∈ p.1, x ∈ l) ∧ p.2.length + p.1.length ≤ l.length ∧ (∀ f ∈ p.2, f.2.1.length ≤ l.length) ∧ rd p.1 p.2 = rd l []) (fun p => p.1.length)
    (fun p => match rd p.1 p.2 with
      | some fs => rdF l fs
      | none => (([], ()), 3, ())) (fun p hp r hr => ?_) (l, []) ⟨fun x h => h, by simp, by simp, rfl⟩).trans rfl
  obtain ⟨w, fs⟩ := p
  obtain ⟨h1, h2, h3, h4⟩ := hp
  simp only at h1 h2 h3 h4 hr
  cases w with
  | nil =>
    simp only []
    have h8 : fs.length ≤ 800 := hN fs (by rw [← h4, rd])
    rw [rd]
    have T := frm_tr fs [] Tr.nil
    simp only [List.length_nil, Nat.zero_add] at T
    rw [decide_eq_false (show ¬ (([] : List ByteArray).length : Int) > 0 by simp), if_neg (by decide), from_ev fs (by omega) (fun f hf => by have := h3 f hf; omega), Option.bind_some]
    show _ = some (rdF l fs)
    unfold rdF
    cases hc : decide ((frm fs []).2 = 0) with
    | false => simp only [Bool.not_false, Bool.not_true, gdF, Option.bind_some, Bool.true_or, if_true, Bool.false_and, cond_false]
    | true =>
      simp only [Bool.not_true, Bool.not_false, gdT, Bool.false_or, Bool.true_and]
      rw [lines_ev _ T.1 (by omega), Option.bind_some, equal_ev _ _ ?_ (by omega), Option.bind_some]
      · cases hd : decide (lns (frm fs []).1 = l) with
        | false => rfl
        | true => rfl
      · have := lns_len (frm fs []).1 fun f hf => (linesOk_len (T.1.lines f hf)).1
        omega
  | cons x w =>
    simp only []
    rw [decide_eq_true (show ((x :: w).length : Int) > 0 by rw [List.length_cons]; omega), if_pos rfl, file_ev x w (by have := hs x (h1 x (by simp)); omega) (by rw [List.length_cons] at h2; omega), Option.bind_some]
    cases hh : hdr (x :: w) with
    | some q =>
      obtain ⟨f, rest⟩ := q
      have hm := hdr_mem hh
      have hlen := hdr_len hh
      rw [rd_some hh]
      rw [List.length_cons] at hlen h2 hm
      simp only [Bool.not_true, Bool.false_eq_true, if_false]
      rw [app_ (by simp; omega), Option.bind_some]
      rw [rd_some hh] at h4
      exact hr (rest, fs ++ [f]) ⟨fun y hy => h1 y (hm.1 y hy), by simp only [List.length_append, List.length_singleton]; omega, fun g hg => by
        rcases List.mem_append.1 hg with hg | hg
        · exact h3 g hg
        · rw [List.mem_singleton] at hg; subst hg; have := hm.2; omega, h4⟩ (by simp only [List.length_cons]; omega)
    | none =>
      rw [rd_none hh]
      rfl
theorem rdT_or (l : List ByteArray) : rdT l = (([], ()), 3, ()) ∨ ∃ t, rdT l = ((t, ()), 0, ()) ∧ Tr t ∧ t.length ≤ 200 ∧ lns t = l := by
  unfold rdT
  cases rd l [] with
  | none => exact .inl rfl
  | some fs =>
    have T := frm_tr fs [] Tr.nil
    show rdF l fs = _ ∨ ∃ t, rdF l fs = _ ∧ _
    unfold rdF
    cases hc : decide ((frm fs []).2 = 0) && decide (lns (frm fs []).1 = l) with
    | false => exact .inl rfl
    | true =>
      simp only [Bool.and_eq_true, decide_eq_true_eq] at hc
      exact .inr ⟨_, rfl, T.1, T.2.2, hc.2⟩
end Go.Proofs.YtmjkflppajienaaGreatDoor.R.Pu
namespace Go.Proofs.YtmjkflppajienaaGreatDoor.R.Pu
open Go Go.RowKit
set_option linter.unusedVariables false
set_option linter.unusedSimpArgs false

theorem mem_glue {p : List UInt8} {x : List (List UInt8)} {c : UInt8} (h : c ∈ p ∨ ∃ q ∈ x, c ∈ q) : ∃ q ∈ glue p x, c ∈ q := by
  cases x with
  | nil =>
    rcases h with h | ⟨q, hq, _⟩
    · exact ⟨p, by simp [glue], h⟩
    · cases hq
  | cons a x =>
    rcases h with h | ⟨q, hq, hc⟩
    · exact ⟨p ++ a, by simp [glue], by simp [h]⟩
    · rcases List.mem_cons.1 hq with rfl | hq
      · exact ⟨p ++ q, by simp [glue], by simp [hc]⟩
      · exact ⟨q, by simp [glue, hq], hc⟩
theorem mem_spd (d : UInt8) : ∀ (l : List UInt8) (c : UInt8), c ∈ l → c = d ∨ ∃ p ∈ spd d l, c ∈ p
  | [], c, h => by cases h
  | x :: l, c, h => by
    unfold spd
    split
    · rename_i hx
      rcases List.mem_cons.1 h with rfl | h
      · exact .inl hx
      · rcases mem_spd d l c h with h | ⟨p, hp, hc⟩
        · exact .inl h
        · exact .inr ⟨p, by simp [hp], hc⟩
    · rcases List.mem_cons.1 h with rfl | h
      · exact .inr (mem_glue (.inl (by simp)))
      · rcases mem_spd d l c h with h | h
        · exact .inl h
        · exact .inr (mem_glue (.inr h))
theorem right_no {s : ByteArray} (h : right s = true) : ∀ c ∈ s.data.toList, c ≠ 32 := fun c hc e => by
  unfold right at h
  simp only [Bool.and_eq_true, List.all_eq_true] at h
  rcases mem_spd 47 _ c hc with h47 | ⟨p, hp, hcp⟩
  · rw [h47] at e; exact absurd e (by decide)
  · have := h.2.1 (bmk p) (List.mem_map.2 ⟨p, hp, rfl⟩)
    unfold part at this
    rw [list_bmk] at this
    simp only [Bool.and_eq_true] at this
    have hl := this.2.2.2
    unfold lets at hl
    have := List.all_eq_true.1 hl c hcp
    rw [e] at this
    exact absurd this (by decide)
theorem dd_all : ∀ (n : Nat), ∀ c ∈ Lib.decDigits n, 48 ≤ c.toNat ∧ c.toNat ≤ 57 := by
  intro n
  induction n using Nat.strongRecOn with
  | _ n ih =>
    intro c hc
    rw [Lib.decDigits] at hc
    split at hc
    · rw [List.mem_singleton] at hc
      subst hc
      have : (UInt8.ofNat (48 + n)).toNat = 48 + n := by simp; omega
      omega
    · rcases List.mem_append.1 hc with hc | hc
      · exact ih (n / 10) (by omega) c hc
      · rw [List.mem_singleton] at hc
        subst hc
        have : (UInt8.ofNat (48 + n % 10)).toNat = 48 + n % 10 := by simp; omega
        omega
theorem parse_dd : ∀ (n : Nat) (r : List UInt8), n ≤ 1000000000 → Lib.parseUint10 0 (Lib.decDigits n ++ r) = Lib.parseUint10 n r := by
  intro n
  induction n using Nat.strongRecOn with
  | _ n ih =>
    intro r hn
    rw [Lib.decDigits]
    split
    · rename_i h
      have e : (UInt8.ofNat (48 + n)).toNat = 48 + n := by simp; omega
      show Lib.parseUint10 0 (UInt8.ofNat (48 + n) :: r) = _
      rw [Lib.parseUint10, e, if_pos (by omega), if_neg (by omega), if_neg (by omega), show 0 * 10 + (48 + n - 48) = n by omega]
    · rename_i h
      have e : (UInt8.ofNat (48 + n % 10)).toNat = 48 + n % 10 := by simp; omega
      rw [List.append_assoc, ih (n / 10) (by omega) _ (by omega)]
      show Lib.parseUint10 (n / 10) (UInt8.ofNat (48 + n % 10) :: r) = _
      rw [Lib.parseUint10, e, if_pos (by omega), if_neg (by omega), if_neg (by omega), show n / 10 * 10 + (48 + n % 10 - 48) = n by omega]
theorem atoi_dd (n : Nat) (hn : n ≤ 1000000000) : Lib.atoiAll (Lib.decDigits n) = .ok (n : Int) := by
  have hne : Lib.decDigits n ≠ [] := by rw [Lib.decDigits]; split <;> simp
  obtain ⟨c, r, e⟩ := List.exists_cons_of_ne_nil hne
  have hc := dd_all n c (by rw [e]; simp)
  have hp := parse_dd n [] hn
  rw [List.append_nil] at hp
  rw [e, Lib.atoiAll_plain c r (by omega) (by omega), ← e]
  unfold Lib.parseMag
  rw [if_neg hne, hp]
  show Lib.signless (.ok n) = _
  unfold Lib.signless
  show (if 9223372036854775808 ≤ n then Lib.NumEnd.range else Lib.NumEnd.ok (n : Int)) = _
  rw [if_neg (by omega)]
theorem hdr_lns {f : File} {l : List File} (h1 : right f.1 = true) (h2 : linesOk f.2.1 = true) : hdr (lns (f :: l)) = some (f, lns l) := by
  have hz := (linesOk_len h2).1
  have hs : spd 32 (hdl f).data.toList = [[61, 61], f.1.data.toList, Lib.decDigits f.2.1.length] := by
    unfold hdl
    rw [list_bmk]
    have : [61, 61, 32] ++ f.1.data.toList ++ [32] ++ Lib.decDigits f.2.1.length = [61, 61] ++ 32 :: (f.1.data.toList ++ 32 :: Lib.decDigits f.2.1.length) := by simp
    rw [this, spd_cat 32 _ _ (by decide), spd_cat 32 _ _ (right_no h1), spd_none 32 _ (fun c hc e => by have := dd_all _ c hc; rw [e] at this; exact absurd this.1 (by decide))]
  rw [show lns (f :: l) = hdl f :: (f.2.1 ++ lns l) from rfl]
  show hdw ((spd 32 (hdl f).data.toList).map bmk) (f.2.1 ++ lns l) = _
  rw [hs]
  show (match cnt (bmk (Lib.decDigits f.2.1.length)) (f.2.1 ++ lns l).length with
    | some k => some ((bmk f.1.data.toList, (f.2.1 ++ lns l).take k, ()), (f.2.1 ++ lns l).drop k)
    | none => none) = _
  have hc : cnt (bmk (Lib.decDigits f.2.1.length)) (f.2.1 ++ lns l).length = some f.2.1.length := by
    unfold cnt
    rw [list_bmk, atoi_dd _ (by omega)]
    simp only []
    rw [decide_eq_false (show ¬ (f.2.1.length : Int) < 0 by omega), decide_eq_false (show ¬ (f.2.1.length : Int) > ((f.2.1 ++ lns l).length : Int) by rw [List.length_append]; omega)]
    simp
  rw [hc, bmk_list]
  simp only []
  rw [List.take_left' rfl, List.drop_left' rfl]
theorem rd_lns : ∀ (l acc : List File), (∀ f ∈ l, right f.1 = true ∧ linesOk f.2.1 = true) → rd (lns l) acc = some (acc ++ l)
  | [], acc, _ => by rw [show lns [] = [] from rfl, rd, List.append_nil]
  | f :: l, acc, h => by
    have hf := h f (by simp)
    have e := hdr_lns (l := l) hf.1 hf.2
    rw [show lns (f :: l) = hdl f :: (f.2.1 ++ lns l) from rfl] at e ⊢
    rw [rd_some e, rd_lns l _ fun g hg => h g (by simp [hg]), List.append_assoc]
    rfl
theorem lns_size {l : List File} (T : Tr l) : ∀ x ∈ lns l, x.size ≤ 1000000 := fun x hx => by
  unfold lns at hx
  obtain ⟨f, hf, hx⟩ := List.mem_flatMap.1 hx
  have hL := linesOk_len (T.lines f hf)
  rcases List.mem_cons.1 hx with rfl | hx
  · have h1 := right_size (T.good f hf)
    have h2 := dd_len f.2.1.length
    have h3 := len_text f.1
    unfold hdl
    rw [size_bmk]
    simp only [List.length_append, List.length_cons, List.length_nil]
    omega
  · have := hL.2 x hx; omega
theorem read_lns {l : List File} (T : Tr l) (F : Far l) (hl : l.length ≤ 200) : archive_Read.f (lns l) = some ((l, ()), 0, ()) := by
  have hr := rd_lns l [] fun f hf => ⟨T.good f hf, T.lines f hf⟩
  have hn := lns_len l fun f hf => (linesOk_len (T.lines f hf)).1
  rw [read_ev (lns l) (by omega) (lns_size T) (fun fs h => by rw [hr] at h; obtain rfl := Option.some.inj h; simp; omega)]
  unfold rdT
  rw [hr]
  show some (rdF (lns l) ([] ++ l)) = _
  unfold rdF
  rw [List.nil_append, frm_id T F hl l [] rfl]
  simp
end Go.Proofs.YtmjkflppajienaaGreatDoor.R.Pu
