/- Archives, packed; and what the law of layer 39 on unpacking asks; no condition but the typed premises. -/
import Derived.Test.YtmjkflppajienaaDoorPArch
import Derived.Test.YtmjkflppajienaaDoorRRd
namespace Go.Proofs.YtmjkflppajienaaDoor.R.Pu
open Go Go.RowKit
set_option linter.unusedVariables false
set_option linter.unusedSimpArgs false

/-! ### writing -/
/-- Bytes as numbers. -/
def ib (l : List UInt8) : List Int := l.map fun b => ((b.toNat : Nat) : Int)
theorem strb_ib (s : ByteArray) : strb s = ib s.data.toList := rfl
theorem bstr_ib (l : List UInt8) : bstr (ib l) = bmk l := by
  unfold bstr ib bmk
  simp [Function.comp_def]
theorem ib_app (a b : List UInt8) : ib (a ++ b) = ib a ++ ib b := List.map_append
/-- A number as bytes. -/
def enc (n : Nat) : List UInt8 := if h : n < 128 then [UInt8.ofNat n] else UInt8.ofNat (n % 128 + 128) :: enc (n / 128)
termination_by n
theorem enc_len (n : Nat) (h : n ≤ 4611686018427387904) : (enc n).length ≤ 10 := by
  have key : ∀ k n, n < 128 ^ k → 0 < k → (enc n).length ≤ k := by
    intro k
    induction k with
    | zero => intro n _ h; omega
    | succ k ih =>
      intro n hn _
      rw [enc]
      split
      · simp
      · rename_i h128
        have hk : 0 < k := by
          rcases Nat.eq_zero_or_pos k with rfl | h
          · simp at hn; omega
          · exact h
        have : n / 128 < 128 ^ k := by rw [Nat.pow_succ] at hn; omega
        have := ih (n / 128) this hk
        rw [List.length_cons]; omega
  exact key 10 n (by have : (128 : Nat) ^ 10 = 1180591620717411303424 := by decide
                     omega) (by omega)
theorem wbyte_ev (x : Int) (w : List Int) (h : w.length ≤ 100000000000) : pack_Writer_Byte.f x (w, ()) = some ((), (w ++ [x], ()), (), ()) := by
  refine pack_Writer_Byte.in _ _ ?_
  rw [app_ (by simp; omega)]; rfl
theorem shr7 (m : Nat) : shr IntKind.i64 (m : Int) 7 = some ((m / 128 : Nat) : Int) := by
  unfold shr
  rw [if_pos (by decide)]
  have e3 : (2 : Int) ^ (min (7 : Int).toNat IntKind.i64.bits) = 128 := by decide
  rw [e3, Int.fdiv_eq_ediv_of_nonneg _ (by decide)]
  rfl
theorem wnum_ev (n : Nat) (hn : n ≤ 4611686018427387904) (w : List Int) (hw : w.length ≤ 10000000000) : pack_Writer_Num.f (n : Int) (w, ()) = some (true, (w ++ ib (enc n), ()), (), ()) := by
  have hel := enc_len n hn
  refine pack_Writer_Num.in _ _ ?_
  rw [decide_eq_false (show ¬ (n : Int) < 0 by omega), decide_eq_false (show ¬ (n : Int) > 4611686018427387904 by omega), if_neg (by decide)]
  refine wh_ind (fun (p : Nat × List Int) => (((), (p.1 : Int), ()), (p.2, ()), (), (), ())) (fun p => p.2.length + (enc p.1).length = w.length + (enc n).length) (fun p => p.1) (fun p => (true, (p.2 ++ ib (enc p.1), ()), (), ())) ?_ (n, w) rfl
  rintro ⟨m, y⟩ h1 r hr
  simp only at h1 hr
  simp only []
  have e8 : IntKind.u8.wrap (m : Int) = ((m % 256 : Nat) : Int) := by rw [w8mod]; rfl
  by_cases hm : m < 128
  · rw [decide_eq_false (show ¬ (m : Int) ≥ 128 by omega), if_neg (by decide), e8, wbyte_ev _ _ (by omega), Option.bind_some, enc, dif_pos hm]
    have : ((m % 256 : Nat) : Int) = ((UInt8.ofNat m).toNat : Int) := by simp
    rw [this]; rfl
  · have ee : enc m = UInt8.ofNat (m % 128 + 128) :: enc (m / 128) := by rw [enc, dif_neg hm]
    rw [ee, List.length_cons] at h1
    have eh : IntKind.u8.wrap (↑(BitVec.ofInt 8 ((m % 256 : Nat) : Int) ||| BitVec.ofInt 8 128).toNat : Int) = ((UInt8.ofNat (m % 128 + 128)).toNat : Int) := by
      have := high8 ⟨m % 256, Nat.mod_lt _ (by decide)⟩
      simp only at this
      rw [this]
      have e1 : m % 256 % 128 + 128 = m % 128 + 128 := by omega
      have e2 : (UInt8.ofNat (m % 128 + 128)).toNat = m % 128 + 128 := by simp; omega
      rw [e1, e2]
    rw [decide_eq_true (show (m : Int) ≥ 128 by omega), if_pos rfl, e8, eh, wbyte_ev _ _ (by omega), Option.bind_some, shr7, Option.bind_some, ee]
    have := hr (m / 128, y ++ [((UInt8.ofNat (m % 128 + 128)).toNat : Int)]) (by simp only [List.length_append, List.length_singleton]; omega) (by simp only; omega)
    refine this.trans ?_
    simp [ib]
theorem wtext_ev (s : ByteArray) (w : List Int) (hs : s.size ≤ 1000000000) (hw : w.length ≤ 10000000000) : pack_Writer_Text.f s (w, ()) = some ((), (w ++ ib (enc s.size ++ s.data.toList), ()), (), ()) := by
  have hl := len_text s
  have hel := enc_len s.size (by omega)
  refine pack_Writer_Text.in _ _ ?_
  rw [wnum_ev s.size (by omega) w hw, Option.bind_some, app_ (by simp [ib, strb]; omega), Option.bind_some, strb_ib, ib_app, List.append_assoc]
def pkf (f : File) : List UInt8 := enc f.1.size ++ f.1.data.toList ++ (enc (htext f.2.1).length ++ htext f.2.1)
def pk (l : List File) : List UInt8 := [81, 65, 49] ++ (enc l.length ++ l.flatMap pkf)
theorem pack_ev (l : List File) (hl : l.length ≤ 800) (hf : ∀ f ∈ l, f.1.size ≤ 1000 ∧ (htext f.2.1).length ≤ 1000000 ∧ f.2.1.length ≤ 1000000 ∧ ∀ s ∈ f.2.1, s.size ≤ 1000000) : archive_Pack.f (l, ()) = some (bmk (pk l)) := by
  refine archive_Pack.in _ ?_
  refine (wh_list ([81, 65, 49] : List UInt8) (fun i (w : List Int) => (((), (), i, ()), (l, ()), (), (w, ()), ())) (fun i w => w.length = i) (fun x w => bmk ((w.map fun n => UInt8.ofNat n.toNat) ++ (x ++ (enc l.length ++ l.flatMap pkf)))) (fun w r hI => ?_) (fun i w r h hI hr => ?_) [] rfl).trans ?_
  · show (if decide (((3 : Nat) : Int) < 3) = true then _ else _) = _
    have h3 : w.length = 3 := hI
    have hel := enc_len l.length (by omega)
    rw [if_neg (by decide), files_ev l (by omega) (fun f hf' => (hf f hf').2.2.1), Option.bind_some, wnum_ev l.length (by omega) w (by omega), Option.bind_some]
    refine (wh_list l (fun i (y : List Int) => (((), l, (l.length : Int), i, ()), (l, ()), (), (y, ()), ())) (fun i y => y.length ≤ 100 + i * 1002000) (fun x y => bmk ((y.map fun n => UInt8.ofNat n.toNat) ++ x.flatMap pkf)) (fun y r hI => ?_) (fun i y r h hI hr => ?_) (w ++ ib (enc l.length)) (by simp [ib]; omega)).trans ?_
    · simp (disch := omega) only [decide_eq_true_eq, if_neg]
      rw [pack_Writer_String.in (y, ()) (r := (bstr y, (y, ()), (), ())) rfl]
      simp [bstr, bmk]
    · obtain ⟨z1, z2, z3, z4⟩ := hf _ (List.getElem_mem h)
      have e1 := enc_len l[i].1.size (by omega)
      have e2 := enc_len (htext l[i].2.1).length (by omega)
      have ltx := len_text l[i].1
      simp (disch := omega) only [decide_eq_true_eq, if_pos, ix_, Option.bind_some, wS]
      rw [wtext_ev _ _ (by omega) (by omega), Option.bind_some, hunk_Text_ev _ z3 z4, Option.bind_some, wtext_ev _ _ (by rw [size_bmk]; omega) (by simp [ib]; omega), Option.bind_some, size_bmk, list_bmk]
      refine (hr (y ++ ib (enc l[i].1.size ++ l[i].1.data.toList) ++ ib (enc (htext l[i].2.1).length ++ htext l[i].2.1)) (by simp [ib]; omega)).trans ?_
      rw [show (l[i] :: l.drop (i + 1)).flatMap pkf = pkf l[i] ++ (l.drop (i + 1)).flatMap pkf from rfl]
      congr 2
      have ibb : ∀ x : List UInt8, (ib x).map (fun n => UInt8.ofNat n.toNat) = x := fun x => by unfold ib; simp [Function.comp_def]
      rw [List.map_append, List.map_append, ibb, ibb, pkf, List.append_assoc, List.append_assoc]
      simp
    · have ibb : ∀ x : List UInt8, (ib x).map (fun n => UInt8.ofNat n.toNat) = x := fun x => by unfold ib; simp [Function.comp_def]
      rw [List.map_append, ibb]
      simp
  · have h3 : i < 3 := h
    rw [show ([81, 65, 49] : List UInt8).length = 3 from rfl] at h
    have hb := bx_ (s := (⟨⟨[81, 65, 49]⟩⟩ : ByteArray)) (i := i) h
    simp only []
    rw [decide_eq_true (show (i : Int) < 3 by omega), if_pos rfl, hb, Option.bind_some, wbyte_ev _ _ (by omega), Option.bind_some, wS (by omega)]
    refine (hr _ (by simp; omega)).trans ?_
    congr 2
    simp
  · simp [pk]

/-! ### read as it was written -/
theorem gn_enc : ∀ (f i v : Nat) (l : List UInt8) (w n : Nat), gn f i v l = (0, w, n) → ∃ x, w = v + x * 2 ^ (7 * i) ∧ i < n ∧ (0 < i → x ≠ 0) ∧ l = enc x ++ l.drop (n - i)
  | 0, i, v, l, w, n, h => by cases h
  | f + 1, i, v, [], w, n, h => by cases h
  | f + 1, i, v, b :: l, w, n, h => by
    have hbt := b.toNat_lt
    unfold gn at h
    cases h1 : (decide (i = 8) && decide (64 < b.toNat)) with
    | true => rw [h1] at h; cases h
    | false =>
      rw [h1] at h
      simp only [cond_false] at h
      cases h2 : decide (b.toNat < 128) with
      | true =>
        have hb := of_decide_eq_true h2
        rw [h2] at h
        simp only [cond_true] at h
        cases h3 : (decide (0 < i) && decide (b.toNat = 0) || decide (4611686018427387904 < v + b.toNat % 128 * 2 ^ (7 * i))) with
        | true => rw [h3] at h; cases h
        | false =>
          rw [h3] at h
          simp only [cond_false, Prod.mk.injEq, true_and] at h
          obtain ⟨rfl, rfl⟩ := h
          simp only [Bool.or_eq_false_iff, Bool.and_eq_false_iff, decide_eq_false_iff_not] at h3
          refine ⟨b.toNat, by rw [Nat.mod_eq_of_lt hb], by omega, fun hi => by omega, ?_⟩
          rw [enc, dif_pos hb, show i + 1 - i = 1 by omega]
          simp
      | false =>
        have hb := of_decide_eq_false h2
        rw [h2] at h
        simp only [cond_false] at h
        obtain ⟨x, g1, g2, g3, g4⟩ := gn_enc f (i + 1) _ l w n h
        have hx := g3 (by omega)
        refine ⟨b.toNat % 128 + 128 * x, ?_, by omega, fun _ => by omega, ?_⟩
        · rw [g1, pow7s, Nat.add_mul, Nat.add_assoc]
          congr 2
          rw [Nat.mul_comm 128 x, Nat.mul_assoc]
        · have e : enc (b.toNat % 128 + 128 * x) = b :: enc x := by
            rw [enc, dif_neg (by omega)]
            congr 1
            · refine UInt8.toNat.inj ?_
              simp
              omega
            · congr 1; omega
          rw [e, show n - i = (n - (i + 1)) + 1 by omega]
          simp only [List.cons_append, List.drop_succ_cons, List.cons.injEq, true_and]
          exact g4
theorem pnum_enc {s : ByteArray} {a : Nat} {e : Int} {n a' : Nat} (h : pnum s a e = (n, a', 0)) : e = 0 ∧ s.data.toList.drop a = enc n ++ s.data.toList.drop a' ∧ a ≤ a' := by
  unfold pnum at h
  cases he : decide (e = 0) with
  | false =>
    rw [he] at h
    simp only [cond_false, Prod.mk.injEq] at h
    exact absurd h.2.2 (of_decide_eq_false he)
  | true =>
    rw [he] at h
    simp only [cond_true] at h
    refine ⟨of_decide_eq_true he, ?_⟩
    cases hg : decide ((gn 9 0 0 (s.data.toList.drop a)).1 = 0) with
    | false =>
      rw [hg] at h
      simp only [cond_false, Prod.mk.injEq] at h
      exact absurd (Int.ofNat.inj h.2.2) (of_decide_eq_false hg)
    | true =>
      rw [hg] at h
      simp only [cond_true, Prod.mk.injEq] at h
      obtain ⟨rfl, rfl, _⟩ := h
      obtain ⟨x, g1, g2, g3, g4⟩ := gn_enc 9 0 0 (s.data.toList.drop a) _ _ (show gn 9 0 0 (s.data.toList.drop a) = (0, (gn 9 0 0 (s.data.toList.drop a)).2.1, (gn 9 0 0 (s.data.toList.drop a)).2.2) from Prod.ext (of_decide_eq_true hg) rfl)
      have : x = (gn 9 0 0 (s.data.toList.drop a)).2.1 := by rw [g1]; simp
      rw [← this]
      refine ⟨?_, by omega⟩
      rw [Nat.sub_zero, List.drop_drop] at g4
      exact g4
theorem ptext_enc {most : Nat} {s : ByteArray} {a : Nat} {e : Int} {t : ByteArray} {a' : Nat} (ha : a ≤ s.size) (h : ptext most s a e = (t, a', 0)) : e = 0 ∧ s.data.toList.drop a = enc t.size ++ t.data.toList ++ s.data.toList.drop a' := by
  have hl := len_text s
  have hp := pnum_le s a e ha
  unfold ptext at h
  cases h1 : (!decide ((pnum s a e).2.2 = 0)) with
  | true =>
    rw [h1] at h
    simp only [cond_true, Prod.mk.injEq] at h
    rw [h.2.2] at h1; cases h1
  | false =>
    rw [h1] at h
    simp only [cond_false] at h
    cases h2 : decide (most < (pnum s a e).1) with
    | true => rw [h2] at h; simp at h
    | false =>
      rw [h2] at h
      simp only [cond_false] at h
      cases h3 : decide (s.size - (pnum s a e).2.1 < (pnum s a e).1) with
      | true => rw [h3] at h; simp at h
      | false =>
        rw [h3] at h
        have h3 := of_decide_eq_false h3
        simp only [cond_false, Prod.mk.injEq, and_true] at h
        obtain ⟨rfl, rfl⟩ := h
        have e0 : (pnum s a e).2.2 = 0 := by simpa using h1
        obtain ⟨g1, g2, g3⟩ := pnum_enc (s := s) (a := a) (e := e) (n := (pnum s a e).1) (a' := (pnum s a e).2.1) (Prod.ext rfl (Prod.ext rfl e0))
        refine ⟨g1, ?_⟩
        have e1 : (s.extract (pnum s a e).2.1 ((pnum s a e).2.1 + (pnum s a e).1)).size = (pnum s a e).1 := by rw [ByteArray.size_extract]; omega
        rw [e1, g2, cut_list, List.append_assoc]
        congr 1
        rw [List.drop_take, Nat.add_sub_cancel_left, ← List.drop_drop, List.take_append_drop]
theorem pfiles_enc (s : ByteArray) : ∀ (n a : Nat) (acc fs : List File) (a' : Nat), a ≤ s.size → pfiles s n a acc = (fs, a', 0) → ∃ new, fs = acc ++ new ∧ new.length = n ∧ s.data.toList.drop a = new.flatMap pkf ++ s.data.toList.drop a'
  | 0, a, acc, fs, a', ha, h => by
    simp only [pfiles, Prod.mk.injEq, and_true] at h
    obtain ⟨rfl, rfl⟩ := h
    exact ⟨[], by simp, rfl, by simp⟩
  | n + 1, a, acc, fs, a', ha, h => by
    rw [pfiles] at h
    have le1 := ptext_le 200 s a 0 ha
    cases h1 : (!decide ((ptext 4194304 s (ptext 200 s a 0).2.1 (ptext 200 s a 0).2.2).2.2 = 0)) with
    | true =>
      rw [h1] at h
      simp only [cond_true, Prod.mk.injEq] at h
      rw [h.2.2] at h1; cases h1
    | false =>
      rw [h1] at h
      simp only [cond_false] at h
      have e0 : (ptext 4194304 s (ptext 200 s a 0).2.1 (ptext 200 s a 0).2.2).2.2 = 0 := by simpa using h1
      obtain ⟨q, hq⟩ : ∃ q, q = ptext 4194304 s (ptext 200 s a 0).2.1 (ptext 200 s a 0).2.2 := ⟨_, rfl⟩
      rw [← hq] at h e0
      have le2 : q.2.1 ≤ s.size := by rw [hq]; exact (ptext_le 4194304 s _ _ le1.1).1
      obtain ⟨k1, k2⟩ := ptext_enc (t := q.1) (a' := q.2.1) le1.1 (hq.symm.trans (Prod.ext rfl (Prod.ext rfl e0)))
      obtain ⟨_, k3⟩ := ptext_enc (most := 200) (s := s) (a := a) (e := 0) (t := (ptext 200 s a 0).1) (a' := (ptext 200 s a 0).2.1) ha (Prod.ext rfl (Prod.ext rfl k1))
      cases h2 : (hsplit q.1).2 with
      | false => rw [h2] at h; simp at h
      | true =>
        rw [h2] at h
        simp only [Bool.not_true, cond_false] at h
        obtain ⟨new, f1, f2, f3⟩ := pfiles_enc s n q.2.1 _ fs a' le2 h
        refine ⟨((ptext 200 s a 0).1, (hsplit q.1).1, ()) :: new, by rw [f1, List.append_assoc]; rfl, by simp [f2], ?_⟩
        have he : ends (spd 10 q.1.data.toList) = true := by
          unfold hsplit at h2
          simp only [Bool.and_eq_true] at h2
          exact h2.1
        have ht : htext (hsplit q.1).1 = q.1.data.toList := htext_split _ he
        rw [k3, k2, f3, List.flatMap_cons]
        unfold pkf
        simp only [ht, len_text]
        simp [List.append_assoc]
theorem adj_srt : ∀ {l : List File}, adj l = true → Srt l
  | [], _ => List.Pairwise.nil
  | [x], _ => by simp [Srt]
  | x :: y :: r, h => by
    unfold adj at h
    simp only [Bool.and_eq_true] at h
    have h2 := adj_srt h.2
    have hxy : by_ x.1 < by_ y.1 := of_decide_eq_true h.1
    refine List.pairwise_cons.2 ⟨fun z hz => ?_, h2⟩
    rcases List.mem_cons.1 hz with rfl | hz
    · exact hxy
    · exact l_trans hxy ((List.pairwise_cons.1 h2).1 z hz)
theorem put_end {acc : List File} {f : File} (h : ∀ g ∈ acc, by_ g.1 < by_ f.1) : put acc f = acc ++ [f] := by
  have e1 : pos acc f.1 = acc.length := List.countP_eq_length.2 fun g hg => decide_eq_true (h g hg)
  have e2 : fnd acc f.1 = false := by unfold fnd; rw [e1, List.getElem?_eq_none (Nat.le_refl _)]
  unfold put
  rw [e2, e1]
  simp
theorem frm_srt : ∀ (l acc : List File), Srt (acc ++ l) → (frm l acc).2 = 0 → (frm l acc).1 = acc ++ l
  | [], acc, hs, h => by
    unfold frm at h ⊢
    cases hq : decide (200 < acc.length) with
    | true => rw [hq] at h; cases h
    | false => simp
  | f :: l, acc, hs, h => by
    unfold frm at h ⊢
    cases h1 : (!right f.1 || !linesOk f.2.1) with
    | true => rw [h1] at h; cases h
    | false =>
      rw [h1] at h
      cases h2 : (!decide (rm acc f.1 = 0)) with
      | true =>
        rw [h2] at h
        simp only [cond_true, cond_false] at h
        rw [h] at h2; cases h2
      | false =>
        rw [h2] at h
        simp only [cond_false] at h ⊢
        have hp := put_end (acc := acc) (f := f) fun g hg => (List.pairwise_append.1 hs).2.2 g hg f (by simp)
        rw [hp] at h ⊢
        have := frm_srt l (acc ++ [f]) (by rw [List.append_assoc]; exact hs) h
        rw [this, List.append_assoc]; rfl
theorem unp_pack {s : ByteArray} (h : (unp s).2 = 0) : bmk (pk (unp s).1) = s := by
  have hl := len_text s
  refine text_ext ?_
  rw [list_bmk]
  unfold unp at h ⊢
  by_cases h3 : s.size < 3
  · rw [decide_eq_true h3] at h; cases h
  · rw [decide_eq_false h3] at h ⊢
    simp only [cond_false] at h ⊢
    cases hq : decide (s.extract 0 3 = sign) with
    | false => rw [hq] at h; cases h
    | true =>
      rw [hq] at h
      simp only [Bool.not_true, cond_false] at h ⊢
      obtain ⟨p1, p2, _⟩ := pnum_le s 3 0 (by omega)
      cases he : decide ((pnum s 3 0).2.2 = 0) with
      | false =>
        rw [he] at h
        simp only [Bool.not_false, cond_true] at h
        exact absurd h (of_decide_eq_false he)
      | true =>
        rw [he] at h
        simp only [Bool.not_true, cond_false] at h ⊢
        cases h2 : decide (200 < (pnum s 3 0).1) with
        | true => rw [h2] at h; cases h
        | false =>
          rw [h2] at h
          simp only [cond_false] at h ⊢
          obtain ⟨_, n1, _⟩ := pnum_enc (s := s) (a := 3) (e := 0) (n := (pnum s 3 0).1) (a' := (pnum s 3 0).2.1) (Prod.ext rfl (Prod.ext rfl (of_decide_eq_true he)))
          obtain ⟨q, hqq⟩ : ∃ q, q = pfiles s (pnum s 3 0).1 (pnum s 3 0).2.1 [] := ⟨_, rfl⟩
          rw [← hqq] at h ⊢
          unfold fin_ at h ⊢
          cases e2 : decide (q.2.2 = 0) with
          | false =>
            rw [e2] at h
            simp only [Bool.not_false, cond_true] at h
            exact absurd h (of_decide_eq_false e2)
          | true =>
            rw [e2] at h
            simp only [Bool.not_true, cond_false] at h ⊢
            cases ea : decide (q.2.1 < s.size) with
            | true => rw [ea] at h; cases h
            | false =>
              rw [ea] at h
              simp only [cond_false] at h ⊢
              cases ed : adj q.1 with
              | false => rw [ed] at h; cases h
              | true =>
                rw [ed] at h
                simp only [cond_true] at h ⊢
                obtain ⟨new, f1, f2, f3⟩ := pfiles_enc s (pnum s 3 0).1 (pnum s 3 0).2.1 [] q.1 q.2.1 p1 (hqq.symm.trans (Prod.ext rfl (Prod.ext rfl (of_decide_eq_true e2))))
                rw [List.nil_append] at f1
                have := frm_srt q.1 [] (by rw [List.nil_append]; exact adj_srt ed) h
                rw [List.nil_append] at this
                rw [this, f1]
                unfold pk
                have e3 : s.data.toList.take 3 = [81, 65, 49] := by
                  have := congrArg (fun b : ByteArray => b.data.toList) (of_decide_eq_true hq)
                  simp only [cut_list, List.drop_zero] at this
                  exact this
                have e4 : s.data.toList.drop q.2.1 = [] := List.drop_eq_nil_of_le (by have := of_decide_eq_false ea; omega)
                rw [f2, ← e3, show enc (pnum s 3 0).1 ++ new.flatMap pkf = s.data.toList.drop 3 by rw [n1, f3, e4, List.append_nil], List.take_append_drop]

/-! ### the law -/
theorem awake_ev : quitclaimlaw39_awake.f = some true := by
  refine quitclaimlaw39_awake.in ?_
  rw [pack_ev [] (by simp) (fun f hf => by cases hf), Option.bind_some]
  have : bmk (pk []) = ({ data := { toList := [81, 65, 49, 0] } } : ByteArray) := by
    refine text_ext ?_
    rw [list_bmk]
    show [81, 65, 49] ++ (enc 0 ++ []) = _
    rw [enc]; rfl
  rw [this]
  simp
theorem unp_tr (s : ByteArray) : Tr (unp s).1 ∧ (unp s).1.length ≤ 200 := by
  have key : ∀ (b : Bool) (x y : List File × Int), (Tr x.1 ∧ x.1.length ≤ 200) → (Tr y.1 ∧ y.1.length ≤ 200) → (Tr (bif b then x else y).1 ∧ (bif b then x else y).1.length ≤ 200) := fun b x y hx hy => by cases b; exact hy; exact hx
  have n0 : ∀ e : Int, Tr (([] : List File), e).1 ∧ (([] : List File), e).1.length ≤ 200 := fun e => ⟨Tr.nil, by simp⟩
  unfold unp
  refine key _ _ _ (n0 _) (key _ _ _ (n0 _) (key _ _ _ (n0 _) (key _ _ _ (n0 _) ?_)))
  unfold fin_
  refine key _ _ _ (n0 _) (key _ _ _ (n0 _) (key _ _ _ ?_ (n0 _)))
  have := frm_tr (pfiles s (pnum s 3 0).1 (pnum s 3 0).2.1 []).1 [] Tr.nil
  exact ⟨this.1, this.2.2⟩
theorem htext_len : ∀ {l : List ByteArray} {b : Nat}, (∀ s ∈ l, s.size ≤ b) → (htext l).length ≤ l.length * (b + 1)
  | [], b, _ => by simp [htext]
  | s :: l, b, h => by
    have ih := htext_len (l := l) (b := b) fun t ht => h t (by simp [ht])
    have h1 := h s (by simp)
    have hl := len_text s
    have e : htext (s :: l) = (s.data.toList ++ [10]) ++ htext l := rfl
    rw [e, List.length_append, List.length_append, List.length_singleton, List.length_cons, Nat.succ_mul]
    omega
theorem archiveUnpacks_ev (s : ByteArray) : quitclaimlaw39_ArchiveUnpacks.f s = some true := by
  refine quitclaimlaw39_ArchiveUnpacks.in _ ?_
  by_cases h : s.size > 2000
  · rw [decide_eq_true (show (s.size : Int) > 2000 by omega), if_pos rfl, awake_ev]; rfl
  · rw [decide_eq_false (show ¬ (s.size : Int) > 2000 by omega), if_neg (by decide), unpack_ev s (by omega), Option.bind_some, runpack_ev s (by omega), Option.bind_some]
    obtain ⟨T, hT⟩ := unp_tr s
    have hf : ∀ f ∈ (unp s).1, f.2.1.length ≤ 1000000 := fun f hf => by have := (linesOk_len (T.lines f hf)).1; omega
    simp only [decide_true, Bool.not_true, Bool.not_false, gdT]
    rw [plain_ev _ (by omega) hf, Option.bind_some, fsame_ev _ _ (by omega) (by omega) hf hf, Option.bind_some, decide_eq_true rfl]
    simp only [Bool.not_true, Bool.or_false, Bool.false_eq_true, if_false]
    cases hz : decide ((unp s).2 = 0) with
    | false =>
      simp only [Bool.not_false, Bool.not_true, gdF, Option.bind_some, Bool.true_or, gdT, awake_ev, Bool.true_and]
    | true =>
      have hp := pack_ev (unp s).1 (by omega) fun f hf' => by
        have h1 := right_size (T.good f hf')
        obtain ⟨h2, h3⟩ := linesOk_len (T.lines f hf')
        have h4 := htext_len h3
        have h5 : f.2.1.length * (200 + 1) ≤ 1000 * 201 := Nat.mul_le_mul h2 (by omega)
        exact ⟨by omega, by omega, by omega, fun t ht => by have := h3 t ht; omega⟩
      simp only [Bool.not_true, Bool.not_false, gdT, Bool.false_or]
      rw [hp, Option.bind_some, unp_pack (of_decide_eq_true hz), decide_eq_true rfl, gdT, awake_ev]
      rfl
end Go.Proofs.YtmjkflppajienaaDoor.R.Pu
namespace Go.Proofs.YtmjkflppajienaaDoor.R
open Go
theorem Pure.archiveUnpacks (l0 : ByteArray) (_ : okT .s l0) : quitclaimlaw39_ArchiveUnpacks.f l0 = some true := Pu.archiveUnpacks_ev l0
end Go.Proofs.YtmjkflppajienaaDoor.R
