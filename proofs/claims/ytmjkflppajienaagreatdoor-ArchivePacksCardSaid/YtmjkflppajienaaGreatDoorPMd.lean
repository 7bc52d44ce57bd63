/- Plain laws of what the walks answer (texts joined: PureArchivePacks); no condition but the typed premises. -/
import Derived.Test.YtmjkflppajienaaGreatDoorPMc
namespace Go.Proofs.YtmjkflppajienaaGreatDoor.R.Pu
open Go Go.RowKit
set_option linter.unusedVariables false
set_option linter.unusedSimpArgs false

/-! ### the reference's bytes -/
theorem rnum_enc : ∀ n : Nat, n ≤ 1000000000 → quitclaimref05_Num.f (n : Int) = some (bmk (enc n)) := by
  intro n
  induction n using Nat.strongRecOn with
  | _ n ih =>
    intro h
    refine quitclaimref05_Num.in _ ?_
    rw [enc]
    by_cases hn : n < 128
    · have e : (UInt8.ofNat n).toNat = n := by simp; omega
      have e2 : [IntKind.u8.wrap (n : Int)] = ib [UInt8.ofNat n] := by
        rw [wu8 (by omega) (by omega)]
        unfold ib
        rw [List.map_singleton, e]
      rw [decide_eq_true (show (n : Int) < 128 by omega), if_pos rfl, dif_pos hn, e2, bstr_ib]
    · have e : (UInt8.ofNat (n % 128 + 128)).toNat = n % 128 + 128 := by simp; omega
      have e1 : Int.tdiv (n : Int) 128 = ((n / 128 : Nat) : Int) := rfl
      have e2 : Int.tmod (n : Int) 128 = ((n % 128 : Nat) : Int) := rfl
      have hl := enc_len (n / 128) (by omega)
      rw [decide_eq_false (show ¬ (n : Int) < 128 by omega), if_neg (by decide), dif_neg hn, e1, e2, w_ (by omega) (by omega), ih (n / 128) (by omega) (by omega), Option.bind_some]
      have e3 : [IntKind.u8.wrap (w64 (((n % 128 : Nat) : Int) + 128))] = ib [UInt8.ofNat (n % 128 + 128)] := by
        rw [w_ (by omega) (by omega), wu8 (by omega) (by omega)]
        unfold ib
        rw [List.map_singleton, e]; rfl
      rw [e3, bstr_ib, cat_ (by rw [size_bmk, size_bmk, List.length_singleton]; omega), Option.bind_some, bmk_app]
      rfl
theorem rtxt_enc (s : ByteArray) (h : s.size ≤ 1000000000) : quitclaimref05_Text.f s = some (bmk (enc s.size ++ s.data.toList)) := by
  refine quitclaimref05_Text.in _ ?_
  have hl := enc_len s.size (by omega)
  rw [rnum_enc s.size h, Option.bind_some, cat_ (by rw [size_bmk]; omega), Option.bind_some]
  rw [← bmk_app, bmk_list]
theorem rtext_ht (l : List ByteArray) (h : linesOk l = true) : quitclaimref11_Text.f l = some (bmk (htext l)) := by
  obtain ⟨z1, z2⟩ := linesOk_len h
  refine quitclaimref11_Text.in _ ?_
  refine (wh_list l (fun i (x : ByteArray) => (l, x, i, ())) (fun i x => x.size ≤ i * 201) (fun y x => x ++ bmk (htext y)) (fun x r hI => ?_) (fun i x r hi hI hr => ?_) ⟨⟨[]⟩⟩ (by decide)).trans ?_
  · simp (disch := omega) only [decide_eq_true_eq, if_neg]
    exact congrArg some (text_ext (by rw [app_list, list_bmk]; exact (List.append_nil _).symm))
  · have hz := z2 _ (List.getElem_mem hi)
    have s1 : (⟨⟨[10]⟩⟩ : ByteArray).size = 1 := rfl
    simp (disch := omega) only [decide_eq_true_eq, if_pos, ix_, Option.bind_some, wS]
    rw [cat_ (by rw [s1]; omega), Option.bind_some, cat_ (by rw [size_app, s1]; omega), Option.bind_some]
    refine (hr _ (by rw [size_app, size_app, s1]; omega)).trans ?_
    rw [show htext (l[i] :: l.drop (i + 1)) = (l[i].data.toList ++ [10]) ++ htext (l.drop (i + 1)) from rfl]
    congr 1
    refine text_ext ?_
    simp only [app_list, list_bmk, List.append_assoc]
  · congr 1
theorem pkf_len {f : File} (h1 : right f.1 = true) (h2 : linesOk f.2.1 = true) : (pkf f).length ≤ 202000 := by
  have a := right_size h1
  have b := htext_len h2
  have c := enc_len f.1.size (by omega)
  have d := enc_len (htext f.2.1).length (by omega)
  have e := len_text f.1
  unfold pkf
  simp only [List.length_append]
  omega
theorem rpack_ev (l : List File) (T : Tr l) (hl : l.length ≤ 200) : quitclaimref39_Pack.f l = some (bmk (pk l)) := by
  refine quitclaimref39_Pack.in _ ?_
  have hel := enc_len l.length (by omega)
  have s3 : (⟨⟨[81, 65, 49]⟩⟩ : ByteArray).size = 3 := rfl
  rw [rnum_enc l.length (by omega), Option.bind_some, cat_ (by rw [s3, size_bmk]; omega), Option.bind_some]
  refine (wh_list l (fun i (x : ByteArray) => (l, x, i, ())) (fun i x => x.size ≤ 100 + i * 202000) (fun y x => x ++ bmk (y.flatMap pkf)) (fun x r hI => ?_) (fun i x r hi hI hr => ?_) _ (by rw [size_app, s3, size_bmk]; omega)).trans ?_
  · simp (disch := omega) only [decide_eq_true_eq, if_neg]
    exact congrArg some (text_ext (by rw [app_list, list_bmk]; exact (List.append_nil _).symm))
  · have h1 := T.good _ (List.getElem_mem hi)
    have h2 := T.lines _ (List.getElem_mem hi)
    have h3 := right_size h1
    have h4 := htext_len h2
    have h5 := pkf_len h1 h2
    have h6 : pkf l[i] = (enc l[i].1.size ++ l[i].1.data.toList) ++ (enc (bmk (htext l[i].2.1)).size ++ (bmk (htext l[i].2.1)).data.toList) := by unfold pkf; rw [size_bmk, list_bmk]
    have h7 := congrArg List.length h6
    simp only [List.length_append, size_bmk] at h7
    simp (disch := omega) only [decide_eq_true_eq, if_pos, ix_, Option.bind_some, wS]
    rw [rtxt_enc l[i].1 (by omega), Option.bind_some, rtext_ht _ h2, Option.bind_some, rtxt_enc _ (by rw [size_bmk]; omega), Option.bind_some, cat_ (by simp only [size_bmk, List.length_append]; omega), Option.bind_some, bmk_app, ← h6, cat_ (by rw [size_bmk]; omega), Option.bind_some]
    refine (hr _ (by rw [size_app, size_bmk]; omega)).trans ?_
    rw [List.flatMap_cons]
    congr 1
    refine text_ext ?_
    simp only [app_list, list_bmk, List.append_assoc]
  · congr 1

/-! ### sizes -/
def sl : List File → Nat
  | [] => 0
  | f :: l => f.2.1.length + sl l
def sb : List File → Nat
  | [] => 0
  | f :: l => (htext f.2.1).length + sb l
theorem size_ev (l : List File) (T : Tr l) (hl : l.length ≤ 200) : archive_Size.f (l, ()) = some ((l.length : Int), (sl l : Int), (sb l : Int), ()) := by
  have hL := fun f hf => linesOk_len (T.lines f hf)
  refine archive_Size.in _ ?_
  rw [files_ev l (by omega) (fun f hf => by have := (hL f hf).1; omega), Option.bind_some]
  refine (wh_list l (fun i (p : Nat × Nat × Nat) => (((p.1 : Int), (p.2.1 : Int), (p.2.2 : Int), l, (l.length : Int), i, ()), (l, ()), ())) (fun i p => p.1 ≤ i ∧ p.2.1 ≤ i * 1000 ∧ p.2.2 ≤ i * 201000) (fun y p => (((p.1 + y.length : Nat) : Int), ((p.2.1 + sl y : Nat) : Int), ((p.2.2 + sb y : Nat) : Int), ())) (fun p r hI => ?_) (fun i p r hi hI hr => ?_) (0, 0, 0) (by simp)).trans ?_
  · simp (disch := omega) only [decide_eq_true_eq, if_neg]
    rfl
  · obtain ⟨a, b, c⟩ := p
    obtain ⟨h1, h2, h3⟩ := hI
    simp only at h1 h2 h3
    obtain ⟨z1, z2⟩ := hL _ (List.getElem_mem hi)
    have h4 := htext_len (T.lines _ (List.getElem_mem hi))
    simp (disch := omega) only [decide_eq_true_eq, if_pos, ix_, Option.bind_some, wS]
    rw [hunk_Text_ev _ (by omega) (fun s hs => by have := z2 s hs; omega), Option.bind_some, size_bmk]
    have e2 : w64 ((b : Int) + (l[i].2.1.length : Int)) = ((b + l[i].2.1.length : Nat) : Int) := by rw [w_ (by omega) (by omega)]; rfl
    have e3 : w64 ((c : Int) + ((htext l[i].2.1).length : Int)) = ((c + (htext l[i].2.1).length : Nat) : Int) := by rw [w_ (by omega) (by omega)]; rfl
    rw [e2, e3]
    refine (hr (a + 1, b + l[i].2.1.length, c + (htext l[i].2.1).length) ⟨by omega, by simp only; omega, by simp only; omega⟩).trans ?_
    simp only [List.length_cons, sl, sb]
    congr 2
    · omega
    · congr 1
      · omega
      · congr 1
        omega
  · simp
theorem fs1_ev (a b : File) (h1 : a.2.1.length ≤ 1000000) (h2 : b.2.1.length ≤ 1000000) : tree_Same_1.f a b = some (decide (a.1 = b.1) && decide (a.2.1 = b.2.1)) := by
  refine tree_Same_1.in _ _ ?_
  rw [equal_ev _ _ (by omega) (by omega)]
  cases decide (a.1 = b.1) <;> rfl
theorem tsame_refl (l : List File) (hl : l.length ≤ 200) (hf : ∀ f ∈ l, f.2.1.length ≤ 1000) : tree_Same.f (l, ()) (l, ()) = some true := by
  refine tree_Same.in _ _ ?_
  have : slices_EqualFunc_tree_File_tree_File_tree_File_tree_File_tree_Same_1.f l l = some true := by
    refine slices_EqualFunc_tree_File_tree_File_tree_File_tree_File_tree_Same_1.in _ _ ?_
    rw [decide_eq_true rfl, if_neg (by decide)]
    refine (wh_list l (fun i (_ : Unit) => (l, (), l, (l.length : Int), i, ())) (fun _ _ => True) (fun _ _ => true) (fun _ r _ => ?_) (fun i _ r hi _ hr => ?_) () trivial).trans rfl
    · simp (disch := omega) only [decide_eq_true_eq, if_neg]
    · have hz := hf _ (List.getElem_mem hi)
      simp (disch := omega) only [decide_eq_true_eq, if_pos, ix_, Option.bind_some, wS]
      rw [fs1_ev _ _ (by omega) (by omega), Option.bind_some, decide_eq_true rfl, decide_eq_true rfl]
      exact hr () trivial
  rw [this]; rfl

/-! ### few -/
def big (l : List ByteArray) : Bool := l.any fun s => decide (300 < s.size)
def lng (o : Op) : Bool := bif decide (300 < o.2.1.size) || decide (300 < o.2.2.1.size) || decide (40 < o.2.2.2.2.1.length) || decide (40 < o.2.2.2.2.2.1.length) then true else [o.2.2.2.2.1, o.2.2.2.2.2.1].any big
theorem long_ev (o : Op) : quitclaimref13_Long.f o = some (lng o) := by
  refine quitclaimref13_Long.in _ ?_
  have e : ∀ n k : Nat, decide ((n : Int) > (k : Int)) = decide (k < n) := fun n k => by rw [decide_eq_decide]; omega
  rw [show (300 : Int) = ((300 : Nat) : Int) from rfl, show (40 : Int) = ((40 : Nat) : Int) from rfl, e, e, e, e]
  unfold lng
  cases hc : decide (300 < o.2.1.size) || decide (300 < o.2.2.1.size) || decide (40 < o.2.2.2.2.1.length) || decide (40 < o.2.2.2.2.2.1.length) with
  | true => rfl
  | false =>
    simp only [Bool.or_eq_false_iff, decide_eq_false_iff_not] at hc
    rw [if_neg (by decide)]
    refine (wh_list [o.2.2.2.2.1, o.2.2.2.2.2.1] (fun i (_ : Unit) => (([o.2.2.2.2.1, o.2.2.2.2.2.1], (([o.2.2.2.2.1, o.2.2.2.2.2.1] : List (List ByteArray)).length : Int), i, ()), o, ())) (fun _ _ => True) (fun y _ => y.any big) (fun _ r _ => ?_) (fun i _ r hi _ hr => ?_) () trivial).trans rfl
    · simp (disch := omega) only [decide_eq_true_eq, if_neg]
      rfl
    · simp (disch := omega) only [decide_eq_true_eq, if_pos, ix_, Option.bind_some]
      have hz : [o.2.2.2.2.1, o.2.2.2.2.2.1][i].length ≤ 40 := by
        have hm := List.getElem_mem hi
        rcases List.mem_cons.1 hm with h | h
        · rw [h]; omega
        · rw [List.mem_singleton] at h; rw [h]; omega
      generalize [o.2.2.2.2.1, o.2.2.2.2.2.1][i] = x at *
      refine (wh_list x (fun j (_ : Unit) => (([o.2.2.2.2.1, o.2.2.2.2.2.1], (([o.2.2.2.2.1, o.2.2.2.2.2.1] : List (List ByteArray)).length : Int), (i : Int), x, (x.length : Int), j, ()), o, ())) (fun _ _ => True) (fun y _ => big y || ([o.2.2.2.2.1, o.2.2.2.2.2.1].drop (i + 1)).any big) (fun _ r' _ => ?_) (fun j _ r' hj _ hr' => ?_) () trivial).trans rfl
      · simp (disch := omega) only [decide_eq_true_eq, if_neg]
        rw [wS (show i < 9223372036854775807 by have h2 : i < 2 := hi; omega)]
        exact hr () trivial
      · simp (disch := omega) only [decide_eq_true_eq, if_pos, ix_, Option.bind_some, wS]
        have hb : big (x[j] :: x.drop (j + 1)) = (decide (300 < x[j].size) || big (x.drop (j + 1))) := List.any_cons
        rw [hb]
        by_cases h3 : 300 < x[j].size
        · rw [if_pos (by omega), decide_eq_true h3]; rfl
        · rw [if_neg (by omega), decide_eq_false h3, Bool.false_or]
          exact hr' () trivial
theorem sh_of {o : Op} (h : lng o = false) : Sh1 o := by
  unfold lng at h
  cases hc : decide (300 < o.2.1.size) || decide (300 < o.2.2.1.size) || decide (40 < o.2.2.2.2.1.length) || decide (40 < o.2.2.2.2.2.1.length) with
  | true => rw [hc] at h; cases h
  | false =>
    rw [hc] at h
    simp only [Bool.or_eq_false_iff, decide_eq_false_iff_not] at hc
    simp only [cond_false, List.any_cons, List.any_nil, Bool.or_false, Bool.or_eq_false_iff] at h
    have k : ∀ l : List ByteArray, big l = false → ∀ s ∈ l, s.size ≤ 300 := fun l hl s hs => by
      have := List.any_eq_false.1 hl s hs
      simpa using this
    exact ⟨by omega, by omega, by omega, by omega, k _ h.1, k _ h.2⟩
theorem few_ev (l : List Op) (h : l.length ≤ 9223372036854775807) : quitclaimlaw39_few.f l = some (!(l.any lng) && decide (l.length ≤ 12)) := by
  refine quitclaimlaw39_few.in _ ?_
  refine (wh_list l (fun i (_ : Unit) => (l, l, (l.length : Int), i, ())) (fun _ _ => True) (fun y _ => !(y.any lng) && decide (l.length ≤ 12)) (fun _ r _ => ?_) (fun i _ r hi _ hr => ?_) () trivial).trans rfl
  · simp (disch := omega) only [decide_eq_true_eq, if_neg]
    rw [List.any_nil, Bool.not_false, Bool.true_and]
    congr 1
    rw [decide_eq_decide]; omega
  · simp (disch := omega) only [decide_eq_true_eq, if_pos, ix_, Option.bind_some, wS, long_ev]
    rw [List.any_cons]
    cases lng l[i] with
    | true => rfl
    | false => exact hr () trivial
end Go.Proofs.YtmjkflppajienaaGreatDoor.R.Pu
namespace Go.Proofs.YtmjkflppajienaaGreatDoor.R.Pure
open Go Go.RowKit Pu
set_option linter.unusedVariables false
set_option linter.unusedSimpArgs false
theorem archivePacks (l : List Pu.Op) {Q : Prop} (y : List.length l ≤ maxLen ∧ Q) : quitclaimlaw39_ArchivePacks.f l = some true := by
  refine quitclaimlaw39_ArchivePacks.in _ ?_
  have hl : l.length ≤ 9223372036854775807 := by have := y.1; unfold maxLen at this; omega
  rw [few_ev l hl, Option.bind_some]
  cases hf : !(l.any lng) && decide (l.length ≤ 12) with
  | false => rw [if_pos (show (!false) = true from rfl), awake_ev]; rfl
  | true =>
    simp only [Bool.and_eq_true, Bool.not_eq_true', decide_eq_true_eq] at hf
    have hs : ∀ o ∈ l, Sh1 o := fun o ho => sh_of (by have := List.any_eq_false.1 hf.1 o ho; simpa using this)
    have T0 := alls_tr Tr.nil (by simp) l 0 [] Tr.nil (by simp)
    have F := alls_far Far.nil l 0 [] Far.nil
    rw [if_neg (by decide), all_ev [] l Tr.nil (by simp) (by omega) hs, Option.bind_some, rall_ev [] l Tr.nil (by simp) (by omega) hs, Option.bind_some]
    simp only []
    generalize alls [] l 0 [] = res at *
    obtain ⟨t, a, e⟩ := res
    simp only at T0 F ⊢
    obtain ⟨T, ht⟩ := T0
    have hL := fun f hf => linesOk_len (T.lines f hf)
    have hpk : (pk t).length ≤ 100000000 := by
      have key : ∀ r : List File, (∀ f ∈ r, (pkf f).length ≤ 202000) → (r.flatMap pkf).length ≤ r.length * 202000 := by
        intro r
        induction r with
        | nil => intro _; simp
        | cons f r ih =>
          intro h
          have h1 := h f (by simp)
          have h2 := ih fun g hg => h g (by simp [hg])
          rw [List.flatMap_cons, List.length_append, List.length_cons]; omega
      have h1 := key t fun f hf => pkf_len (T.good f hf) (T.lines f hf)
      have h2 := enc_len t.length (by omega)
      unfold pk
      simp only [List.length_append, List.length_cons, List.length_nil]
      omega
    rw [pack_ev t (by omega) (fun f hf => ⟨by have := right_size (T.good f hf); omega, by have := htext_len (T.lines f hf); omega, by have := (hL f hf).1; omega, fun s hs => by have := (hL f hf).2 s hs; omega⟩), Option.bind_some, lines_ev t T (by omega), Option.bind_some, unpack_ev _ (by rw [size_bmk]; exact hpk), unp_pk T F ht, Option.bind_some, read_lns T F ht, Option.bind_some, size_ev t T ht, Option.bind_some]
    simp only []
    refine (wh_list t (fun i (p : Nat × Nat) => (((), t, bmk (pk t), Pu.lns t, (), 0, (), 0, (t.length : Int), (sl t : Int), (sb t : Int), (p.1 : Int), (p.2 : Int), t, (t.length : Int), i, ()), (t, ()), (t, ()), (t, ()), ())) (fun i p => p.1 ≤ i * 1000 ∧ p.2 ≤ i * 201000 ∧ p.1 + sl (t.drop i) = sl t ∧ p.2 + sb (t.drop i) = sb t) (fun _ _ => true) (fun p r hI => ?_) (fun i p r hi hI hr => ?_) (0, 0) (by simp)).trans rfl
    · obtain ⟨a1, a2⟩ := p
      obtain ⟨_, _, h1, h2⟩ := hI
      rw [List.drop_length] at h1 h2
      simp only [sl, sb, Nat.add_zero] at h1 h2
      subst h1 h2
      have hn := lns_len t fun f hf => (hL f hf).1
      simp only []
      rw [decide_eq_false (show ¬ (t.length : Int) < (t.length : Int) by omega), if_neg (by decide), rpack_ev t T ht, Option.bind_some, rlin_ev t T (by omega), tsame_refl t ht fun f hf => (hL f hf).1, awake_ev]
      have hsm := same_ev (Pu.lns t) (Pu.lns t) (by omega) (by omega)
      rw [decide_eq_true rfl] at hsm
      simp only [decide_true, gdT, Option.bind_some, Bool.and_true, Bool.true_and, hsm]
    · obtain ⟨a1, a2⟩ := p
      obtain ⟨g1, g2, h1, h2⟩ := hI
      simp only at g1 g2 h1 h2
      rw [List.drop_eq_getElem_cons hi] at h1 h2
      simp only [sl, sb] at h1 h2
      have z := (hL _ (List.getElem_mem hi)).1
      have h4 := htext_len (T.lines _ (List.getElem_mem hi))
      simp (disch := omega) only [decide_eq_true_eq, if_pos, ix_, Option.bind_some, wS]
      rw [rtext_ht _ (T.lines _ (List.getElem_mem hi)), Option.bind_some, size_bmk]
      have e2 : w64 ((a1 : Int) + (t[i].2.1.length : Int)) = ((a1 + t[i].2.1.length : Nat) : Int) := by rw [w_ (by omega) (by omega)]; rfl
      have e3 : w64 ((a2 : Int) + ((htext t[i].2.1).length : Int)) = ((a2 + (htext t[i].2.1).length : Nat) : Int) := by rw [w_ (by omega) (by omega)]; rfl
      rw [e2, e3]
      exact hr (a1 + t[i].2.1.length, a2 + (htext t[i].2.1).length) ⟨by simp only; omega, by simp only; omega, by simp only; omega, by simp only; omega⟩
end Go.Proofs.YtmjkflppajienaaGreatDoor.R.Pure
