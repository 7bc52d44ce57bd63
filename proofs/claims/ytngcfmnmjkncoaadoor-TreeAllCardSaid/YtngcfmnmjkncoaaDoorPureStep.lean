/- Trees: one operation, by the code and by the reference; no condition. -/
import Derived.Test.YtngcfmnmjkncoaaDoorPureTree
namespace Go.Proofs.YtngcfmnmjkncoaaDoor.PureT
open Go Go.RowKit Go.Proofs.YtngcfmnmjkncoaaDoor.Q Go.Proofs.YtngcfmnmjkncoaaDoor.Pu
open Go.Proofs.YtngcfmnmjkncoaaDoor.PureO (O wr_ hk)
set_option linter.unusedVariables false

/-! ### places -/
theorem mem_take_lt {l : List File} {s : ByteArray} (hs : Srt l) {g : File} (h : g ∈ l.take (pos l s)) : by_ g.f0_Path < by_ s := by
  obtain ⟨i, hi, rfl⟩ := List.mem_iff_getElem.1 h
  rw [List.length_take] at hi
  rw [List.getElem_take]
  exact (pos_lt s hs (by omega)).2 (by omega)
theorem mem_drop_gt {l : List File} {s : ByteArray} (hs : Srt l) {g : File} (h : g ∈ l.drop (pos l s + if fnd l s = true then 1 else 0)) : by_ s < by_ g.f0_Path := by
  obtain ⟨i, hi, rfl⟩ := List.mem_iff_getElem.1 h
  rw [List.length_drop] at hi
  rw [List.getElem_drop]
  have hlt : (pos l s + if fnd l s = true then 1 else 0) + i < l.length := by omega
  have h1 : ¬ by_ l[(pos l s + if fnd l s = true then 1 else 0) + i].f0_Path < by_ s := fun h => by have := (pos_lt s hs hlt).1 h; omega
  rcases l_cases (by_ s) (by_ l[(pos l s + if fnd l s = true then 1 else 0) + i].f0_Path) with h | h | h
  · exact h
  · obtain ⟨e, hf⟩ := fnd_at hs hlt (by_inj.1 h).symm
    rw [hf, if_pos rfl] at e
    omega
  · exact absurd h h1
theorem srt_put {l : List File} {f : File} (hs : Srt l) : Srt (put l f) := by
  unfold put Srt
  rw [List.pairwise_append, List.pairwise_cons]
  refine ⟨hs.sublist (List.take_sublist _ _), ⟨fun g hg => mem_drop_gt hs hg, hs.sublist (List.drop_sublist _ _)⟩, fun a ha b hb => ?_⟩
  have h1 := mem_take_lt hs ha
  rcases List.mem_cons.1 hb with rfl | hb
  · exact h1
  · exact l_trans h1 (mem_drop_gt hs hb)
theorem srt_del {l : List File} {s : ByteArray} (hs : Srt l) : Srt (del l s) := by
  unfold del
  split
  · unfold Srt
    rw [← List.eraseIdx_eq_take_drop_succ]
    exact hs.sublist (List.eraseIdx_sublist _ _)
  · exact hs
theorem mem_put {l : List File} {f g : File} (h : g ∈ put l f) : g = f ∨ g ∈ l := by
  unfold put at h
  rcases List.mem_append.1 h with h | h
  · exact .inr (List.mem_of_mem_take h)
  · rcases List.mem_cons.1 h with h | h
    · exact .inl h
    · exact .inr (List.mem_of_mem_drop h)
theorem mem_del {l : List File} {s : ByteArray} {g : File} (h : g ∈ del l s) : g ∈ l := by
  unfold del at h
  split at h
  · rcases List.mem_append.1 h with h | h
    · exact List.mem_of_mem_take h
    · exact List.mem_of_mem_drop h
  · exact h
theorem put_len {l : List File} {f : File} : (put l f).length ≤ l.length + 1 := by
  have := pos_le l f.f0_Path
  unfold put
  rw [List.length_append, List.length_take, List.length_cons, List.length_drop]
  omega
theorem del_len {l : List File} {s : ByteArray} : (del l s).length ≤ l.length := by
  unfold del
  split
  · rw [List.length_append, List.length_take, List.length_drop]; omega
  · exact Nat.le_refl _
theorem pos_split {a b : List File} {s : ByteArray} (ha : ∀ g ∈ a, by_ g.f0_Path < by_ s) (hb : ∀ g ∈ b, ¬ by_ g.f0_Path < by_ s) : pos (a ++ b) s = a.length := by
  unfold pos
  rw [List.countP_append, List.countP_eq_length.2 (fun g hg => by simp [lts, ha g hg]), List.countP_eq_zero.2 (fun g hg => by simp [lts, hb g hg]), Nat.add_zero]
theorem fnd_iff {l : List File} {s : ByteArray} (hs : Srt l) : fnd l s = true ↔ ∃ g ∈ l, g.f0_Path = s := by
  constructor
  · intro h
    obtain ⟨hp, e⟩ := fnd_true h
    exact ⟨_, List.getElem_mem hp, e⟩
  · rintro ⟨g, hg, e⟩
    obtain ⟨i, hi, rfl⟩ := List.mem_iff_getElem.1 hg
    exact (fnd_at hs hi e).2
theorem fnd_del {l : List File} {s t : ByteArray} (hs : Srt l) (hn : s ≠ t) : fnd (del l s) t = fnd l t := by
  rw [Bool.eq_iff_iff, fnd_iff (srt_del hs), fnd_iff hs]
  constructor
  · rintro ⟨g, hg, e⟩; exact ⟨g, mem_del hg, e⟩
  · rintro ⟨g, hg, e⟩
    refine ⟨g, ?_, e⟩
    unfold del
    cases hf : fnd l s with
    | false => rw [if_neg (by decide)]; exact hg
    | true =>
      rw [if_pos rfl]
      obtain ⟨hp, e2⟩ := fnd_true hf
      obtain ⟨i, hi, rfl⟩ := List.mem_iff_getElem.1 hg
      rcases Nat.lt_trichotomy i (pos l s) with h | h | h
      · exact List.mem_append_left _ (List.mem_take_iff_getElem.2 ⟨i, by omega, rfl⟩)
      · subst h; exact absurd (e2.symm.trans e) hn
      · refine List.mem_append_right _ (List.mem_drop_iff_getElem.2 ⟨i - (pos l s + 1), by omega, ?_⟩)
        congr 1; omega
theorem pos_del {l : List File} {s : ByteArray} (hs : Srt l) (hf : fnd l s = true) : pos (del l s) s = pos l s ∧ fnd (del l s) s = false := by
  obtain ⟨hp, e⟩ := fnd_true hf
  have hd : del l s = l.take (pos l s) ++ l.drop (pos l s + 1) := by unfold del; rw [if_pos hf]
  have h1 : pos (del l s) s = pos l s := by
    rw [hd, pos_split (fun g hg => mem_take_lt hs hg) (fun g hg h => by
      have := mem_drop_gt (g := g) hs (by rw [hf, if_pos rfl]; exact hg)
      exact l_irrefl _ (l_trans h this)), List.length_take]
    omega
  refine ⟨h1, ?_⟩
  cases hx : fnd (del l s) s with
  | false => rfl
  | true =>
    obtain ⟨g, hg, e3⟩ := (fnd_iff (srt_del hs)).1 hx
    rw [hd] at hg
    rcases List.mem_append.1 hg with hg | hg
    · have := mem_take_lt hs hg; rw [e3] at this; exact absurd this (l_irrefl _)
    · have := mem_drop_gt (g := g) hs (by rw [hf, if_pos rfl]; exact hg); rw [e3] at this; exact absurd this (l_irrefl _)
theorem put_del {l : List File} {f : File} (hs : Srt l) (hf : fnd l f.f0_Path = true) : put (del l f.f0_Path) f = put l f := by
  obtain ⟨h1, h2⟩ := pos_del hs hf
  have hp := (fnd_true hf).1
  unfold put
  rw [h1, h2, hf, if_neg (by decide), if_pos rfl, Nat.add_zero]
  have hd : del l f.f0_Path = l.take (pos l f.f0_Path) ++ l.drop (pos l f.f0_Path + 1) := by unfold del; rw [if_pos hf]
  rw [hd]
  have hl : (l.take (pos l f.f0_Path)).length = pos l f.f0_Path := by rw [List.length_take]; omega
  rw [List.take_left' hl, List.drop_left' hl]

/-! ### one operation -/
/-- What a tree is. -/
structure Tr (l : List File) : Prop where
  srt : Srt l
  good : Good l
  len : l.length ≤ 200
  lines : ∀ f ∈ l, f.f1_Lines.length ≤ 1000 ∧ PureS.sm f.f1_Lines
def lns (l : List File) (s : ByteArray) : List ByteArray := match l[pos l s]? with
  | some f => f.f1_Lines
  | none => []
open Classical in
noncomputable def st (l : List File) (o : O) : List File × Int :=
  if wr_ o = 0 then
    if o.f0_Kind > 4 then (l, 0)
    else if o.f0_Kind = 1 then (if rm l o.f1_Path = 0 then (if l.length ≥ 200 then ([], 14) else (put l ⟨o.f1_Path, []⟩, 0)) else ([], rm l o.f1_Path))
    else if fnd l o.f1_Path = true then
      if o.f0_Kind = 2 then (if lns l o.f1_Path = o.f4_Old then (del l o.f1_Path, 0) else ([], 12))
      else if o.f0_Kind = 3 then (if (PureS.ap (lns l o.f1_Path) (hk o)).2 = 0 then (put l ⟨o.f1_Path, (PureS.ap (lns l o.f1_Path) (hk o)).1⟩, 0) else ([], (PureS.ap (lns l o.f1_Path) (hk o)).2))
      else (if rm (del l o.f1_Path) o.f2_To = 0 then (put (del l o.f1_Path) ⟨o.f2_To, lns l o.f1_Path⟩, 0) else ([], rm (del l o.f1_Path) o.f2_To))
    else ([], 6)
  else ([], wr_ o)

theorem fm_path {o : O} (hw : wr_ o = 0) (h1 : 1 ≤ o.f0_Kind) (h4 : o.f0_Kind ≤ 4) : PureP.right o.f1_Path = true := by
  rw [PureO.wr_fin h1 (by omega)] at hw
  unfold PureO.fin at hw
  have hf : PureO.fm o = true := by
    cases hf : PureO.fm o with
    | true => rfl
    | false => rw [hf, if_neg (by decide)] at hw; cases hw
  unfold PureO.fm at hf
  by_cases k1 : o.f0_Kind = 1
  · rw [if_pos k1, Bool.and_eq_true] at hf; exact hf.1
  rw [if_neg k1] at hf
  by_cases k2 : o.f0_Kind = 2
  · rw [if_pos k2, Bool.and_eq_true, Bool.and_eq_true] at hf; exact hf.1.1
  rw [if_neg k2] at hf
  by_cases k3 : o.f0_Kind = 3
  · rw [if_pos k3, Bool.and_eq_true, Bool.and_eq_true] at hf; exact hf.1.1
  rw [if_neg k3, if_pos (by omega), Bool.and_eq_true, Bool.and_eq_true, Bool.and_eq_true] at hf
  exact hf.1.1.1
theorem fm_to {o : O} (hw : wr_ o = 0) (h4 : o.f0_Kind = 4) : PureP.right o.f2_To = true ∧ o.f1_Path ≠ o.f2_To := by
  rw [PureO.wr_fin (by omega) (by omega)] at hw
  unfold PureO.fin at hw
  have hf : PureO.fm o = true := by
    cases hf : PureO.fm o with
    | true => rfl
    | false => rw [hf, if_neg (by decide)] at hw; cases hw
  unfold PureO.fm at hf
  rw [if_neg (by omega), if_neg (by omega), if_neg (by omega), if_pos h4, Bool.and_eq_true, Bool.and_eq_true, Bool.and_eq_true] at hf
  refine ⟨hf.1.1.2, fun e => ?_⟩
  have := hf.1.2
  rw [decide_eq_true e] at this
  cases this
theorem wr_range {o : O} (hw : wr_ o = 0) : 1 ≤ o.f0_Kind ∧ o.f0_Kind ≤ 6 := by
  unfold wr_ at hw
  by_cases hb : (decide (o.f0_Kind < 1) || decide (o.f0_Kind > 6)) = true
  · rw [if_pos hb] at hw; cases hw
  · simp only [Bool.or_eq_true, decide_eq_true_eq] at hb; omega
/-- The end of Tree.Apply. -/
theorem j_ev (x6 : Int) (x7 : S_files) : Ev (fun _ => (if (!decide (x6 = 0)) = true then some ((⟨[]⟩ : S_files), x6) else some (x7, 0))) (if x6 = 0 then (x7, 0) else (⟨[]⟩, x6)) := by
  by_cases h : x6 = 0
  · exact Ev.to (Ev.neg (by simp [h]) (Ev.const (x7, 0))) (by rw [if_pos h])
  · exact Ev.to (Ev.pos (by simp [h]) (Ev.const ((⟨[]⟩ : S_files), x6))) (by rw [if_neg h])
theorem create_ev (l : List File) (s : ByteArray) (T : Tr l) (hr : PureP.right s = true) : Ev (fun k => tree_Tree_create.f k ⟨l⟩ s) (if rm l s = 0 then (if l.length ≥ 200 then ((⟨l⟩ : S_files), 14) else (⟨put l ⟨s, []⟩⟩, 0)) else (⟨l⟩, rm l s)) := by
  unfold tree_Tree_create.f jn
  have hl := T.len
  refine Ev.bind (room_ev l s T.srt T.good hr (by omega)) ?_
  dsimp only
  by_cases h0 : rm l s = 0
  · rw [if_pos h0]
    by_cases h2 : l.length ≥ 200
    · rw [if_pos h2]
      exact Ev.pos (by rw [decide_eq_true h0, decide_eq_true (by omega)]; rfl) (Ev.pos (by decide) (Ev.const _))
    · rw [if_neg h2]
      refine Ev.neg (by rw [decide_eq_true h0, decide_eq_false (by omega)]; decide) (Ev.neg (by simp [h0]) ?_)
      exact Ev.bind (with_ev l ⟨s, []⟩ T.srt (by omega)) (Ev.const _)
  · rw [if_neg h0]
    exact Ev.neg (by rw [decide_eq_false h0, Bool.false_and]; decide) (Ev.pos (by simp [h0]) (Ev.const _))
theorem lns_at {l : List File} {s : ByteArray} (hf : fnd l s = true) : ∃ hp : pos l s < l.length, lns l s = l[pos l s].f1_Lines := by
  obtain ⟨hp, _⟩ := fnd_true hf
  exact ⟨hp, by unfold lns; rw [List.getElem?_eq_getElem hp]⟩
theorem get_yes {l : List File} {s : ByteArray} (T : Tr l) (hf : fnd l s = true) : Ev (fun k => tree_Tree_Get.f k ⟨l⟩ s) (lns l s, true) := by
  have hl := T.len
  refine (get_ev l s T.srt (by omega) fun f hf => (T.lines f hf).1).to ?_
  obtain ⟨hp, e⟩ := fnd_true hf
  obtain ⟨_, e2⟩ := lns_at hf
  rw [List.getElem?_eq_getElem hp, e2]
  dsimp only
  rw [if_pos e]
theorem get_no {l : List File} {s : ByteArray} (T : Tr l) (hf : fnd l s = false) : Ev (fun k => tree_Tree_Get.f k ⟨l⟩ s) ([], false) := by
  have hl := T.len
  refine (get_ev l s T.srt (by omega) fun f hf => (T.lines f hf).1).to ?_
  cases hh : l[pos l s]? with
  | none => rfl
  | some f =>
    unfold fnd at hf
    rw [hh] at hf
    dsimp only at hf ⊢
    rw [if_neg (of_decide_eq_false hf)]
theorem good_del {l : List File} {s : ByteArray} (h : Good l) : Good (del l s) := fun f hf => h f (mem_del hf)
/-- Tree.Apply. -/
theorem apply_ev (l : List File) (o : O) (T : Tr l) (h1 : o.f4_Old.length ≤ 1000000) (h2 : o.f5_New.length ≤ 1000000) : Ev (fun k => tree_Tree_Apply.f k ⟨l⟩ o) (⟨(st l o).1⟩, (st l o).2) := by
  unfold tree_Tree_Apply.f jn
  have hl := T.len
  refine Ev.bind (PureO.oright_ev o h1 h2) ?_
  dsimp only
  unfold st
  by_cases hw : wr_ o = 0
  · rw [if_pos hw]
    refine Ev.neg (by simp [hw]) ?_
    obtain ⟨hk1, hk6⟩ := wr_range hw
    refine Ev.now (a := (decide (o.f0_Kind = 5) || decide (o.f0_Kind = 6))) rfl ?_
    by_cases h4 : o.f0_Kind > 4
    · rw [if_pos h4]
      exact Ev.pos (by simp; omega) ((j_ev 0 ⟨l⟩).to (by rw [if_pos rfl]))
    rw [if_neg h4]
    refine Ev.neg (by simp; omega) ?_
    have hp := fm_path hw hk1 (by omega)
    by_cases k1 : o.f0_Kind = 1
    · rw [if_pos k1]
      refine Ev.pos k1 (Ev.bind (create_ev l o.f1_Path T hp) ?_)
      by_cases h0 : rm l o.f1_Path = 0
      · rw [if_pos h0, if_pos h0]
        by_cases hg : l.length ≥ 200
        · rw [if_pos hg, if_pos hg]; exact (j_ev 14 _).to rfl
        · rw [if_neg hg, if_neg hg]; exact (j_ev 0 _).to rfl
      · rw [if_neg h0, if_neg h0]
        exact (j_ev _ _).to (by dsimp only; rw [if_neg h0])
    rw [if_neg k1]
    refine Ev.neg k1 ?_
    cases hf : fnd l o.f1_Path with
    | false =>
      rw [if_neg (by decide)]
      exact Ev.bind (get_no T hf) (Ev.pos rfl (Ev.const _))
    | true =>
      rw [if_pos rfl]
      refine Ev.bind (get_yes T hf) (Ev.neg (by show ¬ (!true) = true; decide) ?_)
      dsimp only
      obtain ⟨hpl, el⟩ := lns_at hf
      have hln := (T.lines _ (List.getElem_mem hpl))
      rw [← el] at hln
      unfold tree_Tree_change.f
      by_cases k2 : o.f0_Kind = 2
      · rw [if_pos k2]
        refine Ev.bind (a := if lns l o.f1_Path = o.f4_Old then ((⟨del l o.f1_Path⟩ : S_files), (0 : Int)) else (⟨l⟩, 12)) (Ev.pos k2 (Ev.bind (PureS.equal _ _ (by omega)) ?_)) ?_
        · by_cases he : lns l o.f1_Path = o.f4_Old
          · rw [if_pos he]
            exact Ev.neg (by rw [decide_eq_true he]; decide) (Ev.bind (without_ev l _ T.srt (by omega)) (Ev.const _))
          · rw [if_neg he]
            exact Ev.pos (by rw [decide_eq_false he]; rfl) (Ev.const _)
        · by_cases he : lns l o.f1_Path = o.f4_Old
          · rw [if_pos he, if_pos he]; exact (j_ev 0 _).to rfl
          · rw [if_neg he, if_neg he]; exact (j_ev 12 _).to rfl
      rw [if_neg k2]
      by_cases k3 : o.f0_Kind = 3
      · rw [if_pos k3]
        refine Ev.bind (a := if (PureS.ap (lns l o.f1_Path) (hk o)).2 = 0 then ((⟨put l ⟨o.f1_Path, (PureS.ap (lns l o.f1_Path) (hk o)).1⟩⟩ : S_files), (0 : Int)) else (⟨l⟩, (PureS.ap (lns l o.f1_Path) (hk o)).2)) (Ev.neg k2 (Ev.pos k3 (Ev.now (a := hk o) rfl (Ev.bind (PureS.apply _ _) ?_)))) ?_
        · by_cases he : (PureS.ap (lns l o.f1_Path) (hk o)).2 = 0
          · rw [if_pos he]
            exact Ev.neg (by simp [he]) (Ev.bind (with_ev l _ T.srt (by omega)) (Ev.const _))
          · rw [if_neg he]
            exact Ev.pos (by simp [he]) (Ev.const _)
        · by_cases he : (PureS.ap (lns l o.f1_Path) (hk o)).2 = 0
          · rw [if_pos he, if_pos he]; exact (j_ev 0 _).to rfl
          · rw [if_neg he, if_neg he]; exact (j_ev _ _).to (by dsimp only; rw [if_neg he])
      rw [if_neg k3]
      have k4 : o.f0_Kind = 4 := by omega
      obtain ⟨ht, hne⟩ := fm_to hw k4
      have sd := srt_del (s := o.f1_Path) T.srt
      have ld : (del l o.f1_Path).length ≤ 200 := Nat.le_trans del_len hl
      refine Ev.bind (a := if rm (del l o.f1_Path) o.f2_To = 0 then ((⟨put (del l o.f1_Path) ⟨o.f2_To, lns l o.f1_Path⟩⟩ : S_files), (0 : Int)) else (⟨l⟩, rm (del l o.f1_Path) o.f2_To)) (Ev.neg k2 (Ev.neg k3 (Ev.bind (without_ev l _ T.srt (by omega)) (Ev.bind (find_ev l _ T.srt (by omega)) ?_)))) ?_
      · dsimp only
        have ef : fnd (del l o.f1_Path) o.f2_To = fnd l o.f2_To := fnd_del T.srt hne
        cases hft : fnd l o.f2_To with
        | true =>
          have er : rm (del l o.f1_Path) o.f2_To = 7 := by unfold rm; rw [ef, hft, if_pos rfl]
          rw [er, if_neg (by decide)]
          exact Ev.pos rfl (Ev.const _)
        | false =>
          refine Ev.neg (by decide) (Ev.bind (room_ev _ _ sd (good_del T.good) ht (by omega)) ?_)
          by_cases he : rm (del l o.f1_Path) o.f2_To = 0
          · rw [if_pos he]
            exact Ev.neg (by simp [he]) (Ev.bind (with_ev _ _ sd (by omega)) (Ev.const _))
          · rw [if_neg he]
            exact Ev.pos (by simp [he]) (Ev.const _)
      · by_cases he : rm (del l o.f1_Path) o.f2_To = 0
        · rw [if_pos he, if_pos he]; exact (j_ev 0 _).to rfl
        · rw [if_neg he, if_neg he]; exact (j_ev _ _).to (by dsimp only; rw [if_neg he])
  · rw [if_neg hw]
    exact Ev.pos (by simp [hw]) (Ev.const _)

theorem rm_zero {l : List File} {s : ByteArray} (h : rm l s = 0) : fnd l s = false := by
  cases hf : fnd l s with
  | false => rfl
  | true => unfold rm at h; rw [hf, if_pos rfl] at h; cases h
/-- The reference's Apply. -/
theorem rapply_ev (l : List File) (o : O) (T : Tr l) (h1 : PureS.sm o.f4_Old) (h2 : PureS.sm o.f5_New) : Ev (fun k => quitclaimref14_Apply.f k l o) (st l o) := by
  unfold quitclaimref14_Apply.f
  have hl := T.len
  refine Ev.bind (PureO.rright_op o h1 h2) ?_
  unfold st
  by_cases hw : wr_ o = 0
  · rw [if_pos hw]
    refine Ev.neg (by simp [hw]) ?_
    by_cases h4 : o.f0_Kind > 4
    · rw [if_pos h4]; exact Ev.pos h4 (Ev.const _)
    rw [if_neg h4]
    refine Ev.neg h4 (Ev.bind (at_ev l o.f1_Path T.srt (by omega)) ?_)
    by_cases k1 : o.f0_Kind = 1
    · rw [if_pos k1]
      refine Ev.pos k1 (Ev.bind (rroom_ev l o.f1_Path T.srt (by omega)) ?_)
      by_cases h0 : rm l o.f1_Path = 0
      · rw [if_pos h0]
        refine Ev.neg (by simp [h0]) ?_
        by_cases hg : l.length ≥ 200
        · rw [if_pos hg]; exact Ev.pos (by omega) (Ev.const _)
        · rw [if_neg hg]
          exact Ev.neg (by omega) (Ev.bind (rput_ev l ⟨o.f1_Path, []⟩ T.srt (rm_zero h0) (by omega)) (Ev.const _))
      · rw [if_neg h0]
        exact Ev.pos (by simp [h0]) (Ev.const _)
    rw [if_neg k1]
    refine Ev.neg k1 ?_
    cases hf : fnd l o.f1_Path with
    | false =>
      rw [if_neg (by decide), if_neg (by decide)]
      exact Ev.pos (by decide) (Ev.const _)
    | true =>
      rw [if_pos rfl, if_pos rfl]
      obtain ⟨hpl, el⟩ := lns_at hf
      have hln := (T.lines _ (List.getElem_mem hpl))
      rw [← el] at hln
      have hd : del l o.f1_Path = l.take (pos l o.f1_Path) ++ l.drop (pos l o.f1_Path + 1) := by unfold del; rw [if_pos hf]
      have sd := srt_del (s := o.f1_Path) T.srt
      have ld : (del l o.f1_Path).length ≤ 200 := Nat.le_trans del_len hl
      refine Ev.neg (by omega) (Ev.bind ((drop_ev l _ hpl (by omega)).to hd.symm) ?_)
      by_cases k2 : o.f0_Kind = 2
      · rw [if_pos k2]
        refine Ev.pos k2 (Ev.now (ix_ hpl) ?_)
        rw [← el]
        refine Ev.bind (PureS.same _ _ (by omega)) ?_
        by_cases he : lns l o.f1_Path = o.f4_Old
        · rw [if_pos he]
          exact Ev.neg (by rw [decide_eq_true he]; decide) (Ev.const _)
        · rw [if_neg he]
          exact Ev.pos (by rw [decide_eq_false he]; rfl) (Ev.const _)
      rw [if_neg k2]
      refine Ev.neg k2 ?_
      by_cases k3 : o.f0_Kind = 3
      · rw [if_pos k3]
        refine Ev.pos k3 (Ev.now (ix_ hpl) ?_)
        rw [← el]
        refine Ev.bind (PureS.rapply (lns l o.f1_Path) (hk o) hln.2 ⟨h1, h2⟩) ?_
        by_cases he : (PureS.ap (lns l o.f1_Path) (hk o)).2 = 0
        · rw [if_pos he]
          refine Ev.neg (by simp [he]) (Ev.bind ((rput_ev (del l o.f1_Path) ⟨o.f1_Path, (PureS.ap (lns l o.f1_Path) (hk o)).1⟩ sd (pos_del T.srt hf).2 (by omega)).to (put_del (f := ⟨o.f1_Path, (PureS.ap (lns l o.f1_Path) (hk o)).1⟩) T.srt hf)) (Ev.const _))
        · rw [if_neg he]
          exact Ev.pos (by simp [he]) (Ev.const _)
      rw [if_neg k3]
      refine Ev.neg k3 (Ev.bind (rroom_ev _ _ sd (by omega)) ?_)
      by_cases he : rm (del l o.f1_Path) o.f2_To = 0
      · rw [if_pos he]
        refine Ev.neg (by simp [he]) (Ev.now (ix_ hpl) ?_)
        rw [← el]
        exact Ev.bind (rput_ev _ ⟨o.f2_To, lns l o.f1_Path⟩ sd (rm_zero he) (by omega)) (Ev.const _)
      · rw [if_neg he]
        exact Ev.pos (by simp [he]) (Ev.const _)
  · rw [if_neg hw]
    exact Ev.pos (by simp [hw]) (Ev.const _)
theorem good_put {l : List File} {f : File} (h : Good l) (hf : PureP.right f.f0_Path = true) : Good (put l f) := fun g hg => by
  rcases mem_put hg with rfl | hg
  · exact hf
  · exact h g hg
theorem sm_nil : PureS.sm ([] : List ByteArray) := ⟨by simp, by simp⟩
theorem ap_len {l : List ByteArray} {h : S_At_Old_New} (q : (PureS.ap l h).2 = 0) : (PureS.ap l h).1.length ≤ 1000 := by
  obtain ⟨_, _, u, v, _, _, e, hl⟩ := PureS.ap_out q
  rw [e]; simp only [List.length_append]; omega
/-- What a step makes of a tree is a tree. -/
theorem Tr.step {l : List File} {o : O} (T : Tr l) (h1 : PureS.sm o.f4_Old) (h2 : PureS.sm o.f5_New) (h0 : (st l o).2 = 0) : Tr (st l o).1 := by
  have hl := T.len
  unfold st at h0 ⊢
  by_cases hw : wr_ o = 0
  · rw [if_pos hw] at h0 ⊢
    obtain ⟨hk1, hk6⟩ := wr_range hw
    by_cases h4 : o.f0_Kind > 4
    · rw [if_pos h4]; exact T
    rw [if_neg h4] at h0 ⊢
    have hp := fm_path hw hk1 (by omega)
    by_cases k1 : o.f0_Kind = 1
    · rw [if_pos k1] at h0 ⊢
      by_cases hr : rm l o.f1_Path = 0
      · rw [if_pos hr] at h0 ⊢
        by_cases hg : l.length ≥ 200
        · rw [if_pos hg] at h0; cases h0
        · rw [if_neg hg]
          refine ⟨srt_put T.srt, good_put T.good hp, Nat.le_trans put_len (by omega), fun f hf => ?_⟩
          rcases mem_put hf with rfl | hf
          · exact ⟨by simp, sm_nil⟩
          · exact T.lines f hf
      · rw [if_neg hr] at h0; exact absurd h0 hr
    rw [if_neg k1] at h0 ⊢
    cases hf : fnd l o.f1_Path with
    | false => rw [hf, if_neg (by decide)] at h0; cases h0
    | true =>
      rw [hf, if_pos rfl] at h0
      rw [if_pos rfl]
      obtain ⟨hpl, el⟩ := lns_at hf
      have hln := (T.lines _ (List.getElem_mem hpl))
      rw [← el] at hln
      have Td : Tr (del l o.f1_Path) := ⟨srt_del T.srt, good_del T.good, Nat.le_trans del_len hl, fun f hf => T.lines f (mem_del hf)⟩
      have dl : (del l o.f1_Path).length + 1 = l.length := by
        unfold del; rw [if_pos hf, List.length_append, List.length_take, List.length_drop]; omega
      by_cases k2 : o.f0_Kind = 2
      · rw [if_pos k2] at h0 ⊢
        by_cases he : lns l o.f1_Path = o.f4_Old
        · rw [if_pos he]; exact Td
        · rw [if_neg he] at h0; cases h0
      rw [if_neg k2] at h0 ⊢
      by_cases k3 : o.f0_Kind = 3
      · rw [if_pos k3] at h0 ⊢
        by_cases he : (PureS.ap (lns l o.f1_Path) (hk o)).2 = 0
        · rw [if_pos he]
          have pd := put_del (f := ⟨o.f1_Path, (PureS.ap (lns l o.f1_Path) (hk o)).1⟩) T.srt hf
          rw [← pd]
          refine ⟨srt_put Td.srt, good_put Td.good hp, Nat.le_trans put_len (by show (del l o.f1_Path).length + 1 ≤ 200; omega), fun f hf => ?_⟩
          rcases mem_put hf with rfl | hf
          · exact ⟨ap_len he, PureS.sm_ap hln.2 ⟨h1, h2⟩⟩
          · exact Td.lines f hf
        · rw [if_neg he] at h0; exact absurd h0 he
      rw [if_neg k3] at h0 ⊢
      have ht := fm_to hw (by omega)
      by_cases he : rm (del l o.f1_Path) o.f2_To = 0
      · rw [if_pos he]
        refine ⟨srt_put Td.srt, good_put Td.good ht.1, Nat.le_trans put_len (by omega), fun f hf => ?_⟩
        rcases mem_put hf with rfl | hf
        · exact hln
        · exact Td.lines f hf
      · rw [if_neg he] at h0; exact absurd h0 he
  · rw [if_neg hw] at h0; exact absurd h0 hw
theorem Tr.nil : Tr [] := ⟨List.Pairwise.nil, fun f hf => (by cases hf), by simp, fun f hf => (by cases hf)⟩

/-! ### all operations -/
/-- Small enough to be asked about. -/
def smo (o : O) : Prop := PureS.sm o.f4_Old ∧ PureS.sm o.f5_New
noncomputable def al (l0 : List File) : List O → List File → Nat → List File × Int × Int
  | [], x, i => (x, (i : Int), 0)
  | o :: os, x, i => if (st x o).2 = 0 then al l0 os (st x o).1 (i + 1) else (l0, (i : Int), (st x o).2)
theorem all_loop (l0 : List File) (ops : List O) (hl : ops.length ≤ 1000) (hs : ∀ o ∈ ops, smo o) : ∀ (n i : Nat) (x : List File), i + n = ops.length → Tr x →
    Ev (fun k => tree_Tree_All.l0 ⟨l0⟩ ops k (i : Int) ⟨x⟩) (⟨(al l0 (ops.drop i) x i).1⟩, (al l0 (ops.drop i) x i).2) := by
  intro n
  induction n with
  | zero =>
    intro i x hi T
    rw [List.drop_eq_nil_of_le (by omega), al]
    exact Ev.stepc fun k => by rw [tree_Tree_All.l0, if_neg (by omega), show (ops.length : Int) = (i : Int) by omega]
  | succ n ih =>
    intro i x hi T
    have h1 : i < ops.length := by omega
    have ho := hs _ (List.getElem_mem h1)
    rw [List.drop_eq_getElem_cons h1, al]
    obtain ⟨K, hA⟩ := apply_ev x ops[i] T ho.1.1 ho.2.1
    by_cases he : (st x ops[i]).2 = 0
    · rw [if_pos he]
      obtain ⟨K', q⟩ := ih (i + 1) (st x ops[i]).1 (by omega) (T.step ho.1 ho.2 he)
      refine ⟨K + K' + 1, fun k hk => ?_⟩
      obtain ⟨k, rfl⟩ : ∃ m, k = m + 1 := ⟨k - 1, by omega⟩
      have hA := hA k (by omega)
      have q := q k (by omega)
      dsimp only at hA q ⊢
      rw [tree_Tree_All.l0, if_pos (by omega), ix_ h1, Option.bind_some, hA, Option.bind_some, if_neg (by simp [he]), w (by omega) (by omega)]
      exact q
    · rw [if_neg he]
      refine ⟨K + 1, fun k hk => ?_⟩
      obtain ⟨k, rfl⟩ : ∃ m, k = m + 1 := ⟨k - 1, by omega⟩
      have hA := hA k (by omega)
      dsimp only at hA ⊢
      rw [tree_Tree_All.l0, if_pos (by omega), ix_ h1, Option.bind_some, hA, Option.bind_some, if_pos (by simp [he])]
theorem all_ev (l : List File) (ops : List O) (hl : ops.length ≤ 1000) (hs : ∀ o ∈ ops, smo o) (T : Tr l) : Ev (fun k => tree_Tree_All.f k ⟨l⟩ ops) (⟨(al l ops l 0).1⟩, (al l ops l 0).2) := by
  have := all_loop l ops hl hs ops.length 0 l (by omega) T
  rw [List.drop_zero] at this
  exact this
theorem rall_loop (l0 : List File) (ops : List O) (hl : ops.length ≤ 1000) (hs : ∀ o ∈ ops, smo o) : ∀ (n i : Nat) (x : List File), i + n = ops.length → Tr x →
    Ev (fun k => quitclaimref14_All.l0 l0 ops k x (i : Int)) (al l0 (ops.drop i) x i) := by
  intro n
  induction n with
  | zero =>
    intro i x hi T
    rw [List.drop_eq_nil_of_le (by omega), al]
    exact Ev.stepc fun k => by rw [quitclaimref14_All.l0, if_neg (by omega), show (ops.length : Int) = (i : Int) by omega]
  | succ n ih =>
    intro i x hi T
    have h1 : i < ops.length := by omega
    have ho := hs _ (List.getElem_mem h1)
    rw [List.drop_eq_getElem_cons h1, al]
    obtain ⟨K, hA⟩ := rapply_ev x ops[i] T ho.1 ho.2
    by_cases he : (st x ops[i]).2 = 0
    · rw [if_pos he]
      obtain ⟨K', q⟩ := ih (i + 1) (st x ops[i]).1 (by omega) (T.step ho.1 ho.2 he)
      refine ⟨K + K' + 1, fun k hk => ?_⟩
      obtain ⟨k, rfl⟩ : ∃ m, k = m + 1 := ⟨k - 1, by omega⟩
      have hA := hA k (by omega)
      have q := q k (by omega)
      dsimp only at hA q ⊢
      rw [quitclaimref14_All.l0, if_pos (by omega), ix_ h1, Option.bind_some, hA, Option.bind_some, if_neg (by simp [he]), w (by omega) (by omega)]
      exact q
    · rw [if_neg he]
      refine ⟨K + 1, fun k hk => ?_⟩
      obtain ⟨k, rfl⟩ : ∃ m, k = m + 1 := ⟨k - 1, by omega⟩
      have hA := hA k (by omega)
      dsimp only at hA ⊢
      rw [quitclaimref14_All.l0, if_pos (by omega), ix_ h1, Option.bind_some, hA, Option.bind_some, if_pos (by simp [he])]
theorem rall_ev (l : List File) (ops : List O) (hl : ops.length ≤ 1000) (hs : ∀ o ∈ ops, smo o) (T : Tr l) : Ev (fun k => quitclaimref14_All.f k l ops) (al l ops l 0) := by
  have := rall_loop l ops hl hs ops.length 0 l (by omega) T
  rw [List.drop_zero] at this
  exact this
end Go.Proofs.YtngcfmnmjkncoaaDoor.PureT
