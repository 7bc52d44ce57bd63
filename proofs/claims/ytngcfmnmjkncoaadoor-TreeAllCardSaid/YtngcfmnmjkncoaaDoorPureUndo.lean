/- Trees: what an operation's inverse makes; no condition. -/
import Derived.Test.YtngcfmnmjkncoaaDoorPureRows
namespace Go.Proofs.YtngcfmnmjkncoaaDoor.PureT
open Go Go.RowKit Go.Proofs.YtngcfmnmjkncoaaDoor.Q Go.Proofs.YtngcfmnmjkncoaaDoor.Pu
open Go.Proofs.YtngcfmnmjkncoaaDoor.PureO (O wr_ hk zk)
set_option linter.unusedVariables false

/-- No file's path covers another one's. -/
def Ap (l : List File) : Prop := ∀ f ∈ l, ∀ g ∈ l, f.f0_Path ≠ g.f0_Path → PureP.cov f.f0_Path g.f0_Path = false
theorem put_facts {l : List File} {f : File} (hs : Srt l) : pos (put l f) f.f0_Path = pos l f.f0_Path ∧ fnd (put l f) f.f0_Path = true ∧ lns (put l f) f.f0_Path = f.f1_Lines ∧ del (put l f) f.f0_Path = del l f.f0_Path := by
  have hp := pos_le l f.f0_Path
  have hl : (l.take (pos l f.f0_Path)).length = pos l f.f0_Path := by rw [List.length_take]; omega
  have h1 : pos (put l f) f.f0_Path = pos l f.f0_Path := by
    unfold put
    rw [pos_split (fun g hg => mem_take_lt hs hg) (fun g hg h => by
      rcases List.mem_cons.1 hg with rfl | hg
      · exact l_irrefl _ h
      · exact l_irrefl _ (l_trans h (mem_drop_gt hs hg))), hl]
  have hg : (put l f)[pos l f.f0_Path]? = some f := by
    unfold put
    rw [List.getElem?_append_right (by omega), hl, Nat.sub_self]
    rfl
  have h2 : fnd (put l f) f.f0_Path = true := by
    unfold fnd
    rw [h1, hg]
    exact decide_eq_true rfl
  refine ⟨h1, h2, by unfold lns; rw [h1, hg], ?_⟩
  unfold del
  rw [h2, if_pos rfl, h1]
  have e1 : (put l f).take (pos l f.f0_Path) = l.take (pos l f.f0_Path) := by unfold put; rw [List.take_left' hl]
  have e2 : (put l f).drop (pos l f.f0_Path + 1) = l.drop (pos l f.f0_Path + if fnd l f.f0_Path = true then 1 else 0) := by
    unfold put
    rw [← List.drop_drop, List.drop_left' hl]
    rfl
  rw [e1, e2]
  cases fnd l f.f0_Path with
  | true => rfl
  | false => rw [if_neg (by decide), if_neg (by decide), Nat.add_zero, List.take_append_drop]
theorem put_same {l : List File} {s : ByteArray} (hf : fnd l s = true) : put l ⟨s, lns l s⟩ = l := by
  obtain ⟨hp, e⟩ := fnd_true hf
  obtain ⟨_, e2⟩ := lns_at hf
  unfold put
  show l.take (pos l s) ++ (⟨s, lns l s⟩ : File) :: l.drop (pos l s + if fnd l s = true then 1 else 0) = l
  rw [hf, if_pos rfl]
  have : (⟨s, lns l s⟩ : File) = l[pos l s] := by rw [e2]; cases h : l[pos l s]; rw [h] at e; simp only at e; rw [← e]
  rw [this, ← List.drop_eq_getElem_cons hp, List.take_append_drop]
theorem put_put {l : List File} {s : ByteArray} {x y : List ByteArray} (hs : Srt l) : put (put l ⟨s, x⟩) ⟨s, y⟩ = put l ⟨s, y⟩ := by
  obtain ⟨_, h2, _, h4⟩ := put_facts (f := ⟨s, x⟩) hs
  rw [← put_del (f := ⟨s, y⟩) (srt_put hs) h2]
  have h4' : del (put l ⟨s, x⟩) s = del l s := h4
  show put (del (put l ⟨s, x⟩) s) ⟨s, y⟩ = _
  rw [h4']
  cases hf : fnd l s with
  | true => exact put_del (f := ⟨s, y⟩) hs hf
  | false => unfold del; rw [hf, if_neg (by decide)]
theorem del_mem_ne {l : List File} {s : ByteArray} (hs : Srt l) (hf : fnd l s = true) {g : File} (hg : g ∈ del l s) : g.f0_Path ≠ s := fun e => by
  have := (fnd_iff (srt_del (s := s) hs)).2 ⟨g, hg, e⟩
  rw [(pos_del hs hf).2] at this
  cases this
theorem rm_del {l : List File} {s : ByteArray} (hs : Srt l) (A : Ap l) (hf : fnd l s = true) : rm (del l s) s = 0 := by
  obtain ⟨g0, hg0, e0⟩ := (fnd_iff hs).1 hf
  unfold rm
  rw [(pos_del hs hf).2, if_neg (by decide)]
  have : (del l s).any (near s) = false := by
    rw [List.any_eq_false]
    intro g hg
    have hne := del_mem_ne hs hf hg
    have a1 := A g (mem_del hg) g0 hg0 (by rw [e0]; exact hne)
    have a2 := A g0 hg0 g (mem_del hg) (by rw [e0]; exact fun h => hne h.symm)
    rw [e0] at a1 a2
    unfold near
    rw [a1, a2]
    decide
  rw [this, if_neg (by decide)]
theorem ap_del {l : List File} {s : ByteArray} (A : Ap l) : Ap (del l s) := fun f hf g hg h => A f (mem_del hf) g (mem_del hg) h
theorem ap_put {l : List File} {f : File} (A : Ap l) (h : rm l f.f0_Path = 0) : Ap (put l f) := by
  have hn : ∀ g ∈ l, near f.f0_Path g = false := by
    unfold rm at h
    rw [rm_zero h, if_neg (by decide)] at h
    cases ha : l.any (near f.f0_Path) with
    | true => rw [ha, if_pos rfl] at h; cases h
    | false => rw [List.any_eq_false] at ha; exact fun g hg => by have := ha g hg; simpa using this
  intro a ha b hb hab
  rcases mem_put ha with ea | ha'
  · rcases mem_put hb with eb | hb'
    · exact absurd (by rw [ea, eb]) hab
    · have := hn b hb'; unfold near at this; rw [Bool.or_eq_false_iff] at this; rw [ea]; exact this.2
  · rcases mem_put hb with eb | hb'
    · have := hn a ha'; unfold near at this; rw [Bool.or_eq_false_iff] at this; rw [eb]; exact this.1
    · exact A a ha' b hb' hab
theorem ap_same {l : List File} {f : File} (hs : Srt l) (A : Ap l) (hf : fnd l f.f0_Path = true) : Ap (put l f) := by
  rw [← put_del hs hf]
  exact ap_put (ap_del A) (rm_del hs A hf)
theorem Ap.step {l : List File} {o : O} (T : Tr l) (A : Ap l) (h0 : (st l o).2 = 0) : Ap (st l o).1 := by
  unfold st at h0 ⊢
  by_cases hw : wr_ o = 0
  · rw [if_pos hw] at h0 ⊢
    by_cases h4 : o.f0_Kind > 4
    · rw [if_pos h4]; exact A
    rw [if_neg h4] at h0 ⊢
    by_cases k1 : o.f0_Kind = 1
    · rw [if_pos k1] at h0 ⊢
      by_cases hr : rm l o.f1_Path = 0
      · rw [if_pos hr] at h0 ⊢
        by_cases hg : l.length ≥ 200
        · rw [if_pos hg] at h0; cases h0
        · rw [if_neg hg]; exact ap_put A hr
      · rw [if_neg hr] at h0; exact absurd h0 hr
    rw [if_neg k1] at h0 ⊢
    cases hf : fnd l o.f1_Path with
    | false => rw [hf, if_neg (by decide)] at h0; cases h0
    | true =>
      rw [hf, if_pos rfl] at h0
      rw [if_pos rfl]
      by_cases k2 : o.f0_Kind = 2
      · rw [if_pos k2] at h0 ⊢
        by_cases he : lns l o.f1_Path = o.f4_Old
        · rw [if_pos he]; exact ap_del A
        · rw [if_neg he] at h0; cases h0
      rw [if_neg k2] at h0 ⊢
      by_cases k3 : o.f0_Kind = 3
      · rw [if_pos k3] at h0 ⊢
        by_cases he : (PureS.ap (lns l o.f1_Path) (hk o)).2 = 0
        · rw [if_pos he]; exact ap_same (f := ⟨o.f1_Path, _⟩) T.srt A hf
        · rw [if_neg he] at h0; exact absurd h0 he
      rw [if_neg k3] at h0 ⊢
      by_cases he : rm (del l o.f1_Path) o.f2_To = 0
      · rw [if_pos he]; exact ap_put (ap_del A) he
      · rw [if_neg he] at h0; exact absurd h0 he
  · rw [if_neg hw] at h0; exact absurd h0 hw

/-! ### the inverse -/
def invs (o : O) : List O :=
  if o.f0_Kind = 1 then [⟨2, o.f1_Path, ⟨#[]⟩, 0, [], [], zk, 0⟩]
  else if o.f0_Kind = 2 then (if o.f4_Old = [] then [⟨1, o.f1_Path, ⟨#[]⟩, 0, [], [], zk, 0⟩] else [⟨1, o.f1_Path, ⟨#[]⟩, 0, [], [], zk, 0⟩, ⟨3, o.f1_Path, ⟨#[]⟩, 0, [], o.f4_Old, zk, 0⟩])
  else if o.f0_Kind = 3 then [⟨3, o.f1_Path, ⟨#[]⟩, o.f3_At, o.f5_New, o.f4_Old, zk, 0⟩]
  else [⟨4, o.f2_To, o.f1_Path, 0, [], [], zk, 0⟩]
theorem inverse_eq (o : O) : quitclaimref13_Inverse.f o = some (invs o) := by
  unfold quitclaimref13_Inverse.f invs
  by_cases k1 : o.f0_Kind = 1
  · rw [if_pos k1, if_pos k1]; rfl
  rw [if_neg k1, if_neg k1]
  by_cases k2 : o.f0_Kind = 2
  · rw [if_pos k2, if_pos k2]
    by_cases he : o.f4_Old = []
    · rw [if_pos (by rw [decide_eq_true k2, he]; rfl), if_pos he]; rfl
    · have hl : ¬ ((o.f4_Old.length : Int) = 0) := fun h => he (List.eq_nil_of_length_eq_zero (by omega))
      rw [if_neg (by rw [decide_eq_false hl]; simp), if_neg he]; rfl
  rw [if_neg (by rw [decide_eq_false k2, Bool.false_and]; decide), if_neg k2, if_neg k2]
  by_cases k3 : o.f0_Kind = 3
  · rw [if_pos k3, if_pos k3]; rfl
  · rw [if_neg k3, if_neg k3]; rfl
theorem fm_fin {o : O} (hw : wr_ o = 0) : PureO.fm o = true := by
  obtain ⟨h1, h6⟩ := wr_range hw
  rw [PureO.wr_fin h1 h6] at hw
  unfold PureO.fin at hw
  cases hf : PureO.fm o with
  | true => rfl
  | false => rw [hf, if_neg (by decide)] at hw; cases hw
theorem wr_of {o : O} (h1 : 1 ≤ o.f0_Kind) (h6 : o.f0_Kind ≤ 6) (hf : PureO.fm o = true) (hd : o.f7_Depth = 0) : wr_ o = 0 := by
  rw [PureO.wr_fin h1 h6]
  unfold PureO.fin
  rw [hf, if_pos rfl, hd]
  decide
theorem nKz (k : Int) (p t : ByteArray) (a : Int) (x y : List ByteArray) (d : Int) : PureO.nK ⟨k, p, t, a, x, y, zk, d⟩ = true := by
  unfold PureO.nK
  show decide (arl zk 32 0 = List.replicate 32 0) = true
  rw [PureO.arl_zk]; exact decide_eq_true rfl
theorem wr_create {p : ByteArray} (h : PureP.right p = true) : wr_ ⟨1, p, ⟨#[]⟩, 0, [], [], zk, 0⟩ = 0 := by
  refine wr_of (by simp) (by simp) ?_ rfl
  unfold PureO.fm
  rw [if_pos rfl, nKz]
  show (PureP.right p && _) = true
  rw [h]; rfl
theorem wr_remove {p : ByteArray} {x : List ByteArray} (h : PureP.right p = true) (hg : PureS.good x = true) : wr_ ⟨2, p, ⟨#[]⟩, 0, x, [], zk, 0⟩ = 0 := by
  refine wr_of (by simp) (by simp) ?_ rfl
  unfold PureO.fm
  rw [if_neg (by simp), if_pos rfl, nKz]
  show ((PureP.right p && PureS.good x) && _) = true
  rw [h, hg]; rfl
theorem wr_edit {p : ByteArray} {a : Int} {x y : List ByteArray} (h : PureP.right p = true) (hg : PureS.right ⟨a, x, y⟩ = true) : wr_ ⟨3, p, ⟨#[]⟩, a, x, y, zk, 0⟩ = 0 := by
  refine wr_of (by simp) (by simp) ?_ rfl
  unfold PureO.fm
  rw [if_neg (by simp), if_neg (by simp), if_pos rfl, nKz]
  show ((PureP.right p && PureS.right ⟨a, x, y⟩) && _) = true
  rw [h, hg]; rfl
theorem wr_move {p t : ByteArray} (h : PureP.right p = true) (ht : PureP.right t = true) (hne : p ≠ t) : wr_ ⟨4, p, t, 0, [], [], zk, 0⟩ = 0 := by
  refine wr_of (by simp) (by simp) ?_ rfl
  unfold PureO.fm
  rw [if_neg (by simp), if_neg (by simp), if_neg (by simp), if_pos rfl, nKz]
  show (((PureP.right p && PureP.right t) && !decide (p = t)) && _) = true
  rw [h, ht, decide_eq_false hne]; rfl

def hinv (h : S_At_Old_New) : S_At_Old_New := ⟨h.f0_At, h.f2_New, h.f1_Old⟩
theorem hright_inv {h : S_At_Old_New} (r : PureS.right h = true) : PureS.right (hinv h) = true := by
  unfold PureS.right hinv at *
  simp only [Bool.and_eq_true, decide_eq_true_eq] at r ⊢
  exact ⟨r.1, r.2.1, r.2.2.2.1, r.2.2.1, by omega⟩
theorem hap_inv {x : List ByteArray} {h : S_At_Old_New} (q : (PureS.ap x h).2 = 0) : PureS.ap (PureS.ap x h).1 (hinv h) = (x, 0) := by
  obtain ⟨g, r, u, v, e1, e2, e3, e4⟩ := PureS.ap_out q
  obtain ⟨_, _, go, gn, _⟩ := PureS.right_parts r
  rw [e3]
  have hb := (PureS.good_iff _).1 g
  rw [e1, List.any_append, List.any_append, Bool.or_eq_false_iff, Bool.or_eq_false_iff] at hb
  have hn := (PureS.good_iff _).1 gn
  have h2 := PureS.ap_in (h := hinv h) (u := u) (v := v) (by
    show PureS.good (u ++ (h.f2_New ++ v)) = true
    rw [PureS.good_iff, List.any_append, List.any_append, hb.1.1, hn.1, hb.1.2.2]
    exact ⟨rfl, by simp only [List.length_append]; omega⟩) (hright_inv r) e2 (by
    show u.length + h.f1_Old.length + v.length ≤ 1000
    have := hb.2
    simp only [List.length_append] at this; omega)
  exact h2.trans (by rw [e1]; rfl)
theorem al_one {l0 x y : List File} {o : O} (h : st x o = (y, 0)) : al l0 [o] x 0 = (y, (1 : Int), 0) := by
  rw [al, h, if_pos rfl, al]; rfl
theorem al_two {l0 x y z : List File} {o p : O} (h : st x o = (y, 0)) (h2 : st y p = (z, 0)) : al l0 [o, p] x 0 = (z, (2 : Int), 0) := by
  rw [al, h, if_pos rfl, al, h2, if_pos rfl, al]; rfl
theorem st_create {l : List File} {o : O} (k : o.f0_Kind = 1) (hw : wr_ o = 0) (hr : rm l o.f1_Path = 0) (hl : l.length < 200) : st l o = (put l ⟨o.f1_Path, []⟩, 0) := by
  unfold st; rw [if_pos hw, if_neg (by omega), if_pos k, if_pos hr, if_neg (by omega)]
theorem st_remove {l : List File} {o : O} (k : o.f0_Kind = 2) (hw : wr_ o = 0) (hf : fnd l o.f1_Path = true) (he : lns l o.f1_Path = o.f4_Old) : st l o = (del l o.f1_Path, 0) := by
  unfold st; rw [if_pos hw, if_neg (by omega), if_neg (by omega), if_pos hf, if_pos k, if_pos he]
theorem st_edit {l : List File} {o : O} {x : List ByteArray} (k : o.f0_Kind = 3) (hw : wr_ o = 0) (hf : fnd l o.f1_Path = true) (he : PureS.ap (lns l o.f1_Path) (hk o) = (x, 0)) : st l o = (put l ⟨o.f1_Path, x⟩, 0) := by
  unfold st; rw [if_pos hw, if_neg (by omega), if_neg (by omega), if_pos hf, if_neg (by omega), if_pos k, he, if_pos rfl]
theorem st_move {l : List File} {o : O} (k : o.f0_Kind = 4) (hw : wr_ o = 0) (hf : fnd l o.f1_Path = true) (hr : rm (del l o.f1_Path) o.f2_To = 0) : st l o = (put (del l o.f1_Path) ⟨o.f2_To, lns l o.f1_Path⟩, 0) := by
  unfold st; rw [if_pos hw, if_neg (by omega), if_neg (by omega), if_pos hf, if_neg (by omega), if_neg (by omega), if_pos hr]
theorem lns_put {l : List File} {s : ByteArray} {x : List ByteArray} (hs : Srt l) : lns (put l ⟨s, x⟩) s = x := (put_facts (f := ⟨s, x⟩) hs).2.2.1
theorem fnd_put {l : List File} {s : ByteArray} {x : List ByteArray} (hs : Srt l) : fnd (put l ⟨s, x⟩) s = true := (put_facts (f := ⟨s, x⟩) hs).2.1
theorem del_put {l : List File} {s : ByteArray} {x : List ByteArray} (hs : Srt l) : del (put l ⟨s, x⟩) s = del l s := (put_facts (f := ⟨s, x⟩) hs).2.2.2
theorem del_no {l : List File} {s : ByteArray} (hf : fnd l s = false) : del l s = l := by unfold del; rw [hf, if_neg (by decide)]
/-- What an operation's inverse undoes. -/
theorem undo {l0 l : List File} {o : O} (T : Tr l) (A : Ap l) (h4 : ¬ o.f0_Kind > 4) (h0 : (st l o).2 = 0) : al l0 (invs o) (st l o).1 0 = (l, ((invs o).length : Int), 0) := by
  have hl := T.len
  unfold st at h0 ⊢
  by_cases hw : wr_ o = 0
  · rw [if_pos hw] at h0 ⊢
    obtain ⟨hk1, hk6⟩ := wr_range hw
    have hp := fm_path hw hk1 (by omega)
    have hfm := fm_fin hw
    rw [if_neg h4] at h0 ⊢
    unfold invs
    by_cases k1 : o.f0_Kind = 1
    · rw [if_pos k1] at h0 ⊢
      rw [if_pos k1]
      by_cases hr : rm l o.f1_Path = 0
      · rw [if_pos hr] at h0 ⊢
        by_cases hg : l.length ≥ 200
        · rw [if_pos hg] at h0; cases h0
        · rw [if_neg hg]
          refine al_one ?_
          rw [st_remove (o := ⟨2, o.f1_Path, ⟨#[]⟩, 0, [], [], zk, 0⟩) rfl (wr_remove hp rfl) (fnd_put T.srt) (lns_put T.srt)]
          show (del (put l ⟨o.f1_Path, []⟩) o.f1_Path, (0 : Int)) = _
          rw [del_put T.srt, del_no (rm_zero hr)]
      · rw [if_neg hr] at h0; exact absurd h0 hr
    rw [if_neg k1] at h0 ⊢
    rw [if_neg k1]
    cases hf : fnd l o.f1_Path with
    | false => rw [hf, if_neg (by decide)] at h0; cases h0
    | true =>
      rw [hf, if_pos rfl] at h0
      rw [if_pos rfl]
      have sd := srt_del (s := o.f1_Path) T.srt
      have dl : (del l o.f1_Path).length + 1 = l.length := by
        have := (fnd_true hf).1
        unfold del; rw [if_pos hf, List.length_append, List.length_take, List.length_drop]; omega
      have hr := rm_del T.srt A hf
      have back : ∀ x, put (del l o.f1_Path) ⟨o.f1_Path, x⟩ = put l ⟨o.f1_Path, x⟩ := fun x => put_del (f := ⟨o.f1_Path, x⟩) T.srt hf
      by_cases k2 : o.f0_Kind = 2
      · rw [if_pos k2] at h0 ⊢
        rw [if_pos k2]
        by_cases he : lns l o.f1_Path = o.f4_Old
        · rw [if_pos he]
          have c1 := st_create (l := del l o.f1_Path) (o := ⟨1, o.f1_Path, ⟨#[]⟩, 0, [], [], zk, 0⟩) rfl (wr_create hp) hr (by omega)
          by_cases hn : o.f4_Old = []
          · rw [if_pos hn]
            refine al_one (c1.trans ?_)
            show (put (del l o.f1_Path) ⟨o.f1_Path, []⟩, (0 : Int)) = _
            rw [back, ← hn, ← he, put_same hf]
          · rw [if_neg hn]
            refine al_two c1 ?_
            have hgo : PureS.good o.f4_Old = true := by
              unfold PureO.fm at hfm
              rw [if_neg k1, if_pos k2, Bool.and_eq_true, Bool.and_eq_true] at hfm
              exact hfm.1.2
            have hlen : 0 < o.f4_Old.length := List.length_pos_iff.2 hn
            have hrt : PureS.right ⟨0, [], o.f4_Old⟩ = true := by
              unfold PureS.right
              show (decide ((0 : Int) ≤ 0) && (decide ((0 : Int) ≤ 1000) && (PureS.good [] && (PureS.good o.f4_Old && decide (0 < 0 + o.f4_Old.length))))) = true
              rw [hgo, decide_eq_true (show 0 < 0 + o.f4_Old.length by omega)]; rfl
            have hap : PureS.ap (lns (put (del l o.f1_Path) ⟨o.f1_Path, []⟩) o.f1_Path) ⟨0, [], o.f4_Old⟩ = (o.f4_Old, 0) := by
              rw [lns_put sd]
              have := PureS.ap_in (h := ⟨0, [], o.f4_Old⟩) (u := []) (v := []) rfl hrt rfl (by have := PureS.good_len hgo; simp; omega)
              exact this.trans (by simp)
            rw [st_edit (o := ⟨3, o.f1_Path, ⟨#[]⟩, 0, [], o.f4_Old, zk, 0⟩) rfl (wr_edit hp hrt) (fnd_put sd) hap]
            show (put (put (del l o.f1_Path) ⟨o.f1_Path, []⟩) ⟨o.f1_Path, o.f4_Old⟩, (0 : Int)) = _
            rw [put_put sd, back, ← he, put_same hf]
        · rw [if_neg he] at h0; cases h0
      rw [if_neg k2] at h0 ⊢
      rw [if_neg k2]
      by_cases k3 : o.f0_Kind = 3
      · rw [if_pos k3] at h0 ⊢
        rw [if_pos k3]
        by_cases he : (PureS.ap (lns l o.f1_Path) (hk o)).2 = 0
        · rw [if_pos he]
          refine al_one ?_
          have hrr : PureS.right (hk o) = true := (PureS.ap_out he).2.1
          have hap : PureS.ap (lns (put l ⟨o.f1_Path, (PureS.ap (lns l o.f1_Path) (hk o)).1⟩) o.f1_Path) (hinv (hk o)) = (lns l o.f1_Path, 0) := by
            rw [lns_put T.srt]; exact hap_inv he
          rw [st_edit (o := ⟨3, o.f1_Path, ⟨#[]⟩, o.f3_At, o.f5_New, o.f4_Old, zk, 0⟩) rfl (wr_edit hp (hright_inv hrr)) (fnd_put T.srt) hap]
          show (put (put l ⟨o.f1_Path, _⟩) ⟨o.f1_Path, lns l o.f1_Path⟩, (0 : Int)) = _
          rw [put_put T.srt, put_same hf]
        · rw [if_neg he] at h0; exact absurd h0 he
      rw [if_neg k3] at h0 ⊢
      rw [if_neg k3]
      obtain ⟨ht, hne⟩ := fm_to hw (by omega)
      by_cases he : rm (del l o.f1_Path) o.f2_To = 0
      · rw [if_pos he]
        refine al_one ?_
        have hdp : del (put (del l o.f1_Path) ⟨o.f2_To, lns l o.f1_Path⟩) o.f2_To = del l o.f1_Path := by rw [del_put sd, del_no (rm_zero he)]
        rw [st_move (o := ⟨4, o.f2_To, o.f1_Path, 0, [], [], zk, 0⟩) rfl (wr_move ht hp (fun h => hne h.symm)) (fnd_put sd) (by
          show rm (del (put (del l o.f1_Path) ⟨o.f2_To, lns l o.f1_Path⟩) o.f2_To) o.f1_Path = 0
          rw [hdp]; exact hr)]
        show (put (del (put (del l o.f1_Path) ⟨o.f2_To, lns l o.f1_Path⟩) o.f2_To) ⟨o.f1_Path, lns (put (del l o.f1_Path) ⟨o.f2_To, lns l o.f1_Path⟩) o.f2_To⟩, (0 : Int)) = _
        rw [hdp, lns_put sd, back, put_same hf]
      · rw [if_neg he] at h0; exact absurd h0 he
  · rw [if_neg hw] at h0; exact absurd h0 hw
end Go.Proofs.YtngcfmnmjkncoaaDoor.PureT
