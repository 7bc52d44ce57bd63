/- HunkAll: many hunks, one behind the other, and all of them back; no condition. -/
import Derived.Test.YtngcfmnmjkncoaaPureHunk
import Derived.Test.YtngcfmnmjkncoaaPureClone
namespace Go.Proofs.Ytngcfmnmjkncoaa.PureS
open Go Go.RowKit Go.Proofs.Ytngcfmnmjkncoaa.Q Go.Proofs.Ytngcfmnmjkncoaa.Pu
set_option linter.unusedVariables false

theorem Ev.succ {α : Type} {g : Nat → Option α} {r : α} (h : ∃ K, ∀ k, K ≤ k → g (k + 1) = some r) : Ev g r := by
  obtain ⟨K, h⟩ := h
  refine ⟨K + 1, fun k hk => ?_⟩
  obtain ⟨m, rfl⟩ : ∃ m, k = m + 1 := ⟨k - 1, by omega⟩
  exact h m (by omega)
def inv (h : S_At_Old_New) : S_At_Old_New := ⟨h.f0_At, h.f2_New, h.f1_Old⟩
noncomputable def apAll : List S_At_Old_New → List ByteArray → Nat → List ByteArray × Int × Int
  | [], x, i => (x, i, 0)
  | h :: hs, x, i => if (ap x h).2 = 0 then apAll hs (ap x h).1 (i + 1) else ([], i, (ap x h).2)
/-- From lines to lines, by hunks that can be applied. -/
def Ch : List ByteArray → List S_At_Old_New → List ByteArray → Prop
  | x, [], z => x = z
  | x, h :: hs, z => (ap x h).2 = 0 ∧ Ch (ap x h).1 hs z
theorem Ch.app : ∀ {aa bs : List S_At_Old_New} {x y z : List ByteArray}, Ch x aa y → Ch y bs z → Ch x (aa ++ bs) z
  | [], bs, x, y, z, h, k => by cases h; exact k
  | a :: aa, bs, x, y, z, h, k => ⟨h.1, Ch.app h.2 k⟩
theorem apAll_ch : ∀ {aa bs : List S_At_Old_New} {x y : List ByteArray} (i : Nat), Ch x aa y → apAll (aa ++ bs) x i = apAll bs y (i + aa.length)
  | [], bs, x, y, i, h => by cases h; rfl
  | a :: aa, bs, x, y, i, h => by
    rw [List.cons_append, apAll, if_pos h.1, apAll_ch (i + 1) h.2, List.length_cons, Nat.add_assoc, Nat.add_comm 1]
theorem right_inv {h : S_At_Old_New} (r : right h = true) : right (inv h) = true := by
  unfold right inv at *
  simp only [Bool.and_eq_true, decide_eq_true_eq] at r ⊢
  exact ⟨r.1, r.2.1, r.2.2.2.1, r.2.2.1, by omega⟩
theorem ap_inv {x : List ByteArray} {h : S_At_Old_New} (q : (ap x h).2 = 0) : ap (ap x h).1 (inv h) = (x, 0) := by
  obtain ⟨g, r, u, v, e1, e2, e3, e4⟩ := ap_out q
  obtain ⟨_, _, go, gn, _⟩ := right_parts r
  rw [e3]
  have hb := (good_iff _).1 g
  rw [e1, List.any_append, List.any_append, Bool.or_eq_false_iff, Bool.or_eq_false_iff] at hb
  have hn := (good_iff _).1 gn
  have h2 := ap_in (h := inv h) (u := u) (v := v) (by
    show good (u ++ (h.f2_New ++ v)) = true
    rw [good_iff, List.any_append, List.any_append, hb.1.1, hn.1, hb.1.2.2]
    exact ⟨rfl, by simp only [List.length_append]; omega⟩) (right_inv r) e2 (by
    show u.length + h.f1_Old.length + v.length ≤ 1000
    have := hb.2
    simp only [List.length_append] at this; omega)
  exact h2.trans (by rw [e1]; rfl)
theorem Ch.back : ∀ {hs : List S_At_Old_New} {x z : List ByteArray}, Ch x hs z → Ch z (hs.reverse.map inv) x
  | [], x, z, h => by cases h; rfl
  | a :: aa, x, z, h => by
    rw [List.reverse_cons, List.map_append]
    refine (Ch.back h.2).app ?_
    have e := ap_inv h.1
    show Ch _ [inv a] x
    exact ⟨by rw [e], by rw [e]; rfl⟩
theorem Ch.good : ∀ {hs : List S_At_Old_New} {x z : List ByteArray}, good x = true → Ch x hs z → good z = true
  | [], x, z, g, h => by cases h; exact g
  | a :: aa, x, z, g, h => by
    refine Ch.good ?_ h.2
    obtain ⟨g, r, u, v, e1, e2, e3, e4⟩ := ap_out h.1
    obtain ⟨_, _, go, gn, _⟩ := right_parts r
    have hb := (good_iff _).1 g
    rw [e1, List.any_append, List.any_append, Bool.or_eq_false_iff, Bool.or_eq_false_iff] at hb
    rw [e3, good_iff, List.any_append, List.any_append, hb.1.1, ((good_iff _).1 gn).1, hb.1.2.2]
    exact ⟨rfl, by simp only [List.length_append]; omega⟩

theorem all_loop (hs : List S_At_Old_New) (hl : hs.length ≤ 1000) : ∀ (n i : Nat) (x : List ByteArray), i + n = hs.length → Ev (fun k => hunk_All.l0 hs k x (i : Int)) (apAll (hs.drop i) x i) := by
  intro n
  induction n with
  | zero =>
    intro i x hi
    refine Ev.stepc fun k => ?_
    rw [hunk_All.l0, if_neg (by omega), List.drop_eq_nil_of_le (by omega), apAll, show hs.length = i by omega]
  | succ n ih =>
    intro i x hi
    have h1 : i < hs.length := by omega
    rw [List.drop_eq_getElem_cons h1, apAll]
    obtain ⟨K, hA⟩ := apply x hs[i]
    by_cases he : (ap x hs[i]).2 = 0
    · rw [if_pos he]
      obtain ⟨K', q⟩ := ih (i + 1) (ap x hs[i]).1 (by omega)
      dsimp only at *
      refine Ev.succ ⟨max K K', fun k hk => ?_⟩
      rw [hunk_All.l0, if_pos (by omega), ix_ h1, Option.bind_some, hA k (by omega), Option.bind_some, if_neg (by simp [he]), w (by omega) (by omega)]
      exact q k (by omega)
    · rw [if_neg he]
      dsimp only at *
      refine Ev.succ ⟨K, fun k hk => ?_⟩
      rw [hunk_All.l0, if_pos (by omega), ix_ h1, Option.bind_some, hA k (by omega), Option.bind_some, if_pos (by simp [he])]
theorem all_ (x : List ByteArray) (hs : List S_At_Old_New) (hl : hs.length ≤ 1000) : Ev (fun k => hunk_All.f k x hs) (if good x = true then apAll hs x 0 else ([], 0, 3)) := by
  unfold hunk_All.f
  refine Ev.bind (lines x) ?_
  cases g : good x with
  | false => exact Ev.pos rfl (Ev.const _)
  | true =>
    refine Ev.neg (by decide) (Ev.now (PureC.clone_ x (good_len g)) ?_)
    rw [if_pos rfl]
    exact all_loop hs hl hs.length 0 x (by omega)
def thin (h : S_At_Old_New) : Prop := h.f1_Old.length ≤ 1000 ∧ h.f2_New.length ≤ 1000
theorem invert_ (h : S_At_Old_New) (t : thin h) : hunk_Invert.f h = some (inv h) := by
  unfold hunk_Invert.f
  rw [PureC.clone_ _ t.2, Option.bind_some, PureC.clone_ _ t.1, Option.bind_some]
  rfl
theorem back_loop (k : Nat) : ∀ (ys x : List S_At_Old_New), (∀ h ∈ ys, thin h) → x.length + ys.length ≤ 1000 → hunk_Back.l0 k ys x = some (x ++ ys.map inv)
  | [], x, _, _ => by rw [hunk_Back.l0]; simp
  | y :: ys, x, h, hl => by
    rw [List.length_cons] at hl
    have ha : app 56 x [inv y] = some (x ++ [inv y]) := by unfold app; rw [if_pos (by rw [List.length_singleton]; omega)]
    rw [hunk_Back.l0, invert_ y (h y (by simp)), Option.bind_some, ha, Option.bind_some, back_loop k ys _ (fun z hz => h z (by simp [hz])) (by rw [List.length_append, List.length_singleton]; omega), List.map_cons, List.append_assoc]
    rfl
theorem back_ (k : Nat) (hs : List S_At_Old_New) (h : ∀ z ∈ hs, thin z) (hl : hs.length ≤ 1000) : hunk_Back.f k hs = some (hs.reverse.map inv) := by
  unfold hunk_Back.f lnb
  rw [if_pos (by omega), Option.bind_some, back_loop k _ _ (fun z hz => h z (by simpa using hz)) (by simp; omega)]
  rfl

/-! ### the law -/
theorem tail_no (l : List ByteArray) (hs : List S_At_Old_New) (x : List ByteArray) (at_ f i : Int) (hc : (decide (i < (hs.length : Int)) && decide (f = 0)) = false) (hA : Ev (fun k => hunk_All.f k l hs) ([], at_, f)) (hf : f ≠ 0) :
    Ev (fun k => quitclaimlaw11_HunkAll.l0 l hs k x at_ f i) true := by
  obtain ⟨K, hA⟩ := hA
  obtain ⟨K', hw⟩ := awake
  dsimp only at *
  refine Ev.succ ⟨max K K', fun k hk => ?_⟩
  rw [quitclaimlaw11_HunkAll.l0, if_neg (by rw [hc]; decide), hA k (by omega), Option.bind_some, if_neg (by simp), if_pos (by simp [hf])]
  have hw := hw k (by omega)
  show (quitclaimlaw11_awake.f k).bind _ = _
  rw [hw]
  rfl
theorem tail_yes (l : List ByteArray) (hs : List S_At_Old_New) (x : List ByteArray) (i : Int) (hc : (decide (i < (hs.length : Int)) && decide ((0 : Int) = 0)) = false) (gl : good l = true) (h : Ch l hs x) (ht : ∀ z ∈ hs, thin z) (hl : hs.length ≤ 1000) :
    Ev (fun k => quitclaimlaw11_HunkAll.l0 l hs k x (hs.length : Int) 0 i) true := by
  have gx : good x = true := h.good gl
  have e1 : apAll hs l 0 = (x, (hs.length : Int), 0) := by
    have := apAll_ch (bs := []) 0 h
    rw [List.append_nil] at this
    rw [this, apAll, Nat.zero_add]
  have e2 : apAll (hs.reverse.map inv) x 0 = (l, (hs.length : Int), 0) := by
    have := apAll_ch (bs := []) 0 h.back
    rw [List.append_nil] at this
    rw [this, apAll, Nat.zero_add, List.length_map, List.length_reverse]
  obtain ⟨K1, q1⟩ := all_ l hs hl
  rw [if_pos gl, e1] at q1
  obtain ⟨K2, q2⟩ := all_ x (hs.reverse.map inv) (by simpa using hl)
  rw [if_pos gx, e2] at q2
  obtain ⟨K3, q3⟩ := same1 x (by have := good_len gx; omega)
  obtain ⟨K4, q4⟩ := same1 l (by have := good_len gl; omega)
  obtain ⟨K5, q5⟩ := awake
  dsimp only at *
  refine Ev.succ ⟨K1 + K2 + K3 + K4 + K5, fun k hk => ?_⟩
  rw [quitclaimlaw11_HunkAll.l0, if_neg (by rw [hc]; decide), q1 k (by omega), Option.bind_some, if_neg (by simp), if_neg (by simp), back_ k hs ht hl, Option.bind_some, q2 k (by omega), Option.bind_some]
  show (quitclaimref05_Same.f k x x).bind _ = _
  rw [q3 k (by omega), Option.bind_some]
  have t : ((true && decide ((0 : Int) = 0)) && decide ((hs.length : Int) = (hs.length : Int))) = true := by simp
  show (gd ((true && decide ((0 : Int) = 0)) && decide ((hs.length : Int) = (hs.length : Int))) (quitclaimref05_Same.f k l l)).bind _ = _
  rw [t, q4 k (by omega)]
  show (quitclaimlaw11_awake.f k).bind _ = _
  rw [q5 k (by omega)]
  rfl
theorem sm_short {x : List ByteArray} (h : short x) : sm x := ⟨by have := h.1; omega, fun s hs => by have := h.2 s hs; omega⟩
theorem loop_ (l : List ByteArray) (hs : List S_At_Old_New) (gl : good l = true) (sl : sm l) (hl : hs.length ≤ 20) : ∀ (n i : Nat) (x : List ByteArray), i + n = hs.length → Ch l (hs.take i) x → sm x → (∀ z ∈ hs.take i, thin z) →
    Ev (fun k => quitclaimlaw11_HunkAll.l0 l hs k x (hs.length : Int) 0 (i : Int)) true := by
  intro n
  induction n with
  | zero =>
    intro i x hi hc sx ht
    rw [List.take_of_length_le (by omega)] at hc ht
    exact tail_yes l hs x i (by simp; omega) gl hc ht (by omega)
  | succ n ih =>
    intro i x hi hc sx ht
    have h1 : i < hs.length := by omega
    have hcond : (decide ((i : Int) < (hs.length : Int)) && decide ((0 : Int) = 0)) = true := by simp; omega
    obtain ⟨b, ⟨K, hb⟩, hsh⟩ := long [hs[i].f1_Old, hs[i].f2_New] (by simp)
    cases b with
    | true =>
      obtain ⟨K', hw⟩ := awake
      dsimp only at *
      refine Ev.succ ⟨max K K', fun k hk => ?_⟩
      rw [quitclaimlaw11_HunkAll.l0, if_pos hcond, ix_ h1, Option.bind_some, Option.bind_some, hb k (by omega), Option.bind_some, if_pos rfl]
      have hw := hw k (by omega)
      rw [hw]
      rfl
    | false =>
      have s1 := hsh rfl hs[i].f1_Old (by simp)
      have s2 := hsh rfl hs[i].f2_New (by simp)
      have sh : smh hs[i] := ⟨sm_short s1, sm_short s2⟩
      obtain ⟨K', hA⟩ := rapply x hs[i] sx sh
      by_cases he : (ap x hs[i]).2 = 0
      · have hc' : Ch l (hs.take (i + 1)) (ap x hs[i]).1 := by
          rw [List.take_succ_eq_append_getElem h1]
          exact hc.app (show Ch x [hs[i]] _ from ⟨he, rfl⟩)
        obtain ⟨K2, q⟩ := ih (i + 1) (ap x hs[i]).1 (by omega) hc' (sm_ap sx sh) (fun z hz => by
          rw [List.take_succ_eq_append_getElem h1] at hz
          rcases List.mem_append.1 hz with hz | hz
          · exact ht z hz
          · obtain rfl : z = hs[i] := by simpa using hz
            exact ⟨by have := s1.1; omega, by have := s2.1; omega⟩)
        dsimp only at *
        refine Ev.succ ⟨K + K' + K2, fun k hk => ?_⟩
        rw [quitclaimlaw11_HunkAll.l0, if_pos hcond, ix_ h1, Option.bind_some, Option.bind_some, hb k (by omega), Option.bind_some, if_neg (by decide), Option.bind_some]
        show (quitclaimref11_Apply.f k x hs[i]).bind _ = _
        rw [hA k (by omega), Option.bind_some, if_neg (by simp [he]), w (by omega) (by omega), he]
        exact q k (by omega)
      · have hA2 : Ev (fun k => hunk_All.f k l hs) ([], (i : Int), (ap x hs[i]).2) := by
          have q := all_ l hs (by omega)
          rw [if_pos gl] at q
          have e : apAll hs l 0 = ([], (i : Int), (ap x hs[i]).2) := by
            have := apAll_ch (bs := hs.drop i) 0 hc
            rw [List.take_append_drop] at this
            rw [this, List.drop_eq_getElem_cons h1, apAll, if_neg he, Nat.zero_add, List.length_take, Nat.min_eq_left (by omega)]
          rwa [e] at q
        obtain ⟨K2, q⟩ := tail_no l hs (ap x hs[i]).1 (i : Int) (ap x hs[i]).2 (w64 ((i : Int) + 1)) (by rw [decide_eq_false he, Bool.and_false]) hA2 he
        dsimp only at *
        refine Ev.succ ⟨K + K' + K2, fun k hk => ?_⟩
        rw [quitclaimlaw11_HunkAll.l0, if_pos hcond, ix_ h1, Option.bind_some, Option.bind_some, hb k (by omega), Option.bind_some, if_neg (by decide), Option.bind_some]
        show (quitclaimref11_Apply.f k x hs[i]).bind _ = _
        rw [hA k (by omega), Option.bind_some, if_pos (by simp [he])]
        exact q k (by omega)
theorem law (l : List ByteArray) (hs : List S_At_Old_New) : Ev (fun k => quitclaimlaw11_HunkAll.f k l hs) true := by
  unfold quitclaimlaw11_HunkAll.f
  obtain ⟨b, hb, hsh⟩ := long [l] (by simp)
  refine Ev.bind hb ?_
  cases b with
  | true => exact Ev.pos rfl (Ev.bind awake (Ev.const true))
  | false =>
    by_cases h20 : hs.length ≤ 20
    · refine Ev.neg (by simp; omega) ?_
      have sl := sm_short (hsh rfl l (by simp))
      unfold jn
      refine Ev.bind (rlines l sl.1 sl.2) ?_
      cases g : good l with
      | false =>
        refine Ev.pos rfl ?_
        have q := all_ l hs (by omega)
        rw [g, if_neg (by decide)] at q
        exact tail_no l hs l 0 3 0 (by simp) q (by decide)
      | true =>
        refine Ev.neg (by decide) ?_
        exact loop_ l hs g sl h20 hs.length 0 l (by omega) rfl sl (by simp)
    · exact Ev.pos (by simp; omega) (Ev.bind awake (Ev.const true))
end Go.Proofs.Ytngcfmnmjkncoaa.PureS
namespace Go.Proofs.Ytngcfmnmjkncoaa.Pure
open Go.Proofs.Ytngcfmnmjkncoaa.Q
theorem hunkAll (l : List ByteArray) (hs : List S_At_Old_New) : ∃ k, quitclaimlaw11_HunkAll.f k l hs = some true := by
  obtain ⟨K, h⟩ := PureS.law l hs
  exact ⟨K, h K (Nat.le_refl _)⟩
end Go.Proofs.Ytngcfmnmjkncoaa.Pure
