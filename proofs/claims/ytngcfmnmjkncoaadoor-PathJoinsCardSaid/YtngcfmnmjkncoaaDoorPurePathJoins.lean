/- PathJoins' pure statement: parts are joined as the reference joins them, or told to be none; a path's parts are it; no condition. -/
import Derived.Test.YtngcfmnmjkncoaaDoorPurePathTells
namespace Go.Proofs.YtngcfmnmjkncoaaDoor.PureP
open Go Go.RowKit Go.Proofs.YtngcfmnmjkncoaaDoor.Q Go.Proofs.YtngcfmnmjkncoaaDoor.Pu
set_option linter.unusedVariables false

theorem glue_app (p : List UInt8) {x : List (List UInt8)} (y : List (List UInt8)) (h : x ≠ []) : glue p (x ++ y) = glue p x ++ y := by
  cases x with
  | nil => exact absurd rfl h
  | cons a r => rfl
theorem spl_app (b : List UInt8) : ∀ a : List UInt8, spl (a ++ 47 :: b) = spl a ++ spl b
  | [] => by rw [List.nil_append, spl_cons, if_pos rfl]; rfl
  | c :: a => by
    rw [List.cons_append, spl_cons, spl_cons, spl_app b a]
    by_cases hc : c = 47
    · rw [if_pos hc, if_pos hc]; rfl
    · rw [if_neg hc, if_neg hc, glue_app _ _ (spl_ne _)]
theorem spl_jo : ∀ (r : List (List UInt8)) (a : List UInt8), spl (a ++ r.flatMap fun b => 47 :: b) = (a :: r).flatMap spl
  | [], a => by simp
  | b :: r, a => by
    rw [List.flatMap_cons, List.cons_append, spl_app, spl_jo r b]; rfl
theorem jo_inter : ∀ (r : List (List UInt8)) (a : List UInt8), [47].intercalate (a :: r) = jo (a :: r)
  | [], a => by simp [List.intercalate, jo]
  | b :: r, a => by
    have h := jo_inter r b
    simp only [List.intercalate, jo, List.intersperse_cons_cons, List.flatten_cons, List.flatMap_cons, List.cons_append, List.nil_append] at h ⊢
    rw [h]
theorem part_no (s : ByteArray) (h : part s = true) : 47 ∉ s.data.toList := by
  unfold part at h
  simp only [Bool.and_eq_true] at h
  have h2 := h.2.2.2
  intro hm
  have := List.all_eq_true.1 h2 47 hm
  exact absurd this (by decide)
theorem spl_one {l : List UInt8} (h : (spl l).length = 1) : spl l = [l] := by
  have e := jo_spl l
  match hs : spl l, h with
  | [a], _ => rw [hs] at e; simp [jo] at e; rw [e]
theorem spl_pos (l : List UInt8) : 0 < (spl l).length := Nat.pos_of_ne_zero fun e => spl_ne _ (List.eq_nil_of_length_eq_zero e)
theorem flat_len : ∀ x : List (List UInt8), x.length ≤ (x.flatMap spl).length
  | [] => by simp
  | a :: x => by rw [List.flatMap_cons, List.length_append, List.length_cons]; have := spl_pos a; have := flat_len x; omega
theorem flat_eq : ∀ x : List (List UInt8), (x.flatMap spl).length = x.length → x.flatMap spl = x
  | [], _ => rfl
  | a :: x, h => by
    rw [List.flatMap_cons, List.length_append, List.length_cons] at h
    have h1 := spl_pos a
    have h2 := flat_len x
    rw [List.flatMap_cons, flat_eq x (by omega), spl_one (by omega)]; rfl
theorem flat_no : ∀ x : List (List UInt8), (∀ a ∈ x, 47 ∉ a) → x.flatMap spl = x
  | [], _ => rfl
  | a :: x, h => by rw [List.flatMap_cons, spl_no a (h a (by simp)), flat_no x (fun b hb => h b (by simp [hb]))]; rfl

/-- The lengths, and one more for each. -/
def lens : List ByteArray → Nat
  | [] => 0
  | p :: l => p.size + 1 + lens l
def joined (l : List ByteArray) : ByteArray := mk (jo (l.map (·.data.toList)))
theorem flat_lens : ∀ l : List ByteArray, ((l.map (·.data.toList)).flatMap fun b => 47 :: b).length = lens l
  | [] => rfl
  | p :: l => by
    have hl : p.data.toList.length = p.size := Array.length_toList
    rw [List.map_cons, List.flatMap_cons, List.length_append, List.length_cons, flat_lens l, lens, hl]
theorem joined_size {l : List ByteArray} (h : l ≠ []) : (joined l).size + 1 = lens l := by
  cases l with
  | nil => exact absurd rfl h
  | cons p l =>
    have hl : p.data.toList.length = p.size := Array.length_toList
    unfold joined
    rw [size_mk]
    simp only [List.map_cons, jo, List.length_append, lens]
    rw [flat_lens, hl]; omega
theorem lens_le : ∀ (l : List ByteArray), (∀ p ∈ l, p.size ≤ 300) → lens l ≤ l.length * 301
  | [], _ => by simp [lens]
  | p :: l, h => by
    have := lens_le l (fun q hq => h q (by simp [hq]))
    have := h p (by simp)
    simp only [lens, List.length_cons]; omega
theorem join_f (a : List ByteArray) (ha : a ≠ []) (h : a.length ≤ 40) (hs : ∀ p ∈ a, p.size ≤ 300) : strings_Join.f a ⟨#[47]⟩ = some (joined a) := by
  have e : Lib.join (a.map (·.data.toList)) [47] = jo (a.map (·.data.toList)) := by
    cases a with
    | nil => exact absurd rfl ha
    | cons p l => exact jo_inter _ _
  have hz := joined_size ha
  have hl := lens_le a hs
  have hn : a.length * 301 ≤ 40 * 301 := Nat.mul_le_mul_right _ h
  have h1 : (jo (a.map (·.data.toList))).length ≤ 140737488355328 := by
    unfold joined at hz; rw [size_mk] at hz; omega
  unfold strings_Join.f
  rw [show (⟨#[47]⟩ : ByteArray).data.toList = [47] from rfl, e, if_pos ⟨h1, by omega⟩]
  rfl
theorem join_go (a : List ByteArray) (ha : a ≠ []) (h : a.length ≤ 40) (hs : ∀ p ∈ a, p.size ≤ 300) : ∀ (n i acc : Nat), i + n = a.length → acc ≤ 201 →
    Ev (fun k => path_Join.l0 a k (acc : Int) (i : Int)) (if ((a.drop i).all part && decide (acc + lens (a.drop i) ≤ 201)) = true then (joined a, 0) else (⟨#[]⟩, 3)) := by
  intro n
  induction n with
  | zero =>
    intro i acc hi hacc
    have e0 : a.drop i = [] := List.drop_eq_nil_of_le (by omega)
    have hc : (([] : List ByteArray).all part && decide (acc + lens [] ≤ 201)) = true := by rw [decide_eq_true (show acc + lens [] ≤ 201 from hacc)]; rfl
    rw [e0, if_pos hc]
    refine Ev.stepc fun k => ?_
    have hlt : ¬ ((i : Int) < (a.length : Int)) := by omega
    rw [path_Join.l0, if_neg hlt, join_f a ha h hs]; rfl
  | succ n ih =>
    intro i acc hi hacc
    have h1 : i < a.length := by omega
    have hp := hs _ (List.getElem_mem h1)
    rw [drop_at h1, List.all_cons, lens]
    refine Ev.step (f := fun k => (gd (!(decide (((acc + (a[i].size + 1) : Nat) : Int) > 201))) (path_part.f k a[i])).bind fun x10 => (if (decide (((acc + (a[i].size + 1) : Nat) : Int) > 201) || !x10) = true then some (⟨#[]⟩, 3) else path_Join.l0 a k ((acc + (a[i].size + 1) : Nat) : Int) ((i + 1 : Nat) : Int))) ?_ fun k => by
      rw [path_Join.l0, if_pos (by omega), ix_ h1, Option.bind_some, w (x := (a[i].size : Int) + 1) (by omega) (by omega), w (x := (acc : Int) + ((a[i].size : Int) + 1)) (by omega) (by omega), w (x := (i : Int) + 1) (by omega) (by omega)]; rfl
    by_cases hbig : ((acc + (a[i].size + 1) : Nat) : Int) > 201
    · rw [decide_eq_true hbig, decide_eq_false (show ¬ (acc + (a[i].size + 1 + lens (a.drop (i + 1))) ≤ 201) by omega), Bool.and_false, if_neg (by decide)]
      exact Ev.bind (Ev.g0 rfl) (Ev.pos rfl (Ev.const _))
    · rw [decide_eq_false hbig]
      refine Ev.bind (Ev.g1 rfl (part_ev a[i] (by omega))) ?_
      cases hpt : part a[i] with
      | false => rw [Bool.false_and, Bool.false_and, if_neg (by decide)]; exact Ev.pos rfl (Ev.const _)
      | true =>
        refine Ev.neg (by decide) ?_
        have q := ih (i + 1) (acc + (a[i].size + 1)) (by omega) (by omega)
        rw [Nat.add_assoc] at q
        rw [Bool.true_and]
        exact q
/-- Are they a path's parts? -/
def good (a : List ByteArray) : Bool := (!(decide (a.length = 0) || decide (a.length > 16))) && (a.all part && decide (lens a ≤ 201))
theorem join_code (a : List ByteArray) (h : a.length ≤ 40) (hs : ∀ p ∈ a, p.size ≤ 300) : Ev (fun k => path_Join.f k a) (if good a = true then (joined a, 0) else (⟨#[]⟩, 3)) := by
  unfold path_Join.f good
  have e1 : decide ((a.length : Int) = 0) = decide (a.length = 0) := by rw [decide_eq_decide]; omega
  have e2 : decide ((a.length : Int) > 16) = decide (a.length > 16) := by rw [decide_eq_decide]; omega
  rw [e1, e2]
  cases hz : (decide (a.length = 0) || decide (a.length > 16)) with
  | true => exact Ev.pos rfl (Ev.const _)
  | false =>
    refine Ev.neg (by decide) ?_
    have ha : a ≠ [] := by rintro rfl; simp at hz
    have q := join_go a ha h hs a.length 0 0 (by omega) (by omega)
    rw [List.drop_zero, Nat.zero_add] at q
    exact q
theorem map_back (a : List ByteArray) : (a.map (·.data.toList)).map mk = a := by
  rw [List.map_map]
  have : ∀ x ∈ a, (mk ∘ fun x : ByteArray => x.data.toList) x = x := fun x _ => mk_list x
  rw [List.map_congr_left this, List.map_id']
theorem ref_join (a : List ByteArray) (h : a.length ≤ 40) (hs : ∀ p ∈ a, p.size ≤ 300) : Ev (fun k => quitclaimref10_Join.f k a) (joined a) := by
  have hl := lens_le a hs
  have hn : a.length * 301 ≤ 40 * 301 := Nat.mul_le_mul_right _ h
  have q := join_ev (a.map (·.data.toList)) (by rw [List.length_map]; omega) (by
    by_cases ha : a = []
    · subst ha; simp [jo]
    · have hz := joined_size ha
      unfold joined at hz; rw [size_mk] at hz; omega)
  rw [map_back] at q
  exact q
theorem spl_joined {a : List ByteArray} (ha : a ≠ []) : spl (joined a).data.toList = (a.map (·.data.toList)).flatMap spl := by
  cases a with
  | nil => exact absurd rfl ha
  | cons p l =>
    unfold joined
    rw [list_mk]
    exact spl_jo _ _
theorem good_spl {a : List ByteArray} (hg : good a = true) : a ≠ [] ∧ spl (joined a).data.toList = a.map (·.data.toList) := by
  unfold good at hg
  simp only [Bool.and_eq_true, Bool.not_eq_true', Bool.or_eq_false_iff, decide_eq_false_iff_not, decide_eq_true_eq] at hg
  have ha : a ≠ [] := by rintro rfl; simp at hg
  refine ⟨ha, ?_⟩
  rw [spl_joined ha]
  refine flat_no _ fun x hx => ?_
  obtain ⟨p, hp, rfl⟩ := List.mem_map.1 hx
  exact part_no p (List.all_eq_true.1 hg.2.1 p hp)
theorem good_eq (a : List ByteArray) : good a = (decide (a.length > 0) && (right (joined a) && decide ((spl (joined a).data.toList).length = a.length))) := by
  rw [Bool.eq_iff_iff]
  constructor
  · intro hg
    obtain ⟨ha, e⟩ := good_spl hg
    have hz := joined_size ha
    unfold good at hg
    simp only [Bool.and_eq_true, Bool.not_eq_true', Bool.or_eq_false_iff, decide_eq_false_iff_not, decide_eq_true_eq] at hg
    unfold right
    rw [e, map_back, List.length_map]
    simp only [Bool.and_eq_true, decide_eq_true_eq]
    exact ⟨by omega, ⟨by omega, hg.2.1, by omega⟩, trivial⟩
  · intro h
    simp only [Bool.and_eq_true, decide_eq_true_eq] at h
    obtain ⟨h0, hr, hn⟩ := h
    have ha : a ≠ [] := by rintro rfl; simp at h0
    have hz := joined_size ha
    have e := spl_joined ha
    rw [e] at hn
    have e2 := flat_eq _ (by rw [List.length_map]; exact hn)
    rw [e2] at e
    unfold right at hr
    rw [e, map_back, List.length_map] at hr
    simp only [Bool.and_eq_true, decide_eq_true_eq] at hr
    unfold good
    simp only [Bool.and_eq_true, Bool.not_eq_true', Bool.or_eq_false_iff, decide_eq_false_iff_not, decide_eq_true_eq]
    exact ⟨⟨by omega, by omega⟩, hr.2.1, by omega⟩

theorem body_ev (a : List ByteArray) (h : a.length ≤ 40) (hs : ∀ p ∈ a, p.size ≤ 300) : Ev (fun k => ((path_Join.f k a).bind fun x25 => ((quitclaimref10_Join.f k a).bind fun x26 => ((gd (decide ((a.length : Int) > 0)) (quitclaimref10_Right.f k x26)).bind fun x27 => ((gd (decide ((a.length : Int) > 0) && x27) (quitclaimref10_Split.f k x26)).bind fun x28 => (if (!((decide ((a.length : Int) > 0) && x27) && decide ((x28.length : Int) = (a.length : Int)))) = true then ((gd (decide (x25.1 = ⟨#[]⟩) && decide (x25.2 = 3)) (quitclaimlaw10_awake.f k)).bind fun x29 => some ((decide (x25.1 = ⟨#[]⟩) && decide (x25.2 = 3)) && x29)) else ((gd (decide (x25.1 = x26) && decide (x25.2 = 0)) (path_Parts.f k x25.1)).bind fun x30 => ((gd (decide (x25.1 = x26) && decide (x25.2 = 0)) (quitclaimref05_Same.f k x30 a)).bind fun x31 => ((gd ((decide (x25.1 = x26) && decide (x25.2 = 0)) && x31) (quitclaimlaw10_awake.f k)).bind fun x32 => some (((decide (x25.1 = x26) && decide (x25.2 = 0)) && x31) && x32)))))))))) true := by
  refine Ev.bind (join_code a h hs) (Ev.bind (ref_join a h hs) ?_)
  have ge := good_eq a
  have e0 : decide ((a.length : Int) > 0) = decide (a.length > 0) := by rw [decide_eq_decide]; omega
  rw [e0]
  have hl := lens_le a hs
  have hn : a.length * 301 ≤ 40 * 301 := Nat.mul_le_mul_right _ h
  cases hz : decide (a.length > 0) with
  | false =>
    rw [hz, Bool.false_and] at ge
    rw [ge]
    simp only [Bool.false_eq_true, if_false]
    refine Ev.bind (Ev.g0 rfl) (Ev.bind (Ev.g0 rfl) (Ev.pos rfl ?_))
    exact Ev.to (Ev.bind (Ev.g1 (by decide) awake_ev) (Ev.const _)) (by decide)
  | true =>
    rw [hz, Bool.true_and] at ge
    have ha : a ≠ [] := by rintro rfl; simp at hz
    have hsz := joined_size ha
    refine Ev.bind (Ev.g1 rfl (rright_ev (joined a))) ?_
    cases hr : right (joined a) with
    | false =>
      rw [hr, Bool.false_and] at ge
      rw [ge]
      simp only [Bool.false_eq_true, if_false]
      refine Ev.bind (Ev.g0 rfl) (Ev.pos rfl ?_)
      exact Ev.to (Ev.bind (Ev.g1 (by decide) awake_ev) (Ev.const _)) (by decide)
    | true =>
      rw [hr, Bool.true_and] at ge
      have h200 : (joined a).size ≤ 200 := by
        unfold right at hr
        simp only [Bool.and_eq_true, decide_eq_true_eq] at hr
        exact hr.1
      refine Ev.bind (Ev.g1 rfl (split_ev (joined a) (by omega))) ?_
      have e3 : decide ((((spl (joined a).data.toList).map mk).length : Int) = (a.length : Int)) = decide ((spl (joined a).data.toList).length = a.length) := by rw [decide_eq_decide, List.length_map]; omega
      rw [e3, ← ge]
      cases hg : good a with
      | false =>
        simp only [Bool.false_eq_true, if_false]
        refine Ev.pos rfl ?_
        exact Ev.to (Ev.bind (Ev.g1 (by decide) awake_ev) (Ev.const _)) (by decide)
      | true =>
        refine Ev.neg (by decide) ?_
        rw [if_pos rfl]
        obtain ⟨_, e⟩ := good_spl hg
        have ht : (decide (joined a = joined a) && decide ((0 : Int) = 0)) = true := by simp
        have hp : Ev (fun k => path_Parts.f k (joined a)) a := by
          unfold path_Parts.f
          have q := split_code (joined a) (by omega)
          rw [e, map_back] at q
          exact Ev.bind (hr ▸ right_ev (joined a)) (Ev.neg (by decide) (Ev.bind q (Ev.const _)))
        refine Ev.bind (Ev.g1 ht hp) (Ev.bind (Ev.g1 ht (same1 a (by omega))) ?_)
        have ht2 : ((decide (joined a = joined a) && decide ((0 : Int) = 0)) && true) = true := by simp
        exact Ev.to (Ev.bind (Ev.g1 ht2 awake_ev) (Ev.const _)) (by simp)
theorem joins_go (a : List ByteArray) (h : a.length ≤ 40) : ∀ (n i : Nat), i + n = a.length → (∀ p ∈ a.take i, p.size ≤ 300) → Ev (fun k => quitclaimlaw10_PathJoins.l0 a k (i : Int)) true := by
  intro n
  induction n with
  | zero =>
    intro i hi hs
    rw [List.take_of_length_le (by omega)] at hs
    refine Ev.step (body_ev a h hs) fun k => ?_
    rw [quitclaimlaw10_PathJoins.l0, if_neg (by omega)]
  | succ n ih =>
    intro i hi hs
    have h1 : i < a.length := by omega
    by_cases hb : ((a[i].size : Int) > 300)
    · refine Ev.step (f := fun k => (quitclaimlaw10_awake.f k).bind fun x24 => some x24) (Ev.bind awake_ev (Ev.const _)) fun k => ?_
      rw [quitclaimlaw10_PathJoins.l0, if_pos (by omega), ix_ h1, Option.bind_some, if_pos hb]
    · refine Ev.step (ih (i + 1) (by omega) (fun p hp => ?_)) fun k => ?_
      · rw [List.take_succ_eq_append_getElem h1] at hp
        rcases List.mem_append.1 hp with hp | hp
        · exact hs p hp
        · obtain rfl : p = a[i] := by simpa using hp
          omega
      · rw [quitclaimlaw10_PathJoins.l0, if_pos (by omega), ix_ h1, Option.bind_some, if_neg hb, w (by omega) (by omega)]; rfl
theorem joins_law (a : List ByteArray) : Ev (fun k => quitclaimlaw10_PathJoins.f k a) true := by
  unfold quitclaimlaw10_PathJoins.f
  by_cases h : (a.length : Int) > 40
  · exact Ev.pos h (Ev.bind awake_ev (Ev.const _))
  · refine Ev.neg h ?_
    exact joins_go a (by omega) a.length 0 (by omega) (by simp)
end Go.Proofs.YtngcfmnmjkncoaaDoor.PureP
namespace Go.Proofs.YtngcfmnmjkncoaaDoor.Pure
theorem pathJoins (a : List ByteArray) : ∃ k, Q.quitclaimlaw10_PathJoins.f k a = some true := by
  obtain ⟨K, h⟩ := PureP.joins_law a
  exact ⟨K, h K (Nat.le_refl _)⟩
end Go.Proofs.YtngcfmnmjkncoaaDoor.Pure
