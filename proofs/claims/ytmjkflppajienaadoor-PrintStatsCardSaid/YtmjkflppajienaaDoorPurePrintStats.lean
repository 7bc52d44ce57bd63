/- The law of layer 35 on words and numbers; no condition but the typed premises. -/
import Derived.Test.YtmjkflppajienaaDoorPPrint
namespace Go.Proofs.YtmjkflppajienaaDoor.R.Pu
open Go Go.RowKit
set_option linter.unusedVariables false
set_option linter.unusedSimpArgs false

theorem zk_byt : Byt (vlist 32 zk) := by
  intro x hx
  have : vlist 32 zk = List.replicate 32 0 := rfl
  rw [this] at hx
  obtain ⟨_, rfl⟩ := List.mem_replicate.1 hx
  omega
def og : Op := (5, e0, e0, 0, [], [], zk, 2, ())
theorem og_sz : Sz og := ⟨by decide, by decide, by decide, by decide, fun s hs => absurd hs (by simp [og]), fun s hs => absurd hs (by simp [og]), zk_byt⟩
theorem og_wrg : wrg og = 0 := by
  have h : fm og = true := rfl
  unfold wrg
  rw [h]; rfl
theorem og_txt : opT og = [103, 114, 97, 110, 116, 32, 50, 32] ++ List.replicate 64 48 ++ [32, 10] := by
  have hd : Lib.decDigits 2 = [50] := by rw [Lib.decDigits]; rfl
  show Lib.join [wd 5, Lib.decDigits 2, hex zk, []] [32] ++ [10] ++ [] ++ [] = _
  rw [hd]; rfl
theorem awake35 : quitclaimlaw35_awake.f = some true := by
  refine quitclaimlaw35_awake.in ?_
  have h := op_print og og_sz
  rw [og_wrg, og_txt] at h
  rw [show print_Op.f (5, ⟨⟨[]⟩⟩, ⟨⟨[]⟩⟩, 0, [], [], (0, 0, 0, 0, 0, 0, 0, 0, 0, 0, 0, 0, 0, 0, 0, 0, 0, 0, 0, 0, 0, 0, 0, 0, 0, 0, 0, 0, 0, 0, 0, 0, ()), 2, ()) = _ from h]
  rfl
theorem few35 (l : List Op) (h : l.length ≤ 9223372036854775807) : quitclaimlaw35_few.f l = some (!(l.any lng) && decide (l.length ≤ 12)) := by
  refine quitclaimlaw35_few.in _ ?_
  refine (wh_list l (fun i (_ : Unit) => (l, l, (l.length : Int), i, ())) (fun _ _ => True) (fun y _ => !(y.any lng) && decide (l.length ≤ 12)) (fun _ r _ => ?_) (fun i _ r hi _ hr => ?_) () trivial).trans rfl
  · simp (disch := omega) only [decide_eq_true_eq, if_neg]
    rw [List.any_nil, Bool.not_false, Bool.true_and]
    congr 1
    rw [decide_eq_decide]; omega
  · simp (disch := omega) only [decide_eq_true_eq, if_pos, ix_, Option.bind_some, wS, long_ev]
    rw [List.any_cons]
    cases lng l[i] with
    | true => rfl
    | false => exact hr () trivial

/-! ### numbers -/
abbrev M : Type := List (ByteArray × Bool)
def pth (o : Op) : List ByteArray := bif decide (o.1 = 4) then [o.2.1, o.2.2.1] else [o.2.1]
noncomputable def mps (l : List ByteArray) (m : M) : M := l.foldl (fun m p => mput .s .b m p true) m
noncomputable def cnts (o : Op) : Bool := decide (wrg o = 0) && decide (o.1 ≤ 4)
noncomputable def sta : List Op → M × Nat × Nat → M × Nat × Nat
  | [], s => s
  | o :: l, s => sta l (bif cnts o then (mps (pth o) s.1, s.2.1 + o.2.2.2.2.2.1.length, s.2.2 + o.2.2.2.2.1.length) else s)
theorem cnts_eq {o : Op} (h : wrg o = 0) : (decide (o.1 = 5) || decide (o.1 = 6)) = !cnts o ∧ decide (o.1 > 4) = !cnts o := by
  have := (wrg_ok h).1
  unfold cnts
  rw [decide_eq_true h, Bool.true_and]
  by_cases h4 : o.1 ≤ 4
  · rw [decide_eq_true h4, decide_eq_false (show ¬ o.1 = 5 by omega), decide_eq_false (show ¬ o.1 = 6 by omega), decide_eq_false (show ¬ o.1 > 4 by omega)]; exact ⟨rfl, rfl⟩
  · rw [decide_eq_false h4, decide_eq_true (show o.1 > 4 by omega)]
    refine ⟨?_, rfl⟩
    rcases (by omega : o.1 = 5 ∨ o.1 = 6) with h | h <;> rw [h] <;> rfl
theorem stat_ev (l : List Op) (hl : l.length ≤ 1000) (hs : ∀ o ∈ l, Sh1 o) : print_Stat.f l = some (((sta l ([], 0, 0)).1.length : Int), ((sta l ([], 0, 0)).2.1 : Int), ((sta l ([], 0, 0)).2.2 : Int), ()) := by
  refine print_Stat.in _ ?_
  refine (wh_list l (fun i (s : M × Nat × Nat) => (((s.2.1 : Int), (s.2.2 : Int), (), l, (l.length : Int), i, ()), s.1, ())) (fun i s => s.2.1 ≤ i * 1000 ∧ s.2.2 ≤ i * 1000) (fun l s => (((sta l s).1.length : Int), ((sta l s).2.1 : Int), ((sta l s).2.2 : Int), ())) (fun s r hI => ?_) (fun i s r hi hI hr => ?_) ([], 0, 0) (by simp)).trans rfl
  · simp (disch := omega) only [decide_eq_true_eq, if_neg]
    rfl
  · obtain ⟨m, a, b⟩ := s
    obtain ⟨I1, I2⟩ := hI
    simp only at I1 I2
    have z := hs _ (List.getElem_mem hi)
    have za := z.a
    have zb := z.b
    have b1 : a + l[i].2.2.2.2.2.1.length ≤ (i + 1) * 1000 := by rw [Nat.add_mul]; exact Nat.add_le_add I1 (Nat.le_trans zb (by decide))
    have b2 : b + l[i].2.2.2.2.1.length ≤ (i + 1) * 1000 := by rw [Nat.add_mul]; exact Nat.add_le_add I2 (Nat.le_trans za (by decide))
    have b3 : a ≤ (i + 1) * 1000 := Nat.le_trans I1 (Nat.mul_le_mul_right _ (Nat.le_succ i))
    have b4 : b ≤ (i + 1) * 1000 := Nat.le_trans I2 (Nat.mul_le_mul_right _ (Nat.le_succ i))
    simp (disch := omega) only [decide_eq_true_eq, if_pos, ix_, Option.bind_some, wS]
    rw [oright_ev _ (by omega) (by omega), Option.bind_some]
    by_cases h0 : wrg l[i] = 0
    · have hp : op_Policy.f l[i] = some (!cnts l[i]) := op_Policy.in _ (by rw [(cnts_eq h0).1])
      rw [decide_eq_true h0]
      simp only [Bool.not_true, Bool.not_false, gdT, hp, Option.bind_some, Bool.false_or]
      rw [show sta (l[i] :: l.drop (i + 1)) (m, a, b) = sta (l.drop (i + 1)) (bif cnts l[i] then (mps (pth l[i]) m, a + l[i].2.2.2.2.2.1.length, b + l[i].2.2.2.2.1.length) else (m, a, b)) from rfl]
      cases hc : cnts l[i] with
      | false => rw [if_pos (by rfl)]; exact hr (m, a, b) ⟨b3, b4⟩
      | true =>
        rw [if_neg (by decide)]
        simp only [cond_true]
        have hpath : op_Paths.f l[i] = some (pth l[i]) := op_Paths.in _ (by
          rw [oright_ev _ (by omega) (by omega), Option.bind_some, decide_eq_true h0, if_neg (by decide)]
          unfold pth
          cases decide (l[i].1 = 4) <;> rfl)
        have hpl : (pth l[i]).length ≤ 2 := by unfold pth; cases decide (l[i].1 = 4) <;> simp
        rw [hpath, Option.bind_some]
        generalize hps : pth l[i] = ps at *
        refine (wh_list ps (fun j (m : M) => (((a : Int), (b : Int), (), (), l, (l.length : Int), (i : Int), ps, (ps.length : Int), j, ()), m, l[i], ())) (fun _ _ => True) (fun q m => (((sta (l.drop (i + 1)) (mps q m, a + l[i].2.2.2.2.2.1.length, b + l[i].2.2.2.2.1.length)).1.length : Int), ((sta (l.drop (i + 1)) (mps q m, a + l[i].2.2.2.2.2.1.length, b + l[i].2.2.2.2.1.length)).2.1 : Int), ((sta (l.drop (i + 1)) (mps q m, a + l[i].2.2.2.2.2.1.length, b + l[i].2.2.2.2.1.length)).2.2 : Int), ())) (fun m r' _ => ?_) (fun j m r' hj _ hr' => ?_) m trivial).trans rfl
        · simp (disch := omega) only [decide_eq_true_eq, if_neg]
          have e1 : w64 ((a : Int) + (l[i].2.2.2.2.2.1.length : Int)) = ((a + l[i].2.2.2.2.2.1.length : Nat) : Int) := by rw [w_ (by omega) (by omega)]; rfl
          have e2 : w64 ((b : Int) + (l[i].2.2.2.2.1.length : Int)) = ((b + l[i].2.2.2.2.1.length : Nat) : Int) := by rw [w_ (by omega) (by omega)]; rfl
          rw [e1, e2, wS (by omega)]
          exact hr (m, a + l[i].2.2.2.2.2.1.length, b + l[i].2.2.2.2.1.length) ⟨b1, b2⟩
        · simp (disch := omega) only [decide_eq_true_eq, if_pos, ix_, Option.bind_some, wS]
          exact hr' _ trivial
    · rw [decide_eq_false h0]
      simp only [Bool.not_true, Bool.not_false, gdF, Option.bind_some, Bool.true_or, if_true]
      have hc : cnts l[i] = false := by unfold cnts; rw [decide_eq_false h0]; rfl
      rw [show sta (l[i] :: l.drop (i + 1)) (m, a, b) = sta (l.drop (i + 1)) (bif cnts l[i] then (mps (pth l[i]) m, a + l[i].2.2.2.2.2.1.length, b + l[i].2.2.2.2.1.length) else (m, a, b)) from rfl]
      rw [hc]
      exact hr (m, a, b) ⟨b3, b4⟩

/-! ### words -/
noncomputable def shw (o : Op) : List UInt8 := wd (bif decide (wrg o = 0) then o.1 else 0)
theorem shw_len (o : Op) : (shw o).length ≤ 6 := by
  unfold shw
  by_cases h : wrg o = 0
  · have := (wrg_ok h).1
    rw [decide_eq_true h, cond_true]
    unfold wd
    obtain ⟨n, hn⟩ : ∃ n : Nat, o.1 = (n : Int) := ⟨o.1.toNat, by omega⟩
    rw [hn, Int.toNat_natCast]
    rcases (by omega : n = 1 ∨ n = 2 ∨ n = 3 ∨ n = 4 ∨ n = 5 ∨ n = 6) with rfl | rfl | rfl | rfl | rfl | rfl <;> decide
  · rw [decide_eq_false h]; show (wd 0).length ≤ 6; decide
theorem wd_ix (k : Int) (h : 0 ≤ k) (h' : k ≤ 6) : ix [bmk [110, 111, 110, 101], bmk [99, 114, 101, 97, 116, 101], bmk [114, 101, 109, 111, 118, 101], bmk [101, 100, 105, 116], bmk [109, 111, 118, 101], bmk [103, 114, 97, 110, 116], bmk [114, 101, 118, 111, 107, 101]] k = some (bmk (wd k)) := by
  obtain ⟨n, rfl⟩ : ∃ n : Nat, k = (n : Int) := ⟨k.toNat, by omega⟩
  unfold wd
  rw [Int.toNat_natCast]
  rcases (by omega : n = 0 ∨ n = 1 ∨ n = 2 ∨ n = 3 ∨ n = 4 ∨ n = 5 ∨ n = 6) with rfl | rfl | rfl | rfl | rfl | rfl | rfl <;> rfl
theorem short_ev (l : List Op) (hl : l.length ≤ 1000) (hs : ∀ o ∈ l, Sh1 o) : print_Short.f l = some (bmk (Lib.join (l.map shw) [32])) := by
  refine print_Short.in _ ?_
  have hwd : print_words.f = some (bmk [110, 111, 110, 101], bmk [99, 114, 101, 97, 116, 101], bmk [114, 101, 109, 111, 118, 101], bmk [101, 100, 105, 116], bmk [109, 111, 118, 101], bmk [103, 114, 97, 110, 116], bmk [114, 101, 118, 111, 107, 101], ()) := print_words.in rfl
  refine (wh_list l (fun i (s : List (List UInt8)) => ((s.map bmk, l, (l.length : Int), i, ()), (), ())) (fun i s => s.length ≤ i ∧ ∀ x ∈ s, x.length ≤ 6) (fun l s => bmk (Lib.join (s ++ l.map shw) [32])) (fun s r hI => ?_) (fun i s r hi hI hr => ?_) [] (by simp)).trans rfl
  · simp (disch := omega) only [decide_eq_true_eq, if_neg]
    have e : (s.map bmk).map (·.data.toList) = s := by rw [List.map_map]; exact (List.map_congr_left fun x _ => list_bmk x).trans (List.map_id s)
    have hj := join_len s 6 hI.2
    have hj2 : s.length * (6 + 1) ≤ 1000 * 7 := Nat.mul_le_mul_right _ (by omega)
    have hjn : strings_Join.f (s.map bmk) ⟨⟨[32]⟩⟩ = some (bmk (Lib.join s [32])) := strings_Join.in _ _ (by
      unfold strings_Join.g
      rw [e]
      exact if_pos ⟨Nat.le_trans hj (by omega), by rw [List.length_map]; omega⟩)
    rw [hjn, Option.bind_some, List.map_nil, List.append_nil]
  · have z := hs _ (List.getElem_mem hi)
    have za := z.a
    have zb := z.b
    simp (disch := omega) only [decide_eq_true_eq, if_pos, ix_, Option.bind_some, wS]
    rw [oright_ev _ (by omega) (by omega)]
    simp (disch := omega) only [jn_eq, hwd, Option.bind_some, wS]
    have fin : ∀ k : Int, 0 ≤ k → k ≤ 6 → wd k = shw l[i] → ((ix (vlist 7 ((bmk [110, 111, 110, 101], bmk [99, 114, 101, 97, 116, 101], bmk [114, 101, 109, 111, 118, 101], bmk [101, 100, 105, 116], bmk [109, 111, 118, 101], bmk [103, 114, 97, 110, 116], bmk [114, 101, 118, 111, 107, 101], ()) : Vec ByteArray 7)) k).bind fun x7 => (app 16 (s.map bmk) [x7]).bind fun x8 => r ((x8, l, (l.length : Int), ((i + 1 : Nat) : Int), ()), (), ())) = some (bmk (Lib.join (s ++ (l[i] :: l.drop (i + 1)).map shw) [32])) := fun k k0 k6 hk => by
      rw [show ix (vlist 7 ((bmk [110, 111, 110, 101], bmk [99, 114, 101, 97, 116, 101], bmk [114, 101, 109, 111, 118, 101], bmk [101, 100, 105, 116], bmk [109, 111, 118, 101], bmk [103, 114, 97, 110, 116], bmk [114, 101, 118, 111, 107, 101], ()) : Vec ByteArray 7)) k = some (bmk (wd k)) from wd_ix k k0 k6, Option.bind_some, app_ (by rw [List.length_map, List.length_singleton]; omega), Option.bind_some, hk]
      have h6 := shw_len l[i]
      have := hr (s ++ [shw l[i]]) ⟨by rw [List.length_append, List.length_singleton]; omega, fun x hx => by
        rcases List.mem_append.1 hx with hx | hx
        · exact hI.2 x hx
        · rw [List.mem_singleton] at hx; rw [hx]; exact h6⟩
      rw [List.map_append, List.map_singleton] at this
      refine this.trans ?_
      rw [List.map_cons, List.append_assoc]; rfl
    by_cases h0 : wrg l[i] = 0
    · have := (wrg_ok h0).1
      rw [decide_eq_true h0, if_neg (by decide)]
      exact fin l[i].1 (by omega) (by omega) (by unfold shw; rw [decide_eq_true h0]; rfl)
    · rw [decide_eq_false h0, if_pos (by decide)]
      exact fin 0 (by omega) (by omega) (by unfold shw; rw [decide_eq_false h0]; rfl)
theorem join_cons (a : List UInt8) (l : List (List UInt8)) : Lib.join (a :: l) [32] = a ++ l.flatMap fun x => 32 :: x := by
  unfold Lib.join
  induction l generalizing a with
  | nil => simp [List.intercalate]
  | cons b l ih =>
    have e : [32].intercalate (a :: b :: l) = a ++ ([32] ++ [32].intercalate (b :: l)) := by simp [List.intercalate]
    rw [e, ih b]; simp
noncomputable def jt (b : Bool) (l : List Op) : List UInt8 := bif b then l.flatMap fun o => 32 :: shw o else Lib.join (l.map shw) [32]
theorem rshort_ev (l : List Op) (hl : l.length ≤ 1000) (hs : ∀ o ∈ l, Sh1 o) : quitclaimref35_Short.f l = some (bmk (Lib.join (l.map shw) [32])) := by
  refine quitclaimref35_Short.in _ ?_
  refine (wh_list l (fun i (s : Bool × List UInt8) => (l, bmk s.2, i, ())) (fun i s => s.1 = decide (0 < i) ∧ s.2.length ≤ i * 7) (fun l s => bmk (s.2 ++ jt s.1 l)) (fun s r hI => ?_) (fun i s r hi hI hr => ?_) (false, []) (by simp)).trans rfl
  · simp (disch := omega) only [decide_eq_true_eq, if_neg]
    have : jt s.1 [] = [] := by unfold jt; cases s.1 <;> rfl
    rw [this, List.append_nil]
  · obtain ⟨b, s⟩ := s
    obtain ⟨I1, I2⟩ := hI
    simp only at I1 I2
    have z := hs _ (List.getElem_mem hi)
    have za := z.a
    have zb := z.b
    have zc := z.c
    have zd := z.d
    have h6 := shw_len l[i]
    simp (disch := omega) only [decide_eq_true_eq, if_pos]
    simp only [jn_eq]
    have fin : ∀ t : List UInt8, t.length ≤ i * 7 + 1 → t ++ shw l[i] ++ jt true (l.drop (i + 1)) = s ++ jt b (l[i] :: l.drop (i + 1)) → ((ix l (i : Int)).bind fun x5 => (quitclaimref13_Right.f x5).bind fun x6 => if (!decide (x6 = 0)) = true then ((cat (bmk t) ⟨⟨[110, 111, 110, 101]⟩⟩).bind fun x7 => r (l, x7, w64 ((i : Int) + 1), ())) else (ix l (i : Int)).bind fun x8 => (quitclaimref35_word.f x8.1).bind fun x9 => (cat (bmk t) x9).bind fun x10 => r (l, x10, w64 ((i : Int) + 1), ())) = some (bmk (s ++ jt b (l[i] :: l.drop (i + 1)))) := fun t ht he => by
      rw [ix_ hi, Option.bind_some, rright_op _ (by omega) (by omega) (fun x hx => by have := zc x hx; omega) (fun x hx => by have := zd x hx; omega), Option.bind_some, wS (by omega)]
      have go := hr (true, t ++ shw l[i]) ⟨by simp, by simp only [List.length_append]; omega⟩
      simp only at go
      rw [he] at go
      by_cases h0 : wrg l[i] = 0
      · have := (wrg_ok h0).1
        rw [decide_eq_true h0, if_neg (by decide), Option.bind_some]
        have hw : quitclaimref35_word.f l[i].1 = some (bmk (wd l[i].1)) := quitclaimref35_word.in _ (congrArg (fun o : Option ByteArray => o.bind fun x1 => some x1) (wd_ix l[i].1 (by omega) (by omega)))
        have hk : shw l[i] = wd l[i].1 := by unfold shw; rw [decide_eq_true h0]; rfl
        rw [hw, Option.bind_some, ← hk, cat_ (by rw [size_bmk, size_bmk]; omega), Option.bind_some, bmk_app]
        exact go
      · have hk : shw l[i] = [110, 111, 110, 101] := by unfold shw; rw [decide_eq_false h0]; rfl
        rw [decide_eq_false h0, if_pos (by decide), show (⟨⟨[110, 111, 110, 101]⟩⟩ : ByteArray) = bmk [110, 111, 110, 101] from rfl, ← hk, cat_ (by rw [size_bmk, size_bmk]; omega), Option.bind_some, bmk_app]
        exact go
    by_cases h0 : 0 < i
    · rw [decide_eq_true h0] at I1
      subst I1
      rw [if_pos (show (i : Int) > 0 by omega)]
      have s1 : (⟨⟨[32]⟩⟩ : ByteArray).size = 1 := rfl
      rw [cat_ (by rw [size_bmk, s1]; omega), Option.bind_some, show bmk s ++ (⟨⟨[32]⟩⟩ : ByteArray) = bmk (s ++ [32]) from bmk_app s [32]]
      refine fin (s ++ [32]) (by rw [List.length_append, List.length_singleton]; omega) ?_
      rw [show jt true (l[i] :: l.drop (i + 1)) = (32 :: shw l[i]) ++ jt true (l.drop (i + 1)) from rfl]
      simp only [List.append_assoc, List.cons_append, List.nil_append]
    · obtain rfl : i = 0 := by omega
      rw [decide_eq_false h0] at I1
      subst I1
      rw [if_neg (show ¬ ((0 : Nat) : Int) > 0 by omega)]
      refine fin s (by omega) ?_
      simp only [jt, cond_true, cond_false, List.map_cons, join_cons, List.append_assoc, List.flatMap_map]
end Go.Proofs.YtmjkflppajienaaDoor.R.Pu
namespace Go.Proofs.YtmjkflppajienaaDoor.R.Pure
open Go Go.RowKit Pu
set_option linter.unusedVariables false
set_option linter.unusedSimpArgs false
theorem printStats (l : List Pu.Op) {Q : Prop} (y : List.length l ≤ maxLen ∧ Q) : quitclaimlaw35_PrintStats.f l = some true := by
  refine quitclaimlaw35_PrintStats.in _ ?_
  have hl : l.length ≤ 9223372036854775807 := by have := y.1; unfold maxLen at this; omega
  rw [few35 l hl, Option.bind_some]
  cases hf : !(l.any lng) && decide (l.length ≤ 12) with
  | false => rw [if_pos (show (!false) = true from rfl), awake35]; rfl
  | true =>
    simp only [Bool.and_eq_true, Bool.not_eq_true', decide_eq_true_eq] at hf
    have hs : ∀ o ∈ l, Sh1 o := fun o ho => sh_of (by have := List.any_eq_false.1 hf.1 o ho; simpa using this)
    rw [if_neg (by decide), stat_ev l (by omega) hs, Option.bind_some]
    simp only []
    generalize hR : sta l ([], 0, 0) = R
    refine (wh_list l (fun i (s : M × Nat × Nat) => ((l, (R.1.length : Int), (R.2.1 : Int), (R.2.2 : Int), (), (s.2.1 : Int), (s.2.2 : Int), l, (l.length : Int), i, ()), s.1, ())) (fun i s => s.2.1 ≤ i * 1000 ∧ s.2.2 ≤ i * 1000 ∧ sta (l.drop i) s = R) (fun _ _ => true) (fun s r hI => ?_) (fun i s r hi hI hr => ?_) ([], 0, 0) (by simp [hR])).trans rfl
    · obtain ⟨_, _, I3⟩ := hI
      rw [List.drop_length] at I3
      obtain rfl : s = R := I3
      simp (disch := omega) only [decide_eq_true_eq, if_neg]
      rw [short_ev l (by omega) hs, rshort_ev l (by omega) hs, awake35]
      simp only [decide_true, Bool.and_true, Bool.and_self, gdT, Option.bind_some]
    · obtain ⟨m, a, b⟩ := s
      obtain ⟨I1, I2, I3⟩ := hI
      simp only at I1 I2
      rw [List.drop_eq_getElem_cons hi] at I3
      change sta (l.drop (i + 1)) (bif cnts l[i] then (mps (pth l[i]) m, a + l[i].2.2.2.2.2.1.length, b + l[i].2.2.2.2.1.length) else (m, a, b)) = R at I3
      have z := hs _ (List.getElem_mem hi)
      have za := z.a
      have zb := z.b
      have zc := z.c
      have zd := z.d
      have b1 : a + l[i].2.2.2.2.2.1.length ≤ (i + 1) * 1000 := by rw [Nat.add_mul]; exact Nat.add_le_add I1 (Nat.le_trans zb (by decide))
      have b2 : b + l[i].2.2.2.2.1.length ≤ (i + 1) * 1000 := by rw [Nat.add_mul]; exact Nat.add_le_add I2 (Nat.le_trans za (by decide))
      have b3 : a ≤ (i + 1) * 1000 := Nat.le_trans I1 (Nat.mul_le_mul_right _ (Nat.le_succ i))
      have b4 : b ≤ (i + 1) * 1000 := Nat.le_trans I2 (Nat.mul_le_mul_right _ (Nat.le_succ i))
      simp (disch := omega) only [decide_eq_true_eq, if_pos, ix_, Option.bind_some, wS]
      rw [rright_op _ (by omega) (by omega) (fun x hx => by have := zc x hx; omega) (fun x hx => by have := zd x hx; omega), Option.bind_some]
      have hb : (!decide (wrg l[i] = 0) || decide (l[i].1 > 4)) = !cnts l[i] := by
        by_cases h0 : wrg l[i] = 0
        · rw [(cnts_eq h0).2, decide_eq_true h0]; rfl
        · unfold cnts; rw [decide_eq_false h0]; rfl
      rw [hb]
      cases hc : cnts l[i] with
      | false =>
        rw [hc] at I3
        rw [if_pos (by rfl)]
        exact hr (m, a, b) ⟨b3, b4, I3⟩
      | true =>
        rw [hc, cond_true] at I3
        rw [if_neg (by decide)]
        have hpath : quitclaimref13_Paths.f l[i] = some (pth l[i]) := quitclaimref13_Paths.in _ (by
          unfold pth
          cases decide (l[i].1 = 4) <;> rfl)
        have hpl : (pth l[i]).length ≤ 2 := by unfold pth; cases decide (l[i].1 = 4) <;> simp
        rw [hpath, Option.bind_some]
        generalize pth l[i] = ps at *
        refine (wh_list ps (fun j (m : M) => ((l, (R.1.length : Int), (R.2.1 : Int), (R.2.2 : Int), (), (a : Int), (b : Int), (), l, (l.length : Int), (i : Int), ps, (ps.length : Int), j, ()), m, l[i], ())) (fun j m => sta (l.drop (i + 1)) (mps (ps.drop j) m, a + l[i].2.2.2.2.2.1.length, b + l[i].2.2.2.2.1.length) = R) (fun _ _ => true) (fun m r' hJ => ?_) (fun j m r' hj hJ hr' => ?_) m (by simpa using I3)).trans rfl
        · rw [List.drop_length] at hJ
          simp (disch := omega) only [decide_eq_true_eq, if_neg]
          have e1 : w64 ((a : Int) + (l[i].2.2.2.2.2.1.length : Int)) = ((a + l[i].2.2.2.2.2.1.length : Nat) : Int) := by rw [w_ (by omega) (by omega)]; rfl
          have e2 : w64 ((b : Int) + (l[i].2.2.2.2.1.length : Int)) = ((b + l[i].2.2.2.2.1.length : Nat) : Int) := by rw [w_ (by omega) (by omega)]; rfl
          rw [e1, e2, wS (by omega)]
          exact hr (m, a + l[i].2.2.2.2.2.1.length, b + l[i].2.2.2.2.1.length) ⟨b1, b2, hJ⟩
        · rw [List.drop_eq_getElem_cons hj] at hJ
          simp (disch := omega) only [decide_eq_true_eq, if_pos, ix_, Option.bind_some, wS]
          exact hr' _ hJ
end Go.Proofs.YtmjkflppajienaaDoor.R.Pure
