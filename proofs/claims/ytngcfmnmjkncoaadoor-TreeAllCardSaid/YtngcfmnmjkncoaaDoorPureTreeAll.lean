/- TreeAll; no condition. -/
import Derived.Test.YtngcfmnmjkncoaaDoorPureUndo
namespace Go.Proofs.YtngcfmnmjkncoaaDoor.PureT
open Go Go.RowKit Go.Proofs.YtngcfmnmjkncoaaDoor.Q Go.Proofs.YtngcfmnmjkncoaaDoor.Pu
open Go.Proofs.YtngcfmnmjkncoaaDoor.PureO (O wr_ hk zk)
set_option linter.unusedVariables false

def Chn : List File → List O → List File → Prop
  | x, [], z => x = z
  | x, o :: os, z => (st x o).2 = 0 ∧ Chn (st x o).1 os z
theorem al_ch (l0 : List File) : ∀ (os : List O) (x : List File) (i : Nat), ∃ (m : Nat) (t : List File), m ≤ os.length ∧ Chn x (os.take m) t ∧ al l0 (os.take m) x i = (t, ((i + m : Nat) : Int), 0) ∧
    ((m = os.length ∧ al l0 os x i = (t, ((i + m : Nat) : Int), 0)) ∨ (∃ e, e ≠ 0 ∧ al l0 os x i = (l0, ((i + m : Nat) : Int), e)))
  | [], x, i => ⟨0, x, Nat.le_refl _, rfl, rfl, .inl ⟨rfl, rfl⟩⟩
  | o :: os, x, i => by
    by_cases he : (st x o).2 = 0
    · obtain ⟨m, t, h1, h2, h3, h4⟩ := al_ch l0 os (st x o).1 (i + 1)
      have e : i + 1 + m = i + (m + 1) := by omega
      rw [e] at h3 h4
      refine ⟨m + 1, t, by simp; omega, ⟨he, h2⟩, ?_, ?_⟩
      · rw [List.take_succ_cons, al, if_pos he]; exact h3
      · rw [al, if_pos he, List.length_cons]
        exact h4.imp (fun h => ⟨by omega, h.2⟩) _root_.id
    · exact ⟨0, x, Nat.zero_le _, rfl, rfl, .inr ⟨_, he, by rw [al, if_neg he]; rfl⟩⟩
theorem Chn.tr : ∀ {os : List O} {x z : List File}, (∀ o ∈ os, smo o) → Tr x → Ap x → Chn x os z → Tr z ∧ Ap z
  | [], x, z, _, T, A, h => by cases h; exact ⟨T, A⟩
  | o :: os, x, z, hs, T, A, h => Chn.tr (fun p hp => hs p (by simp [hp])) (T.step (hs o (by simp)).1 (hs o (by simp)).2 h.1) (A.step T h.1) h.2
theorem Chn.last : ∀ {os : List O} {o : O} {x z : List File}, Chn x (os ++ [o]) z → ∃ t, Chn x os t ∧ (st t o).2 = 0 ∧ (st t o).1 = z
  | [], o, x, z, h => ⟨x, rfl, h.1, h.2⟩
  | p :: os, o, x, z, h => by
    obtain ⟨t, h1, h2⟩ := Chn.last h.2
    exact ⟨t, ⟨h.1, h1⟩, h2⟩
theorem sm_invs {o p : O} (h : smo o) (hp : p ∈ invs o) : smo p := by
  unfold invs at hp
  split at hp
  · obtain rfl := List.mem_singleton.1 hp; exact ⟨sm_nil, sm_nil⟩
  · split at hp
    · split at hp
      · obtain rfl := List.mem_singleton.1 hp; exact ⟨sm_nil, sm_nil⟩
      · rcases List.mem_cons.1 hp with rfl | hp
        · exact ⟨sm_nil, sm_nil⟩
        · obtain rfl := List.mem_singleton.1 hp; exact ⟨sm_nil, h.1⟩
    · split at hp
      · obtain rfl := List.mem_singleton.1 hp; exact ⟨h.2, h.1⟩
      · obtain rfl := List.mem_singleton.1 hp; exact ⟨sm_nil, sm_nil⟩
theorem invs_len (o : O) : (invs o).length ≤ 2 := by
  unfold invs
  split
  · simp
  · split
    · split <;> simp
    · split <;> simp
theorem Ap.nil : Ap [] := fun f hf => by cases hf

/-! ### the example -/
def oa : O := ⟨1, ⟨#[97]⟩, ⟨#[]⟩, 0, [], [], zk, 0⟩
def ob : O := ⟨3, ⟨#[97]⟩, ⟨#[]⟩, 0, [], [⟨#[120]⟩], zk, 0⟩
theorem awake_ev : Ev (fun k => quitclaimlaw14_awake.f k) true := by
  have hp : PureP.right (⟨#[97]⟩ : ByteArray) = true := by decide +kernel
  have hr : PureS.right ⟨0, [], [(⟨#[120]⟩ : ByteArray)]⟩ = true := by decide +kernel
  have s0 : Srt ([] : List File) := List.Pairwise.nil
  have c1 := st_create (l := []) (o := oa) rfl (wr_create hp) rfl (by decide)
  have c2 := st_edit (l := put [] ⟨⟨#[97]⟩, []⟩) (o := ob) (x := [⟨#[120]⟩]) rfl (wr_edit hp hr) (fnd_put s0) (by
    show PureS.ap (lns (put [] ⟨⟨#[97]⟩, []⟩) ⟨#[97]⟩) ⟨0, [], [⟨#[120]⟩]⟩ = _
    rw [lns_put s0]
    have := PureS.ap_in (h := ⟨0, [], [(⟨#[120]⟩ : ByteArray)]⟩) (u := []) (v := []) rfl hr rfl (by simp)
    exact this.trans (by simp))
  have hsm : ∀ o ∈ [oa, ob], smo o := fun o ho => by
    rcases List.mem_cons.1 ho with rfl | ho
    · exact ⟨sm_nil, sm_nil⟩
    · obtain rfl := List.mem_singleton.1 ho
      exact ⟨sm_nil, ⟨by decide, fun s hs => by obtain rfl := List.mem_singleton.1 hs; decide⟩⟩
  have T1 : Tr (put [] ⟨⟨#[97]⟩, []⟩) := by
    have := Tr.nil.step (o := oa) (hsm oa (by simp)).1 (hsm oa (by simp)).2 (by rw [c1])
    rw [c1] at this; exact this
  have T2 : Tr (put (put [] ⟨⟨#[97]⟩, []⟩) ⟨⟨#[97]⟩, [⟨#[120]⟩]⟩) := by
    have := T1.step (o := ob) (hsm ob (by simp)).1 (hsm ob (by simp)).2 (by rw [c2])
    rw [c2] at this; exact this
  unfold quitclaimlaw14_awake.f
  have a := all_ev [] [oa, ob] (by decide) hsm Tr.nil
  rw [al_two c1 c2] at a
  refine Ev.bind (a := ((⟨put (put [] ⟨⟨#[97]⟩, []⟩) ⟨⟨#[97]⟩, [⟨#[120]⟩]⟩⟩ : S_files), (2 : Int), (0 : Int))) a ?_
  have g := get_yes (s := ⟨#[97]⟩) T2 (fnd_put (srt_put s0))
  rw [lns_put (srt_put s0)] at g
  refine Ev.bind g ?_
  exact Ev.bind (Ev.g1 rfl (Ev.ev rfl)) (Ev.const true)

/-! ### the law -/
theorem back_loop (ops : List O) (hl : ops.length ≤ 1000) (hs : ∀ o ∈ ops, smo o) : ∀ (n : Nat) (now : List File), n ≤ ops.length → Chn [] (ops.take n) now → Ev (fun k => quitclaimlaw14_TreeAll.l0 ops k ((n : Int) - 1) ⟨now⟩) true := by
  intro n
  induction n with
  | zero =>
    intro now _ h
    rw [List.take_zero] at h
    have h : [] = now := h
    subst h
    obtain ⟨K, hw⟩ := awake_ev
    refine ⟨K + 1, fun k hk => ?_⟩
    obtain ⟨k, rfl⟩ : ∃ m, k = m + 1 := ⟨k - 1, by omega⟩
    have hw := hw k (by omega)
    dsimp only at hw ⊢
    rw [quitclaimlaw14_TreeAll.l0, if_neg (by omega)]
    show ((quitclaimlaw14_awake.f k).bind fun x47 => _) = _
    rw [hw]
    rfl
  | succ n ih =>
    intro now hn h
    have h1 : n < ops.length := by omega
    rw [List.take_succ_eq_append_getElem h1] at h
    obtain ⟨t, c1, c2, c3⟩ := h.last
    obtain ⟨Tt, At⟩ := c1.tr (fun o ho => hs o (List.mem_of_mem_take ho)) Tr.nil Ap.nil
    have so := hs _ (List.getElem_mem h1)
    have Tn : Tr now := by rw [← c3]; exact Tt.step so.1 so.2 c2
    obtain ⟨K, q⟩ := ih t (by omega) c1
    have hi : ((n + 1 : Nat) : Int) - 1 = (n : Int) := by omega
    rw [hi]
    by_cases h4 : ops[n].f0_Kind > 4
    · refine ⟨K + 1, fun k hk => ?_⟩
      obtain ⟨k, rfl⟩ : ∃ m, k = m + 1 := ⟨k - 1, by omega⟩
      have q := q k (by omega)
      dsimp only at q ⊢
      have e : now = t := by
        rw [← c3]
        unfold st at c2 ⊢
        by_cases hw : wr_ ops[n] = 0
        · rw [if_pos hw, if_pos h4]
        · rw [if_neg hw] at c2; exact absurd c2 hw
      rw [quitclaimlaw14_TreeAll.l0, if_pos (by omega), ix_ h1, Option.bind_some, if_pos h4, w (by omega) (by omega), e]
      exact q
    · have u := undo (l0 := now) Tt At h4 c2
      rw [c3] at u
      obtain ⟨K', a⟩ := all_ev now (invs ops[n]) (by have := invs_len ops[n]; omega) (fun p hp => sm_invs so hp) Tn
      rw [u] at a
      refine ⟨K + K' + 1, fun k hk => ?_⟩
      obtain ⟨k, rfl⟩ : ∃ m, k = m + 1 := ⟨k - 1, by omega⟩
      have q := q k (by omega)
      have a := a k (by omega)
      dsimp only at q a ⊢
      rw [quitclaimlaw14_TreeAll.l0, if_pos (by omega), ix_ h1, Option.bind_some, if_neg h4, Option.bind_some, inverse_eq, Option.bind_some, a, Option.bind_some]
      show ((some ops[n]).bind fun x44 => ((quitclaimref13_Inverse.f x44).bind fun x45 => (if (false || !decide (((invs ops[n]).length : Int) = (x45.length : Int))) = true then some false else quitclaimlaw14_TreeAll.l0 ops k (w64 ((n : Int) - 1)) ⟨t⟩))) = _
      rw [Option.bind_some, inverse_eq, Option.bind_some, if_neg (by simp), w (by omega) (by omega)]
      exact q
theorem law (ops : List O) (hl : ops.length ≤ 9223372036854775807) : Ev (fun k => quitclaimlaw14_TreeAll.f k ops) true := by
  unfold quitclaimlaw14_TreeAll.f
  obtain ⟨b, hb, hq⟩ := few_ev ops hl
  refine Ev.bind hb ?_
  cases b with
  | false => exact Ev.pos rfl (Ev.bind awake_ev (Ev.const true))
  | true =>
    refine Ev.neg (by decide) ?_
    obtain ⟨h40, hsh⟩ := hq rfl
    have hs : ∀ o ∈ ops, smo o := fun o ho => smo_short (hsh o ho)
    refine Ev.bind (all_ev [] ops (by omega) hs Tr.nil) (Ev.bind (rall_ev [] ops (by omega) hs Tr.nil) ?_)
    obtain ⟨m, t, hm, hc, ht, hd⟩ := al_ch [] ops [] 0
    rw [Nat.zero_add] at ht hd
    obtain ⟨Tt, At⟩ := hc.tr (fun o ho => hs o (List.mem_of_mem_take ho)) Tr.nil Ap.nil
    have lp := back_loop ops (by omega) hs m t hm hc
    unfold jn
    dsimp only
    have hw : w64 ((m : Int) - 1) = (m : Int) - 1 := w (by omega) (by omega)
    rcases hd with ⟨e1, e2⟩ | ⟨e, he, e2⟩
    · rw [e2]
      dsimp only
      refine Ev.bind (plain_ev t Tt) (Ev.bind (fsame_ev t Tt) (Ev.neg (by simp) (Ev.neg (by simp) ?_)))
      rw [hw]
      exact lp
    · rw [e2]
      dsimp only
      refine Ev.bind (plain_ev [] Tr.nil) (Ev.bind (fsame_ev [] Tr.nil) (Ev.neg (by simp) (Ev.pos (by simp [he]) ?_)))
      have hcut : cut ops 0 (m : Int) = some (ops.take m) := by
        unfold cut; rw [if_pos (by omega), Int.toNat_natCast]; rfl
      refine Ev.now hcut ?_
      have a := all_ev [] (ops.take m) (by rw [List.length_take]; omega) (fun o ho => hs o (List.mem_of_mem_take ho)) Tr.nil
      rw [ht] at a
      refine Ev.bind a (Ev.neg (by simp) ?_)
      dsimp only
      rw [hw]
      exact lp
end Go.Proofs.YtngcfmnmjkncoaaDoor.PureT
namespace Go.Proofs.YtngcfmnmjkncoaaDoor.Pure
open Go.Proofs.YtngcfmnmjkncoaaDoor.Q
theorem treeAll (ops : List S_Op) (hl : ops.length ≤ 9223372036854775807) : ∃ k, quitclaimlaw14_TreeAll.f k ops = some true := by
  obtain ⟨K, h⟩ := PureT.law ops hl
  exact ⟨K, h K (Nat.le_refl _)⟩
end Go.Proofs.YtngcfmnmjkncoaaDoor.Pure
