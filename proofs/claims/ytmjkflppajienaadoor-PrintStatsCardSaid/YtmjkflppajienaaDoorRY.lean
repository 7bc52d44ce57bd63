/- The walk as a function: code, and functions that call one another; no condition but the typed premises. -/
import Derived.Test.YtmjkflppajienaaDoorRX
import Derived.Test.YtmjkflppajienaaDoorRZ
import Derived.Test.YtmjkflppajienaaDoorR3
namespace Go.Proofs.YtmjkflppajienaaDoor.R
open Go Go.RowKit
set_option linter.unusedVariables false
set_option linter.unusedSimpArgs false
variable {bs : Nat → Nat}

/-! ### The shape of a state that stands -/
/-- The code of what is told, where no type is at hand. -/
def tyPV : PV → Option Ty
  | .s (.int k _) => some (.i k)
  | .s (.bool _) => some .b
  | .s (.string _) => some .s
  | .s (.float .f64 _) => some .f
  | .s (.complex .f64 _ _) => some .c
  | .sl n t _ => some (.sl n t)
  | .pt t _ => some (.pt t)
  | .mp k t _ => some (.mp k t)
  | .er _ => some .er
  | _ => none
def tyPVs : List PV → Option Ty
  | [] => some .un
  | q :: qs => match tyPV q, tyPVs qs with
    | some t, some t' => some (.pr t t')
    | _, _ => none
def shPV : PV → Option Sh
  | .agg cs => (tyPVs cs).map .p
  | .s (.pointer none) => some (.k 0)
  | .s .nilFunc => some (.k 1)
  | .s .nilIface => some (.k 2)
  | .s (.slice none 0 0) => some (.k 3)
  | .s (.map none) => some (.k 4)
  | q => (tyPV q).map .p
mutual
def shSV : SV → Option Sh
  | .p q => shPV q
  | .own e n t _ j => some (.own e n t j)
  | .bf e _ j => some (.bf e j)
  | .ptr o d => some (.ptr o d)
  | .np o d => some (.np o d)
  | .mo o => some (.mo o)
  | .row e _ o => some (.row e o)
  | .agg cs => (shSVs cs).map .agg
  | .tup cs => (shSVs cs).map .tup
  | .fn f cs => (shSVs cs).map (.fn f)
  | _ => none
def shSVs : List SV → Option Shs
  | [] => some .nil
  | s :: ss => match shSV s, shSVs ss with
    | some x, some xs => some (.cons x xs)
    | _, _ => none
end
def big : Nat := 1000000
/-- The shape of a thing of a type. -/
def shOf (T : Tab) (t : Nat) (s : SV) : Option Sh := bif Nat.ble big t then (tyOf T (t - big)).map .p else match s with
  | .p q => match tyOf T t with
    | some τ => some (.p τ)
    | none => shPV q
  | .agg cs => match tyOf T t, purL cs with
    | some τ, some _ => some (.p τ)
    | _, _ => shSV (.agg cs)
  | s => shSV s
def mkES (T : Tab) (E : Env) : List Nat → Option ESh
  | t :: ti :: l => match (match E.get t with
      | some ([], s) => shOf T ti s
      | _ => (tyOf T (bif Nat.ble big ti then ti - big else ti)).map .p), mkES T E l with
    | some s, some es => some ((t, s) :: es)
    | _, _ => none
  | _ => some []
/-- Are there rows among these that are appended to? -/
def anyOwn : List SV → Bool
  | [] => false
  | .own _ _ _ _ _ :: _ => true
  | .bf _ _ _ :: _ => true
  | _ :: l => anyOwn l
def shOb (T : Tab) : Ob → Option OSh
  | .cells t cs => bif anyOwn cs then (shSVs cs).map (.cells t) else match tyOf T t, purL cs with
    | some τ, some _ => some (.typed t τ)
    | _, _ => (shSVs cs).map (.cells t)
  | .row t n τ _ => some (.row t n τ)
  | .map k τ _ => some (.map k τ)
  | .tail => some .tail
  | .mark => some .mark
  | .pin i => some (.pin i)
def mkHS (T : Tab) : List Ob → Option HSh
  | [] => some []
  | o :: h => match shOb T o, mkHS T h with
    | some s, some hs => some (s :: hs)
    | _, _ => none
def mkSt (T : Tab) (E : Env) (h : List Ob) (l : List Nat) : Option StS := match mkES T E l, mkHS T h with
  | some es, some hs => some ⟨es, hs⟩
  | _, _ => none

/-! ### Code -/
/-- A piece of code is known by its first region. -/
def Code.key : Code → Nat
  | .region id _ _ => id + 1
  | .seq a b => match Code.key a with
    | 0 => Code.key b
    | n + 1 => n + 1
  | .cond _ a b => match Code.key a with
    | 0 => Code.key b
    | n + 1 => n + 1
  | .block _ c => Code.key c
  | .loop c => Code.key c
  | .scope c => Code.key c
  | .rangeFunc _ _ _ c => Code.key c
  | _ => 0
/-- What is said of a function's code beside it: temporaries that are appended to; at a loop, and where ways meet, what is told on (each temporary with its type). -/
structure Hint where
  ap : List Nat × List Nat × List Nat
  lp : List (Nat × List Nat)
  jn : List (Nat × List Nat)
  sc : List (Nat × List Nat) := []
def asc (k : Nat) : List (Nat × List Nat) → Option (List Nat)
  | [] => none
  | (u, x) :: l => bif Nat.beq u k then some x else asc k l
/-- As often as it takes, but k times at most. -/
def iter {α β : Type} (F : (α → Option β) → α → Option β) : Nat → α → Option β
  | 0, _ => none
  | n + 1, x => F (iter F n) x
/-- What is answered from some number on. -/
noncomputable def lst {β : Type} (a : Nat → Option β) : Option β := @dite _ (∃ r, ∃ N, ∀ k, N ≤ k → a k = some r) (Classical.propDecidable _) (fun h => some (Classical.choose h)) (fun _ => none)
theorem lst_of {β : Type} {a : Nat → Option β} {N : Nat} {r : β} (h : ∀ k, N ≤ k → a k = some r) : lst a = some r := by
  have hx : ∃ r, ∃ N, ∀ k, N ≤ k → a k = some r := ⟨r, N, h⟩
  unfold lst
  rw [dif_pos hx]
  obtain ⟨M, hM⟩ := Classical.choose_spec hx
  have h1 := hM (N + M) (Nat.le_add_left _ _)
  rw [h (N + M) (Nat.le_add_right _ _)] at h1
  exact h1.symm
theorem lst_some {β : Type} {a : Nat → Option β} {r : β} (h : lst a = some r) : ∃ n, a n = some r := by
  unfold lst at h
  split at h
  · rename_i hx
    obtain ⟨M, hM⟩ := Classical.choose_spec hx
    rw [← h]
    exact ⟨M, hM M (Nat.le_refl _)⟩
  · cases h
/-- As often as it takes. -/
noncomputable def wh {α β : Type} (F : (α → Option β) → α → Option β) (x : α) : Option β := lst fun n => iter F n x
theorem wh_some {α β : Type} {F : (α → Option β) → α → Option β} {x : α} {r : β} (h : wh F x = some r) : ∃ n, iter F n x = some r := lst_some h
abbrev Kt (β : Type) := Exit → Env → List Ob → Option β
def onN {β : Type} (K : Kt β) (N : Env → List Ob → Option β) : Kt β
  | .normal, E, h => N E h
  | x, E, h => K x E h
def onB {β : Type} (id : Nat) (K : Kt β) : Kt β
  | .exit i, E, h => bif Nat.beq i id then K .normal E h else K (.exit i) E h
  | x, E, h => K x E h
def obo {α β : Type} (x : Option α) (f : α → Option β) : Option β := match x with
  | some x => f x
  | none => none
theorem obo_of {α β : Type} {x : Option α} {f : α → Option β} {r : β} (h : obo x f = some r) : ∃ y, x = some y ∧ f y = some r := by
  unfold obo at h
  split at h
  · exact ⟨_, rfl, h⟩
  · cases h
/-- Taken by a shape; rows that are wanted as values are written no more. -/
def fit {β : Type} (σ : StS) (E : Env) (h : List Ob) (f : σ.ty.den → Option β) : Option β := fitE σ.es E h fun E h => obo (σ.get E h) f
theorem fit_of {β : Type} {nt : Nat} {σ : StS} {E : Env} {h : List Ob} {f : σ.ty.den → Option β} {r : β} (hr : fit σ E h f = some r) : ∃ E' h' v, Frz nt E h E' h' ∧ σ.get E' h' = some v ∧ f v = some r := by
  obtain ⟨E', h', k, hr⟩ := fitE_of hr
  obtain ⟨v, hv, hr⟩ := obo_of hr
  exact ⟨E', h', v, k, hv, hr⟩
/-- No jump out of here. -/
def noJ {β : Type} (K : Kt β) : Kt β
  | .goto _, _, _ => none
  | x, E, h => K x E h
/-- Jumps, while those to label l come back as rec' says. -/
def bkJ {β : Type} (K : Kt β) (sc : List (Nat × List Nat)) (l : Nat) (back : Env → List Ob → Option β) (fwd : Nat → Env → List Ob → Option β) : Kt β
  | .goto l', E, h => bif Nat.beq l' l then back E h else match asc l' sc with
    | some _ => none
    | none => fwd l' E h
  | x, E, h => K x E h
/-- Jumps, first of all. -/
def toJ {β : Type} (K : Kt β) (sc : List (Nat × List Nat)) (back : Nat → List Nat → Env → List Ob → Option β) (fwd : Nat → Env → List Ob → Option β) : Kt β
  | .goto l, E, h => match asc l sc with
    | some ts => back l ts E h
    | none => fwd l E h
  | x, E, h => K x E h
mutual
noncomputable def den (P : Program) (T : Tab) (nt : Nat) (rec : Rec) (inst : InstF) (it : ItF) (H : Hint) {β : Type} (c : Code) (E : Env) (h : List Ob) (K : Kt β) : Option β := match c with
  | .skip => K .normal E h
  | .label _ => K .normal E h
  | .ret => K .ret E h
  | .exit i => K (.exit i) E h
  | .region _ ops draw => denR P T nt rec inst H.ap ops draw E h fun E h => K .normal (untag E) h
  | .seq x y => match asc (Code.key y) H.jn with
    | none => den P T nt rec inst it H x E h (onN K fun E h => den P T nt rec inst it H y E h K)
    | some l => obo (mkSt T E h l) fun σ => jn (fun v : σ.ty.den => den P T nt rec inst it H y (σ.env v) (σ.heap v) K) fun b =>
        den P T nt rec inst it H x E h (onN K fun E h => fit σ E h b)
  | .cond c x y => match look E [] c with
    | some (.p (.s (.bool t))) => if t = true then den P T nt rec inst it H x E h K else den P T nt rec inst it H y E h K
    | _ => none
  | .block id c => den P T nt rec inst it H c E h (onB id K)
  | .loop c => obo (asc (Code.key c) H.lp) fun l => obo (mkSt T E h l) fun σ => fit σ E h fun v =>
      wh (fun rec' v => den P T nt rec inst it H c (σ.env v) (σ.heap v) (onN K fun E h => fit σ E h rec')) v
  | .goto l => K (.goto l) E h
  | .rangeFunc g ps assign body => match look E [] g with
    | some (.fn f caps) => match osOf caps with
      | some os => match getCs h os with
        | some cs => match it f cs, P.funcs[f]?, mkHS T (hide os 0 h), asc (Code.key body) H.lp with
          | some I, some fn, some σ, some l => bif fn.body.isSome && !(fn.name == "runtime.NumGoroutine") && dist os && stab (hide os 0 h) (E.keep (evens l)) && apart os (hide os 0 h) && noMark h && ps.toList.all (fun p => Nat.blt p nt) && Nat.beq I.len ps.size
              && plain assign && plain body && Nat.beq σ.length h.length && σ.all (OSh.low σ.length) then
            I.xs.bind fun (xs : List I.κ.den) => obo (σ.get (hide os 0 h)) fun (v0 : (HSh.ty σ).den) =>
              rng (fun (rec' : (HSh.ty σ).den → Option β) (x : I.κ.den) n v => den P T nt rec inst it H assign (bindE ps.toList (I.arg x n) (E.keep (evens l))) (σ.mk v ++ pins 0 (hide os 0 h)) (fun e E2 h2 => match e with
                | .normal => den P T nt rec inst it H body E2 h2 (fun e E3 h3 => match e with
                  | .normal => stay σ h3 rec'
                  | .ret => stay σ h3 fun v => K .ret (E.keep (evens l)) (σ.mk v ++ [.mark])
                  | _ => none)
                | _ => none)) (fun v => K .normal (E.keep (evens l)) (σ.mk v ++ [.mark])) xs v0
            else none
          | _, _, _, _ => none
        | none => none
      | none => none
    | _ => none
  | .scope c => den P T nt rec inst it H c E h (toJ K H.sc
      (fun l ts E h => obo (mkSt T E h ts) fun σ => obo (σ.get E h) fun v =>
        wh (fun rec' v => frm P T nt rec inst it H c l (σ.env v) (σ.heap v) (bkJ K H.sc l (fun E h => obo (σ.get E h) rec') (fun l E h => frm P T nt rec inst it H c l E h (noJ K)))) v)
      (fun l E h => frm P T nt rec inst it H c l E h (noJ K)))
  | _ => none
/-- Code from a label on. -/
noncomputable def frm (P : Program) (T : Tab) (nt : Nat) (rec : Rec) (inst : InstF) (it : ItF) (H : Hint) {β : Type} (c : Code) (l : Nat) (E : Env) (h : List Ob) (K : Kt β) : Option β := match c with
  | .seq x y => match findLabel x l with
    | some _ => frm P T nt rec inst it H x l E h (onN K fun E h => den P T nt rec inst it H y E h K)
    | none => frm P T nt rec inst it H y l E h K
  | .label l' => bif Nat.beq l' l then K .normal E h else none
  | _ => none
end

section
variable {P : Program} {T : Tab} {nt : Nat}
theorem W_untag' {Q : QB} {c : Code} {E : Env} {h : List Ob} (hW : W P nt c E h fun x E' h' => Q x (untag E') h' ∧ x = .normal) : W P nt c E h Q := by
  have key : ∀ {bs : Nat → Nat} {w F m e a' w'}, Post bs nt (fun x E' h' => Q x (untag E') h' ∧ x = .normal) w F m e a' w' → Post bs nt Q w F m e a' w' := by
    rintro _ w F m e a' w' ⟨E', h', F', m', ⟨hQ, _⟩, hr, hg⟩
    refine ⟨untag E', h', F', m', hQ, ?_, hg⟩
    unfold untag
    cases hb : plainE E' with
    | true => exact hr
    | false => exact ⟨hr.size, hr.defers, fun t tg s ht => hr.env t tg s (Env.keep_get ht), hr.sim⟩
  exact ⟨fun a w F m hr => wp_mono (hW.out a w F m hr) fun _ _ _ => key, fun hp hn l n a w F m hr => wpIn_mono (hW.inn hp (fun E h hq => by cases hq.2) l n a w F m hr) fun _ _ _ => key⟩
theorem noJ_of {β : Type} {r : β} {K : Kt β} {J : Nat → Env → List Ob → Prop} {Q : QB} (hK : ∀ x E' h', K x E' h' = some r → Q x E' h') : ∀ x E' h', noJ K x E' h' = some r → Jp J Q x E' h' := fun x E' h' hr => by
  cases x with
  | goto l => cases hr
  | _ => exact hK _ _ _ hr
mutual
theorem den_ok (hT : TOk P T) (hm : P.follows .mixedOrders = true) {rec : Rec} {inst : InstF} {it : ItF} (hit : ItOk P it) (hrec : ∀ I x r, rec I x = some r → CF P I x r) {H : Hint} {β : Type} {r : β} : ∀ (c : Code) {E : Env} {h : List Ob} {K : Kt β} {Q : QB},
    den P T nt rec inst it H c E h K = some r → (∀ x E' h', K x E' h' = some r → Q x E' h') → W P nt c E h Q
  | .skip, E, h, K, Q, hr, hK => W_skip (hK _ _ _ hr)
  | .label _, E, h, K, Q, hr, hK => W_label (hK _ _ _ hr)
  | .ret, E, h, K, Q, hr, hK => W_ret (hK _ _ _ hr)
  | .exit i, E, h, K, Q, hr, hK => W_exit (hK _ _ _ hr)
  | .region id ops draw, E, h, K, Q, hr, hK => by
    refine W_untag' ?_
    exact denR_ok hT hm hrec (by simpa only [den] using hr) fun E' h' hr' => ⟨hK _ _ _ hr', rfl⟩
  | .seq x y, E, h, K, Q, hr, hK => by
    simp only [den] at hr
    split at hr
    · refine W_seq (den_ok hT hm hit hrec x hr fun e E' h' hr' => ?_)
      cases e with
      | normal => exact den_ok hT hm hit hrec y hr' hK
      | _ => exact hK _ _ _ hr'
    · rename_i l _
      obtain ⟨σ, hσ, hr⟩ := obo_of hr
      obtain ⟨b, hb, hr⟩ := jn_of hr
      refine W_seq (den_ok hT hm hit hrec x hr fun e E' h' hr' => ?_)
      cases e with
      | normal =>
        obtain ⟨E2, h2, v, k2, hv, hr'⟩ := fit_of hr'
        subst hb
        exact W_frz k2 (W_shape hv (den_ok hT hm hit hrec y hr' hK))
      | _ => exact hK _ _ _ hr'
  | .cond c x y, E, h, K, Q, hr, hK => by
    simp only [den] at hr
    split at hr
    · rename_i t ht
      refine W_cond ht (fun e => ?_) (fun e => ?_)
      · subst e; exact den_ok hT hm hit hrec x (by simpa using hr) hK
      · subst e; exact den_ok hT hm hit hrec y (by simpa using hr) hK
    · cases hr
  | .block id c, E, h, K, Q, hr, hK => by
    simp only [den] at hr
    refine W_block (den_ok hT hm hit hrec c hr fun e E' h' hr' => ?_)
    cases e with
    | exit i =>
      simp only [onB] at hr'
      simp only [Bk]
      cases hb : Nat.beq i id with
      | true => rw [hb] at hr'; exact hK _ _ _ hr'
      | false => rw [hb] at hr'; exact hK _ _ _ hr'
    | _ => exact hK _ _ _ hr'
  | .loop c, E, h, K, Q, hr, hK => by
    simp only [den] at hr
    obtain ⟨l, hl, hr⟩ := obo_of hr
    obtain ⟨σ, hσ, hr⟩ := obo_of hr
    obtain ⟨E2, h2, v, k2, hv, hr⟩ := fit_of hr
    obtain ⟨k, hr⟩ := wh_some hr
    refine W_loop (fun n E h => ∃ E' h' v, Frz nt E h E' h' ∧ σ.get E' h' = some v ∧ iter (fun rec' v => den P T nt rec inst it H c (σ.env v) (σ.heap v) (onN K fun E h => fit σ E h rec')) n v = some r) k ⟨E2, h2, v, k2, hv, hr⟩ ?_
    rintro n E h ⟨E3, h3, v, k3, hv, hr⟩
    refine W_frz k3 (W_shape hv ?_)
    cases n with
    | zero => cases hr
    | succ n =>
      refine den_ok hT hm hit hrec c hr fun e E' h' hr' => ?_
      cases e with
      | normal => obtain ⟨E4, h4, v', k4, hv', hr'⟩ := fit_of hr'; exact ⟨n, Nat.lt_succ_self n, E4, h4, v', k4, hv', hr'⟩
      | _ => exact hK _ _ _ hr'
  | .rangeFunc g ps assign body, E, h, K, Q, hr, hK => by
    simp only [den] at hr
    split at hr
    · rename_i f caps hg
      split at hr
      · rename_i os hos
        split at hr
        · rename_i cs hcs
          split at hr
          · rename_i I fn σ l hI hf hσ hl
            obtain ⟨h1, hr⟩ := bif_some hr
            simp only [Bool.and_eq_true, Bool.not_eq_true'] at h1
            obtain ⟨⟨⟨⟨⟨⟨⟨⟨⟨⟨⟨h1, h2⟩, h3⟩, h4⟩, h5⟩, h6⟩, h7⟩, h8⟩, h9⟩, h10⟩, h11⟩, h12⟩ := h1
            obtain ⟨xs, hxs, hr⟩ := bd hr
            obtain ⟨v0, hv0, hr⟩ := obo_of hr
            obtain ⟨i1, i2⟩ := hit f cs I hI
            have hlen : σ.length = (hide os 0 h).length := by rw [hide_length]; exact Nat.eq_of_beq_eq_true h11
            rw [osOf_eq hos] at hg
            have tidy : ∀ {h3 : List Ob} {v : σ.ty.den} {z : (pinS 0 σ).ty.den}, HSh.get (σ ++ pinS 0 σ) h3 = some (hApp σ (pinS 0 σ) v z) → HSh.mk (σ ++ pinS 0 σ) (hApp σ (pinS 0 σ) v z) = σ.mk v ++ pins 0 (hide os 0 h) := fun _ => by rw [hApp_mk, pins_mk hv0 hlen]
            have tk : ∀ v : σ.ty.den, (σ.mk v ++ pins 0 (hide os 0 h)).take (hide os 0 h).length = σ.mk v := fun v => by rw [List.take_append_of_le_length (by rw [HSh.mk_length]; omega), List.take_of_length_le (by rw [HSh.mk_length]; omega)]
            refine W_range (evens l) (i2 xs hxs) hf h1 h2 hg (dist_nodup h3) hcs rfl rfl h4 (apart_of h5) h6 h7 (fun x n => (i1 x n).trans (Nat.eq_of_beq_eq_true h8)) h9 h10
              (fun ys h' => ∃ v, h' = σ.mk v ++ pins 0 (hide os 0 h) ∧ rng _ _ ys v = some r) (fun h' => ∃ v, h' = σ.mk v ++ pins 0 (hide os 0 h) ∧ K .ret (E.keep (evens l)) (σ.mk v ++ [.mark]) = some r)
              (h1 := σ.mk v0 ++ pins 0 (hide os 0 h)) (fun {bs} w F m sim => ?_) ⟨v0, rfl, hr⟩ (fun ys h' ⟨v, hv, _⟩ => hv ▸ keep_mk hv0 hlen h12) (fun h' ⟨v, hv, _⟩ => hv ▸ keep_mk hv0 hlen h12) ?_ (fun h' ⟨v, hv, hr⟩ => ?_) (fun h' ⟨v, hv, hr⟩ => ?_)
            · obtain ⟨z, hz⟩ := pinS_get (i := 0) hv0 hlen
              have hg' : HSh.get (σ ++ pinS 0 σ) (hide os 0 h ++ pins 0 (hide os 0 h)) = some (hApp σ (pinS 0 σ) v0 z) := hApp_get (HSh.get_app hv0) (by rw [hlen, List.drop_left]; exact hz)
              have := sim.shape hg' (low_pin h12)
              rw [tidy hg'] at this
              exact ⟨_, this, (Gr.refl _ _ _).cut⟩
            · rintro x ys h' ⟨v, rfl, hr⟩
              simp only [rng] at hr
              refine den_ok hT hm hit hrec assign hr fun e E2 h2 hr2 => ?_
              cases e with
              | normal =>
                refine ⟨rfl, W_tidy (low_pin h12) (den_ok hT hm hit hrec body hr2 fun e E3 h3 hr3 => ?_)⟩
                cases e with
                | normal =>
                  obtain ⟨v', z, g1, g2, g3⟩ := stay_of hr3
                  exact ⟨_, g1, g2, .inl ⟨rfl, v', tidy g1, g3⟩⟩
                | ret =>
                  obtain ⟨v', z, g1, g2, g3⟩ := stay_of hr3
                  exact ⟨_, g1, g2, .inr ⟨rfl, v', tidy g1, g3⟩⟩
                | _ => cases hr3
              | _ => cases hr2
            · subst hv
              rw [tk]
              exact hK _ _ _ hr
            · subst hv
              rw [tk]
              exact hK _ _ _ hr
          · cases hr
        · cases hr
      · cases hr
    · cases hr
  | .goto l, E, h, K, Q, hr, hK => W_goto (hK _ _ _ (by simpa only [den] using hr))
  | .scope c, E, h, K, Q, hr, hK => by
    simp only [den] at hr
    refine W_scope (fun n l E h => (n = 0 ∧ frm P T nt rec inst it H c l E h (noJ K) = some r) ∨
      (∃ (σ : StS) (v : σ.ty.den) (m : Nat), n = m + 1 ∧ σ.get E h = some v ∧ iter (fun rec' v => frm P T nt rec inst it H c l (σ.env v) (σ.heap v) (bkJ K H.sc l (fun E h => obo (σ.get E h) rec') (fun l E h => frm P T nt rec inst it H c l E h (noJ K)))) m v = some r)) (den_ok hT hm hit hrec c hr fun x E' h' hr' => ?_) ?_
    · cases x with
      | goto l =>
        simp only [toJ] at hr'
        simp only [Jp]
        split at hr'
        · obtain ⟨σ, _, hr'⟩ := obo_of hr'
          obtain ⟨v, hv, hr'⟩ := obo_of hr'
          obtain ⟨k, hr'⟩ := wh_some hr'
          exact ⟨_, .inr ⟨σ, v, k, rfl, hv, hr'⟩⟩
        · exact ⟨0, .inl ⟨rfl, hr'⟩⟩
      | _ => exact hK _ _ _ hr'
    · rintro n l E' h' (⟨rfl, hr'⟩ | ⟨σ, v, m, rfl, hv, hr'⟩)
      · exact frm_ok hT hm hit hrec c l hr' (noJ_of hK)
      · cases m with
        | zero => cases hr'
        | succ m =>
          simp only [iter] at hr'
          obtain ⟨rest, hf, hW⟩ := frm_ok (Q := Jp (fun l' E' h' => ∃ m', m' < m + 1 + 1 ∧ ((m' = 0 ∧ frm P T nt rec inst it H c l' E' h' (noJ K) = some r) ∨
            (∃ (σ : StS) (v : σ.ty.den) (m : Nat), m' = m + 1 ∧ σ.get E' h' = some v ∧ iter (fun rec' v => frm P T nt rec inst it H c l' (σ.env v) (σ.heap v) (bkJ K H.sc l' (fun E h => obo (σ.get E h) rec') (fun l E h => frm P T nt rec inst it H c l E h (noJ K)))) m v = some r))) Q) hT hm hit hrec c l hr' fun x E' h' hr2 => by
              cases x with
              | goto l' =>
                simp only [bkJ] at hr2
                simp only [Jp]
                cases hb : Nat.beq l' l with
                | true =>
                  rw [hb] at hr2
                  obtain rfl := Nat.eq_of_beq_eq_true hb
                  simp only [cond_true] at hr2
                  obtain ⟨v', hv', hr2⟩ := obo_of hr2
                  exact ⟨m + 1, by omega, .inr ⟨σ, v', m, rfl, hv', hr2⟩⟩
                | false =>
                  rw [hb] at hr2
                  simp only [cond_false] at hr2
                  split at hr2
                  · cases hr2
                  · exact ⟨0, by omega, .inl ⟨rfl, hr2⟩⟩
              | _ => exact hK _ _ _ hr2
          exact ⟨rest, hf, W_shape hv hW⟩
  | .refuse _, E, h, K, Q, hr, hK => by simp [den] at hr
theorem frm_ok (hT : TOk P T) (hm : P.follows .mixedOrders = true) {rec : Rec} {inst : InstF} {it : ItF} (hit : ItOk P it) (hrec : ∀ I x r, rec I x = some r → CF P I x r) {H : Hint} {β : Type} {r : β} : ∀ (c : Code) (l : Nat) {E : Env} {h : List Ob} {K : Kt β} {Q : QB},
    frm P T nt rec inst it H c l E h K = some r → (∀ x E' h', K x E' h' = some r → Q x E' h') → ∃ rest, findLabel c l = some rest ∧ W P nt rest E h Q
  | .seq x y, l, E, h, K, Q, hr, hK => by
    simp only [frm] at hr
    split at hr
    · rename_i rest0 hf0
      obtain ⟨rest, hf, hW⟩ := frm_ok (Q := Nx (fun E h => W P nt y E h Q) Q) hT hm hit hrec x l hr fun e E' h' hr' => by
        cases e with
        | normal => exact den_ok hT hm hit hrec y hr' hK
        | _ => exact hK _ _ _ hr'
      exact ⟨.seq rest y, by simp [findLabel, hf], W_seq hW⟩
    · rename_i hf0
      obtain ⟨rest, hf, hW⟩ := frm_ok hT hm hit hrec y l hr hK
      exact ⟨rest, by simp [findLabel, hf0, hf], hW⟩
  | .label l', l, E, h, K, Q, hr, hK => by
    simp only [frm] at hr
    obtain ⟨h1, hr'⟩ := bif_some hr
    obtain rfl := Nat.eq_of_beq_eq_true h1
    exact ⟨.skip, by simp [findLabel], W_skip (hK _ _ _ hr')⟩
  | .skip, l, E, h, K, Q, hr, hK => by simp [frm] at hr
  | .region _ _ _, l, E, h, K, Q, hr, hK => by simp [frm] at hr
  | .cond _ _ _, l, E, h, K, Q, hr, hK => by simp [frm] at hr
  | .block _ _, l, E, h, K, Q, hr, hK => by simp [frm] at hr
  | .loop _, l, E, h, K, Q, hr, hK => by simp [frm] at hr
  | .rangeFunc _ _ _ _, l, E, h, K, Q, hr, hK => by simp [frm] at hr
  | .exit _, l, E, h, K, Q, hr, hK => by simp [frm] at hr
  | .scope _, l, E, h, K, Q, hr, hK => by simp [frm] at hr
  | .goto _, l, E, h, K, Q, hr, hK => by simp [frm] at hr
  | .ret, l, E, h, K, Q, hr, hK => by simp [frm] at hr
  | .refuse _, l, E, h, K, Q, hr, hK => by simp [frm] at hr
end

/-! ### Functions -/
/-- What a function hands back, and leaves of its caller's things, taken by its shapes. -/
def finB (T : Tab) (rs : List ResultVar) (I : Inst) (E : Env) (h : List Ob) : Option I.tout.den :=
  obo (resS T E h rs) fun s => obo (I.out.get s) fun y => obo (I.hout.get h) fun z1 => obo ((pinS 0 I.hin).get (h.drop I.hout.length)) fun _ => obo (I.xout.get ((h.drop I.hout.length).drop (pinS 0 I.hin).length)) fun z2 => some (I.rP y z1 z2)
def fin (T : Tab) (rs : List ResultVar) (I : Inst) : Kt I.tout.den
  | .normal, E, h => frzRes rs E h fun E h => finB T rs I E h
  | .ret, E, h => frzRes rs E h fun E h => finB T rs I E h
  | _, _, _ => none
def FinR (I : Inst) (r : I.tout.den) (s : SV) (h : List Ob) : Prop := I.out.get s = some (I.rE r) ∧ ∃ zp, HSh.get (I.hout ++ (pinS 0 I.hin ++ I.xout)) h = some (hApp I.hout (pinS 0 I.hin ++ I.xout) (I.rH r) (hApp (pinS 0 I.hin) I.xout zp (I.rX r)))
theorem fin_ok {rs : List ResultVar} {I : Inst} {r : I.tout.den} {x : Exit} {E : Env} {h : List Ob} {nt : Nat} (hr : fin T rs I x E h = some r) : ∃ E' h', Frz nt E h E' h' ∧ Fin T rs (FinR I r) 0 x E' h' := by
  have key : ∀ {E h}, finB T rs I E h = some r → ∃ s, resS T E h rs = some s ∧ FinR I r s h := fun hr => by
    obtain ⟨s, hs, hr⟩ := obo_of hr
    obtain ⟨y, hy, hr⟩ := obo_of hr
    obtain ⟨z1, hz1, hr⟩ := obo_of hr
    obtain ⟨zp, hzp, hr⟩ := obo_of hr
    obtain ⟨z2, hz2, hr⟩ := obo_of hr
    obtain rfl := Option.some.inj hr
    refine ⟨s, hs, by rw [Inst.rE_P]; exact hy, zp, ?_⟩
    rw [Inst.rH_P, Inst.rX_P]
    exact hApp_get hz1 (hApp_get hzp hz2)
  cases x with
  | normal => obtain ⟨E', h', k, hr⟩ := frzRes_of hr; exact ⟨E', h', k, key hr⟩
  | ret => obtain ⟨E', h', k, hr⟩ := frzRes_of hr; exact ⟨E', h', k, key hr⟩
  | _ => cases hr
/-- What is asked of the shapes. -/
def Inst.ok (I : Inst) : Bool := Nat.beq I.hout.length I.hin.length && lowL (List.length (I.hout ++ (pinS 0 I.hin ++ I.xout))) I.out.ids && (I.hout ++ (pinS 0 I.hin ++ I.xout)).all (OSh.low (List.length (I.hout ++ (pinS 0 I.hin ++ I.xout))))
/-- A function that is walked. -/
noncomputable def denF (P : Program) (T : Tab) (rec : Rec) (inst : InstF) (it : ItF) (H : Hint) (I : Inst) (x : I.tin.den) : Option I.tout.den := match P.funcs[I.f]? with
  | some fn => match fn.body with
    | some body => bif Nat.ble (I.ain.mk (I.aE x)).length fn.ntmps && I.ok then den P T fn.ntmps rec inst it H body (argE 0 (I.ain.mk (I.aE x))) (I.hin.mk (I.aH x) ++ pins 0 (I.hin.mk (I.aH x))) (fin T fn.results.toList I) else none
    | none => none
  | none => none
theorem denF_ok (hT : TOk P T) (hm : P.follows .mixedOrders = true) {rec : Rec} {inst : InstF} {it : ItF} (hit : ItOk P it) (hrec : ∀ I x r, rec I x = some r → CF P I x r) {H : Hint} {I : Inst} {x : I.tin.den} {r : I.tout.den} (hr : denF P T rec inst it H I x = some r) : CF P I x r := by
  unfold denF at hr
  split at hr
  · rename_i fn hf
    split at hr
    · rename_i body hb
      obtain ⟨h1, hr⟩ := bif_some hr
      simp only [Bool.and_eq_true, Inst.ok] at h1
      obtain ⟨h1, ⟨h2, h3⟩, h4⟩ := h1
      refine (PC_of_W hT hf hb h1 (W_frzEnd (den_ok hT hm hit hrec body hr fun e E' h' hr' => fin_ok hr'))).reshape ?_
      rintro s h' ⟨hs, zp, hh⟩
      refine ⟨I.out, I.rE r, _, _, hs, hh, h3, h4, rfl, ?_⟩
      rw [hApp_mk, hApp_mk, pinS_mk (y := I.aH x), List.append_assoc]
    · cases hr
  · cases hr
/-- Functions, to a depth of k calls: those that are given, and those that are walked. -/
abbrev Giv := (I : Inst) → Option (I.tin.den → Option I.tout.den)
noncomputable def run (P : Program) (T : Tab) (G : Giv) (inst : InstF) (it : ItF) (H : Nat → Hint) : Nat → Rec
  | 0, _, _ => none
  | k + 1, I, x => match G I with
    | some g => g x
    | none => denF P T (run P T G inst it H k) inst it (H I.f) I x
def GOk (P : Program) (G : Giv) : Prop := ∀ I g, G I = some g → ∀ x r, g x = some r → CF P I x r
theorem run_ok (hT : TOk P T) (hm : P.follows .mixedOrders = true) {G : Giv} (hG : GOk P G) {inst : InstF} {it : ItF} (hit : ItOk P it) {H : Nat → Hint} : ∀ k I x r, run P T G inst it H k I x = some r → CF P I x r
  | 0, I, x, r, h => by cases h
  | k + 1, I, x, r, h => by
    simp only [run] at h
    split at h
    · rename_i g hg; exact hG I g hg x r h
    · exact denF_ok hT hm hit (run_ok hT hm hG hit k) h
/-- The shapes of a function whose parameters and results are typed outright. -/
def shsOf (T : Tab) (nl : Bool) : List Nat → List SV → Option Shs
  | t :: ts, s :: ss => match (match s with | .p (.s (.slice none 0 0)) => bif nl then some (.k 3) else (tyOf T t).map .p | .p _ => (tyOf T t).map .p | .any => (tyOf T t).map .p | .agg _ => (tyOf T t).map .p | _ => shSV s), shsOf T nl ts ss with
    | some x, some xs => some (.cons x xs)
    | _, _ => none
  | [], [] => some .nil
  | [], s :: ss => match shSV s, shsOf T nl [] ss with
    | some x, some xs => some (.cons x xs)
    | _, _ => none
  | _, _ => none
def outOf (T : Tab) : List Nat → Option Shs
  | [] => some .nil
  | t :: ts => match tyOf T t, outOf T ts with
    | some x, some xs => some (.cons (.p x) xs)
    | _, _ => none
/-- The shapes of a call: those of what is handed over; what comes back is typed outright, and the things stay of their shapes, if nothing else is said (ov: the answer, and the new things). -/
def instP (P : Program) (T : Tab) (ov : Nat → Option (Bool × Sh × HSh × Option HSh)) (f : Nat) (args : List SV) (hs : List Ob) : Option Inst := match P.funcs[f]? with
  | some fn => match shsOf T (match ov f with | some (b, _, _, _) => b | none => false) fn.params.toList args, mkHS T hs with
    | some ain, some hin => match ov f with
      | some (_, out, xout, ho) => some ⟨f, ain, hin, out, (match ho with | some h => h | none => hin), xout⟩
      | none => match outOf T fn.resultTypes.toList with
        | some (.cons s .nil) => some ⟨f, ain, hin, s, hin, []⟩
        | some ss => some ⟨f, ain, hin, .tup ss, hin, []⟩
        | none => none
    | _, _ => none
  | none => none
end
end Go.Proofs.YtmjkflppajienaaDoor.R
