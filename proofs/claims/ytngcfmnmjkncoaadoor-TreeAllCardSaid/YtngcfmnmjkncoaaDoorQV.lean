/- Words for what the Lean functions answer with rounds enough; no condition. -/
import Derived.Test.YtngcfmnmjkncoaaDoorQP
import Derived.Lib.Strings
import Derived.Lib.IndexAny
namespace Go.Proofs.YtngcfmnmjkncoaaDoor.Pu
open Go Go.RowKit Go.Proofs.YtngcfmnmjkncoaaDoor.Q
set_option linter.unusedVariables false

theorem w {x : Int} (h : -9223372036854775808 ≤ x) (h' : x ≤ 9223372036854775807) : w64 x = x := by
  have e : (2 : Int) ^ IntKind.i64.bits = 18446744073709551616 := by decide
  have e' : (2 : Int) ^ (IntKind.i64.bits - 1) = 9223372036854775808 := by decide
  show IntKind.wrap .i64 x = x
  unfold IntKind.wrap
  simp only [e, e']
  by_cases hc : x % 18446744073709551616 ≥ 9223372036854775808
  · rw [if_pos (by rw [decide_eq_true hc]; rfl)]; omega
  · rw [if_neg (by rw [decide_eq_false hc]; simp)]; omega
def Ev {α : Type} (f : Nat → Option α) (r : α) : Prop := ∃ K, ∀ k, K ≤ k → f k = some r
theorem Ev.const {α : Type} (r : α) : Ev (fun _ => some r) r := ⟨0, fun _ _ => rfl⟩
theorem Ev.step {α : Type} {f g : Nat → Option α} {r : α} (h : Ev f r) (hg : ∀ k, g (k + 1) = f k) : Ev g r := by
  obtain ⟨K, h⟩ := h
  refine ⟨K + 1, fun k hk => ?_⟩
  obtain ⟨m, rfl⟩ : ∃ m, k = m + 1 := ⟨k - 1, by omega⟩
  rw [hg]; exact h m (by omega)
theorem Ev.stepc {α : Type} {g : Nat → Option α} {r : α} (hg : ∀ k, g (k + 1) = some r) : Ev g r := Ev.step (Ev.const r) hg
theorem Ev.eq {α : Type} {f g : Nat → Option α} {r : α} (h : Ev f r) (hg : ∀ k, g k = f k) : Ev g r := by
  obtain ⟨K, h⟩ := h
  exact ⟨K, fun k hk => by rw [hg]; exact h k hk⟩
theorem Ev.to {α : Type} {f : Nat → Option α} {r s : α} (h : Ev f r) (e : r = s) : Ev f s := e ▸ h
theorem Ev.bind {α β : Type} {f : Nat → Option α} {g : Nat → α → Option β} {a : α} {r : β} (h : Ev f a) (hg : Ev (fun k => g k a) r) : Ev (fun k => (f k).bind (g k)) r := by
  obtain ⟨K, h⟩ := h
  obtain ⟨L, hg⟩ := hg
  exact ⟨max K L, fun k hk => by show (f k).bind (g k) = _; rw [h k (by omega)]; exact hg k (by omega)⟩
theorem Ev.now {α β : Type} {o : Option α} {g : Nat → α → Option β} {a : α} {r : β} (h : o = some a) (hg : Ev (fun k => g k a) r) : Ev (fun k => o.bind (g k)) r := Ev.bind ⟨0, fun _ _ => h⟩ hg
theorem Ev.pos {α : Type} {c : Prop} [Decidable c] {f g : Nat → Option α} {r : α} (hc : c) (h : Ev f r) : Ev (fun k => if c then f k else g k) r := h.eq fun _ => if_pos hc
theorem Ev.neg {α : Type} {c : Prop} [Decidable c] {f g : Nat → Option α} {r : α} (hc : ¬ c) (h : Ev g r) : Ev (fun k => if c then f k else g k) r := h.eq fun _ => if_neg hc
theorem Ev.gd {α : Type} [Inhabited α] {t : Bool} {f : Nat → Option α} {a : α} (h : t = true → Ev f a) : Ev (fun k => gd t (f k)) (if t = true then a else default) := by
  cases t with
  | true => exact (h rfl).eq fun _ => rfl
  | false => exact (Ev.const default).eq fun _ => rfl
theorem Ev.g1 {α : Type} [Inhabited α] {t : Bool} {f : Nat → Option α} {a : α} (ht : t = true) (h : Ev f a) : Ev (fun k => Q.gd t (f k)) a := by
  subst ht; exact h.eq fun _ => rfl
theorem Ev.g0 {α : Type} [Inhabited α] {t : Bool} {f : Nat → Option α} (ht : t = false) : Ev (fun k => Q.gd t (f k)) default := by
  subst ht; exact (Ev.const default).eq fun _ => rfl
theorem Ev.ev {α : Type} {o : Option α} {a : α} (h : o = some a) : Ev (fun _ => o) a := ⟨0, fun _ _ => h⟩

theorem ix_ {α : Type} {x : List α} {i : Nat} (h : i < x.length) : ix x (i : Int) = some x[i] := by
  unfold ix; rw [if_pos (by omega), Int.toNat_natCast]; simp [h]
theorem ap_ {x y : List ByteArray} (h : x.length + y.length ≤ 1000000) : app 16 x y = some (x ++ y) := by
  unfold app; rw [if_pos (by omega)]
theorem drop_at {x : List ByteArray} {i : Nat} (h : i < x.length) : x.drop i = x[i] :: x.drop (i + 1) := List.drop_eq_getElem_cons h

theorem sub_ {s : ByteArray} {i j : Nat} (h : i ≤ j) (h' : j ≤ s.size) : sub s (i : Int) (j : Int) = some (s.extract i j) := by
  unfold sub; rw [if_pos (by omega)]; simp
theorem bx_ {s : ByteArray} {i : Nat} (h : i < s.data.toList.length) : bx s (i : Int) = some ((s.data.toList[i]).toNat : Int) := by
  have h' : i < s.size := by rw [Array.length_toList] at h; exact h
  unfold bx Q.bt; rw [if_pos (by omega), Int.toNat_natCast, List.getD_eq_getElem?_getD, List.getElem?_eq_getElem h]; rfl
end Go.Proofs.YtngcfmnmjkncoaaDoor.Pu
