/- strings.Builder's copyCheck and String, as contracts of functions that are handed what their caller owns; no condition but the typed premises. -/
import Derived.Test.YtmjkflppajienaaDoorR5
import Derived.Test.YtmjkflppajienaaDoorRY
import Derived.Shelf.Strings.Builder1
namespace Go.Proofs.YtmjkflppajienaaDoor.R
open Go Go.RowKit
set_option linter.unusedVariables false
set_option linter.unusedSimpArgs false

/-- Less is told of a variable. -/
theorem Sim.weak {bs : Nat → Nat} {w : World} {F : Fz} {m : Mp} {h : List Ob} {i t : Nat} {cs cs' : List SV} (sim : Sim bs w F m h) (hi : h[i]? = some (.cells t cs)) (hw : ∀ vs, RdSL w F m vs cs → RdSL w F m vs cs') : Sim bs w F m (h.set i (.cells t cs')) := by
  have hlt := (List.getElem?_eq_some_iff.1 hi).1
  have get : ∀ (k : Nat) (o : Ob), (h.set i (.cells t cs'))[k]? = some o → (k = i ∧ o = .cells t cs') ∨ h[k]? = some o := fun k o hk => by
    by_cases hki : k = i
    · subst hki; rw [List.getElem?_set_self hlt] at hk; exact .inl ⟨rfl, (Option.some.inj hk).symm⟩
    · rw [List.getElem?_set_ne (fun e => hki e.symm)] at hk; exact .inr hk
  refine ⟨sim.fl, sim.lt, sim.fr, sim.inj, fun k hk => sim.dom k (by simpa using hk), fun k o hk ho => ?_, fun k hk b => ?_, fun k j hk => ?_, sim.kn⟩
  · rcases get k _ hk with ⟨rfl, rfl⟩ | hk
    · obtain ⟨b, cur, g1, g2, g3, g4⟩ := sim.ob k t cs hi
      exact ⟨b, _, g1, g2, .cells (hw _ g3) g4⟩
    · exact sim.obj k o hk ho
  · rcases get k _ hk with ⟨rfl, he⟩ | hk
    · cases he
    · exact sim.tl k hk b
  · rcases get k _ hk with ⟨rfl, he⟩ | hk
    · cases he
    · exact sim.pn k j hk

/-- The same store, told by its cell. -/
theorem setCell_row {w : World} {b : Nat} {v0 v1 v : Value} {t : TypeId} (h : w.heap[b]? = some (.cells #[v0, v1] t (0, 0))) : w.setCell ⟨b, 0, none⟩ v = w.setRow b #[v, v1] := by
  unfold World.setCell World.setRow
  have hlt : b < w.heap.size := (Array.getElem?_eq_some_iff.1 h).1
  have hg : w.heap[b] = .cells #[v0, v1] t (0, 0) := (Array.getElem?_eq_some_iff.1 h).2
  congr 1
  apply Array.ext
  · simp
  · intro k h1 h2
    simp only [Array.getElem_modify]
    split
    · rename_i hk; subst hk; simp [hg]
    · rfl

theorem two_cells {w : World} {F : Fz} {m : Mp} {cur : Array Value} {a b : SV} (h : RdSL w F m cur.toList [a, b]) : ∃ v0 v1, cur = #[v0, v1] ∧ RdS w F m v0 a ∧ RdS w F m v1 b := by
  obtain ⟨l⟩ := cur
  cases h with
  | cons h0 h =>
    cases h with
    | cons h1 h => cases h; exact ⟨_, _, rfl, h0, h1⟩

section
variable {P : Program} {f t e : Nat}

theorem PG_copyCheck (xs : List UInt8)
    (hfresh : ∀ b w, w.cell? ⟨b, 0, none⟩ = some (.pointer none) → w.shape? b = some (t, 2) → w.frozen? ⟨b, 0, none⟩ = false → Calls P f #[.pointer (some ⟨b, 0, none⟩)] w fun e w' => e = .returned (.tuple #[]) ∧ w' = w.setCell ⟨b, 0, none⟩ (.pointer (some ⟨b, 0, none⟩)))
    (hused : ∀ b w, w.cell? ⟨b, 0, none⟩ = some (.pointer (some ⟨b, 0, none⟩)) → Calls P f #[.pointer (some ⟨b, 0, none⟩)] w fun e w' => e = .returned (.tuple #[]) ∧ w' = w) :
    PG P f [.ptr 0 0] [.cells t [.np 0 0, .bf e xs 1], .tail] (.tup []) [.cells t [.np 0 0, .bf e xs 1], .tail] [] := by
  intro bs vs w F m hvs hsim
  simp only [List.append_nil]
  obtain ⟨b, cur, g1, g2, g3, g4⟩ := hsim.ob 0 t _ rfl
  cases hvs with
  | cons hv hvs =>
    cases hvs
    cases hv with
    | ptr hm =>
      rw [g1] at hm
      cases hm
      obtain ⟨v0, v1, rfl, h0, h1⟩ := two_cells g3
      have c0 : w.cell? ⟨b, 0, none⟩ = some v0 := by rw [cell_of_row w b 0 _ t (0, 0) g2]; rfl
      cases h0 with
      | np1 hm2 =>
        rw [g1] at hm2
        cases hm2
        refine (hused b w c0).mono ?_
        rintro e' w' ⟨rfl, rfl⟩
        exact ⟨_, _, _, F, m, rfl, ⟨rfl, rfl⟩, .tup .nil, hsim, Gr.refl _ _ _⟩
      | np0 =>
        refine (hfresh b w c0 (by simp [World.shape?, g2]) (by simp [World.frozen?, g2])).mono ?_
        rintro e' w' ⟨rfl, rfl⟩
        have hr : Rel bs 0 w F m [] (([.cells t [.np 0 0, .bf e xs 1], .tail] : List Ob) ++ pins 0 [.cells t [.np 0 0, .bf e xs 1], .tail]) { tmps := #[], defers := [] } :=
          ⟨rfl, Dfr.nil, fun t tg s ht => by simp [Env.get] at ht, hsim⟩
        obtain ⟨bl, cur2, k1, k2, k3, k4, k5⟩ := hr.store (b := 0) (off := 0) (e := t) (cs := [.np 0 0, .bf e xs 1]) (vs := [.ptr 0 0]) (us := [.pointer (some ⟨b, 0, none⟩)]) (o := none) rfl (.cons (.ptr g1) .nil) (by simp [Value.oneCell']) (by simp)
        rw [g1] at k1
        cases k1
        rw [g2] at k2
        cases k2
        rw [setCell_row g2]
        have s1 := k4.sim
        refine ⟨_, _, _, F, m, rfl, ⟨rfl, rfl⟩, .tup .nil, ?_, k5⟩
        have s2 := s1.weak (i := 0) (t := t) (cs := [.ptr 0 0, .bf e xs 1]) (cs' := [.np 0 0, .bf e xs 1]) rfl (fun vs h => by
          cases h with
          | cons h0 h => cases h0 with | ptr hm => exact .cons (.np1 hm) h)
        simpa using s2
end
end Go.Proofs.YtmjkflppajienaaDoor.R
namespace Go.Proofs.YtmjkflppajienaaDoor.R
open Go Go.RowKit Go.Shelf Go.Proofs
variable {P : Program} {ρ : Ren}

set_option maxHeartbeats 1000000 in
set_option maxRecDepth 100000 in
theorem string_row (L : Lays.n169 P ρ) (X : Builder.Extra P ρ) (b g cap : Nat) (p : Value) (cur : Array Value) (l : List UInt8) (w : World) (h0 : l ≠ []) (hbk : w.heap[b]? = some (.cells #[p, .slice (some ⟨g, 0, none⟩) l.length cap] (ρ.t 72) (0, 0)))
    (hg : w.heap[g]? = some (.cells cur (ρ.t 5) (0, 0))) (hnc : l.length ≤ cap) (hcm : cap ≤ maxLen) (hcs : cur.size = cap) (hcell : ∀ (j : Nat) (x : UInt8), l[j]? = some x → w.cell? ⟨g, j, none⟩ = some (.int .u8 x.toNat)) :
    Calls P (ρ.f 169) #[.pointer (some ⟨b, 0, none⟩)] w fun e w' => e = .returned (.string ⟨l.toArray⟩) ∧ w' = w.drew.freeze ⟨g, 0, none⟩ l.length := by
  have hl0 : l.length ≠ 0 := by simpa using h0
  have c1 : w.drew.cell? ⟨b, 1, none⟩ = some (.slice (some ⟨g, 0, none⟩) l.length cap) := by
    have : w.drew.heap[b]? = some (.cells #[p, .slice (some ⟨g, 0, none⟩) l.length cap] (ρ.t 72) (0, 0)) := hbk
    rw [Lib.cell_of_heap this]; rfl
  have hSD : (Builtin.unsafeSliceData_ #[(ρ.t 37)] (ρ.t 127) #[.slice (some ⟨g, 0, none⟩) l.length cap]).run P w.drew = .ok (.pointer (some ⟨g, 0, none⟩)) w.drew :=
    Lib.run_unsafeSliceData_row _ _ _ _ _ _ (by omega)
  have hUS : (Builtin.unsafeString_ #[(ρ.t 127), (ρ.t 3)] (ρ.t 9) #[.pointer (some ⟨g, 0, none⟩), .int .i64 l.length]).run P w.drew = .ok (.string ⟨l.toArray⟩) (w.drew.freeze ⟨g, 0, none⟩ l.length) := by
    refine Lib.run_unsafeString_row w.drew (ρ.t 127) (ρ.t 3) (ρ.t 9) (ρ.t 5) L.t127 X.cellsByte g cur.size (by have hg' : w.drew.heap[g]? = some (.cells cur (ρ.t 5) (0, 0)) := hg; simp [World.shape?, hg']) l h0 (by omega) (by unfold maxLen at hcm; omega) ?_
    intro j x hx
    rw [Addr.add_lit, Nat.zero_add]
    exact hcell j x hx
  clear hnc hcm hcs hcell
  have mixed := L.mixed
  have t72 := L.t72; have a72 := L.a72; have z72 := L.z72; have v72 := L.v72; have u72 := run_underlying L.t72
  have t70 := L.t70; have a70 := L.a70; have z70 := L.z70; have v70 := L.v70; have u70 := run_underlying L.t70
  have t37 := L.t37; have a37 := L.a37; have z37 := L.z37; have v37 := L.v37; have u37 := run_underlying L.t37
  have t127 := L.t127; have a127 := L.a127; have z127 := L.z127; have v127 := L.v127; have u127 := run_underlying L.t127
  have t3 := L.t3; have a3 := L.a3; have z3 := L.z3; have v3 := L.v3; have u3 := run_underlying L.t3
  have t9 := L.t9; have a9 := L.a9; have z9 := L.z9; have v9 := L.v9; have u9 := run_underlying L.t9
  have t5 := X.t5; have a5 := X.a5; have z5 := X.z5; have v5 := X.v5; have u5 := run_underlying X.t5
  go_enter L.f169, Body.n169_ntmps ρ
  go_wp2
  go_region_o
  all_goals (go_wp2; go_ret; exact ⟨rfl, rfl⟩)

set_option maxHeartbeats 2000000 in
set_option maxRecDepth 100000 in
theorem string_nil (L : Lays.n169 P ρ) (X : Builder.Extra P ρ) (b : Nat) (p : Value) (w : World) (hbk : w.heap[b]? = some (.cells #[p, .slice none 0 0] (ρ.t 72) (0, 0))) :
    Calls P (ρ.f 169) #[.pointer (some ⟨b, 0, none⟩)] w fun e w' => e = .returned (.string ⟨#[]⟩) ∧ w' = w.drew := by
  have hUS := Any.unsafeString_none L X
  have c1 : w.drew.cell? ⟨b, 1, none⟩ = some (.slice none 0 0) := by
    have : w.drew.heap[b]? = some (.cells #[p, .slice none 0 0] (ρ.t 72) (0, 0)) := hbk
    rw [Lib.cell_of_heap this]; rfl
  have hSD : (Builtin.unsafeSliceData_ #[(ρ.t 37)] (ρ.t 127) #[.slice none 0 0]).run P w.drew = .ok (.pointer none) w.drew := rfl
  have mixed := L.mixed
  have t72 := L.t72; have a72 := L.a72; have z72 := L.z72; have v72 := L.v72; have u72 := run_underlying L.t72
  have t70 := L.t70; have a70 := L.a70; have z70 := L.z70; have v70 := L.v70; have u70 := run_underlying L.t70
  have t37 := L.t37; have a37 := L.a37; have z37 := L.z37; have v37 := L.v37; have u37 := run_underlying L.t37
  have t127 := L.t127; have a127 := L.a127; have z127 := L.z127; have v127 := L.v127; have u127 := run_underlying L.t127
  have t3 := L.t3; have a3 := L.a3; have z3 := L.z3; have v3 := L.v3; have u3 := run_underlying L.t3
  have t9 := L.t9; have a9 := L.a9; have z9 := L.z9; have v9 := L.v9; have u9 := run_underlying L.t9
  have t5 := X.t5; have a5 := X.a5; have z5 := X.z5; have v5 := X.v5; have u5 := run_underlying X.t5
  go_enter L.f169, Body.n169_ntmps ρ
  go_wp2
  go_region_o
  all_goals (go_wp2; go_ret; exact ⟨rfl, rfl⟩)

set_option maxHeartbeats 2000000 in
set_option maxRecDepth 100000 in
theorem string_noroom (L : Lays.n169 P ρ) (X : Builder.Extra P ρ) (b g : Nat) (p : Value) (cur : Array Value) (w : World) (hbk : w.heap[b]? = some (.cells #[p, .slice (some ⟨g, 0, none⟩) 0 0] (ρ.t 72) (0, 0))) (hg : w.heap[g]? = some (.cells cur (ρ.t 5) (0, 0))) :
    Calls P (ρ.f 169) #[.pointer (some ⟨b, 0, none⟩)] w fun e w' => e = .returned (.string ⟨#[]⟩) ∧ w' = w.drew.alloc (.view ⟨g, 0, none⟩ (ρ.t 5)) := by
  have hUS := Any.unsafeString_none L X
  have hlt : b < w.heap.size := by
    rcases Nat.lt_or_ge b w.heap.size with h' | h'
    · exact h'
    · simp [Array.getElem?_eq_none h'] at hbk
  have c1 : w.drew.cell? ⟨b, 1, none⟩ = some (.slice (some ⟨g, 0, none⟩) 0 0) := by
    have : w.drew.heap[b]? = some (.cells #[p, .slice (some ⟨g, 0, none⟩) 0 0] (ρ.t 72) (0, 0)) := hbk
    rw [Lib.cell_of_heap this]; rfl
  have hSD : (Builtin.unsafeSliceData_ #[(ρ.t 37)] (ρ.t 127) #[.slice (some ⟨g, 0, none⟩) 0 0]).run P w.drew = .ok (.pointer (some ⟨w.drew.heap.size, 0, none⟩)) (w.drew.alloc (.view ⟨g, 0, none⟩ (ρ.t 5))) :=
    Lib.run_unsafeSliceData_zero w.drew _ _ (ρ.t 5) L.t127 ⟨g, 0, none⟩ 0 ((ρ.t 5), cur.size) (by have hg' : w.drew.heap[g]? = some (.cells cur (ρ.t 5) (0, 0)) := hg; simp [World.shape?, hg'])
  have c2 : (w.drew.alloc (.view ⟨g, 0, none⟩ (ρ.t 5))).cell? ⟨b, 1, none⟩ = some (.slice (some ⟨g, 0, none⟩) 0 0) := by
    have : (w.drew.alloc (.view ⟨g, 0, none⟩ (ρ.t 5))).heap[b]? = _ := (Lib.alloc_old w.drew _ b hlt).trans hbk
    rw [Lib.cell_of_heap this]; rfl
  have c3 : (w.alloc (.view ⟨g, 0, none⟩ (ρ.t 5))).drew.cell? ⟨b, 1, none⟩ = some (.slice (some ⟨g, 0, none⟩) 0 0) := c2
  have c0 : w.cell? ⟨b, 1, none⟩ = some (.slice (some ⟨g, 0, none⟩) 0 0) := c1
  have mixed := L.mixed
  have t72 := L.t72; have a72 := L.a72; have z72 := L.z72; have v72 := L.v72; have u72 := run_underlying L.t72
  have t70 := L.t70; have a70 := L.a70; have z70 := L.z70; have v70 := L.v70; have u70 := run_underlying L.t70
  have t37 := L.t37; have a37 := L.a37; have z37 := L.z37; have v37 := L.v37; have u37 := run_underlying L.t37
  have t127 := L.t127; have a127 := L.a127; have z127 := L.z127; have v127 := L.v127; have u127 := run_underlying L.t127
  have t3 := L.t3; have a3 := L.a3; have z3 := L.z3; have v3 := L.v3; have u3 := run_underlying L.t3
  have t9 := L.t9; have a9 := L.a9; have z9 := L.z9; have v9 := L.v9; have u9 := run_underlying L.t9
  have t5 := X.t5; have a5 := X.a5; have z5 := X.z5; have v5 := X.v5; have u5 := run_underlying X.t5
  go_enter L.f169, Body.n169_ntmps ρ
  go_wp2
  go_region_o
  all_goals (go_wp2; go_ret; exact ⟨rfl, rfl⟩)

set_option maxHeartbeats 2000000 in
set_option maxRecDepth 100000 in
theorem string_room (L : Lays.n169 P ρ) (X : Builder.Extra P ρ) (b g cap : Nat) (p : Value) (w : World) (hc0 : cap ≠ 0) (hbk : w.heap[b]? = some (.cells #[p, .slice (some ⟨g, 0, none⟩) 0 cap] (ρ.t 72) (0, 0))) :
    Calls P (ρ.f 169) #[.pointer (some ⟨b, 0, none⟩)] w fun e w' => e = .returned (.string ⟨#[]⟩) ∧ w' = w.drew := by
  have hUS := Any.unsafeString_none L X
  have c1 : w.drew.cell? ⟨b, 1, none⟩ = some (.slice (some ⟨g, 0, none⟩) 0 cap) := by
    have : w.drew.heap[b]? = some (.cells #[p, .slice (some ⟨g, 0, none⟩) 0 cap] (ρ.t 72) (0, 0)) := hbk
    rw [Lib.cell_of_heap this]; rfl
  have hSD : (Builtin.unsafeSliceData_ #[(ρ.t 37)] (ρ.t 127) #[.slice (some ⟨g, 0, none⟩) 0 cap]).run P w.drew = .ok (.pointer (some ⟨g, 0, none⟩)) w.drew :=
    Lib.run_unsafeSliceData_row _ _ _ _ _ _ hc0
  clear hc0
  have mixed := L.mixed
  have t72 := L.t72; have a72 := L.a72; have z72 := L.z72; have v72 := L.v72; have u72 := run_underlying L.t72
  have t70 := L.t70; have a70 := L.a70; have z70 := L.z70; have v70 := L.v70; have u70 := run_underlying L.t70
  have t37 := L.t37; have a37 := L.a37; have z37 := L.z37; have v37 := L.v37; have u37 := run_underlying L.t37
  have t127 := L.t127; have a127 := L.a127; have z127 := L.z127; have v127 := L.v127; have u127 := run_underlying L.t127
  have t3 := L.t3; have a3 := L.a3; have z3 := L.z3; have v3 := L.v3; have u3 := run_underlying L.t3
  have t9 := L.t9; have a9 := L.a9; have z9 := L.z9; have v9 := L.v9; have u9 := run_underlying L.t9
  have t5 := X.t5; have a5 := X.a5; have z5 := X.z5; have v5 := X.v5; have u5 := run_underlying X.t5
  go_enter L.f169, Body.n169_ntmps ρ
  go_wp2
  go_region_o
  all_goals (go_wp2; go_ret; exact ⟨rfl, rfl⟩)

theorem cell_modify (w : World) (k : Nat) (f : Obj → Obj) (hf : ∀ o, (∃ c e z z', o = .cells c e z ∧ f o = .cells c e z') ∨ f o = o) (b o : Nat) : ({ w with heap := w.heap.modify k f } : World).cell? ⟨b, o, none⟩ = w.cell? ⟨b, o, none⟩ := by
  simp only [World.cell?, Array.getElem?_modify]
  by_cases hb : k = b
  · rw [if_pos hb]
    cases hg : w.heap[b]? with
    | none => rfl
    | some ob =>
      rw [Option.map_some]
      rcases hf ob with ⟨c, e, z, z', h1, h2⟩ | h1
      · rw [h2, h1]
      · rw [h1]
  · rw [if_neg hb]
theorem freeze_cell (w : World) (a : Addr) (n : Nat) (b o : Nat) : (w.freeze a n).cell? ⟨b, o, none⟩ = w.cell? ⟨b, o, none⟩ := by
  unfold World.freeze
  split
  · rfl
  · refine cell_modify w _ _ (fun o => ?_) b o
    cases o with
    | cells c e z => exact .inl ⟨c, e, z, _, rfl, rfl⟩
    | _ => exact .inr rfl
theorem freeze_other (w : World) (a : Addr) (n : Nat) (b : Nat) (h : b ≠ a.block) : (w.freeze a n).heap[b]? = w.heap[b]? := by
  unfold World.freeze
  split
  · rfl
  · simp only [Array.getElem?_modify]
    rw [if_neg (fun e => h e.symm)]
theorem freeze_size (w : World) (a : Addr) (n : Nat) : (w.freeze a n).heap.size = w.heap.size := by
  unfold World.freeze
  split <;> simp
theorem freeze_rest (w : World) (a : Addr) (n : Nat) : (w.freeze a n).os = w.os ∧ (w.freeze a n).tape = w.tape ∧ (w.freeze a n).output = w.output := by
  unfold World.freeze
  split <;> exact ⟨rfl, rfl, rfl⟩

theorem freeze_peek (w : World) (a : Addr) (n : Nat) (b o : Nat) : peek (w.freeze a n) b o = peek w b o := by
  unfold peek
  rw [freeze_cell]
  congr 1
  unfold World.freeze
  split
  · rfl
  · unfold mapAt
    simp only [Array.getElem?_modify]
    by_cases hb : a.block = b
    · rw [if_pos hb]
      cases hg : w.heap[b]? with
      | none => rfl
      | some ob => cases ob <;> rfl
    · rw [if_neg hb]
/-- The spare cells are let go. -/
theorem Tk.letgo {w w' : World} {F : Fz} {m : Mp} {j : Nat} (hs : w'.os = w.os ∧ w'.tape = w.tape ∧ w'.output = w.output) (hz : w.heap.size ≤ w'.heap.size) (hc : ∀ b o, b < w.heap.size → peek w' b o = peek w b o) (hf : ∀ b o, F b o → b < w.heap.size)
    (hb : ∀ b, b < w.heap.size → (m j).blk ≠ some b → w'.heap[b]? = w.heap[b]?) : Tk w F m j w' F .no :=
  ⟨hs.1, hs.2.1, hs.2.2, hz, fun b o hF => ⟨hF, hc b o (hf b o hF)⟩, hb, fun b o hF => .inl hF, fun b o h => h.elim, fun b o _ h => h, fun b h => by cases h⟩

theorem PG_String (L : Lays.n169 P ρ) (X : Builder.Extra P ρ) (xs : List UInt8) : PG P (ρ.f 169) [.ptr 0 0] [.cells (ρ.t 72) [.np 0 0, .bf (ρ.t 5) xs 1], .tail] (vs ⟨xs.toArray⟩) [.cells (ρ.t 72) [.np 0 0, .p (.sl 1 .u xs)], .tail] [] := by
  intro bs vs w F m hvs hsim
  simp only [List.append_nil]
  obtain ⟨b, cur, g1, g2, g3, g4⟩ := hsim.ob 0 (ρ.t 72) _ rfl
  cases hvs with
  | cons hv hvs =>
    cases hvs
    cases hv with
    | ptr hm =>
      rw [g1] at hm
      cases hm
      obtain ⟨v0, v1, rfl, h0, h1⟩ := two_cells g3
      have hr : Rel bs 1 w F m [] (([.cells (ρ.t 72) [.np 0 0, .bf (ρ.t 5) xs 1], .tail] : List Ob) ++ pins 0 [.cells (ρ.t 72) [.np 0 0, .bf (ρ.t 5) xs 1], .tail]) { tmps := #[undef], defers := [] } :=
        ⟨rfl, Dfr.nil, fun t tg s ht => by simp [Env.get] at ht, hsim⟩
      have fin : ∀ (w' : World) (v : Value), v = .string ⟨xs.toArray⟩ → Tk w F m 1 w' F .no → ∃ v' s h' F' m', Ending.returned v = .returned v' ∧ (s = R.vs ⟨xs.toArray⟩ ∧ h' = [Ob.cells (ρ.t 72) [.np 0 0, .p (.sl 1 .u xs)], .tail] ++ pins 0 [.cells (ρ.t 72) [.np 0 0, .bf (ρ.t 5) xs 1], .tail]) ∧ RdS w' F' m' v' s ∧ Sim bs w' F' m' h' ∧ Gr w F m w' F' m' := by
        rintro w' v rfl hk
        obtain ⟨r1, r2⟩ := hr.retok (j := 1) (d := 0) (s := R.vs ⟨xs.toArray⟩) (v := .string ⟨xs.toArray⟩) (fun b => hsim.tl 1 rfl b) (by simp) rfl hk (.p (.s _))
        exact ⟨_, _, _, F, _, rfl, ⟨rfl, rfl⟩, .p (.s _), r1.sim, r2⟩
      cases h1 with
      | bf0 hm1 =>
        refine (string_nil L X b v0 w g2).mono ?_
        rintro e' w' ⟨rfl, rfl⟩
        exact fin _ _ rfl (Tk.letgo ⟨rfl, rfl, rfl⟩ (Nat.le_refl _) (fun _ _ _ => rfl) hsim.fl (fun _ _ _ => rfl))
      | @bf _ _ g cap cur2 _ hrc hm1 hb1 hc1 hcm1 hs1 =>
        cases xs with
        | nil =>
          by_cases hc0 : cap = 0
          · subst hc0
            refine (string_noroom L X b g v0 cur2 w g2 hb1).mono ?_
            rintro e' w' ⟨rfl, rfl⟩
            exact fin _ _ rfl (Tk.letgo ⟨rfl, rfl, rfl⟩ (by simp) (fun k o hk => cell_of_heap (Below.heap_alloc w.drew _ k hk)) hsim.fl (fun k hk _ => Below.heap_alloc w.drew _ k hk))
          · refine (string_room L X b g cap v0 w hc0 g2).mono ?_
            rintro e' w' ⟨rfl, rfl⟩
            exact fin _ _ rfl (Tk.letgo ⟨rfl, rfl, rfl⟩ (Nat.le_refl _) (fun _ _ _ => rfl) hsim.fl (fun _ _ _ => rfl))
        | cons x r =>
          obtain ⟨vals, k1, k2, k3⟩ := hrc.vals
          have hcell : ∀ (j : Nat) (y : UInt8), (x :: r)[j]? = some y → w.cell? ⟨g, j, none⟩ = some (.int .u8 y.toNat) := by
            have key : ∀ (l : List UInt8) (vals : List Value), RdL w F vals ((l.map (Ty.enc .u)).flatMap PV.cells) → ∀ (j : Nat) (y : UInt8), l[j]? = some y → vals[j]? = some (.int .u8 y.toNat) := by
              intro l
              induction l with
              | nil => intro vals _ j y hy; simp at hy
              | cons a l ih =>
                intro vals hv j y hy
                rw [List.map_cons, List.flatMap_cons] at hv
                cases hv with
                | cons o1 h1 hv =>
                  cases h1
                  cases j with
                  | zero => simp at hy; subst hy; rfl
                  | succ j => simpa using ih _ hv j y (by simpa using hy)
            intro j y hy
            have := k2 j _ (key _ _ k3 j y hy)
            rwa [Nat.zero_add] at this
          refine (string_row L X b g cap v0 cur2 (x :: r) w (by simp) g2 hb1 hc1 hcm1 hs1 hcell).mono ?_
          rintro e' w' ⟨rfl, rfl⟩
          refine fin _ _ rfl (Tk.letgo (freeze_rest _ _ _) (by rw [freeze_size]; exact Nat.le_refl _) (fun k o _ => freeze_peek _ _ _ _ _) hsim.fl (fun k _ hk => freeze_other _ _ _ _ ?_))
          rintro rfl
          exact hk (by simp [hm1, Pl.blk])
end Go.Proofs.YtmjkflppajienaaDoor.R
