/- What is known of the program's variables, from what a row's list says; and back, as the library's contracts ask it; no condition but the typed premises. -/
import Derived.Test.YtmjkflppajienaaDoorRRd
import Derived.Lib.LaidTab
import Derived.Lib.ItoaNum
import Derived.Sort.Grow
import Derived.Lib.ConvBytes
import Derived.Deep.Draws
namespace Go.Proofs.YtmjkflppajienaaDoor.R
open Go Go.RowKit Go.Lib
set_option linter.unusedVariables false
section
variable {P : Program} {W : World}
/-- What a row's list says of one variable. -/
def VarRd (P : Program) (w : World) (n : String) (d : DataW Unit) : Prop :=
  ∃ g t cs fuel p, P.globalNamed n = some g ∧ (P.globals[g]?).map (·.type) = some t ∧ w.var? P n = some cs ∧ DataW.trod (fun _ => ()) P w 0 (fun _ => true) false fuel t cs.toList = some (d, p)
theorem varRd_of : ∀ {l : List (String × DataW Unit)} {ps : List MemPlace}, DataW.LaidVars P W l ps → ∀ n d, (n, d) ∈ l → VarRd P W n d
  | [], _, _, _, _, hm => by cases hm
  | (n', d') :: r, ps, h, n, d, hm => by
    obtain ⟨g, t, cs, fuel, p, q, h1, h2, h3, h4, h5, _⟩ := h
    rcases List.mem_cons.1 hm with e | e
    · cases e
      exact ⟨g, t, cs, fuel, p, h1, h2, h3, h4⟩
    · exact varRd_of h5 n d e
theorem laid_rd {l : List (String × DataW Unit)} (h : laidMet P l W) {n : String} {d : DataW Unit} (hm : (n, d) ∈ l) : VarRd P W n d :=
  let ⟨_, hv, _⟩ := h
  varRd_of hv n d hm
theorem var_lt {n : String} {g : Nat} {cs : Array Value} (hg : P.globalNamed n = some g) (h : W.var? P n = some cs) : g < W.heap.size := by
  simp only [World.var?, hg, Option.bind_some] at h
  split at h
  · rename_i c _ _ hc
    exact (Array.getElem?_eq_some_iff.1 hc).1
  · cases h
theorem KV.tab_of {n : String} {g t e m : Nat} {k : IntKind} {zs : List Int} {vs : List Value} (hg : P.globalNamed n = some g) (hty : (P.globals[g]?).map (·.type) = some t) (ht : P.underlying t = some (.array m e)) (he : P.underlying e = some (.int k)) (hce : P.cellsOf e = 1) (hct : P.cellsOf t = m) (hvs : vs = zs.map fun z => Value.int k z)
    (h : VarRd P W n (tabData k zs)) : (KV.tab g vs).holds fun b o v => FA W b o ∧ W.cell? ⟨b, o, none⟩ = v := by
  subst hvs
  obtain ⟨g', t', cs, fuel, p, hg', ht', hvar, hd⟩ := h
  obtain rfl := Option.some.inj (hg.symm.trans hg')
  obtain rfl := Option.some.inj (hty.symm.trans ht')
  have hl := var_lt hg hvar
  intro i
  refine ⟨hl, (World.var?_cell hg hvar i).trans ?_⟩
  have := cells_of_tab ht he hce hct hd
  rw [← this, Array.getElem?_toList]
theorem KV.err_of {n : String} {g t : Nat} {ms : Array (String × TypeId)} {nm : String} {d : DataW Unit} (hg : P.globalNamed n = some g) (hty : (P.globals[g]?).map (·.type) = some t) (ht : P.underlying t = some (.interface ms))
    (h : VarRd P W n (.iface nm d)) : (KV.err g).holds fun b o v => FA W b o ∧ W.cell? ⟨b, o, none⟩ = v := by
  obtain ⟨g', t', cs, fuel, p, hg', ht', hvar, hd⟩ := h
  obtain rfl := Option.some.inj (hg.symm.trans hg')
  obtain rfl := Option.some.inj (hty.symm.trans ht')
  have hl := var_lt hg hvar
  obtain ⟨_, u, v, hc, _⟩ := iface_of_trod ht hd
  refine ⟨u, v, fun i => ⟨hl, (World.var?_cell hg hvar i).trans ?_⟩⟩
  rw [← hc]
  simp
theorem below_grw (k : Nat) (os : Array Obj) : Below W.heap.size W (Go.Sort.grow (W.drewN k) os) := ⟨rfl, rfl, rfl, by show W.heap.size ≤ (W.heap ++ os).size; rw [Array.size_append]; omega, fun i hi => Array.getElem?_append_left hi⟩
theorem below_byw (e : TypeId) (s : ByteArray) : Below W.heap.size W (bytesWorld W e s) := ⟨rfl, rfl, rfl, by rw [bytesWorld_size]; omega, fun k hk => bytesWorld_at_old W e s k hk⟩
/-- A variable, by its cells. -/
theorem var_of {n : String} {g : Nat} {vs : List Value} (hg : P.globalNamed n = some g) (hne : vs ≠ []) (h : ∀ i, W.cell? ⟨g, i, none⟩ = vs[i]?) : W.var? P n = some vs.toArray := by
  simp only [World.var?, hg, Option.bind_some]
  have h0 := h 0
  obtain ⟨v, l, rfl⟩ := List.exists_cons_of_ne_nil hne
  simp only [World.cell?] at h h0
  split at h0
  · rename_i cs t s hc
    simp only [hc] at h ⊢
    refine congrArg some (Array.ext' (List.ext_getElem? fun i => ?_))
    have := h i
    simpa using this
  all_goals simp at h0
end
end Go.Proofs.YtmjkflppajienaaDoor.R
