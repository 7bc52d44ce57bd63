/- A region that draws its order, one of whose operations makes a variable and waits for nothing; no condition but the typed premises. -/
import Derived.Test.YtngcfmnmjkncoaaDoorQF2
namespace Go.Proofs.YtngcfmnmjkncoaaDoor.Q
open Go Go.RowKit
set_option linter.unusedVariables false
set_option linter.unusedSimpArgs false

section
variable {P : Program} {T : Tab} {nt : Nat} {ops : Array Oper} {h : List Ob} {E E1 : Env} {n : Nat}

/-- A variable, told as anything. -/
theorem zN (hT : TOk P T) {A : Tg} {hp : List Ob} {o : Oper} {t : Nat} {ti : TI} (ho : o.op = .alloc t) (ht : T t = some ti) : Yld P o E A hp .any := by
  refine .of_run fun a w F m hs hO => ?_
  obtain ⟨inf, z, hi, hi1, hi2, hz', hzc⟩ := (hT t ti ht).zeros
  exact ⟨.pointer (some ⟨w.heap.size, 0, none⟩), w.alloc (.cells z.cells t), F, by simp [execOp, ho, Instr.alloc, zeroValue, typeInfo, hi, hz', newVar, newRow], .any _, ⟨rfl, rfl, rfl, by simp, fun _ _ h => h, fun b hb => Below.heap_alloc w _ b hb, fun _ _ h => .inl h⟩⟩

/-- A new variable that nobody owns becomes one's own. -/
theorem Rel.adopt {w0 w : World} {F0 F : Fz} {m : Mp} {a : Act} {b d t : Nat} {cur : Array Value} {zs : List PV} (hr : Rel nt w F m E h a) (hq : Qt w0 F0 w F) (s0 : Sim w0 F0 m h) (hd : Env.free d E = true) (hv : a.tmps.getD d undef = .pointer (some ⟨b, 0, none⟩)) (hb : w.heap[b]? = some (.cells cur t (0, 0)))
    (hF : ∀ o, ¬ F b o) (hlt : w0.heap.size ≤ b) (hc : cur.toList = zs.map zv) (hz : zs.all zok = true) :
    Rel nt w F (upd m h.length (.obj b)) ((d, [], .ptr h.length 0) :: E) (h ++ [.cells t (zs.map .p)]) a ∧ Gr w0 F0 m w F (upd m h.length (.obj b)) := by
  have hs := hr.sim
  have hbs : b < w.heap.size := (Array.getElem?_eq_some_iff.1 hb).1
  have hfree : m h.length = .free := hs.dom _ (Nat.le_refl _)
  have hno : ∀ i, (m i).blk ≠ some b := fun i hi => by have := s0.lt i b hi; omega
  have hsame : ∀ i, m i ≠ .free → Same w m w (upd m h.length (.obj b)) i := fun i hi => ⟨upd_other (by rintro rfl; exact hi hfree), fun _ _ _ => rfl⟩
  have hcase : ∀ {i b'}, (upd m h.length (.obj b) i).blk = some b' → (i = h.length ∧ b' = b) ∨ (m i).blk = some b' := fun {i b'} hi => by
    by_cases hij : i = h.length
    · subst hij; rw [upd_same] at hi; simp only [Pl.blk, Option.some.injEq] at hi; exact .inl ⟨rfl, hi.symm⟩
    · rw [upd_other hij] at hi; exact .inr hi
  have hget : ∀ {i o}, (h ++ [Ob.cells t (zs.map .p)])[i]? = some o → (i < h.length ∧ h[i]? = some o) ∨ (i = h.length ∧ o = .cells t (zs.map .p)) := fun {i o} hi => by
    by_cases hl : i < h.length
    · rw [List.getElem?_append_left hl] at hi; exact .inl ⟨hl, hi⟩
    · have := (List.getElem?_eq_some_iff.1 hi).1
      simp at this
      obtain rfl : i = h.length := by omega
      rw [List.getElem?_concat_length] at hi
      exact .inr ⟨rfl, (Option.some.inj hi).symm⟩
  obtain ⟨z1, z2⟩ := zero_rd (w := w) (F := F) (m := upd m h.length (.obj b)) hz
  refine ⟨⟨hr.size, hr.defers.same fun i D h1 h2 _ _ => ?_, fun u tg s hu => ?_, ?_⟩, ?_⟩
  · have hl := (List.getElem?_eq_some_iff.1 h1).1
    exact ⟨by rw [List.getElem?_append_left hl]; exact h1, (upd_other (by omega)).trans h2, rfl⟩
  · simp only [Env.get] at hu
    cases hbq : Nat.beq d u with
    | true =>
      rw [hbq] at hu
      simp only [cond_true, Option.some.injEq, Prod.mk.injEq] at hu
      obtain ⟨rfl, rfl⟩ := hu
      obtain rfl := Nat.eq_of_beq_eq_true hbq
      exact .inl ⟨Tags.nil a, by rw [hv]; exact .ptr upd_same⟩
    | false =>
      rw [hbq] at hu
      exact (hr.env u tg s hu).imp (fun z => ⟨z.1, z.2.keep (Ext.refl _ _) fun j _ hj => hsame j hj⟩) _root_.id
  · refine ⟨hs.fl, fun i b' hi => ?_, fun i b' o hF' hh => ?_, fun i k b' hi hk => ?_, fun i hi => ?_, fun i t' cs hi => ?_, fun i hi b' => ?_, fun i b' r ts ss hi => ?_, fun k i b' hi => ?_⟩
    · rcases hcase hi with ⟨_, rfl⟩ | h1
      · exact hbs
      · exact hs.lt i b' h1
    · by_cases hij : i = h.length
      · subst hij; rw [upd_same] at hh; obtain rfl : b = b' := hh; exact hF o hF'
      · rw [upd_other hij] at hh; exact hs.fr i b' o hF' hh
    · rcases hcase hi with ⟨rfl, rfl⟩ | h1
      · rcases hcase hk with ⟨rfl, _⟩ | h2
        · rfl
        · exact absurd h2 (hno k)
      · rcases hcase hk with ⟨rfl, rfl⟩ | h2
        · exact absurd h1 (hno i)
        · exact hs.inj i k b' h1 h2
    · simp at hi; rw [upd_other (by omega)]; exact hs.dom i (by omega)
    · rcases hget hi with ⟨hl, h1⟩ | ⟨rfl, h1⟩
      · obtain ⟨b', cur', g1, g2, g3, g4⟩ := hs.ob i t' cs h1
        exact ⟨b', cur', (upd_other (by omega)).trans g1, g2, g3.keep (Ext.refl _ _) fun j _ hj => hsame j hj, g4⟩
      · cases h1
        exact ⟨b, cur, upd_same, hb, by rw [hc]; exact z1, by rw [hc]; exact z2⟩
    · rcases hget hi with ⟨hl, h1⟩ | ⟨_, h1⟩
      · rw [upd_other (by omega)]; exact hs.tl i h1 b'
      · cases h1
    · rcases hget hi with ⟨hl, h1⟩ | ⟨_, h1⟩
      · obtain ⟨g1, g2, g3⟩ := hs.rc i b' r ts ss h1
        exact ⟨(upd_other (by omega)).trans g1, g2, g3.keep (Ext.refl _ _) fun j _ hj => hsame j hj⟩
      · cases h1
    · rcases hget hi with ⟨hl, h1⟩ | ⟨_, h1⟩
      · have h2 := hs.pn k i b' h1
        exact (upd_other (by rintro rfl; rw [hfree] at h2; cases h2)).trans h2
      · cases h1
  · have g := hq.gr s0
    refine ⟨g.os, g.tape, g.output, g.size, g.ext, g.block, fun i b' o hh hb' => ?_, g.fl⟩
    by_cases hij : i = h.length
    · subst hij; rw [upd_same] at hh; obtain rfl : b = b' := hh; omega
    · rw [upd_other hij] at hh; exact g.own i b' o hh hb'

/-- A region that draws its order; operation j0 of its head makes a variable. -/
theorem W_drawA (hm : P.follows .mixedOrders = true) (hT : TOk P T) {id j0 d t : Nat} {o0 : Oper} {ti : TI} {Q : QB} (hd : Head P nt ops h 0 n E E1) (hn : Nat.ble n ops.size = true) (ha : anyOk ops n = true) (hE : plainE E = true) (hf : fwdOk ops = true) (ht : tailOk ops n = true)
    (hj0 : Nat.blt j0 n = true) (ho0 : ops[j0]? = some o0) (hop : o0.op = .alloc t) (hg0 : o0.guard = none) (hd0 : o0.dst = some d) (hti : T t = some ti) (hEd : E1.get d = some ([], .any)) (hfree : Env.free d E1 = true) (hdn : Nat.blt d nt = true)
    (hW : WL P nt ops n ((d, [], .ptr h.length 0) :: E1) (h ++ [.cells t (ti.zero.map .p)]) Q) : W P nt (.region id ops true) E h Q := by
  obtain ⟨Es, it, I⟩ := hd.its0
  have hn := Nat.le_of_ble_eq_true hn
  have hj0 := of_blt hj0
  have hit : it j0 = ([], .any) := by
    rw [← I.last] at hEd
    rcases I.get (Nat.le_refl _) hEd with ⟨i, oi, h1, h2, h3, h4⟩ | ⟨_, h2⟩
    · by_cases hij : i = j0
      · subst hij; exact h4.symm
      · exact absurd hd0 (I.dst_ne ha h1 hj0 hij h2 ho0 h3)
    · exact absurd hd0 (h2 j0 o0 hj0 ho0)
  obtain ⟨inf, z, hi, hi1, hi2, hz', hzc⟩ := (hT t ti hti).zeros
  have hzok := (hT t ti hti).zok
  have key : ∀ a w F m, Rel nt w F m E h a → wpAny P .any ops (Post nt Q w F m) ops.size (Array.replicate ops.size false) a w.drew := fun a w F m hr => by
    have hr' : Rel nt w.drew F m E h a := ⟨hr.size, hr.defers.same fun i D h1 h2 h3 _ => ⟨h1, h2, rfl⟩, fun t tg s ht => (hr.env t tg s ht).imp (fun z => ⟨z.1, (Qt.drew w F).rds hr.sim z.2⟩) _root_.id, (Qt.drew w F).sim hr.sim⟩
    refine Mid.allI (F0 := F) (m := m) (w0 := w.drew) I (fun listed a1 w1 F1 => listed.getD j0 false = true → ∃ b cur, a1.tmps.getD d undef = .pointer (some ⟨b, 0, none⟩) ∧ w1.heap[b]? = some (.cells cur t (0, 0)) ∧ (∀ o, ¬ F1 b o) ∧ w.drew.heap.size ≤ b ∧ cur.toList = ti.zero.map zv) ha hE hf ht hn hr'.sim ?_ ?_ ops.size _ a w.drew F
      ⟨hr.size, hr'.defers, Qt.refl _ _, by simp, fun j oj hoj hl => (by rw [getD_replicate] at hl; cases hl), fun t ht => getD_replicate _ _, fun i oi d hi hoi hl => (by rw [getD_replicate] at hl; cases hl), fun i oi hi hoi hl => (by rw [getD_replicate] at hl; cases hl), fun t ht tg s hg => (by
        have htg := plainE_get hE hg
        subst htg
        exact hr'.rd t [] s hg (Tags.nil a))⟩ (fun hl => (by rw [getD_replicate] at hl; cases hl)) ?_
    · intro listed a1 w1 F1 j M hI hj hjn K hK
      have sim := M.qt.sim hr'.sim
      by_cases hjj : j = j0
      · subst hjj
        have hrun : (execOp a1.eval o0).run P w1 = .ok (.value (.pointer (some ⟨w1.heap.size, 0, none⟩))) (w1.alloc (.cells z.cells t)) := by simp [execOp, hop, Instr.alloc, zeroValue, typeInfo, hi, hz', newVar, newRow]
        have hq : Qt w1 F1 (w1.alloc (.cells z.cells t)) F1 := ⟨rfl, rfl, rfl, by simp, fun _ _ h => h, fun b hb => Below.heap_alloc w1 _ b hb, fun _ _ h => .inl h⟩
        have M' := M.after I ha hj hjn ho0 sim (v := .pointer (some ⟨w1.heap.size, 0, none⟩)) hq (.inl ⟨by rw [hit]; exact Tags.nil _, by rw [hit]; exact .any _⟩) (by rw [hit]; simp)
        unfold wpOp
        rw [ho0]
        simp only [Region.wanted, hg0, if_true]
        refine .inl ?_
        unfold Oper.wp
        rw [hrun]
        simp only [Oper.upon]
        refine hK _ _ F1 M' fun _ => ⟨w1.heap.size, z.cells, ?_, heap_alloc_new w1 _, fun o hF => absurd (sim.fl _ o hF) (Nat.lt_irrefl _), M.qt.size, hzc⟩
        rw [hd0]
        exact put_getD_same (by rw [M.size]; exact of_blt hdn)
      · refine M.step I ha hE hr'.sim hj hjn fun a' w' F' M' hq hput => hK a' w' F' M' fun hl => ?_
        rw [getD_set_ne false hjj] at hl
        obtain ⟨b, cur, f1, f2, f3, f4, f5⟩ := hI hl
        obtain ⟨oj, hoj, _⟩ := I.op j hjn
        obtain ⟨v, rfl⟩ := hput oj hoj
        have hlt := (Array.getElem?_eq_some_iff.1 f2).1
        have hne := I.dst_ne ha hj0 hjn (fun e => hjj e.symm) ho0 hoj hd0
        refine ⟨b, cur, ?_, (hq.block b hlt).trans f2, fun o hF => ?_, f4, f5⟩
        · cases hdj : oj.dst with
          | none => exact f1
          | some d' => exact (put_getD (fun e => hne (by rw [hdj, e]))).trans f1
        · rcases hq.fl b o hF with h1 | ⟨h1, _⟩
          · exact f3 o h1
          · omega
    · intro listed a1 w1 F1 hall hI hrel hq
      obtain ⟨b, cur, f1, f2, f3, f4, f5⟩ := hI (hall j0 hj0)
      obtain ⟨r1, g1⟩ := hrel.adopt hq hr'.sim hfree f1 f2 f3 f4 f5 hzok
      exact wpOps_mono (fun x a'' w'' ⟨E'', h'', F'', m'', hQ, hrel', hg⟩ => ⟨E'', h'', F'', m'', hQ, hrel', ((Qt.drew w F).gr hr.sim).trans (g1.trans hg)⟩) _ _ _ (hW.out a1 w1 F1 _ r1)
    · have : ((List.range n).filter fun i => !(Array.replicate ops.size false).getD i false).length ≤ n := by
        have := List.length_filter_le (fun i => !(Array.replicate ops.size false).getD i false) (List.range n)
        simpa using this
      omega
  exact ⟨fun a w F m hr => wp_region_any hm (key a w F m hr), fun hp hn l n a w F m hr => wpIn_region_draw fun t => by
      simp only [Region.schedule, hm, Bool.true_or, if_true]
      exact wpOps_in (plain_ops hp) hn.post _ _ _ (wpAny_sound ops.size t _ a _ (key a w F m hr))⟩
/-- The head from number i on; then the variable is one's own. -/
def HA (P : Program) (nt : Nat) (ops : Array Oper) (h : List Ob) (n d t : Nat) (zs : List PV) (Q : QB) (i : Nat) (E : Env) : Prop := ∃ E1, Head P nt ops h i n E E1 ∧ E1.get d = some ([], .any) ∧ Env.free d E1 = true ∧ WL P nt ops n ((d, [], .ptr h.length 0) :: E1) (h ++ [.cells t (zs.map .p)]) Q
theorem qA (hm : P.follows .mixedOrders = true) (hT : TOk P T) {id d t : Nat} {o0 : Oper} {ti : TI} {Q : QB} (n j0 : Nat) (hn : Nat.ble n ops.size = true) (ha : anyOk ops n = true) (hE : plainE E = true) (hf : fwdOk ops = true) (ht : tailOk ops n = true)
    (hj0 : Nat.blt j0 n = true) (ho0 : ops[j0]? = some o0) (hop : o0.op = .alloc t) (hg0 : o0.guard = none) (hd0 : o0.dst = some d) (hti : T t = some ti) (hdn : Nat.blt d nt = true) (hW : HA P nt ops h n d t ti.zero Q 0 E) : W P nt (.region id ops true) E h Q :=
  let ⟨E1, h1, h2, h3, h4⟩ := hW
  W_drawA hm hT h1 hn ha hE hf ht hj0 ho0 hop hg0 hd0 hti h2 h3 hdn h4
theorem an {d t : Nat} {zs : List PV} {Q : QB} {E2 : Env} {h2 : List Ob} (h1 : E.get d = some ([], .any)) (h3 : Env.free d E = true) (hE : (d, [], .ptr h.length 0) :: E = E2) (hh : h ++ [.cells t (zs.map .p)] = h2) (hW : WL P nt ops n E2 h2 Q) : HA P nt ops h n d t zs Q n E := by
  subst hE hh
  exact ⟨E, .nil n E, h1, h3, hW⟩
theorem am (hT : TOk P T) {Q : QB} {i k d t : Nat} {zs : List PV} (c : Nat) (hr : (evRun T nt ops h c i E).isSome = true) (hk : i + c = k) (hW : HA P nt ops h n d t zs Q k ((evRun T nt ops h c i E).getD [])) : HA P nt ops h n d t zs Q i E := by
  obtain ⟨E2, h2⟩ := Option.isSome_iff_exists.1 hr
  obtain ⟨E1, h3, h4⟩ := hW
  rw [h2] at h3
  subst hk
  exact ⟨E1, (evRun_head hT h2).trans h3, h4⟩
theorem ay {Q : QB} {i d t : Nat} {zs : List PV} {o : Oper} {s : SV} {E2 : Env} (ho : ops[i]? = some o) (hy : Yld P o E [] h s) (hg : o.guard = none) (hd : dstOk nt E [] o.dst = true) (hE : E.putO o.dst [] s = E2) (hW : HA P nt ops h n d t zs Q (i + 1) E2) : HA P nt ops h n d t zs Q i E := by
  subst hE
  obtain ⟨E1, h3, h4⟩ := hW
  exact ⟨E1, .plain ho hg hd hy h3, h4⟩
theorem ayg {Q : QB} {i d t : Nat} {zs : List PV} {o : Oper} {s : SV} {E2 : Env} {j u : Nat} {b : Bool} {tg : Tg} (ho : ops[i]? = some o) (hy : Yld P o E ((u, b) :: tg) h s) (hg : o.guard = some (j, b)) (hj : (ops[j]?).bind (·.dst) = some u)
    (hug : (E.get u).map Prod.fst = some tg) (hd : dstOk nt E ((u, b) :: tg) o.dst = true) (hE : E.putO o.dst ((u, b) :: tg) s = E2) (hW : HA P nt ops h n d t zs Q (i + 1) E2) : HA P nt ops h n d t zs Q i E := by
  subst hE
  obtain ⟨⟨tg', su⟩, hu, rfl⟩ := Option.map_eq_some_iff.1 hug
  obtain ⟨E1, h3, h4⟩ := hW
  exact ⟨E1, .guarded ho hg hj hu hd hy h3, h4⟩
end
end Go.Proofs.YtngcfmnmjkncoaaDoor.Q
