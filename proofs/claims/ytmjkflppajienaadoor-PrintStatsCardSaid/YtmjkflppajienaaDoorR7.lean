/- Rows of one's own: made, places in them, read and written; no condition but the typed premises. -/
import Derived.Test.YtmjkflppajienaaDoorR6
namespace Go.Proofs.YtmjkflppajienaaDoor.R
open Go Go.RowKit
set_option linter.unusedVariables false
set_option linter.unusedSimpArgs false

theorem made_list (z : Array Value) (k : Nat) : (madeCells z (k * z.size)).toList = (List.replicate k z.toList).flatten := by
  unfold madeCells
  rw [Array.toList_map, Array.toList_range]
  induction k with
  | zero => simp
  | succ k ih =>
    rw [Nat.succ_mul, List.range_add, List.map_append, ih, List.replicate_succ', List.flatten_append, List.map_map]
    congr 1
    refine List.ext_getElem (by simp) fun i h1 h2 => ?_
    have hi : i < z.size := by simpa using h1
    have e : (k * z.size + i) % z.size = i := by rw [Nat.mul_comm, Nat.mul_add_mod, Nat.mod_eq_of_lt hi]
    simp [e, hi]
/-- Is it a place of the row? -/
def chk (i : Int) (n : Nat) : Option Unit := if 0 ≤ i ∧ i < (n : Int) then some () else none
theorem chk_of {i : Int} {n : Nat} {u : Unit} (h : chk i n = some u) : 0 ≤ i ∧ i < (n : Int) := by
  unfold chk at h
  split at h
  · assumption
  · cases h
/-- A row with another thing at a place. -/
def wr {α : Type} (xs : List α) (i : Int) (y : α) : Option (List α) := if 0 ≤ i ∧ i < (xs.length : Int) then some (xs.set i.toNat y) else none
/-- So many things. -/
def mk0 {α : Type} (bytes : Nat) (k : Int) (z : α) : Option (List α) := if 0 ≤ k ∧ k * (bytes : Int) ≤ 140737488355328 ∧ k ≤ 140737488355328 then some (List.replicate k.toNat z) else none
theorem RdL.rep {w : World} {F : Fz} {vs : List Value} {ps : List PV} (hr : RdL w F vs ps) : ∀ k : Nat, RdL w F (List.replicate k vs).flatten (List.replicate k ps).flatten
  | 0 => .nil
  | k + 1 => by rw [List.replicate_succ, List.replicate_succ, List.flatten_cons, List.flatten_cons]; exact hr.append (RdL.rep hr k)
theorem flat_rep {α β : Type} (f : α → List β) (z : α) : ∀ k : Nat, (List.replicate k z).flatMap f = (List.replicate k (f z)).flatten
  | 0 => rfl
  | k + 1 => by rw [List.replicate_succ, List.flatMap_cons, flat_rep f z k, List.replicate_succ, List.flatten_cons]
def sameTmp : Operand → Operand → Bool
  | .tmp a, .tmp b => Nat.beq a b
  | _, _ => false
theorem sameTmp_eq {x y : Operand} (h : sameTmp x y = true) : x = y := by
  unfold sameTmp at h
  split at h
  · rw [Nat.eq_of_beq_eq_true h]
  · cases h
section
variable {P : Program} {T : Tab} {nt : Nat} {E : Env} {A : Tg} {h : List Ob} {Q : QB} {o : Oper} {i d : Nat} {ops : Array Oper} {β : Type} {r : β}
/-- A new row of zeros. -/
def eMake (T : Tab) (nt t : Nat) (x y : Operand) (d : Option Nat) (E : Env) (h : List Ob) (K : Env → List Ob → Option β) : Option β := match d, kOf T t, look E [] x with
  | some d, .sl e, some (.p (.s (.int .i64 k))) => match T e with
    | some ei => match ei.ty with
      | some τ => match dAll (τ.dec ei.zero) with
        | some z => bif sameTmp x y && dstOk nt E [] (some d) && Nat.beq (τ.enc z).cells.length ei.size then
            (mk0 ei.bytes k z).bind fun (zs : List τ.den) => K ((d, [], .row e k.toNat h.length) :: E) (h ++ [.row e ei.size τ zs]) else none
        | none => none
      | none => none
    | none => none
  | _, _, _ => none
theorem eMake_ok (hT : TOk P T) {t : Nat} {x y : Operand} {K : Env → List Ob → Option β} (hoi : ops[i]? = some o) (hg : o.guard = none) (ho : o.op = .makeSlice t x y)
    (hr : eMake T nt t x y o.dst E h K = some r) (hK : ∀ E' h', K E' h' = some r → WL P nt ops (i + 1) E' h' Q) : WL P nt ops i E h Q := by
  unfold eMake at hr
  split at hr
  · rename_i d e k hd hk hx
    split at hr
    · rename_i ei he
      split at hr
      · rename_i τ hτ
        split at hr
        · rename_i z hz
          obtain ⟨h1, hr2⟩ := bif_some hr
          clear hr
          simp only [Bool.and_eq_true] at h1
          obtain ⟨⟨h1, hok⟩, hsz⟩ := h1
          obtain ⟨zs, hzs, hr⟩ := bd hr2
          clear hr2
          obtain rfl := sameTmp_eq h1
          unfold mk0 at hzs
          split at hzs
          · rename_i hb
            obtain ⟨h0, hb, h47⟩ := hb
            obtain rfl := Option.some.inj hzs
            have hW := hK _ _ hr
            refine WL_op hoi hg fun {bs} a w F m hrel N Q hN => ?_
            have sim := hrel.sim
            have ex := rd_s ((hrel.opd (Tags.nil a) o).rd (by simp [ho, Op.operands]) hx)
            have hti := hT e ei he
            obtain ⟨inf, z', hi, hi1, hi2, hz', hzc⟩ := hti.zeros
            obtain ⟨ti, ht1, htk⟩ := kOf_ti (T := T) (t := t) (by rw [hk]; simp)
            have hu := (hT t ti ht1).slice (htk.trans hk)
            have hzs : z'.cells.size = inf.size := by
              have := congrArg List.length hzc
              have h2 := Nat.eq_of_beq_eq_true hti.zl
              simp at this
              omega
            have hmade := run_make (P := P) w t e inf z' hu hi hz' .i64 .i64 k k h0 (Int.le_refl _) (by rw [hi2, Int.mul_comm]; omega) (by omega)
            have hcells : (madeCells z'.cells (k.toNat * inf.size)).toList = (List.replicate k.toNat z'.cells.toList).flatten := by rw [← hzs]; exact made_list _ _
            have hzr : ∀ (w : World) (F : Fz), RdL w F z'.cells.toList (τ.enc z).cells := fun w F => by
              obtain ⟨g1, g2⟩ := zero_rd (w := w) (F := F) (m := fun _ => .free) hti.zok
              rw [hzc]
              refine dAll_rd hz ?_
              have : purL (ei.zero.map SV.p) = some ei.zero := by
                clear hz hzc
                generalize ei.zero = l
                induction l with
                | nil => rfl
                | cons a l ih => simp [purL, pur, ih]
              exact purL_rd this g2 g1
            obtain ⟨r1, r2⟩ := hrel.new (ob := .row e ei.size τ (List.replicate k.toNat z)) (v := .slice (some ⟨w.heap.size, 0, none⟩) k.toNat k.toNat) (j := h.length) rfl hok (Nw.alloc sim.fl (.cells (madeCells z'.cells (k.toNat * inf.size)) e))
              ⟨w.heap.size, .cells (madeCells z'.cells (k.toNat * inf.size)) e, rfl, heap_alloc_new w _, .row (by rw [hcells, flat_rep]; exact (hzr _ _).rep _) (fun x hx => by obtain ⟨_, rfl⟩ := List.mem_replicate.1 hx; exact Nat.eq_of_beq_eq_true hsz)⟩ (s := .row e k.toNat h.length) (.row upd_same)
            unfold Oper.wp
            have hrun : (execOp a.eval o).run P w = .ok (.value (.slice (some ⟨w.heap.size, 0, none⟩) k.toNat k.toNat)) (w.alloc (.cells (madeCells z'.cells (k.toNat * inf.size)) e)) := by
              simp [execOp, ho, ex, hmade]
            rw [hrun]
            simp only [Oper.upon, hd]
            exact hN _ _ _ _ _ _ hW r1 r2
          · cases hzs
        · cases hr
      · cases hr
    · cases hr
  · cases hr
/-- A place in such a row. -/
def pRowAt (T : Tab) (t : Nat) (x y : Operand) (E : Env) (A : Tg) (K : SV → Option β) : Option β := match kOf T t, look E A x, look E A y with
  | .sl e, some (.row _ len j), some (.p (.s (.int _ n))) => match T e with
    | some ei => (gds E A A (chk n len)).bind fun _ => K (.rp j ei.size n 0)
    | none => none
  | _, _, _ => none
theorem pRowAt_ok (hT : TOk P T) {t : Nat} {x y : Operand} {K : SV → Option β} (ho : o.op = .indexAddr t x y) (hr : pRowAt T t x y E A K = some r) : ∃ s, (∀ h, Yld P o E A h s) ∧ K s = some r := by
  unfold pRowAt at hr
  split at hr
  · rename_i e e' len j ik n hk hx hy
    split at hr
    · rename_i ei he
      obtain ⟨u, hu, hK⟩ := bd hr
      refine ⟨_, fun h => gds_yld hu (fun _ h => h) fun hu => ?_, hK⟩
      obtain ⟨h0, h1⟩ := chk_of hu
      refine .of_still fun a w F m hs hO => ?_
      have ex := hO.rd (by simp [ho, Op.operands]) hx
      have ey := rd_s (hO.rd (by simp [ho, Op.operands]) hy)
      obtain ⟨ti, hti, htk⟩ := kOf_ti (T := T) (t := t) (by rw [hk]; simp)
      have hu := (hT t ti hti).slice (htk.trans hk)
      obtain ⟨inf, hi1, hi2, _⟩ := (hT e ei he).info
      generalize hv : a.eval x = v at ex
      cases ex with
      | row hm =>
        refine ⟨_, ?_, .rp (off := 0) hm⟩
        simp [execOp, ho, hv, ey, Instr.indexAt, asIntOf, run_underlying hu, h0, h1, sizeOf, typeInfo, hi1, hi2, Addr.add_lit]
    · cases hr
  · cases hr
theorem flat_at {α β : Type} {f : α → List β} {n : Nat} : ∀ {xs : List α}, (∀ x ∈ xs, (f x).length = n) → ∀ {i : Nat} {y : α}, xs[i]? = some y → ∃ rest, (xs.flatMap f).drop (i * n) = f y ++ rest
  | [], _, i, y, h => by simp at h
  | x :: xs, hn, 0, y, h => by simp at h; subst h; exact ⟨xs.flatMap f, by simp⟩
  | x :: xs, hn, i + 1, y, h => by
    obtain ⟨rest, hr⟩ := flat_at (fun z hz => hn z (List.mem_cons_of_mem _ hz)) (i := i) (y := y) (by simpa using h)
    refine ⟨rest, ?_⟩
    have hx := hn x List.mem_cons_self
    rw [List.flatMap_cons, Nat.succ_mul, Nat.add_comm, List.drop_append, List.drop_of_length_le (by omega), List.nil_append, hx, Nat.add_sub_cancel_left]
    exact hr
/-- What stands at a place of such a row. -/
def pRowLd (T : Tab) (t : Nat) (x : Operand) (E : Env) (A : Tg) (h : List Ob) (K : SV → Option β) : Option β := match T t, look E A x with
  | some ti, some (.rp j n i off) => match h[j]? with
    | some (.row _ n' τ xs) => bif Nat.beq n n' && Nat.ble off n then (gds E A A (ix xs i)).bind fun y => match ldS ti (((τ.enc y).cells.drop off).map .p) with
        | some s => K s
        | none => none
      else none
    | _ => none
  | _, _ => none
def rowOf (x : Operand) (E : Env) (A : Tg) : Option Nat := match look E A x with
  | some (.rp j _ _ _) => some j
  | _ => none
theorem ldS_app {ti : TI} {cs ds : List SV} {s : SV} (h : ldS ti cs = some s) : ldS ti (cs ++ ds) = some s := by
  unfold ldS at h ⊢
  cases ha : ti.k.agg with
  | true =>
    rw [ha] at h
    simp only [cond_true] at h ⊢
    obtain ⟨h1, h2⟩ := bif_some h
    have h1 := Nat.le_of_ble_eq_true h1
    rw [show Nat.ble ti.size (cs ++ ds).length = true by rw [Nat.ble_eq, List.length_append]; omega]
    simp only [cond_true]
    rw [List.take_append_of_le_length h1]
    exact h2
  | false =>
    rw [ha] at h
    simp only [cond_false] at h ⊢
    cases cs with
    | nil => cases h
    | cons c cs => exact h
theorem pRowLd_ok (hT : TOk P T) {t : Nat} {x : Operand} {K : SV → Option β} (ho : o.op = .load t x) (hr : pRowLd T t x E A h K = some r) : ∃ s, (∀ h', (∀ b, rowOf x E A = some b → h'[b]? = h[b]?) → Yld P o E A h' s) ∧ K s = some r := by
  unfold pRowLd at hr
  split at hr
  · rename_i ti j n i off ht hx
    split at hr
    · rename_i u n' τ xs hob
      obtain ⟨h1, hr2⟩ := bif_some hr
      clear hr
      simp only [Bool.and_eq_true] at h1
      obtain ⟨h1, hle⟩ := h1
      have hle := Nat.le_of_ble_eq_true hle
      obtain ⟨y, hy, hr⟩ := bd hr2
      clear hr2
      have e1 := Nat.eq_of_beq_eq_true h1
      subst e1
      split at hr
      · rename_i s hs
        refine ⟨s, fun h' hb => gds_yld hy (fun _ h => h) fun hy => ?_, hr⟩
        have hob' : h'[j]? = some (.row u n τ xs) := (hb j (by simp only [rowOf, hx])).trans hob
        obtain ⟨k, rfl, hyk⟩ := ix_of hy
        refine .of_still fun a w F m hsim hO => ?_
        have ex := hO.rd (by simp [ho, Op.operands]) hx
        have hti := hT t ti ht
        generalize hv : a.eval x = v at ex
        cases ex with
        | @rp _ _ _ b _ hm =>
          obtain ⟨bs, hsim⟩ := hsim
          obtain ⟨b', X, g1, g2, g3⟩ := hsim.obj j _ hob' rfl
          rw [hm] at g1
          simp only [Pl.obj.injEq] at g1
          subst g1
          cases g3 with
          | @row cur _ _ _ _ hrd hn =>
            obtain ⟨rest, hd⟩ := flat_at (f := fun x => (τ.enc x).cells) hn hyk
            have hcs : RdSL w F m cur.toList ((xs.flatMap fun x => (τ.enc x).cells).map .p) := hrd.toS
            obtain ⟨u', k1, k2⟩ := ldS_run hti g2 hcs hrd.one (off := k * n + off) (s := s) (by
              rw [← List.map_drop, ← List.drop_drop, hd, List.drop_append_of_le_length (by rw [hn y (List.mem_of_getElem? hyk)]; exact hle), List.map_append]
              exact ldS_app hs)
            refine ⟨u', ?_, k2⟩
            rw [Int.toNat_natCast] at hv
            simp [execOp, ho, hv, Instr.loadAt, Instr.sureAddr, k1]
      · cases hr
    · cases hr
  · cases hr
/-- The same thing, told otherwise. -/
theorem Rel.obTo {bs : Nat → Nat} {w : World} {F : Fz} {m : Mp} {a : Act} {j : Nat} {ob ob' : Ob} (hr : Rel bs nt w F m E h a) (hj : h[j]? = some ob) (ho : ob.isO = true) (ho' : ob'.isO = true) (hw : ∀ x, RdO w F m x ob → RdO w F m x ob') : Rel bs nt w F m E (h.set j ob') a := by
  have hlt := (List.getElem?_eq_some_iff.1 hj).1
  have get : ∀ (k : Nat) (o : Ob), (h.set j ob')[k]? = some o → (k = j ∧ o = ob') ∨ (k ≠ j ∧ h[k]? = some o) := fun k o hk => by
    by_cases hki : k = j
    · subst hki; rw [List.getElem?_set_self hlt] at hk; exact .inl ⟨rfl, (Option.some.inj hk).symm⟩
    · rw [List.getElem?_set_ne (fun e => hki e.symm)] at hk; exact .inr ⟨hki, hk⟩
  have sim := hr.sim
  refine ⟨hr.size, hr.defers.same fun k D h1 h2 h3 _ => ⟨?_, h2, rfl⟩, hr.env, ⟨sim.fl, sim.lt, sim.fr, sim.inj, fun k hk => sim.dom k (by simpa using hk), fun k o hk ho2 => ?_, fun k hk b => ?_, fun k i hk => ?_, sim.kn⟩⟩
  · rw [List.getElem?_set_ne]
    · exact h1
    · rintro rfl; rw [h1] at hj; obtain rfl := Option.some.inj hj; cases ho
  · rcases get k _ hk with ⟨rfl, rfl⟩ | ⟨_, hk⟩
    · obtain ⟨b, x, g1, g2, g3⟩ := sim.obj k ob hj ho
      exact ⟨b, x, g1, g2, hw x g3⟩
    · exact sim.obj k o hk ho2
  · rcases get k _ hk with ⟨rfl, he⟩ | ⟨_, hk⟩
    · subst he; cases ho'
    · exact sim.tl k hk b
  · rcases get k _ hk with ⟨rfl, he⟩ | ⟨_, hk⟩
    · subst he; cases ho'
    · exact sim.pn k i hk
theorem flat_cut {α β : Type} {f : α → List β} {n : Nat} : ∀ {xs : List α}, (∀ x ∈ xs, (f x).length = n) → ∀ {i : Nat} {y : α}, xs[i]? = some y → xs.flatMap f = (xs.take i).flatMap f ++ (f y ++ (xs.drop (i + 1)).flatMap f) ∧ ((xs.take i).flatMap f).length = i * n ∧ ∀ y' : α, (xs.set i y').flatMap f = (xs.take i).flatMap f ++ (f y' ++ (xs.drop (i + 1)).flatMap f)
  | [], _, i, y, h => by simp at h
  | x :: xs, hn, 0, y, h => by simp at h; subst h; simp
  | x :: xs, hn, i + 1, y, h => by
    obtain ⟨h1, h2, h3⟩ := flat_cut (fun z hz => hn z (List.mem_cons_of_mem _ hz)) (i := i) (y := y) (by simpa using h)
    have hx := hn x List.mem_cons_self
    refine ⟨by simp [h1], by simp [h2, hx, Nat.succ_mul, Nat.add_comm], fun y' => by simp [h3 y']⟩
/-- A place of such a row written. -/
def eStoreR (T : Tab) (t : Nat) (x y : Operand) (d : Option Nat) (E : Env) (h : List Ob) (K : Env → List Ob → Option β) : Option β := match d, T t, look E [] x, look E [] y with
  | none, some ti, some (.rp j n i off), some s => match scells (coS (some ti) s), h[j]? with
    | some vs, some (.row u n' τ xs) => match purL vs with
      | some qs => bif Nat.beq n n' && Nat.beq vs.length ti.size && Nat.ble (off + vs.length) n then
          (ix xs i).bind fun z => match dAll (τ.dec ((τ.enc z).cells.take off ++ qs ++ (τ.enc z).cells.drop (off + vs.length))) with
            | some z' => bif Nat.beq (τ.enc z').cells.length n then (wr xs i z').bind fun (zs : List τ.den) => K E (h.set j (.row u n τ zs)) else none
            | none => none
        else none
      | none => none
    | _, _ => none
  | _, _, _, _ => none
theorem purL_app : ∀ {a b : List SV} {x y : List PV}, purL a = some x → purL b = some y → purL (a ++ b) = some (x ++ y)
  | [], b, x, y, h, k => by simp only [purL, Option.some.injEq] at h; subst h; exact k
  | s :: a, b, x, y, h, k => by
    simp only [purL] at h
    split at h
    · rename_i p ps hp hps
      obtain rfl := Option.some.inj h
      have := purL_app hps k
      simp only [List.cons_append, purL, hp, this]
    · cases h
theorem purL_pure : ∀ l : List PV, purL (l.map SV.p) = some l
  | [] => rfl
  | a :: l => by simp [purL, pur, purL_pure l]
theorem eStoreR_ok (hT : TOk P T) {t : Nat} {x y : Operand} {K : Env → List Ob → Option β} (hoi : ops[i]? = some o) (hg : o.guard = none) (ho : o.op = .store t x y)
    (hr : eStoreR T t x y o.dst E h K = some r) (hK : ∀ E' h', K E' h' = some r → WL P nt ops (i + 1) E' h' Q) : WL P nt ops i E h Q := by
  unfold eStoreR at hr
  split at hr
  · rename_i ti j n iv off s hd ht hx hy
    split at hr
    · rename_i vs u n' τ xs hc hob
      split at hr
      · rename_i qs hqs
        obtain ⟨h1, hr2⟩ := bif_some hr
        clear hr
        simp only [Bool.and_eq_true] at h1
        obtain ⟨⟨h1, hl⟩, hle⟩ := h1
        have hle := Nat.le_of_ble_eq_true hle
        have e1 := Nat.eq_of_beq_eq_true h1
        subst e1
        obtain ⟨z, hz, hr3⟩ := bd hr2
        clear hr2
        split at hr3
        · rename_i z' hz'
          obtain ⟨h2, hr4⟩ := bif_some hr3
          clear hr3
          obtain ⟨zs, hzs, hr⟩ := bd hr4
          clear hr4
          obtain ⟨k, rfl, hzk⟩ := ix_of hz
          have hkl := (List.getElem?_eq_some_iff.1 hzk).1
          unfold wr at hzs
          rw [if_pos (by omega), Int.toNat_natCast] at hzs
          obtain rfl := Option.some.inj hzs
          have hW := hK _ _ hr
          refine WL_op hoi hg fun {bs} a w F m hrel N Q hN => ?_
          have hO := hrel.opd (Tags.nil a) o
          have ex := hO.rd (by simp [ho, Op.operands]) hx
          have ey := coS_rd (i := some ti) (hO.rd (by simp [ho, Op.operands]) hy)
          obtain ⟨v1, v2⟩ := scells_rd hc ey
          have hlt := (List.getElem?_eq_some_iff.1 hob).1
          have hn : ∀ x ∈ xs, (τ.enc x).cells.length = n := by
            obtain ⟨b, X, _, _, g3⟩ := hrel.sim.obj j _ hob rfl
            cases g3 with | row h hn => exact hn
          have hzn := hn z (List.mem_of_getElem? hzk)
          obtain ⟨f1, f2, f3⟩ := flat_cut (f := fun x => (τ.enc x).cells) hn hzk
          have hr1 := hrel.obTo (ob' := .cells u ((xs.flatMap fun x => (τ.enc x).cells).map .p)) hob rfl rfl (fun X hX => by cases hX with | row h hn => exact .cells h.toS h.one)
          have hql : qs.length = vs.length := by
            have := congrArg List.length (show vs = vs from rfl)
            have g := (purL_rd (w := w) (F := F) (m := m) hqs v2 v1).length
            have g2 := v1.length
            omega
          obtain ⟨bl, cur, g1, g2, g3, g4, g5⟩ := hr1.store (o := none) (off := k * n + off) (cs := (xs.flatMap fun x => (τ.enc x).cells).map .p) (List.getElem?_set_self hlt) v1 v2 (by
            rw [List.length_map, f1, List.length_append, List.length_append, f2, hzn]; omega)
          obtain ⟨A, hA⟩ : ∃ A, A = (xs.take k).flatMap fun x => (τ.enc x).cells := ⟨_, rfl⟩
          obtain ⟨B, hB⟩ : ∃ B, B = (xs.drop (k + 1)).flatMap fun x => (τ.enc x).cells := ⟨_, rfl⟩
          rw [← hA] at f1 f2 f3
          rw [← hB] at f1 f3
          have hr3 := g4.obTo (j := j) (ob := _) (ob' := .row u n τ (xs.set k z')) (List.getElem?_set_self (by simpa using hlt)) rfl rfl (fun X hX => by
            cases hX with
            | @cells cur' _ _ hcs h1 =>
              have hp : purL (((xs.flatMap fun x => (τ.enc x).cells).map SV.p).take (k * n + off) ++ vs ++ ((xs.flatMap fun x => (τ.enc x).cells).map SV.p).drop (k * n + off + vs.length)) = some ((xs.flatMap fun x => (τ.enc x).cells).take (k * n + off) ++ qs ++ (xs.flatMap fun x => (τ.enc x).cells).drop (k * n + off + vs.length)) := by
                rw [← List.map_take, ← List.map_drop]
                exact purL_app (purL_app (purL_pure _) hqs) (purL_pure _)
              have hrd := purL_rd hp h1 hcs
              have e1 : (xs.flatMap fun x => (τ.enc x).cells).take (k * n + off) ++ qs ++ (xs.flatMap fun x => (τ.enc x).cells).drop (k * n + off + vs.length) = A ++ (((τ.enc z).cells.take off ++ qs ++ (τ.enc z).cells.drop (off + vs.length)) ++ B) := by
                rw [f1, List.take_append, List.take_of_length_le (by omega), f2, Nat.add_sub_cancel_left, List.take_append_of_le_length (by omega), Nat.add_assoc, List.drop_append, List.drop_of_length_le (by omega), f2, Nat.add_sub_cancel_left, List.drop_append_of_le_length (by omega)]
                simp [List.append_assoc]
              rw [e1] at hrd
              obtain ⟨l1, l2, hl, d1, d2⟩ := hrd.split
              obtain ⟨l3, l4, hl2, d3, d4⟩ := d2.split
              refine .row ?_ fun x hx => ?_
              · rw [f3 z', hl, hl2]
                exact d1.append ((dAll_rd hz' d3).append d4)
              · rcases List.mem_or_eq_of_mem_set hx with hx | rfl
                · exact hn x hx
                · exact Nat.eq_of_beq_eq_true h2)
          rw [List.set_set, List.set_set] at hr3
          obtain ⟨inf, hi1, hi2, _⟩ := (hT t ti ht).info
          have e1 := Nat.eq_of_beq_eq_true hl
          have hsz : (a.eval y).cells.size = inf.size := by have := v1.length; simp at this; omega
          generalize hv : a.eval x = v at ex
          cases ex with
          | @rp _ _ _ bb _ hm =>
            rw [hm] at g1
            simp only [Pl.obj.injEq] at g1
            subst g1
            have hst := run_storeCells_at P bb (k * n + off) u (a.eval y).cells.toList 0 cur w g2 (by simpa using g3) v2
            unfold Oper.wp
            rw [Int.toNat_natCast] at hv
            have hrun : (execOp a.eval o).run P w = .ok .skip (w.setRow bb (cur.toList.take (k * n + off) ++ (a.eval y).cells.toList ++ cur.toList.drop (k * n + off + (a.eval y).cells.toList.length)).toArray) := by
              simp only [Nat.add_zero] at hst
              simp only [execOp, ho, hv, Instr.storeAt, Instr.sureAddr, Sem.run_bind, Sem.run_pure, Result.andThen_ok, storeVar, sizeOf, typeInfo, run_program, hi1]
              rw [if_neg (by simpa using hsz)]
              rw [hst]
              rfl
            rw [hrun]
            simp only [Oper.upon, hd]
            exact hN _ _ _ _ _ _ hW hr3 g5
        · cases hr3
      · cases hr
    · cases hr
  · cases hr
/-- No things yet, but room for them. -/
def eMake0 (T : Tab) (nt t : Nat) (y : Operand) (d : Option Nat) (E : Env) (h : List Ob) (K : Env → List Ob → Option β) : Option β := match d, kOf T t, look E [] y with
  | some d, .sl e, some (.p (.s (.int ik k))) => match T e with
    | some ei => match ei.ty with
      | some τ => bif dstOk nt E [] (some d) then (mk0 ei.bytes k ()).bind fun (_ : List Unit) => K ((d, [], .own e ei.size τ [] h.length) :: E) (h ++ [.tail]) else none
      | none => none
    | none => none
  | _, _, _ => none
theorem eMake0_ok (hT : TOk P T) {t : Nat} {kk : IntKind} {y : Operand} {K : Env → List Ob → Option β} (hoi : ops[i]? = some o) (hg : o.guard = none) (ho : o.op = .makeSlice t (.const (.int kk 0)) y)
    (hr : eMake0 T nt t y o.dst E h K = some r) (hK : ∀ E' h', K E' h' = some r → WL P nt ops (i + 1) E' h' Q) : WL P nt ops i E h Q := by
  unfold eMake0 at hr
  split at hr
  · rename_i d e ik k hd hk hy
    split at hr
    · rename_i ei he
      split at hr
      · rename_i τ hτ
        obtain ⟨hok, hr2⟩ := bif_some hr
        clear hr
        obtain ⟨zs, hzs, hr⟩ := bd hr2
        clear hr2
        unfold mk0 at hzs
        split at hzs
        · rename_i hb
          obtain ⟨h0, hb, h47⟩ := hb
          have hW := hK _ _ hr
          refine WL_op hoi hg fun {bs} a w F m hrel N Q hN => ?_
          have sim := hrel.sim
          have ey := rd_s ((hrel.opd (Tags.nil a) o).rd (by simp [ho, Op.operands]) hy)
          have hti := hT e ei he
          obtain ⟨inf, z', hi, hi1, hi2, hz', hzc⟩ := hti.zeros
          obtain ⟨ti, ht1, htk⟩ := kOf_ti (T := T) (t := t) (by rw [hk]; simp)
          have hu := (hT t ti ht1).slice (htk.trans hk)
          have hmade := run_make (P := P) w t e inf z' hu hi hz' kk ik 0 k (Int.le_refl _) h0 (by rw [hi2, Int.mul_comm]; omega) (by omega)
          have hnw : Nw w F (w.alloc (.cells (madeCells z'.cells (k.toNat * inf.size)) e)) F (.tail w.heap.size 0) :=
            ⟨rfl, rfl, rfl, by simp, fun _ _ h => h, fun b hb => Below.heap_alloc w _ b hb, fun _ _ h => .inl h, fun b h => by simp only [Pl.blk, Option.some.injEq] at h; subst h; exact ⟨Nat.le_refl _, by simp⟩,
              fun b i hF hh => by have := sim.fl b i hF; have e : w.heap.size = b := hh.1; omega⟩
          obtain ⟨r1, r2⟩ := hrel.new (ob := .tail) (v := .slice (some ⟨w.heap.size, 0, none⟩) 0 k.toNat) (j := h.length) rfl hok hnw (fun b h => by cases h) (s := .own e ei.size τ [] h.length)
            (.own (xs := ([] : List τ.den)) (by simp) (.nil _ _) (by rw [upd_same]; simp) (heap_alloc_new w _) (Nat.zero_le _) (by simp only [maxLen]; omega) (by simp [madeCells, hi1]))
          unfold Oper.wp
          have hrun : (execOp a.eval o).run P w = .ok (.value (.slice (some ⟨w.heap.size, 0, none⟩) 0 k.toNat)) (w.alloc (.cells (madeCells z'.cells (k.toNat * inf.size)) e)) := by
            have e0 : a.eval (.const (.int kk 0)) = .int kk 0 := rfl
            simp [execOp, ho, ey, e0, hmade]
          rw [hrun]
          simp only [Oper.upon, hd]
          exact hN _ _ _ _ _ _ hW r1 r2
        · cases hzs
      · cases hr
    · cases hr
  · cases hr
end
end Go.Proofs.YtmjkflppajienaaDoor.R
