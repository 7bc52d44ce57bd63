/- The walk as a function: operations that turn what is owned, calls, regions, code, functions; no condition but the typed premises. -/
import Derived.Test.YtmjkflppajienaaDoorRQ
import Derived.Test.YtmjkflppajienaaDoorRR
import Derived.Test.YtmjkflppajienaaDoorR9
namespace Go.Proofs.YtmjkflppajienaaDoor.R
open Go Go.RowKit
set_option linter.unusedVariables false
set_option linter.unusedSimpArgs false

/-- A function, called with things of these shapes. -/
structure Inst where
  f : Nat
  ain : Shs
  hin : HSh
  out : Sh
  hout : HSh
  xout : HSh
def Inst.tin (I : Inst) : Ty := tyP I.ain.ty I.hin
def Inst.tout (I : Inst) : Ty := tyP (tyP I.out.ty I.hout) I.xout
def Inst.pureI (I : Inst) : Bool := I.hin.isEmpty && I.hout.isEmpty && I.xout.isEmpty && I.out.ids.isEmpty
def Inst.aE (I : Inst) (x : I.tin.den) : I.ain.ty.den := xE I.ain.ty I.hin x
def Inst.aH (I : Inst) (x : I.tin.den) : I.hin.ty.den := xH I.ain.ty I.hin x
def Inst.aP (I : Inst) (x : I.ain.ty.den) (y : I.hin.ty.den) : I.tin.den := xP I.ain.ty I.hin x y
def Inst.rE (I : Inst) (r : I.tout.den) : I.out.ty.den := xE I.out.ty I.hout (xE (tyP I.out.ty I.hout) I.xout r)
def Inst.rH (I : Inst) (r : I.tout.den) : I.hout.ty.den := xH I.out.ty I.hout (xE (tyP I.out.ty I.hout) I.xout r)
def Inst.rX (I : Inst) (r : I.tout.den) : I.xout.ty.den := xH (tyP I.out.ty I.hout) I.xout r
def Inst.rP (I : Inst) (r : I.out.ty.den) (y : I.hout.ty.den) (z : I.xout.ty.den) : I.tout.den := xP (tyP I.out.ty I.hout) I.xout (xP I.out.ty I.hout r y) z
theorem Inst.rE_P {I : Inst} {r : I.out.ty.den} {y : I.hout.ty.den} {z : I.xout.ty.den} : I.rE (I.rP r y z) = r := by simp only [Inst.rE, Inst.rP, xE_P]
theorem Inst.rH_P {I : Inst} {r : I.out.ty.den} {y : I.hout.ty.den} {z : I.xout.ty.den} : I.rH (I.rP r y z) = y := by simp only [Inst.rH, Inst.rP, xE_P, xH_P]
theorem Inst.rX_P {I : Inst} {r : I.out.ty.den} {y : I.hout.ty.den} {z : I.xout.ty.den} : I.rX (I.rP r y z) = z := by simp only [Inst.rX, Inst.rP, xH_P]
theorem Inst.aE_P {I : Inst} {x : I.ain.ty.den} {y : I.hin.ty.den} : I.aE (I.aP x y) = x := xE_P
theorem Inst.aH_P {I : Inst} {x : I.ain.ty.den} {y : I.hin.ty.den} : I.aH (I.aP x y) = y := xH_P
abbrev Rec := (I : Inst) → I.tin.den → Option I.tout.den
abbrev InstF := Nat → List SV → List Ob → Option Inst
/-- What is said of a call. -/
def CF (P : Program) (I : Inst) (x : I.tin.den) (r : I.tout.den) : Prop := PG P I.f (I.ain.mk (I.aE x)) (I.hin.mk (I.aH x)) (I.out.mk (I.rE r)) (I.hout.mk (I.rH r)) (I.xout.mk (I.rX r))

theorem nil_of_isEmpty {α : Type} {l : List α} (h : l.isEmpty = true) : l = [] := by simpa using h
theorem PF.weak {P : Program} {f : Nat} {args args' : List SV} {s : SV} (hF : PF P f args' s) (h : ∀ w F m vs, RdSL w F m vs args → RdSL w F m vs args') : PF P f args s := fun bs vs w F m hr hs => hF bs vs w F m (h w F m vs hr) hs

section
variable {P : Program} {T : Tab} {E : Env} {A : Tg} {h : List Ob} {o : Oper} {β : Type} {r : β}
def pCall (P : Program) (T : Tab) (rec : Rec) (inst : InstF) (c : Call) (E : Env) (A : Tg) (K : SV → Option β) : Option β := match c.callee with
  | .value x => match calS E A x, lookL E A c.args.toList with
    | some (f, caps), some ss => match P.funcs[f]? with
      | some fn => match inst f (argsS T c.argTypes.toList (ss ++ caps)) [] with
        | some I => bif Nat.beq I.f f && fn.body.isSome && I.pureI && (SV.idsL (argsS T c.argTypes.toList (ss ++ caps))).isEmpty && !(fn.name == "runtime.NumGoroutine") then
            (match I.ain.get (argsS T c.argTypes.toList (ss ++ caps)) with
              | some x => (gds E A A (rec I (I.aP x (Ty.dflt _)))).bind fun r => K (I.out.mk (I.rE r))
              | none => none) else none
        | none => none
      | none => none
    | _, _ => none
  | _ => none
theorem CF.pf {I : Inst} {x : I.tin.den} {r : I.tout.den} (h : CF P I x r) (hp : I.pureI = true) : PF P I.f (I.ain.mk (I.aE x)) (I.out.mk (I.rE r)) := by
  obtain ⟨f, ain, hin, out, hout, xout⟩ := I
  simp only [Inst.pureI, Bool.and_eq_true, List.isEmpty_iff] at hp
  obtain ⟨⟨⟨rfl, rfl⟩, rfl⟩, _⟩ := hp
  intro bs vs w F m hvs hs
  refine (h bs vs w F m hvs hs).mono ?_
  rintro e w' ⟨v, s', h', F', m', he, ⟨h1, h2⟩, h3⟩
  exact ⟨v, s', h', F', m', he, ⟨h1, by rw [h2]; rfl⟩, h3⟩
theorem pCall_ok {rec : Rec} {inst : InstF} (hrec : ∀ I x r, rec I x = some r → CF P I x r) {c : Call} {K : SV → Option β} (ho : o.op = .call c) (hr : pCall P T rec inst c E A K = some r) : ∃ s, (∀ h, Yld P o E A h s) ∧ K s = some r := by
  unfold pCall at hr
  split at hr
  · rename_i x hc
    split at hr
    · rename_i f caps ss hx hl
      split at hr
      · rename_i fn hf
        split at hr
        · rename_i I hI
          obtain ⟨h1, hr⟩ := bif_some hr
          simp only [Bool.and_eq_true, Bool.not_eq_true'] at h1
          obtain ⟨⟨⟨⟨h1, h2⟩, h3⟩, h4⟩, h5⟩ := h1
          split at hr
          · rename_i x' hx'
            obtain ⟨y, hy, hK⟩ := bd hr
            refine ⟨_, fun h => gds_yld hy (fun _ h => h) fun hy => ?_, hK⟩
            obtain ⟨body, hb⟩ := Option.isSome_iff_exists.1 h2
            obtain rfl := Nat.eq_of_beq_eq_true h1
            have hp := h3
            simp only [Inst.pureI, Bool.and_eq_true] at hp
            have hF := (hrec _ _ _ hy).pf h3
            rw [Inst.aE_P] at hF
            exact y_pcall ho hc hx hl hf hb h5 rfl (nil_of_isEmpty h4) (by rw [Sh.mk_ids]; exact nil_of_isEmpty hp.2) (hF.weak fun w F m vs hvs => Shs.get_rd hx' hvs)
          · cases hr
        · cases hr
      · cases hr
    · cases hr
  · cases hr

/-- An operation that yields. -/
noncomputable def denY (P : Program) (T : Tab) (rec : Rec) (inst : InstF) (o : Oper) (E : Env) (A : Tg) (h : List Ob) (K : SV → Option β) : Option β := match evOp T E A h o with
  | some s => K s
  | none => match o.op with
    | .index t a c => pIndexN T t a c E A K
    | .indexAddr t a c => match kOf T t with
      | .ar _ _ => (match c with
        | .const _ => pArr T t a c E A K
        | _ => pArrV T t a c E A K)
      | _ => match look E A a with
        | some (.row _ _ _) => pRowAt T t a c E A K
        | _ => pIndexAddr T t a c E A K
    | .load t a => bif rpCells a E A h then pCellLd T t a E A h K else pRowLd T t a E A h K
    | .sliceToArrayPointer t a => pToArr T t a E A K
    | .slice t a none none none => (match kOf T t with
      | .ar _ _ => pArrSl T t a E A K
      | _ => pSliceN T t a none none E A K)
    | .lookup t a c ok => pLookup P T t a c ok E A h K
    | .slice t a lo hi none => pSliceN T t a lo hi E A K
    | .slice t a none (some y) (some z) => pSlice3 T t a y z E A K
    | .binOp op t a c _ => match kOf T t with
      | .ar _ _ => pEqAr P T op t a c E A K
      | .ot => match look E A a with
        | some (.p (.er _)) => pEqE P op t a c E A K
        | _ => pEqC op a c E A K
      | _ => pBin op a c E A K
    | .buildSlice t len parts => pLit T t len parts.toList E A K
    | .nilCheck a => pNil a E A K
    | .convert src dst x => pConv T src dst x E A K
    | .call c => match c.callee with
      | .builtin .len => match lenOf c E A with
        | some _ => pMapLen P c E A h K
        | none => pLen0 T c E A K
      | .builtin .cap => pLen0 T c E A K
      | _ => pCall P T rec inst c E A K
    | _ => none
/-- The thing of one's own at which an operation looks. -/
def depOf (o : Oper) (E : Env) (A : Tg) : Option Nat := match o.op with
  | .load _ x => match look E A x with
    | some (.ptr b _) => some b
    | some (.rp b _ _ _) => some b
    | _ => none
  | .lookup _ x _ _ => mapOf x E A
  | .call c => lenOf c E A
  | _ => none
theorem evOp_dep {h' : List Ob} (hb : ∀ b, depOf o E A = some b → h'[b]? = h[b]?) : evOp T E A h' o = evOp T E A h o := by
  unfold evOp
  unfold depOf at hb
  split <;> try rfl
  rename_i t x ho
  rw [ho] at hb
  split
  · split
    · rfl
    · rename_i i _ b d hx
      rw [hb b (by simp only [hx])]
    · rfl
  · rfl
theorem denY_dep (hT : TOk P T) {rec : Rec} {inst : InstF} (hrec : ∀ I x r, rec I x = some r → CF P I x r) {K : SV → Option β} (hr : denY P T rec inst o E A h K = some r) :
    ∃ s, (∀ h', (∀ b, depOf o E A = some b → h'[b]? = h[b]?) → Yld P o E A h' s) ∧ K s = some r := by
  unfold denY at hr
  split at hr
  · rename_i s hs; exact ⟨s, fun h' hb => evOp_yld hT (by rw [evOp_dep hb]; exact hs), hr⟩
  · have key : (∃ s, (∀ h', Yld P o E A h' s) ∧ K s = some r) → ∃ s, (∀ h', (∀ b, depOf o E A = some b → h'[b]? = h[b]?) → Yld P o E A h' s) ∧ K s = some r := fun ⟨s, h1, h2⟩ => ⟨s, fun h' _ => h1 h', h2⟩
    split at hr
    · rename_i ho; exact key (pIndexN_ok hT ho hr)
    · rename_i ho
      split at hr
      · split at hr
        · exact key (pArr_ok hT ho hr)
        · exact key (pArrV_ok hT ho hr)
      · split at hr
        · exact key (pRowAt_ok hT ho hr)
        · exact key (pIndexAddr_ok hT ho hr)
    · rename_i t a ho
      have hx : ∃ s, (∀ h', (∀ b, rowOf a E A = some b → h'[b]? = h[b]?) → Yld P o E A h' s) ∧ K s = some r := by
        cases hb : rpCells a E A h with
        | true => rw [hb] at hr; exact pCellLd_ok hT ho hr
        | false => rw [hb] at hr; exact pRowLd_ok hT ho hr
      obtain ⟨s, h1, h2⟩ := hx
      refine ⟨s, fun h' hb => h1 h' fun b hb' => hb b ?_, h2⟩
      unfold rowOf at hb'
      unfold depOf
      rw [ho]
      split at hb'
      · rename_i hx; simp only [hx]; exact hb'
      · cases hb'
    · rename_i ho; exact key (pToArr_ok hT ho hr)
    · rename_i ho
      split at hr
      · exact key (pArrSl_ok hT ho hr)
      · exact key (pSliceN_ok hT ho hr)
    · rename_i t a c ok ho
      obtain ⟨s, h1, h2⟩ := pLookup_ok hT ho hr
      exact ⟨s, fun h' hb => h1 h' fun b hb' => hb b (by simp only [depOf, ho]; exact hb'), h2⟩
    · rename_i ho; exact key (pSliceN_ok hT ho hr)
    · rename_i ho; exact key (pSlice3_ok hT ho hr)
    · rename_i ho
      split at hr
      · exact key (pEqAr_ok hT ho hr)
      · split at hr
        · exact key (pEqE_ok ho hr)
        · exact key (pEqC_ok ho hr)
      · exact key (pBin_ok hT ho hr)
    · rename_i ho; exact key (pLit_ok hT ho hr)
    · rename_i ho; exact key (pNil_ok ho hr)
    · rename_i ho; exact key (pConv_ok hT ho hr)
    · rename_i ho
      split at hr
      · rename_i hc
        split at hr
        · obtain ⟨s, h1, h2⟩ := pMapLen_ok ho hc hr
          exact ⟨s, fun h' hb => h1 h' fun b hb' => hb b (by simp only [depOf, ho]; exact hb'), h2⟩
        · exact key (pLen0_ok hT ho (.inr hc) hr)
      · rename_i hc; exact key (pLen0_ok hT ho (.inl hc) hr)
      · exact key (pCall_ok hrec ho hr)
    · cases hr
theorem denY_ok (hT : TOk P T) {rec : Rec} {inst : InstF} (hrec : ∀ I x r, rec I x = some r → CF P I x r) {K : SV → Option β} (hr : denY P T rec inst o E A h K = some r) : ∃ s, Yld P o E A h s ∧ K s = some r := by
  obtain ⟨s, h1, h2⟩ := denY_dep hT hrec hr
  exact ⟨s, h1 h fun _ _ => rfl, h2⟩
end

/-! ### Operations that turn what is owned -/
section
variable {P : Program} {T : Tab} {nt : Nat} {E : Env} {h : List Ob} {Q : QB} {o : Oper} {ops : Array Oper} {i : Nat} {β : Type} {r : β}

def eNil (T : Tab) (nt t d : Nat) (E : Env) (h : List Ob) (K : Env → List Ob → Option β) : Option β := match kOf T t with
  | .sl e => match T e with
    | some ei => match ei.ty with
      | some τ => bif dstOk nt E [] (some d) then K ((d, [], .own e ei.size τ [] h.length) :: E) (h ++ [.tail]) else none
      | none => none
    | none => none
  | _ => none
theorem eNil_ok (hT : TOk P T) {t d : Nat} {K : Env → List Ob → Option β} (hoi : ops[i]? = some o) (hg : o.guard = none) (ho : o.op = .assign (.const (.slice none 0 0)) ∨ o.op = .move (.const (.slice none 0 0))) (hd : o.dst = some d)
    (hr : eNil T nt t d E h K = some r) (hK : ∀ E' h', K E' h' = some r → WL P nt ops (i + 1) E' h' Q) : WL P nt ops i E h Q := by
  unfold eNil at hr
  split at hr
  · split at hr
    · rename_i ei he
      split at hr
      · rename_i τ _
        obtain ⟨h1, hr⟩ := bif_some hr
        exact WL_nilOwn hT τ (hK _ _ hr) hoi hg ho hd he h1 rfl rfl rfl
      · cases hr
    · cases hr
  · cases hr

def eBox (T : Tab) (nt t : Nat) (x : Operand) (d : Option Nat) (E : Env) (h : List Ob) (K : Env → List Ob → Option β) : Option β := match d, look E [] x with
  | some d, some s => match scells (coS (T t) s) with
    | some cs => bif dstOk nt E [] (some d) then K ((d, [], .ptr h.length 0) :: E) (h ++ [.cells t cs]) else none
    | none => none
  | _, _ => none
theorem eBox_ok {t : Nat} {x : Operand} {K : Env → List Ob → Option β} (hoi : ops[i]? = some o) (hg : o.guard = none) (ho : o.op = .box t x)
    (hr : eBox T nt t x o.dst E h K = some r) (hK : ∀ E' h', K E' h' = some r → WL P nt ops (i + 1) E' h' Q) : WL P nt ops i E h Q := by
  unfold eBox at hr
  split at hr
  · rename_i d s hd hx
    split at hr
    · rename_i cs hc
      obtain ⟨h1, hr⟩ := bif_some hr
      exact WL_box (hK _ _ hr) hoi hg ho hd hx hc h1 rfl rfl rfl
    · cases hr
  · cases hr

def eAlloc (T : Tab) (nt t : Nat) (d : Option Nat) (E : Env) (h : List Ob) (K : Env → List Ob → Option β) : Option β := match d, T t with
  | some d, some ti => bif dstOk nt E [] (some d) then K ((d, [], .ptr h.length 0) :: E) (h ++ [.cells t (ti.zero.map .p)]) else none
  | _, _ => none
theorem eAlloc_ok (hT : TOk P T) {t : Nat} {K : Env → List Ob → Option β} (hoi : ops[i]? = some o) (hg : o.guard = none) (ho : o.op = .alloc t)
    (hr : eAlloc T nt t o.dst E h K = some r) (hK : ∀ E' h', K E' h' = some r → WL P nt ops (i + 1) E' h' Q) : WL P nt ops i E h Q := by
  unfold eAlloc at hr
  split at hr
  · rename_i d ti hd ht
    obtain ⟨h1, hr⟩ := bif_some hr
    exact WL_alloc hT (hK _ _ hr) hoi hg ho hd ht h1 rfl rfl rfl
  · cases hr

def eStore (T : Tab) (t : Nat) (x y : Operand) (d : Option Nat) (E : Env) (h : List Ob) (K : Env → List Ob → Option β) : Option β := match d, T t, look E [] x, look E [] y with
  | none, some ti, some (.ptr b off), some s => match scells (coS (some ti) s), h[b]? with
    | some vs, some (.cells u cs) => bif Nat.beq vs.length ti.size && Nat.ble (off + vs.length) cs.length then K E (h.set b (.cells u (cs.take off ++ vs ++ cs.drop (off + vs.length)))) else none
    | _, _ => none
  | _, _, _, _ => none
theorem eStore_ok (hT : TOk P T) {t : Nat} {x y : Operand} {K : Env → List Ob → Option β} (hoi : ops[i]? = some o) (hg : o.guard = none) (ho : o.op = .store t x y)
    (hr : eStore T t x y o.dst E h K = some r) (hK : ∀ E' h', K E' h' = some r → WL P nt ops (i + 1) E' h' Q) : WL P nt ops i E h Q := by
  unfold eStore at hr
  split at hr
  · rename_i ti b off s hd ht hx hy
    split at hr
    · rename_i vs u cs hc hob
      obtain ⟨h1, hr⟩ := bif_some hr
      simp only [Bool.and_eq_true] at h1
      exact WL_store hT (hK _ _ hr) hoi hg ho hd ht hx hy hc h1.1 hob h1.2 rfl
    · cases hr
  · cases hr

def strict (n : Nat) (τ : Ty) (s : SV) : Option (List τ.den) := match pur s with
  | some q => bif noNil q then dSl n τ q else none
  | none => none
theorem strict_of {n : Nat} {τ : Ty} {s : SV} {xs : List τ.den} (h : strict n τ s = some xs) : pur s = some (.sl n τ xs) := by
  unfold strict at h
  split at h
  · rename_i q hq
    obtain ⟨h1, h2⟩ := bif_some h
    rw [hq, dSl_eq h2 h1]
  · cases h
def eAppend (T : Tab) (nt : Nat) (c : Call) (d : Option Nat) (E : Env) (h : List Ob) (K : Env → List Ob → Option β) : Option β := match d, c.args.toList, c.argTypes.toList with
  | some d, [x, y], [t, u] => match kOf T t, kOf T u, look E [] x, look E [] y with
    | .sl e, .sl _, some (.own e2 n τ xs j), some sy => match T e, strict n τ sy with
      | some ei, some ys => bif Nat.beq e2 e && Nat.beq n ei.size && Nat.blt j h.length && Nat.blt 0 ei.bytes && dstOk nt E [] (some d) then
            (app ei.bytes xs ys).bind fun (zs : List τ.den) => K ((d, [], .own e n τ zs j) :: stripE j E) (stripO j h) else none
      | _, _ => none
    | _, _, _, _ => none
  | _, _, _ => none
theorem eAppend_ok (hT : TOk P T) {c : Call} {K : Env → List Ob → Option β} (hoi : ops[i]? = some o) (hg : o.guard = none) (ho : o.op = .call c) (hc : c.callee = .builtin .append)
    (hr : eAppend T nt c o.dst E h K = some r) (hK : ∀ E' h', K E' h' = some r → WL P nt ops (i + 1) E' h' Q) : WL P nt ops i E h Q := by
  unfold eAppend at hr
  split at hr
  · rename_i d x y t u hd ha hts
    split at hr
    · rename_i e e' e2 n τ xs j sy hk hk' hx hy
      split at hr
      · rename_i ei ys he hys
        obtain ⟨h1, hr⟩ := bif_some hr
        simp only [Bool.and_eq_true] at h1
        obtain ⟨⟨⟨⟨h1, h2⟩, h3⟩, h4⟩, h5⟩ := h1
        obtain ⟨zs, hz, hr⟩ := bd hr
        obtain rfl := Nat.eq_of_beq_eq_true h1
        obtain rfl := Nat.eq_of_beq_eq_true h2
        unfold app at hz
        split at hz
        · rename_i hb
          obtain rfl := Option.some.inj hz
          exact WL_append hT (hK _ _ hr) hoi hg ho hc ha hts hd hk hk' he h5 hx hy (strict_of hys) h3 h4 rfl rfl hb
        · cases hz
      · cases hr
    · cases hr
  · cases hr

def eLit (T : Tab) (nt t len : Nat) (parts : List (Nat × Operand)) (d : Option Nat) (E : Env) (h : List Ob) (K : Env → List Ob → Option β) : Option β := match d, litV E [] T t len parts with
  | some d, some (e, n, qs) => match tyOf T e with
    | some τ => match getSs τ qs with
      | some xs => bif dstOk nt E [] (some d) then K ((d, [], .own e n τ xs h.length) :: E) (h ++ [.tail]) else none
      | none => none
    | none => none
  | _, _ => none
theorem eLit_ok (hT : TOk P T) {t len : Nat} {parts : Array (Nat × Operand)} {K : Env → List Ob → Option β} (hoi : ops[i]? = some o) (hg : o.guard = none) (ho : o.op = .buildSlice t len parts)
    (hr : eLit T nt t len parts.toList o.dst E h K = some r) (hK : ∀ E' h', K E' h' = some r → WL P nt ops (i + 1) E' h' Q) : WL P nt ops i E h Q := by
  unfold eLit at hr
  split at hr
  · rename_i d e n qs hd hl
    split at hr
    · rename_i τ _
      split at hr
      · rename_i xs hxs
        obtain ⟨h1, hr⟩ := bif_some hr
        exact WL_litOwn hT τ xs (hK _ _ hr) hoi hg ho hd hl (getSs_eq hxs) h1 rfl rfl rfl
      · cases hr
    · cases hr
  · cases hr

/-- x[:j:j], to be appended to. -/
def eExact (T : Tab) (nt t : Nat) (x y z : Operand) (d : Option Nat) (E : Env) (h : List Ob) (K : Env → List Ob → Option β) : Option β := match d, kOf T t, look E [] x, look E [] y, look E [] z with
  | some d, .sl e, some sx, some (.p (.s (.int _ hi))), some (.p (.s (.int _ hi'))) => match T e, pur sx with
    | some ei, some (.sl n τ l) => bif Nat.beq ei.size n && dstOk nt E [] (some d) then
        (if hi' = hi then cut l 0 hi else none).bind fun (zs : List τ.den) => K ((d, [], .own e n τ zs h.length) :: E) (h ++ [.tail]) else none
    | _, _ => none
  | _, _, _, _, _ => none
theorem eExact_ok (hT : TOk P T) {t : Nat} {x y z : Operand} {K : Env → List Ob → Option β} (hoi : ops[i]? = some o) (hg : o.guard = none) (ho : o.op = .slice t x none (some y) (some z))
    (hr : eExact T nt t x y z o.dst E h K = some r) (hK : ∀ E' h', K E' h' = some r → WL P nt ops (i + 1) E' h' Q) : WL P nt ops i E h Q := by
  unfold eExact at hr
  split at hr
  · rename_i d e sx k hi k' hi' hd hk hx hy hz
    split at hr
    · rename_i ei n τ l he hq
      obtain ⟨h1, hr⟩ := bif_some hr
      simp only [Bool.and_eq_true] at h1
      obtain ⟨zs, hzs, hr⟩ := bd hr
      split at hzs
      · rename_i e1
        subst e1
        unfold cut at hzs
        split at hzs
        · rename_i hb
          simp only [Option.some.injEq, Int.toNat_zero, List.drop_zero] at hzs
          subst hzs
          exact WL_exact hT (hK _ _ hr) hoi hg ho hd hk he (Nat.eq_of_beq_eq_true h1.1) hx hq hy hz h1.2 rfl rfl rfl hb.2.1 hb.2.2
        · cases hzs
      · cases hzs
    · cases hr
  · cases hr

/-- A slice held against nil. -/
noncomputable def eNilEq (T : Tab) (nt t : Nat) (x : Operand) (d : Option Nat) (E : Env) (K : Env → Option β) : Option β := match d, kOf T t, look E [] x with
  | some d, .sl _, some sx => match pur sx with
    | some (.sl _ _ l) => bif dstOk nt E [] (some d) then nq l fun b => K ((d, [], vb b) :: E) else none
    | _ => none
  | _, _, _ => none
theorem eNilEq_ok (hT : TOk P T) {t u : Nat} {x : Operand} {K : Env → List Ob → Option β} (hoi : ops[i]? = some o) (hg : o.guard = none) (ho : o.op = .binOp .eql t x (.const (.slice none 0 0)) u)
    (hr : eNilEq T nt t x o.dst E (fun E => K E h) = some r) (hK : ∀ E' h', K E' h' = some r → WL P nt ops (i + 1) E' h' Q) : WL P nt ops i E h Q := by
  unfold eNilEq at hr
  split at hr
  · rename_i d e sx hd hk hx
    split at hr
    · rename_i n τ l hq
      obtain ⟨h1, hr⟩ := bif_some hr
      exact xq hT hoi ho hg hd hk hx hq h1 fun b hb => hK _ _ (nq_of hr b hb)
    · cases hr
  · cases hr

/-- A call that is handed what the call owns, or that hands back new things. -/
def cIds (T : Tab) (c : Call) (caps ss : List SV) : List SV := argsS T c.argTypes.toList (ss ++ caps)
def cL (h : List Ob) (as : List SV) : List Nat := reach h h.length ((SV.idsL as).foldl addN [])
noncomputable def eCall (P : Program) (T : Tab) (nt : Nat) (rec : Rec) (inst : InstF) (c : Call) (d : Option Nat) (E : Env) (h : List Ob) (K : Env → List Ob → Option β) : Option β := match c.callee with
  | .value x => match calS E [] x, lookL E [] c.args.toList with
    | some (f, caps), some ss => match P.funcs[f]?, getL h (cL h (cIds T c caps ss)) with
      | some fn, some os => match inst f (SV.renL (inv (cL h (cIds T c caps ss))) (cIds T c caps ss)) (os.map (Ob.ren (inv (cL h (cIds T c caps ss))))) with
        | some I => bif Nat.beq I.f f && fn.body.isSome && !(fn.name == "runtime.NumGoroutine") && dstOk nt E [] d && (SV.idsL (cIds T c caps ss)).all (fun j => (idx (cL h (cIds T c caps ss)) j).isSome)
            && os.all (fun o => o.ids.all fun j => (idx (cL h (cIds T c caps ss)) j).isSome) && Nat.beq I.hin.length os.length && lowL I.hin.length I.ain.ids && I.hin.all (OSh.low I.hin.length) then
            (match I.ain.get (SV.renL (inv (cL h (cIds T c caps ss))) (cIds T c caps ss)), I.hin.get (os.map (Ob.ren (inv (cL h (cIds T c caps ss))))) with
              | some a, some y => (rec I (I.aP a y)).bind fun r =>
                bif chkG (cL h (cIds T c caps ss)) (SV.renL (inv (cL h (cIds T c caps ss))) (cIds T c caps ss)) (os.map (Ob.ren (inv (cL h (cIds T c caps ss))))) (I.out.mk (I.rE r)) (I.hout.mk (I.rH r)) (I.xout.mk (I.rX r)) h then
                  K ((stpE (tails (cL h (cIds T c caps ss)) (os.map (Ob.ren (inv (cL h (cIds T c caps ss)))))) E).putO d [] ((I.out.mk (I.rE r)).ren (rho2 (cL h (cIds T c caps ss)) (os.map (Ob.ren (inv (cL h (cIds T c caps ss))))) h.length)))
                    (plugO (cL h (cIds T c caps ss)) (tails (cL h (cIds T c caps ss)) (os.map (Ob.ren (inv (cL h (cIds T c caps ss)))))) (rho2 (cL h (cIds T c caps ss)) (os.map (Ob.ren (inv (cL h (cIds T c caps ss))))) h.length) (I.hout.mk (I.rH r)) 0 h ++ (I.xout.mk (I.rX r)).map (Ob.ren (rho2 (cL h (cIds T c caps ss)) (os.map (Ob.ren (inv (cL h (cIds T c caps ss))))) h.length)))
                else none
              | _, _ => none) else none
        | none => none
      | _, _ => none
    | _, _ => none
  | _ => none
theorem eCall_st {rec : Rec} {inst : InstF} (hrec : ∀ I x r, rec I x = some r → CF P I x r) {c : Call} {K : Env → List Ob → Option β} (ho : o.op = .call c)
    (hr : eCall P T nt rec inst c o.dst E h K = some r) : OSt P nt o E h fun E' h' => K E' h' = some r := by
  unfold eCall at hr
  split at hr
  · rename_i x hc
    split at hr
    · rename_i f caps ss hx hl
      generalize hcl : cL h (cIds T c caps ss) = l at hr
      generalize has : cIds T c caps ss = as at hr
      split at hr
      · rename_i fn os hf hos
        split at hr
        · rename_i I hI
          obtain ⟨h1, hr⟩ := bif_some hr
          simp only [Bool.and_eq_true, Bool.not_eq_true'] at h1
          obtain ⟨⟨⟨⟨⟨⟨⟨⟨h1, h2⟩, h3⟩, h4⟩, h5⟩, h6⟩, h7⟩, h8⟩, h9⟩ := h1
          split at hr
          · rename_i a y ha hy
            obtain ⟨res, hres, hr2⟩ := bd hr
            obtain ⟨hck, hr3⟩ := bif_some hr2
            obtain rfl := Nat.eq_of_beq_eq_true h1
            have hF := hrec _ _ _ hres
            simp only [CF, Inst.aE_P, Inst.aH_P] at hF
            have hF' := hF.weak ha hy (by rw [List.length_map]; exact Nat.eq_of_beq_eq_true h7) h8 h9
            have e1 : SV.renL (rho l) (SV.renL (inv l) as) = as := SV.renL_renL fun j hj => rho_inv (List.all_eq_true.1 h5 j hj)
            have e2 : (os.map (Ob.ren (inv l))).map (Ob.ren (rho l)) = os := by
              rw [List.map_map]
              refine (List.map_congr_left fun o ho => ?_).trans (List.map_id os)
              exact Ob.ren_ren fun j hj => rho_inv (List.all_eq_true.1 (List.all_eq_true.1 h6 o ho) j hj)
            intro bs9; exact OSt.mono (K' := fun E' h' => K E' h' = some r) (xgO l hF' hf ho hc h2 hx h3 (by rw [hl, Option.map_some, e1, ← has]; rfl) (by rw [e2]; exact hos) hck h4 rfl rfl) fun E' h' ⟨e3, e4⟩ => by subst e3 e4; exact hr3
          · cases hr
        · cases hr
      · cases hr
    · cases hr
  · cases hr

theorem eCall_ok {rec : Rec} {inst : InstF} (hrec : ∀ I x r, rec I x = some r → CF P I x r) {c : Call} {K : Env → List Ob → Option β} (hoi : ops[i]? = some o) (hg : o.guard = none) (ho : o.op = .call c)
    (hr : eCall P T nt rec inst c o.dst E h K = some r) (hK : ∀ E' h', K E' h' = some r → WL P nt ops (i + 1) E' h' Q) : WL P nt ops i E h Q := WL_op hoi hg (OSt.mono (eCall_st hrec ho hr) hK)

/-- Does it turn what is owned? The numbers: the temporaries that are appended to. -/
def memN (l : List Nat) : Option Nat → Bool
  | some d => l.any (Nat.beq d)
  | none => false
def isEff (ap : List Nat × List Nat × List Nat) (o : Oper) : Bool := match o.op with
  | .alloc _ | .box _ _ | .store _ _ _ | .makeSlice _ _ _ | .makeMap _ _ | .mapUpdate _ _ _ _ | .insert _ _ _ _ => true
  | .binOp .eql _ _ (.const (.slice none 0 0)) _ => true
  | .move (.const (.slice none 0 0)) | .assign (.const (.slice none 0 0)) => memN ap.1 o.dst
  | .move (.tmp _) | .assign (.tmp _) => memN ap.2.1 o.dst
  | .buildSlice _ _ _ => memN ap.1 o.dst
  | .slice _ _ _ _ (some _) => memN ap.1 o.dst
  | .call c => match c.callee with
    | .builtin .append => true
    | .builtin .copy => true
    | .value _ => (match o.dst with | some d => ap.2.1.any (Nat.beq d) | none => true)
    | _ => false
  | _ => false
noncomputable def denE (P : Program) (T : Tab) (nt : Nat) (rec : Rec) (inst : InstF) (al : List Nat) (o : Oper) (E : Env) (h : List Ob) (K : Env → List Ob → Option β) : Option β := match o.op with
  | .alloc t => match o.dst with
    | some d => bif al.any (Nat.beq d) then eAllocO T nt t o.dst E h K else eAlloc T nt t o.dst E h K
    | none => none
  | .box t x => match o.dst with
    | some d => bif al.any (Nat.beq d) then eBoxO T nt t x o.dst E h K else eBox T nt t x o.dst E h K
    | none => none
  | .store t x y => match look E [] x with
    | some (.rp _ _ _ _) => bif rpCells x E [] h then eStoreC T t x y o.dst E h K else eStoreR T t x y o.dst E h K
    | _ => eStore T t x y o.dst E h K
  | .binOp .eql t x (.const (.slice none 0 0)) _ => eNilEq T nt t x o.dst E fun E => K E h
  | .move (.const (.slice none 0 0)) | .assign (.const (.slice none 0 0)) => match o.dst with
    | some d => eNil T nt o.type d E h K
    | none => none
  | .move x | .assign x => eMv T nt o.type x o.dst E h K
  | .buildSlice t len parts => eLit T nt t len parts.toList o.dst E h K
  | .makeSlice t (.const (.int _ 0)) y => eMake0 T nt t y o.dst E h K
  | .makeSlice t x y => eMake T nt t x y o.dst E h K
  | .makeMap t none => eMakeMap P T nt t o.dst E h K
  | .mapUpdate t x y z => eMapPut P T t x y z o.dst E h K
  | .insert t x y z => eMapPut P T t x y z o.dst E h K
  | .slice t x none (some y) (some z) => eExact T nt t x y z o.dst E h K
  | .call c => match c.callee with
    | .builtin .append => (match c.args.toList with
      | x :: _ => (match look E [] x with
        | some (.p (.s (.slice none 0 0))) => eZero T nt c o.dst E h K
        | some (.bf _ _ _) => eAppB T nt c o.dst E h K
        | _ => (match c.argTypes.toList with
          | [_, u] => (match kOf T u with
            | .str => eAppS T nt c o.dst E h K
            | _ => eAppend T nt c o.dst E h K)
          | _ => none))
      | _ => none)
    | .builtin .copy => eCopy T nt c o.dst E h K
    | .value _ => eCall P T nt rec inst c o.dst E h K
    | _ => none
  | _ => none
theorem denE_ok (hT : TOk P T) {rec : Rec} {inst : InstF} (hrec : ∀ I x r, rec I x = some r → CF P I x r) {K : Env → List Ob → Option β} (hoi : ops[i]? = some o) {al : List Nat} (hg : o.guard = none) (hr : denE P T nt rec inst al o E h K = some r) (hK : ∀ E' h', K E' h' = some r → WL P nt ops (i + 1) E' h' Q) : WL P nt ops i E h Q := by
  unfold denE at hr
  split at hr
  · rename_i ho
    split at hr
    · rename_i d hd
      cases hb : al.any (Nat.beq d) with
      | true => rw [hb] at hr; exact eAllocO_ok hT hoi hg ho hr hK
      | false => rw [hb] at hr; exact eAlloc_ok hT hoi hg ho hr hK
    · cases hr
  · rename_i ho
    split at hr
    · rename_i d hd
      cases hb : al.any (Nat.beq d) with
      | true => rw [hb] at hr; exact eBoxO_ok hoi hg ho hr hK
      | false => rw [hb] at hr; exact eBox_ok hoi hg ho hr hK
    · cases hr
  · rename_i ho
    split at hr
    · cases hb : rpCells _ E [] h with
      | true => rw [hb] at hr; exact eStoreC_ok hT hoi hg ho hr hK
      | false => rw [hb] at hr; exact eStoreR_ok hT hoi hg ho hr hK
    · exact eStore_ok hT hoi hg ho hr hK
  · rename_i ho; exact eNilEq_ok hT hoi hg ho hr hK
  · rename_i ho
    split at hr
    · rename_i d hd; exact eNil_ok hT hoi hg (.inr ho) hd hr hK
    · cases hr
  · rename_i ho
    split at hr
    · rename_i d hd; exact eNil_ok hT hoi hg (.inl ho) hd hr hK
    · cases hr
  · rename_i ho; exact eMv_ok hT hoi hg (.inl ho) hr hK
  · rename_i ho; exact eMv_ok hT hoi hg (.inr ho) hr hK
  · rename_i ho; exact eLit_ok hT hoi hg ho hr hK
  · rename_i ho; exact eMake0_ok hT hoi hg ho hr hK
  · rename_i ho; exact eMake_ok hT hoi hg ho hr hK
  · rename_i ho; exact eMakeMap_ok hoi hg ho hr hK
  · rename_i ho; exact eMapPut_ok hoi hg (.inl ho) hr hK
  · rename_i ho; exact eMapPut_ok hoi hg (.inr ho) hr hK
  · rename_i ho; exact eExact_ok hT hoi hg ho hr hK
  · rename_i c ho
    split at hr
    · rename_i hc
      split at hr
      · split at hr
        · exact eZero_ok hT hoi hg ho hc hr hK
        · exact eAppB_ok hT hoi hg ho hc hr hK
        · split at hr
          · split at hr
            · exact eAppS_ok hT hoi hg ho hc hr hK
            · exact eAppend_ok hT hoi hg ho hc hr hK
          · cases hr
      · cases hr
    · rename_i hc; exact eCopy_ok hT hoi hg ho hc hr hK
    · exact eCall_ok hrec hoi hg ho hr hK
    · cases hr
  · cases hr
end

/-! ### Regions -/
section
variable {P : Program} {T : Tab} {nt : Nat} {Q : QB} {ops : Array Oper} {β : Type} {r : β}
/-- An operation that yields, and the store behind it. -/
noncomputable def denG (P : Program) (T : Tab) (nt : Nat) (rec : Rec) (inst : InstF) (ops : Array Oper) (o : Oper) (E : Env) (h : List Ob) (K : Env → Option β) : Option β := match o.guard with
  | none => denY P T rec inst o E [] h fun s => bif dstOk nt E [] o.dst then K (E.putO o.dst [] s) else none
  | some (j, b) => match (ops[j]?).bind (·.dst) with
    | some u => match E.get u with
      | some (tg, _) => denY P T rec inst o E ((u, b) :: tg) h fun s => bif dstOk nt E ((u, b) :: tg) o.dst then K (E.putO o.dst ((u, b) :: tg) s) else none
      | none => none
    | none => none
/-- Rows that are values from this operation on. -/
def frzPre (ap : List Nat × List Nat × List Nat) (o : Oper) (E : Env) (h : List Ob) (K : Env → List Ob → Option β) : Option β := bif memN ap.2.2 o.dst then frzOps o.op.operands.toList E h K else K E h
theorem frzPre_of {nt : Nat} {ap : List Nat × List Nat × List Nat} {o : Oper} {E : Env} {h : List Ob} {K : Env → List Ob → Option β} (hr : frzPre ap o E h K = some r) : ∃ E' h', Frz nt E h E' h' ∧ K E' h' = some r := by
  unfold frzPre at hr
  cases hb : memN ap.2.2 o.dst with
  | true => rw [hb] at hr; exact frzOps_of hr
  | false => rw [hb] at hr; exact ⟨E, h, Frz.refl _ _, hr⟩
def frzReg (ap : List Nat × List Nat × List Nat) : List Oper → Env → List Ob → (Env → List Ob → Option β) → Option β
  | [], E, h, K => K E h
  | o :: l, E, h, K => frzPre ap o E h fun E h => frzReg ap l E h K
theorem frzReg_of {nt : Nat} {ap : List Nat × List Nat × List Nat} : ∀ {l : List Oper} {E : Env} {h : List Ob} {K : Env → List Ob → Option β}, frzReg ap l E h K = some r → ∃ E' h', Frz nt E h E' h' ∧ K E' h' = some r
  | [], E, h, K, hr => ⟨E, h, Frz.refl _ _, hr⟩
  | o :: l, E, h, K, hr => by
    obtain ⟨E1, h1, k1, hr1⟩ := frzPre_of hr
    obtain ⟨E2, h2, k2, hr2⟩ := frzReg_of (l := l) hr1
    exact ⟨E2, h2, k1.trans k2, hr2⟩
noncomputable def denOps (P : Program) (T : Tab) (nt : Nat) (rec : Rec) (inst : InstF) (ap : List Nat × List Nat × List Nat) (ops : Array Oper) : List Oper → Env → List Ob → (Env → List Ob → Option β) → Option β
  | [], E, h, K => K E h
  | o :: l, E, h, K => frzPre ap o E h fun E h => match deadG ops E o with
    | some A => bif dstOk nt E A o.dst then denOps P T nt rec inst ap ops l (E.putO o.dst A bad) h K else none
    | none => match o.guard, pickD E o with
    | none, some s => bif dstOk nt E [] o.dst then denOps P T nt rec inst ap ops l (E.putO o.dst [] s) h K else none
    | _, _ => bif isEff ap o then (match o.guard with
      | none => denE P T nt rec inst ap.1 o E h fun E h => denOps P T nt rec inst ap ops l E h K
      | some (j, b) => match (ops[j]?).bind (·.dst), o.op with
        | some u, .call c => (match E.get u with
          | some (tg, _) => (match tagB E ((u, b) :: tg) with
            | some t => bif dstOk nt E ((u, b) :: tg) o.dst then (if t = true then eCall P T nt rec inst c o.dst (relax ((u, b) :: tg) E) h fun E h => denOps P T nt rec inst ap ops l E h K
                else denOps P T nt rec inst ap ops l (E.putO o.dst ((u, b) :: tg) bad) h K) else none
            | none => none)
          | none => none)
        | _, _ => none)
    else denG P T nt rec inst ops o E h fun E => denOps P T nt rec inst ap ops l E h K
noncomputable def denHd (P : Program) (T : Tab) (nt : Nat) (rec : Rec) (inst : InstF) (ops : Array Oper) : Nat → List Oper → Env → List Ob → (List Oper → Env → Option β) → Option β
  | 0, l, E, h, K => K l E
  | n + 1, o :: l, E, h, K => denG P T nt rec inst ops o E h fun E => denHd P T nt rec inst ops n l E h K
  | _ + 1, [], _, _, _ => none

theorem denG_ok (hT : TOk P T) {rec : Rec} {inst : InstF} (hrec : ∀ I x r, rec I x = some r → CF P I x r) {E : Env} {h : List Ob} {o : Oper} {i : Nat} {K : Env → Option β} (hoi : ops[i]? = some o) (hr : denG P T nt rec inst ops o E h K = some r) :
    ∃ E', K E' = some r ∧ Head P nt ops h i (i + 1) E E' := by
  unfold denG at hr
  split at hr
  · rename_i hg
    obtain ⟨s, hy, hK⟩ := denY_ok hT hrec hr
    obtain ⟨h1, hK⟩ := bif_some hK
    exact ⟨_, hK, .plain hoi hg h1 hy (.nil _ _)⟩
  · rename_i j b hg
    split at hr
    · rename_i u hu
      split at hr
      · rename_i tg su hsu
        obtain ⟨s, hy, hK⟩ := denY_ok hT hrec hr
        obtain ⟨h1, hK⟩ := bif_some hK
        exact ⟨_, hK, .guarded hoi hg hu hsu h1 hy (.nil _ _)⟩
      · cases hr
    · cases hr

theorem at_of_drop {l : List Oper} {o : Oper} {i : Nat} (h : ops.toList.drop i = o :: l) : ops[i]? = some o ∧ ops.toList.drop (i + 1) = l := by
  constructor
  · have : (ops.toList.drop i)[0]? = some o := by rw [h]; rfl
    rw [List.getElem?_drop] at this
    simpa using this
  · rw [← List.drop_drop, h]; rfl
theorem denOps_ok (hT : TOk P T) {rec : Rec} {inst : InstF} (hrec : ∀ I x r, rec I x = some r → CF P I x r) {ap : List Nat × List Nat × List Nat} : ∀ {l : List Oper} {i : Nat} {E : Env} {h : List Ob} {K : Env → List Ob → Option β}, ops.toList.drop i = l →
    denOps P T nt rec inst ap ops l E h K = some r → (∀ E' h', K E' h' = some r → Q .normal E' h') → WL P nt ops i E h Q
  | [], i, E, h, K, hl, hr, hK => by
    refine WL_nil ?_ (hK _ _ hr)
    have := List.drop_eq_nil_iff.1 hl
    simpa [Nat.ble_eq] using this
  | o :: l, i, E, h, K, hl, hr, hK => by
    obtain ⟨hoi, hl'⟩ := at_of_drop hl
    simp only [denOps] at hr
    obtain ⟨E1, h1, k1, hr⟩ := frzPre_of hr
    refine WL_frz k1 ?_
    clear k1 
    split at hr
    · rename_i A hA
      obtain ⟨hd, hr⟩ := bif_some hr
      exact WL_dead hoi hA hd (denOps_ok hT hrec hl' hr hK)
    split at hr
    · rename_i s hg hs
      obtain ⟨hd, hr⟩ := bif_some hr
      exact WL_pickD hoi hg hs hd (denOps_ok hT hrec hl' hr hK)
    cases hb : isEff ap o with
    | true =>
      rw [hb] at hr
      simp only [cond_true] at hr
      split at hr
      · rename_i hg
        exact denE_ok hT hrec hoi hg hr fun E' h' hr' => denOps_ok hT hrec hl' hr' hK
      · rename_i j b hg
        split at hr
        · rename_i u c hu ho
          split at hr
          · rename_i tg su hsu
            split at hr
            · rename_i t ht
              obtain ⟨hd, hr⟩ := bif_some hr
              refine WL_guard (sb := bad) hoi hg hu hsu ht hd (fun e => ?_) (fun e => ?_)
              · subst e
                rw [if_pos rfl] at hr
                exact OSt.mono (eCall_st hrec ho hr) fun E' h' hr' => denOps_ok hT hrec hl' hr' hK
              · subst e
                rw [if_neg (by decide)] at hr
                exact denOps_ok hT hrec hl' hr hK
            · cases hr
          · cases hr
        · cases hr
    | false =>
      rw [hb] at hr
      simp only [cond_false] at hr
      obtain ⟨E', hr', hd⟩ := denG_ok hT hrec hoi hr
      have hlt := (Array.getElem?_eq_some_iff.1 hoi).1
      exact WL_head hd (by rw [Nat.ble_eq]; omega) (denOps_ok hT hrec hl' hr' hK)
theorem denHd_ok (hT : TOk P T) {rec : Rec} {inst : InstF} (hrec : ∀ I x r, rec I x = some r → CF P I x r) : ∀ {n i : Nat} {l : List Oper} {E : Env} {h : List Ob} {K : List Oper → Env → Option β}, ops.toList.drop i = l →
    denHd P T nt rec inst ops n l E h K = some r → (∀ l' E', ops.toList.drop (i + n) = l' → K l' E' = some r → WL P nt ops (i + n) E' h Q) → HW P nt ops h (i + n) Q i E
  | 0, i, l, E, h, K, hl, hr, hK => dn (hK l E hl hr)
  | n + 1, i, [], E, h, K, hl, hr, hK => by cases hr
  | n + 1, i, o :: l, E, h, K, hl, hr, hK => by
    obtain ⟨hoi, hl'⟩ := at_of_drop hl
    simp only [denHd] at hr
    obtain ⟨E', hr', hd⟩ := denG_ok hT hrec hoi hr
    have e : i + (n + 1) = i + 1 + n := by omega
    rw [e] at hK ⊢
    obtain ⟨E1, h3, h4⟩ := denHd_ok hT hrec hl' hr' hK
    exact ⟨E1, hd.trans h3, h4⟩

/-- Entries that hang on no test. -/
def untag (E : Env) : Env := bif plainE E then E else E.keep (E.map Prod.fst)
theorem W_untag {c : Code} {E : Env} {h : List Ob} (hW : W P nt c (untag E) h Q) : W P nt c E h Q := by
  unfold untag at hW
  cases hb : plainE E with
  | true => rw [hb] at hW; exact hW
  | false => rw [hb] at hW; exact W_keep _ rfl hW
/-- Where the first operation stands that turns what is owned. -/
def effAt (ap : List Nat × List Nat × List Nat) : List Oper → Nat
  | [] => 0
  | o :: l => bif isEff ap o then 0 else effAt ap l + 1
def findN (ops : Array Oper) : Nat → Nat
  | 0 => 0
  | n + 1 => bif anyOk ops (n + 1) && tailOk ops (n + 1) then n + 1 else findN ops n
/-- Variables made, and stores, among operations that may come in another order. -/
def eSimp (T : Tab) (o : Oper) (E : Env) (h : List Ob) : Option (SV × List Ob × Nat) := match o.op with
  | .alloc t => match o.dst, T t with
    | some _, some ti => some (.ptr h.length 0, h ++ [.cells t (ti.zero.map .p)], h.length)
    | _, _ => none
  | .box t x => match o.dst, look E [] x with
    | some _, some s => match scells (coS (T t) s) with
      | some cs => some (.ptr h.length 0, h ++ [.cells t cs], h.length)
      | none => none
    | _, _ => none
  | .store t x y => match o.dst, T t, look E [] x, look E [] y with
    | none, some ti, some (.ptr b off), some s => match scells (coS (some ti) s), h[b]? with
      | some vs, some (.cells u cs) => bif Nat.beq vs.length ti.size && Nat.ble (off + vs.length) cs.length then some (.any, h.set b (.cells u (cs.take off ++ vs ++ cs.drop (off + vs.length))), b) else none
      | _, _ => none
    | _, _, _, _ => none
  | _ => none
theorem eSimp_ok (hT : TOk P T) {o : Oper} {E : Env} {h h' : List Ob} {s : SV} {c : Nat} (hs : eSimp T o E h = some (s, h', c)) :
    (∀ E', (∀ x ∈ o.op.operands, look E' [] x = look E [] x) → dstOk nt E' [] o.dst = true → OSt P nt o E' h fun E'' h'' => E'' = E'.putO o.dst [] s ∧ h'' = h') ∧ ∀ b, some c ≠ some b → h'[b]? = h[b]? := by
  have app : ∀ (ob : Ob) (b : Nat), some h.length ≠ some b → (h ++ [ob])[b]? = h[b]? := fun ob b hb => by
    by_cases hl : b < h.length
    · exact List.getElem?_append_left hl
    · have : b ≠ h.length := fun e => hb (by rw [e])
      rw [List.getElem?_eq_none (by simp; omega), List.getElem?_eq_none (by omega)]
  unfold eSimp at hs
  split at hs
  · rename_i t ho
    split at hs
    · rename_i d ti hd ht
      simp only [Option.some.injEq, Prod.mk.injEq] at hs
      obtain ⟨rfl, rfl, rfl⟩ := hs
      exact ⟨fun E' _ hok => by rw [hd] at hok ⊢; exact OSt_alloc hT ho hd ht hok, app _⟩
    · cases hs
  · rename_i t x ho
    split at hs
    · rename_i d s' hd hx
      split at hs
      · rename_i cs hc
        simp only [Option.some.injEq, Prod.mk.injEq] at hs
        obtain ⟨rfl, rfl, rfl⟩ := hs
        exact ⟨fun E' hl hok => by rw [hd] at hok ⊢; exact OSt_box ho hd ((hl x (by simp [ho, Op.operands])).trans hx) hc hok, app _⟩
      · cases hs
    · cases hs
  · rename_i t x y ho
    split at hs
    · rename_i ti b off s' hd ht hx hy
      split at hs
      · rename_i vs u cs hc hob
        obtain ⟨h1, hs⟩ := bif_some hs
        simp only [Bool.and_eq_true] at h1
        simp only [Option.some.injEq, Prod.mk.injEq] at hs
        obtain ⟨rfl, rfl, rfl⟩ := hs
        refine ⟨fun E' hl hok => by rw [hd]; exact OSt_store hT ho hd ht ((hl x (by simp [ho, Op.operands])).trans hx) ((hl y (by simp [ho, Op.operands])).trans hy) hc h1.1 hob h1.2, fun b' hb' => ?_⟩
        exact List.getElem?_set_ne fun e => hb' (by rw [e])
      · cases hs
    · cases hs
  · cases hs
def isSimp (o : Oper) : Bool := match o.op with
  | .alloc _ | .box _ _ | .store _ _ _ => true
  | _ => false
noncomputable def denHg (P : Program) (T : Tab) (nt : Nat) (rec : Rec) (inst : InstF) : Nat → List Oper → Env → List Ob → List (Bool × Option Nat) → (List Oper → Env → List Ob → List (Bool × Option Nat) → Option β) → Option β
  | 0, l, E, h, rs, K => K l E h rs
  | n + 1, o :: l, E, h, rs, K => match o.guard with
    | none => bif isSimp o then (match eSimp T o E h with
        | some (s, h', c) => bif dstOk nt E [] o.dst then denHg P T nt rec inst n l (E.putO o.dst [] s) h' (rs ++ [(true, some c)]) K else none
        | none => none)
      else denY P T rec inst o E [] h fun s => bif dstOk nt E [] o.dst then denHg P T nt rec inst n l (E.putO o.dst [] s) h (rs ++ [(false, depOf o E [])]) K else none
    | some _ => none
  | _ + 1, [], _, _, _, _ => none
def dOf (ops : Array Oper) (i : Nat) : Option Nat := (ops[i]?).bind (·.dst)
def rOf (rs : List (Bool × Option Nat)) (i : Nat) : Bool × Option Nat := rs.getD i (false, none)
/-- What is known in the midst of such a walk. -/
def HgI (P : Program) (nt : Nat) (ops : Array Oper) (E0 : Env) (h0 : List Ob) (i : Nat) (E : Env) (h : List Ob) (rs : List (Bool × Option Nat)) : Prop :=
  rs.length = i ∧ ∃ sv hp, Dat P nt ops E0 i (dOf ops) sv hp (rOf rs) ∧ E = ent (dOf ops) sv (fun _ => true) E0 i ∧ h = hp i ∧ hp 0 = h0
theorem HgI.next {E0 E : Env} {h0 h h' : List Ob} {i : Nat} {rs : List (Bool × Option Nat)} {o : Oper} {s : SV} {x : Bool × Option Nat} (I : HgI P nt ops E0 h0 i E h rs) (hoi : ops[i]? = some o) (hg : o.guard = none) (hd : dstOk nt E [] o.dst = true)
    (hx : (x.1 = false ∧ h' = h ∧ ∀ h', (∀ b, x.2 = some b → h'[b]? = h[b]?) → Yld P o E [] h' s) ∨
      (x.1 = true ∧ (∀ b, x.2 ≠ some b → h'[b]? = h[b]?) ∧ ∀ E', plainE E' = true → (∀ x ∈ o.op.operands, look E' [] x = look E [] x) → OSt P nt o E' h fun E'' h'' => E'' = E'.putO o.dst [] s ∧ h'' = h')) : HgI P nt ops E0 h0 (i + 1) (E.putO o.dst [] s) h' (rs ++ [x]) := by
  obtain ⟨hl, sv, hp, D, rfl, rfl, h0'⟩ := I
  have hdo : dOf ops i = o.dst := by simp [dOf, hoi]
  have ec : ∀ k, k ≤ i → ent (dOf ops) (fun j => if j = i then s else sv j) (fun _ => true) E0 k = ent (dOf ops) sv (fun _ => true) E0 k := fun k hk => ent_congr fun j hj => ⟨rfl, if_neg (by omega), rfl⟩
  have er : ∀ j, j < i → rOf (rs ++ [x]) j = rOf rs j := fun j hj => by
    simp only [rOf, List.getD_eq_getElem?_getD]
    rw [List.getElem?_append_left (by omega)]
  have eri : rOf (rs ++ [x]) i = x := by
    subst hl
    simp [rOf]
  refine ⟨by simp [hl], fun j => if j = i then s else sv j, fun j => if j = i + 1 then h' else hp j, ⟨fun j hj => ?_⟩, ?_, by simp, by simpa using h0'⟩
  · by_cases hji : j = i
    · subst hji
      refine ⟨o, hoi, hg, hdo.symm, fun z hz => ?_, ?_⟩
      · rw [hdo] at hz
        rw [hz] at hd
        simp only [dstOk, Bool.and_eq_true] at hd
        exact of_blt hd.1.1
      · rw [eri, ec j (Nat.le_refl _), hdo]
        simp only [if_true, if_neg (show ¬ j = j + 1 by omega)]
        exact hx
    · obtain ⟨o', g1, g2, g3, g4, g5⟩ := D.op j (by omega)
      refine ⟨o', g1, g2, g3, g4, ?_⟩
      rw [er j (by omega), ec j (by omega)]
      simp only [if_neg hji, if_neg (show ¬ j = i + 1 by omega), if_neg (show ¬ j + 1 = i + 1 by omega)]
      exact g5
  · simp only [ent, cond_true, ec i (Nat.le_refl _), if_true, hdo]
theorem denHg_ok (hT : TOk P T) {rec : Rec} {inst : InstF} (hrec : ∀ I x r, rec I x = some r → CF P I x r) {E0 : Env} {h0 : List Ob} {K : List Oper → Env → List Ob → List (Bool × Option Nat) → Option β} : ∀ {n i : Nat} {l : List Oper} {E : Env} {h : List Ob} {rs : List (Bool × Option Nat)}, ops.toList.drop i = l → HgI P nt ops E0 h0 i E h rs →
    denHg P T nt rec inst n l E h rs K = some r → ∃ l' E' h' rs', K l' E' h' rs' = some r ∧ ops.toList.drop (i + n) = l' ∧ HgI P nt ops E0 h0 (i + n) E' h' rs'
  | 0, i, l, E, h, rs, hl, I, hr => ⟨l, E, h, rs, hr, hl, I⟩
  | n + 1, i, [], E, h, rs, hl, I, hr => by cases hr
  | n + 1, i, o :: l, E, h, rs, hl, I, hr => by
    obtain ⟨hoi, hl'⟩ := at_of_drop hl
    simp only [denHg] at hr
    rw [show i + (n + 1) = i + 1 + n by omega]
    split at hr
    · rename_i hg
      cases hb : isSimp o with
      | true =>
        rw [hb] at hr
        simp only [cond_true] at hr
        split at hr
        · rename_i s h' c hs
          obtain ⟨hd, hr⟩ := bif_some hr
          obtain ⟨g1, g2⟩ := eSimp_ok (P := P) (nt := nt) hT hs
          refine denHg_ok hT hrec hl' (I.next hoi hg hd (.inr ⟨rfl, g2, fun E' hE' hlk => g1 E' hlk ?_⟩)) hr
          cases hdd : o.dst with
          | none => rfl
          | some x => rw [hdd] at hd; simp only [dstOk, Bool.and_eq_true] at hd; simp only [dstOk, plainE_free hE', Tg.free, List.all_nil, Bool.and_eq_true, and_true]; exact hd.1.1
        · cases hr
      | false =>
        rw [hb] at hr
        simp only [cond_false] at hr
        obtain ⟨s, hy, hr⟩ := denY_dep hT hrec hr
        obtain ⟨hd, hr⟩ := bif_some hr
        exact denHg_ok hT hrec hl' (I.next hoi hg hd (.inl ⟨rfl, rfl, hy⟩)) hr
    · cases hr
/-- How many operations may come in any order, if variables may be made among them, and stores. -/
def effG (ap : List Nat × List Nat × List Nat) : List Oper → Nat
  | [] => 0
  | o :: l => bif (isEff ap o && !isSimp o) || o.guard.isSome then 0 else effG ap l + 1
noncomputable def denR (P : Program) (T : Tab) (nt : Nat) (rec : Rec) (inst : InstF) (ap : List Nat × List Nat × List Nat) (ops : Array Oper) (draw : Bool) (E : Env) (h : List Ob) (K : Env → List Ob → Option β) : Option β := match draw with
  | false => denOps P T nt rec inst ap ops ops.toList E h K
  | true => frzReg ap ops.toList E h fun E h => bif Nat.ble (findN ops (effAt ap ops.toList)) ops.size && anyOk ops (findN ops (effAt ap ops.toList)) && plainE E && fwdOk ops && tailOk ops (findN ops (effAt ap ops.toList)) then
      denHd P T nt rec inst ops (findN ops (effAt ap ops.toList)) ops.toList E h fun l E => denOps P T nt rec inst ap ops l E h K
    else bif Nat.ble (findN ops (effG ap ops.toList)) ops.size && anyOk ops (findN ops (effG ap ops.toList)) && plainE E && fwdOk ops && tailOk ops (findN ops (effG ap ops.toList)) then
      denHg P T nt rec inst (findN ops (effG ap ops.toList)) ops.toList E h [] fun l E h rs => bif ordOk ops (findN ops (effG ap ops.toList)) (rOf rs) then denOps P T nt rec inst ap ops l E h K else none
    else none
theorem denR_ok (hT : TOk P T) (hm : P.follows .mixedOrders = true) {rec : Rec} {inst : InstF} (hrec : ∀ I x r, rec I x = some r → CF P I x r) {ap : List Nat × List Nat × List Nat} {id : Nat} {draw : Bool} {E : Env} {h : List Ob} {K : Env → List Ob → Option β}
    (hr : denR P T nt rec inst ap ops draw E h K = some r) (hK : ∀ E' h', K E' h' = some r → Q .normal E' h') : W P nt (.region id ops draw) E h Q := by
  unfold denR at hr
  split at hr
  · exact W_region (denOps_ok hT hrec rfl hr hK)
  · obtain ⟨E1, hz, k1, hr⟩ := frzReg_of hr
    refine W_frz k1 ?_
    clear k1
    cases hc : (Nat.ble (findN ops (effAt ap ops.toList)) ops.size && anyOk ops (findN ops (effAt ap ops.toList)) && plainE E1 && fwdOk ops && tailOk ops (findN ops (effAt ap ops.toList))) with
    | true =>
      rw [hc] at hr
      simp only [cond_true] at hr
      simp only [Bool.and_eq_true] at hc
      obtain ⟨⟨⟨⟨h1, h2⟩, h3⟩, h4⟩, h5⟩ := hc
      generalize hn : findN ops (effAt ap ops.toList) = n at *
      refine qd hm n h1 h2 h3 h4 h5 ?_
      have := denHd_ok (Q := Q) hT hrec (i := 0) rfl hr fun l' E' hl hr' => denOps_ok hT hrec hl hr' hK
      simpa using this
    | false =>
      rw [hc] at hr
      simp only [cond_false] at hr
      obtain ⟨h1, hr⟩ := bif_some hr
      simp only [Bool.and_eq_true] at h1
      obtain ⟨⟨⟨⟨h1, h2⟩, h3⟩, h4⟩, h5⟩ := h1
      generalize hn : findN ops (effG ap ops.toList) = n at *
      have I0 : HgI P nt ops E1 hz 0 E1 hz [] := ⟨rfl, fun _ => .any, fun _ => hz, ⟨fun i hi => absurd hi (Nat.not_lt_zero _)⟩, rfl, rfl, rfl⟩
      obtain ⟨l', E', h', rs', hr', hl, ⟨hlen, sv, hp, D, rfl, rfl, h0⟩⟩ := denHg_ok hT hrec (i := 0) rfl I0 hr
      obtain ⟨h6, hr'⟩ := bif_some hr'
      rw [Nat.zero_add] at hl D hr'
      have := W_drawG (id := id) (Q := Q) hm D h1 h2 h6 h3 h4 h5 (denOps_ok hT hrec hl hr' hK)
      rw [h0] at this
      exact this
end
end Go.Proofs.YtmjkflppajienaaDoor.R
