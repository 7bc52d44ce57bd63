/- The functions that are given by hand, and all functions together; no condition but the typed premises. -/
import Derived.Test.YtmjkflppajienaaDoorRS
import Derived.Test.YtmjkflppajienaaDoorRP
import Derived.Test.YtmjkflppajienaaDoorRBu
import Derived.WalkKit
import Derived.Shelf.RegionOpenPlain
import Derived.Laws.Externs
import Derived.Lib.Builder
import Derived.Lib.Walk
import Derived.Test.YtmjkflppajienaaDoorRIt
import Derived.Test.YtmjkflppajienaaDoorRKv
import Derived.Test.YtmjkflppajienaaDoorRCv
import Derived.Test.YtmjkflppajienaaDoorShelf
namespace Go.Proofs.YtmjkflppajienaaDoor.R
open Go Go.RowKit
set_option linter.unusedVariables false
def strconv_Itoa.g (a0 : Int) : Option ByteArray := if -9223372036854775808 ≤ a0 ∧ a0 ≤ 9223372036854775807 then some ⟨(Lib.itoa a0).toArray⟩ else none
theorem strconv_Itoa.pf (a0 : Int) (r : ByteArray) (H : strconv_Itoa.g a0 = some r) : PF Tryd.prog 77 [vi a0] (vs r) := by
  unfold strconv_Itoa.g at H
  split at H
  case isFalse => cases H
  case isTrue h =>
    obtain rfl := Option.some.inj H
    refine PF_kn (args := [.int .i64 a0]) fun w hk => (Go.Proofs.Tryd.strconv_Itoa a0 h.1 h.2 w ?_).mono fun e w' ⟨he, k, os, hw⟩ => ⟨he, hw ▸ ?_⟩
    · have h1 := hk (.tab 3 ((List.range 20).map fun i => Value.int .u64 ((10 ^ i : Nat) : Int))) (by simp [kvs])
      exact var_of (g := 3) (vs := (List.range 20).map fun i => Value.int .u64 ((10 ^ i : Nat) : Int)) (by kernel_rfl) (by simp) h1
    · exact below_grw _ _
def strconv_Itoa.G : Giv := fun I => match I with
  | ⟨77, (.cons (.p (.i .i64)) .nil), [], (.p .s), [], []⟩ => some fun x => strconv_Itoa.g x.1
  | _ => none
theorem strconv_Itoa.G_ok : GOk Tryd.prog strconv_Itoa.G := fun I g h => by
  unfold strconv_Itoa.G at h
  split at h
  · obtain rfl := Option.some.inj h; exact fun x r hr => CF_of (strconv_Itoa.pf x.1 r hr)
  · cases h
def strings_Compare.g (a0 a1 : ByteArray) : Option Int := some (Lib.compareBytes a0.data.toList a1.data.toList)
theorem strings_Compare.pf (a0 a1 : ByteArray) (r : Int) (H : strings_Compare.g a0 a1 = some r) : PF Tryd.prog 117 [vs a0, vs a1] (vi r) := by
  obtain rfl := Option.some.inj H
  exact PF_eq (args := [.string a0, .string a1]) fun w => Go.Proofs.Tryd.strings_Compare a0 a1 w
def strings_Compare.G : Giv := fun I => match I with
  | ⟨117, (.cons (.p .s) (.cons (.p .s) .nil)), [], (.p (.i .i64)), [], []⟩ => some fun x => strings_Compare.g x.1 x.2.1
  | _ => none
theorem strings_Compare.G_ok : GOk Tryd.prog strings_Compare.G := fun I g h => by
  unfold strings_Compare.G at h
  split at h
  · obtain rfl := Option.some.inj h; exact fun x r hr => CF_of (strings_Compare.pf x.1 x.2.1 r hr)
  · cases h
def strings_Contains.g (a0 a1 : ByteArray) : Option Bool := match a1.data.toList with
  | [c] => some (decide (0 ≤ Lib.indexByte a0.data.toList c))
  | _ => none
theorem strings_Contains.pf (a0 a1 : ByteArray) (r : Bool) (H : strings_Contains.g a0 a1 = some r) : PF Tryd.prog 89 [vs a0, vs a1] (vb r) := by
  unfold strings_Contains.g at H
  split at H
  case h_1 c hc =>
    obtain rfl := Option.some.inj H
    obtain ⟨⟨l⟩⟩ := a1
    have hc' : l = [c] := hc
    subst hc'
    exact PF_eq (args := [.string a0, .string ⟨⟨[c]⟩⟩]) fun w => Go.Proofs.Tryd.strings_Contains_one a0 c w
  case h_2 => cases H
def strings_Contains.G : Giv := fun I => match I with
  | ⟨89, (.cons (.p .s) (.cons (.p .s) .nil)), [], (.p .b), [], []⟩ => some fun x => strings_Contains.g x.1 x.2.1
  | _ => none
theorem strings_Contains.G_ok : GOk Tryd.prog strings_Contains.G := fun I g h => by
  unfold strings_Contains.G at h
  split at h
  · obtain rfl := Option.some.inj h; exact fun x r hr => CF_of (strings_Contains.pf x.1 x.2.1 r hr)
  · cases h
def strings_Count.g (a0 a1 : ByteArray) : Option Int := match a1.data.toList with
  | [c] => some ((Lib.countByte a0.data.toList c : Nat) : Int)
  | _ => none
theorem strings_Count.pf (a0 a1 : ByteArray) (r : Int) (H : strings_Count.g a0 a1 = some r) : PF Tryd.prog 111 [vs a0, vs a1] (vi r) := by
  unfold strings_Count.g at H
  split at H
  case h_1 c hc =>
    obtain rfl := Option.some.inj H
    obtain ⟨⟨l⟩⟩ := a1
    have hc' : l = [c] := hc
    subst hc'
    exact PF_eq (args := [.string a0, .string ⟨⟨[c]⟩⟩]) fun w => Go.Proofs.Tryd.strings_Count_one a0 c w
  case h_2 => cases H
def strings_Count.G : Giv := fun I => match I with
  | ⟨111, (.cons (.p .s) (.cons (.p .s) .nil)), [], (.p (.i .i64)), [], []⟩ => some fun x => strings_Count.g x.1 x.2.1
  | _ => none
theorem strings_Count.G_ok : GOk Tryd.prog strings_Count.G := fun I g h => by
  unfold strings_Count.G at h
  split at h
  · obtain rfl := Option.some.inj h; exact fun x r hr => CF_of (strings_Count.pf x.1 x.2.1 r hr)
  · cases h
def strings_Index.g (a0 a1 : ByteArray) : Option Int := match a1.data.toList with
  | [c] => some (Lib.indexByte a0.data.toList c)
  | _ => none
theorem strings_Index.pf (a0 a1 : ByteArray) (r : Int) (H : strings_Index.g a0 a1 = some r) : PF Tryd.prog 112 [vs a0, vs a1] (vi r) := by
  unfold strings_Index.g at H
  split at H
  case h_1 c hc =>
    obtain rfl := Option.some.inj H
    obtain ⟨⟨l⟩⟩ := a1
    have hc' : l = [c] := hc
    subst hc'
    exact PF_eq (args := [.string a0, .string ⟨⟨[c]⟩⟩]) fun w => Go.Proofs.Tryd.strings_Index_one a0 c w
  case h_2 => cases H
def strings_Index.G : Giv := fun I => match I with
  | ⟨112, (.cons (.p .s) (.cons (.p .s) .nil)), [], (.p (.i .i64)), [], []⟩ => some fun x => strings_Index.g x.1 x.2.1
  | _ => none
theorem strings_Index.G_ok : GOk Tryd.prog strings_Index.G := fun I g h => by
  unfold strings_Index.G at h
  split at h
  · obtain rfl := Option.some.inj h; exact fun x r hr => CF_of (strings_Index.pf x.1 x.2.1 r hr)
  · cases h
def strings_Join.g (a0 : List ByteArray) (a1 : ByteArray) : Option ByteArray := if (Lib.join (a0.map (·.data.toList)) a1.data.toList).length ≤ 140737488355328 ∧ a0.length ≤ 140737488355328 then some ⟨(Lib.join (a0.map (·.data.toList)) a1.data.toList).toArray⟩ else none
theorem strings_Join.pf (a0 : List ByteArray) (a1 : ByteArray) (r : ByteArray) (H : strings_Join.g a0 a1 = some r) : PF Tryd.prog 53 [.p (.sl 1 .s a0), vs a1] (vs r) := by
  unfold strings_Join.g at H
  split at H
  case isFalse => cases H
  case isTrue h =>
    obtain rfl := Option.some.inj H
    refine PF_sl (args := [.string a1]) fun w F u hu hF => ?_
    rcases rd_row1 hu hF with ⟨a, c, rfl, rfl⟩ | ⟨b, o, c, rfl, hc, hb, hcell⟩
    · exact (Go.Proofs.Tryd.strings_Join_none a c a1 w).mono fun e w' ⟨he, hw⟩ => ⟨he, hw ▸ Below.refl _ _⟩
    · exact Go.Proofs.Tryd.strings_Join b o c a0 a1 w (fun j x hx => hcell j x hx) hb h.2 hc h.1
def strings_Join.G : Giv := fun I => match I with
  | ⟨53, (.cons (.p (.sl 1 .s)) (.cons (.p .s) .nil)), [], (.p .s), [], []⟩ => some fun x => strings_Join.g x.1 x.2.1
  | _ => none
theorem strings_Join.G_ok : GOk Tryd.prog strings_Join.G := fun I g h => by
  unfold strings_Join.G at h
  split at h
  · obtain rfl := Option.some.inj h; exact fun x r hr => CF_of (strings_Join.pf x.1 x.2.1 r hr)
  · cases h
def stringslite_IndexByte.g (a0 : ByteArray) (a1 : Int) : Option Int := some (Lib.indexByte a0.data.toList a1.toNat.toUInt8)
theorem stringslite_IndexByte.pf (a0 : ByteArray) (a1 : Int) (r : Int) (H : stringslite_IndexByte.g a0 a1 = some r) : PF Tryd.prog 144 [vs a0, .p (.s (.int .u8 a1))] (vi r) := by
  obtain rfl := Option.some.inj H
  exact PF_eq (args := [.string a0, .int .u8 a1]) fun w => Go.Proofs.Tryd.stringslite_IndexByte a0 a1 w
def stringslite_IndexByte.G : Giv := fun I => match I with
  | ⟨144, (.cons (.p .s) (.cons (.p (.i .u8)) .nil)), [], (.p (.i .i64)), [], []⟩ => some fun x => stringslite_IndexByte.g x.1 x.2.1
  | _ => none
theorem stringslite_IndexByte.G_ok : GOk Tryd.prog stringslite_IndexByte.G := fun I g h => by
  unfold stringslite_IndexByte.G at h
  split at h
  · obtain rfl := Option.some.inj h; exact fun x r hr => CF_of (stringslite_IndexByte.pf x.1 x.2.1 r hr)
  · cases h
def giv75.G : Giv := fun I => match I with
  | ⟨75, .cons (.ptr 0 0) .nil, [.cells 119 (.cons (.np 0 0) (.cons (.bf 5 1) .nil)), .tail], .p .s, [.cells 119 (.cons (.np 0 0) (.cons (.p (.sl 1 .u)) .nil)), .tail], []⟩ => some fun x => some (bmk x.2.1.2.1, x.2)
  | _ => none
theorem giv75.G_ok : GOk Tryd.prog giv75.G := fun I g h => by
  unfold giv75.G at h
  split at h
  · obtain rfl := Option.some.inj h
    intro x r hr
    obtain rfl := Option.some.inj hr
    exact PG_String Go.Proofs.Tryd.lays169 Go.Proofs.Tryd.Builder_Extra_169 x.2.1.2.1
  · cases h
set_option maxHeartbeats 1000000 in
set_option maxRecDepth 100000 in
theorem giv98.used (b : Nat) (w : World) (h0 : w.cell? ⟨b, 0, none⟩ = some (.pointer (some ⟨b, 0, none⟩))) :
    Calls Tryd.prog 98 #[.pointer (some ⟨b, 0, none⟩)] w fun e w' => e = .returned (.tuple #[]) ∧ w' = w := by
  obtain ⟨j, hj, _⟩ := Option.map_eq_some_iff.1 (show (Tryd.prog.info? 119).map (·.size) = some 2 by kernel_rfl)
  go_enter Tryd.func98, Tryd.ntmps98
  go_wp2
  rw [Lib.run_neq_ptr_same w _ Tryd.underlying117 hj]
  go_wp2
  go_end0
  exact ⟨rfl, rfl⟩
set_option maxHeartbeats 1000000 in
set_option maxRecDepth 100000 in
theorem giv98.fresh (b : Nat) (w : World) (h0 : w.cell? ⟨b, 0, none⟩ = some (.pointer none)) (hsh : w.shape? b = some (119, 2)) (hfz : w.frozen? ⟨b, 0, none⟩ = false) :
    Calls Tryd.prog 98 #[.pointer (some ⟨b, 0, none⟩)] w fun e w' => e = .returned (.tuple #[]) ∧ w' = w.setCell ⟨b, 0, none⟩ (.pointer (some ⟨b, 0, none⟩)) := by
  obtain ⟨j, hj, hjs⟩ := Option.map_eq_some_iff.1 (show (Tryd.prog.info? 119).map (·.size) = some 2 by kernel_rfl)
  go_enter Tryd.func98, Tryd.ntmps98
  go_wp2
  rw [Lib.run_to_unsafe w ⟨b, 0, none⟩ Tryd.underlying117 Tryd.underlying155 hj (by rw [hjs]; decide) hsh (Nat.zero_lt_succ 1)]
  simp only [Result.andThen]
  rw [Oper.upon_value]
  go_wp2
  rw [run_callFunc_extern Tryd.func120 (by kernel_rfl) (by kernel_rfl) (by kernel_rfl) (e := Extern.AbiNoEscape.same) (by kernel_rfl)]
  rw [Lib.run_noEscape]
  simp only [Result.andThen]
  rw [Oper.upon_value]
  go_wp2
  rw [Lib.run_from_unsafe w ⟨b, 0, none⟩ Tryd.underlying155 Tryd.underlying117 hj hsh (by kernel_rfl)]
  simp only [Result.andThen]
  rw [Oper.upon_value]
  go_wp2
  go_end0
  exact ⟨rfl, rfl⟩
def giv98.G : Giv := fun I => match I with
  | ⟨98, .cons (.ptr 0 0) .nil, [.cells 119 (.cons (.np 0 0) (.cons (.bf 5 1) .nil)), .tail], .tup .nil, [.cells 119 (.cons (.np 0 0) (.cons (.bf 5 1) .nil)), .tail], []⟩ => some fun x => some ((), x.2)
  | _ => none
theorem giv98.G_ok : GOk Tryd.prog giv98.G := fun I g h => by
  unfold giv98.G at h
  split at h
  · obtain rfl := Option.some.inj h
    intro x r hr
    obtain rfl := Option.some.inj hr
    exact PG_copyCheck x.2.1.2.1 giv98.fresh giv98.used
  · cases h
def it133.it : List (Nat × List PV) → Option ItR
  | [(_, [.s (.string d)]), (_, [.s (.string s)]), (_, [.s (.int .i64 z)])] => some ⟨.s, spl d s z, 1, fun x _ => [.s (.string x)]⟩
  | _ => none
set_option maxRecDepth 100000 in
set_option maxHeartbeats 4000000 in
theorem it133.walk (c : UInt8) (s : ByteArray) (hs : s.size ≤ 4611686018427387904) (t0 t1 t2 : Nat) :
    ItC Tryd.prog 133 [(t0, [.s (.string ⟨#[c]⟩)]), (t1, [.s (.string s)]), (t2, [.s (.int .i64 0)])] .s (spc c s.size s) (fun x _ => [.s (.string x)]) := by
  intro w F bq hnd hlen hcells hF n l hn J Z kJ pJ gJ hY W h0 hWb
  obtain ⟨B0, B1, B2, rfl⟩ : ∃ b0 b1 b2, bq = [b0, b1, b2] := by
    match bq, hlen with
    | [a, b, c], _ => exact ⟨a, b, c, rfl⟩
  obtain ⟨cur0, e0, r0⟩ := hcells 0 B0 t0 _ rfl rfl
  obtain ⟨cur1, e1, r1⟩ := hcells 1 B1 t1 _ rfl rfl
  obtain ⟨cur2, e2, r2⟩ := hcells 2 B2 t2 _ rfl rfl
  obtain rfl := rdl_one r0
  obtain rfl := rdl_one r1
  obtain rfl := rdl_one r2
  have n01 : B0 ≠ B1 ∧ B2 ≠ B1 := by simp at hnd; omega
  have hd0 : W.heap[B0]? = _ := (hWb B0 (by simp)).trans e0
  have hd1 : W.heap[B1]? = _ := (hWb B1 (by simp)).trans e1
  have hd2 : W.heap[B2]? = _ := (hWb B2 (by simp)).trans e2
  obtain ⟨N, hN⟩ : ∃ N, N = s.size := ⟨_, rfl⟩
  obtain ⟨xs, hxs⟩ : ∃ xs, xs = spc c s.size s := ⟨_, rfl⟩
  rw [← hxs] at hY ⊢
  show CallsIn Fence.wide (n - 1) Tryd.prog 133 #[.func (.yield l) #[] #[], .pointer (some ⟨B0, 0, none⟩), .pointer (some ⟨B1, 0, none⟩), .pointer (some ⟨B2, 0, none⟩)] W _
  refine callsIn_of_wp Tryd.func133 rfl trivial ?_ rfl
  simp only [Tryd.ntmps133, List.size_toArray, List.length_cons, List.length_nil, Nat.reduceAdd, Nat.reduceSub, Array.replicate_succ, Array.replicate_zero, List.push_toArray, List.append_toArray, List.nil_append, List.cons_append]
  have c0 := box_cell hd0
  have c1 := box_cell hd1
  have c2 := box_cell hd2
  have c3 := box_frozen hd1
  gi_wp2
  clear c0 c1 c2 c3
  gi_loopw [7] (fun p wr => ∃ k t m, J k wr ∧ xs.drop k = spc c m t ∧ t.size ≤ m ∧ t.size ≤ s.size ∧ wr.heap[B0]? = some (.cells #[.string ⟨#[c]⟩] t0 (0, 0)) ∧ wr.heap[B1]? = some (.cells #[.string t] t1 (0, 0)) ∧ wr.heap[B2]? = some (.cells #[.int .i64 0] t2 (0, 0))) (fun p wr => left B1 wr)
  case atStart => exact ⟨0, s, s.size, h0, by rw [hxs]; rfl, Nat.le_refl _, Nat.le_refl _, hd0, hd1, hd2⟩
  case round =>
    obtain ⟨k, t, m, hJ, hdr, htm, hts, hd0, hd1, hd2⟩ := hrel
    have c0 := box_cell hd0
    have c1 := box_cell hd1
    have c2 := box_cell hd2
    have c3 := box_frozen hd1
    have hixlt := idx_lt t.data.toList c
    rw [Array.length_toList] at hixlt
    change Lib.indexByte t.data.toList c < (t.size : Int) at hixlt
    by_cases hneg : Lib.indexByte t.data.toList c < 0
    · have hdr' : xs.drop k = [t] := by
        rw [hdr]
        cases m with
        | zero => rfl
        | succ m => simp only [spc]; rw [if_pos hneg]
      have hk : xs[k]? = some t ∧ xs.length = k + 1 := by
        have h1 := congrArg List.length hdr'
        rw [List.length_drop] at h1
        have h2 : (xs.drop k)[0]? = some t := by rw [hdr']; rfl
        rw [List.getElem?_drop] at h2
        simp at h1
        exact ⟨by simpa using h2, by omega⟩
      obtain ⟨fn, tmps, assign, body, hy, hR⟩ := hY k wr #[.string t] t hk.1 hJ (.cons rfl (.s _) .nil)
      gi_wp2_with (refine ⟨trivial, fun _ => by omega, ?_⟩; gi_at_call 112; refine (callsIn_wide.2 (Go.Proofs.Tryd.strings_Index_one _ _ _)).mono ?_; rintro e w' ⟨rfl, rfl⟩)
      refine ⟨fun _ => by omega, hR.mono ?_⟩
      rintro e W' (⟨rfl, hJ', _⟩ | ⟨rfl, hZ⟩)
      · gi_wp2
        go_end0
        exact ⟨⟨_, rfl⟩, .inl (by rw [hk.2]; exact hJ')⟩
      · gi_wp2
        go_end0
        exact ⟨⟨_, rfl⟩, .inr hZ⟩
    · obtain ⟨i, hm⟩ := Int.eq_ofNat_of_zero_le (Int.not_lt.1 hneg)
      have hlt : i < t.size := by omega
      obtain ⟨m', rfl⟩ : ∃ m', m = m' + 1 := ⟨m - 1, by omega⟩
      have hk : xs[k]? = some (t.extract 0 i) ∧ xs.drop (k + 1) = spc c m' (t.extract (i + 1) t.size) := by
        have hdr' : xs.drop k = t.extract 0 i :: spc c m' (t.extract (i + 1) t.size) := by
          rw [hdr]
          simp only [spc]
          rw [if_neg hneg, hm]
          rfl
        have h2 : (xs.drop k)[0]? = some (t.extract 0 i) := by rw [hdr']; rfl
        rw [List.getElem?_drop] at h2
        refine ⟨by simpa using h2, ?_⟩
        rw [← List.drop_drop, hdr']; rfl
      obtain ⟨hk1, hk2⟩ := hk
      obtain ⟨Rest, hRest⟩ : ∃ R : List ByteArray → Prop, R = fun l => l = spc c m' (t.extract (i + 1) t.size) := ⟨_, rfl⟩
      have hk3 : Rest (xs.drop (k + 1)) := by rw [hRest]; exact hk2
      obtain ⟨fn, tmps, assign, body, hy, hR⟩ := hY k wr #[.string (t.extract 0 i)] _ hk1 hJ (.cons rfl (.s _) .nil)
      clear hk1 hk2 hdr hcells
      have hw0 : wrap64 (i : Int) = i := by unfold wrap64; omega
      have hw1 : wrap64 ((i : Int) + 1) = i + 1 := by unfold wrap64; omega
      obtain ⟨Sm, hSm⟩ : ∃ S : Prop, S = (s.size ≤ 4611686018427387904 ∧ t.size ≤ s.size ∧ t.size ≤ m' + 1) := ⟨_, rfl⟩
      have hSm2 : Sm := by rw [hSm]; exact ⟨hs, hts, htm⟩
      clear hs hts htm hxs hN
      gi_wp2_with (refine ⟨trivial, fun _ => by omega, ?_⟩; gi_at_call 112; refine (callsIn_wide.2 (Go.Proofs.Tryd.strings_Index_one _ _ _)).mono ?_; rintro e w' ⟨rfl, rfl⟩; rw [hm])
      refine ⟨fun _ => by omega, hR.mono ?_⟩
      rintro e W' (⟨rfl, hJ', hkeep⟩ | ⟨rfl, hZ⟩)
      · have g0 := (hkeep B0 (by simp)).trans hd0
        have g1 := (hkeep B1 (by simp)).trans hd1
        have g2 := (hkeep B2 (by simp)).trans hd2
        have d0 := box_cell g0
        have d1 := box_cell g1
        have d2 := box_cell g2
        have d3 := box_frozen g1
        gi_wp2
        rw [hSm] at hSm2
        obtain ⟨hs, hts, htm⟩ := hSm2
        have hlt1 := (Array.getElem?_eq_some_iff.1 g1).1
        refine ⟨⟨k + 1, t.extract (i + 1) t.size, m', ?_, by rw [hRest] at hk3; exact hk3, by rw [ByteArray.size_extract]; omega, by rw [ByteArray.size_extract]; omega, ?_, ?_, ?_⟩, ?_⟩
        · rw [setCell_put g1]; exact pJ _ _ _ _ (by simp) hJ'
        · rw [setCell_put g1]; exact (World.putObj_heap_other n01.1).trans g0
        · rw [setCell_put g1]; exact World.putObj_heap_same hlt1
        · rw [setCell_put g1]; exact (World.putObj_heap_other n01.2).trans g2
        · have e1 : left B1 (W'.setCell ⟨B1, 0, none⟩ (.string (t.extract (i + 1) t.size))) = (t.extract (i + 1) t.size).size := by
            unfold left
            rw [World.cell?_setCell_same' _ _ _ (by rw [d1]; rfl)]
          have e2 : left B1 w' = t.size := by unfold left; rw [c1]
          rw [e1, e2, ByteArray.size_extract]
          omega
      · gi_wp2
        refine bodyPost_ret (results_none rfl _ _ _) rfl ?_
        exact ⟨⟨_, rfl⟩, .inr hZ⟩
theorem it133.it_ok (cs : List (Nat × List PV)) (I : ItR) (h : it133.it cs = some I) : (∀ x n, (I.arg x n).length = I.len) ∧ ∀ xs, I.xs = some xs → ItC Tryd.prog 133 cs I.κ xs I.arg := by
  unfold it133.it at h
  split at h
  · rename_i t0 d t1 s t2 z
    obtain rfl := Option.some.inj h
    refine ⟨fun _ _ => rfl, fun xs hxs => ?_⟩
    change spl d s z = some xs at hxs
    unfold spl at hxs
    split at hxs
    · rename_i hs
      obtain ⟨rfl, hs⟩ := hs
      split at hxs
      · rename_i c hc
        obtain rfl := Option.some.inj hxs
        obtain ⟨⟨l⟩⟩ := d
        have hc' : l = [c] := hc
        subst hc'
        exact it133.walk c s hs _ _ _
      · cases hxs
    · cases hxs
  · cases h
def It : ItF := fun f cs => bif Nat.beq f 133 then it133.it cs else none
theorem It_ok : ItOk Tryd.prog It := fun f cs I h => by
  unfold It at h
  cases hb : Nat.beq f 133 with
  | true => rw [hb] at h; obtain rfl := Nat.eq_of_beq_eq_true hb; exact it133.it_ok cs I h
  | false =>
  rw [hb] at h; simp only [cond_false] at h
  cases h
noncomputable def G : Giv := (orG giv98.G (orG giv75.G (orG strconv_Itoa.G (orG strings_Compare.G (orG strings_Contains.G (orG strings_Count.G (orG strings_Index.G (orG strings_Join.G (orG stringslite_IndexByte.G noG)))))))))
theorem G_ok : GOk Tryd.prog G := (orG_ok giv98.G_ok (orG_ok giv75.G_ok (orG_ok strconv_Itoa.G_ok (orG_ok strings_Compare.G_ok (orG_ok strings_Contains.G_ok (orG_ok strings_Count.G_ok (orG_ok strings_Index.G_ok (orG_ok strings_Join.G_ok (orG_ok stringslite_IndexByte.G_ok noG_ok)))))))))
noncomputable def rn : Rec := lim Tryd.prog T G (instP Tryd.prog T ov) It H
theorem rn_ok (I : Inst) (x : I.tin.den) (r : I.tout.den) (h : rn I x = some r) : CF Tryd.prog I x r := lim_ok T_ok mixed G_ok It_ok I x r h
theorem rn_in {I : Inst} {x : I.tin.den} {b : Option I.tout.den} {r : I.tout.den} (e : stp1 Tryd.prog T G (instP Tryd.prog T ov) It H rn I x = b) (h : b = some r) : rn I x = some r := lim_in e h
theorem rn_g {I : Inst} {x : I.tin.den} {g : I.tin.den → Option I.tout.den} {r : I.tout.den} (hg : G I = some g) (h : g x = some r) : rn I x = some r := lim_in (by unfold stp1; rw [hg]) h
end Go.Proofs.YtmjkflppajienaaDoor.R
