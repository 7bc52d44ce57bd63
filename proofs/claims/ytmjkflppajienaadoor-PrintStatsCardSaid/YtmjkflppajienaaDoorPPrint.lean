/- Operations as texts; no condition but the typed premises. -/
import Derived.Test.YtmjkflppajienaaDoorPLng
import Derived.Test.YtmjkflppajienaaDoorPLin
import Derived.Lib.Join
namespace Go.Proofs.YtmjkflppajienaaDoor.R.Pu
open Go Go.RowKit
set_option linter.unusedVariables false
set_option linter.unusedSimpArgs false

/-! ### ids as digits -/
def dgs : List UInt8 := [48, 49, 50, 51, 52, 53, 54, 55, 56, 57, 97, 98, 99, 100, 101, 102]
def hexB (x : Int) : List UInt8 := [dgs.getD (x / 16).toNat 0, dgs.getD (x % 16).toNat 0]
def hex (v : Vec Int 32) : List UInt8 := (vlist 32 v).flatMap hexB
def Byt (l : List Int) : Prop := ∀ x ∈ l, 0 ≤ x ∧ x < 256
theorem hexB_at : ∀ n : _root_.Fin 256, (shr IntKind.u8 ((n.val : Nat) : Int) 4).bind (fun x5 => bx (⟨⟨dgs⟩⟩ : ByteArray) x5) = some (((dgs.getD (n.val / 16) 0).toNat : Nat) : Int) ∧
    bx (⟨⟨dgs⟩⟩ : ByteArray) (IntKind.u8.wrap (↑(BitVec.ofInt 8 ((n.val : Nat) : Int) &&& BitVec.ofInt 8 15).toNat : Int)) = some (((dgs.getD (n.val % 16) 0).toNat : Nat) : Int) := by decide +kernel
theorem hex_ev (v : Vec Int 32) (hv : Byt (vlist 32 v)) : id_Hex.f v = some (bmk (hex v)) := by
  refine id_Hex.in _ ?_
  rw [show mk0 1 64 () = some (List.replicate 64 ()) from rfl, Option.bind_some]
  have hl : (vlist 32 v).length = 32 := vlist_length 32 v
  refine (wh_list (vlist 32 v) (fun i (s : List UInt8) => ((ib s, v, i, ()), v, (), ())) (fun i s => s.length ≤ 2 * i) (fun l s => bmk (s ++ l.flatMap hexB)) (fun s r hI => ?_) (fun i s r hi hI hr => ?_) [] (by simp)).trans ?_
  · rw [hl]
    show (if decide (((32 : Nat) : Int) < 32) = true then _ else some (bstr (ib s))) = _
    rw [decide_eq_false (by decide), if_neg (by decide), bstr_ib]
    simp
  · have hx := hv _ (List.getElem_mem hi)
    show (if decide ((i : Int) < 32) = true then _ else _) = _
    rw [decide_eq_true (by omega), if_pos rfl]
    have hix : ix (vlist 32 v) (i : Int) = some (vlist 32 v)[i] := ix_ hi
    simp only []
    rw [hix, Option.bind_some]
    generalize (vlist 32 v)[i] = x at *
    obtain ⟨n, rfl⟩ : ∃ n : Nat, x = (n : Int) := ⟨x.toNat, by omega⟩
    obtain ⟨h1, h2⟩ := hexB_at ⟨n, by omega⟩
    simp only at h1 h2
    obtain ⟨y, hy, h1⟩ := bd h1
    rw [hy, Option.bind_some]
    show (bx (⟨⟨dgs⟩⟩ : ByteArray) y).bind _ = _
    rw [h1, Option.bind_some]
    show (bx (⟨⟨dgs⟩⟩ : ByteArray) _).bind _ = _
    rw [h2, Option.bind_some]
    rw [show ([(((dgs.getD (n / 16) 0).toNat : Nat) : Int), (((dgs.getD (n % 16) 0).toNat : Nat) : Int)] : List Int) = ib (hexB (n : Int)) from rfl, app_ (by simp only [ib, List.length_map, hexB, List.length_cons, List.length_nil]; omega), Option.bind_some, ← ib_app, wS (by omega)]
    refine (hr (s ++ hexB (n : Int)) (by rw [List.length_append]; simp only [hexB, List.length_cons, List.length_nil]; omega)).trans ?_
    rw [List.append_assoc, List.flatMap_cons]
  · simp [hex]

/-! ### an operation's text -/
def wds : List (List UInt8) := [[110, 111, 110, 101], [99, 114, 101, 97, 116, 101], [114, 101, 109, 111, 118, 101], [101, 100, 105, 116], [109, 111, 118, 101], [103, 114, 97, 110, 116], [114, 101, 118, 111, 107, 101]]
def wd (k : Int) : List UInt8 := wds.getD k.toNat []
def hparts (o : Op) : List (List UInt8) :=
  bif decide (o.1 = 3) then [wd o.1, Lib.decDigits o.2.2.2.1.toNat, o.2.1.data.toList]
  else bif decide (o.1 = 4) then [wd o.1, o.2.1.data.toList, o.2.2.1.data.toList]
  else bif decide (o.1 = 5) then [wd o.1, Lib.decDigits o.2.2.2.2.2.2.2.1.toNat, hex o.2.2.2.2.2.2.1, o.2.1.data.toList]
  else bif decide (o.1 = 6) then [wd o.1, hex o.2.2.2.2.2.2.1, o.2.1.data.toList]
  else [wd o.1, o.2.1.data.toList]
def lnT (c : UInt8) (s : ByteArray) : List UInt8 := c :: (s.data.toList ++ [10])
def lnsT (c : UInt8) (l : List ByteArray) : List UInt8 := l.flatMap (lnT c)
def opT (o : Op) : List UInt8 := Lib.join (hparts o) [32] ++ [10] ++ lnsT 45 o.2.2.2.2.1 ++ lnsT 43 o.2.2.2.2.2.1
/-- The sizes that are asked of an operation. -/
structure Sz (o : Op) : Prop where
  p : o.2.1.size ≤ 1000000
  t : o.2.2.1.size ≤ 1000000
  a : o.2.2.2.2.1.length ≤ 1000000
  b : o.2.2.2.2.2.1.length ≤ 1000000
  c : ∀ s ∈ o.2.2.2.2.1, s.size ≤ 1000000
  d : ∀ s ∈ o.2.2.2.2.2.1, s.size ≤ 1000000
  k : Byt (vlist 32 o.2.2.2.2.2.2.1)
theorem put_ev (ps : List ByteArray) (acc : List UInt8) (h : (Lib.join (ps.map (·.data.toList)) [32]).length ≤ 10000000) (h2 : ps.length ≤ 1000) (h3 : acc.length ≤ 100000000000000) :
    print_Op_1.f ps ((), acc, ()) = some ((), ((), acc ++ (Lib.join (ps.map (·.data.toList)) [32] ++ [10]), ()), (), ()) := by
  refine print_Op_1.in _ _ ?_
  have e : strings_Join.f ps ⟨⟨[32]⟩⟩ = some (bmk (Lib.join (ps.map (·.data.toList)) [32])) := strings_Join.in _ _ (by
    unfold strings_Join.g
    exact if_pos ⟨Nat.le_trans h (by decide), by omega⟩)
  generalize Lib.join (ps.map (·.data.toList)) [32] = j at *
  have s1 : (⟨⟨[10]⟩⟩ : ByteArray).size = 1 := rfl
  rw [e, Option.bind_some, cat_ (by rw [size_bmk, s1]; omega), Option.bind_some, show bmk j ++ (⟨⟨[10]⟩⟩ : ByteArray) = bmk (j ++ [10]) from bmk_app j [10]]
  have e2 : strings_Builder_WriteString.f (bmk (j ++ [10])) ((), acc, ()) = some ((((bmk (j ++ [10])).size : Int), false, ()), ((), acc ++ (j ++ [10]), ()), (), ()) := by
    refine strings_Builder_WriteString.in _ _ ?_
    have e3 : strings_Builder_copyCheck.f ((), acc, ()) = some ((), ((), acc, ()), (), ()) := strings_Builder_copyCheck.in _ rfl
    rw [e3, Option.bind_some]
    unfold bcat
    rw [if_pos (by rw [size_bmk, List.length_append, List.length_singleton]; simp only; omega), Option.bind_some, list_bmk]
  rw [e2, Option.bind_some]
theorem put1_ev (c : UInt8) (s : ByteArray) (acc : List UInt8) (h : s.size ≤ 1000000) (h3 : acc.length ≤ 100000000000000) :
    ((cat (⟨⟨[c]⟩⟩ : ByteArray) s).bind fun x8 => print_Op_1.f [x8] ((), acc, ())) = some ((), ((), acc ++ lnT c s, ()), (), ()) := by
  have s1 : (⟨⟨[c]⟩⟩ : ByteArray).size = 1 := rfl
  have hl := len_text s
  rw [cat_ (by rw [s1]; omega), Option.bind_some]
  have e : Lib.join ([(⟨⟨[c]⟩⟩ : ByteArray) ++ s].map (·.data.toList)) [32] = c :: s.data.toList := by
    rw [List.map_singleton, app_list]
    simp [Lib.join]
  rw [put_ev _ _ (by rw [e, List.length_cons]; omega) (by simp) h3, e]
  rfl
theorem lnsT_len (c : UInt8) : ∀ l : List ByteArray, (∀ s ∈ l, s.size ≤ 1000000) → (lnsT c l).length ≤ l.length * 1000002
  | [], _ => by simp [lnsT]
  | s :: l, h => by
    have h1 := lnsT_len c l fun x hx => h x (by simp [hx])
    have h2 := h s (by simp)
    have h3 := len_text s
    show (lnT c s ++ lnsT c l).length ≤ _
    rw [List.length_append, List.length_cons]
    simp only [lnT, List.length_cons, List.length_append, List.length_nil]
    omega
theorem join_len (l : List (List UInt8)) (n : Nat) (h : ∀ x ∈ l, x.length ≤ n) : (Lib.join l [32]).length ≤ l.length * (n + 1) := by
  unfold Lib.join
  cases l with
  | nil => simp
  | cons a l =>
    have key : ∀ (l : List (List UInt8)) (a : List UInt8), a.length ≤ n → (∀ x ∈ l, x.length ≤ n) → ([32].intercalate (a :: l)).length ≤ (l.length + 1) * (n + 1) := by
      intro l
      induction l with
      | nil => intro a ha _; simp [List.intercalate]; omega
      | cons b l ih =>
        intro a ha hl
        have := ih b (hl b (by simp)) fun x hx => hl x (by simp [hx])
        have e : [32].intercalate (a :: b :: l) = a ++ ([32] ++ [32].intercalate (b :: l)) := by simp [List.intercalate]
        rw [e, List.length_append, List.length_append, List.length_singleton, List.length_cons]
        rw [Nat.add_mul (l.length + 1) 1 (n + 1)]
        omega
    exact key l a (h a (by simp)) fun x hx => h x (by simp [hx])
theorem hex_len (v : Vec Int 32) : (hex v).length = 64 := by
  have key : ∀ l : List Int, (l.flatMap hexB).length = 2 * l.length := by
    intro l
    induction l with
    | nil => rfl
    | cons a l ih => rw [List.flatMap_cons, List.length_append, ih]; simp only [hexB, List.length_cons, List.length_nil]; omega
  rw [show (hex v).length = 2 * (vlist 32 v).length from key _, vlist_length]
theorem wrg_ok {o : Op} (h : wrg o = 0) : (1 ≤ o.1 ∧ o.1 ≤ 6) ∧ (0 ≤ o.2.2.2.2.2.2.2.1 ∧ o.2.2.2.2.2.2.2.1 ≤ 8) ∧ fm o = true := by
  unfold wrg at h
  cases h1 : decide (o.1 < 1) || decide (o.1 > 6) with
  | true => rw [h1] at h; cases h
  | false =>
    rw [h1] at h
    cases h2 : fm o with
    | false => rw [h2] at h; cases h
    | true =>
      rw [h2] at h
      cases h3 : decide (o.2.2.2.2.2.2.2.1 < 0) || decide (o.2.2.2.2.2.2.2.1 > 8) with
      | true => rw [h3] at h; cases h
      | false =>
        simp only [Bool.or_eq_false_iff, decide_eq_false_iff_not] at h1 h3
        exact ⟨by omega, by omega, rfl⟩
theorem fm_at {o : Op} (h : fm o = true) (h3 : o.1 = 3) : 0 ≤ o.2.2.2.1 ∧ o.2.2.2.1 ≤ 1000 := by
  unfold fm at h
  rw [decide_eq_false (show ¬ o.1 = 1 by omega), decide_eq_false (show ¬ o.1 = 2 by omega), decide_eq_true h3] at h
  simp only [cond_true, cond_false, Bool.and_eq_true, hright, hk, decide_eq_true_eq] at h
  exact ⟨of_decide_eq_true h.1.2.1.1.1.1, of_decide_eq_true h.1.2.1.1.1.2⟩
theorem hparts_len {o : Op} (hz : Sz o) (h : wrg o = 0) : (hparts o).length ≤ 4 ∧ ∀ x ∈ hparts o, x.length ≤ 1000010 := by
  obtain ⟨h1, h2, h3⟩ := wrg_ok h
  have w : (wd o.1).length ≤ 6 := by
    unfold wd
    obtain ⟨n, hn⟩ : ∃ n : Nat, o.1 = (n : Int) := ⟨o.1.toNat, by omega⟩
    rw [hn, Int.toNat_natCast]
    rcases (by omega : n = 1 ∨ n = 2 ∨ n = 3 ∨ n = 4 ∨ n = 5 ∨ n = 6) with rfl | rfl | rfl | rfl | rfl | rfl <;> decide
  have p := hz.p
  have t := hz.t
  have lp := len_text o.2.1
  have lt := len_text o.2.2.1
  have hx := hex_len o.2.2.2.2.2.2.1
  have dd := dd_len o.2.2.2.2.2.2.2.1.toNat
  have da : o.1 = 3 → (Lib.decDigits o.2.2.2.1.toNat).length ≤ 1001 := fun k3 => by
    have := fm_at h3 k3
    have := dd_len o.2.2.2.1.toNat
    omega
  unfold hparts
  cases k3 : decide (o.1 = 3) with
  | true =>
    have := da (of_decide_eq_true k3)
    refine ⟨by simp, fun x hx => ?_⟩
    simp only [cond_true, List.mem_cons, List.not_mem_nil, or_false] at hx
    rcases hx with rfl | rfl | rfl <;> omega
  | false =>
  cases k4 : decide (o.1 = 4) with
  | true =>
    refine ⟨by simp, fun x hx => ?_⟩
    simp only [cond_true, cond_false, List.mem_cons, List.not_mem_nil, or_false] at hx
    rcases hx with rfl | rfl | rfl <;> omega
  | false =>
  cases k5 : decide (o.1 = 5) with
  | true =>
    refine ⟨by simp, fun x hx => ?_⟩
    simp only [cond_true, cond_false, List.mem_cons, List.not_mem_nil, or_false] at hx
    rcases hx with rfl | rfl | rfl | rfl <;> omega
  | false =>
  cases k6 : decide (o.1 = 6) with
  | true =>
    refine ⟨by simp, fun x hx => ?_⟩
    simp only [cond_true, cond_false, List.mem_cons, List.not_mem_nil, or_false] at hx
    rcases hx with rfl | rfl | rfl <;> omega
  | false =>
    refine ⟨by simp, fun x hx => ?_⟩
    simp only [cond_false, List.mem_cons, List.not_mem_nil, or_false] at hx
    rcases hx with rfl | rfl <;> omega
theorem opT_len {o : Op} (hz : Sz o) (h : wrg o = 0) : (opT o).length ≤ 3000000000000 := by
  obtain ⟨l1, l2⟩ := hparts_len hz h
  have h1 := join_len _ _ l2
  have h2 := lnsT_len 45 _ hz.c
  have h3 := lnsT_len 43 _ hz.d
  have h4 := hz.a
  have h5 := hz.b
  have h6 : (hparts o).length * (1000010 + 1) ≤ 4 * 1000011 := Nat.mul_le_mul_right _ l1
  have h7 : o.2.2.2.2.1.length * 1000002 ≤ 1000000 * 1000002 := Nat.mul_le_mul_right _ h4
  have h8 : o.2.2.2.2.2.1.length * 1000002 ≤ 1000000 * 1000002 := Nat.mul_le_mul_right _ h5
  unfold opT
  simp only [List.length_append, List.length_singleton]
  omega
theorem op_print (o : Op) (hz : Sz o) : print_Op.f o = some (bif decide (wrg o = 0) then (bmk (opT o), 0, ()) else (⟨⟨[]⟩⟩, wrg o, ())) := by
  refine print_Op.in _ ?_
  rw [oright_ev o hz.a hz.b, Option.bind_some]
  by_cases h0 : wrg o = 0
  case neg => rw [decide_eq_false h0, if_pos (by decide)]; rfl
  rw [decide_eq_true h0, if_neg (by decide), cond_true]
  obtain ⟨h1, h2, h3⟩ := wrg_ok h0
  obtain ⟨l1, l2⟩ := hparts_len hz h0
  have hj := join_len _ _ l2
  have hj2 : (hparts o).length * (1000010 + 1) ≤ 4 * 1000011 := Nat.mul_le_mul_right _ l1
  have hwd : print_words.f = some (bmk [110, 111, 110, 101], bmk [99, 114, 101, 97, 116, 101], bmk [114, 101, 109, 111, 118, 101], bmk [101, 100, 105, 116], bmk [109, 111, 118, 101], bmk [103, 114, 97, 110, 116], bmk [114, 101, 118, 111, 107, 101], ()) := print_words.in rfl
  rw [hwd, Option.bind_some]
  have hix : ix (vlist 7 ((bmk [110, 111, 110, 101], bmk [99, 114, 101, 97, 116, 101], bmk [114, 101, 109, 111, 118, 101], bmk [101, 100, 105, 116], bmk [109, 111, 118, 101], bmk [103, 114, 97, 110, 116], bmk [114, 101, 118, 111, 107, 101], ()) : Vec ByteArray 7)) o.1 = some (bmk (wd o.1)) := by
    unfold wd
    obtain ⟨n, hn⟩ : ∃ n : Nat, o.1 = (n : Int) := ⟨o.1.toNat, by omega⟩
    rw [hn, Int.toNat_natCast]
    rcases (by omega : n = 1 ∨ n = 2 ∨ n = 3 ∨ n = 4 ∨ n = 5 ∨ n = 6) with rfl | rfl | rfl | rfl | rfl | rfl <;> rfl
  rw [hix, Option.bind_some]
  simp only [jn_eq]
  have fin : ∀ acc : List UInt8, acc.length ≤ 10000000 → (wh (fun r6 (v7 : ((Unit × Unit × (Unit × Unit) × List ByteArray × Int × Int × Unit) × Op × Unit × (Unit × List UInt8 × Unit) × Unit)) => if decide (v7.1.2.2.2.2.2.1 < v7.1.2.2.2.2.1) then ((ix v7.1.2.2.2.1 v7.1.2.2.2.2.2.1).bind fun x8 => (cat { data := { toList := [45] } } x8).bind fun x9 => (print_Op_1.f ([x9]) ((), v7.2.2.2.1.2)).bind fun x10 => r6 (((), (), ((), ()), v7.1.2.2.2.1, v7.1.2.2.2.2.1, w64 (v7.1.2.2.2.2.2.1 + 1), ()), v7.2.1, (), ((), x10.2.1.2), ())) else wh (fun r11 (v12 : ((Unit × (Unit × Unit) × List ByteArray × Int × Int × Unit) × Op × Unit × (Unit × List UInt8 × Unit) × Unit)) => if decide (v12.1.2.2.2.2.1 < v12.1.2.2.2.1) then ((ix v12.1.2.2.1 v12.1.2.2.2.2.1).bind fun x13 => (cat { data := { toList := [43] } } x13).bind fun x14 => (print_Op_1.f ([x14]) ((), v12.2.2.2.1.2)).bind fun x15 => r11 (((), ((), ()), v12.1.2.2.1, v12.1.2.2.2.1, w64 (v12.1.2.2.2.2.1 + 1), ()), v12.2.1, (), ((), x15.2.1.2), ())) else (strings_Builder_String.f ((), v12.2.2.2.1.2)).bind fun x16 => some (x16.1, (0 : Int), ())) (((), ((), ()), v7.2.1.2.2.2.2.2.1, (↑v7.2.1.2.2.2.2.2.1.length : Int), 0, ()), v7.2.1, (), ((), v7.2.2.2.1.2), ())) (((), (), ((), ()), o.2.2.2.2.1, (↑o.2.2.2.2.1.length : Int), 0, ()), o, (), ((), acc, ()), ())) = some (bmk (acc ++ lnsT 45 o.2.2.2.2.1 ++ lnsT 43 o.2.2.2.2.2.1), 0, ()) := by
    intro acc hacc
    have a1 := hz.a
    have a2 := hz.b
    refine (wh_list o.2.2.2.2.1 (fun i (s : List UInt8) => (((), (), ((), ()), o.2.2.2.2.1, (↑o.2.2.2.2.1.length : Int), i, ()), o, (), ((), s, ()), ())) (fun i s => s.length ≤ 10000000 + i * 1000002) (fun l s => (bmk (s ++ lnsT 45 l ++ lnsT 43 o.2.2.2.2.2.1), (0 : Int), ())) (fun s r hI => ?_) (fun i s r hi hI hr => ?_) acc (by simpa using hacc)).trans rfl
    · have hI2 : s.length ≤ 10000000 + 1000000 * 1000002 := Nat.le_trans hI (Nat.add_le_add_left (Nat.mul_le_mul_right _ a1) _)
      simp (disch := omega) only [decide_eq_true_eq, if_neg]
      refine (wh_list o.2.2.2.2.2.1 (fun i (s : List UInt8) => (((), ((), ()), o.2.2.2.2.2.1, (↑o.2.2.2.2.2.1.length : Int), i, ()), o, (), ((), s, ()), ())) (fun i s => s.length ≤ 10000000 + 1000000 * 1000002 + i * 1000002) (fun l s => (bmk (s ++ lnsT 43 l), (0 : Int), ())) (fun s r hI => ?_) (fun i s r hi hI hr => ?_) s (by simpa using hI2)).trans ?_
      · simp (disch := omega) only [decide_eq_true_eq, if_neg]
        rw [strings_Builder_String.in _ (r := (bmk s, ((), s, ()), (), ())) rfl, Option.bind_some]
        rw [show lnsT 43 [] = [] from rfl, List.append_nil]
      · have hI3 : s.length ≤ 10000000 + 1000000 * 1000002 + 1000000 * 1000002 := Nat.le_trans hI (Nat.add_le_add_left (Nat.mul_le_mul_right _ (by omega)) _)
        have hsz := hz.d _ (List.getElem_mem hi)
        have hp := put1_ev 43 o.2.2.2.2.2.1[i] s hsz (by omega)
        obtain ⟨x14, c1, c2⟩ := bd hp
        simp (disch := omega) only [decide_eq_true_eq, if_pos, ix_, Option.bind_some, wS]
        rw [c1, Option.bind_some, c2, Option.bind_some]
        have hlt := len_text o.2.2.2.2.2.1[i]
        refine (hr _ (by rw [List.length_append]; simp only [lnT, List.length_cons, List.length_append, List.length_nil]; omega)).trans ?_
        rw [List.append_assoc]; rfl
      · rw [show lnsT 45 [] = [] from rfl, List.append_nil]
    · have hI3 : s.length ≤ 10000000 + 1000000 * 1000002 := Nat.le_trans hI (Nat.add_le_add_left (Nat.mul_le_mul_right _ (by omega)) _)
      have hsz := hz.c _ (List.getElem_mem hi)
      have hp := put1_ev 45 o.2.2.2.2.1[i] s hsz (by omega)
      obtain ⟨x14, c1, c2⟩ := bd hp
      simp (disch := omega) only [decide_eq_true_eq, if_pos, ix_, Option.bind_some, wS]
      rw [c1, Option.bind_some, c2, Option.bind_some]
      have hlt := len_text o.2.2.2.2.1[i]
      refine (hr _ (by rw [List.length_append]; simp only [lnT, List.length_cons, List.length_append, List.length_nil]; omega)).trans ?_
      rw [List.append_assoc s]; rfl
  have go : ∀ ps : List ByteArray, ps.map (·.data.toList) = hparts o → print_Op_1.f ps ((), [], ()) = some ((), ((), Lib.join (hparts o) [32] ++ [10], ()), (), ()) := fun ps hps => by
    have hlen : ps.length = (hparts o).length := by rw [← hps, List.length_map]
    rw [put_ev ps [] (by rw [hps]; omega) (by omega) (by simp), hps, List.nil_append]
  have hacc : (Lib.join (hparts o) [32] ++ [10]).length ≤ 10000000 := by rw [List.length_append, List.length_singleton]; omega
  have F := fin _ hacc
  by_cases k3 : o.1 = 3
  · have ha := fm_at h3 k3
    obtain ⟨n, hn⟩ : ∃ n : Nat, o.2.2.2.1 = (n : Int) := ⟨o.2.2.2.1.toNat, by omega⟩
    have hp : hparts o = [wd o.1, Lib.decDigits o.2.2.2.1.toNat, o.2.1.data.toList] := by unfold hparts; rw [decide_eq_true k3]; rfl
    rw [decide_eq_true k3, if_pos rfl]
    have hit : strconv_Itoa.f o.2.2.2.1 = some (bmk (Lib.decDigits o.2.2.2.1.toNat)) := by rw [hn, Int.toNat_natCast]; exact itoa_ev n (by omega)
    rw [hit, Option.bind_some, go _ (by rw [hp]; simp [list_bmk]), Option.bind_some]
    exact F
  rw [decide_eq_false k3, if_neg (by decide)]
  by_cases k4 : o.1 = 4
  · have hp : hparts o = [wd o.1, o.2.1.data.toList, o.2.2.1.data.toList] := by unfold hparts; rw [decide_eq_false k3, decide_eq_true k4]; rfl
    rw [decide_eq_true k4, if_pos rfl, go _ (by rw [hp]; simp [list_bmk]), Option.bind_some]
    exact F
  rw [decide_eq_false k4, if_neg (by decide)]
  by_cases k5 : o.1 = 5
  · obtain ⟨n, hn⟩ : ∃ n : Nat, o.2.2.2.2.2.2.2.1 = (n : Int) := ⟨o.2.2.2.2.2.2.2.1.toNat, by omega⟩
    have hp : hparts o = [wd o.1, Lib.decDigits o.2.2.2.2.2.2.2.1.toNat, hex o.2.2.2.2.2.2.1, o.2.1.data.toList] := by unfold hparts; rw [decide_eq_false k3, decide_eq_false k4, decide_eq_true k5]; rfl
    have hit : strconv_Itoa.f o.2.2.2.2.2.2.2.1 = some (bmk (Lib.decDigits o.2.2.2.2.2.2.2.1.toNat)) := by rw [hn, Int.toNat_natCast]; exact itoa_ev n (by omega)
    rw [decide_eq_true k5, if_pos rfl, hit, Option.bind_some, hex_ev _ hz.k, Option.bind_some, go _ (by rw [hp]; simp [list_bmk]), Option.bind_some]
    exact F
  rw [decide_eq_false k5, if_neg (by decide)]
  by_cases k6 : o.1 = 6
  · have hp : hparts o = [wd o.1, hex o.2.2.2.2.2.2.1, o.2.1.data.toList] := by unfold hparts; rw [decide_eq_false k3, decide_eq_false k4, decide_eq_false k5, decide_eq_true k6]; rfl
    rw [decide_eq_true k6, if_pos rfl, hex_ev _ hz.k, Option.bind_some, go _ (by rw [hp]; simp [list_bmk]), Option.bind_some]
    exact F
  rw [decide_eq_false k6, if_neg (by decide)]
  have hp : hparts o = [wd o.1, o.2.1.data.toList] := by unfold hparts; rw [decide_eq_false k3, decide_eq_false k4, decide_eq_false k5, decide_eq_false k6]; rfl
  rw [go _ (by rw [hp]; simp [list_bmk]), Option.bind_some]
  exact F
end Go.Proofs.YtmjkflppajienaaDoor.R.Pu
