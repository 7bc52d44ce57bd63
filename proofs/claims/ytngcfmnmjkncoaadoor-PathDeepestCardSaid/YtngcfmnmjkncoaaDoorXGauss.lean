/- This session's words: Gaussian residues modulo the prime 65519: products, powers, Fermat's little theorem, inverses; plain arithmetic, no condition. -/
import Derived.RowKit
namespace Go.Proofs.YtngcfmnmjkncoaaDoorW.XG

/-- a residue -/
def In (p : Int × Int) : Prop := 0 ≤ p.1 ∧ p.1 < 65519 ∧ 0 ≤ p.2 ∧ p.2 < 65519
def mulP (p q : Int × Int) : Int × Int := ((p.1 * q.1 - p.2 * q.2) % 65519, (p.1 * q.2 + p.2 * q.1) % 65519)
def powP (x : Int × Int) : Nat → Int × Int
  | 0 => (1, 0)
  | n + 1 => mulP (powP x n) x

theorem mulP_in (p q : Int × Int) : In (mulP p q) := by
  unfold In mulP
  refine ⟨?_, ?_, ?_, ?_⟩ <;> simp only <;> omega
theorem powP_in (x : Int × Int) (n : Nat) : In (powP x n) := by
  cases n with
  | zero => exact (⟨by decide, by decide, by decide, by decide⟩ : In (1, 0))
  | succ n => exact mulP_in _ _
theorem mulP_comm (p q : Int × Int) : mulP p q = mulP q p := by
  unfold mulP
  rw [Int.mul_comm p.1 q.1, Int.mul_comm p.2 q.2, Int.add_comm (p.1 * q.2), Int.mul_comm p.2 q.1, Int.mul_comm p.1 q.2]
theorem mod_congr {a b k : Int} (h : a = b + 65519 * k) : a % 65519 = b % 65519 := by omega
theorem mod_split (x : Int) : ∃ k, x % 65519 = x - 65519 * k := ⟨x / 65519, by omega⟩
theorem mulP_assoc (p q r : Int × Int) : mulP (mulP p q) r = mulP p (mulP q r) := by
  unfold mulP
  simp only
  obtain ⟨k1, h1⟩ := mod_split (p.1 * q.1 - p.2 * q.2)
  obtain ⟨k2, h2⟩ := mod_split (p.1 * q.2 + p.2 * q.1)
  obtain ⟨k3, h3⟩ := mod_split (q.1 * r.1 - q.2 * r.2)
  obtain ⟨k4, h4⟩ := mod_split (q.1 * r.2 + q.2 * r.1)
  rw [h1, h2, h3, h4]
  congr 1
  · refine mod_congr (k := p.1 * k3 - p.2 * k4 - k1 * r.1 + k2 * r.2) ?_
    grind
  · refine mod_congr (k := p.1 * k4 + p.2 * k3 - k1 * r.2 - k2 * r.1) ?_
    grind
theorem mulP_one {p : Int × Int} (h : In p) : mulP p (1, 0) = p := by
  obtain ⟨a, b, c, d⟩ := h
  unfold mulP
  apply Prod.ext <;> simp only <;> omega
theorem one_mulP {p : Int × Int} (h : In p) : mulP (1, 0) p = p := by rw [mulP_comm, mulP_one h]
theorem powP_one {p : Int × Int} (h : In p) : powP p 1 = p := one_mulP h
theorem powP_add (x : Int × Int) (m n : Nat) : powP x (m + n) = mulP (powP x m) (powP x n) := by
  induction n with
  | zero => exact (mulP_one (powP_in _ _)).symm
  | succ n ih => rw [← Nat.add_assoc]; show mulP (powP x (m + n)) x = _; rw [ih, mulP_assoc]; rfl
theorem powP_sq (x : Int × Int) (n : Nat) : powP (mulP x x) n = powP x (2 * n) := by
  induction n with
  | zero => rfl
  | succ n ih =>
    show mulP (powP (mulP x x) n) (mulP x x) = powP x (2 * n + 1 + 1)
    rw [ih, ← mulP_assoc]; rfl
theorem mulP_of_mod (p q : Int × Int) : mulP (p.1 % 65519, p.2 % 65519) q = mulP p q := by
  unfold mulP
  simp only
  obtain ⟨k1, h1⟩ := mod_split p.1
  obtain ⟨k2, h2⟩ := mod_split p.2
  rw [h1, h2]
  congr 1
  · exact mod_congr (k := k2 * q.2 - k1 * q.1) (by grind)
  · exact mod_congr (k := - (k1 * q.2) - k2 * q.1) (by grind)

/-! ### the prime -/
theorem small_div : ∀ d : Nat, d < 256 → 2 ≤ d → 65519 % d ≠ 0 := by decide +kernel
theorem prime_ (d : Nat) (h : d ∣ 65519) : d = 1 ∨ d = 65519 := by
  obtain ⟨e, he⟩ := h
  have hd0 : d ≠ 0 := by rintro rfl; omega
  have he0 : e ≠ 0 := by rintro rfl; omega
  by_cases h1 : d = 1
  · exact .inl h1
  by_cases h2 : e = 1
  · subst h2; exact .inr (by omega)
  exfalso
  by_cases h3 : d < 256
  · exact small_div d h3 (by omega) (by rw [he]; exact Nat.mul_mod_right _ _)
  · have h4 : e < 256 := by
      refine Nat.lt_of_not_le fun h => ?_
      have := Nat.mul_le_mul (Nat.le_of_not_lt h3) h
      omega
    exact small_div e h4 (by omega) (by rw [he]; exact Nat.mul_mod_left _ _)
theorem coprime_ {a : Nat} (h0 : 0 < a) (h1 : a < 65519) : Nat.Coprime 65519 a := by
  rcases prime_ _ (Nat.gcd_dvd_left 65519 a) with h | h
  · exact h
  · have := Nat.le_of_dvd h0 (h ▸ Nat.gcd_dvd_right 65519 a)
    omega
theorem cancel_ {a x y : Nat} (h0 : 0 < a) (h1 : a < 65519) (h : a * x % 65519 = a * y % 65519) : x % 65519 = y % 65519 := by
  have key : ∀ x y : Nat, x ≤ y → a * x % 65519 = a * y % 65519 → x % 65519 = y % 65519 := by
    intro x y hle h
    have hd : 65519 ∣ a * (y - x) := by
      rw [Nat.mul_sub]
      exact Nat.dvd_of_mod_eq_zero (Nat.sub_mod_eq_zero_of_mod_eq h.symm)
    have := (coprime_ h0 h1).dvd_of_dvd_mul_left hd
    omega
  rcases Nat.le_total x y with hle | hle
  · exact key x y hle h
  · exact (key y x hle h.symm).symm

/-! ### Fermat's little theorem: the multiples of a are all residues but 0 -/
def fact : List Nat → Nat
  | [] => 1
  | x :: l => x * fact l
theorem fact_perm {l m : List Nat} (h : l.Perm m) : fact l = fact m := by
  induction h with
  | nil => rfl
  | cons x _ ih => simp only [fact, ih]
  | swap x y l => simp only [fact]; rw [Nat.mul_left_comm]
  | trans _ _ i1 i2 => exact i1.trans i2
theorem fact_mod (a : Nat) (l : List Nat) : fact (l.map fun x => a * x % 65519) % 65519 = a ^ l.length * fact l % 65519 := by
  induction l with
  | nil => rfl
  | cons x l ih =>
    simp only [List.map_cons, fact, List.length_cons]
    rw [Nat.mul_mod, ih, Nat.mod_mod, ← Nat.mul_mod]
    congr 1
    rw [Nat.pow_succ]
    grind
theorem perm_of_sub : ∀ (l m : List Nat), l.Nodup → (∀ x ∈ l, x ∈ m) → m.length ≤ l.length → l.Perm m := by
  intro l
  induction l with
  | nil => intro m _ _ h; cases m with
    | nil => exact List.Perm.nil
    | cons => simp at h
  | cons x l ih =>
    intro m hn hs hl
    obtain ⟨hx, hn⟩ := List.nodup_cons.1 hn
    have hxm := hs x (by simp)
    have hp := List.perm_cons_erase hxm
    refine (List.Perm.cons x (ih (m.erase x) hn ?_ ?_)).trans hp.symm
    · intro y hy
      have hne : y ≠ x := by rintro rfl; exact hx hy
      exact (List.mem_erase_of_ne hne).2 (hs y (by simp [hy]))
    · rw [List.length_erase_of_mem hxm]; simp only [List.length_cons] at hl; omega
theorem nodup_map (f : Nat → Nat) : ∀ (l : List Nat), l.Nodup → (∀ x ∈ l, ∀ y ∈ l, f x = f y → x = y) → (l.map f).Nodup := by
  intro l
  induction l with
  | nil => intro _ _; exact List.nodup_nil
  | cons x l ih =>
    intro hn hf
    obtain ⟨hx, hn⟩ := List.nodup_cons.1 hn
    rw [List.map_cons, List.nodup_cons]
    refine ⟨fun h => ?_, ih hn fun a ha b hb => hf a (by simp [ha]) b (by simp [hb])⟩
    obtain ⟨y, hy, he⟩ := List.mem_map.1 h
    have := hf y (by simp [hy]) x (by simp) he
    exact hx (this ▸ hy)
/-- 1 to 65518 -/
def units : List Nat := (List.range 65518).map (· + 1)
theorem units_mem (x : Nat) : x ∈ units ↔ 0 < x ∧ x < 65519 := by
  unfold units
  constructor
  · intro h
    obtain ⟨y, hy, rfl⟩ := List.mem_map.1 h
    have := List.mem_range.1 hy
    omega
  · intro h
    exact List.mem_map.2 ⟨x - 1, List.mem_range.2 (by omega), by omega⟩
theorem units_nodup : units.Nodup := nodup_map _ _ List.nodup_range (fun x _ y _ h => by simpa using h)
theorem units_length : units.length = 65518 := by unfold units; rw [List.length_map, List.length_range]
theorem fact_coprime : ∀ (l : List Nat), (∀ x ∈ l, 0 < x ∧ x < 65519) → ∀ y z, fact l * y % 65519 = fact l * z % 65519 → y % 65519 = z % 65519 := by
  intro l
  induction l with
  | nil => intro _ y z h; simpa [fact] using h
  | cons x l ih =>
    intro hl y z h
    obtain ⟨h0, h1⟩ := hl x (by simp)
    simp only [fact, Nat.mul_assoc] at h
    exact ih (fun w hw => hl w (by simp [hw])) y z (cancel_ h0 h1 h)
theorem fermat (a : Nat) (h0 : 0 < a) (h1 : a < 65519) (e : Nat) (he : units.length = e) : a ^ e % 65519 = 1 := by
  have hp : (units.map fun x => a * x % 65519).Perm units := by
    refine perm_of_sub _ _ (nodup_map _ _ units_nodup ?_) ?_ (by rw [List.length_map]; exact Nat.le_refl _)
    · intro x hx y hy h
      have hx := (units_mem x).1 hx
      have hy := (units_mem y).1 hy
      have := cancel_ h0 h1 h
      rwa [Nat.mod_eq_of_lt hx.2, Nat.mod_eq_of_lt hy.2] at this
    · intro z hz
      obtain ⟨x, hx, rfl⟩ := List.mem_map.1 hz
      have hx := (units_mem x).1 hx
      refine (units_mem _).2 ⟨Nat.pos_of_ne_zero fun h => ?_, Nat.mod_lt _ (by decide)⟩
      have := cancel_ (x := x) (y := 0) h0 h1 (by rw [Nat.mul_zero]; exact h)
      rw [Nat.mod_eq_of_lt hx.2] at this
      omega
  have h := fact_mod a units
  rw [fact_perm hp, he, Nat.mul_comm] at h
  have := fact_coprime units (fun x hx => (units_mem x).1 hx) 1 (a ^ e) (by rw [Nat.mul_one]; exact h)
  exact this.symm

/-! ### norms and inverses -/
def norm (p : Int × Int) : Int := (p.1 * p.1 + p.2 * p.2) % 65519
theorem pow_mod (a n : Nat) : (a % 65519) ^ n % 65519 = a ^ n % 65519 := (Nat.pow_mod a n 65519).symm
theorem norm_ne {p : Int × Int} (h : In p) (hne : p ≠ (0, 0)) : norm p ≠ 0 := by
  obtain ⟨x, y⟩ := p
  obtain ⟨h1, h2, h3, h4⟩ := h
  simp only at h1 h2 h3 h4
  obtain ⟨a, rfl⟩ := Int.eq_ofNat_of_zero_le h1
  obtain ⟨b, rfl⟩ := Int.eq_ofNat_of_zero_le h3
  unfold norm
  simp only
  intro hz
  have hz' : (a * a + b * b) % 65519 = 0 := by
    have : ((a : Int) * a + b * b) = ((a * a + b * b : Nat) : Int) := by simp
    rw [this] at hz
    omega
  by_cases ha : a = 0
  · subst ha
    have hb : 0 < b := Nat.pos_of_ne_zero fun hb => hne (by subst hb; rfl)
    have := cancel_ (a := b) (x := b) (y := 0) hb (by omega) (by simpa using hz')
    rw [Nat.mod_eq_of_lt (by omega)] at this
    omega
  by_cases hb : b = 0
  · subst hb
    have := cancel_ (a := a) (x := a) (y := 0) (by omega) (by omega) (by simpa using hz')
    rw [Nat.mod_eq_of_lt (by omega)] at this
    omega
  -- a^2 = -b^2; both to the power 32759: 1 = -1
  obtain ⟨n0, hn0⟩ : ∃ n : Nat, n = 16379 := ⟨_, rfl⟩
  have he : units.length = 2 * (2 * n0 + 1) := by rw [units_length, hn0]
  have fa := fermat a (by omega) (by omega) _ he
  have fb := fermat b (by omega) (by omega) _ he
  rw [Nat.pow_mul, Nat.pow_two] at fa fb
  clear he hn0
  have key : ∀ (u v : Nat), (u + v) % 65519 = 0 → ∀ n, (u ^ (2 * n + 1) + v ^ (2 * n + 1)) % 65519 = 0 ∧ u ^ (2 * n) % 65519 = v ^ (2 * n) % 65519 := by
    intro u v huv n
    have hu : ∃ k : Int, (u : Int) = -(v : Int) + 65519 * k := ⟨((u + v : Nat) : Int) / 65519, by omega⟩
    obtain ⟨k, hk⟩ := hu
    have hq : u * u % 65519 = v * v % 65519 := by
      have : ((u * u : Nat) : Int) % 65519 = ((v * v : Nat) : Int) % 65519 := by
        refine mod_congr (k := -2 * v * k + 65519 * k * k) ?_
        rw [Int.natCast_mul, Int.natCast_mul, hk]
        grind
      clear hk huv
      generalize u * u = A at this ⊢
      generalize v * v = B at this ⊢
      omega
    have s2 : u ^ (2 * n) % 65519 = v ^ (2 * n) % 65519 := by
      rw [Nat.pow_mul, Nat.pow_mul, Nat.pow_two, Nat.pow_two, ← pow_mod (u * u), hq, pow_mod]
    refine ⟨?_, s2⟩
    rw [Nat.pow_succ, Nat.pow_succ, Nat.add_mod, Nat.mul_mod, s2, ← Nat.mul_mod, ← Nat.add_mod, ← Nat.mul_add, Nat.mul_mod, huv]
    simp
  have := (key (a * a) (b * b) hz' n0).1
  rw [Nat.add_mod, fa, fb] at this
  omega

theorem powP_real (a : Nat) (ha : a < 65519) (n : Nat) : powP ((a : Int), 0) n = (((a ^ n % 65519 : Nat) : Int), 0) := by
  induction n with
  | zero => rfl
  | succ n ih =>
    show mulP (powP ((a : Int), 0) n) ((a : Int), 0) = _
    rw [ih]
    unfold mulP
    apply Prod.ext
    · simp only [Int.zero_mul, Int.sub_zero]
      rw [Nat.pow_succ, Nat.mul_mod, Nat.mod_eq_of_lt ha]
      have : ((a ^ n % 65519 : Nat) : Int) * (a : Int) = ((a ^ n % 65519 * a : Nat) : Int) := by simp
      rw [this]
      omega
    · simp
/-- the second part turned -/
def conj (p : Int × Int) : Int × Int := (p.1, (-p.2) % 65519)
theorem conj_in {p : Int × Int} (h : In p) : In (conj p) := by
  obtain ⟨a, b, c, d⟩ := h
  unfold In conj
  simp only
  omega
theorem mul_conj (p : Int × Int) : mulP p (conj p) = (norm p, 0) := by
  unfold mulP conj norm
  simp only
  obtain ⟨k, hk⟩ := mod_split (-p.2)
  rw [hk]
  congr 1
  · exact mod_congr (k := p.2 * k) (by grind)
  · have : p.1 * (-p.2 - 65519 * k) + p.2 * p.1 = 65519 * (-(p.1 * k)) := by grind
    rw [this]
    exact Int.mul_emod_right _ _
def pm2 : Nat := 65517
def invP (p : Int × Int) : Int × Int := mulP (conj p) (powP (mulP p (conj p)) pm2)
theorem mul_inv {p : Int × Int} (h : In p) (hne : p ≠ (0, 0)) : mulP p (invP p) = (1, 0) := by
  unfold invP
  rw [← mulP_assoc, mul_conj]
  have hn := norm_ne h hne
  have hn0 : 0 ≤ norm p ∧ norm p < 65519 := by unfold norm; omega
  obtain ⟨m, hm⟩ := Int.eq_ofNat_of_zero_le hn0.1
  rw [hm] at hn hn0 ⊢
  have e : mulP ((m : Int), 0) (powP ((m : Int), 0) pm2) = powP ((m : Int), 0) (pm2 + 1) := by rw [mulP_comm]; rfl
  have hm2 : m < 65519 := by omega
  have e2 := powP_real m hm2 (pm2 + 1)
  rw [fermat m (by omega) hm2 (pm2 + 1) (by rw [units_length, pm2])] at e2
  exact e.trans e2
theorem inv_in (p : Int × Int) : In (invP p) := mulP_in _ _
end Go.Proofs.YtngcfmnmjkncoaaDoorW.XG
