/- Means at equal distances: the reference's sum, brought to lowest terms at each step, and the program's over the least common multiple. -/
import Derived.Test.YtmgdobiloapelaaQShB
set_option linter.unusedVariables false
set_option linter.unusedSimpArgs false
namespace Go.Proofs.Ytmgdobiloapelaa.Vf
open Go Go.V Go.RowKit

theorem tdiv_nat (a b : Nat) : Int.tdiv (a : Int) (b : Int) = ((a / b : Nat) : Int) := rfl
theorem w64c {x : Nat} (h : x ≤ 9223372036854775807) : wrap64 (x : Int) = (x : Int) := w64 (by omega) (by omega)

theorem gcdN {k : Nat} : ∀ (b a n : Nat), b < n → impl_divisor.l0 k n a b = some ((Nat.gcd a b : Nat) : Int) ∧ spec_l01Gcd.l0 k n a b = some ((Nat.gcd a b : Nat) : Int) := by
  intro b
  induction b using Nat.strongRecOn with
  | _ b ih =>
    intro a n hn
    cases n with
    | zero => omega
    | succ n =>
      simp only [impl_divisor.l0, impl_divisor.s0, spec_l01Gcd.l0, spec_l01Gcd.s0]
      by_cases hb : b = 0
      · subst hb
        rw [if_pos (by omega), if_pos (by omega), Nat.gcd_zero_right]; exact ⟨rfl, rfl⟩
      · rw [if_neg (by omega), if_neg (by omega), if_neg (by omega), if_neg (by omega), tmod_nat]
        have hm := Nat.mod_lt a (show 0 < b by omega)
        have := ih (a % b) hm b n (by omega)
        rw [Nat.gcd_comm a b, Nat.gcd_rec b a, Nat.gcd_comm (a % b) b]
        exact this

theorem divisorN {k a b : Nat} (hb : b < k) : impl_divisor.f k a b = some ((Nat.gcd a b : Nat) : Int) := (gcdN b a k hb).1
theorem fracN {k a b : Nat} (hb : 0 < b) (hbk : b < k) (ha : a ≤ 9223372036854775807) (hb2 : b ≤ 9223372036854775807) :
    impl_fraction.f k a b = some (((a / Nat.gcd a b : Nat) : Int), ((b / Nat.gcd a b : Nat) : Int), 0) ∧ spec_l01Lowest.f k a b = some (((a / Nat.gcd a b : Nat) : Int), ((b / Nat.gcd a b : Nat) : Int)) := by
  have hg : 0 < Nat.gcd a b := Nat.gcd_pos_of_pos_right a hb
  have h1 := Nat.div_le_self a (Nat.gcd a b)
  have h2 := Nat.div_le_self b (Nat.gcd a b)
  unfold impl_fraction.f spec_l01Lowest.f spec_l01Gcd.f spec_l01Gcd.g
  rw [divisorN hbk, (gcdN b a k hbk).2, Option.bind_some, Option.bind_some, if_neg (by omega), if_neg (by omega), if_neg (by omega), if_neg (by omega), tdiv_nat, tdiv_nat, w64c (Nat.le_trans h1 ha), w64c (Nat.le_trans h2 hb2)]
  exact ⟨rfl, rfl⟩

/-- Fractions in lowest terms are told by their values. -/
theorem low_cop {a b : Nat} (hb : 0 < b) : Nat.Coprime (a / Nat.gcd a b) (b / Nat.gcd a b) := Nat.coprime_div_gcd_div_gcd (Nat.gcd_pos_of_pos_right a hb)
theorem cop_eq {a b c d : Nat} (hb : 0 < b) (hd : 0 < d) (h1 : Nat.Coprime a b) (h2 : Nat.Coprime c d) (h : a * d = c * b) : a = c ∧ b = d := by
  have e1 : b ∣ d := Nat.Coprime.dvd_of_dvd_mul_left (k := b) (m := a) h1.symm ⟨c, by rw [h, Nat.mul_comm]⟩
  have e2 : d ∣ b := Nat.Coprime.dvd_of_dvd_mul_left (k := d) (m := c) h2.symm ⟨a, by rw [← h, Nat.mul_comm]⟩
  obtain rfl := Nat.dvd_antisymm e1 e2
  exact ⟨Nat.eq_of_mul_eq_mul_right hb h, rfl⟩
theorem low_mul {a b : Nat} (hb : 0 < b) : a / Nat.gcd a b * Nat.gcd a b = a ∧ b / Nat.gcd a b * Nat.gcd a b = b ∧ 0 < b / Nat.gcd a b := by
  refine ⟨Nat.div_mul_cancel (Nat.gcd_dvd_left a b), Nat.div_mul_cancel (Nat.gcd_dvd_right a b), ?_⟩
  exact Nat.div_pos (Nat.le_of_dvd hb (Nat.gcd_dvd_right a b)) (Nat.gcd_pos_of_pos_right a hb)
theorem low_eq {a b c d : Nat} (hb : 0 < b) (hd : 0 < d) (h : a * d = c * b) : a / Nat.gcd a b = c / Nat.gcd c d ∧ b / Nat.gcd a b = d / Nat.gcd c d := by
  obtain ⟨h1, h2, h3⟩ := low_mul (a := a) hb
  obtain ⟨h4, h5, h6⟩ := low_mul (a := c) hd
  refine cop_eq h3 h6 (low_cop hb) (low_cop hd) ?_
  have hg : 0 < Nat.gcd a b := Nat.gcd_pos_of_pos_right a hb
  have hg' : 0 < Nat.gcd c d := Nat.gcd_pos_of_pos_right c hd
  generalize a / Nat.gcd a b = x at *
  generalize b / Nat.gcd a b = y at *
  generalize c / Nat.gcd c d = z at *
  generalize d / Nat.gcd c d = u at *
  generalize Nat.gcd a b = g at *
  generalize Nat.gcd c d = g' at *
  subst h1 h2 h4 h5
  have : (x * u) * (g * g') = (z * y) * (g * g') := by grind
  exact Nat.eq_of_mul_eq_mul_right (Nat.mul_pos hg hg') this

def ints (m : List Nat) : List Int := m.map (fun (x : Nat) => (x : Int))
theorem ints_length (m : List Nat) : (ints m).length = m.length := by simp [ints]
theorem rd_ints (m : List Nat) (i : Nat) : rd (ints m) i = ((m.getD i 0 : Nat) : Int) := by
  rw [rd_nat, ints, List.getD_eq_getElem?_getD, List.getD_eq_getElem?_getD, List.getElem?_map]
  cases m[i]? <;> rfl
theorem ints_of (l : List Int) (h : ∀ x ∈ l, 0 ≤ x) : ∃ m, l = ints m := by
  refine ⟨l.map Int.toNat, ?_⟩
  rw [ints, List.map_map]
  conv => lhs; rw [← List.map_id l]
  exact List.map_congr_left (fun x hx => by simp; have := h x hx; omega)
theorem ints_mem {m : List Nat} {x : Nat} (h : x ∈ m) : (x : Int) ∈ ints m := List.mem_map.mpr ⟨x, h, rfl⟩
theorem ints_sum (m : List Nat) : (ints m).sum = ((m.sum : Nat) : Int) := by
  induction m with
  | nil => rfl
  | cons x m ih => simp only [ints, List.map_cons, List.sum_cons] at ih ⊢; rw [ih]; omega
theorem le_sumN {m : List Nat} {x : Nat} (h : x ∈ m) : x ≤ m.sum := by
  induction m with
  | nil => cases h
  | cons y m ih =>
    rw [List.sum_cons]
    rcases List.mem_cons.mp h with rfl | h
    · omega
    · have := ih h
      omega
/-- The least common multiple. -/
def lcms (m : List Nat) (a : Nat) : Nat := m.foldl Nat.lcm a
def prods (m : List Nat) : Nat := m.foldr (· * ·) 1
theorem lcms_dvd (m : List Nat) : ∀ a, a ∣ lcms m a ∧ ∀ x ∈ m, x ∣ lcms m a := by
  induction m with
  | nil => intro a; exact ⟨Nat.dvd_refl _, fun x hx => by cases hx⟩
  | cons y m ih =>
    intro a
    obtain ⟨h1, h2⟩ := ih (Nat.lcm a y)
    refine ⟨Nat.dvd_trans (Nat.dvd_lcm_left a y) h1, fun x hx => ?_⟩
    rcases List.mem_cons.mp hx with rfl | hx
    · exact Nat.dvd_trans (Nat.dvd_lcm_right a x) h1
    · exact h2 x hx
theorem lcms_pos (m : List Nat) : ∀ a, 0 < a → (∀ x ∈ m, 0 < x) → 0 < lcms m a := by
  induction m with
  | nil => intro a h _; exact h
  | cons y m ih => intro a h hm; exact ih _ (Nat.lcm_pos h (hm y (by simp))) (fun x hx => hm x (by simp [hx]))
theorem lcms_le (m : List Nat) : ∀ a, 0 < a → (∀ x ∈ m, 0 < x) → lcms m a ≤ a * prods m := by
  induction m with
  | nil => intro a h _; simp [lcms, prods]
  | cons y m ih =>
    intro a h hm
    have hy := hm y (by simp)
    refine Nat.le_trans (ih _ (Nat.lcm_pos h hy) (fun x hx => hm x (by simp [hx]))) ?_
    have hl : Nat.lcm a y ≤ a * y := Nat.le_of_dvd (Nat.mul_pos h hy) (Nat.lcm_dvd (Nat.dvd_mul_right a y) (Nat.dvd_mul_left y a))
    calc Nat.lcm a y * prods m ≤ (a * y) * prods m := Nat.mul_le_mul_right _ hl
      _ = a * prods (y :: m) := by simp [prods, Nat.mul_assoc]
theorem p12 : ∀ s < 121, s ^ 12 ≤ 8 ^ 12 * 2 ^ s := by decide
theorem prods12 (m : List Nat) (h : ∀ x ∈ m, x ≤ 120) : prods m ^ 12 ≤ 8 ^ (12 * m.length) * 2 ^ m.sum := by
  induction m with
  | nil => simp [prods]
  | cons x m ih =>
    have h1 := p12 x (by have := h x (by simp); omega)
    have h2 := ih (fun y hy => h y (by simp [hy]))
    have e : prods (x :: m) = x * prods m := rfl
    rw [e, Nat.mul_pow]
    refine Nat.le_trans (Nat.mul_le_mul h1 h2) ?_
    rw [List.length_cons, List.sum_cons, Nat.mul_add, Nat.pow_add 8, Nat.pow_add 2, Nat.mul_one]
    refine Nat.le_of_eq ?_
    generalize 8 ^ (12 * m.length) = A
    generalize 8 ^ 12 = B
    generalize 2 ^ x = C
    generalize 2 ^ m.sum = D
    grind
theorem prods_le (m : List Nat) (h : ∀ x ∈ m, x ≤ 120) (h8 : m.length ≤ 8) (hs : m.sum ≤ 120) : prods m ≤ 2 ^ 34 := by
  have h1 := prods12 m h
  have h2 : 8 ^ (12 * m.length) * 2 ^ m.sum ≤ 8 ^ (12 * 8) * 2 ^ 120 := Nat.mul_le_mul (Nat.pow_le_pow_right (by omega) (by omega)) (Nat.pow_le_pow_right (by omega) hs)
  have h3 : 8 ^ (12 * 8) * 2 ^ 120 = (2 ^ 34) ^ 12 := by decide
  exact (Nat.pow_le_pow_iff_left (n := 12) (by omega)).mp (by omega)

theorem lcm_step (a b : Nat) (ha : 0 < a) : a / Nat.gcd a b * b = Nat.lcm a b := by
  unfold Nat.lcm
  exact Nat.div_mul_right_comm (Nat.gcd_dvd_left a b) b
theorem getD_mem {m : List Nat} {i : Nat} (h : i < m.length) : m.getD i 0 ∈ m := by
  rw [List.getD_eq_getElem?_getD, List.getElem?_eq_getElem h, Option.getD_some]; exact List.getElem_mem h
theorem dropN_cons {m : List Nat} {i : Nat} (h : i < m.length) : m.drop i = m.getD i 0 :: m.drop (i + 1) := by
  rw [List.getD_eq_getElem?_getD, List.getElem?_eq_getElem h, Option.getD_some]; exact List.drop_eq_getElem_cons h
theorem lcms_le_last (m : List Nat) (a : Nat) (ha : 0 < a) (hm : ∀ x ∈ m, 0 < x) : a ≤ lcms m a := Nat.le_of_dvd (lcms_pos m a ha hm) (lcms_dvd m a).1

theorem multipleN {k : Nat} (hk : 1125899906842624 ≤ k) {m : List Nat} (hm : ∀ x ∈ m, 0 < x ∧ x ≤ 120) (hl : m.length ≤ 1000) (hB : lcms m 1 ≤ 2 ^ 34) : impl_Tasks_multiple.f k (ints m) = some ((lcms m 1 : Nat) : Int) := by
  have key : ∀ (d i n a : Nat), m.length - i = d → i ≤ m.length → d < n → 0 < a → lcms (m.drop i) a ≤ 2 ^ 34 → impl_Tasks_multiple.l0 k n (a : Int) (ints m) m.length i = some ((lcms (m.drop i) a : Nat) : Int) := by
    intro d
    induction d with
    | zero =>
      intro i n a hd hi hn ha hb
      cases n with
      | zero => omega
      | succ n =>
        obtain rfl : i = m.length := by omega
        simp only [impl_Tasks_multiple.l0, impl_Tasks_multiple.s0]
        rw [if_neg (by omega), List.drop_length]; rfl
    | succ d ih =>
      intro i n a hd hi hn ha hb
      cases n with
      | zero => omega
      | succ n =>
        have hi' : i < m.length := by omega
        simp only [impl_Tasks_multiple.l0, impl_Tasks_multiple.s0]
        have hx := hm _ (getD_mem hi')
        rw [dropN_cons hi'] at hb ⊢
        have hrest : ∀ x ∈ m.drop (i + 1), 0 < x := fun x hx => (hm x (List.mem_of_mem_drop hx)).1
        have hlp := Nat.lcm_pos ha hx.1
        have h1 := lcms_le_last (m.drop (i + 1)) (Nat.lcm a (m.getD i 0)) hlp hrest
        have h2 : a ≤ Nat.lcm a (m.getD i 0) := Nat.le_of_dvd hlp (Nat.dvd_lcm_left _ _)
        have hb' : lcms (m.drop (i + 1)) (Nat.lcm a (m.getD i 0)) ≤ 2 ^ 34 := hb
        have hg : 0 < Nat.gcd a (m.getD i 0) := Nat.gcd_pos_of_pos_left _ ha
        have hq := Nat.div_le_self a (Nat.gcd a (m.getD i 0))
        rw [if_pos (by omega), if_pos (by omega), if_pos (by rw [ints_length]; omega), rd_ints, divisorN (by omega), Option.bind_some, if_neg (by omega), tdiv_nat, w64c (x := a / Nat.gcd a (m.getD i 0)) (by omega), ← Int.natCast_mul, lcm_step a _ ha, w64c (by omega), w64n (by omega)]
        exact ih (i + 1) n (Nat.lcm a (m.getD i 0)) (by omega) (by omega) (by omega) hlp hb'
  unfold impl_Tasks_multiple.f impl_Tasks_multiple.g
  rw [ints_length]
  have := key m.length 0 k 1 (by omega) (by omega) (by omega) (by omega) (by simpa using hB)
  rw [List.drop_zero, Int.natCast_zero, Int.natCast_one] at this
  exact this

/-- The program's numerator, from a place on. -/
def nums_ (n L : Nat) (m : List Nat) (a : Nat) : Nat := m.foldl (fun a s => a + (n - s) * (L / s)) a
theorem nums_le (n L : Nat) (m : List Nat) (hn : n ≤ 120) : ∀ a, nums_ n L m a ≤ a + m.length * (120 * L) := by
  induction m with
  | nil => intro a; simp [nums_]
  | cons s m ih =>
    intro a
    have : (n - s) * (L / s) ≤ 120 * L := Nat.mul_le_mul (by omega) (Nat.div_le_self _ _)
    have h2 := ih (a + (n - s) * (L / s))
    show nums_ n L m (a + (n - s) * (L / s)) ≤ _
    rw [List.length_cons, Nat.add_mul, Nat.one_mul]
    omega
theorem nums_ge (n L : Nat) (m : List Nat) : ∀ a, a ≤ nums_ n L m a := by
  induction m with
  | nil => intro a; exact Nat.le_refl _
  | cons s m ih => intro a; exact Nat.le_trans (Nat.le_add_right _ _) (ih _)

def lowE (m : List Nat) (L N : Nat) : Int × Int × Int := (((N / Nat.gcd N (2 * L * m.length) : Nat) : Int), ((2 * L * m.length / Nat.gcd N (2 * L * m.length) : Nat) : Int), 0)

theorem evenI {k : Nat} (hk : 1125899906842624 ≤ k) {m : List Nat} {n L : Nat} (hm : ∀ x ∈ m, 0 < x ∧ x ≤ n) (hn : n ≤ 120) (hl : m.length ≤ 8) (h1 : 1 ≤ m.length) (hL : L ≤ 2 ^ 34) (hL0 : 0 < L) : ∀ (d i f a : Nat), m.length - i = d → i ≤ m.length → d < f → nums_ n L (m.drop i) a ≤ 2 ^ 45 →
    impl_EvenMean.l0 k f (ints m) n L a (ints m) m.length i = some (lowE m L (nums_ n L (m.drop i) a)) := by
  intro d
  induction d with
  | zero =>
    intro i f a hd hi hf hb
    cases f with
    | zero => omega
    | succ f =>
      obtain rfl : i = m.length := by omega
      rw [List.drop_length] at hb ⊢
      have hb' : a ≤ 2 ^ 45 := hb
      simp only [impl_EvenMean.l0, impl_EvenMean.s0]
      have hp : 0 < 2 * L * m.length := Nat.mul_pos (by omega) (by omega)
      have hq : 2 * L * m.length ≤ 2 ^ 38 := Nat.le_trans (Nat.mul_le_mul (by omega : 2 * L ≤ 2 ^ 35) hl) (by decide)
      rw [if_neg (by omega), length_f, Option.bind_some, ints_length, w64 (x := 2 * (L : Int)) (by omega) (by omega), show 2 * (L : Int) * (m.length : Int) = ((2 * L * m.length : Nat) : Int) by push_cast; rfl, w64c (by omega), (fracN hp (by omega) (by omega) (by omega)).1]
      rfl
  | succ d ih =>
    intro i f a hd hi hf hb
    cases f with
    | zero => omega
    | succ f =>
      have hi' : i < m.length := by omega
      simp only [impl_EvenMean.l0, impl_EvenMean.s0]
      have hx := hm _ (getD_mem hi')
      rw [dropN_cons hi'] at hb ⊢
      have hb' : nums_ n L (m.drop (i + 1)) (a + (n - m.getD i 0) * (L / m.getD i 0)) ≤ 2 ^ 45 := hb
      have hge := nums_ge n L (m.drop (i + 1)) (a + (n - m.getD i 0) * (L / m.getD i 0))
      have hdv := Nat.div_le_self L (m.getD i 0)
      rw [if_pos (by omega), if_pos (by omega), if_pos (by rw [ints_length]; omega), rd_ints, if_neg (by omega), tdiv_nat, w64c (x := L / m.getD i 0) (by omega), w64 (x := (n : Int) - ((m.getD i 0 : Nat) : Int)) (by omega) (by omega), ← Int.natCast_sub hx.2, ← Int.natCast_mul,
        w64c (x := (n - m.getD i 0) * (L / m.getD i 0)) (by omega), ← Int.natCast_add, w64c (by omega), w64n (by omega)]
      exact ih (i + 1) f (a + (n - m.getD i 0) * (L / m.getD i 0)) (by omega) (by omega) (by omega) hb'

theorem evenS {k : Nat} (hk : 1125899906842624 ≤ k) {m : List Nat} {n L : Nat} (hm : ∀ x ∈ m, 0 < x ∧ x ≤ n ∧ x ∣ L) (hn : n ≤ 120) (hl : m.length ≤ 8) (h1 : 1 ≤ m.length) (hL : L ≤ 2 ^ 34) (hL0 : 0 < L) : ∀ (d i f a t b : Nat), m.length - i = d → i ≤ m.length → d < f → nums_ n L (m.drop i) a ≤ 2 ^ 45 →
    0 < b → Nat.Coprime t b → t * (2 * L) = b * a →
    spec_EvenMean.l0 k f (ints m) n t b i = some (lowE m L (nums_ n L (m.drop i) a)) := by
  intro d
  induction d with
  | zero =>
    intro i f a t b hd hi hf hb hb0 hc he
    cases f with
    | zero => omega
    | succ f =>
      obtain rfl : i = m.length := by omega
      rw [List.drop_length] at hb ⊢
      have hb' : a ≤ 2 ^ 45 := hb
      have hbd : b ∣ 2 * L := Nat.Coprime.dvd_of_dvd_mul_left hc.symm ⟨a, he⟩
      have hble := Nat.le_of_dvd (by omega) hbd
      have hta : t ≤ a := by
        have : t * b ≤ b * a := by rw [← he]; exact Nat.mul_le_mul_left t hble
        exact Nat.le_of_mul_le_mul_left (by rw [Nat.mul_comm b t]; exact this) hb0
      simp only [spec_EvenMean.l0, spec_EvenMean.s0]
      have hp : 0 < 2 * L * m.length := Nat.mul_pos (by omega) (by omega)
      have hp2 : 0 < b * m.length := Nat.mul_pos (by omega) (by omega)
      have hq : b * m.length ≤ 2 ^ 38 := Nat.le_trans (Nat.mul_le_mul (by omega : b ≤ 2 ^ 35) hl) (by decide)
      rw [ints_length, if_neg (by omega), ← Int.natCast_mul, w64c (by omega), (fracN hp2 (by omega) (by omega) (by omega)).2]
      have := low_eq (a := t) (b := b * m.length) (c := a) (d := 2 * L * m.length) hp2 hp (by rw [← Nat.mul_assoc, he]; grind)
      show some _ = some (((a / Nat.gcd a (2 * L * m.length) : Nat) : Int), ((2 * L * m.length / Nat.gcd a (2 * L * m.length) : Nat) : Int), (0 : Int))
      rw [this.1, this.2]
  | succ d ih =>
    intro i f a t b hd hi hf hb hb0 hc he
    cases f with
    | zero => omega
    | succ f =>
      have hi' : i < m.length := by omega
      simp only [spec_EvenMean.l0, spec_EvenMean.s0]
      rw [ints_length, if_pos (by omega), if_pos (by omega), if_pos (by omega), if_pos (by omega), if_pos (by omega), if_pos (by omega), if_pos (by omega), rd_ints]
      have hx := hm _ (getD_mem hi')
      rw [dropN_cons hi'] at hb ⊢
      have hb' : nums_ n L (m.drop (i + 1)) (a + (n - m.getD i 0) * (L / m.getD i 0)) ≤ 2 ^ 45 := hb
      have hge := nums_ge n L (m.drop (i + 1)) (a + (n - m.getD i 0) * (L / m.getD i 0))
      have hbd : b ∣ 2 * L := Nat.Coprime.dvd_of_dvd_mul_left hc.symm ⟨a, he⟩
      have hble := Nat.le_of_dvd (by omega) hbd
      have hta : t ≤ a := by
        have : t * b ≤ b * a := by rw [← he]; exact Nat.mul_le_mul_left t hble
        exact Nat.le_of_mul_le_mul_left (by rw [Nat.mul_comm b t]; exact this) hb0
      have hn' : nums_ n L (m.getD i 0 :: m.drop (i + 1)) a = nums_ n L (m.drop (i + 1)) (a + (n - m.getD i 0) * (L / m.getD i 0)) := rfl
      rw [hn']
      obtain ⟨q, hq⟩ := hx.2.2
      have hLs : L / m.getD i 0 = q := by rw [hq]; exact Nat.mul_div_cancel_left q hx.1
      rw [hLs] at hb' hge ⊢
      generalize hs : m.getD i 0 = s at *
      have b1 : t * 2 * s ≤ 2 ^ 46 * 120 := Nat.mul_le_mul (by omega) (by omega)
      have b2 : (n - s) * b ≤ 120 * 2 ^ 35 := Nat.mul_le_mul (by omega) (by omega)
      have b3 : b * 2 * s ≤ 2 ^ 36 * 120 := Nat.mul_le_mul (by omega) (by omega)
      have b0 : 0 < b * 2 * s := Nat.mul_pos (by omega) hx.1
      rw [w64 (x := (t : Int) * 2) (by omega) (by omega), w64 (x := (b : Int) * 2) (by omega) (by omega), show (t : Int) * 2 * (s : Int) = ((t * 2 * s : Nat) : Int) by push_cast; rfl, show (b : Int) * 2 * (s : Int) = ((b * 2 * s : Nat) : Int) by push_cast; rfl,
        w64c (x := t * 2 * s) (by omega), w64c (x := b * 2 * s) (by omega), w64 (x := (n : Int) - (s : Int)) (by omega) (by omega), ← Int.natCast_sub hx.2.1, ← Int.natCast_mul,
        w64c (x := (n - s) * b) (by omega), ← Int.natCast_add, w64c (by omega), w64n (by omega)]
      rw [(fracN b0 (by omega) (by omega) (by omega)).2, Option.bind_some]
      obtain ⟨m1, m2, m3⟩ := low_mul (a := t * 2 * s + (n - s) * b) b0
      have hg : 0 < Nat.gcd (t * 2 * s + (n - s) * b) (b * 2 * s) := Nat.gcd_pos_of_pos_right _ b0
      refine ih (i + 1) f (a + (n - s) * q) _ _ (by omega) (by omega) (by omega) hb' m3 (low_cop b0) ?_
      apply Nat.eq_of_mul_eq_mul_right hg
      calc _ = (t * 2 * s + (n - s) * b) * (2 * L) := by conv => rhs; rw [← m1]
                                                         grind
        _ = (b * 2 * s) * (a + (n - s) * q) := by
          generalize n - s = u
          have e1 : t * 2 * s * (2 * L) = 2 * s * (b * a) := by rw [← he]; grind
          rw [Nat.add_mul, e1, hq]
          grind
        _ = _ := by conv => lhs; rw [← m2]
                    grind

theorem even_both {k : Nat} (hk : 1125899906842624 ≤ k) {s : List Int} (hl : s.length ≤ 1048576) : ∃ r, spec_EvenMean.f k s = some r ∧ impl_EvenMean.f k s = some r ∧ (r.2.2 = 0 ↔ sharesOk s = true) := by
  unfold spec_EvenMean.f spec_EvenMean.g impl_EvenMean.f impl_EvenMean.g
  rw [l10Shares_f (by omega) hl, areShares_f (by omega) hl, Option.bind_some, Option.bind_some]
  by_cases h : sharesOk s = true
  · have S := sharesOk_iff.1 h
    have sl1 := S.l1
    have sl8 := S.l8
    have sm := S.sm
    have hp := S.pos
    rw [total_s (by omega) (by omega) (fun x hx => by have := S.el x hx; omega), Option.bind_some]
    simp only [if_pos h]
    rw [if_neg (by omega)]
    obtain ⟨m, rfl⟩ := ints_of s (fun x hx => by have := S.el x hx; omega)
    rw [ints_length] at sl1 sl8 ⊢
    have hsum := ints_sum m
    have hm : ∀ x ∈ m, 0 < x ∧ x ≤ m.sum ∧ x ≤ 120 := fun x hx => by
      have := S.el _ (ints_mem hx)
      have h4 := le_sumN hx
      exact ⟨by omega, h4, by omega⟩
    have hL := lcms_le m 1 (by omega) (fun x hx => (hm x hx).1)
    have hP := prods_le m (fun x hx => (hm x hx).2.2) sl8 (by omega)
    have hL34 : lcms m 1 ≤ 2 ^ 34 := by omega
    have hL0 := lcms_pos m 1 (by omega) (fun x hx => (hm x hx).1)
    have hnum := nums_le m.sum (lcms m 1) m (by omega) 0
    have hnum' : nums_ m.sum (lcms m 1) m 0 ≤ 2 ^ 45 := by
      refine Nat.le_trans hnum ?_
      have : m.length * (120 * lcms m 1) ≤ 8 * (120 * 2 ^ 34) := Nat.mul_le_mul sl8 (Nat.mul_le_mul_left 120 hL34)
      omega
    refine ⟨lowE m (lcms m 1) (nums_ m.sum (lcms m 1) m 0), ?_, ?_, fun _ => h, fun _ => rfl⟩
    · rw [hsum]
      have := evenS hk (L := lcms m 1) (n := m.sum) (fun x hx => ⟨(hm x hx).1, (hm x hx).2.1, (lcms_dvd m 1).2 x hx⟩) (by omega) sl8 sl1 hL34 hL0 m.length 0 k 0 0 1 (by omega) (by omega) (by omega) (by simpa using hnum') (by omega) (by simp) (by simp)
      rw [List.drop_zero, Int.natCast_zero, Int.natCast_one] at this
      exact this
    · rw [multipleN hk (fun x hx => ⟨(hm x hx).1, (hm x hx).2.2⟩) (by omega) hL34, Option.bind_some, hsum]
      have := evenI hk (L := lcms m 1) (n := m.sum) (fun x hx => ⟨(hm x hx).1, (hm x hx).2.1⟩) (by omega) sl8 sl1 hL34 hL0 m.length 0 k 0 (by omega) (by omega) (by omega) (by simpa using hnum')
      rw [List.drop_zero, Int.natCast_zero] at this
      exact this
  · simp only [if_neg h]
    rw [if_pos trivial]
    exact ⟨(0, 0, 2), rfl, rfl, ⟨fun x => absurd x (by decide), fun x => absurd x h⟩⟩

end Go.Proofs.Ytmgdobiloapelaa.Vf
