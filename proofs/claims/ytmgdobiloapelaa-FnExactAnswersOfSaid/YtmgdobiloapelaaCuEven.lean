/- Means at equal distances: the reference's sum, brought to lowest terms at each step, and the program's over the least common multiple. -/
import Derived.Test.YtmgdobiloapelaaCx4
import Derived.Test.YtmgdobiloapelaaCuShares
import Derived.Test.YtmgdobiloapelaaCuGcd
set_option linter.unusedVariables false
set_option linter.unusedSimpArgs false
namespace Go.Proofs.Ytmgdobiloapelaa.Cb
open Go.RowKit Go.Proofs.YtmgdobiloapelaaW.PrintWords Go.Proofs.YtmgdobiloapelaaW.PrintLast Go.Proofs.Ytmgdobiloapelaa.C

def ints (m : List Nat) : List Int := m.map (fun (x : Nat) => (x : Int))
theorem ints_length (m : List Nat) : (ints m).length = m.length := by simp [ints]
theorem rd_ints (m : List Nat) (i : Nat) : rd (ints m) i = ((m.getD i 0 : Nat) : Int) := by
  rw [rd_nat, ints, List.getD_eq_getElem?_getD, List.getD_eq_getElem?_getD, List.getElem?_map]
  cases m[i]? <;> rfl
theorem ints_of (l : List Int) (h : ∀ x ∈ l, 0 ≤ x) : ∃ m, l = ints m := by
  refine ⟨l.map Int.toNat, ?_⟩
  rw [ints, List.map_map]
  conv => lhs; rw [← List.map_id l]
  exact List.map_congr_left (fun x hx => by simp; have := h x hx; omega)
theorem ints_mem {m : List Nat} {x : Nat} (h : x ∈ m) : (x : Int) ∈ ints m := List.mem_map.mpr ⟨x, h, rfl⟩
theorem ints_sum (m : List Nat) : (ints m).sum = ((m.sum : Nat) : Int) := by
  induction m with
  | nil => rfl
  | cons x m ih => simp only [ints, List.map_cons, List.sum_cons] at ih ⊢; rw [ih]; omega
theorem le_sum {m : List Nat} {x : Nat} (h : x ∈ m) : x ≤ m.sum := by
  induction m with
  | nil => cases h
  | cons y m ih =>
    rw [List.sum_cons]
    rcases List.mem_cons.mp h with rfl | h
    · omega
    · have := ih h
      omega
/-- The least common multiple. -/
def lcms (m : List Nat) (a : Nat) : Nat := m.foldl Nat.lcm a
def prods (m : List Nat) : Nat := m.foldr (· * ·) 1
theorem lcms_dvd (m : List Nat) : ∀ a, a ∣ lcms m a ∧ ∀ x ∈ m, x ∣ lcms m a := by
  induction m with
  | nil => intro a; exact ⟨Nat.dvd_refl _, fun x hx => by cases hx⟩
  | cons y m ih =>
    intro a
    obtain ⟨h1, h2⟩ := ih (Nat.lcm a y)
    refine ⟨Nat.dvd_trans (Nat.dvd_lcm_left a y) h1, fun x hx => ?_⟩
    rcases List.mem_cons.mp hx with rfl | hx
    · exact Nat.dvd_trans (Nat.dvd_lcm_right a x) h1
    · exact h2 x hx
theorem lcms_pos (m : List Nat) : ∀ a, 0 < a → (∀ x ∈ m, 0 < x) → 0 < lcms m a := by
  induction m with
  | nil => intro a h _; exact h
  | cons y m ih => intro a h hm; exact ih _ (Nat.lcm_pos h (hm y (by simp))) (fun x hx => hm x (by simp [hx]))
theorem lcms_le (m : List Nat) : ∀ a, 0 < a → (∀ x ∈ m, 0 < x) → lcms m a ≤ a * prods m := by
  induction m with
  | nil => intro a h _; simp [lcms, prods]
  | cons y m ih =>
    intro a h hm
    have hy := hm y (by simp)
    refine Nat.le_trans (ih _ (Nat.lcm_pos h hy) (fun x hx => hm x (by simp [hx]))) ?_
    have hl : Nat.lcm a y ≤ a * y := Nat.le_of_dvd (Nat.mul_pos h hy) (Nat.lcm_dvd (Nat.dvd_mul_right a y) (Nat.dvd_mul_left y a))
    calc Nat.lcm a y * prods m ≤ (a * y) * prods m := Nat.mul_le_mul_right _ hl
      _ = a * prods (y :: m) := by simp [prods, Nat.mul_assoc]
theorem p12 : ∀ s < 121, s ^ 12 ≤ 8 ^ 12 * 2 ^ s := by decide
theorem prods12 (m : List Nat) (h : ∀ x ∈ m, x ≤ 120) : prods m ^ 12 ≤ 8 ^ (12 * m.length) * 2 ^ m.sum := by
  induction m with
  | nil => simp [prods]
  | cons x m ih =>
    have h1 := p12 x (by have := h x (by simp); omega)
    have h2 := ih (fun y hy => h y (by simp [hy]))
    have e : prods (x :: m) = x * prods m := rfl
    rw [e, Nat.mul_pow]
    refine Nat.le_trans (Nat.mul_le_mul h1 h2) ?_
    rw [List.length_cons, List.sum_cons, Nat.mul_add, Nat.pow_add 8, Nat.pow_add 2, Nat.mul_one]
    refine Nat.le_of_eq ?_
    generalize 8 ^ (12 * m.length) = A
    generalize 8 ^ 12 = B
    generalize 2 ^ x = C
    generalize 2 ^ m.sum = D
    grind
theorem prods_le (m : List Nat) (h : ∀ x ∈ m, x ≤ 120) (h8 : m.length ≤ 8) (hs : m.sum ≤ 120) : prods m ≤ 2 ^ 34 := by
  have h1 := prods12 m h
  have h2 : 8 ^ (12 * m.length) * 2 ^ m.sum ≤ 8 ^ (12 * 8) * 2 ^ 120 := Nat.mul_le_mul (Nat.pow_le_pow_right (by omega) (by omega)) (Nat.pow_le_pow_right (by omega) hs)
  have h3 : 8 ^ (12 * 8) * 2 ^ 120 = (2 ^ 34) ^ 12 := by decide
  exact (Nat.pow_le_pow_iff_left (n := 12) (by omega)).mp (by omega)

theorem lcm_step (a b : Nat) (ha : 0 < a) : a / Nat.gcd a b * b = Nat.lcm a b := by
  unfold Nat.lcm
  exact Nat.div_mul_right_comm (Nat.gcd_dvd_left a b) b
theorem getD_mem {m : List Nat} {i : Nat} (h : i < m.length) : m.getD i 0 ∈ m := by
  rw [List.getD_eq_getElem?_getD, List.getElem?_eq_getElem h, Option.getD_some]; exact List.getElem_mem h
theorem dropN_cons {m : List Nat} {i : Nat} (h : i < m.length) : m.drop i = m.getD i 0 :: m.drop (i + 1) := by
  rw [List.getD_eq_getElem?_getD, List.getElem?_eq_getElem h, Option.getD_some]; exact List.drop_eq_getElem_cons h
theorem lcms_le_last (m : List Nat) (a : Nat) (ha : 0 < a) (hm : ∀ x ∈ m, 0 < x) : a ≤ lcms m a := Nat.le_of_dvd (lcms_pos m a ha hm) (lcms_dvd m a).1
theorem multiple_loop (m : List Nat) (hm : ∀ x ∈ m, 0 < x) (B : Nat) (hB : B ≤ 9223372036854775807) (hl : m.length ≤ 1000) : ∀ (d i a : Nat), m.length - i = d → i ≤ m.length → 0 < a → lcms (m.drop i) a ≤ B →
    Ev (fun k => impl_Tasks_multiple.l0 k (a : Int) (ints m) m.length i) ((lcms (m.drop i) a : Nat) : Int) := by
  intro d
  induction d with
  | zero =>
    intro i a hd hi ha hb
    obtain rfl : i = m.length := by omega
    refine ev_succ ?_
    simp only [impl_Tasks_multiple.l0]
    exact ev_neg (by omega) (ev_val (Ev.now _) (by rw [List.drop_length]; rfl))
  | succ d ih =>
    intro i a hd hi ha hb
    have hi' : i < m.length := by omega
    refine ev_succ ?_
    simp only [impl_Tasks_multiple.l0]
    refine ev_pos (by omega) (ev_pos (by omega) (ev_pos (by rw [ints_length]; omega) ?_))
    rw [rd_ints]
    have hx := hm _ (getD_mem hi')
    rw [dropN_cons hi'] at hb ⊢
    have hrest : ∀ x ∈ m.drop (i + 1), 0 < x := fun x hx => hm x (List.mem_of_mem_drop hx)
    have hlp := Nat.lcm_pos ha hx
    have h1 := lcms_le_last (m.drop (i + 1)) (Nat.lcm a (m.getD i 0)) hlp hrest
    have h2 : a ≤ Nat.lcm a (m.getD i 0) := Nat.le_of_dvd hlp (Nat.dvd_lcm_left _ _)
    have hb' : lcms (m.drop (i + 1)) (Nat.lcm a (m.getD i 0)) ≤ B := hb
    have hg : 0 < Nat.gcd a (m.getD i 0) := Nat.gcd_pos_of_pos_left _ ha
    have hq := Nat.div_le_self a (Nat.gcd a (m.getD i 0))
    refine Ev.bind (divisor_ev a (m.getD i 0)) (ev_neg (by omega) ?_)
    rw [tdiv_nat, w64c (x := a / Nat.gcd a (m.getD i 0)) (by omega), ← Int.natCast_mul, lcm_step a _ ha, w64 (by omega) (by omega), w64n (by omega)]
    exact ih (i + 1) (Nat.lcm a (m.getD i 0)) (by omega) (by omega) hlp hb'
theorem multiple_ev (m : List Nat) (hm : ∀ x ∈ m, 0 < x) (hB : lcms m 1 ≤ 9223372036854775807) (hl : m.length ≤ 1000) : Ev (fun k => impl_Tasks_multiple.f k (ints m)) ((lcms m 1 : Nat) : Int) := by
  unfold impl_Tasks_multiple.f
  rw [ints_length]
  exact multiple_loop m hm _ hB hl m.length 0 1 (by omega) (by omega) (by omega) (by simp)

/-- The program's numerator, from a place on. -/
def nums_ (n L : Nat) (m : List Nat) (a : Nat) : Nat := m.foldl (fun a s => a + (n - s) * (L / s)) a
theorem nums_le (n L : Nat) (m : List Nat) (hn : n ≤ 120) : ∀ a, nums_ n L m a ≤ a + m.length * (120 * L) := by
  induction m with
  | nil => intro a; simp [nums_]
  | cons s m ih =>
    intro a
    have : (n - s) * (L / s) ≤ 120 * L := Nat.mul_le_mul (by omega) (Nat.div_le_self _ _)
    have h2 := ih (a + (n - s) * (L / s))
    show nums_ n L m (a + (n - s) * (L / s)) ≤ _
    rw [List.length_cons, Nat.add_mul, Nat.one_mul]
    omega
theorem nums_ge (n L : Nat) (m : List Nat) : ∀ a, a ≤ nums_ n L m a := by
  induction m with
  | nil => intro a; exact Nat.le_refl _
  | cons s m ih => intro a; exact Nat.le_trans (Nat.le_add_right _ _) (ih _)
end Go.Proofs.Ytmgdobiloapelaa.Cb
