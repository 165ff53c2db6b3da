/- Pure: the least gap with which all places can be watched. Conditions: as each theorem states. My own. -/
import Derived.Test.YtcbhhbkghbnljaaFa
import Derived.Test.YtcbhhbkghbnljaaQ09a
namespace Go.Proofs.Ytcbhhbkghbnljaa.Vf
open Go Go.V
set_option linter.unusedVariables false
set_option linter.unusedSimpArgs false

def eqG (n : Nat) (gap : Int) : List Int := List.replicate n gap

theorem eqG_len (n : Nat) (gap : Int) : (eqG n gap).length = n := by simp [eqG]
theorem eqG_T {n : Nat} {gap : Int} (h0 : 1 ≤ n) (h1 : n ≤ 6) (g0 : 1 ≤ gap) (g1 : gap ≤ 10) : isT (eqG n gap) = true := by
  rw [isT_iff, eqG_len]
  refine ⟨by omega, fun g hg => ?_⟩
  rw [(List.mem_replicate.mp hg).2]
  omega
theorem eqG_cnt {g m : Int} (h0 : 1 ≤ g) (h1 : g ≤ m) : ∀ n, 1 ≤ cnt (eqG n g) ∧ cnt (eqG n g) ≤ cnt (eqG n m)
  | 0 => by simp [eqG, cnt]
  | n + 1 => by
    obtain ⟨a, b⟩ := eqG_cnt h0 h1 n
    have e : ∀ x, cnt (eqG (n + 1) x) = x * cnt (eqG n x) := fun x => by simp [eqG, List.replicate_succ, cnt]
    rw [e, e]
    have h2 := Int.mul_le_mul h0 a (by omega) (by omega)
    have h3 := Int.mul_le_mul h1 b (by omega) (by omega)
    omega

theorem eqG_W {n : Nat} {r gap m : Int} (hg : isGr n r = true) (h0 : 1 ≤ n) (h1 : n ≤ 6) (g0 : 1 ≤ gap) (g1 : gap ≤ m) (m1 : m ≤ 10) (hs : (n : Int) * cnt (eqG n m) ≤ 20000) : codeW n r (eqG n gap) = 0 := by
  unfold codeW
  have := (eqG_cnt g0 g1 n).2
  have h3 := Int.mul_le_mul_of_nonneg_left this (show (0 : Int) ≤ (n : Int) by omega)
  rw [if_pos hg, if_pos (eqG_T h0 h1 g0 (by omega)), eqG_len, if_pos rfl, if_neg (by omega)]

noncomputable def leastG (n : Nat) (r m : Int) (gap : Int) : Nat → Int × Int
  | 0 => (0, 4)
  | d + 1 => if 0 ≤ (beginF r (eqG n gap) 0 n).getD (-1) then (gap, 0) else leastG n r m (gap + 1) d

theorem l09Equal_loop {k n : Nat} {r gap : Int} (hn : n ≤ 6) : ∀ (d i f : Nat), n - i = d → i ≤ n → d < f → spec_l09Equal.l0 k f gap n r (eqG i gap) i = some (eqG n gap) := by
  intro d
  induction d with
  | zero =>
    intro i f hd hi hf
    cases f with
    | zero => omega
    | succ f =>
      simp only [spec_l09Equal.l0, spec_l09Equal.s0]
      rw [if_neg (by omega), show i = n by omega]
  | succ d ih =>
    intro i f hd hi hf
    cases f with
    | zero => omega
    | succ f =>
      simp only [spec_l09Equal.l0, spec_l09Equal.s0]
      have e : eqG i gap ++ [gap] = eqG (i + 1) gap := by unfold eqG; rw [List.replicate_succ']
      rw [if_pos (by omega), if_pos (by rw [eqG_len]; omega), e, w64n (by omega)]
      exact ih (i + 1) f (by omega) (by omega) (by omega)

theorem l09Equal_f {k n : Nat} {r gap : Int} (hk : 2097152 ≤ k) (hn : n ≤ 6) : spec_l09Equal.f k n r gap = some (eqG n gap) := by
  unfold spec_l09Equal.f spec_l09Equal.g
  exact l09Equal_loop hn n 0 k rfl (by omega) (by omega)

theorem specG_loop {k n : Nat} {r m : Int} (hk : 2097152 ≤ k) (hg : isGr n r = true) (h0 : 1 ≤ n) (h1 : n ≤ 6) (m1 : m ≤ 10) (hs : (n : Int) * cnt (eqG n m) ≤ 20000) : ∀ (d : Nat) (gap : Int) (f : Nat), (m + 1 - gap).toNat = d → 1 ≤ gap → gap ≤ m + 1 → d < f →
    spec_LeastEqualGap.l0 k f m n r gap = some (leastG n r m gap d) := by
  intro d
  induction d with
  | zero =>
    intro gap f hd h2 h3 hf
    cases f with
    | zero => omega
    | succ f =>
      simp only [spec_LeastEqualGap.l0, spec_LeastEqualGap.s0]
      rw [if_neg (by omega)]
      rfl
  | succ d ih =>
    intro gap f hd h2 h3 hf
    cases f with
    | zero => omega
    | succ f =>
      simp only [spec_LeastEqualGap.l0, spec_LeastEqualGap.s0, leastG]
      have hc := eqG_W (r := r) hg h0 h1 h2 (show gap ≤ m by omega) m1 hs
      have W := codeW_zero hc
      rw [if_pos (by omega), l09Equal_f hk h1, Option.bind_some, l09Safe_f W hk, Option.bind_some, begin_f W hk, Option.bind_some, eqG_len, w64 (by omega) (by omega)]
      by_cases h : 0 ≤ (beginF r (eqG n gap) 0 n).getD (-1)
      · rw [if_pos h, if_pos h]
      · rw [if_neg h, if_neg h]
        exact ih (gap + 1) f (by omega) (by omega) (by omega) (by omega)

theorem implG_loop {k n : Nat} {r m : Int} (hk : 2097152 ≤ k) (hg : isGr n r = true) (h0 : 1 ≤ n) (h1 : n ≤ 6) (m1 : m ≤ 10) (hs : (n : Int) * cnt (eqG n m) ≤ 20000) : ∀ (d : Nat) (gap : Int) (f : Nat), (m + 1 - gap).toNat = d → 1 ≤ gap → gap ≤ m + 1 → d < f →
    impl_LeastEqualGap.l1 k f m n r gap = some (leastG n r m gap d) := by
  intro d
  induction d with
  | zero =>
    intro gap f hd h2 h3 hf
    cases f with
    | zero => omega
    | succ f =>
      simp only [impl_LeastEqualGap.l1, impl_LeastEqualGap.s1]
      rw [if_neg (by omega)]
      rfl
  | succ d ih =>
    intro gap f hd h2 h3 hf
    cases f with
    | zero => omega
    | succ f =>
      simp only [impl_LeastEqualGap.l1, impl_LeastEqualGap.s1, leastG]
      have hc := eqG_W (r := r) hg h0 h1 h2 (show gap ≤ m by omega) m1 hs
      have hrep : slices_Repeat_int64_int64.f [gap] (n : Int) = some (eqG n gap) := by
        unfold slices_Repeat_int64_int64.f
        exact if_pos (by omega)
      have hcan : canW n r (eqG n gap) = (decide (0 ≤ (beginF r (eqG n gap) 0 n).getD (-1)), 0) := by
        unfold canW; rw [if_pos hc, eqG_len]
      rw [if_pos (by omega), hrep, Option.bind_some, impl_CanWatch_f hk (by rw [eqG_len]; omega), Option.bind_some, hcan, w64 (by omega) (by omega)]
      by_cases h : 0 ≤ (beginF r (eqG n gap) 0 n).getD (-1)
      · rw [if_pos (decide_eq_true h), if_pos h]
      · rw [if_neg (by simpa using h), if_neg h]
        exact ih (gap + 1) f (by omega) (by omega) (by omega) (by omega)

theorem implG_all {k n : Nat} {r m : Int} (hk : 2097152 ≤ k) (h0 : 1 ≤ n) (h1 : n ≤ 6) (m0 : 1 ≤ m) (m1 : m ≤ 10) : ∀ (d i f : Nat) (a : Int), n - i = d → i ≤ n → d < f → 1 ≤ a → a * cnt (eqG d m) ≤ 65536000000000 →
    impl_LeastEqualGap.l0 k f m n r a n i = if 20000 < a * cnt (eqG d m) then some (0, 3) else impl_LeastEqualGap.l1 k k m n r 1 := by
  intro d
  induction d with
  | zero =>
    intro i f a hd hi hf ha hb
    cases f with
    | zero => omega
    | succ f =>
      simp only [impl_LeastEqualGap.l0, impl_LeastEqualGap.s0]
      rw [if_neg (by omega)]
      simp [eqG, cnt]
  | succ d ih =>
    intro i f a hd hi hf ha hb
    cases f with
    | zero => omega
    | succ f =>
      simp only [impl_LeastEqualGap.l0, impl_LeastEqualGap.s0]
      have e : cnt (eqG (d + 1) m) = m * cnt (eqG d m) := by simp [eqG, List.replicate_succ, cnt]
      rw [e] at hb ⊢
      obtain ⟨c1, c2⟩ := mul_bnd ha m0 (eqG_cnt m0 (Int.le_refl m) d).1 hb
      rw [if_pos (by omega), w64 (by omega) (by omega), w64n (by omega), ih (i + 1) f _ (by omega) (by omega) (by omega) c1 (by rw [Int.mul_assoc]; exact hb), Int.mul_assoc]

end Go.Proofs.Ytcbhhbkghbnljaa.Vf
