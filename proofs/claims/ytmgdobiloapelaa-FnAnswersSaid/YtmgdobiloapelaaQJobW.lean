/- Jobs: greatest common divisors, the whole period, the codes. -/
import Derived.Test.YtmgdobiloapelaaQJobs
set_option linter.unusedVariables false
set_option linter.unusedSimpArgs false
namespace Go.Proofs.Ytmgdobiloapelaa.Vf
open Go Go.V Go.RowKit

theorem tmodN (a b : Nat) : Int.tmod (a : Int) (b : Int) = ((a % b : Nat) : Int) := rfl
theorem tdivN (a b : Nat) : Int.tdiv (a : Int) (b : Int) = ((a / b : Nat) : Int) := rfl

theorem gcdF {k : Nat} : ∀ (n a b : Nat), b < 2 ^ n → ∀ m, 2 * n + 1 ≤ m → impl_divisor.l0 k m (a : Int) (b : Int) = some ((Nat.gcd a b : Nat) : Int) ∧ spec_l01Gcd.l0 k m (a : Int) (b : Int) = some ((Nat.gcd a b : Nat) : Int) := by
  have zero : ∀ (a m : Nat), 1 ≤ m → impl_divisor.l0 k m (a : Int) ((0 : Nat) : Int) = some ((Nat.gcd a 0 : Nat) : Int) ∧ spec_l01Gcd.l0 k m (a : Int) ((0 : Nat) : Int) = some ((Nat.gcd a 0 : Nat) : Int) := by
    intro a m hm
    obtain ⟨m, rfl⟩ : ∃ m', m = m' + 1 := ⟨m - 1, by omega⟩
    simp only [impl_divisor.l0, impl_divisor.s0, spec_l01Gcd.l0, spec_l01Gcd.s0, Nat.gcd_zero_right]
    exact ⟨if_pos rfl, if_pos rfl⟩
  have step : ∀ (a b m : Nat), 0 < b → (impl_divisor.l0 k m (b : Int) ((a % b : Nat) : Int) = some ((Nat.gcd b (a % b) : Nat) : Int) ∧ spec_l01Gcd.l0 k m (b : Int) ((a % b : Nat) : Int) = some ((Nat.gcd b (a % b) : Nat) : Int)) →
      impl_divisor.l0 k (m + 1) (a : Int) (b : Int) = some ((Nat.gcd a b : Nat) : Int) ∧ spec_l01Gcd.l0 k (m + 1) (a : Int) (b : Int) = some ((Nat.gcd a b : Nat) : Int) := by
    intro a b m hb h
    simp only [impl_divisor.l0, impl_divisor.s0, spec_l01Gcd.l0, spec_l01Gcd.s0]
    rw [if_neg (by omega), if_neg (by omega), if_neg (by omega), if_neg (by omega), tmodN, h.1, h.2, Nat.gcd_comm a b, Nat.gcd_rec b a, Nat.gcd_comm]
    exact ⟨rfl, rfl⟩
  intro n
  induction n with
  | zero =>
    intro a b hb m hm
    obtain rfl : b = 0 := by simpa using hb
    exact zero a m (by omega)
  | succ n ih =>
    intro a b hb m hm
    by_cases h0 : b = 0
    · subst h0; exact zero a m (by omega)
    obtain ⟨m, rfl⟩ : ∃ m', m = m' + 2 := ⟨m - 2, by omega⟩
    refine step a b (m + 1) (by omega) ?_
    have h1 := Nat.mod_lt a (show 0 < b by omega)
    by_cases h2 : a % b = 0
    · rw [h2]; exact zero b (m + 1) (by omega)
    refine step b (a % b) m (by omega) ?_
    refine ih _ _ ?_ m (by omega)
    have h3 := Nat.mod_lt b (show 0 < a % b by omega)
    have h4 := Nat.div_add_mod b (a % b)
    have h5 : 1 ≤ b / (a % b) := Nat.div_pos (by omega) (by omega)
    have h6 : a % b ≤ (a % b) * (b / (a % b)) := Nat.le_mul_of_pos_right _ h5
    have h7 : 2 ^ (n + 1) = 2 * 2 ^ n := by rw [Nat.pow_succ, Nat.mul_comm]
    omega

theorem divisor_f {k : Nat} (hk : 2097152 ≤ k) {a b : Nat} (hb : b < 2 ^ 63) : impl_divisor.f k (a : Int) (b : Int) = some ((Nat.gcd a b : Nat) : Int) := by
  unfold impl_divisor.f impl_divisor.g
  exact (gcdF 63 a b hb k (by omega)).1
theorem l01Gcd_f {k : Nat} (hk : 2097152 ≤ k) {a b : Nat} (hb : b < 2 ^ 63) : spec_l01Gcd.f k (a : Int) (b : Int) = some ((Nat.gcd a b : Nat) : Int) := by
  unfold spec_l01Gcd.f spec_l01Gcd.g
  exact (gcdF 63 a b hb k (by omega)).2

theorem lcm_step {a b : Nat} (ha : 0 < a) : a / Nat.gcd a b * b = Nat.lcm a b := by
  unfold Nat.lcm
  rw [Nat.mul_comm a b, Nat.mul_div_assoc _ (Nat.gcd_dvd_left a b), Nat.mul_comm]

/-- The whole period, on from a number. -/
def lcmF : List Int → Nat → Nat
  | [], a => a
  | p :: ps, a => lcmF ps (Nat.lcm a p.toNat)
def wholeN (P : List Int) : Nat := lcmF P 1

theorem lcmF_pos : ∀ (P : List Int) (a : Nat), 0 < a → (∀ p ∈ P, 1 ≤ p ∧ p ≤ 60) → 0 < lcmF P a ∧ a ∣ lcmF P a ∧ (∀ p ∈ P, p.toNat ∣ lcmF P a) ∧ lcmF P a ≤ a * 60 ^ P.length
  | [], a, h, _ => ⟨h, Nat.dvd_refl a, fun p hp => by simp at hp, by simp [lcmF]⟩
  | p :: ps, a, h, hp => by
    have h1 := hp p (by simp)
    have hl := Nat.lcm_pos h (show 0 < p.toNat by omega)
    obtain ⟨q1, q2, q3, q4⟩ := lcmF_pos ps (Nat.lcm a p.toNat) hl (fun q hq => hp q (by simp [hq]))
    refine ⟨q1, Nat.dvd_trans (Nat.dvd_lcm_left _ _) q2, ?_, ?_⟩
    · intro q hq
      rcases List.mem_cons.1 hq with rfl | hq
      · exact Nat.dvd_trans (Nat.dvd_lcm_right _ _) q2
      · exact q3 q hq
    · refine Nat.le_trans q4 ?_
      have : Nat.lcm a p.toNat ≤ a * 60 := Nat.le_trans (Nat.le_of_dvd (Nat.mul_pos h (by omega)) (Nat.lcm_dvd (Nat.dvd_mul_right a _) (Nat.dvd_mul_left _ a))) (Nat.mul_le_mul_left a (show p.toNat ≤ 60 by omega))
      rw [List.length_cons, Nat.pow_succ, Nat.mul_comm (60 ^ ps.length) 60, ← Nat.mul_assoc]
      exact Nat.mul_le_mul_right _ this

theorem pow60 {n : Nat} (h : n ≤ 8) : 60 ^ n ≤ 167961600000000 := Nat.le_trans (Nat.pow_le_pow_right (by omega) h) (by decide)

theorem multiple_loop {k : Nat} (hk : 2097152 ≤ k) {P : List Int} (hp : ∀ p ∈ P, 1 ≤ p ∧ p ≤ 60) (hl : P.length ≤ 8) : ∀ (d i n a : Nat), P.length - i = d → i ≤ P.length → d < n → 0 < a → a * 60 ^ d ≤ 167961600000000 →
    impl_Tasks_multiple.l0 k n (a : Int) P P.length i = some ((lcmF (P.drop i) a : Nat) : Int) := by
  intro d
  induction d with
  | zero =>
    intro i n a hd hi hn ha hb
    cases n with
    | zero => omega
    | succ n =>
      simp only [impl_Tasks_multiple.l0, impl_Tasks_multiple.s0]
      rw [if_neg (by omega), show i = P.length by omega, List.drop_length]
      rfl
  | succ d ih =>
    intro i n a hd hi hn ha hb
    cases n with
    | zero => omega
    | succ n =>
      have h1 := hp _ (rd_mem (l := P) (i := i) (by omega))
      obtain ⟨p, e⟩ := Int.eq_ofNat_of_zero_le (show 0 ≤ rd P i by omega)
      have hg : 0 < Nat.gcd a p := Nat.gcd_pos_of_pos_left _ ha
      have hq := Nat.div_le_self a (Nat.gcd a p)
      have hlc : Nat.lcm a p ≤ a * 60 := Nat.le_trans (Nat.le_of_dvd (Nat.mul_pos ha (by omega)) (Nat.lcm_dvd (Nat.dvd_mul_right a _) (Nat.dvd_mul_left _ a))) (Nat.mul_le_mul_left a (show p ≤ 60 by omega))
      have h60 : 1 ≤ 60 ^ d := Nat.pow_pos (by omega)
      have hb2 : a * 60 * 60 ^ d ≤ 167961600000000 := by rw [Nat.mul_assoc, Nat.mul_comm 60, ← Nat.pow_succ]; exact hb
      have ha60 : a * 60 ≤ a * 60 * 60 ^ d := Nat.le_mul_of_pos_right _ h60
      simp only [impl_Tasks_multiple.l0, impl_Tasks_multiple.s0]
      rw [if_pos (by omega), if_pos (by omega), if_pos (by omega), e, divisor_f hk (by omega), Option.bind_some, if_neg (by omega), tdivN, w64 (x := ((a / Nat.gcd a p : Nat) : Int)) (Int.le_trans (by decide) (Int.natCast_nonneg _)) (by omega), ← Int.natCast_mul, lcm_step ha, w64 (x := ((Nat.lcm a p : Nat) : Int)) (by omega) (by omega), w64n (by omega), drop_cons (l := P) (i := i) (by omega), e]
      exact ih (i + 1) n _ (by omega) (by omega) (by omega) (Nat.lcm_pos ha (by omega)) (Nat.le_trans (Nat.mul_le_mul_right _ hlc) hb2)

theorem JobsP.mem {L P D : List Int} (h : JobsP L P D) : ∀ x ∈ P, 1 ≤ x ∧ x ≤ 60 := by
  intro x hx
  obtain ⟨i, hi, rfl⟩ := List.mem_iff_getElem.mp hx
  have := (h.each i (by rw [← h.hP]; exact hi)).2.1
  rwa [rd_lt hi] at this

theorem JobsP.whole {L P D : List Int} (J : JobsP L P D) : 0 < wholeN P ∧ wholeN P ≤ 167961600000000 ∧ ∀ i : Nat, i < L.length → (rd P i).toNat ∣ wholeN P := by
  have hn := J.n8
  have hP := J.hP
  obtain ⟨q1, q2, q3, q4⟩ := lcmF_pos P 1 (by omega) J.mem
  refine ⟨q1, ?_, fun i hi => q3 _ (rd_mem (by omega))⟩
  rw [Nat.one_mul] at q4
  exact Nat.le_trans q4 (pow60 (by omega))

theorem whole_f {k : Nat} (hk : 2097152 ≤ k) {L P D : List Int} (J : JobsP L P D) : impl_Jobs_whole.f k L P D = some ((wholeN P : Nat) : Int) := by
  have hn := J.n8
  have hP := J.hP
  unfold impl_Jobs_whole.f impl_Tasks_multiple.f impl_Tasks_multiple.g
  have := multiple_loop hk J.mem (by omega) P.length 0 k 1 (by omega) (by omega) (by omega) (by omega) (by rw [Nat.one_mul]; exact pow60 (by omega))
  rw [List.drop_zero] at this
  rw [show ((1 : Nat) : Int) = 1 from rfl, show ((0 : Nat) : Int) = 0 from rfl] at this
  rw [this]
  rfl

theorem l01Lcm_f {k : Nat} (hk : 2097152 ≤ k) {a b : Nat} (ha : 0 < a) (hb : 0 < b) (h : a * b ≤ 9223372036854775807) : spec_l01Lcm.f k (a : Int) (b : Int) = some ((Nat.lcm a b : Nat) : Int) := by
  unfold spec_l01Lcm.f
  have hg : 0 < Nat.gcd a b := Nat.gcd_pos_of_pos_left _ ha
  have hq := Nat.div_le_self a (Nat.gcd a b)
  have hl : Nat.lcm a b ≤ a * b := Nat.le_of_dvd (Nat.mul_pos ha hb) (Nat.lcm_dvd (Nat.dvd_mul_right a _) (Nat.dvd_mul_left _ a))
  have ha2 : a ≤ a * b := Nat.le_mul_of_pos_right a hb
  have hb2 : b ≤ a * b := Nat.le_mul_of_pos_left b ha
  rw [l01Gcd_f hk (by omega), Option.bind_some, if_neg (by omega), tdivN, w64 (x := ((a / Nat.gcd a b : Nat) : Int)) (Int.le_trans (by decide) (Int.natCast_nonneg _)) (by omega), ← Int.natCast_mul, lcm_step ha, w64 (by omega) (by omega)]

theorem l04Whole_loop {k : Nat} (hk : 2097152 ≤ k) (L D : List Int) {P : List Int} (hp : ∀ p ∈ P, 1 ≤ p ∧ p ≤ 60) (hl : P.length ≤ 8) : ∀ (d i n a : Nat), P.length - i = d → i ≤ P.length → d < n → 0 < a →
    ∃ r : Nat, spec_l04Whole.l0 k n L P D (a : Int) i = some (r : Int) ∧ (lcmF (P.drop i) a ≤ 240 → r = lcmF (P.drop i) a) ∧ (240 < lcmF (P.drop i) a → 240 < r) := by
  intro d
  induction d with
  | zero =>
    intro i n a hd hi hn ha
    cases n with
    | zero => omega
    | succ n =>
      simp only [spec_l04Whole.l0, spec_l04Whole.s0]
      rw [if_neg (by omega), show i = P.length by omega, List.drop_length]
      exact ⟨a, rfl, fun _ => rfl, fun h => h⟩
  | succ d ih =>
    intro i n a hd hi hn ha
    cases n with
    | zero => omega
    | succ n =>
      have h1 := hp _ (rd_mem (l := P) (i := i) (by omega))
      obtain ⟨p, e⟩ := Int.eq_ofNat_of_zero_le (show 0 ≤ rd P i by omega)
      simp only [spec_l04Whole.l0, spec_l04Whole.s0]
      rw [if_pos (by omega)]
      by_cases c : a ≤ 240
      · have hab : a * p ≤ 240 * 60 := Nat.mul_le_mul c (by omega)
        rw [if_pos (by omega), if_pos (by omega), if_pos (by omega), e, l01Lcm_f hk ha (by omega) (by omega), Option.bind_some, w64n (by omega), drop_cons (l := P) (i := i) (by omega), e]
        exact ih (i + 1) n _ (by omega) (by omega) (by omega) (Nat.lcm_pos ha (by omega))
      · rw [if_neg (by omega)]
        obtain ⟨q1, q2, _⟩ := lcmF_pos (P.drop i) a ha (fun q hq => hp q (List.mem_of_mem_drop hq))
        have := Nat.le_of_dvd q1 q2
        exact ⟨a, rfl, fun h => by omega, fun h => by omega⟩

theorem l04Whole_f {k : Nat} (hk : 2097152 ≤ k) {L P D : List Int} (J : JobsP L P D) : ∃ r : Nat, spec_l04Whole.f k L P D = some (r : Int) ∧ (wholeN P ≤ 240 → r = wholeN P) ∧ (240 < wholeN P → 240 < r) := by
  have hn := J.n8
  have hP := J.hP
  have := l04Whole_loop hk L D J.mem (by omega) P.length 0 k 1 (by omega) (by omega) (by omega) (by omega)
  rw [List.drop_zero] at this
  exact this

theorem l04Whole_f' {k : Nat} (hk : 2097152 ≤ k) {L P D : List Int} (J : JobsP L P D) (h : wholeN P ≤ 240) : spec_l04Whole.f k L P D = some (wholeN P : Int) := by
  obtain ⟨r, h1, h2, _⟩ := l04Whole_f hk J
  rw [h1, h2 h]

def codeJ (L P D : List Int) : Int := if jobsOk L P D = true then (if 240 < wholeN P then 3 else 0) else 1

theorem codeJ_zero {L P D : List Int} (h : codeJ L P D = 0) : JobsP L P D ∧ wholeN P ≤ 240 := by
  unfold codeJ at h
  split at h
  · rename_i h1
    refine ⟨(jobsOk_iff L P D).mp h1, ?_⟩
    split at h
    · simp at h
    · omega
  · simp at h

theorem l04Code_f {k : Nat} (hk : 2097152 ≤ k) {L P D : List Int} : spec_l04Code.f k L P D = some (codeJ L P D) := by
  unfold spec_l04Code.f codeJ
  rw [l04Is_f hk, Option.bind_some]
  by_cases h : jobsOk L P D = true
  · obtain ⟨r, hr, h1, h2⟩ := l04Whole_f hk ((jobsOk_iff L P D).mp h)
    rw [if_pos h, h, if_neg (by simp), hr, Option.bind_some]
    by_cases h3 : 240 < wholeN P
    · have := h2 h3
      rw [if_pos h3, if_pos (by rw [decide_eq_true_iff]; omega)]
    · have := h1 (by omega)
      rw [if_neg h3, if_neg (by rw [decide_eq_true_iff]; omega)]
  · rw [if_neg h, if_pos (by simpa using h)]

theorem jobsCode_f {k : Nat} (hk : 2097152 ≤ k) {L P D : List Int} : impl_jobsCode.f k L P D true true = some (codeJ L P D) := by
  unfold impl_jobsCode.f codeJ
  rw [areJobs_f hk, Option.bind_some]
  by_cases h : jobsOk L P D = true
  · rw [if_pos h, h, if_neg (by simp), if_neg (by simp), if_pos rfl, whole_f hk ((jobsOk_iff L P D).mp h), Option.bind_some]
    by_cases h3 : 240 < wholeN P
    · rw [if_pos h3, if_pos (by rw [decide_eq_true_iff]; omega)]
    · rw [if_neg h3, if_neg (by rw [decide_eq_true_iff]; omega)]
  · rw [if_neg h, if_pos (by simpa using h)]

theorem jobsCode2_f {k : Nat} (hk : 2097152 ≤ k) {L P D : List Int} (b : Bool) : impl_jobsCode.f k L P D b false = some (if jobsOk L P D = true then (if b = true then 0 else 2) else 1) := by
  unfold impl_jobsCode.f
  rw [areJobs_f hk, Option.bind_some]
  by_cases h : jobsOk L P D = true
  · rw [if_pos h, h, if_neg (by simp)]
    cases b
    · rw [if_pos (by simp), if_neg (by simp)]
    · rw [if_neg (by simp), if_neg (by simp), if_pos rfl]
  · rw [if_neg h, if_pos (by simpa using h)]

end Go.Proofs.Ytmgdobiloapelaa.Vf
