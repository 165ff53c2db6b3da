/- Jobs: the look at them, copies, comparisons. -/
import Derived.Test.YtmgdobiloapelaaQ01
import Derived.Test.YtmgdobiloapelaaQMark
set_option linter.unusedVariables false
set_option linter.unusedSimpArgs false
namespace Go.Proofs.Ytmgdobiloapelaa.Vf
open Go Go.V Go.RowKit

def inB (a b x : Int) : Bool := decide (a ≤ x ∧ x ≤ b)
def jobAt (L P D : List Int) (i : Nat) : Bool := inB 1 20 (rd L i) && inB 1 60 (rd P i) && inB 1 (rd P i) (rd D i)
def jobsFrom (L P D : List Int) : Nat → Nat → Bool
  | 0, _ => true
  | d + 1, i => jobAt L P D i && jobsFrom L P D d (i + 1)
theorem jobsFrom_iff (L P D : List Int) : ∀ (d i : Nat), jobsFrom L P D d i = true ↔ ∀ j, i ≤ j → j < i + d → jobAt L P D j = true := by
  intro d
  induction d with
  | zero => intro i; simp only [jobsFrom, true_iff]; intro j h1 h2; omega
  | succ d ih =>
    intro i
    simp only [jobsFrom, Bool.and_eq_true, ih]
    constructor
    · rintro ⟨h1, h2⟩ j hj hj2
      rcases Nat.eq_or_lt_of_le hj with rfl | hlt
      · exact h1
      · exact h2 j hlt (by omega)
    · intro h
      exact ⟨h i (Nat.le_refl _) (by omega), fun j h1 h2 => h j (by omega) (by omega)⟩
def jobsOk (L P D : List Int) : Bool := inB 1 8 (L.length : Int) && decide (P.length = L.length) && decide (D.length = L.length) && jobsFrom L P D L.length 0
/-- What jobs are. -/
structure JobsP (L P D : List Int) : Prop where
  n1 : 1 ≤ L.length
  n8 : L.length ≤ 8
  hP : P.length = L.length
  hD : D.length = L.length
  each : ∀ i : Nat, i < L.length → (1 ≤ rd L i ∧ rd L i ≤ 20) ∧ (1 ≤ rd P i ∧ rd P i ≤ 60) ∧ 1 ≤ rd D i ∧ rd D i ≤ rd P i
theorem inB_iff (a b x : Int) : inB a b x = true ↔ a ≤ x ∧ x ≤ b := by unfold inB; rw [decide_eq_true_iff]
theorem jobsOk_iff (L P D : List Int) : jobsOk L P D = true ↔ JobsP L P D := by
  unfold jobsOk
  simp only [Bool.and_eq_true, decide_eq_true_eq, inB_iff, jobsFrom_iff, jobAt]
  constructor
  · rintro ⟨⟨⟨h1, h2⟩, h3⟩, h4⟩
    exact ⟨by omega, by omega, h2, h3, fun i hi => by have := h4 i (by omega) (by omega); omega⟩
  · rintro ⟨h1, h8, h2, h3, h4⟩
    exact ⟨⟨⟨⟨by omega, by omega⟩, h2⟩, h3⟩, fun j _ hj => by have := h4 j (by omega); omega⟩

theorem l04Is_loop {k : Nat} (L P D : List Int) (hn : L.length ≤ 8) (hP : P.length = L.length) (hD : D.length = L.length) : ∀ (d i n : Nat), L.length - i = d → i ≤ L.length → d < n →
    spec_l04Is.l0 k n L P D (L.length : Int) i = some (jobsFrom L P D d i) := by
  intro d
  induction d with
  | zero =>
    intro i n hd hi hn
    cases n with
    | zero => omega
    | succ n =>
      simp only [spec_l04Is.l0, spec_l04Is.s0]
      rw [if_neg (by omega)]
      rfl
  | succ d ih =>
    intro i n hd hi hn
    cases n with
    | zero => omega
    | succ n =>
      simp only [spec_l04Is.l0, spec_l04Is.s0, l01In_f, Option.bind_some]
      rw [if_pos (by omega), if_pos (by omega), if_pos (by omega), w64n (by omega), ih (i + 1) n (by omega) (by omega) (by omega)]
      simp only [jobsFrom, jobAt, inB]
      by_cases h1 : 1 ≤ rd L i ∧ rd L i ≤ 20
      · rw [decide_eq_true h1, if_pos rfl, if_pos (by omega), if_pos (by omega)]
        by_cases h2 : 1 ≤ rd P i ∧ rd P i ≤ 60
        · rw [decide_eq_true h2, if_pos rfl, if_pos (by omega), if_pos (by omega), if_pos (by omega), if_pos (by omega)]
          by_cases h3 : 1 ≤ rd D i ∧ rd D i ≤ rd P i
          · rw [decide_eq_true h3, if_pos rfl]; rfl
          · rw [decide_eq_false h3, if_neg (by simp)]; rfl
        · rw [decide_eq_false h2, if_neg (by simp)]; rfl
      · rw [decide_eq_false h1, if_neg (by simp)]; rfl

theorem l04Is_f {k : Nat} {L P D : List Int} (hk : 2097152 ≤ k) : spec_l04Is.f k L P D = some (jobsOk L P D) := by
  unfold spec_l04Is.f spec_l04Is.g jobsOk inB
  by_cases h1 : (L.length : Int) < 1
  · rw [if_pos h1, decide_eq_false (by omega)]; rfl
  rw [if_neg h1]
  by_cases h2 : 8 < (L.length : Int)
  · rw [if_pos h2, decide_eq_false (by omega)]; rfl
  rw [if_neg h2, decide_eq_true (show (1 : Int) ≤ L.length ∧ (L.length : Int) ≤ 8 by omega)]
  by_cases h3 : P.length = L.length
  · rw [if_pos (by omega), decide_eq_true h3]
    by_cases h4 : D.length = L.length
    · rw [if_pos (by omega), decide_eq_true h4]
      exact (l04Is_loop L P D (by omega) h3 h4 L.length 0 k (by omega) (by omega) (by omega)).trans (by simp)
    · rw [if_neg (by omega), decide_eq_false h4]; rfl
  · rw [if_neg (by omega), decide_eq_false h3]; rfl

theorem areJobs_loop {k : Nat} (L P D : List Int) (hn : L.length ≤ 8) (hP : P.length = L.length) (hD : D.length = L.length) : ∀ (d i n : Nat), L.length - i = d → i ≤ L.length → d < n →
    impl_AreJobs.l0 k n L P D P (P.length : Int) i = some (jobsFrom L P D d i) := by
  intro d
  induction d with
  | zero =>
    intro i n hd hi hn
    cases n with
    | zero => omega
    | succ n =>
      simp only [impl_AreJobs.l0, impl_AreJobs.s0]
      rw [if_neg (by omega)]
      rfl
  | succ d ih =>
    intro i n hd hi hn
    cases n with
    | zero => omega
    | succ n =>
      simp only [impl_AreJobs.l0, impl_AreJobs.s0, within_f, Option.bind_some]
      rw [if_pos (by omega), if_pos (by omega), if_pos (by omega), w64n (by omega), ih (i + 1) n (by omega) (by omega) (by omega)]
      simp only [jobsFrom, jobAt, inB]
      by_cases h2 : 1 ≤ rd P i ∧ rd P i ≤ 60
      · rw [decide_eq_true h2, if_pos rfl, if_pos (by omega), if_pos (by omega)]
        by_cases h1 : 1 ≤ rd L i ∧ rd L i ≤ 20
        · rw [decide_eq_true h1, if_pos rfl, if_pos (by omega), if_pos (by omega)]
          by_cases h3 : 1 ≤ rd D i ∧ rd D i ≤ rd P i
          · rw [decide_eq_true h3, if_pos rfl]; rfl
          · rw [decide_eq_false h3, if_neg (by simp)]; rfl
        · rw [decide_eq_false h1, if_neg (by simp)]; rfl
      · rw [decide_eq_false h2, if_neg (by simp), Bool.and_false]; rfl

theorem jobsMany_f (L P D : List Int) : impl_Jobs_many.f L P D = some (L.length : Int) := rfl

theorem areJobs_f {k : Nat} {L P D : List Int} (hk : 2097152 ≤ k) : impl_AreJobs.f k L P D = some (jobsOk L P D) := by
  unfold impl_AreJobs.f impl_AreJobs.g jobsOk inB
  rw [jobsMany_f, Option.bind_some, within_f, Option.bind_some]
  by_cases h1 : (1 : Int) ≤ L.length ∧ (L.length : Int) ≤ 8
  · rw [decide_eq_true h1, if_pos rfl]
    by_cases h3 : P.length = L.length
    · rw [if_pos (by omega), decide_eq_true h3]
      by_cases h4 : D.length = L.length
      · rw [if_pos (by omega), decide_eq_true h4]
        exact (areJobs_loop L P D (by omega) h3 h4 L.length 0 k (by omega) (by omega) (by omega)).trans (by simp)
      · rw [if_neg (by omega), decide_eq_false h4]; rfl
    · rw [if_neg (by omega), decide_eq_false h3]; rfl
  · rw [decide_eq_false h1, if_neg (by simp)]; rfl

/-! ### Copies, comparisons -/

end Go.Proofs.Ytmgdobiloapelaa.Vf
