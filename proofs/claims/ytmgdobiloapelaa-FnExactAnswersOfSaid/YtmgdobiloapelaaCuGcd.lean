/- Greatest common divisors and fractions in lowest terms, the reference's and the program's. -/
import Derived.Test.YtmgdobiloapelaaCx4
import Derived.Test.YtmgdobiloapelaaCuBase
set_option linter.unusedVariables false
set_option linter.unusedSimpArgs false
namespace Go.Proofs.Ytmgdobiloapelaa.Cb
open Go.RowKit Go.Proofs.YtmgdobiloapelaaW.PrintWords Go.Proofs.YtmgdobiloapelaaW.PrintLast Go.Proofs.Ytmgdobiloapelaa.C

theorem tmod_nat (a b : Nat) : Int.tmod (a : Int) (b : Int) = ((a % b : Nat) : Int) := rfl
theorem tdiv_nat (a b : Nat) : Int.tdiv (a : Int) (b : Int) = ((a / b : Nat) : Int) := rfl
theorem divisor_loop (b : Nat) : ∀ a : Nat, Ev (fun k => impl_divisor.l0 k (a : Int) (b : Int)) ((Nat.gcd a b : Nat) : Int) := by
  induction b using Nat.strongRecOn with
  | _ b ih =>
    intro a
    refine ev_succ ?_
    simp only [impl_divisor.l0]
    by_cases hb : b = 0
    · subst hb
      exact ev_pos rfl (ev_val (Ev.now _) (by simp))
    · refine ev_neg (by omega) ?_
      rw [tmod_nat]
      exact ev_val (ih (a % b) (Nat.mod_lt _ (by omega)) b) (by rw [Nat.gcd_comm a b, Nat.gcd_rec b a, Nat.gcd_comm])
theorem divisor_ev (a b : Nat) : Ev (fun k => impl_divisor.f k (a : Int) (b : Int)) ((Nat.gcd a b : Nat) : Int) := divisor_loop b a
/-- Fractions in lowest terms are told by their values. -/
theorem low_cop {a b : Nat} (hb : 0 < b) : Nat.Coprime (a / Nat.gcd a b) (b / Nat.gcd a b) := Nat.coprime_div_gcd_div_gcd (Nat.gcd_pos_of_pos_right a hb)
theorem cop_eq {a b c d : Nat} (hb : 0 < b) (hd : 0 < d) (h1 : Nat.Coprime a b) (h2 : Nat.Coprime c d) (h : a * d = c * b) : a = c ∧ b = d := by
  have e1 : b ∣ d := Nat.Coprime.dvd_of_dvd_mul_left (k := b) (m := a) h1.symm ⟨c, by rw [h, Nat.mul_comm]⟩
  have e2 : d ∣ b := Nat.Coprime.dvd_of_dvd_mul_left (k := d) (m := c) h2.symm ⟨a, by rw [← h, Nat.mul_comm]⟩
  obtain rfl := Nat.dvd_antisymm e1 e2
  exact ⟨Nat.eq_of_mul_eq_mul_right hb h, rfl⟩
theorem low_mul {a b : Nat} (hb : 0 < b) : a / Nat.gcd a b * Nat.gcd a b = a ∧ b / Nat.gcd a b * Nat.gcd a b = b ∧ 0 < b / Nat.gcd a b := by
  refine ⟨Nat.div_mul_cancel (Nat.gcd_dvd_left a b), Nat.div_mul_cancel (Nat.gcd_dvd_right a b), ?_⟩
  exact Nat.div_pos (Nat.le_of_dvd hb (Nat.gcd_dvd_right a b)) (Nat.gcd_pos_of_pos_right a hb)
theorem low_eq {a b c d : Nat} (hb : 0 < b) (hd : 0 < d) (h : a * d = c * b) : a / Nat.gcd a b = c / Nat.gcd c d ∧ b / Nat.gcd a b = d / Nat.gcd c d := by
  obtain ⟨h1, h2, h3⟩ := low_mul (a := a) hb
  obtain ⟨h4, h5, h6⟩ := low_mul (a := c) hd
  refine cop_eq h3 h6 (low_cop hb) (low_cop hd) ?_
  have hg : 0 < Nat.gcd a b := Nat.gcd_pos_of_pos_right a hb
  have hg' : 0 < Nat.gcd c d := Nat.gcd_pos_of_pos_right c hd
  generalize a / Nat.gcd a b = x at *
  generalize b / Nat.gcd a b = y at *
  generalize c / Nat.gcd c d = z at *
  generalize d / Nat.gcd c d = u at *
  generalize Nat.gcd a b = g at *
  generalize Nat.gcd c d = g' at *
  subst h1 h2 h4 h5
  have : (x * u) * (g * g') = (z * y) * (g * g') := by grind
  exact Nat.eq_of_mul_eq_mul_right (Nat.mul_pos hg hg') this
end Go.Proofs.Ytmgdobiloapelaa.Cb
