/- Turns of so many tasks, as the reference looks at them. -/
import Derived.Test.YtdleajokhhijhaaDx2
import Derived.Test.YtdleajokhhijhaaDx3
import Derived.Test.YtdleajokhhijhaaDuLaws
set_option linter.unusedVariables false
set_option linter.unusedSimpArgs false
namespace Go.Proofs.Ytdleajokhhijhaa.Db
open Go.RowKit Go.Proofs.YtdleajokhhijhaaW.PrintWords Go.Proofs.YtdleajokhhijhaaW.PrintLast Go.Proofs.Ytdleajokhhijhaa.D

theorem in_some (a b c : Int) : spec_l01In.f a b c = some (inB b c a) := by
  unfold spec_l01In.f inB
  by_cases h : a ≥ b
  · rw [if_pos h, decide_eq_true (show b ≤ a from h), Bool.true_and]
  · rw [if_neg h, decide_eq_false (show ¬ b ≤ a from h), Bool.false_and]
theorem inB_iff (a b c : Int) : inB b c a = true ↔ b ≤ a ∧ a ≤ c := by simp [inB]
theorem all_iff (l : List Int) (a b : Int) : l.all (inB a b) = true ↔ ∀ x ∈ l, a ≤ x ∧ x ≤ b := by simp [List.all_eq_true, inB_iff]
/-- Turns of m tasks. -/
def turnsB (l : List Int) (m : Int) : Bool := inB 1 120 (l.length : Int) && l.all (inB (-1) (m - 1))
theorem l01Turns_loop (l : List Int) (m : Int) (hm : 0 ≤ m) (hm2 : m ≤ 1000) (hl : l.length ≤ 35184372088832) : ∀ (suf : List Int) (i : Nat), l.drop i = suf →
    Ev (fun k => spec_l01Turns.l0 k l m i) (inB 1 120 (l.length : Int) && suf.all (inB (-1) (m - 1))) := by
  intro suf
  induction suf with
  | nil =>
    intro i h
    have hi := drop_nil h
    refine ev_succ ?_
    simp only [spec_l01Turns.l0]
    exact ev_neg (by omega) (ev_bnd (in_some _ _ _) (ev_val (Ev.now _) (by simp)))
  | cons x suf ih =>
    intro i h
    obtain ⟨hi, hx, hs⟩ := drop_split h
    refine ev_succ ?_
    simp only [spec_l01Turns.l0]
    refine ev_pos (by omega) (ev_pos (by omega) (ev_bnd (in_some _ _ _) ?_))
    rw [hx, w64 (x := m - 1) (by omega) (by omega)]
    by_cases hb : inB (-1) (m - 1) x = true
    · refine ev_pos hb ?_
      rw [w64n (by omega)]
      exact ev_val (ih (i + 1) hs) (by simp [hb])
    · exact ev_neg hb (ev_val (Ev.now _) (by simp [hb]))
theorem l01Turns_ev (l : List Int) (m : Int) (hm : 0 ≤ m) (hm2 : m ≤ 1000) (hl : l.length ≤ 35184372088832) : Ev (fun k => spec_l01Turns.f k l m) (turnsB l m) := by
  unfold spec_l01Turns.f turnsB
  exact l01Turns_loop l m hm hm2 hl l 0 (by simp)
theorem turnsB_iff (l : List Int) (m : Int) : turnsB l m = true ↔ (1 ≤ l.length ∧ l.length ≤ 120) ∧ ∀ x ∈ l, -1 ≤ x ∧ x ≤ m - 1 := by
  unfold turnsB
  rw [Bool.and_eq_true, inB_iff, all_iff]
  constructor
  · rintro ⟨h1, h2⟩; exact ⟨by omega, h2⟩
  · rintro ⟨h1, h2⟩; exact ⟨by omega, h2⟩
end Go.Proofs.Ytdleajokhhijhaa.Db
