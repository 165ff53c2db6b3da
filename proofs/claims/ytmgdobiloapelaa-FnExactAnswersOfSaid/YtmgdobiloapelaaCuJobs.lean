/- Jobs: the look at them, their whole period, their code. -/
import Derived.Test.YtmgdobiloapelaaCx1
import Derived.Test.YtmgdobiloapelaaCx2
import Derived.Test.YtmgdobiloapelaaCx4
import Derived.Test.YtmgdobiloapelaaCx5
import Derived.Test.YtmgdobiloapelaaCx7
import Derived.Test.YtmgdobiloapelaaCuEven
import Derived.Test.YtmgdobiloapelaaCuTurns
import Derived.Test.YtmgdobiloapelaaCuLaws
set_option linter.unusedVariables false
set_option linter.unusedSimpArgs false
namespace Go.Proofs.Ytmgdobiloapelaa.Cb
open Go.RowKit Go.Proofs.YtmgdobiloapelaaW.PrintWords Go.Proofs.YtmgdobiloapelaaW.PrintLast Go.Proofs.Ytmgdobiloapelaa.C

theorem within_some (a b c : Int) : impl_within.f a b c = some (inB b c a) := by
  unfold impl_within.f inB
  split <;> simp [*]
def jobAt (L P D : List Int) (i : Nat) : Bool := inB 1 20 (rd L i) && inB 1 60 (rd P i) && inB 1 (rd P i) (rd D i)
def jobsFrom (L P D : List Int) : Nat → Nat → Bool
  | 0, _ => true
  | d + 1, i => jobAt L P D i && jobsFrom L P D d (i + 1)
theorem jobsFrom_iff (L P D : List Int) : ∀ (d i : Nat), jobsFrom L P D d i = true ↔ ∀ j, i ≤ j → j < i + d → jobAt L P D j = true := by
  intro d
  induction d with
  | zero => intro i; simp only [jobsFrom, true_iff]; intro j h1 h2; omega
  | succ d ih =>
    intro i
    simp only [jobsFrom, Bool.and_eq_true, ih]
    constructor
    · rintro ⟨h1, h2⟩ j hj hj2
      rcases Nat.eq_or_lt_of_le hj with rfl | hlt
      · exact h1
      · exact h2 j hlt (by omega)
    · intro h
      exact ⟨h i (Nat.le_refl _) (by omega), fun j h1 h2 => h j (by omega) (by omega)⟩
def jobsOk (L P D : List Int) : Bool := inB 1 8 (L.length : Int) && decide (P.length = L.length) && decide (D.length = L.length) && jobsFrom L P D L.length 0
/-- What jobs are. -/
structure JobsP (L P D : List Int) : Prop where
  n1 : 1 ≤ L.length
  n8 : L.length ≤ 8
  hP : P.length = L.length
  hD : D.length = L.length
  each : ∀ i : Nat, i < L.length → (1 ≤ rd L i ∧ rd L i ≤ 20) ∧ (1 ≤ rd P i ∧ rd P i ≤ 60) ∧ 1 ≤ rd D i ∧ rd D i ≤ rd P i
theorem jobsOk_iff (L P D : List Int) : jobsOk L P D = true ↔ JobsP L P D := by
  unfold jobsOk
  simp only [Bool.and_eq_true, decide_eq_true_eq, inB_iff, jobsFrom_iff, jobAt]
  constructor
  · rintro ⟨⟨⟨h1, h2⟩, h3⟩, h4⟩
    exact ⟨by omega, by omega, h2, h3, fun i hi => by have := h4 i (by omega) (by omega); omega⟩
  · rintro ⟨h1, h8, h2, h3, h4⟩
    exact ⟨⟨⟨⟨by omega, by omega⟩, h2⟩, h3⟩, fun j _ hj => by have := h4 j (by omega); omega⟩
theorem l04Is_loop (L P D : List Int) (hn : L.length ≤ 8) (hP : P.length = L.length) (hD : D.length = L.length) : ∀ (d i : Nat), L.length - i = d → i ≤ L.length →
    Ev (fun k => spec_l04Is.l0 k (L.length : Int) i L P D) (jobsFrom L P D d i) := by
  intro d
  induction d with
  | zero =>
    intro i hd hi
    refine ev_succ ?_
    simp only [spec_l04Is.l0]
    exact ev_neg (by omega) (Ev.now _)
  | succ d ih =>
    intro i hd hi
    refine ev_succ ?_
    simp only [spec_l04Is.l0]
    refine ev_pos (by omega) (ev_pos (by omega) (ev_pos (by omega) (ev_bnd (in_some _ _ _) ?_)))
    by_cases h1 : inB 1 20 (rd L i) = true
    · refine ev_pos h1 (ev_pos (by omega) (ev_bnd (in_some _ _ _) ?_))
      by_cases h2 : inB 1 60 (rd P i) = true
      · refine ev_pos h2 (ev_pos (by omega) (ev_bnd (in_some _ _ _) ?_))
        by_cases h3 : inB 1 (rd P i) (rd D i) = true
        · refine ev_pos h3 ?_
          rw [w64n (by omega)]
          exact ev_val (ih (i + 1) (by omega) (by omega)) (by simp [jobsFrom, jobAt, h1, h2, h3])
        · exact ev_neg h3 (ev_val (Ev.now _) (by simp [jobsFrom, jobAt, h3]))
      · exact ev_neg h2 (ev_val (Ev.now _) (by simp [jobsFrom, jobAt, h2]))
    · exact ev_neg h1 (ev_val (Ev.now _) (by simp [jobsFrom, jobAt, h1]))
theorem l04Is_ev (L P D : List Int) : Ev (fun k => spec_l04Is.f k L P D) (jobsOk L P D) := by
  unfold spec_l04Is.f
  have no : ∀ (r : Bool), r = false → Ev (fun k => spec_l04Is.j0 k (L.length : Int) true L P D) r := by
    rintro r rfl
    refine ev_succ ?_
    simp only [spec_l04Is.j0]
    exact ev_pos trivial (Ev.now _)
  by_cases h1 : (L.length : Int) < 1
  · exact ev_pos h1 (no _ (by simp [jobsOk, inB, show ¬ (1 : Int) ≤ L.length by omega]))
  refine ev_neg h1 ?_
  by_cases h2 : (L.length : Int) > 8
  · exact ev_pos h2 (no _ (by simp [jobsOk, inB, show ¬ (L.length : Int) ≤ 8 by omega]))
  refine ev_neg h2 ?_
  by_cases h3 : P.length = L.length
  rotate_left
  · exact ev_neg (by omega) (no _ (by simp [jobsOk, h3]))
  refine ev_pos (by omega) ?_
  by_cases h4 : D.length = L.length
  · rw [show ((D.length : Int) != (L.length : Int)) = false by simp [h4]]
    refine ev_succ ?_
    simp only [spec_l04Is.j0]
    refine ev_neg (by simp) ?_
    refine ev_val (l04Is_loop L P D (by omega) h3 h4 L.length 0 (by omega) (by omega)) ?_
    simp [jobsOk, h3, h4, inB, show (1 : Int) ≤ L.length by omega, show (L.length : Int) ≤ 8 by omega]
  · rw [show ((D.length : Int) != (L.length : Int)) = true by simp; omega]
    exact no _ (by simp [jobsOk, h4])
theorem areJobs_loop (L P D : List Int) (hn : L.length ≤ 8) (hP : P.length = L.length) (hD : D.length = L.length) : ∀ (d i : Nat), L.length - i = d → i ≤ L.length →
    Ev (fun k => impl_AreJobs.l0 k P (P.length : Int) i L P D) (jobsFrom L P D d i) := by
  intro d
  induction d with
  | zero =>
    intro i hd hi
    refine ev_succ ?_
    simp only [impl_AreJobs.l0]
    exact ev_neg (by omega) (Ev.now _)
  | succ d ih =>
    intro i hd hi
    refine ev_succ ?_
    simp only [impl_AreJobs.l0]
    refine ev_pos (by omega) (ev_pos (by omega) (ev_pos (by omega) (ev_bnd (within_some _ _ _) ?_)))
    by_cases h2 : inB 1 60 (rd P i) = true
    · refine ev_pos h2 (ev_pos (by omega) (ev_bnd (within_some _ _ _) ?_))
      by_cases h1 : inB 1 20 (rd L i) = true
      · refine ev_pos h1 (ev_pos (by omega) (ev_bnd (within_some _ _ _) ?_))
        by_cases h3 : inB 1 (rd P i) (rd D i) = true
        · refine ev_pos h3 ?_
          rw [w64n (by omega)]
          exact ev_val (ih (i + 1) (by omega) (by omega)) (by simp [jobsFrom, jobAt, h1, h2, h3])
        · exact ev_neg h3 (ev_val (Ev.now _) (by simp [jobsFrom, jobAt, h3]))
      · exact ev_neg h1 (ev_val (Ev.now _) (by simp [jobsFrom, jobAt, h1]))
    · exact ev_neg h2 (ev_val (Ev.now _) (by simp [jobsFrom, jobAt, h2]))
theorem many_some (L P D : List Int) : impl_Jobs_many.f L P D = some (L.length : Int) := rfl
theorem areJobs_ev (L P D : List Int) : Ev (fun k => impl_AreJobs.f k L P D) (jobsOk L P D) := by
  unfold impl_AreJobs.f
  have no : ∀ (r : Bool), r = false → Ev (fun k => impl_AreJobs.j0 k true L P D) r := by
    rintro r rfl
    refine ev_succ ?_
    simp only [impl_AreJobs.j0]
    exact ev_pos trivial (Ev.now _)
  refine ev_bnd (many_some L P D) (ev_bnd (within_some _ _ _) ?_)
  by_cases h1 : inB 1 8 (L.length : Int) = true
  rotate_left
  · exact ev_neg h1 (no _ (by simp [jobsOk, h1]))
  refine ev_pos h1 ?_
  by_cases h3 : P.length = L.length
  rotate_left
  · exact ev_neg (by omega) (no _ (by simp [jobsOk, h3]))
  refine ev_pos (by omega) ?_
  by_cases h4 : D.length = L.length
  · rw [show ((D.length : Int) != (L.length : Int)) = false by simp [h4]]
    refine ev_succ ?_
    simp only [impl_AreJobs.j0]
    refine ev_neg (by simp) ?_
    refine ev_val (areJobs_loop L P D (by have := (inB_iff _ _ _).mp h1; omega) h3 h4 L.length 0 (by omega) (by omega)) ?_
    simp [jobsOk, h3, h4, h1]
  · rw [show ((D.length : Int) != (L.length : Int)) = true by simp; omega]
    exact no _ (by simp [jobsOk, h4])

/-- The whole period. -/
def wholeN (P : List Int) : Nat := lcms (P.map Int.toNat) 1
theorem ints_toNat (P : List Int) (h : ∀ x ∈ P, 0 ≤ x) : ints (P.map Int.toNat) = P := by
  rw [ints, List.map_map]
  conv => rhs; rw [← List.map_id P]
  exact List.map_congr_left (fun x hx => by simp; have := h x hx; omega)
theorem prods_pow (m : List Nat) (c : Nat) (h : ∀ x ∈ m, x ≤ c) : prods m ≤ c ^ m.length := by
  induction m with
  | nil => simp [prods]
  | cons x m ih =>
    have h1 := h x (by simp)
    have h2 := ih (fun y hy => h y (by simp [hy]))
    have e : prods (x :: m) = x * prods m := rfl
    rw [e, List.length_cons, Nat.pow_succ, Nat.mul_comm]
    exact Nat.mul_le_mul h2 h1
theorem JobsP.mem {L P D : List Int} (h : JobsP L P D) : ∀ x ∈ P, 1 ≤ x ∧ x ≤ 60 := by
  intro x hx
  obtain ⟨i, hi, rfl⟩ := List.mem_iff_getElem.mp hx
  have := (h.each i (by rw [← h.hP]; exact hi)).2.1
  rwa [rd_lt hi] at this
structure Periods (P : List Int) (m : List Nat) : Prop where
  eq : P = ints m
  pos : ∀ x ∈ m, 0 < x
  le : ∀ x ∈ m, x ≤ 60
  len : m.length ≤ 8
theorem JobsP.periods {L P D : List Int} (h : JobsP L P D) : Periods P (P.map Int.toNat) := by
  refine ⟨(ints_toNat P (fun x hx => by have := h.mem x hx; omega)).symm, ?_, ?_, by simp [h.hP, h.n8]⟩
  · intro x hx
    obtain ⟨y, hy, rfl⟩ := List.mem_map.mp hx
    have := h.mem y hy
    omega
  · intro x hx
    obtain ⟨y, hy, rfl⟩ := List.mem_map.mp hx
    have := h.mem y hy
    omega
theorem Periods.prods_le {P : List Int} {m : List Nat} (h : Periods P m) : prods m ≤ 60 ^ 8 :=
  Nat.le_trans (prods_pow m 60 h.le) (Nat.pow_le_pow_right (by omega) h.len)
theorem Periods.whole_le {P : List Int} {m : List Nat} (h : Periods P m) : lcms m 1 ≤ 60 ^ 8 := by
  have := lcms_le m 1 (by omega) h.pos
  have := h.prods_le
  omega
theorem whole_ev {L P D : List Int} (h : JobsP L P D) : Ev (fun k => impl_Jobs_whole.f k L P D) ((wholeN P : Nat) : Int) := by
  have hp := h.periods
  have hw := hp.whole_le
  unfold impl_Jobs_whole.f
  refine Ev.bind (a := ((wholeN P : Nat) : Int)) ?_ (Ev.now _)
  have e := multiple_ev (P.map Int.toNat) hp.pos (by omega) (by have := hp.len; omega)
  rw [← hp.eq] at e
  exact e
def codeJ (L P D : List Int) : Int := if jobsOk L P D = true then (if 240 < wholeN P then 3 else 0) else 1
theorem implCode_ev (L P D : List Int) : Ev (fun k => impl_jobsCode.f k L P D true true) (codeJ L P D) := by
  unfold impl_jobsCode.f codeJ
  refine Ev.bind (areJobs_ev L P D) ?_
  by_cases h : jobsOk L P D = true
  · refine ev_pos h (ev_pos rfl (ev_pos rfl ?_))
    rw [if_pos h]
    refine Ev.bind (whole_ev ((jobsOk_iff L P D).mp h)) ?_
    by_cases h3 : 240 < wholeN P
    · exact ev_pos (by omega) (ev_val (Ev.now _) (by rw [if_pos h3]))
    · exact ev_neg (by omega) (ev_val (Ev.now _) (by rw [if_neg h3]))
  · exact ev_neg h (ev_val (Ev.now _) (by rw [if_neg h]))
theorem implCode2_ev (L P D : List Int) (b : Bool) : Ev (fun k => impl_jobsCode.f k L P D b false) (if jobsOk L P D = true then (if b = true then 0 else 2) else 1) := by
  unfold impl_jobsCode.f
  refine Ev.bind (areJobs_ev L P D) ?_
  by_cases h : jobsOk L P D = true
  · refine ev_pos h ?_
    rw [if_pos h]
    cases b
    · exact ev_neg (by simp) (ev_val (Ev.now _) (by simp))
    · exact ev_pos rfl (ev_neg (by simp) (ev_val (Ev.now _) (by simp)))
  · exact ev_neg h (ev_val (Ev.now _) (by rw [if_neg h]))
theorem codeJ_zero {L P D : List Int} (h : codeJ L P D = 0) : JobsP L P D ∧ wholeN P ≤ 240 := by
  unfold codeJ at h
  split at h
  · rename_i h1
    refine ⟨(jobsOk_iff L P D).mp h1, ?_⟩
    split at h
    · simp at h
    · omega
  · simp at h

theorem toJobs_ev (a b c : List Int) (ha : a.length ≤ 35184372088832) (hb : b.length ≤ 35184372088832) (hc : c.length ≤ 35184372088832) : Ev (fun k => laws_toJobs.f k a b c) (a, b, c) := by
  unfold laws_toJobs.f
  exact Ev.bind (toInt64S_ev a ha) (Ev.bind (toInt64S_ev b hb) (Ev.bind (toInt64S_ev c hc) (Ev.now _)))
theorem eqJobs_same (a b c : List Int) (ha : a.length ≤ 35184372088832) (hb : b.length ≤ 35184372088832) (hc : c.length ≤ 35184372088832) : Ev (fun k => laws_eqJobs.f k a b c a b c) true := by
  unfold laws_eqJobs.f
  exact Ev.bind (eqInt64S_same a ha) (ev_pos rfl (Ev.bind (eqInt64S_same b hb) (ev_pos rfl (Ev.bind (eqInt64S_same c hc) (ev_pos rfl (Ev.now _))))))
theorem markJobs_ev (a b c : List Int) (ha : a.length ≤ 35184372088832) (hb : b.length ≤ 35184372088832) (hc : c.length ≤ 35184372088832) : Ev (fun k => laws_markJobs.f k a b c 1) (1 + a.length + b.length + c.length, marks 1 a.length, marks (1 + a.length) b.length, marks (1 + a.length + b.length) c.length) := by
  unfold laws_markJobs.f
  exact Ev.bind (markInt64S_ev a 1 (by omega) (by omega) ha) (Ev.bind (markInt64S_ev b _ (by omega) (by omega) hb) (Ev.bind (markInt64S_ev c _ (by omega) (by omega) hc) (Ev.now _)))
theorem szInt64S_some' (l : List Int) (a : Int) : ∃ r, laws_szInt64S.f l a = some r := by
  unfold laws_szInt64S.f
  split <;> exact ⟨_, rfl⟩
theorem szJobs_some (a b c : List Int) (z : Int) : ∃ r, laws_szJobs.f a b c z = some r := by
  unfold laws_szJobs.f
  obtain ⟨r1, h1⟩ := szInt64S_some' a z
  rw [h1]
  simp only [Option.bind_some]
  split
  · exact ⟨_, rfl⟩
  · obtain ⟨r2, h2⟩ := szInt64S_some' b r1
    rw [h2]
    simp only [Option.bind_some]
    split
    · exact ⟨_, rfl⟩
    · obtain ⟨r3, h3⟩ := szInt64S_some' c r2
      rw [h3]
      simp only [Option.bind_some]
      split <;> exact ⟨_, rfl⟩
end Go.Proofs.Ytmgdobiloapelaa.Cb
