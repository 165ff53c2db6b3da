/- The program's TurnsOfJobs returns what the reference's returns, for all arguments. Conditions: none beyond the statement's own (the argument is three lists of int64). -/
import Derived.Test.YtmgdobiloapelaaBx9
import Derived.Test.YtmgdobiloapelaaBuTurnsj
set_option linter.unusedVariables false
set_option linter.unusedSimpArgs false
namespace Go.Proofs.Ytmgdobiloapelaa.Pure
open Go.RowKit Go.Proofs.YtmgdobiloapelaaW.PrintWords Go.Proofs.YtmgdobiloapelaaW.PrintLast Go.Proofs.Ytmgdobiloapelaa.B Go.Proofs.Ytmgdobiloapelaa.Bb

theorem FnExactTurnsOfJobs : laws_FnExactTurnsOfJobs.Pure := by
  intro a b c _ ha _ _ hb _ _ hc _
  refine Ev.rounds (g := fun k => laws_FnExactTurnsOfJobs.f k a b c) ?_
  unfold laws_FnExactTurnsOfJobs.f
  have ha' : a.length ≤ 35184372088832 := by omega
  have hb' : b.length ≤ 35184372088832 := by omega
  have hc' : c.length ≤ 35184372088832 := by omega
  obtain ⟨r, hr⟩ := szJobs_some a b c 1048576
  refine ev_bnd hr ?_
  by_cases h : r < 0
  · exact ev_pos h (Ev.now _)
  refine ev_neg h ?_
  have hT := toJobs_ev a b c ha' hb' hc'
  have hlen := turnsOut_length a b c
  have hE := eqInt64S_same (turnsOut a b c).1 (by omega)
  have hne : ((turnsOut a b c).2 != (turnsOut a b c).2) = false := by simp
  refine Ev.bind hT (Ev.bind (specTurnsOfJobs_ev a b c) (Ev.bind hT (Ev.bind (implTurnsOfJobs_ev a b c) (Ev.bind hE (ev_pos rfl ?_)))))
  rw [hne]
  refine ev_succ ?_
  simp only [laws_FnExactTurnsOfJobs.j0]
  refine ev_neg (by simp) (Ev.bind hT (Ev.bind (eqJobs_same a b c ha' hb' hc') (ev_pos rfl (Ev.bind (markJobs_ev a b c ha' hb' hc') (ev_neg (by simp; omega) (Ev.bind hE (ev_pos rfl ?_)))))))
  rw [hne]
  refine ev_succ ?_
  simp only [laws_FnExactTurnsOfJobs.j1]
  refine ev_neg (by simp) (Ev.bind (markInt64S_ev _ 1 (by omega) (by omega) (by omega)) (Ev.bind (heldInt64S_ev 1 _ (by omega) (by omega) (by omega)) (ev_neg (by omega) (ev_pos rfl (Ev.bind hT (Ev.bind (implTurnsOfJobs_ev a b c) (Ev.bind hE (ev_pos rfl ?_))))))))
  rw [hne]
  refine ev_succ ?_
  simp only [laws_FnExactTurnsOfJobs.j2]
  exact ev_neg (by simp) (Ev.bind (heldInt64S_ev 1 _ (by omega) (by omega) (by omega)) (ev_neg (by omega) (ev_pos rfl (Ev.now _))))
end Go.Proofs.Ytmgdobiloapelaa.Pure
