/- The program's AnswersOf returns what the reference's returns, for all arguments. Conditions: none beyond the statement's own (the arguments are jobs, three lists of int64, and a list of int64). -/
import Derived.Test.YtmgdobiloapelaaCx8
import Derived.Test.YtmgdobiloapelaaCuAnswers
set_option linter.unusedVariables false
set_option linter.unusedSimpArgs false
namespace Go.Proofs.Ytmgdobiloapelaa.Pure
open Go.RowKit Go.Proofs.YtmgdobiloapelaaW.PrintWords Go.Proofs.YtmgdobiloapelaaW.PrintLast Go.Proofs.Ytmgdobiloapelaa.C Go.Proofs.Ytmgdobiloapelaa.Cb

theorem FnExactAnswersOf : laws_FnExactAnswersOf.Pure := by
  intro a b c o _ ha _ _ hb _ _ hc _ _ hoo _
  refine Ev.rounds (g := fun k => laws_FnExactAnswersOf.f k a b c o) ?_
  unfold laws_FnExactAnswersOf.f
  have ha' : a.length ≤ 35184372088832 := by omega
  have hb' : b.length ≤ 35184372088832 := by omega
  have hc' : c.length ≤ 35184372088832 := by omega
  have ho' : o.length ≤ 35184372088832 := by omega
  by_cases hbig : (o.length : Int) > 1048576
  · exact ev_pos hbig (Ev.now _)
  refine ev_neg hbig ?_
  obtain ⟨r, hr⟩ := szJobs_some a b c 1048576
  refine ev_bnd hr ?_
  by_cases h : r < 0
  · exact ev_pos h (Ev.now _)
  refine ev_neg h ?_
  have hT := toJobs_ev a b c ha' hb' hc'
  have hO := toInt64S_ev o ho'
  have hS := specAnswersOf_ev a b c o ho'
  have hI := implAnswersOf_ev a b c o ha' ho'
  have hlen := answersOut_length a b c o
  have hE := eqInt64S_same (answersOut a b c o).1 (by omega)
  have hne : ((answersOut a b c o).2 != (answersOut a b c o).2) = false := by simp
  refine Ev.bind hT (Ev.bind hO (Ev.bind hS (Ev.bind hT (Ev.bind hO (Ev.bind hI (Ev.bind hE (ev_pos rfl ?_)))))))
  rw [hne]
  refine ev_succ ?_
  simp only [laws_FnExactAnswersOf.j0]
  refine ev_neg (by simp) (Ev.bind hT (Ev.bind (eqJobs_same a b c ha' hb' hc') (ev_pos rfl (Ev.bind hO (Ev.bind (eqInt64S_same o ho') (ev_pos rfl (Ev.bind (markJobs_ev a b c ha' hb' hc') (Ev.bind (markInt64S_ev o _ (by omega) (by omega) ho') (ev_neg (by simp; omega) (Ev.bind hE (ev_pos rfl ?_)))))))))))
  rw [hne]
  refine ev_succ ?_
  simp only [laws_FnExactAnswersOf.j1]
  refine ev_neg (by simp) (Ev.bind (markInt64S_ev _ 1 (by omega) (by omega) (by omega)) (Ev.bind (heldInt64S_ev 1 _ (by omega) (by omega) (by omega)) (ev_neg (by omega) (ev_pos rfl (Ev.bind hT (Ev.bind hO (Ev.bind hI (Ev.bind hE (ev_pos rfl ?_)))))))))
  rw [hne]
  refine ev_succ ?_
  simp only [laws_FnExactAnswersOf.j2]
  exact ev_neg (by simp) (Ev.bind (heldInt64S_ev 1 _ (by omega) (by omega) (by omega)) (ev_neg (by omega) (ev_pos rfl (Ev.now _))))
end Go.Proofs.Ytmgdobiloapelaa.Pure
