/- The program's GapsOfTurns returns what the reference's returns, for all arguments. Conditions: none beyond the statement's own (the argument is three lists of int64). -/
import Derived.Test.YtmgdobiloapelaaBx13
import Derived.Test.YtmgdobiloapelaaBuTurnsj
set_option linter.unusedVariables false
set_option linter.unusedSimpArgs false
namespace Go.Proofs.Ytmgdobiloapelaa.Pure
open Go.RowKit Go.Proofs.YtmgdobiloapelaaW.PrintWords Go.Proofs.YtmgdobiloapelaaW.PrintLast Go.Proofs.Ytmgdobiloapelaa.B Go.Proofs.Ytmgdobiloapelaa.Bb

theorem FnExactGapsOfTurns : laws_FnExactGapsOfTurns.Pure := by
  intro a b c _ ha _ _ hb _ _ hc _
  refine Ev.rounds (g := fun k => laws_FnExactGapsOfTurns.f k a b c) ?_
  unfold laws_FnExactGapsOfTurns.f
  have ha' : a.length ≤ 35184372088832 := by omega
  have hb' : b.length ≤ 35184372088832 := by omega
  have hc' : c.length ≤ 35184372088832 := by omega
  obtain ⟨r, hr⟩ := szJobs_some a b c 1048576
  refine ev_bnd hr ?_
  by_cases h : r < 0
  · exact ev_pos h (Ev.now _)
  refine ev_neg h ?_
  have hT := toJobs_ev a b c ha' hb' hc'
  have hlen := gapsOut_length a b c
  have hE := eqTasks_same' (gapsOut a b c).1 (by omega)
  have hne : ((gapsOut a b c).2 != (gapsOut a b c).2) = false := by simp
  refine Ev.bind hT (Ev.bind (specGaps_ev a b c) (Ev.bind hT (Ev.bind (implGaps_ev a b c) (Ev.bind hE (ev_pos rfl ?_)))))
  rw [hne]
  refine ev_succ ?_
  simp only [laws_FnExactGapsOfTurns.j0]
  refine ev_neg (by simp) (Ev.bind hT (Ev.bind (eqJobs_same a b c ha' hb' hc') (ev_pos rfl (Ev.bind (markJobs_ev a b c ha' hb' hc') (ev_neg (by simp; omega) (Ev.bind hE (ev_pos rfl ?_)))))))
  rw [hne]
  refine ev_succ ?_
  simp only [laws_FnExactGapsOfTurns.j1]
  refine ev_neg (by simp) (Ev.bind (markTasks_ev _ (by omega)) (Ev.bind (heldTasks_ev _ (by omega)) (ev_neg (by omega) (ev_pos rfl (Ev.bind hT (Ev.bind (implGaps_ev a b c) (Ev.bind hE (ev_pos rfl ?_))))))))
  rw [hne]
  refine ev_succ ?_
  simp only [laws_FnExactGapsOfTurns.j2]
  exact ev_neg (by simp) (Ev.bind (heldTasks_ev _ (by omega)) (ev_neg (by omega) (ev_pos rfl (Ev.now _))))
end Go.Proofs.Ytmgdobiloapelaa.Pure
