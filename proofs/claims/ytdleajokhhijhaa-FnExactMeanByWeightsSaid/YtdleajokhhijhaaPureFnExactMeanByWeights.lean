/- The program's MeanByWeights returns what the reference's returns, for all arguments. Conditions: none beyond the statement's own (the arguments are two lists of int64). -/
import Derived.Test.YtdleajokhhijhaaMx4
import Derived.Test.YtdleajokhhijhaaMuWeights
set_option linter.unusedVariables false
set_option linter.unusedSimpArgs false
namespace Go.Proofs.Ytdleajokhhijhaa.Pure
open Go.RowKit Go.Proofs.YtdleajokhhijhaaW.PrintWords Go.Proofs.YtdleajokhhijhaaW.PrintLast Go.Proofs.Ytdleajokhhijhaa.M Go.Proofs.Ytdleajokhhijhaa.Mb

theorem FnExactMeanByWeights : laws_FnExactMeanByWeights.Pure := by
  intro l w _ h8 hw _ h8' hw'
  refine Ev.rounds (g := fun k => laws_FnExactMeanByWeights.f k l w) ?_
  unfold laws_FnExactMeanByWeights.f
  by_cases hb : (l.length : Int) > 1048576
  · exact ev_pos hb (Ev.now _)
  refine ev_neg hb ?_
  by_cases hb' : (w.length : Int) > 1048576
  · exact ev_pos hb' (Ev.now _)
  refine ev_neg hb' ?_
  have hl : l.length ≤ 35184372088832 := by omega
  have hl' : w.length ≤ 35184372088832 := by omega
  refine Ev.bind (toInt64S_ev l hl) (Ev.bind (toInt64S_ev w hl') (Ev.bind (specMeanW_ev l w hl hl') (Ev.bind (toInt64S_ev l hl) (Ev.bind (toInt64S_ev w hl') (Ev.bind (implMeanW_ev l w) (ev_pos rfl (ev_pos rfl ?_)))))))
  refine ev_succ ?_
  simp only [laws_FnExactMeanByWeights.j0]
  refine ev_neg (by simp) ?_
  exact Ev.bind (toInt64S_ev l hl) (Ev.bind (eqInt64S_same _ hl) (ev_pos rfl (Ev.bind (toInt64S_ev w hl') (Ev.bind (eqInt64S_same _ hl') (ev_pos rfl (Ev.now _))))))
end Go.Proofs.Ytdleajokhhijhaa.Pure
