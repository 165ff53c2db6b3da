/- The program's MeanWait returns what the reference's returns, for all arguments. Conditions: none beyond the statement's own (the arguments are int64s and a list of them). -/
import Derived.Test.YtdleajokhhijhaaPx10
import Derived.Test.YtdleajokhhijhaaPuWaits
set_option linter.unusedVariables false
set_option linter.unusedSimpArgs false
namespace Go.Proofs.Ytdleajokhhijhaa.Pure
open Go.RowKit Go.Proofs.YtdleajokhhijhaaW.PrintWords Go.Proofs.YtdleajokhhijhaaW.PrintLast Go.Proofs.Ytdleajokhhijhaa.P Go.Proofs.Ytdleajokhhijhaa.Pb

theorem FnExactMeanWait : laws_FnExactMeanWait.Pure := by
  intro l i _ h8 hw _
  refine Ev.rounds (g := fun k => laws_FnExactMeanWait.f k l i) ?_
  unfold laws_FnExactMeanWait.f
  by_cases hb : (l.length : Int) > 1048576
  · exact ev_pos hb (Ev.now _)
  refine ev_neg hb ?_
  have hl : l.length ≤ 35184372088832 := by omega
  refine Ev.bind (toInt64S_ev l hl) (Ev.bind (specMean_ev l i hl) (Ev.bind (toInt64S_ev l hl) (Ev.bind (implMean_ev l i) (ev_pos rfl (ev_pos rfl ?_)))))
  refine ev_succ ?_
  simp only [laws_FnExactMeanWait.j0]
  refine ev_neg (by simp) ?_
  exact Ev.bind (toInt64S_ev l hl) (Ev.bind (eqInt64S_same _ hl) (ev_pos rfl (Ev.now _)))
end Go.Proofs.Ytdleajokhhijhaa.Pure
