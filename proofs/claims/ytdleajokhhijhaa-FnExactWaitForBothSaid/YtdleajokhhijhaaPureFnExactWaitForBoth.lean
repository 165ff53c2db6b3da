/- The program's WaitForBoth returns what the reference's returns, for all arguments. Conditions: none beyond the statement's own (the arguments are int64s and a list of them). -/
import Derived.Test.YtdleajokhhijhaaPx7
import Derived.Test.YtdleajokhhijhaaPuWaits
set_option linter.unusedVariables false
set_option linter.unusedSimpArgs false
namespace Go.Proofs.Ytdleajokhhijhaa.Pure
open Go.RowKit Go.Proofs.YtdleajokhhijhaaW.PrintWords Go.Proofs.YtdleajokhhijhaaW.PrintLast Go.Proofs.Ytdleajokhhijhaa.P Go.Proofs.Ytdleajokhhijhaa.Pb

theorem FnExactWaitForBoth : laws_FnExactWaitForBoth.Pure := by
  intro l i j s _ h8 hw _ _ _
  refine Ev.rounds (g := fun k => laws_FnExactWaitForBoth.f k l i j s) ?_
  unfold laws_FnExactWaitForBoth.f
  by_cases hb : (l.length : Int) > 1048576
  · exact ev_pos hb (Ev.now _)
  refine ev_neg hb ?_
  have hl : l.length ≤ 35184372088832 := by omega
  refine Ev.bind (toInt64S_ev l hl) (Ev.bind (specBoth_ev l i j s hl) (Ev.bind (toInt64S_ev l hl) (Ev.bind (implBoth_ev l i j s hl) (ev_pos rfl ?_))))
  refine ev_succ ?_
  simp only [laws_FnExactWaitForBoth.j0]
  refine ev_neg (by simp) ?_
  exact Ev.bind (toInt64S_ev l hl) (Ev.bind (eqInt64S_same _ hl) (ev_pos rfl (Ev.now _)))
end Go.Proofs.Ytdleajokhhijhaa.Pure
