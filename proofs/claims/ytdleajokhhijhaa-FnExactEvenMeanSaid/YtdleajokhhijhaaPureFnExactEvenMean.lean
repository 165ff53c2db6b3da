/- The program's EvenMean returns what the reference's returns, for all arguments. Conditions: none beyond the statement's own (the argument is a list of int64). -/
import Derived.Test.YtdleajokhhijhaaPx2
import Derived.Test.YtdleajokhhijhaaPuEven
set_option linter.unusedVariables false
set_option linter.unusedSimpArgs false
namespace Go.Proofs.Ytdleajokhhijhaa.Pure
open Go.RowKit Go.Proofs.YtdleajokhhijhaaW.PrintWords Go.Proofs.YtdleajokhhijhaaW.PrintLast Go.Proofs.Ytdleajokhhijhaa.P Go.Proofs.Ytdleajokhhijhaa.Pb

theorem FnExactEvenMean : laws_FnExactEvenMean.Pure := by
  intro l _ h8 hw
  refine Ev.rounds (g := fun k => laws_FnExactEvenMean.f k l) ?_
  unfold laws_FnExactEvenMean.f
  by_cases hb : (l.length : Int) > 1048576
  · exact ev_pos hb (Ev.now _)
  refine ev_neg hb ?_
  have hl : l.length ≤ 35184372088832 := by omega
  obtain ⟨r, h1, h2⟩ := even_both l hl
  refine Ev.bind (toInt64S_ev l hl) (Ev.bind h1 (Ev.bind (toInt64S_ev l hl) (Ev.bind h2 (ev_pos rfl (ev_pos rfl ?_)))))
  refine ev_succ ?_
  simp only [laws_FnExactEvenMean.j0]
  refine ev_neg (by simp) ?_
  exact Ev.bind (toInt64S_ev l hl) (Ev.bind (eqInt64S_same _ hl) (ev_pos rfl (Ev.now _)))
end Go.Proofs.Ytdleajokhhijhaa.Pure
