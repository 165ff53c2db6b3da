/- The program's IsDesk returns what the reference's returns, for all arguments. Conditions: none beyond the statement's own (the argument is a desk of lists of int64). -/
import Derived.Test.YtdleajokhhijhaaDx4
import Derived.Test.YtdleajokhhijhaaDuDesk
set_option linter.unusedVariables false
set_option linter.unusedSimpArgs false
namespace Go.Proofs.Ytdleajokhhijhaa.Pure
open Go.RowKit Go.Proofs.YtdleajokhhijhaaW.PrintWords Go.Proofs.YtdleajokhhijhaaW.PrintLast Go.Proofs.Ytdleajokhhijhaa.D Go.Proofs.Ytdleajokhhijhaa.Db

theorem FnExactIsDesk : laws_FnExactIsDesk.Pure := by
  intro a b c _ ha _ _ hb _ _ hc _
  refine Ev.rounds (g := fun k => laws_FnExactIsDesk.f k a b c) ?_
  unfold laws_FnExactIsDesk.f
  have ha' : a.length ≤ 35184372088832 := by omega
  have hb' : b.length ≤ 35184372088832 := by omega
  have hc' : c.length ≤ 35184372088832 := by omega
  obtain ⟨r, hr⟩ := szDesk_some a b c
  refine ev_bnd hr ?_
  by_cases h : r < 0
  · exact ev_pos h (Ev.now _)
  refine ev_neg h ?_
  exact Ev.bind (toDesk_ev a b c ha' hb' hc') (Ev.bind (specIsDesk_ev a b c ha' hb' hc') (Ev.bind (toDesk_ev a b c ha' hb' hc') (ev_bnd (implIsDesk_some a b c) (ev_neg (by simp) (Ev.bind (toDesk_ev a b c ha' hb' hc') (Ev.bind (eqDesk_same a b c ha' hb' hc') (ev_pos rfl (Ev.now _))))))))
end Go.Proofs.Ytdleajokhhijhaa.Pure
