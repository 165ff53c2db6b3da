/- The program's SharesByWeights returns what the reference's returns, for all arguments. Conditions: none beyond the statement's own (the arguments are a list of int64 and an int64). -/
import Derived.Test.YtdleajokhhijhaaSx4
import Derived.Test.YtdleajokhhijhaaSuWeights
set_option linter.unusedVariables false
set_option linter.unusedSimpArgs false
namespace Go.Proofs.Ytdleajokhhijhaa.Pure
open Go.RowKit Go.Proofs.YtdleajokhhijhaaW.PrintWords Go.Proofs.YtdleajokhhijhaaW.PrintLast Go.Proofs.Ytdleajokhhijhaa.S Go.Proofs.Ytdleajokhhijhaa.Sb

theorem FnExactSharesByWeights : laws_FnExactSharesByWeights.Pure := by
  intro l n _ h8 hw _
  refine Ev.rounds (g := fun k => laws_FnExactSharesByWeights.f k l n) ?_
  unfold laws_FnExactSharesByWeights.f
  by_cases hb : (l.length : Int) > 1048576
  · exact ev_pos hb (Ev.now _)
  refine ev_neg hb ?_
  have hl : l.length ≤ 35184372088832 := by omega
  have hd := sharesM_length l n
  refine Ev.bind (toInt64S_ev l hl) (Ev.bind (specShares_ev l n hl) (Ev.bind (toInt64S_ev l hl) (Ev.bind (implShares_ev l n) (Ev.bind (eqInt64S_same _ (by omega)) (ev_pos rfl ?_)))))
  refine ev_succ ?_
  simp only [laws_FnExactSharesByWeights.j0]
  refine ev_neg (by simp) ?_
  refine Ev.bind (toInt64S_ev l hl) (Ev.bind (eqInt64S_same _ hl) (ev_pos rfl ?_))
  refine Ev.bind (markInt64S_ev l 1 (by omega) (by omega) hl) (ev_neg (by simp; omega) ?_)
  refine Ev.bind (eqInt64S_same _ (by omega)) (ev_pos rfl ?_)
  refine ev_succ ?_
  simp only [laws_FnExactSharesByWeights.j1]
  refine ev_neg (by simp) ?_
  refine Ev.bind (markInt64S_ev _ 1 (by omega) (by omega) (by omega)) ?_
  refine Ev.bind (heldInt64S_ev 1 _ (by omega) (by omega) (by omega)) ?_
  refine ev_neg (by omega) (ev_pos rfl ?_)
  refine Ev.bind (toInt64S_ev l hl) (Ev.bind (implShares_ev l n) (Ev.bind (eqInt64S_same _ (by omega)) (ev_pos rfl ?_)))
  refine ev_succ ?_
  simp only [laws_FnExactSharesByWeights.j2]
  refine ev_neg (by simp) ?_
  refine Ev.bind (heldInt64S_ev 1 _ (by omega) (by omega) (by omega)) ?_
  exact ev_neg (by omega) (ev_pos rfl (Ev.now _))
end Go.Proofs.Ytdleajokhhijhaa.Pure
