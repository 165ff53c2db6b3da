/- The program's TurnsFromShares returns what the reference's returns, for all arguments. Conditions: none beyond the statement's own (the argument is a list of int64). -/
import Derived.Test.YtdleajokhhijhaaPx5
import Derived.Test.YtdleajokhhijhaaPuShares
set_option linter.unusedVariables false
set_option linter.unusedSimpArgs false
namespace Go.Proofs.Ytdleajokhhijhaa.Pure
open Go.RowKit Go.Proofs.YtdleajokhhijhaaW.PrintWords Go.Proofs.YtdleajokhhijhaaW.PrintLast Go.Proofs.Ytdleajokhhijhaa.P Go.Proofs.Ytdleajokhhijhaa.Pb

theorem FnExactTurnsFromShares : laws_FnExactTurnsFromShares.Pure := by
  intro l _ h8 hw
  refine Ev.rounds (g := fun k => laws_FnExactTurnsFromShares.f k l) ?_
  unfold laws_FnExactTurnsFromShares.f
  by_cases hb : (l.length : Int) > 1048576
  · exact ev_pos hb (Ev.now _)
  refine ev_neg hb ?_
  have hl : l.length ≤ 35184372088832 := by omega
  have hd := dealt_length l
  refine Ev.bind (toInt64S_ev l hl) (Ev.bind (specTurns_ev l hl) (Ev.bind (toInt64S_ev l hl) (Ev.bind (implTurns_ev l) (Ev.bind (eqInt64S_same _ (by omega)) (ev_pos rfl ?_)))))
  refine ev_succ ?_
  simp only [laws_FnExactTurnsFromShares.j0]
  refine ev_neg (by simp) ?_
  refine Ev.bind (toInt64S_ev l hl) (Ev.bind (eqInt64S_same _ hl) (ev_pos rfl ?_))
  refine Ev.bind (markInt64S_ev l 1 (by omega) (by omega) hl) (ev_neg (by simp; omega) ?_)
  refine Ev.bind (eqInt64S_same _ (by omega)) (ev_pos rfl ?_)
  refine ev_succ ?_
  simp only [laws_FnExactTurnsFromShares.j1]
  refine ev_neg (by simp) ?_
  refine Ev.bind (markInt64S_ev _ 1 (by omega) (by omega) (by omega)) ?_
  refine Ev.bind (heldInt64S_ev 1 _ (by omega) (by omega) (by omega)) ?_
  refine ev_neg (by omega) (ev_pos rfl ?_)
  refine Ev.bind (toInt64S_ev l hl) (Ev.bind (implTurns_ev l) (Ev.bind (eqInt64S_same _ (by omega)) (ev_pos rfl ?_)))
  refine ev_succ ?_
  simp only [laws_FnExactTurnsFromShares.j2]
  refine ev_neg (by simp) ?_
  refine Ev.bind (heldInt64S_ev 1 _ (by omega) (by omega) (by omega)) ?_
  exact ev_neg (by omega) (ev_pos rfl (Ev.now _))
end Go.Proofs.Ytdleajokhhijhaa.Pure
