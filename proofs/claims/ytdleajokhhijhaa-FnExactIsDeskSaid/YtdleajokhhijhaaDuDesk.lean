/- Desks: the laws' copies and comparisons of them, and the look at tasks, turns and gardens. -/
import Derived.Test.YtdleajokhhijhaaDx1
import Derived.Test.YtdleajokhhijhaaDx2
import Derived.Test.YtdleajokhhijhaaDx3
import Derived.Test.YtdleajokhhijhaaDuTurns
set_option linter.unusedVariables false
set_option linter.unusedSimpArgs false
namespace Go.Proofs.Ytdleajokhhijhaa.Db
open Go.RowKit Go.Proofs.YtdleajokhhijhaaW.PrintWords Go.Proofs.YtdleajokhhijhaaW.PrintLast Go.Proofs.Ytdleajokhhijhaa.D

theorem l01Is_ev (l : List Int) (hl : l.length ≤ 35184372088832) : Ev (fun k => spec_l01Is.f k l) (inB 1 8 (l.length : Int) && l.all (inB 1 40)) := by
  unfold spec_l01Is.f
  have : ∀ (suf : List Int) (i : Nat), l.drop i = suf → Ev (fun k => spec_l01Is.l0 k i l) (inB 1 8 (l.length : Int) && suf.all (inB 1 40)) := by
    intro suf
    induction suf with
    | nil =>
      intro i h
      have hi := drop_nil h
      refine ev_succ ?_
      simp only [spec_l01Is.l0]
      exact ev_neg (by omega) (ev_bnd (show spec_l01K.f l = some (l.length : Int) from rfl) (ev_bnd (in_some _ _ _) (ev_val (Ev.now _) (by simp))))
    | cons x suf ih =>
      intro i h
      obtain ⟨hi, hx, hs⟩ := drop_split h
      refine ev_succ ?_
      simp only [spec_l01Is.l0]
      refine ev_pos (by omega) (ev_pos (by omega) (ev_bnd (in_some _ _ _) ?_))
      rw [hx]
      by_cases hb : inB 1 40 x = true
      · refine ev_pos hb ?_
        rw [w64n (by omega)]
        exact ev_val (ih (i + 1) hs) (by simp [hb])
      · exact ev_neg hb (ev_val (Ev.now _) (by simp [hb]))
  exact this l 0 (by simp)
theorem l06Is_ev (l : List Int) (hl : l.length ≤ 35184372088832) : Ev (fun k => spec_l06Is.f k l) (inB 1 8 (l.length : Int) && l.all (inB 1 20)) := by
  unfold spec_l06Is.f
  have : ∀ (suf : List Int) (i : Nat), l.drop i = suf → Ev (fun k => spec_l06Is.l0 k i l) (inB 1 8 (l.length : Int) && suf.all (inB 1 20)) := by
    intro suf
    induction suf with
    | nil =>
      intro i h
      have hi := drop_nil h
      refine ev_succ ?_
      simp only [spec_l06Is.l0]
      refine ev_neg (by omega) ?_
      by_cases h0 : (l.length : Int) > 0
      · refine ev_pos h0 (ev_val (Ev.now _) ?_)
        simp [inB, show (1 : Int) ≤ l.length by omega]
      · refine ev_neg h0 (ev_val (Ev.now _) ?_)
        simp [inB, show ¬ (1 : Int) ≤ l.length by omega]
    | cons x suf ih =>
      intro i h
      obtain ⟨hi, hx, hs⟩ := drop_split h
      refine ev_succ ?_
      simp only [spec_l06Is.l0]
      refine ev_pos (by omega) (ev_pos (by omega) (ev_bnd (in_some _ _ _) ?_))
      rw [hx]
      by_cases hb : inB 1 20 x = true
      · refine ev_pos hb ?_
        rw [w64n (by omega)]
        exact ev_val (ih (i + 1) hs) (by simp [hb])
      · exact ev_neg hb (ev_val (Ev.now _) (by simp [hb]))
  exact this l 0 (by simp)
def deskB (a b c : List Int) : Bool := (inB 1 8 (a.length : Int) && a.all (inB 1 40)) && turnsB b 8 && (inB 1 8 (c.length : Int) && c.all (inB 1 20))
theorem specIsDesk_ev (a b c : List Int) (ha : a.length ≤ 35184372088832) (hb : b.length ≤ 35184372088832) (hc : c.length ≤ 35184372088832) : Ev (fun k => spec_IsDesk.f k a b c) (deskB a b c) := by
  unfold spec_IsDesk.f deskB
  refine Ev.bind (l01Is_ev a ha) ?_
  cases h1 : (inB 1 8 (a.length : Int) && a.all (inB 1 40))
  · exact ev_neg (by simp) (ev_val (Ev.now _) (by simp))
  · refine ev_pos rfl (Ev.bind (l01Turns_ev b 8 (by omega) (by omega) hb) ?_)
    cases h2 : turnsB b 8
    · exact ev_neg (by simp) (ev_val (Ev.now _) (by simp))
    · exact ev_pos rfl (Ev.bind (l06Is_ev c hc) (ev_val (Ev.now _) (by simp)))
theorem implIsDesk_some (a b c : List Int) : impl_IsDesk.f a b c = some (deskB a b c) := by
  unfold impl_IsDesk.f deskB impl_IsTasks.f impl_areTurns.f impl_IsGarden.f turnsB
  rw [show wrap64 (8 - 1) = 8 - 1 from by unfold wrap64; omega]
  simp only [Option.bind_some]
  cases h1 : (inB 1 8 (a.length : Int) && a.all (inB 1 40))
  · simp
  · cases h2 : (inB 1 120 (b.length : Int) && b.all (inB (-1) (8 - 1)))
    · simp
    · simp
theorem toDesk_ev (a b c : List Int) (ha : a.length ≤ 35184372088832) (hb : b.length ≤ 35184372088832) (hc : c.length ≤ 35184372088832) : Ev (fun k => laws_toDesk.f k a b c) (a, b, c) := by
  unfold laws_toDesk.f laws_toTasks.f laws_toGarden.f
  exact Ev.bind (Ev.bind (toInt64S_ev a ha) (Ev.now _)) (Ev.bind (toInt64S_ev b hb) (Ev.bind (Ev.bind (toInt64S_ev c hc) (Ev.now _)) (Ev.now _)))
theorem eqDesk_same (a b c : List Int) (ha : a.length ≤ 35184372088832) (hb : b.length ≤ 35184372088832) (hc : c.length ≤ 35184372088832) : Ev (fun k => laws_eqDesk.f k a b c a b c) true := by
  unfold laws_eqDesk.f laws_eqTasks.f laws_eqGarden.f
  exact Ev.bind (Ev.bind (eqInt64S_same a ha) (ev_pos rfl (Ev.now _))) (ev_pos rfl (Ev.bind (eqInt64S_same b hb) (ev_pos rfl (Ev.bind (Ev.bind (eqInt64S_same c hc) (ev_pos rfl (Ev.now _))) (ev_pos rfl (Ev.now _))))))
theorem szInt64S_some (l : List Int) (a : Int) : ∃ r, laws_szInt64S.f l a = some r := by
  unfold laws_szInt64S.f
  split <;> exact ⟨_, rfl⟩
theorem szTasks_some (l : List Int) (a : Int) : ∃ r, laws_szTasks.f l a = some r := by
  obtain ⟨r, h⟩ := szInt64S_some l a
  unfold laws_szTasks.f
  rw [h]
  simp only [Option.bind_some]
  split <;> exact ⟨_, rfl⟩
theorem szGarden_some (l : List Int) (a : Int) : ∃ r, laws_szGarden.f l a = some r := by
  obtain ⟨r, h⟩ := szInt64S_some l a
  unfold laws_szGarden.f
  rw [h]
  simp only [Option.bind_some]
  split <;> exact ⟨_, rfl⟩
theorem szDesk_some (a b c : List Int) : ∃ r, laws_szDesk.f a b c 1048576 = some r := by
  unfold laws_szDesk.f
  obtain ⟨r1, h1⟩ := szTasks_some a 1048576
  rw [h1]
  simp only [Option.bind_some]
  split
  · exact ⟨_, rfl⟩
  · obtain ⟨r2, h2⟩ := szInt64S_some b r1
    rw [h2]
    simp only [Option.bind_some]
    split
    · exact ⟨_, rfl⟩
    · obtain ⟨r3, h3⟩ := szGarden_some c r2
      rw [h3]
      simp only [Option.bind_some]
      split <;> exact ⟨_, rfl⟩
end Go.Proofs.Ytdleajokhhijhaa.Db
