/- Turns of jobs, and the gaps of these. -/
import Derived.Test.YtmgdobiloapelaaBx10
import Derived.Test.YtmgdobiloapelaaBx11
import Derived.Test.YtmgdobiloapelaaBx12
import Derived.Test.YtmgdobiloapelaaBx5
import Derived.Test.YtmgdobiloapelaaBx8
import Derived.Test.YtmgdobiloapelaaBuEarliest
import Derived.Test.YtmgdobiloapelaaBuPlace
set_option linter.unusedVariables false
set_option linter.unusedSimpArgs false
namespace Go.Proofs.Ytmgdobiloapelaa.Bb
open Go.RowKit Go.Proofs.YtmgdobiloapelaaW.PrintWords Go.Proofs.YtmgdobiloapelaaW.PrintLast Go.Proofs.Ytmgdobiloapelaa.B

def turnsOut (L P D : List Int) : List Int × Int :=
  if codeJ L P D = 0 then (if 120 < wholeN P then ([], 3) else if 0 ≤ (slotsOf L P D).2 then ([], 5) else ((slotsOf L P D).1, 0)) else ([], codeJ L P D)
theorem specTurnsJ_ev (L P D : List Int) : Ev (fun k => spec_l04Turns.f k L P D) (turnsOut L P D) := by
  unfold spec_l04Turns.f turnsOut
  refine Ev.bind (specCode_ev L P D) ?_
  by_cases h : codeJ L P D = 0
  · rw [if_pos h]
    refine ev_pos h ?_
    obtain ⟨J, hw⟩ := codeJ_zero h
    obtain ⟨r, hr, h1, _⟩ := l04Whole_ev J
    obtain rfl := h1 hw
    refine Ev.bind hr ?_
    by_cases c : 120 < wholeN P
    · exact ev_pos (by omega) (ev_val (Ev.now _) (by rw [if_pos c]))
    · rw [if_neg c]
      refine ev_neg (by omega) (Ev.bind (specSlots_ev J hw) ?_)
      by_cases c2 : 0 ≤ (slotsOf L P D).2
      · exact ev_val (ev_pos c2 (Ev.now _)) (by rw [if_pos c2])
      · exact ev_val (ev_neg c2 (Ev.now _)) (by simp only [if_neg c2])
  · rw [if_neg h]
    exact ev_neg h (Ev.now _)
theorem specTurnsOfJobs_ev (L P D : List Int) : Ev (fun k => spec_TurnsOfJobs.f k L P D) (turnsOut L P D) := by
  unfold spec_TurnsOfJobs.f
  exact Ev.bind (specTurnsJ_ev L P D) (Ev.now _)
theorem implTurnsOfJobs_ev (L P D : List Int) : Ev (fun k => impl_TurnsOfJobs.f k L P D) (turnsOut L P D) := by
  unfold impl_TurnsOfJobs.f turnsOut
  refine Ev.bind (implCode_ev L P D) ?_
  by_cases h : codeJ L P D = 0
  · rw [if_pos h]
    refine ev_pos h ?_
    obtain ⟨J, hw⟩ := codeJ_zero h
    refine Ev.bind (whole_ev J) ?_
    by_cases c : 120 < wholeN P
    · exact ev_pos (by omega) (ev_val (Ev.now _) (by rw [if_pos c]))
    · rw [if_neg c]
      refine ev_neg (by omega) (Ev.bind (implSlots_ev J hw) ?_)
      by_cases c2 : 0 ≤ (slotsOf L P D).2
      · exact ev_val (ev_pos c2 (Ev.now _)) (by rw [if_pos c2])
      · exact ev_val (ev_neg c2 (Ev.now _)) (by simp only [if_neg c2])
  · rw [if_neg h]
    exact ev_neg h (Ev.now _)
theorem turnsOut_length (L P D : List Int) : (turnsOut L P D).1.length ≤ 120 := by
  unfold turnsOut
  split
  · rename_i h
    split
    · simp
    · rename_i h2
      split
      · simp
      · exact Nat.le_trans (slotsOf_length L P D) (by omega)
  · simp

/-- What a slot's releases do. -/
theorem pickE_at {L P D : List Int} (s : Int) (j : Nat) : ∀ (d i : Nat) (l u : List Int) (b : Int), l.length = i + d → u.length = i + d → j < i + d →
    rd (pickE L P D s d i l u b).1 j = (if i ≤ j ∧ Int.tmod s (rd P j) = 0 then rd L j else rd l j) ∧ rd (pickE L P D s d i l u b).2.1 j = (if i ≤ j ∧ Int.tmod s (rd P j) = 0 then s + rd D j else rd u j) := by
  intro d
  induction d with
  | zero =>
    intro i l u b _ _ hj
    rw [if_neg (by omega), if_neg (by omega)]
    exact ⟨rfl, rfl⟩
  | succ d ih =>
    intro i l u b hl hu hj
    rw [pickE]
    obtain ⟨h1, h2⟩ := ih (i + 1) (if Int.tmod s (rd P i) = 0 then l.set i (rd L i) else l) (if Int.tmod s (rd P i) = 0 then u.set i (s + rd D i) else u) _ (by split <;> (try rw [List.length_set]) <;> omega) (by split <;> (try rw [List.length_set]) <;> omega) (by omega)
    rw [h1, h2]
    clear h1 h2
    by_cases e : j = i
    · subst e
      by_cases c : Int.tmod s (rd P j) = 0
      · simp [c, rd_set l j j _ (show j < l.length by omega), rd_set u j j _ (show j < u.length by omega)]
      · simp [c]
    · have e1 : (i + 1 ≤ j ∧ Int.tmod s (rd P j) = 0) = (i ≤ j ∧ Int.tmod s (rd P j) = 0) := by
        apply propext
        constructor
        · rintro ⟨h, h'⟩; exact ⟨by omega, h'⟩
        · rintro ⟨h, h'⟩; exact ⟨by omega, h'⟩
      simp only [e1]
      by_cases c : Int.tmod s (rd P i) = 0
      · simp only [if_pos c, rd_set l i j _ (show i < l.length by omega), rd_set u i j _ (show i < u.length by omega), if_neg e]
        exact ⟨trivial, trivial⟩
      · simp only [if_neg c]
        exact ⟨trivial, trivial⟩
theorem edf_prefix (L P D : List Int) : ∀ (d : Nat) (s : Int) (l u out : List Int), ∃ t, (edf L P D d s l u out).1 = out ++ t := by
  intro d
  induction d with
  | zero => intro s l u out; exact ⟨[], by simp [edf]⟩
  | succ d ih =>
    intro s l u out
    rw [edf]
    split
    · exact ⟨[], by simp⟩
    · obtain ⟨t, ht⟩ := ih (s + 1) (served (pickE L P D s L.length 0 l u (-1)).1 (pickE L P D s L.length 0 l u (-1)).2.2) (pickE L P D s L.length 0 l u (-1)).2.1 (out ++ [(pickE L P D s L.length 0 l u (-1)).2.2])
      exact ⟨_ :: t, by rw [ht, List.append_assoc]; rfl⟩
theorem served_at {L l u : List Int} {b : Int} (H : Held L l u b) (i : Nat) (hb : b ≠ i) : rd (served l b) i = rd l i := by
  unfold served
  split
  · rfl
  · rcases H.best with h | ⟨h1, h2, h3⟩
    · contradiction
    · rw [rd_set _ _ _ _ (by rw [H.hl]; omega), if_neg (by omega)]
theorem tmod_small {s p : Int} (h0 : 0 < s) (h : s < p) : Int.tmod s p ≠ 0 := by
  rw [Int.tmod_eq_emod_of_nonneg (by omega), Int.emod_eq_of_lt (by omega) h]
  omega
/-- A task that is never late has a turn. -/
theorem edf_turn {L P D : List Int} (J : JobsP L P D) (i : Nat) (hi : i < L.length) : ∀ (d : Nat) (s : Int) (l u out : List Int), 0 < s → s + d ≥ rd D i → Held L l u (-1) → 0 < rd l i → rd u i = rd D i →
    (edf L P D d s l u out).2 < 0 → (i : Int) ∈ (edf L P D d s l u out).1 := by
  have hE := J.each i hi
  intro d
  induction d with
  | zero =>
    intro s l u out hs hd H hl hu hno
    simp only [edf] at hno
    rcases lateF_cases l u s L.length 0 with ⟨_, h2⟩ | ⟨j, h1, _⟩
    · have := h2 i (by omega) (by omega)
      omega
    · rw [h1] at hno; omega
  | succ d ih =>
    intro s l u out hs hd H hl hu hno
    rw [edf] at hno ⊢
    rcases lateF_cases l u s L.length 0 with ⟨h1, h2⟩ | ⟨j, h1, _⟩
    · have hn := h2 i (by omega) (by omega)
      rw [if_neg (by omega)] at hno ⊢
      have HP := H.pick J s L.length 0 l u (-1) (by omega)
      obtain ⟨e1, e2⟩ := pickE_at (L := L) (P := P) (D := D) s i L.length 0 l u (-1) (by rw [H.hl]; omega) (by rw [H.hu]; omega) (by omega)
      have ht := tmod_small (s := s) (p := rd P i) hs (by omega)
      rw [if_neg (fun h => ht h.2)] at e1 e2
      by_cases hb : (pickE L P D s L.length 0 l u (-1)).2.2 = i
      · obtain ⟨t, ht⟩ := edf_prefix L P D d (s + 1) (served (pickE L P D s L.length 0 l u (-1)).1 (pickE L P D s L.length 0 l u (-1)).2.2) (pickE L P D s L.length 0 l u (-1)).2.1 (out ++ [(pickE L P D s L.length 0 l u (-1)).2.2])
        rw [ht, hb]
        simp
      · exact ih (s + 1) _ _ _ (by omega) (by omega) HP.serve (by rw [served_at HP i hb, e1]; exact hl) (by rw [e2]; exact hu) hno
    · rw [if_pos (by omega)] at hno
      rw [h1] at hno
      simp at hno
      omega
theorem slots_turn {L P D : List Int} (J : JobsP L P D) (hno : (slotsOf L P D).2 < 0) (i : Nat) (hi : i < L.length) : (i : Int) ∈ (slotsOf L P D).1 := by
  have hE := J.each i hi
  have hw := wholeN_pos J
  have hP : rd P i ≤ wholeN P := by
    have hp := J.periods
    have hm : (rd P i).toNat ∈ P.map Int.toNat := by
      rw [rd_lt (by rw [J.hP]; exact hi)]
      exact List.mem_map.mpr ⟨_, List.getElem_mem _, rfl⟩
    have := Nat.le_of_dvd hw ((lcms_dvd (P.map Int.toNat) 1).2 _ hm)
    have e : wholeN P = lcms (P.map Int.toNat) 1 := rfl
    omega
  unfold slotsOf at hno ⊢
  obtain ⟨d, hd⟩ : ∃ d, wholeN P = d + 1 := ⟨wholeN P - 1, by omega⟩
  rw [hd] at hno ⊢
  rw [edf] at hno ⊢
  have H := Held.zero L
  have hl0 : lateF (List.replicate L.length 0) (List.replicate L.length 0) 0 L.length 0 = -1 := by
    rcases lateF_cases (List.replicate L.length 0) (List.replicate L.length 0) 0 L.length 0 with ⟨h1, _⟩ | ⟨j, h1, _, _, h4, _⟩
    · exact h1
    · rw [rd_replicate0] at h4; omega
  rw [if_neg (by omega)] at hno ⊢
  have HP := H.pick J 0 L.length 0 _ _ (-1) (by omega)
  obtain ⟨e1, e2⟩ := pickE_at (L := L) (P := P) (D := D) 0 i L.length 0 (List.replicate L.length 0) (List.replicate L.length 0) (-1) (by simp) (by simp) (by omega)
  rw [if_pos ⟨by omega, by simp⟩] at e1 e2
  by_cases hb : (pickE L P D 0 L.length 0 (List.replicate L.length 0) (List.replicate L.length 0) (-1)).2.2 = i
  · obtain ⟨t, ht⟩ := edf_prefix L P D d (0 + 1) (served (pickE L P D 0 L.length 0 (List.replicate L.length 0) (List.replicate L.length 0) (-1)).1 (pickE L P D 0 L.length 0 (List.replicate L.length 0) (List.replicate L.length 0) (-1)).2.2) (pickE L P D 0 L.length 0 (List.replicate L.length 0) (List.replicate L.length 0) (-1)).2.1 ([] ++ [(pickE L P D 0 L.length 0 (List.replicate L.length 0) (List.replicate L.length 0) (-1)).2.2])
    rw [ht, hb]
    simp
  · exact edf_turn J i hi d (0 + 1) _ _ _ (by omega) (by omega) HP.serve (by rw [served_at HP i hb, e1]; omega) (by rw [e2]; omega) hno

def gapsFrom (t : List Int) : Nat → Nat → List Int
  | 0, _ => []
  | d + 1, i => gapL t i :: gapsFrom t d (i + 1)
theorem gapsFrom_length (t : List Int) : ∀ (d i : Nat), (gapsFrom t d i).length = d
  | 0, _ => rfl
  | d + 1, i => by rw [gapsFrom, List.length_cons, gapsFrom_length]
def gapsOut (L P D : List Int) : List Int × Int :=
  if (turnsOut L P D).2 = 0 then (if (gapsFrom (turnsOut L P D).1 L.length 0).all (inB 1 40) = true then (gapsFrom (turnsOut L P D).1 L.length 0, 0) else ([], 4)) else ([], (turnsOut L P D).2)
theorem turnsOut_zero {L P D : List Int} (h : (turnsOut L P D).2 = 0) : JobsP L P D ∧ (slotsOf L P D).2 < 0 ∧ (turnsOut L P D).1 = (slotsOf L P D).1 := by
  unfold turnsOut at h ⊢
  by_cases c : codeJ L P D = 0
  · rw [if_pos c] at h ⊢
    by_cases c1 : 120 < wholeN P
    · rw [if_pos c1] at h; simp at h
    · rw [if_neg c1] at h ⊢
      by_cases c2 : 0 ≤ (slotsOf L P D).2
      · rw [if_pos c2] at h; simp at h
      · rw [if_neg c2]
        exact ⟨(codeJ_zero c).1, by omega, rfl⟩
  · rw [if_neg c] at h
    exact absurd h c
theorem specGaps_ev (L P D : List Int) : Ev (fun k => spec_GapsOfTurns.f k L P D) (gapsOut L P D) := by
  unfold spec_GapsOfTurns.f gapsOut
  refine Ev.bind (specTurnsJ_ev L P D) ?_
  by_cases h : (turnsOut L P D).2 = 0
  rotate_left
  · rw [if_neg h]; exact ev_neg h (Ev.now _)
  rw [if_pos h]
  refine ev_pos h ?_
  obtain ⟨J, hno, e⟩ := turnsOut_zero h
  have hn := J.n8
  have ht := turnsOut_length L P D
  have hpos : ∀ i : Nat, i < L.length → 1 ≤ gapL (turnsOut L P D).1 i := fun i hi => gapL_pos _ _ (by rw [e]; exact slots_turn J hno i hi)
  have : ∀ (d i : Nat) (out : List Int), i + d = L.length → out.length = i → Ev (fun k => spec_GapsOfTurns.l0 k (turnsOut L P D).1 i L P D out) (if (gapsFrom (turnsOut L P D).1 d i).all (inB 1 40) = true then (out ++ gapsFrom (turnsOut L P D).1 d i, 0) else ([], 4)) := by
    intro d
    induction d with
    | zero =>
      intro i out hi ho
      refine ev_succ ?_
      simp only [spec_GapsOfTurns.l0]
      exact ev_neg (by omega) (ev_val (Ev.now _) (by simp [gapsFrom]))
    | succ d ih =>
      intro i out hi ho
      refine ev_succ ?_
      simp only [spec_GapsOfTurns.l0]
      refine ev_pos (by omega) (Ev.bind (specGap_ev _ _ (by omega)) ?_)
      have hp := hpos i (by omega)
      by_cases c : 40 < gapL (turnsOut L P D).1 i
      · refine ev_pos c (ev_val (Ev.now _) ?_)
        rw [gapsFrom, List.all_cons, show inB 1 40 (gapL (turnsOut L P D).1 i) = false by simp [inB]; omega]
        simp
      · refine ev_neg c (ev_pos (by omega) ?_)
        rw [show wrap64 ((i : Int) + 1) = ((i + 1 : Nat) : Int) from w64n (by omega)]
        refine ev_val (ih (i + 1) _ (by omega) (by simp [ho])) ?_
        rw [gapsFrom, List.all_cons, show inB 1 40 (gapL (turnsOut L P D).1 i) = true by simp [inB]; omega, List.append_assoc]
        simp
  exact ev_val (this L.length 0 [] (by omega) rfl) (by simp)
theorem implGaps_ev (L P D : List Int) : Ev (fun k => impl_GapsOfTurns.f k L P D) (gapsOut L P D) := by
  unfold impl_GapsOfTurns.f gapsOut
  refine Ev.bind (implTurnsOfJobs_ev L P D) ?_
  by_cases h : (turnsOut L P D).2 = 0
  rotate_left
  · rw [if_neg h]; exact ev_neg h (Ev.now _)
  rw [if_pos h]
  refine ev_pos h (ev_bnd (many_some L P D) ?_)
  obtain ⟨J, hno, e⟩ := turnsOut_zero h
  have hn := J.n8
  have hn1 := J.n1
  have ht := turnsOut_length L P D
  have : ∀ (d i : Nat) (out : List Int), i + d = L.length → out.length = i → out ++ gapsFrom (turnsOut L P D).1 d i = gapsFrom (turnsOut L P D).1 L.length 0 → Ev (fun k => impl_GapsOfTurns.l0 k (turnsOut L P D).1 (L.length : Int) i out) (if (gapsFrom (turnsOut L P D).1 L.length 0).all (inB 1 40) = true then (gapsFrom (turnsOut L P D).1 L.length 0, 0) else ([], 4)) := by
    intro d
    induction d with
    | zero =>
      intro i out hi ho hg
      rw [gapsFrom, List.append_nil] at hg
      refine ev_succ ?_
      simp only [impl_GapsOfTurns.l0]
      refine ev_neg (by omega) (ev_bnd rfl ?_)
      have h8 : inB 1 8 (out.length : Int) = true := by simp [inB]; omega
      rw [← hg]
      by_cases c : out.all (inB 1 40) = true
      · exact ev_pos (by rw [h8, c]; rfl) (ev_val (Ev.now _) (by rw [if_pos c]))
      · exact ev_neg (by rw [h8]; simpa using c) (ev_val (Ev.now _) (by rw [if_neg c]))
    | succ d ih =>
      intro i out hi ho hg
      refine ev_succ ?_
      simp only [impl_GapsOfTurns.l0]
      have hwl := waitsL_length (turnsOut L P D).1 i
      refine ev_pos (by omega) (Ev.bind (implWaits_ev _ _ (by omega)) (Ev.bind (implGreatest_ev _ (by omega)) (ev_pos (by omega) ?_)))
      rw [show wrap64 ((i : Int) + 1) = ((i + 1 : Nat) : Int) from w64n (by omega)]
      exact ih (i + 1) _ (by omega) (by simp [ho]) (by rw [← hg, gapsFrom, List.append_assoc]; rfl)
  exact this L.length 0 [] (by omega) rfl (by simp)
theorem gapsOut_length (L P D : List Int) : (gapsOut L P D).1.length ≤ 8 := by
  unfold gapsOut
  by_cases h : (turnsOut L P D).2 = 0
  · rw [if_pos h]
    split
    · show (gapsFrom _ _ _).length ≤ 8
      rw [gapsFrom_length]
      exact (turnsOut_zero h).1.n8
    · simp
  · rw [if_neg h]; simp
theorem eqTasks_same' (a : List Int) (ha : a.length ≤ 35184372088832) : Ev (fun k => laws_eqTasks.f k a a) true := by
  unfold laws_eqTasks.f
  exact Ev.bind (eqInt64S_same a ha) (ev_pos rfl (Ev.now _))
theorem markTasks_ev (a : List Int) (ha : a.length ≤ 35184372088832) : Ev (fun k => laws_markTasks.f k a 1) (1 + a.length, marks 1 a.length) := by
  unfold laws_markTasks.f
  exact Ev.bind (markInt64S_ev a 1 (by omega) (by omega) ha) (Ev.now _)
theorem heldTasks_ev (n : Nat) (hl : n ≤ 35184372088832) : Ev (fun k => laws_heldTasks.f k (marks 1 n) 1) (1 + n) := by
  unfold laws_heldTasks.f
  exact Ev.bind (heldInt64S_ev 1 n (by omega) (by omega) hl) (ev_neg (by omega) (Ev.now _))
end Go.Proofs.Ytmgdobiloapelaa.Bb
