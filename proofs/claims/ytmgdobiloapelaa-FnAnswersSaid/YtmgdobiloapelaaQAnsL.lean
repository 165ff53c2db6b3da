/- Jobs with answers in the order of deadlines can be met, and turns of jobs of tasks serve the tasks. -/
import Derived.Test.YtmgdobiloapelaaQAnsT
import Derived.Test.YtmgdobiloapelaaQTj
import Derived.Test.YtmgdobiloapelaaQ04o
import Derived.Test.YtmgdobiloapelaaQDraw2
import Derived.Test.YtmgdobiloapelaaQJobsL
set_option linter.unusedVariables false
set_option linter.unusedSimpArgs false
namespace Go.Proofs.Ytmgdobiloapelaa.Vf
open Go Go.V Go.RowKit

theorem drawOrder_ok {k : Nat} {s : SrcT} (S : Src s) {m : Nat} (hk : 2097152 ≤ k) (hm : m ≤ 1000) : Gv (spec_l01DrawOrder.f k s m) fun r => Src r.2 ∧ r.1.length = m := by
  have key : ∀ (d i n : Nat) (s : SrcT) (out : List Int), Src s → m - i = d → i ≤ m → out.length = i → d < n → Gv (spec_l01DrawOrder.l0 k n s.1 s.2.1 s.2.2 m out i) fun r => Src r.2 ∧ r.1.length = m := by
    intro d
    induction d with
    | zero =>
      intro i n s out S hd hi ho hn
      cases n with
      | zero => omega
      | succ n =>
        simp only [spec_l01DrawOrder.l0, spec_l01DrawOrder.s0]
        exact Gv.neg (by omega) (Gv.ok ⟨S, by simp only; omega⟩)
    | succ d ih =>
      intro i n s out S hd hi ho hn
      cases n with
      | zero => omega
      | succ n =>
        simp only [spec_l01DrawOrder.l0, spec_l01DrawOrder.s0]
        rw [w64n (by omega)]
        refine Gv.pos (by omega) (Gv.bind (next_ok (s := (s.1, s.2.1, s.2.2)) S _) fun r hr => ?_)
        obtain ⟨r1, r2⟩ := hr.2.2 (by omega)
        have hlen : ((out.take r.1.toNat ++ [(i : Int)]) ++ (out.take (out.length : Int).toNat).drop r.1.toNat).length = i + 1 := by
          simp only [List.length_append, List.length_take, List.length_drop, List.length_singleton, Int.toNat_natCast]
          omega
        have hl2 : (out.take r.1.toNat ++ [(i : Int)]).length + ((out.take (out.length : Int).toNat).drop r.1.toNat).length = i + 1 := by
          rw [← List.length_append]; exact hlen
        refine Gv.pos r1 (Gv.pos (by omega) ?_)
        rw [own_ok _ (by rw [List.length_take]; omega), Option.bind_some]
        refine Gv.pos (by rw [List.length_take]; omega) (Gv.pos r1 (Gv.pos (by omega) (Gv.pos (Int.le_refl _) (Gv.pos (by rw [hl2]; omega) ?_))))
        exact ih (i + 1) n r.2 _ hr.1 (by omega) (by omega) hlen (by omega)
  unfold spec_l01DrawOrder.f spec_l01DrawOrder.g
  exact key m 0 k s [] S (by omega) (by omega) rfl (by omega)

theorem orderR_len {L P D : List Int} : (orderR L P D).1.length ≤ 8 := by
  unfold orderR
  by_cases h : jobsOk L P D = true
  · rw [if_pos h]
    show (sortN D L.length).length ≤ 8
    rw [sortN_len]; exact ((jobsOk_iff L P D).1 h).n8
  · rw [if_neg h]; simp

theorem drawAnswers_ok {k : Nat} (hk : 2097152 ≤ k) {c : List Int} (hb : ∀ x ∈ c, 0 ≤ x ∧ x ≤ 255) (hl : c.length ≤ 4096) : Gv (spec_DrawAnswersOf.f k c) fun r => r.1.length ≤ 9 ∧ r.2.1.length ≤ 9 ∧ r.2.2.1.length ≤ 9 ∧ r.2.2.2.length ≤ 9 := by
  unfold spec_DrawAnswersOf.f
  refine Gv.bind (from_ok hk hb hl) fun s S => Gv.bind (jobsDraw_ok hk hb hl) fun j hj => ?_
  obtain ⟨m, hm⟩ : ∃ m : Nat, minV (maxV (j.1.length : Int) 1) 8 = (m : Int) ∧ m ≤ 8 := by
    have h1 : 0 ≤ minV (maxV (j.1.length : Int) 1) 8 ∧ minV (maxV (j.1.length : Int) 1) 8 ≤ 8 := by
      unfold minV maxV
      split <;> split <;> omega
    exact ⟨(minV (maxV (j.1.length : Int) 1) 8).toNat, by omega, by omega⟩
  rw [hm.1]
  refine Gv.bind (drawOrder_ok (s := (s.1, s.2.1, s.2.2)) S hk (by omega)) fun o ho => ?_
  rw [spec_Order_f hk, Option.bind_some]
  have hol := orderR_len (L := j.1) (P := j.2.1) (D := j.2.2)
  have ho2 := ho.2
  refine Gv.ite (fun _ => ?_) fun _ => ?_
  · refine Gv.bind (next_ok (s := (o.2.1, o.2.2.1, o.2.2.2)) ho.1 2) fun q hq => Gv.ite (fun _ => ?_) fun _ => ?_
    · refine Gv.bind (next_ok (s := (q.2.1, q.2.2.1, q.2.2.2)) hq.1 16) fun v hv => Gv.ite (fun _ => Gv.pos (by omega) (Gv.ok ?_)) fun _ => Gv.ok ?_
      · exact ⟨hj.1, hj.2.1, hj.2.2, by simp; omega⟩
      · exact ⟨hj.1, hj.2.1, hj.2.2, by simp only; omega⟩
    · refine Gv.bind (next_ok (s := (q.2.1, q.2.2.1, q.2.2.2)) hq.1 16) fun v hv => Gv.ite (fun _ => Gv.pos (by omega) (Gv.ok ?_)) fun _ => Gv.ok ?_
      · exact ⟨hj.1, hj.2.1, hj.2.2, by simp; omega⟩
      · exact ⟨hj.1, hj.2.1, hj.2.2, by simp only; omega⟩
  · refine Gv.bind (next_ok (s := (o.2.1, o.2.2.1, o.2.2.2)) ho.1 16) fun v hv => Gv.ite (fun _ => Gv.pos (by omega) (Gv.ok ?_)) fun _ => Gv.ok ?_
    · exact ⟨hj.1, hj.2.1, hj.2.2, by simp; omega⟩
    · exact ⟨hj.1, hj.2.1, hj.2.2, by simp only; omega⟩

theorem drawTasks_ok {k : Nat} (hk : 2097152 ≤ k) {c : List Int} (hb : ∀ x ∈ c, 0 ≤ x ∧ x ≤ 255) (hl : c.length ≤ 4096) : Gv (spec_DrawJobsOfTasks.f k c) fun r => r.length ≤ 1009 := by
  unfold spec_DrawJobsOfTasks.f
  exact Gv.bind (from_ok hk hb hl) fun s S => Gv.bind (spoil_ok hk (s := (s.1, s.2.1, s.2.2)) S) fun r hr => Gv.ok hr.2

/-- The loop over the answers. -/
theorem answers_loop {k : Nat} (hk : 2097152 ≤ k) {L P D A : List Int} (hA : A.length ≤ 8) (hL : A.length = L.length) (hD : D.length = L.length) (hb : ∀ j : Nat, j < A.length → rd A j ≠ -1 → rd L j ≤ rd A j ∧ rd A j ≤ rd D j ∧ 1 ≤ rd L j) (hcan : (∀ j : Nat, j < A.length → rd A j ≠ -1) → (canR L P D).2 = 0 → (canR L P D).1 = true) : ∀ (d i n : Nat) (all : Bool), A.length - i = d → i ≤ A.length → (all = true → ∀ j : Nat, j < i → rd A j ≠ -1) → d < n →
    laws_FnAnswers.l0 k n L P D A 0 all i = some true := by
  intro d
  induction d with
  | zero =>
    intro i n all hd hi hall hn
    cases n with
    | zero => omega
    | succ n =>
      simp only [laws_FnAnswers.l0, laws_FnAnswers.s0]
      rw [if_neg (by omega), implCan_f hk, Option.bind_some, if_pos trivial]
      by_cases c : all = true
      · rw [if_pos c]
        by_cases c2 : (canR L P D).2 = 0
        · rw [if_pos c2, hcan (fun j hj => hall c j (by omega)) c2]
        · rw [if_neg c2]
      · rw [if_neg c]
  | succ d ih =>
    intro i n all hd hi hall hn
    cases n with
    | zero => omega
    | succ n =>
      have hbi := hb i (by omega)
      simp only [laws_FnAnswers.l0, laws_FnAnswers.s0]
      rw [if_pos (by omega), w64n (by omega)]
      have next : ∀ all' : Bool, (all' = true → ∀ j : Nat, j < i + 1 → rd A j ≠ -1) → laws_FnAnswers.l0 k n L P D A 0 all' ((i + 1 : Nat) : Int) = some true := fun all' h => ih (i + 1) n all' (by omega) (by omega) h (by omega)
      by_cases c : all = true
      · rw [if_pos c, if_pos (by omega), if_pos (by omega), if_pos (by omega), if_pos (by omega)]
        by_cases c2 : rd A i = -1
        · rw [if_pos c2]
          exact next _ (fun h => by rw [decide_eq_true_iff] at h; omega)
        · have h2 := hbi c2
          rw [if_neg c2, if_pos (by omega), if_pos (by omega), if_pos (by omega), if_pos (by omega), if_neg (by omega), if_pos (by omega), if_pos (by omega), if_pos (by omega), if_pos (by omega), if_neg (by omega)]
          refine next _ (fun _ j hj => ?_)
          by_cases e : j = i
          · subst e; exact c2
          · exact hall c j (by omega)
      · rw [if_neg c, if_pos (by omega), if_pos (by omega)]
        by_cases c2 : rd A i = -1
        · rw [if_pos c2]
          exact next _ (fun h => by cases h)
        · have h2 := hbi c2
          rw [if_neg c2, if_pos (by omega), if_pos (by omega), if_pos (by omega), if_pos (by omega), if_neg (by omega), if_pos (by omega), if_pos (by omega), if_pos (by omega), if_pos (by omega), if_neg (by omega)]
          exact next _ (fun h => by cases h)

/-- The end of the law. -/
theorem answers_end {k : Nat} (hk : 2097152 ≤ k) (L P D o : List Int) : (if (answersR L P D o).2 = 0 then laws_FnAnswers.l0 k k L P D (answersR L P D o).1 (orderR L P D).2 true 0 else some (decide (((answersR L P D o).1.length : Int) = 0))) = some true := by
  by_cases h : jobsOk L P D = true
  · have J := (jobsOk_iff L P D).1 h
    by_cases h2 : OrdP o L.length
    · have e : answersR L P D o = (answersF L P D o o.length 0 (List.replicate L.length 0), 0) := by unfold answersR; rw [if_pos h, if_pos h2]
      have e2 : (orderR L P D).2 = 0 := by unfold orderR; rw [if_pos h]
      have hlen : (answersF L P D o o.length 0 (List.replicate L.length 0)).length = L.length := by rw [answersF_length, List.length_replicate]
      have hn := J.n8
      rw [e, e2, if_pos rfl]
      refine answers_loop hk (by omega) hlen J.hD (fun j hj hne => ?_) (fun hall hz => ?_) L.length 0 k true (by rw [Nat.sub_zero]; exact hlen) (by omega) (fun _ j hj => by omega) (by omega)
      · have := answers_bnd J h2 j (by omega) hne
        have := (J.each j (by omega)).1
        omega
      · have := answers_can J h2 (fun j hj => hall j (by omega))
        unfold canR at hz ⊢
        by_cases c : codeJ L P D = 0
        · rw [if_pos c]
          exact decide_eq_true ((lateJ_neg L P D).2 this)
        · rw [if_neg c] at hz; exact absurd hz c
    · have e : answersR L P D o = ([], 2) := by unfold answersR; rw [if_pos h, if_neg h2]
      rw [e]; rfl
  · have e : answersR L P D o = ([], 1) := by unfold answersR; rw [if_neg h]
    rw [e]; rfl

theorem law_FnAnswers {k : Nat} {l : List Int} (hk : 2097152 ≤ k) (hb : ∀ x ∈ l, 0 ≤ x ∧ x ≤ 255) : laws_FnAnswers.f k l = some true := by
  unfold laws_FnAnswers.f laws_FnAnswers.g laws_big.f
  rw [Option.bind_some]
  by_cases hbig : 4096 < (l.length : Int)
  · rw [if_pos (decide_eq_true hbig)]
  rw [if_neg (by simpa using hbig)]
  have hl : l.length ≤ 4096 := by omega
  obtain ⟨⟨L, P, D, o⟩, e1, hL, hP, hD, ho⟩ := drawAnswers_ok hk hb hl
  obtain ⟨⟨L2, P2, D2⟩, e2, hL2, hP2, hD2⟩ := jobsDraw_ok hk hb hl
  obtain ⟨G, e3, hG⟩ := drawTasks_ok hk hb hl
  have e2' : spec_DrawTurnsOfJobs.f k l = some (L2, P2, D2) := by unfold spec_DrawTurnsOfJobs.f; rw [e2]; rfl
  simp only at hL hP hD ho hL2 hP2 hD2
  obtain ⟨a1, a2⟩ := answers_ok hk L P D o (by omega) (by omega)
  obtain ⟨b1, b2⟩ := turnsJ_ok hk L2 P2 D2
  obtain ⟨c1, c2⟩ := gaps_ok hk L2 P2 D2
  obtain ⟨d1, d2⟩ := jobsT_ok hk (G := G) (by omega)
  have b2' : spec_TurnsOfJobs.f k L2 P2 D2 = some (turnsJ L2 P2 D2) := by unfold spec_TurnsOfJobs.f; rw [b2]; rfl
  have n1 := answersR_length L P D o
  have n2 := orderR_len (L := L) (P := P) (D := D)
  have n3 := turnsJ_len L2 P2 D2
  have n4 := gapsR_len L2 P2 D2
  have n5 : (jobsT G).1.length ≤ 1009 ∧ (jobsT G).2.1.length ≤ 1009 ∧ (jobsT G).2.2.1.length ≤ 1009 := by
    unfold jobsT
    by_cases h : isT G = true
    · rw [if_pos h]; simp [ones, halves]; omega
    · rw [if_neg h]; simp
  have j9 : laws_jobs9.f k (jobsT G).1 (jobsT G).2.1 (jobsT G).2.2.1 (jobsT G).1 (jobsT G).2.1 (jobsT G).2.2.1 = some true := by
    unfold laws_jobs9.f
    rw [likeSelf hk (by omega), Option.bind_some, if_pos rfl, likeSelf hk (by omega), Option.bind_some, if_pos rfl, likeSelf hk (by omega)]
    rfl
  have fin := answers_end hk L P D o
  have gap : (if (gapsR L2 P2 D2).2 = 0 then ((impl_DoServe.f k (gapsR L2 P2 D2).1 (turnsJ L2 P2 D2).1).bind fun t22 => if (turnsJ L2 P2 D2).2 = 0 then (if t22.2 = 0 then (if t22.1 = true then (if (answersR L P D o).2 = 0 then laws_FnAnswers.l0 k k L P D (answersR L P D o).1 (orderR L P D).2 true 0 else some (decide (((answersR L P D o).1.length : Int) = 0))) else (some false)) else (some false)) else (some false)) else (if (answersR L P D o).2 = 0 then laws_FnAnswers.l0 k k L P D (answersR L P D o).1 (orderR L P D).2 true 0 else some (decide (((answersR L P D o).1.length : Int) = 0)))) = some true := by
    by_cases h : (gapsR L2 P2 D2).2 = 0
    · obtain ⟨g1, g2⟩ := gaps_serve hk h
      rw [if_pos h, g2, Option.bind_some, if_pos g1, if_pos rfl, if_pos rfl]
      exact fin
    · rw [if_neg h]; exact fin
  simp only [e1, e2', e3, a1, a2, b1, b2', c1, c2, d1, d2, impl_Order_f hk, spec_Order_f hk, Option.bind_some, if_true, likeSelf hk (show (answersR L P D o).1.length ≤ 1048576 by omega), likeSelf hk (show (orderR L P D).1.length ≤ 1048576 by omega), likeSelf hk (show (turnsJ L2 P2 D2).1.length ≤ 1048576 by omega), likeSelf hk (show (gapsR L2 P2 D2).1.length ≤ 1048576 by omega), j9]
  by_cases h : (jobsT G).2.2.2 = 0
  · have hT : isT G = true := by
      unfold jobsT at h
      by_cases c : isT G = true
      · exact c
      · rw [if_neg c] at h; cases h
    have eT : jobsT G = (ones G, halves G, halves G, 0) := by unfold jobsT; rw [if_pos hT]
    rw [if_pos h, eT, (turnsJ_ok hk (ones G) (halves G) (halves G)).1, Option.bind_some]
    by_cases h2 : (turnsJ (ones G) (halves G) (halves G)).2 = 0
    · rw [if_pos h2, own_serve hk hT h2, Option.bind_some, if_pos rfl, if_pos rfl]
      exact gap
    · rw [if_neg h2]
      exact gap
  · rw [if_neg h]
    exact gap

end Go.Proofs.Ytmgdobiloapelaa.Vf
