/- Jobs with answers in the order of deadlines can be met, and turns of jobs of tasks serve the tasks. -/
import Derived.Test.YtmgdobiloapelaaQAnsT
import Derived.Test.YtmgdobiloapelaaQTj
import Derived.Test.YtmgdobiloapelaaQ04o
import Derived.Test.YtmgdobiloapelaaQDraw2
import Derived.Test.YtmgdobiloapelaaQJobsL
set_option linter.unusedVariables false
set_option linter.unusedSimpArgs false
namespace Go.Proofs.Ytmgdobiloapelaa.Vf
open Go Go.V Go.RowKit

theorem drawOrder_ok {k : Nat} {s : SrcT} (S : Src s) {m : Nat} (hk : 2097152 ≤ k) (hm : m ≤ 1000) : Gv (spec_l01DrawOrder.f k s m) fun r => Src r.2 ∧ r.1.length = m := by
  have key : ∀ (d i n : Nat) (s : SrcT) (out : List Int), Src s → m - i = d → i ≤ m → out.length = i → d < n → Gv (spec_l01DrawOrder.l0 k n s.1 s.2.1 s.2.2 m out i) fun r => Src r.2 ∧ r.1.length = m := by
    intro d
    induction d with
    | zero =>
      intro i n s out S hd hi ho hn
      cases n with
      | zero => omega
      | succ n =>
        simp only [spec_l01DrawOrder.l0, spec_l01DrawOrder.s0]
        exact Gv.neg (by omega) (Gv.ok ⟨S, by simp only; omega⟩)
    | succ d ih =>
      intro i n s out S hd hi ho hn
      cases n with
      | zero => omega
      | succ n =>
        simp only [spec_l01DrawOrder.l0, spec_l01DrawOrder.s0]
        rw [w64n (by omega)]
        refine Gv.pos (by omega) (Gv.bind (next_ok (s := (s.1, s.2.1, s.2.2)) S _) fun r hr => ?_)
        obtain ⟨r1, r2⟩ := hr.2.2 (by omega)
        have hlen : ((out.take r.1.toNat ++ [(i : Int)]) ++ (out.take (out.length : Int).toNat).drop r.1.toNat).length = i + 1 := by
          simp only [List.length_append, List.length_take, List.length_drop, List.length_singleton, Int.toNat_natCast]
          omega
        have hl2 : (out.take r.1.toNat ++ [(i : Int)]).length + ((out.take (out.length : Int).toNat).drop r.1.toNat).length = i + 1 := by
          rw [← List.length_append]; exact hlen
        refine Gv.pos r1 (Gv.pos (by omega) ?_)
        rw [own_ok _ (by rw [List.length_take]; omega), Option.bind_some]
        refine Gv.pos (by rw [List.length_take]; omega) (Gv.pos r1 (Gv.pos (by omega) (Gv.pos (Int.le_refl _) (Gv.pos (by rw [hl2]; omega) ?_))))
        exact ih (i + 1) n r.2 _ hr.1 (by omega) (by omega) hlen (by omega)
  unfold spec_l01DrawOrder.f spec_l01DrawOrder.g
  exact key m 0 k s [] S (by omega) (by omega) rfl (by omega)

theorem orderR_len {L P D : List Int} : (orderR L P D).1.length ≤ 8 := by
  unfold orderR
  by_cases h : jobsOk L P D = true
  · rw [if_pos h]
    show (sortN D L.length).length ≤ 8
    rw [sortN_len]; exact ((jobsOk_iff L P D).1 h).n8
  · rw [if_neg h]; simp

theorem drawAnswers_ok {k : Nat} (hk : 2097152 ≤ k) {c : List Int} (hb : ∀ x ∈ c, 0 ≤ x ∧ x ≤ 255) (hl : c.length ≤ 4096) : Gv (spec_DrawAnswersOf.f k c) fun r => r.1.length ≤ 9 ∧ r.2.1.length ≤ 9 ∧ r.2.2.1.length ≤ 9 ∧ r.2.2.2.length ≤ 9 := by
  unfold spec_DrawAnswersOf.f
  refine Gv.bind (from_ok hk hb hl) fun s S => Gv.bind (jobsDraw_ok hk hb hl) fun j hj => ?_
  obtain ⟨m, hm⟩ : ∃ m : Nat, minV (maxV (j.1.length : Int) 1) 8 = (m : Int) ∧ m ≤ 8 := by
    have h1 : 0 ≤ minV (maxV (j.1.length : Int) 1) 8 ∧ minV (maxV (j.1.length : Int) 1) 8 ≤ 8 := by
      unfold minV maxV
      split <;> split <;> omega
    exact ⟨(minV (maxV (j.1.length : Int) 1) 8).toNat, by omega, by omega⟩
  rw [hm.1]
  refine Gv.bind (drawOrder_ok (s := (s.1, s.2.1, s.2.2)) S hk (by omega)) fun o ho => ?_
  rw [spec_Order_f hk, Option.bind_some]
  have hol := orderR_len (L := j.1) (P := j.2.1) (D := j.2.2)
  have ho2 := ho.2
  refine Gv.ite (fun _ => ?_) fun _ => ?_
  · refine Gv.bind (next_ok (s := (o.2.1, o.2.2.1, o.2.2.2)) ho.1 2) fun q hq => Gv.ite (fun _ => ?_) fun _ => ?_
    · refine Gv.bind (next_ok (s := (q.2.1, q.2.2.1, q.2.2.2)) hq.1 16) fun v hv => Gv.ite (fun _ => Gv.pos (by omega) (Gv.ok ?_)) fun _ => Gv.ok ?_
      · exact ⟨hj.1, hj.2.1, hj.2.2, by simp; omega⟩
      · exact ⟨hj.1, hj.2.1, hj.2.2, by simp only; omega⟩
    · refine Gv.bind (next_ok (s := (q.2.1, q.2.2.1, q.2.2.2)) hq.1 16) fun v hv => Gv.ite (fun _ => Gv.pos (by omega) (Gv.ok ?_)) fun _ => Gv.ok ?_
      · exact ⟨hj.1, hj.2.1, hj.2.2, by simp; omega⟩
      · exact ⟨hj.1, hj.2.1, hj.2.2, by simp only; omega⟩
  · refine Gv.bind (next_ok (s := (o.2.1, o.2.2.1, o.2.2.2)) ho.1 16) fun v hv => Gv.ite (fun _ => Gv.pos (by omega) (Gv.ok ?_)) fun _ => Gv.ok ?_
    · exact ⟨hj.1, hj.2.1, hj.2.2, by simp; omega⟩
    · exact ⟨hj.1, hj.2.1, hj.2.2, by simp only; omega⟩

theorem drawTasks_ok {k : Nat} (hk : 2097152 ≤ k) {c : List Int} (hb : ∀ x ∈ c, 0 ≤ x ∧ x ≤ 255) (hl : c.length ≤ 4096) : Gv (spec_DrawJobsOfTasks.f k c) fun r => r.length ≤ 1009 := by
  unfold spec_DrawJobsOfTasks.f
  exact Gv.bind (from_ok hk hb hl) fun s S => Gv.bind (spoil_ok hk (s := (s.1, s.2.1, s.2.2)) S) fun r hr => Gv.ok hr.2

end Go.Proofs.Ytmgdobiloapelaa.Vf
