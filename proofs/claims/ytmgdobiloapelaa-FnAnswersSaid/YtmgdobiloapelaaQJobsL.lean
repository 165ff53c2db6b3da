/- Jobs can be met exactly if no demand is too great, and none is late then. -/
import Derived.Test.YtmgdobiloapelaaQDem
import Derived.Test.YtmgdobiloapelaaQDraw
set_option linter.unusedVariables false
set_option linter.unusedSimpArgs false
namespace Go.Proofs.Ytmgdobiloapelaa.Vf
open Go Go.V Go.RowKit

/-! ### Draws -/
def Dr4 (r : List Int × List Int × List Int × SrcT) : Prop := Src r.2.2.2 ∧ r.1.length ≤ 8 ∧ (1 ≤ r.2.1.length ∧ r.2.1.length ≤ 8) ∧ (1 ≤ r.2.2.1.length ∧ r.2.2.1.length ≤ 8)

theorem drawOf_loop {k : Nat} (w : Int) (hw : 1 ≤ w ∧ w ≤ 9) : ∀ (d n : Nat) (s : SrcT) (L P D : List Int) (x : Int), Src s → x = d → d < n → L.length + d ≤ 8 → P.length + d ≤ 8 → D.length + d ≤ 8 → 1 ≤ P.length + d → 1 ≤ D.length + d →
    Gv (spec_l04DrawOf.l0 k n s.1 s.2.1 s.2.2 L P D w x) Dr4 := by
  intro d
  induction d with
  | zero =>
    intro n s L P D x S hx hn hL hP hD hP1 hD1
    cases n with
    | zero => omega
    | succ n =>
      simp only [spec_l04DrawOf.l0, spec_l04DrawOf.s0]
      refine Gv.neg (by omega) (Gv.bind (next_ok S 20) fun r hr => Gv.ite (fun _ => ?_) fun _ => ?_)
      · refine Gv.bind (pick_ok (s := (r.2.1, r.2.2.1, r.2.2.2)) hr.1 [59, 60, 37] (by simp)) fun q hq => ?_
        refine Gv.pos (by omega) (Gv.pos (by omega) (Gv.pos (by simp; omega) (Gv.pos (by omega) (Gv.ok ?_))))
        exact ⟨hq.1, by simp only; omega, by simp only [List.length_set]; omega, by simp only [List.length_set]; omega⟩
      · exact Gv.ok ⟨hr.1, by simp only; omega, by simp only; omega, by simp only; omega⟩
  | succ d ih =>
    intro n s L P D x S hx hn hL hP hD hP1 hD1
    cases n with
    | zero => omega
    | succ n =>
      simp only [spec_l04DrawOf.l0, spec_l04DrawOf.s0]
      refine Gv.pos (by omega) (Gv.bind (next_ok S w) fun r hr => ?_)
      obtain ⟨r1, r2⟩ := hr.2.2 (by omega)
      refine Gv.pos r1 (Gv.pos (by omega) (Gv.bind (next_ok (s := (r.2.1, r.2.2.1, r.2.2.2)) hr.1 _) fun q hq => Gv.bind (next_ok (s := (q.2.1, q.2.2.1, q.2.2.2)) hq.1 3) fun v hv => Gv.ite (fun _ => ?_) fun _ => ?_))
      · refine Gv.bind (next_ok (s := (v.2.1, v.2.2.1, v.2.2.2)) hv.1 _) fun y hy => Gv.pos (by omega) (Gv.pos (by omega) (Gv.pos (by omega) ?_))
        rw [w64 (x := x - 1) (by omega) (by omega)]
        exact ih n y.2 _ _ _ (x - 1) hy.1 (by omega) (by omega) (by simp; omega) (by simp; omega) (by simp; omega) (by simp; omega) (by simp; omega)
      · refine Gv.pos (by omega) (Gv.pos (by omega) (Gv.pos (by omega) ?_))
        rw [w64 (x := x - 1) (by omega) (by omega)]
        exact ih n v.2 _ _ _ (x - 1) hv.1 (by omega) (by omega) (by simp; omega) (by simp; omega) (by simp; omega) (by simp; omega) (by simp; omega)

theorem jobsDrawOf_ok {k : Nat} (hk : 2097152 ≤ k) {s : SrcT} (S : Src s) : Gv (spec_l04DrawOf.f k s) Dr4 := by
  unfold spec_l04DrawOf.f spec_l04DrawOf.g
  refine Gv.bind (pick_ok (s := (s.1, s.2.1, s.2.2)) S [3, 6, 6, 9] (by simp)) fun r hr => Gv.bind (next_ok (s := (r.2.1, r.2.2.1, r.2.2.2)) hr.1 4) fun q hq => ?_
  obtain ⟨q1, q2⟩ := hq.2.2 (by omega)
  have hw : 1 ≤ r.1 ∧ r.1 ≤ 9 := by
    have := hr.2
    simp only [List.mem_cons, List.not_mem_nil, or_false] at this
    omega
  rw [w64 (x := 1 + q.1) (by omega) (by omega)]
  exact drawOf_loop r.1 hw (1 + q.1).toNat k q.2 [] [] [] (1 + q.1) hq.1 (by omega) (by omega) (by simp; omega) (by simp; omega) (by simp; omega) (by omega) (by omega)

theorem jobsBad_ok {s : SrcT} (S : Src s) {L P D : List Int} (hL : L.length ≤ 8) (hP : 1 ≤ P.length ∧ P.length ≤ 8) (hD : 1 ≤ D.length ∧ D.length ≤ 8) : Gv (spec_l04Bad.f s L P D) fun r => Src r.2.2.2 ∧ r.1.length ≤ 9 ∧ r.2.1.length ≤ 9 ∧ r.2.2.1.length ≤ 9 := by
  unfold spec_l04Bad.f
  refine Gv.bind (next_ok (s := (s.1, s.2.1, s.2.2)) S 40) fun r hr => Gv.ite (fun _ => ?_) fun _ => Gv.ite (fun _ => ?_) fun _ => Gv.ite (fun _ => ?_) fun _ => ?_
  · rw [own_ok L (by omega), Option.bind_some]
    exact Gv.pos (by omega) (Gv.ok ⟨hr.1, by simp; omega, by simp only; omega, by simp only; omega⟩)
  · rw [own_ok P (by omega), Option.bind_some]
    refine Gv.bind (pick_ok (s := (r.2.1, r.2.2.1, r.2.2.2)) hr.1 [0, 61, -1] (by simp)) fun q hq => Gv.pos (by omega) (Gv.ok ⟨hq.1, by simp only; omega, by simp only [List.length_set]; omega, by simp only; omega⟩)
  · rw [own_ok D (by omega), Option.bind_some]
    refine Gv.bind (pick_ok (s := (r.2.1, r.2.2.1, r.2.2.2)) hr.1 [0, 61] (by simp)) fun q hq => Gv.pos (by omega) (Gv.ok ⟨hq.1, by simp only; omega, by simp only; omega, by simp only [List.length_set]; omega⟩)
  · exact Gv.ok ⟨hr.1, by simp only; omega, by simp only; omega, by simp only; omega⟩

theorem jobsDraw_ok {k : Nat} (hk : 2097152 ≤ k) {c : List Int} (hb : ∀ x ∈ c, 0 ≤ x ∧ x ≤ 255) (hl : c.length ≤ 4096) : Gv (spec_l04Draw.f k c) fun r => r.1.length ≤ 9 ∧ r.2.1.length ≤ 9 ∧ r.2.2.length ≤ 9 := by
  unfold spec_l04Draw.f
  refine Gv.bind (from_ok hk hb hl) fun s S => Gv.bind (jobsDrawOf_ok hk (s := (s.1, s.2.1, s.2.2)) S) fun r hr => Gv.bind (jobsBad_ok (s := (r.2.2.2.1, r.2.2.2.2.1, r.2.2.2.2.2)) hr.1 hr.2.1 hr.2.2.1 hr.2.2.2) fun q hq => Gv.ok ?_
  exact hq.2

theorem likeSelf {k : Nat} (hk : 2097152 ≤ k) {l : List Int} (hl : l.length ≤ 1048576) : laws_likeInts.f k l l = some true := by
  have key : ∀ (d i n : Nat), l.length - i = d → i ≤ l.length → d < n → laws_likeInts.l0 k n l l i = some true := by
    intro d
    induction d with
    | zero =>
      intro i n hd hi hn
      cases n with
      | zero => omega
      | succ n =>
        simp only [laws_likeInts.l0, laws_likeInts.s0]
        rw [if_neg (by omega)]
    | succ d ih =>
      intro i n hd hi hn
      cases n with
      | zero => omega
      | succ n =>
        simp only [laws_likeInts.l0, laws_likeInts.s0]
        rw [if_pos (by omega), if_pos (by omega), if_pos (by omega), if_pos (by omega), if_pos (by omega), if_pos trivial, w64n (by omega)]
        exact ih (i + 1) n (by omega) (by omega) (by omega)
  unfold laws_likeInts.f laws_likeInts.g
  rw [if_pos rfl]
  exact key l.length 0 k rfl (by omega) (by omega)

/-! ### What the functions give -/
def slotsR (L P D : List Int) : List Int × Int := if codeJ L P D = 0 then ((slotsJ L P D).1, 0) else ([], codeJ L P D)
def lateR (L P D : List Int) : Int × Int × Int := if codeJ L P D = 0 then (if lateJ L P D < 0 then (0, 0, 4) else (((slotsJ L P D).1.length : Int), lateJ L P D, 0)) else (0, 0, codeJ L P D)
def roomR (L P D : List Int) : Int × Int := if codeJ L P D = 0 then (roomJ L P D, 0) else (0, codeJ L P D)
def canR (L P D : List Int) : Bool × Int := if codeJ L P D = 0 then (decide (lateJ L P D < 0), 0) else (false, codeJ L P D)
def wholeR (L P D : List Int) : Int × Int := if codeJ L P D = 0 then ((wholeN P : Int), 0) else (0, codeJ L P D)

theorem lateJ_neg (L P D : List Int) : lateJ L P D < 0 ↔ (slotsJ L P D).2 < 0 := by
  unfold lateJ
  by_cases h : 0 ≤ (slotsJ L P D).2
  · rw [if_pos h]
  · rw [if_neg h]; omega

theorem implCan_f {k : Nat} (hk : 2097152 ≤ k) (L P D : List Int) : impl_CanMeet.f k L P D = some (canR L P D) := by
  unfold impl_CanMeet.f canR
  rw [jobsCode_f hk, Option.bind_some]
  by_cases h : codeJ L P D = 0
  · obtain ⟨J, hw⟩ := codeJ_zero h
    have hr := roomJ_iff J
    rw [← lateJ_neg] at hr
    rw [if_pos h, if_pos h, implLoad_f hk J, implRoom_f hk J hw, Option.bind_some, Option.bind_some]
    by_cases c : 0 ≤ roomJ L P D
    · rw [if_pos c, decide_eq_true (load_le J c), decide_eq_true (hr.1 c)]
    · rw [if_neg c, decide_eq_false (fun h => c (hr.2 h))]
  · rw [if_neg h, if_neg h]
/-! ### The slots of each task -/
end Go.Proofs.Ytmgdobiloapelaa.Vf
