/- Jobs can be met exactly if no demand is too great, and none is late then. -/
import Derived.Test.YtmgdobiloapelaaQDem
import Derived.Test.YtmgdobiloapelaaQDraw
set_option linter.unusedVariables false
set_option linter.unusedSimpArgs false
namespace Go.Proofs.Ytmgdobiloapelaa.Vf
open Go Go.V Go.RowKit

/-! ### Draws -/
def Dr4 (r : List Int × List Int × List Int × SrcT) : Prop := Src r.2.2.2 ∧ r.1.length ≤ 8 ∧ (1 ≤ r.2.1.length ∧ r.2.1.length ≤ 8) ∧ (1 ≤ r.2.2.1.length ∧ r.2.2.1.length ≤ 8)

theorem drawOf_loop {k : Nat} (w : Int) (hw : 1 ≤ w ∧ w ≤ 9) : ∀ (d n : Nat) (s : SrcT) (L P D : List Int) (x : Int), Src s → x = d → d < n → L.length + d ≤ 8 → P.length + d ≤ 8 → D.length + d ≤ 8 → 1 ≤ P.length + d → 1 ≤ D.length + d →
    Gv (spec_l04DrawOf.l0 k n s.1 s.2.1 s.2.2 L P D w x) Dr4 := by
  intro d
  induction d with
  | zero =>
    intro n s L P D x S hx hn hL hP hD hP1 hD1
    cases n with
    | zero => omega
    | succ n =>
      simp only [spec_l04DrawOf.l0, spec_l04DrawOf.s0]
      refine Gv.neg (by omega) (Gv.bind (next_ok S 20) fun r hr => Gv.ite (fun _ => ?_) fun _ => ?_)
      · refine Gv.bind (pick_ok (s := (r.2.1, r.2.2.1, r.2.2.2)) hr.1 [59, 60, 37] (by simp)) fun q hq => ?_
        refine Gv.pos (by omega) (Gv.pos (by omega) (Gv.pos (by simp; omega) (Gv.pos (by omega) (Gv.ok ?_))))
        exact ⟨hq.1, by simp only; omega, by simp only [List.length_set]; omega, by simp only [List.length_set]; omega⟩
      · exact Gv.ok ⟨hr.1, by simp only; omega, by simp only; omega, by simp only; omega⟩
  | succ d ih =>
    intro n s L P D x S hx hn hL hP hD hP1 hD1
    cases n with
    | zero => omega
    | succ n =>
      simp only [spec_l04DrawOf.l0, spec_l04DrawOf.s0]
      refine Gv.pos (by omega) (Gv.bind (next_ok S w) fun r hr => ?_)
      obtain ⟨r1, r2⟩ := hr.2.2 (by omega)
      refine Gv.pos r1 (Gv.pos (by omega) (Gv.bind (next_ok (s := (r.2.1, r.2.2.1, r.2.2.2)) hr.1 _) fun q hq => Gv.bind (next_ok (s := (q.2.1, q.2.2.1, q.2.2.2)) hq.1 3) fun v hv => Gv.ite (fun _ => ?_) fun _ => ?_))
      · refine Gv.bind (next_ok (s := (v.2.1, v.2.2.1, v.2.2.2)) hv.1 _) fun y hy => Gv.pos (by omega) (Gv.pos (by omega) (Gv.pos (by omega) ?_))
        rw [w64 (x := x - 1) (by omega) (by omega)]
        exact ih n y.2 _ _ _ (x - 1) hy.1 (by omega) (by omega) (by simp; omega) (by simp; omega) (by simp; omega) (by simp; omega) (by simp; omega)
      · refine Gv.pos (by omega) (Gv.pos (by omega) (Gv.pos (by omega) ?_))
        rw [w64 (x := x - 1) (by omega) (by omega)]
        exact ih n v.2 _ _ _ (x - 1) hv.1 (by omega) (by omega) (by simp; omega) (by simp; omega) (by simp; omega) (by simp; omega) (by simp; omega)

theorem jobsDrawOf_ok {k : Nat} (hk : 2097152 ≤ k) {s : SrcT} (S : Src s) : Gv (spec_l04DrawOf.f k s) Dr4 := by
  unfold spec_l04DrawOf.f spec_l04DrawOf.g
  refine Gv.bind (pick_ok (s := (s.1, s.2.1, s.2.2)) S [3, 6, 6, 9] (by simp)) fun r hr => Gv.bind (next_ok (s := (r.2.1, r.2.2.1, r.2.2.2)) hr.1 4) fun q hq => ?_
  obtain ⟨q1, q2⟩ := hq.2.2 (by omega)
  have hw : 1 ≤ r.1 ∧ r.1 ≤ 9 := by
    have := hr.2
    simp only [List.mem_cons, List.not_mem_nil, or_false] at this
    omega
  rw [w64 (x := 1 + q.1) (by omega) (by omega)]
  exact drawOf_loop r.1 hw (1 + q.1).toNat k q.2 [] [] [] (1 + q.1) hq.1 (by omega) (by omega) (by simp; omega) (by simp; omega) (by simp; omega) (by omega) (by omega)

theorem jobsBad_ok {s : SrcT} (S : Src s) {L P D : List Int} (hL : L.length ≤ 8) (hP : 1 ≤ P.length ∧ P.length ≤ 8) (hD : 1 ≤ D.length ∧ D.length ≤ 8) : Gv (spec_l04Bad.f s L P D) fun r => Src r.2.2.2 ∧ r.1.length ≤ 9 ∧ r.2.1.length ≤ 9 ∧ r.2.2.1.length ≤ 9 := by
  unfold spec_l04Bad.f
  refine Gv.bind (next_ok (s := (s.1, s.2.1, s.2.2)) S 40) fun r hr => Gv.ite (fun _ => ?_) fun _ => Gv.ite (fun _ => ?_) fun _ => Gv.ite (fun _ => ?_) fun _ => ?_
  · rw [own_ok L (by omega), Option.bind_some]
    exact Gv.pos (by omega) (Gv.ok ⟨hr.1, by simp; omega, by simp only; omega, by simp only; omega⟩)
  · rw [own_ok P (by omega), Option.bind_some]
    refine Gv.bind (pick_ok (s := (r.2.1, r.2.2.1, r.2.2.2)) hr.1 [0, 61, -1] (by simp)) fun q hq => Gv.pos (by omega) (Gv.ok ⟨hq.1, by simp only; omega, by simp only [List.length_set]; omega, by simp only; omega⟩)
  · rw [own_ok D (by omega), Option.bind_some]
    refine Gv.bind (pick_ok (s := (r.2.1, r.2.2.1, r.2.2.2)) hr.1 [0, 61] (by simp)) fun q hq => Gv.pos (by omega) (Gv.ok ⟨hq.1, by simp only; omega, by simp only; omega, by simp only [List.length_set]; omega⟩)
  · exact Gv.ok ⟨hr.1, by simp only; omega, by simp only; omega, by simp only; omega⟩

theorem jobsDraw_ok {k : Nat} (hk : 2097152 ≤ k) {c : List Int} (hb : ∀ x ∈ c, 0 ≤ x ∧ x ≤ 255) (hl : c.length ≤ 4096) : Gv (spec_l04Draw.f k c) fun r => r.1.length ≤ 9 ∧ r.2.1.length ≤ 9 ∧ r.2.2.length ≤ 9 := by
  unfold spec_l04Draw.f
  refine Gv.bind (from_ok hk hb hl) fun s S => Gv.bind (jobsDrawOf_ok hk (s := (s.1, s.2.1, s.2.2)) S) fun r hr => Gv.bind (jobsBad_ok (s := (r.2.2.2.1, r.2.2.2.2.1, r.2.2.2.2.2)) hr.1 hr.2.1 hr.2.2.1 hr.2.2.2) fun q hq => Gv.ok ?_
  exact hq.2

theorem jobsDrawUpTo_ok {k : Nat} (hk : 2097152 ≤ k) {c : List Int} (hb : ∀ x ∈ c, 0 ≤ x ∧ x ≤ 255) (hl : c.length ≤ 4096) : Gv (spec_DrawDemandUpTo.f k c) fun r => True := by
  unfold spec_DrawDemandUpTo.f
  refine Gv.bind (from_ok hk hb hl) fun s S => Gv.bind (jobsDraw_ok hk hb hl) fun r hr => Gv.bind (pick_ok (s := (s.1, s.2.1, s.2.2)) S [10, 30, 1000] (by simp)) fun q hq => Gv.bind (drawNear_ok (s := (q.2.1, q.2.2.1, q.2.2.2)) hq.1 q.1) fun v hv => Gv.ok trivial

theorem likeSelf {k : Nat} (hk : 2097152 ≤ k) {l : List Int} (hl : l.length ≤ 1048576) : laws_likeInts.f k l l = some true := by
  have key : ∀ (d i n : Nat), l.length - i = d → i ≤ l.length → d < n → laws_likeInts.l0 k n l l i = some true := by
    intro d
    induction d with
    | zero =>
      intro i n hd hi hn
      cases n with
      | zero => omega
      | succ n =>
        simp only [laws_likeInts.l0, laws_likeInts.s0]
        rw [if_neg (by omega)]
    | succ d ih =>
      intro i n hd hi hn
      cases n with
      | zero => omega
      | succ n =>
        simp only [laws_likeInts.l0, laws_likeInts.s0]
        rw [if_pos (by omega), if_pos (by omega), if_pos (by omega), if_pos (by omega), if_pos (by omega), if_pos trivial, w64n (by omega)]
        exact ih (i + 1) n (by omega) (by omega) (by omega)
  unfold laws_likeInts.f laws_likeInts.g
  rw [if_pos rfl]
  exact key l.length 0 k rfl (by omega) (by omega)

/-! ### What the functions give -/
def slotsR (L P D : List Int) : List Int × Int := if codeJ L P D = 0 then ((slotsJ L P D).1, 0) else ([], codeJ L P D)
def lateR (L P D : List Int) : Int × Int × Int := if codeJ L P D = 0 then (if lateJ L P D < 0 then (0, 0, 4) else (((slotsJ L P D).1.length : Int), lateJ L P D, 0)) else (0, 0, codeJ L P D)
def roomR (L P D : List Int) : Int × Int := if codeJ L P D = 0 then (roomJ L P D, 0) else (0, codeJ L P D)
def canR (L P D : List Int) : Bool × Int := if codeJ L P D = 0 then (decide (lateJ L P D < 0), 0) else (false, codeJ L P D)
def wholeR (L P D : List Int) : Int × Int := if codeJ L P D = 0 then ((wholeN P : Int), 0) else (0, codeJ L P D)

theorem lateJ_neg (L P D : List Int) : lateJ L P D < 0 ↔ (slotsJ L P D).2 < 0 := by
  unfold lateJ
  by_cases h : 0 ≤ (slotsJ L P D).2
  · rw [if_pos h]
  · rw [if_neg h]; omega

theorem slots_ok {k : Nat} (hk : 2097152 ≤ k) (L P D : List Int) : impl_DeadlineSlots.f k L P D = some (slotsR L P D) ∧ spec_DeadlineSlots.f k L P D = some (slotsR L P D) := by
  unfold impl_DeadlineSlots.f spec_DeadlineSlots.f slotsR
  rw [jobsCode_f hk, l04Code_f hk, Option.bind_some, Option.bind_some]
  by_cases h : codeJ L P D = 0
  · obtain ⟨J, hw⟩ := codeJ_zero h
    rw [if_pos h, if_pos h, if_pos h, implSlots_f hk J hw, specSlots_f hk J hw]
    exact ⟨rfl, rfl⟩
  · rw [if_neg h, if_neg h, if_neg h]; exact ⟨rfl, rfl⟩

theorem late_ok {k : Nat} (hk : 2097152 ≤ k) (L P D : List Int) : impl_FirstLate.f k L P D = some (lateR L P D) ∧ spec_FirstLate.f k L P D = some (lateR L P D) := by
  unfold impl_FirstLate.f spec_FirstLate.f lateR
  rw [jobsCode_f hk, l04Code_f hk, Option.bind_some, Option.bind_some]
  by_cases h : codeJ L P D = 0
  · obtain ⟨J, hw⟩ := codeJ_zero h
    rw [if_pos h, if_pos h, if_pos h, implSlots_f hk J hw, specSlots_f hk J hw, Option.bind_some, Option.bind_some]
    simp only
    by_cases c : lateJ L P D < 0
    · rw [if_pos c, if_pos c, if_pos c]; exact ⟨rfl, rfl⟩
    · rw [if_neg c, if_neg c, if_neg c, if_pos (by rw [lateJ_neg] at c; omega)]
      exact ⟨rfl, rfl⟩
  · rw [if_neg h, if_neg h, if_neg h]; exact ⟨rfl, rfl⟩

theorem roomOf_ok {k : Nat} (hk : 2097152 ≤ k) (L P D : List Int) : impl_RoomOf.f k L P D = some (roomR L P D) ∧ spec_RoomOf.f k L P D = some (roomR L P D) := by
  unfold impl_RoomOf.f spec_RoomOf.f roomR
  rw [jobsCode_f hk, l04Code_f hk, Option.bind_some, Option.bind_some]
  by_cases h : codeJ L P D = 0
  · obtain ⟨J, hw⟩ := codeJ_zero h
    rw [if_pos h, if_pos h, if_pos h, (room_f hk J hw).1, (room_f hk J hw).2]
    exact ⟨rfl, rfl⟩
  · rw [if_neg h, if_neg h, if_neg h]; exact ⟨rfl, rfl⟩

theorem can_ok {k : Nat} (hk : 2097152 ≤ k) (L P D : List Int) : impl_CanMeet.f k L P D = some (canR L P D) ∧ spec_CanMeet.f k L P D = some (canR L P D) := by
  unfold impl_CanMeet.f spec_CanMeet.f canR
  rw [jobsCode_f hk, l04Code_f hk, Option.bind_some, Option.bind_some]
  by_cases h : codeJ L P D = 0
  · obtain ⟨J, hw⟩ := codeJ_zero h
    have hr := roomJ_iff J
    rw [← lateJ_neg] at hr
    rw [if_pos h, if_pos h, if_pos h, implLoad_f hk J, (room_f hk J hw).1, specSlots_f hk J hw, Option.bind_some, Option.bind_some, Option.bind_some]
    refine ⟨?_, rfl⟩
    by_cases c : 0 ≤ roomJ L P D
    · rw [if_pos c, decide_eq_true (load_le J c), decide_eq_true (hr.1 c)]
    · rw [if_neg c, decide_eq_false (fun h => c (hr.2 h))]
  · rw [if_neg h, if_neg h, if_neg h]; exact ⟨rfl, rfl⟩

theorem wholeOf_ok {k : Nat} (hk : 2097152 ≤ k) (L P D : List Int) : impl_WholePeriod.f k L P D = some (wholeR L P D) ∧ spec_WholePeriod.f k L P D = some (wholeR L P D) := by
  unfold impl_WholePeriod.f spec_WholePeriod.f wholeR
  rw [jobsCode_f hk, l04Code_f hk, Option.bind_some, Option.bind_some]
  by_cases h : codeJ L P D = 0
  · obtain ⟨J, hw⟩ := codeJ_zero h
    rw [if_pos h, if_pos h, if_pos h, whole_f hk J, l04Whole_f' hk J hw]
    exact ⟨rfl, rfl⟩
  · rw [if_neg h, if_neg h, if_neg h]; exact ⟨rfl, rfl⟩

theorem areJobs_ok {k : Nat} (hk : 2097152 ≤ k) (L P D : List Int) : impl_AreJobs.f k L P D = some (jobsOk L P D) ∧ spec_AreJobs.f k L P D = some (jobsOk L P D) := by
  unfold spec_AreJobs.f
  rw [areJobs_f hk, l04Is_f hk]
  exact ⟨rfl, rfl⟩

theorem demandUpTo_ok {k : Nat} (hk : 2097152 ≤ k) (L P D : List Int) (n : Int) : ∃ r, impl_DemandUpTo.f k L P D n = some r ∧ spec_DemandUpTo.f k L P D n = some r := by
  unfold impl_DemandUpTo.f spec_DemandUpTo.f
  rw [within_f, Option.bind_some, jobsCode2_f hk, Option.bind_some, l04Is_f hk, Option.bind_some]
  by_cases h : jobsOk L P D = true
  · have J := (jobsOk_iff L P D).1 h
    by_cases c : 0 ≤ n ∧ n ≤ 1000
    · simp only [h, decide_eq_true c, if_true, decide_true, Bool.not_true, Bool.false_eq_true, if_false, l01In_f, Option.bind_some, implDem_f hk J c.1 c.2, specDem_f hk J c.1 c.2]
      exact ⟨_, rfl, rfl⟩
    · simp only [h, decide_eq_false c, if_true, decide_true, Bool.not_true, Bool.false_eq_true, if_false, l01In_f, Option.bind_some, decide_false, Bool.not_false]
      exact ⟨_, rfl, rfl⟩
  · rw [if_neg h, if_neg (by decide), if_pos (by simpa using h)]
    exact ⟨_, rfl, rfl⟩

/-! ### The slots of each task -/
theorem count_loop {k : Nat} {L P D T : List Int} {H top below : Int} {i : Nat} (hi : i < L.length) (hi2 : i < P.length) (hT : T.length ≤ 240) (hp : 1 ≤ rd P i ∧ rd P i ≤ 60) (hl : 1 ≤ rd L i ∧ rd L i ≤ 20) (hH : 0 ≤ H ∧ H ≤ 240) (hi8 : i ≤ 8)
    (hc : cntO T i * rd P i = rd L i * H) {r0 : (List Int) → (List Int) → (List Int) → (List Int) → Int → Int → Int → Int → Option Bool} : ∀ (d j n : Nat) (c : Int), T.length - j = d → j ≤ T.length → d < n → 0 ≤ c → c + cntO (T.drop j) i = cntO T i →
    laws_FnJobs.l1 k r0 n L P D T H top below i c j = r0 L P D T H top below ((i + 1 : Nat) : Int) := by
  have hcl : 0 ≤ cntO T i ∧ cntO T i ≤ 240 := by
    unfold cntO
    have := List.count_le_length (a := (i : Int)) (l := T)
    omega
  intro d
  induction d with
  | zero =>
    intro j n c hd hj hn h0 h1
    cases n with
    | zero => omega
    | succ n =>
      rw [List.drop_eq_nil_of_le (by omega)] at h1
      have e : c = cntO T i := by simpa [cntO] using h1
      have b1 := Int.mul_le_mul hcl.2 hp.2 (by omega) (by omega)
      have b2 := Int.mul_nonneg hcl.1 (show 0 ≤ rd P i by omega)
      simp only [laws_FnJobs.l1, laws_FnJobs.s1]
      rw [if_neg (by omega), if_pos (by omega), if_pos (by omega), if_pos (by omega), if_pos (by omega), e, hc, if_pos rfl, w64n (by omega)]
  | succ d ih =>
    intro j n c hd hj hn h0 h1
    cases n with
    | zero => omega
    | succ n =>
      rw [drop_cons (by omega)] at h1
      have e : cntO (rd T j :: T.drop (j + 1)) i = cntO (T.drop (j + 1)) i + (if rd T j = (i : Int) then 1 else 0) := by
        unfold cntO
        rw [List.count_cons]
        by_cases c : rd T j = (i : Int)
        · simp [c]
        · simp [c]
      rw [e] at h1
      simp only [laws_FnJobs.l1, laws_FnJobs.s1]
      rw [if_pos (by omega), if_pos (by omega), if_pos (by omega), w64n (by omega)]
      have hn0 : 0 ≤ cntO (T.drop (j + 1)) i := by unfold cntO; omega
      by_cases c2 : rd T j = (i : Int)
      · rw [if_pos c2] at h1
        rw [if_pos c2, w64 (x := c + 1) (by omega) (by omega)]
        exact ih (j + 1) n (c + 1) (by omega) (by omega) (by omega) (by omega) (by omega)
      · rw [if_neg c2] at h1
        rw [if_neg c2]
        exact ih (j + 1) n c (by omega) (by omega) (by omega) h0 (by omega)

theorem tasks_loop {k : Nat} (hk : 2097152 ≤ k) {L P D T : List Int} {H top below : Int} (J : JobsP L P D) (hT : (T.length : Int) = H) (hH : 0 ≤ H ∧ H ≤ 240) (hc : ∀ i : Nat, i < L.length → cntO T i * rd P i = rd L i * H) (hle : top ≤ below) : ∀ (d i n : Nat), L.length - i = d → i ≤ L.length → d < n →
    laws_FnJobs.l0 k n L P D T H top below i = some true := by
  have hn8 := J.n8
  have hP := J.hP
  intro d
  induction d with
  | zero =>
    intro i n hd hi hn
    cases n with
    | zero => omega
    | succ n =>
      simp only [laws_FnJobs.l0, laws_FnJobs.s0]
      rw [if_neg (by omega), if_pos hT, decide_eq_true hle]
  | succ d ih =>
    intro i n hd hi hn
    cases n with
    | zero => omega
    | succ n =>
      have hE := J.each i (by omega)
      simp only [laws_FnJobs.l0, laws_FnJobs.s0]
      rw [if_pos (by omega)]
      have := count_loop (k := k) (D := D) (top := top) (below := below) (show i < L.length by omega) (show i < P.length by omega) (show T.length ≤ 240 by omega) hE.2.1 hE.1 hH (by omega) (hc i (by omega)) (r0 := laws_FnJobs.l0 k n) T.length 0 k 0 rfl (by omega) (by omega) (by omega) (by simp)
      have this : laws_FnJobs.l1 k (laws_FnJobs.l0 k n) k L P D T H top below i 0 0 = _ := this
      rw [this]
      exact ih (i + 1) n (by omega) (by omega) (by omega)

theorem law_FnJobs {k : Nat} {l : List Int} (hk : 2097152 ≤ k) (hb : ∀ x ∈ l, 0 ≤ x ∧ x ≤ 255) : laws_FnJobs.f k l = some true := by
  unfold laws_FnJobs.f laws_FnJobs.g laws_big.f
  rw [Option.bind_some]
  by_cases hbig : 4096 < (l.length : Int)
  · rw [if_pos (decide_eq_true hbig)]
  rw [if_neg (by simpa using hbig)]
  have hl : l.length ≤ 4096 := by omega
  obtain ⟨⟨L, P, D⟩, e1, hL, hP, hD⟩ := jobsDraw_ok hk hb hl
  obtain ⟨⟨L2, P2, D2, n⟩, e2, _⟩ := jobsDrawUpTo_ok hk hb hl
  have e1' : spec_DrawDeadlineSlots.f k l = some (L, P, D) := by unfold spec_DrawDeadlineSlots.f; rw [e1]; rfl
  obtain ⟨dm, f1, f2⟩ := demandUpTo_ok hk L2 P2 D2 n
  have hlen : (slotsR L P D).1.length ≤ 240 := by
    unfold slotsR
    by_cases h : codeJ L P D = 0
    · rw [if_pos h]; have := (slotsJ_length L P D).1; have := (codeJ_zero h).2; show (slotsJ L P D).1.length ≤ 240; omega
    · rw [if_neg h]; simp
  simp only [e1', e2, Option.bind_some, (slots_ok hk L P D).1, (slots_ok hk L P D).2, if_true, likeSelf hk (show (slotsR L P D).1.length ≤ 1048576 by omega), (late_ok hk L P D).1, (late_ok hk L P D).2, (roomOf_ok hk L P D).1, (roomOf_ok hk L P D).2, (can_ok hk L P D).1, (can_ok hk L P D).2, (wholeOf_ok hk L P D).1, (wholeOf_ok hk L P D).2, implLoadOf_f hk, specLoad_f hk, (areJobs_ok hk L P D).1, (areJobs_ok hk L P D).2, f1, f2]
  by_cases h : codeJ L P D = 0
  · obtain ⟨J, hw⟩ := codeJ_zero h
    have hj := (jobsOk_iff L P D).2 J
    have hr := roomJ_iff J
    rw [← lateJ_neg] at hr
    have s1 : slotsR L P D = ((slotsJ L P D).1, 0) := if_pos h
    have s2 : lateR L P D = (if lateJ L P D < 0 then (0, 0, 4) else (((slotsJ L P D).1.length : Int), lateJ L P D, 0)) := if_pos h
    have s3 : roomR L P D = (roomJ L P D, 0) := if_pos h
    have s4 : canR L P D = (decide (lateJ L P D < 0), 0) := if_pos h
    have s5 : wholeR L P D = ((wholeN P : Int), 0) := if_pos h
    have s6 : loadJ L P D = _ := if_pos hj
    by_cases c : lateJ L P D < 0
    · have s2' : lateR L P D = (0, 0, 4) := by rw [s2, if_pos c]
      have hc := c
      rw [lateJ_neg] at hc
      have t1 : (decide (lateJ L P D < 0)) = (decide (0 ≤ roomJ L P D)) := by rw [decide_eq_true c, decide_eq_true (hr.2 c)]
      have t2 : (decide (lateJ L P D < 0)) = decide ((4 : Int) = 4) := by rw [decide_eq_true c]; rfl
      rw [s1, s2', s3, s4, s5, s6]
      simp only [if_true]
      rw [if_pos t1, if_pos (by simp [c]), if_pos (decide_eq_true c)]
      have hlen2 := (slotsJ_length L P D).2 hc
      exact tasks_loop hk J (by omega) (by omega) ((jobs_iff J).2 hc) (load_le J (hr.2 c)) L.length 0 k rfl (by omega) (by have := J.n8; omega)
    · have s2' : lateR L P D = (((slotsJ L P D).1.length : Int), lateJ L P D, 0) := by rw [s2, if_neg c]
      have t1 : (decide (lateJ L P D < 0)) = (decide (0 ≤ roomJ L P D)) := by rw [decide_eq_false c, decide_eq_false (fun h => c (hr.1 h))]
      have t2 : (decide (lateJ L P D < 0)) = decide ((0 : Int) = 4) := by rw [decide_eq_false c]; rfl
      rw [s1, s2', s3, s4, s5, s6]
      simp only [if_true]
      rw [if_pos t1, if_pos t2, if_neg (by rw [decide_eq_true_iff]; exact c), decide_eq_true (by have := (slotsJ_length L P D).1; omega)]
  · have s1 : slotsR L P D = ([], codeJ L P D) := if_neg h
    have s3 : roomR L P D = (0, codeJ L P D) := if_neg h
    have s4 : canR L P D = (false, codeJ L P D) := if_neg h
    have s5 : wholeR L P D = (0, codeJ L P D) := if_neg h
    rw [s1, s3, s4, s5]
    simp only [if_true]
    rw [if_neg h, if_pos (by simp)]
    simp

end Go.Proofs.Ytmgdobiloapelaa.Vf
