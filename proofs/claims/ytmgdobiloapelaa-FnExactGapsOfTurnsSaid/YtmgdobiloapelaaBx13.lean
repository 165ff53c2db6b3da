/- Written for this claim by a program of this session's own (pp.py), out of the translation; hand-made contracts among them. -/
import Derived.Test.YtmgdobiloapelaaBz
import Derived.Test.YtmgdobiloapelaaBx0
import Derived.Test.YtmgdobiloapelaaBx1
import Derived.Test.YtmgdobiloapelaaBx10
import Derived.Test.YtmgdobiloapelaaBx12
namespace Go.Proofs.Ytmgdobiloapelaa.B
open Go.RowKit Go.Proofs.YtmgdobiloapelaaW.PrintWords Go.Proofs.YtmgdobiloapelaaW.PrintLast Go.Proofs.YtmgdobiloapelaaW.PrintMore
attribute [local go_sem] max2_int min2_int max_two min_two max_three min_three max_four min_four   -- for this text's walks alone
set_option linter.unusedVariables false
set_option linter.unusedSimpArgs false

/-! ### laws_FnExactGapsOfTurns: function 8 -/
mutual
def laws_FnExactGapsOfTurns.j0 : Nat → Int → Int → Bool → List Int → List Int → List Int → List Int → List Int → List Int → List Int → List Int → Option (Bool)
  | 0, _, _, _, _, _, _, _, _, _, _, _ => none
  | k + 1, x5, x8, x40, x386000, x386001, x386002, x401000, x411000, x411001, x411002, x416000 => if x40 = true then (some false) else ((laws_toJobs.f k x386000 x386001 x386002).bind fun bt417 => ((laws_eqJobs.f k x411000 x411001 x411002 bt417.1 bt417.2.1 bt417.2.2).bind fun t426 => (if t426 = true then ((laws_markJobs.f k x411000 x411001 x411002 1).bind fun bt427 => (if bt427.1 < 0 then (laws_FnExactGapsOfTurns.j1 k x5 true x386000 x386001 x386002 x401000 x416000) else ((laws_eqTasks.f k x416000 x401000).bind fun t431 => (if t431 = true then (laws_FnExactGapsOfTurns.j1 k x5 (x8 != x5) x386000 x386001 x386002 x401000 x416000) else (laws_FnExactGapsOfTurns.j1 k x5 true x386000 x386001 x386002 x401000 x416000))))) else (some false))))
def laws_FnExactGapsOfTurns.j1 : Nat → Int → Bool → List Int → List Int → List Int → List Int → List Int → Option (Bool)
  | 0, _, _, _, _, _, _, _ => none
  | k + 1, x5, x61, x386000, x386001, x386002, x401000, x416000 => if x61 = true then (some false) else ((laws_markTasks.f k x416000 1).bind fun bt432 => ((laws_heldTasks.f k bt432.2 1).bind fun t434 => (if t434 < 0 then (some false) else (if t434 = bt432.1 then ((laws_toJobs.f k x386000 x386001 x386002).bind fun bt435 => ((impl_GapsOfTurns.f k bt435.1 bt435.2.1 bt435.2.2).bind fun bt444 => ((laws_eqTasks.f k bt444.1 x401000).bind fun t449 => (if t449 = true then (laws_FnExactGapsOfTurns.j2 k bt432.1 (bt444.2 != x5) bt432.2) else (laws_FnExactGapsOfTurns.j2 k bt432.1 true bt432.2))))) else (some false)))))
def laws_FnExactGapsOfTurns.j2 : Nat → Int → Bool → List Int → Option (Bool)
  | 0, _, _, _ => none
  | k + 1, x10, x87, x416000 => if x87 = true then (some false) else ((laws_heldTasks.f k x416000 1).bind fun t450 => (if t450 < 0 then (some false) else (if t450 = x10 then (some true) else (some false))))
end
def laws_FnExactGapsOfTurns.f (k : Nat) (l0_0 : List Int) (l0_1 : List Int) (l0_2 : List Int) : Option (Bool) := (laws_szJobs.f l0_0 l0_1 l0_2 1048576).bind fun t386 => (if t386 < 0 then (some true) else ((laws_toJobs.f k l0_0 l0_1 l0_2).bind fun bt387 => ((spec_GapsOfTurns.f k bt387.1 bt387.2.1 bt387.2.2).bind fun bt396 => ((laws_toJobs.f k l0_0 l0_1 l0_2).bind fun bt401 => ((impl_GapsOfTurns.f k bt401.1 bt401.2.1 bt401.2.2).bind fun bt411 => ((laws_eqTasks.f k bt411.1 bt396.1).bind fun t416 => (if t416 = true then (laws_FnExactGapsOfTurns.j0 k bt396.2 bt411.2 (bt411.2 != bt396.2) l0_0 l0_1 l0_2 bt396.1 bt401.1 bt401.2.1 bt401.2.2 bt411.1) else (laws_FnExactGapsOfTurns.j0 k bt396.2 bt411.2 true l0_0 l0_1 l0_2 bt396.1 bt401.1 bt401.2.1 bt401.2.2 bt411.1))))))))
theorem laws_FnExactGapsOfTurns.mono_l : ∀ k, (∀ y0 y1 y2 y3 y4 y5 y6 y7 y8 y9 y10, LeO (laws_FnExactGapsOfTurns.j0 k y0 y1 y2 y3 y4 y5 y6 y7 y8 y9 y10) (laws_FnExactGapsOfTurns.j0 (k + 1) y0 y1 y2 y3 y4 y5 y6 y7 y8 y9 y10)) ∧ (∀ y0 y1 y2 y3 y4 y5 y6, LeO (laws_FnExactGapsOfTurns.j1 k y0 y1 y2 y3 y4 y5 y6) (laws_FnExactGapsOfTurns.j1 (k + 1) y0 y1 y2 y3 y4 y5 y6)) ∧ (∀ y0 y1 y2, LeO (laws_FnExactGapsOfTurns.j2 k y0 y1 y2) (laws_FnExactGapsOfTurns.j2 (k + 1) y0 y1 y2))
  | 0 => ⟨fun _ _ _ _ _ _ _ _ _ _ _ r h => by simp [laws_FnExactGapsOfTurns.j0] at h, fun _ _ _ _ _ _ _ r h => by simp [laws_FnExactGapsOfTurns.j1] at h, fun _ _ _ r h => by simp [laws_FnExactGapsOfTurns.j2] at h⟩
  | k + 1 => by
    obtain ⟨ih0, ih1, ih2⟩ := laws_FnExactGapsOfTurns.mono_l k
    refine ⟨?_, ?_, ?_⟩
    · intro y0 y1 y2 y3 y4 y5 y6 y7 y8 y9 y10
      unfold laws_FnExactGapsOfTurns.j0
      repeat' first
      | (with_reducible exact ih0 _ _ _ _ _ _ _ _ _ _ _)
      | (with_reducible exact ih1 _ _ _ _ _ _ _)
      | (with_reducible exact ih2 _ _ _)
      | (with_reducible exact impl_GapsOfTurns.mono _ _ _ _)
      | (with_reducible exact laws_eqJobs.mono _ _ _ _ _ _ _)
      | (with_reducible exact laws_eqTasks.mono _ _ _)
      | (with_reducible exact laws_heldTasks.mono _ _ _)
      | (with_reducible exact laws_markJobs.mono _ _ _ _ _)
      | (with_reducible exact laws_markTasks.mono _ _ _)
      | (with_reducible exact laws_toJobs.mono _ _ _ _)
      | (with_reducible exact spec_GapsOfTurns.mono _ _ _ _)
      | (with_reducible exact LeO.refl _)
      | (with_reducible exact LeO.none _)
      | (with_reducible refine LeO.ite ?_ ?_)
      | (with_reducible refine LeO.bind ?_ (fun _ => ?_))
      | exact ih0 _ _ _ _ _ _ _ _ _ _ _
      | exact ih1 _ _ _ _ _ _ _
      | exact ih2 _ _ _
      | exact impl_GapsOfTurns.mono _ _ _ _
      | exact laws_eqJobs.mono _ _ _ _ _ _ _
      | exact laws_eqTasks.mono _ _ _
      | exact laws_heldTasks.mono _ _ _
      | exact laws_markJobs.mono _ _ _ _ _
      | exact laws_markTasks.mono _ _ _
      | exact laws_toJobs.mono _ _ _ _
      | exact spec_GapsOfTurns.mono _ _ _ _
      | exact LeO.none _
      | refine LeO.ite ?_ ?_
      | refine LeO.bind ?_ (fun _ => ?_)
    · intro y0 y1 y2 y3 y4 y5 y6
      unfold laws_FnExactGapsOfTurns.j1
      repeat' first
      | (with_reducible exact ih0 _ _ _ _ _ _ _ _ _ _ _)
      | (with_reducible exact ih1 _ _ _ _ _ _ _)
      | (with_reducible exact ih2 _ _ _)
      | (with_reducible exact impl_GapsOfTurns.mono _ _ _ _)
      | (with_reducible exact laws_eqJobs.mono _ _ _ _ _ _ _)
      | (with_reducible exact laws_eqTasks.mono _ _ _)
      | (with_reducible exact laws_heldTasks.mono _ _ _)
      | (with_reducible exact laws_markJobs.mono _ _ _ _ _)
      | (with_reducible exact laws_markTasks.mono _ _ _)
      | (with_reducible exact laws_toJobs.mono _ _ _ _)
      | (with_reducible exact spec_GapsOfTurns.mono _ _ _ _)
      | (with_reducible exact LeO.refl _)
      | (with_reducible exact LeO.none _)
      | (with_reducible refine LeO.ite ?_ ?_)
      | (with_reducible refine LeO.bind ?_ (fun _ => ?_))
      | exact ih0 _ _ _ _ _ _ _ _ _ _ _
      | exact ih1 _ _ _ _ _ _ _
      | exact ih2 _ _ _
      | exact impl_GapsOfTurns.mono _ _ _ _
      | exact laws_eqJobs.mono _ _ _ _ _ _ _
      | exact laws_eqTasks.mono _ _ _
      | exact laws_heldTasks.mono _ _ _
      | exact laws_markJobs.mono _ _ _ _ _
      | exact laws_markTasks.mono _ _ _
      | exact laws_toJobs.mono _ _ _ _
      | exact spec_GapsOfTurns.mono _ _ _ _
      | exact LeO.none _
      | refine LeO.ite ?_ ?_
      | refine LeO.bind ?_ (fun _ => ?_)
    intro y0 y1 y2
    unfold laws_FnExactGapsOfTurns.j2
    repeat' first
    | (with_reducible exact ih0 _ _ _ _ _ _ _ _ _ _ _)
    | (with_reducible exact ih1 _ _ _ _ _ _ _)
    | (with_reducible exact ih2 _ _ _)
    | (with_reducible exact impl_GapsOfTurns.mono _ _ _ _)
    | (with_reducible exact laws_eqJobs.mono _ _ _ _ _ _ _)
    | (with_reducible exact laws_eqTasks.mono _ _ _)
    | (with_reducible exact laws_heldTasks.mono _ _ _)
    | (with_reducible exact laws_markJobs.mono _ _ _ _ _)
    | (with_reducible exact laws_markTasks.mono _ _ _)
    | (with_reducible exact laws_toJobs.mono _ _ _ _)
    | (with_reducible exact spec_GapsOfTurns.mono _ _ _ _)
    | (with_reducible exact LeO.refl _)
    | (with_reducible exact LeO.none _)
    | (with_reducible refine LeO.ite ?_ ?_)
    | (with_reducible refine LeO.bind ?_ (fun _ => ?_))
    | exact ih0 _ _ _ _ _ _ _ _ _ _ _
    | exact ih1 _ _ _ _ _ _ _
    | exact ih2 _ _ _
    | exact impl_GapsOfTurns.mono _ _ _ _
    | exact laws_eqJobs.mono _ _ _ _ _ _ _
    | exact laws_eqTasks.mono _ _ _
    | exact laws_heldTasks.mono _ _ _
    | exact laws_markJobs.mono _ _ _ _ _
    | exact laws_markTasks.mono _ _ _
    | exact laws_toJobs.mono _ _ _ _
    | exact spec_GapsOfTurns.mono _ _ _ _
    | exact LeO.none _
    | refine LeO.ite ?_ ?_
    | refine LeO.bind ?_ (fun _ => ?_)
theorem laws_FnExactGapsOfTurns.mono : ∀ a0 a1 a2 k, LeO (laws_FnExactGapsOfTurns.f k a0 a1 a2) (laws_FnExactGapsOfTurns.f (k + 1) a0 a1 a2) := by
  intro a0 a1 a2 k
  obtain ⟨ih0, ih1, ih2⟩ := laws_FnExactGapsOfTurns.mono_l k
  unfold laws_FnExactGapsOfTurns.f
  repeat' first
      | (with_reducible exact ih0 _ _ _ _ _ _ _ _ _ _ _)
      | (with_reducible exact ih1 _ _ _ _ _ _ _)
      | (with_reducible exact ih2 _ _ _)
      | (with_reducible exact impl_GapsOfTurns.mono _ _ _ _)
      | (with_reducible exact laws_eqJobs.mono _ _ _ _ _ _ _)
      | (with_reducible exact laws_eqTasks.mono _ _ _)
      | (with_reducible exact laws_heldTasks.mono _ _ _)
      | (with_reducible exact laws_markJobs.mono _ _ _ _ _)
      | (with_reducible exact laws_markTasks.mono _ _ _)
      | (with_reducible exact laws_toJobs.mono _ _ _ _)
      | (with_reducible exact spec_GapsOfTurns.mono _ _ _ _)
      | (with_reducible exact LeO.refl _)
      | (with_reducible exact LeO.none _)
      | (with_reducible refine LeO.ite ?_ ?_)
      | (with_reducible refine LeO.bind ?_ (fun _ => ?_))
      | exact ih0 _ _ _ _ _ _ _ _ _ _ _
      | exact ih1 _ _ _ _ _ _ _
      | exact ih2 _ _ _
      | exact impl_GapsOfTurns.mono _ _ _ _
      | exact laws_eqJobs.mono _ _ _ _ _ _ _
      | exact laws_eqTasks.mono _ _ _
      | exact laws_heldTasks.mono _ _ _
      | exact laws_markJobs.mono _ _ _ _ _
      | exact laws_markTasks.mono _ _ _
      | exact laws_toJobs.mono _ _ _ _
      | exact spec_GapsOfTurns.mono _ _ _ _
      | exact LeO.none _
      | refine LeO.ite ?_ ?_
      | refine LeO.bind ?_ (fun _ => ?_)
set_option maxHeartbeats 8000000 in
set_option maxRecDepth 100000 in
theorem laws_FnExactGapsOfTurns.calls (k : Nat) (A0_0 : Option Addr) (c0_0 : Nat) (l0_0 : List Int) (A0_1 : Option Addr) (c0_1 : Nat) (l0_1 : List Int) (A0_2 : Option Addr) (c0_2 : Nat) (l0_2 : List Int) (r : Bool) (w : World) (hr0_0 : Kd.C (Kd.int .i64) w A0_0 l0_0.length l0_0) (hc0_0 : l0_0.length ≤ c0_0) (hr0_1 : Kd.C (Kd.int .i64) w A0_1 l0_1.length l0_1) (hc0_1 : l0_1.length ≤ c0_1) (hr0_2 : Kd.C (Kd.int .i64) w A0_2 l0_2.length l0_2) (hc0_2 : l0_2.length ≤ c0_2) (h : laws_FnExactGapsOfTurns.f k l0_0 l0_1 l0_2 = some r) (hr_ : Aside0 (r = true)) :
    Calls Try.prog 8 #[.agg #[.slice A0_0 l0_0.length c0_0, .slice A0_1 l0_1.length c0_1, .slice A0_2 l0_2.length c0_2]] w fun e w' => e = .returned (.bool r) ∧ Below w.heap.size w w' := by
  have hu24 := Try.underlying24
  have hu41 := Try.underlying41
  have hu28 := Try.underlying28
  have HR0_0 := Aside0.mk hr0_0
  have HC0_0 := Aside0.mk hc0_0
  clear hr0_0 hc0_0
  have HR0_1 := Aside0.mk hr0_1
  have HC0_1 := Aside0.mk hc0_1
  clear hr0_1 hc0_1
  have HR0_2 := Aside0.mk hr0_2
  have HC0_2 := Aside0.mk hc0_2
  clear hr0_2 hc0_2
  have HB := Aside0.mk (Below.refl w.heap.size w)
  have H : ((laws_szJobs.f l0_0 l0_1 l0_2 1048576).bind fun t386 => (if t386 < 0 then (some true) else ((laws_toJobs.f k l0_0 l0_1 l0_2).bind fun bt387 => ((spec_GapsOfTurns.f k bt387.1 bt387.2.1 bt387.2.2).bind fun bt396 => ((laws_toJobs.f k l0_0 l0_1 l0_2).bind fun bt401 => ((impl_GapsOfTurns.f k bt401.1 bt401.2.1 bt401.2.2).bind fun bt411 => ((laws_eqTasks.f k bt411.1 bt396.1).bind fun t416 => (if t416 = true then (laws_FnExactGapsOfTurns.j0 k bt396.2 bt411.2 (bt411.2 != bt396.2) l0_0 l0_1 l0_2 bt396.1 bt401.1 bt401.2.1 bt401.2.2 bt411.1) else (laws_FnExactGapsOfTurns.j0 k bt396.2 bt411.2 true l0_0 l0_1 l0_2 bt396.1 bt401.1 bt401.2.1 bt401.2.2 bt411.1))))))))) = some r := h
  clear h
  replace H := Option.bind_eq_some_iff.mp H
  obtain ⟨t386, A20, H⟩ := H
  replace H : (if t386 < 0 then (some true) else ((laws_toJobs.f k l0_0 l0_1 l0_2).bind fun bt387 => ((spec_GapsOfTurns.f k bt387.1 bt387.2.1 bt387.2.2).bind fun bt396 => ((laws_toJobs.f k l0_0 l0_1 l0_2).bind fun bt401 => ((impl_GapsOfTurns.f k bt401.1 bt401.2.1 bt401.2.2).bind fun bt411 => ((laws_eqTasks.f k bt411.1 bt396.1).bind fun t416 => (if t416 = true then (laws_FnExactGapsOfTurns.j0 k bt396.2 bt411.2 (bt411.2 != bt396.2) l0_0 l0_1 l0_2 bt396.1 bt401.1 bt401.2.1 bt401.2.2 bt411.1) else (laws_FnExactGapsOfTurns.j0 k bt396.2 bt411.2 true l0_0 l0_1 l0_2 bt396.1 bt401.1 bt401.2.1 bt401.2.2 bt411.1)))))))) = some r := H
  have A2 := Aside0.mk A20
  clear A20
  by_cases c3 : t386 < 0
  · rw [if_pos c3] at H
    have c3b0 : decide (t386 < 0) = true := decide_eq_true c3
    clear c3
    obtain rfl := Option.some.inj H
    go_enter Try.func8, Try.ntmps8
    go_wp2_with (first | ((with_reducible refine gate_dst (N := 1) rfl ?_); refine box_event ?hg (N := 1) ?hd (cs := #[.slice A0_0 l0_0.length c0_0, .slice A0_1 l0_1.length c0_1, .slice A0_2 l0_2.length c0_2]) (t := 24) ?hr ?_; (case hd => rfl); (case hg => rfl); (case hr => first | (go_simp; done) | (go_simp; rfl)); intro gb385 hg w4 hbox hb; have n0_ := Aside0.mk (below_step zq22 hb); have n1_ := Aside0.mk (hbox); have n2_ := Aside0.mk ((by rw [hg]; exact (below_size zq22) : w.heap.size ≤ gb385)); have n3_ := Aside0.mk ((by rw [hg]; exact (below_size zq22) : w.heap.size ≤ gb385)); clear HB; have HB := n0_; have BK385 := n1_; have GW385 := n2_; have GE385 := n3_; clear n0_ n1_ n2_ n3_; clear hb hbox hg; have hcz5_0 : w4.cell? ⟨gb385, 0, none⟩ = some (.slice A0_0 l0_0.length c0_0) := (blk_cell BK385.out 0).trans rfl; have hcz5_1 : w4.cell? ⟨gb385, 1, none⟩ = some (.slice A0_1 l0_1.length c0_1) := (blk_cell BK385.out 1).trans rfl; have hcz5_2 : w4.cell? ⟨gb385, 2, none⟩ = some (.slice A0_2 l0_2.length c0_2) := (blk_cell BK385.out 2).trans rfl; have hfz5_0 := blk_frozen BK385.out 0; have hfz5_1 := blk_frozen BK385.out 1; have hfz5_2 := blk_frozen BK385.out 2) | ((with_reducible refine gate_callee (f := 13) rfl ?_); refine goesL_ (some 16) rfl rfl Try.func13 (by kernel_rfl) rfl #[.agg #[.slice A0_0 l0_0.length c0_0, .slice A0_1 l0_1.length c0_1, .slice A0_2 l0_2.length c0_2], .int .i64 1048576] rfl zq19 ?_; (with_reducible refine (laws_szJobs.calls _ _ l0_0 _ _ l0_1 _ _ l0_2 1048576 t386 _ ?side1 ?side2 ?side3 ?side4 ?side5 ?side6 A2.out).mono ?_); (case side1 => repeat (first | exact (Kd.C_below HR0_0.out HB.out) | (with_reducible refine Kd.C_alloc ?_ _) | (with_reducible refine Kd.C_drewN ?_ _) | (with_reducible refine Kd.C_drew ?_))); (case side2 => exact HC0_0.out); (case side3 => repeat (first | exact (Kd.C_below HR0_1.out HB.out) | (with_reducible refine Kd.C_alloc ?_ _) | (with_reducible refine Kd.C_drewN ?_ _) | (with_reducible refine Kd.C_drew ?_))); (case side4 => exact HC0_1.out); (case side5 => repeat (first | exact (Kd.C_below HR0_2.out HB.out) | (with_reducible refine Kd.C_alloc ?_ _) | (with_reducible refine Kd.C_drewN ?_ _) | (with_reducible refine Kd.C_drew ?_))); (case side6 => exact HC0_2.out); rintro e w6 ⟨rfl, hb⟩; refine ⟨_, rfl, ?_⟩; have n0_ := Aside0.mk (blk_below (g := gb385) (o := .cells #[.slice A0_0 l0_0.length c0_0, .slice A0_1 l0_1.length c0_1, .slice A0_2 l0_2.length c0_2] 24 (0, 0)) zq35 hb); have n1_ := Aside0.mk (below_step zq16 hb); clear BK385; clear HB; have BK385 := n0_; have HB := n1_; clear n0_ n1_; (try clear hb); (try clear hb2); (try clear hk); (try clear hi)))
    go_ret
    exact ⟨by first | rfl | (simp [errW_none, errW_some] <;> rfl) | (simp [*, errW_none, errW_some] <;> rfl), by repeat (first | (with_reducible first | exact HB.out | apply below_alloc | apply pw_below_drewN | apply below_drew1 | refine below_set ?_ GE385.out) | exact HB.out)⟩
  rw [if_neg c3] at H
  have c3b0 : decide (t386 < 0) = false := decide_eq_false c3
  clear c3
  replace H := Option.bind_eq_some_iff.mp H
  obtain ⟨⟨t387, t390, t393⟩, A70, H⟩ := H
  replace H : ((spec_GapsOfTurns.f k t387 t390 t393).bind fun bt396 => ((laws_toJobs.f k l0_0 l0_1 l0_2).bind fun bt401 => ((impl_GapsOfTurns.f k bt401.1 bt401.2.1 bt401.2.2).bind fun bt411 => ((laws_eqTasks.f k bt411.1 bt396.1).bind fun t416 => (if t416 = true then (laws_FnExactGapsOfTurns.j0 k bt396.2 bt411.2 (bt411.2 != bt396.2) l0_0 l0_1 l0_2 bt396.1 bt401.1 bt401.2.1 bt401.2.2 bt411.1) else (laws_FnExactGapsOfTurns.j0 k bt396.2 bt411.2 true l0_0 l0_1 l0_2 bt396.1 bt401.1 bt401.2.1 bt401.2.2 bt411.1)))))) = some r := H
  have A7 := Aside0.mk A70
  clear A70
  replace H := Option.bind_eq_some_iff.mp H
  obtain ⟨⟨t396, t399⟩, A80, H⟩ := H
  replace H : ((laws_toJobs.f k l0_0 l0_1 l0_2).bind fun bt401 => ((impl_GapsOfTurns.f k bt401.1 bt401.2.1 bt401.2.2).bind fun bt411 => ((laws_eqTasks.f k bt411.1 t396).bind fun t416 => (if t416 = true then (laws_FnExactGapsOfTurns.j0 k t399 bt411.2 (bt411.2 != t399) l0_0 l0_1 l0_2 t396 bt401.1 bt401.2.1 bt401.2.2 bt411.1) else (laws_FnExactGapsOfTurns.j0 k t399 bt411.2 true l0_0 l0_1 l0_2 t396 bt401.1 bt401.2.1 bt401.2.2 bt411.1))))) = some r := H
  have A8 := Aside0.mk A80
  clear A80
  replace H := Option.bind_eq_some_iff.mp H
  obtain ⟨⟨t401, t404, t407⟩, A90, H⟩ := H
  replace H : ((impl_GapsOfTurns.f k t401 t404 t407).bind fun bt411 => ((laws_eqTasks.f k bt411.1 t396).bind fun t416 => (if t416 = true then (laws_FnExactGapsOfTurns.j0 k t399 bt411.2 (bt411.2 != t399) l0_0 l0_1 l0_2 t396 t401 t404 t407 bt411.1) else (laws_FnExactGapsOfTurns.j0 k t399 bt411.2 true l0_0 l0_1 l0_2 t396 t401 t404 t407 bt411.1)))) = some r := H
  have A9 := Aside0.mk A90
  clear A90
  replace H := Option.bind_eq_some_iff.mp H
  obtain ⟨⟨t411, t414⟩, A100, H⟩ := H
  replace H : ((laws_eqTasks.f k t411 t396).bind fun t416 => (if t416 = true then (laws_FnExactGapsOfTurns.j0 k t399 t414 (t414 != t399) l0_0 l0_1 l0_2 t396 t401 t404 t407 t411) else (laws_FnExactGapsOfTurns.j0 k t399 t414 true l0_0 l0_1 l0_2 t396 t401 t404 t407 t411))) = some r := H
  have A10 := Aside0.mk A100
  clear A100
  have HC11 := Aside0.mk H
  clear H
  go_enter Try.func8, Try.ntmps8
  go_upto_region 8 with (first | ((with_reducible refine gate_dst (N := 1) rfl ?_); refine box_event ?hg (N := 1) ?hd (cs := #[.slice A0_0 l0_0.length c0_0, .slice A0_1 l0_1.length c0_1, .slice A0_2 l0_2.length c0_2]) (t := 24) ?hr ?_; (case hd => rfl); (case hg => rfl); (case hr => first | (go_simp; done) | (go_simp; rfl)); intro gb385 hg w12 hbox hb; have n0_ := Aside0.mk (below_step zq22 hb); have n1_ := Aside0.mk (hbox); have n2_ := Aside0.mk ((by rw [hg]; exact (below_size zq22) : w.heap.size ≤ gb385)); have n3_ := Aside0.mk ((by rw [hg]; exact (below_size zq22) : w.heap.size ≤ gb385)); clear HB; have HB := n0_; have BK385 := n1_; have GW385 := n2_; have GE385 := n3_; clear n0_ n1_ n2_ n3_; clear hb hbox hg; have hcz13_0 : w12.cell? ⟨gb385, 0, none⟩ = some (.slice A0_0 l0_0.length c0_0) := (blk_cell BK385.out 0).trans rfl; have hcz13_1 : w12.cell? ⟨gb385, 1, none⟩ = some (.slice A0_1 l0_1.length c0_1) := (blk_cell BK385.out 1).trans rfl; have hcz13_2 : w12.cell? ⟨gb385, 2, none⟩ = some (.slice A0_2 l0_2.length c0_2) := (blk_cell BK385.out 2).trans rfl; have hfz13_0 := blk_frozen BK385.out 0; have hfz13_1 := blk_frozen BK385.out 1; have hfz13_2 := blk_frozen BK385.out 2) | ((with_reducible refine gate_callee (f := 13) rfl ?_); refine goesL_ (some 16) rfl rfl Try.func13 (by kernel_rfl) rfl #[.agg #[.slice A0_0 l0_0.length c0_0, .slice A0_1 l0_1.length c0_1, .slice A0_2 l0_2.length c0_2], .int .i64 1048576] rfl zq19 ?_; (with_reducible refine (laws_szJobs.calls _ _ l0_0 _ _ l0_1 _ _ l0_2 1048576 t386 _ ?side1 ?side2 ?side3 ?side4 ?side5 ?side6 A2.out).mono ?_); (case side1 => repeat (first | exact (Kd.C_below HR0_0.out HB.out) | (with_reducible refine Kd.C_alloc ?_ _) | (with_reducible refine Kd.C_drewN ?_ _) | (with_reducible refine Kd.C_drew ?_))); (case side2 => exact HC0_0.out); (case side3 => repeat (first | exact (Kd.C_below HR0_1.out HB.out) | (with_reducible refine Kd.C_alloc ?_ _) | (with_reducible refine Kd.C_drewN ?_ _) | (with_reducible refine Kd.C_drew ?_))); (case side4 => exact HC0_1.out); (case side5 => repeat (first | exact (Kd.C_below HR0_2.out HB.out) | (with_reducible refine Kd.C_alloc ?_ _) | (with_reducible refine Kd.C_drewN ?_ _) | (with_reducible refine Kd.C_drew ?_))); (case side6 => exact HC0_2.out); rintro e w14 ⟨rfl, hb⟩; refine ⟨_, rfl, ?_⟩; have n0_ := Aside0.mk (blk_below (g := gb385) (o := .cells #[.slice A0_0 l0_0.length c0_0, .slice A0_1 l0_1.length c0_1, .slice A0_2 l0_2.length c0_2] 24 (0, 0)) zq35 hb); have n1_ := Aside0.mk (below_step zq16 hb); clear BK385; clear HB; have BK385 := n0_; have HB := n1_; clear n0_ n1_; (try clear hb); (try clear hb2); (try clear hk); (try clear hi); have hcz15_0 : w14.cell? ⟨gb385, 0, none⟩ = some (.slice A0_0 l0_0.length c0_0) := (blk_cell BK385.out 0).trans rfl; have hcz15_1 : w14.cell? ⟨gb385, 1, none⟩ = some (.slice A0_1 l0_1.length c0_1) := (blk_cell BK385.out 1).trans rfl; have hcz15_2 : w14.cell? ⟨gb385, 2, none⟩ = some (.slice A0_2 l0_2.length c0_2) := (blk_cell BK385.out 2).trans rfl; have hfz15_0 := blk_frozen BK385.out 0; have hfz15_1 := blk_frozen BK385.out 1; have hfz15_2 := blk_frozen BK385.out 2) | ((with_reducible refine gate_callee (f := 15) rfl ?_); refine goesL_ (some 21) rfl rfl Try.func15 (by kernel_rfl) rfl #[.agg #[.slice A0_0 l0_0.length c0_0, .slice A0_1 l0_1.length c0_1, .slice A0_2 l0_2.length c0_2]] rfl zq19 ?_; (with_reducible refine (laws_toJobs.calls k _ _ l0_0 _ _ l0_1 _ _ l0_2 t387 t390 t393 _ ?side1 ?side2 ?side3 ?side4 ?side5 ?side6 A7.out).mono ?_); (case side1 => repeat (first | exact (Kd.C_below HR0_0.out HB.out) | (with_reducible refine Kd.C_alloc ?_ _) | (with_reducible refine Kd.C_drewN ?_ _) | (with_reducible refine Kd.C_drew ?_))); (case side2 => exact HC0_0.out); (case side3 => repeat (first | exact (Kd.C_below HR0_1.out HB.out) | (with_reducible refine Kd.C_alloc ?_ _) | (with_reducible refine Kd.C_drewN ?_ _) | (with_reducible refine Kd.C_drew ?_))); (case side4 => exact HC0_1.out); (case side5 => repeat (first | exact (Kd.C_below HR0_2.out HB.out) | (with_reducible refine Kd.C_alloc ?_ _) | (with_reducible refine Kd.C_drewN ?_ _) | (with_reducible refine Kd.C_drew ?_))); (case side6 => exact HC0_2.out); rintro e w16 ⟨v388, v391, v394, rfl, ho0, ho1, ho2, hb⟩; refine ⟨_, rfl, ?_⟩; have n0_ := Aside0.mk (Kd.R_lower ho0 (below_size zq16)); have n1_ := Aside0.mk (Kd.R_lower ho1 (below_size zq16)); have n2_ := Aside0.mk (Kd.R_lower ho2 (below_size zq16)); have n3_ := Aside0.mk (blk_below (g := gb385) (o := .cells #[.slice A0_0 l0_0.length c0_0, .slice A0_1 l0_1.length c0_1, .slice A0_2 l0_2.length c0_2] 24 (0, 0)) zq35 hb); have n4_ := Aside0.mk (below_step zq16 hb); clear BK385; clear HB; have HO389 := n0_; have HO392 := n1_; have HO395 := n2_; have BK385 := n3_; have HB := n4_; clear n0_ n1_ n2_ n3_ n4_; (try clear hb); (try clear hb2); (try clear hk); (try clear hi); (try clear ho0); (try clear ho1); (try clear ho2); obtain ⟨Ao17, co17, eo17⟩ := Kd.R_slice HO389.out; subst eo17; obtain ⟨Ao18, co18, eo18⟩ := Kd.R_slice HO392.out; subst eo18; obtain ⟨Ao19, co19, eo19⟩ := Kd.R_slice HO395.out; subst eo19) | ((with_reducible refine gate_callee (f := 31) rfl ?_); refine goesL_ (some 22) rfl rfl Try.func31 (by kernel_rfl) rfl #[.agg #[.slice Ao17 t387.length co17, .slice Ao18 t390.length co18, .slice Ao19 t393.length co19]] rfl zq19 ?_; (with_reducible refine (spec_GapsOfTurns.calls k _ _ t387 _ _ t390 _ _ t393 t396 t399 _ ?side1 ?side2 ?side3 ?side4 ?side5 ?side6 A8.out).mono ?_); (case side1 => repeat (first | exact (Kd.R_reads' HO389.out).2.2 | (with_reducible refine Kd.C_alloc ?_ _) | (with_reducible refine Kd.C_drewN ?_ _) | (with_reducible refine Kd.C_drew ?_))); (case side2 => exact (Kd.R_reads' HO389.out).2.1); (case side3 => repeat (first | exact (Kd.R_reads' HO392.out).2.2 | (with_reducible refine Kd.C_alloc ?_ _) | (with_reducible refine Kd.C_drewN ?_ _) | (with_reducible refine Kd.C_drew ?_))); (case side4 => exact (Kd.R_reads' HO392.out).2.1); (case side5 => repeat (first | exact (Kd.R_reads' HO395.out).2.2 | (with_reducible refine Kd.C_alloc ?_ _) | (with_reducible refine Kd.C_drewN ?_ _) | (with_reducible refine Kd.C_drew ?_))); (case side6 => exact (Kd.R_reads' HO395.out).2.1); rintro e w20 ⟨v397, rfl, ho0, hb⟩; refine ⟨_, rfl, ?_⟩; have n0_ := Aside0.mk (Kd.R_elder' zq57 (Kd.R_base ho0) hb); have n1_ := Aside0.mk (Kd.R_elder' zq58 (Kd.R_base ho0) hb); have n2_ := Aside0.mk (Kd.R_elder' zq59 (Kd.R_base ho0) hb); have n3_ := Aside0.mk (Kd.R_lower (Kd.R_new' (Kd.R_new' (Kd.R_new' ho0 (Kd.R_lt zq57)) (Kd.R_lt zq58)) (Kd.R_lt zq59)) (below_size zq16)); have n4_ := Aside0.mk (blk_below (g := gb385) (o := .cells #[.slice A0_0 l0_0.length c0_0, .slice A0_1 l0_1.length c0_1, .slice A0_2 l0_2.length c0_2] 24 (0, 0)) zq35 hb); have n5_ := Aside0.mk (below_step zq16 hb); clear HO389; clear HO392; clear HO395; clear BK385; clear HB; have HO389 := n0_; have HO392 := n1_; have HO395 := n2_; have HO398 := n3_; have BK385 := n4_; have HB := n5_; clear n0_ n1_ n2_ n3_ n4_ n5_; (try clear hb); (try clear hb2); (try clear hk); (try clear hi); (try clear ho0)) | ((with_reducible refine gate_dst (N := 4) rfl ?_); refine box_event ?hg (N := 4) ?hd (cs := #[.slice none 0 0]) (t := 41) ?hr ?_; (case hd => rfl); (case hg => rfl); (case hr => first | (go_simp; done) | (go_simp; rfl)); intro gb400 hg w21 hbox hb; have n0_ := Aside0.mk (Kd.R_below zq57 hb); have n1_ := Aside0.mk (Kd.R_below zq58 hb); have n2_ := Aside0.mk (Kd.R_below zq59 hb); have n3_ := Aside0.mk (Kd.R_below (by (with_reducible repeat (first | apply Kd.R_alloc | apply Kd.R_drewN | apply Kd.R_drew)); exact HO398.out) hb); have n4_ := Aside0.mk (blk_below (g := gb385) (o := .cells #[.slice A0_0 l0_0.length c0_0, .slice A0_1 l0_1.length c0_1, .slice A0_2 l0_2.length c0_2] 24 (0, 0)) zq35 hb); have n5_ := Aside0.mk (below_step zq16 hb); have n6_ := Aside0.mk (hbox); have n7_ := Aside0.mk ((by rw [hg]; exact (below_size zq16) : w.heap.size ≤ gb400)); have n8_ := Aside0.mk ((by rw [hg]; exact (below_size zq16) : w.heap.size ≤ gb400)); have n9_ := Aside0.mk ((by rw [hg]; exact Nat.ne_of_lt (blk_lt (g := gb385) (o := .cells #[.slice A0_0 l0_0.length c0_0, .slice A0_1 l0_1.length c0_1, .slice A0_2 l0_2.length c0_2] 24 (0, 0)) zq35) : gb385 ≠ gb400)); have n10_ := Aside0.mk ((by rw [hg]; exact Nat.ne_of_gt (blk_lt (g := gb385) (o := .cells #[.slice A0_0 l0_0.length c0_0, .slice A0_1 l0_1.length c0_1, .slice A0_2 l0_2.length c0_2] 24 (0, 0)) zq35) : gb400 ≠ gb385)); clear HO389; clear HO392; clear HO395; clear HO398; clear BK385; clear HB; have HO389 := n0_; have HO392 := n1_; have HO395 := n2_; have HO398 := n3_; have BK385 := n4_; have HB := n5_; have BK400 := n6_; have GW400 := n7_; have GE400 := n8_; have NB385_400 := n9_; have NB400_385 := n10_; clear n0_ n1_ n2_ n3_ n4_ n5_ n6_ n7_ n8_ n9_ n10_; clear hb hbox hg; obtain ⟨Ao22, co22, eo22⟩ := Kd.R_slice HO398.out; subst eo22; have hnb23 := NB400_385.out; have hnc23 := NB385_400.out; have hcz24_0 : w21.cell? ⟨gb400, 0, none⟩ = some (.slice none 0 0) := (blk_cell BK400.out 0).trans rfl; have hfz24_0 := blk_frozen BK400.out 0; have hcz25_0 : w21.cell? ⟨gb385, 0, none⟩ = some (.slice A0_0 l0_0.length c0_0) := (blk_cell BK385.out 0).trans rfl; have hcz25_1 : w21.cell? ⟨gb385, 1, none⟩ = some (.slice A0_1 l0_1.length c0_1) := (blk_cell BK385.out 1).trans rfl; have hcz25_2 : w21.cell? ⟨gb385, 2, none⟩ = some (.slice A0_2 l0_2.length c0_2) := (blk_cell BK385.out 2).trans rfl; have hfz25_0 := blk_frozen BK385.out 0; have hfz25_1 := blk_frozen BK385.out 1; have hfz25_2 := blk_frozen BK385.out 2) | ((with_reducible refine gate_callee (f := 15) rfl ?_); refine goesL_ (some 26) rfl rfl Try.func15 (by kernel_rfl) rfl #[.agg #[.slice A0_0 l0_0.length c0_0, .slice A0_1 l0_1.length c0_1, .slice A0_2 l0_2.length c0_2]] rfl zq19 ?_; (with_reducible refine (laws_toJobs.calls k _ _ l0_0 _ _ l0_1 _ _ l0_2 t401 t404 t407 _ ?side1 ?side2 ?side3 ?side4 ?side5 ?side6 A9.out).mono ?_); (case side1 => exact Kd.C_below HR0_0.out zq16); (case side2 => exact HC0_0.out); (case side3 => exact Kd.C_below HR0_1.out zq16); (case side4 => exact HC0_1.out); (case side5 => exact Kd.C_below HR0_2.out zq16); (case side6 => exact HC0_2.out); rintro e w26 ⟨v402, v405, v408, rfl, ho0, ho1, ho2, hb⟩; refine ⟨_, rfl, ?_⟩; have n0_ := Aside0.mk (Kd.R_mono (Kd.R_told (Kd.R_told (Kd.R_told (Kd.R_old zq10 hb) (Kd.R_base ho0)) (Kd.R_base ho1)) (Kd.R_base ho2)) (fun _ h_ => h_.1)); have n1_ := Aside0.mk (Kd.R_mono (Kd.R_told (Kd.R_told (Kd.R_told (Kd.R_old zq11 hb) (Kd.R_base ho0)) (Kd.R_base ho1)) (Kd.R_base ho2)) (fun _ h_ => h_.1)); have n2_ := Aside0.mk (Kd.R_mono (Kd.R_told (Kd.R_told (Kd.R_told (Kd.R_old zq12 hb) (Kd.R_base ho0)) (Kd.R_base ho1)) (Kd.R_base ho2)) (fun _ h_ => h_.1)); have n3_ := Aside0.mk (Kd.R_mono (Kd.R_told (Kd.R_told (Kd.R_told (Kd.R_old zq13 hb) (Kd.R_base ho0)) (Kd.R_base ho1)) (Kd.R_base ho2)) (fun _ h_ => h_.1)); have n4_ := Aside0.mk (Kd.R_lower (Kd.R_new' (Kd.R_new' (Kd.R_new' (Kd.R_new' ho0 (Kd.R_lt zq10)) (Kd.R_lt zq11)) (Kd.R_lt zq12)) (Kd.R_lt zq13)) (below_size zq16)); have n5_ := Aside0.mk (Kd.R_lower (Kd.R_new' (Kd.R_new' (Kd.R_new' (Kd.R_new' ho1 (Kd.R_lt zq10)) (Kd.R_lt zq11)) (Kd.R_lt zq12)) (Kd.R_lt zq13)) (below_size zq16)); have n6_ := Aside0.mk (Kd.R_lower (Kd.R_new' (Kd.R_new' (Kd.R_new' (Kd.R_new' ho2 (Kd.R_lt zq10)) (Kd.R_lt zq11)) (Kd.R_lt zq12)) (Kd.R_lt zq13)) (below_size zq16)); have n7_ := Aside0.mk (blk_below (g := gb385) (o := .cells #[.slice A0_0 l0_0.length c0_0, .slice A0_1 l0_1.length c0_1, .slice A0_2 l0_2.length c0_2] 24 (0, 0)) (by (with_reducible repeat (first | refine blk_drewN ?_ _ | refine blk_drew ?_ | refine blk_alloc ?_ _)); refine blk_far ?_ NB385_400.out _; (with_reducible repeat (first | refine blk_drewN ?_ _ | refine blk_drew ?_ | refine blk_alloc ?_ _)); exact BK385.out) hb); have n8_ := Aside0.mk (blk_below (g := gb400) (o := .cells #[.slice Ao22 t396.length co22] 41 (0, 0)) (by (with_reducible repeat (first | refine blk_drewN ?_ _ | refine blk_drew ?_ | refine blk_alloc ?_ _)); refine blk_put (cs := #[.slice none 0 0]) ?_ 0 _ rfl; (with_reducible repeat (first | refine blk_drewN ?_ _ | refine blk_drew ?_ | refine blk_alloc ?_ _)); exact BK400.out) hb); have n9_ := Aside0.mk (below_step zq16 hb); clear HO389; clear HO392; clear HO395; clear HO398; clear BK385; clear BK400; clear HB; have HO389 := n0_; have HO392 := n1_; have HO395 := n2_; have HO398 := n3_; have HO403 := n4_; have HO406 := n5_; have HO409 := n6_; have BK385 := n7_; have BK400 := n8_; have HB := n9_; clear n0_ n1_ n2_ n3_ n4_ n5_ n6_ n7_ n8_ n9_; (try clear hb); (try clear hb2); (try clear hk); (try clear hi); (try clear ho0); (try clear ho1); (try clear ho2)) | ((with_reducible refine gate_dst (N := 6) rfl ?_); refine box_event ?hg (N := 6) ?hd (cs := #[.slice none 0 0, .slice none 0 0, .slice none 0 0]) (t := 28) ?hr ?_; (case hd => rfl); (case hg => rfl); (case hr => first | (go_simp; done) | (go_simp; rfl)); intro gb410 hg w27 hbox hb; have n0_ := Aside0.mk (Kd.R_below zq57 hb); have n1_ := Aside0.mk (Kd.R_below zq58 hb); have n2_ := Aside0.mk (Kd.R_below zq59 hb); have n3_ := Aside0.mk (Kd.R_below (by (with_reducible repeat (first | apply Kd.R_alloc | apply Kd.R_drewN | apply Kd.R_drew)); exact HO398.out) hb); have n4_ := Aside0.mk (Kd.R_below (by (with_reducible repeat (first | apply Kd.R_alloc | apply Kd.R_drewN | apply Kd.R_drew)); exact HO403.out) hb); have n5_ := Aside0.mk (Kd.R_below (by (with_reducible repeat (first | apply Kd.R_alloc | apply Kd.R_drewN | apply Kd.R_drew)); exact HO406.out) hb); have n6_ := Aside0.mk (Kd.R_below (by (with_reducible repeat (first | apply Kd.R_alloc | apply Kd.R_drewN | apply Kd.R_drew)); exact HO409.out) hb); have n7_ := Aside0.mk (blk_below (g := gb385) (o := .cells #[.slice A0_0 l0_0.length c0_0, .slice A0_1 l0_1.length c0_1, .slice A0_2 l0_2.length c0_2] 24 (0, 0)) zq35 hb); have n8_ := Aside0.mk (blk_below (g := gb400) (o := .cells #[.slice Ao22 t396.length co22] 41 (0, 0)) zq36 hb); have n9_ := Aside0.mk (below_step zq16 hb); have n10_ := Aside0.mk (hbox); have n11_ := Aside0.mk ((by rw [hg]; exact (below_size zq16) : w.heap.size ≤ gb410)); have n12_ := Aside0.mk ((by rw [hg]; exact (below_size zq16) : w.heap.size ≤ gb410)); have n13_ := Aside0.mk ((by rw [hg]; exact Nat.ne_of_lt (blk_lt (g := gb385) (o := .cells #[.slice A0_0 l0_0.length c0_0, .slice A0_1 l0_1.length c0_1, .slice A0_2 l0_2.length c0_2] 24 (0, 0)) zq35) : gb385 ≠ gb410)); have n14_ := Aside0.mk ((by rw [hg]; exact Nat.ne_of_gt (blk_lt (g := gb385) (o := .cells #[.slice A0_0 l0_0.length c0_0, .slice A0_1 l0_1.length c0_1, .slice A0_2 l0_2.length c0_2] 24 (0, 0)) zq35) : gb410 ≠ gb385)); have n15_ := Aside0.mk ((by rw [hg]; exact Nat.ne_of_lt (blk_lt (g := gb400) (o := .cells #[.slice Ao22 t396.length co22] 41 (0, 0)) zq36) : gb400 ≠ gb410)); have n16_ := Aside0.mk ((by rw [hg]; exact Nat.ne_of_gt (blk_lt (g := gb400) (o := .cells #[.slice Ao22 t396.length co22] 41 (0, 0)) zq36) : gb410 ≠ gb400)); clear HO389; clear HO392; clear HO395; clear HO398; clear HO403; clear HO406; clear HO409; clear BK385; clear BK400; clear HB; have HO389 := n0_; have HO392 := n1_; have HO395 := n2_; have HO398 := n3_; have HO403 := n4_; have HO406 := n5_; have HO409 := n6_; have BK385 := n7_; have BK400 := n8_; have HB := n9_; have BK410 := n10_; have GW410 := n11_; have GE410 := n12_; have NB385_410 := n13_; have NB410_385 := n14_; have NB400_410 := n15_; have NB410_400 := n16_; clear n0_ n1_ n2_ n3_ n4_ n5_ n6_ n7_ n8_ n9_ n10_ n11_ n12_ n13_ n14_ n15_ n16_; clear hb hbox hg; obtain ⟨Ao28, co28, eo28⟩ := Kd.R_slice HO403.out; subst eo28; have hnb29 := NB410_385.out; have hnc29 := NB385_410.out; have hnb30 := NB410_400.out; have hnc30 := NB400_410.out; have hcz31_0 : w27.cell? ⟨gb410, 0, none⟩ = some (.slice none 0 0) := (blk_cell BK410.out 0).trans rfl; have hcz31_1 : w27.cell? ⟨gb410, 1, none⟩ = some (.slice none 0 0) := (blk_cell BK410.out 1).trans rfl; have hcz31_2 : w27.cell? ⟨gb410, 2, none⟩ = some (.slice none 0 0) := (blk_cell BK410.out 2).trans rfl; have hfz31_0 := blk_frozen BK410.out 0; have hfz31_1 := blk_frozen BK410.out 1; have hfz31_2 := blk_frozen BK410.out 2; obtain ⟨Ao32, co32, eo32⟩ := Kd.R_slice HO406.out; subst eo32; obtain ⟨Ao33, co33, eo33⟩ := Kd.R_slice HO409.out; subst eo33) | ((with_reducible refine gate_callee (f := 32) rfl ?_); refine goesL_ (some 29) rfl rfl Try.func32 (by kernel_rfl) rfl #[.agg #[.slice Ao28 t401.length co28, .slice Ao32 t404.length co32, .slice Ao33 t407.length co33]] rfl zq19 ?_; (with_reducible refine (impl_GapsOfTurns.calls k _ _ t401 _ _ t404 _ _ t407 t411 t414 _ ?side1 ?side2 ?side3 ?side4 ?side5 ?side6 A10.out).mono ?_); (case side1 => refine (Kd.R_reads' (e := 2) (base := w.heap.size) (ok := fun k_ => (((((some k_ ≠ (.slice Ao32 t404.length co32 : Value).ownBlock ∧ some k_ ≠ (.slice Ao33 t407.length co33 : Value).ownBlock) ∧ some k_ ≠ (.slice Ao17 t387.length co17 : Value).ownBlock) ∧ some k_ ≠ (.slice Ao18 t390.length co18 : Value).ownBlock) ∧ some k_ ≠ (.slice Ao19 t393.length co19 : Value).ownBlock) ∧ some k_ ≠ (.slice Ao22 t396.length co22 : Value).ownBlock)) (n := t401.length) (c := co28) ?_).2.2; exact zq0); (case side2 => exact (Kd.R_reads' HO403.out).2.1); (case side3 => refine (Kd.R_reads' (e := 2) (base := w.heap.size) (ok := fun k_ => (((((some k_ ≠ (.slice Ao28 t401.length co28 : Value).ownBlock ∧ some k_ ≠ (.slice Ao33 t407.length co33 : Value).ownBlock) ∧ some k_ ≠ (.slice Ao17 t387.length co17 : Value).ownBlock) ∧ some k_ ≠ (.slice Ao18 t390.length co18 : Value).ownBlock) ∧ some k_ ≠ (.slice Ao19 t393.length co19 : Value).ownBlock) ∧ some k_ ≠ (.slice Ao22 t396.length co22 : Value).ownBlock)) (n := t404.length) (c := co32) ?_).2.2; exact zq1); (case side4 => exact (Kd.R_reads' HO406.out).2.1); (case side5 => refine (Kd.R_reads' (e := 2) (base := w.heap.size) (ok := fun k_ => (((((some k_ ≠ (.slice Ao28 t401.length co28 : Value).ownBlock ∧ some k_ ≠ (.slice Ao32 t404.length co32 : Value).ownBlock) ∧ some k_ ≠ (.slice Ao17 t387.length co17 : Value).ownBlock) ∧ some k_ ≠ (.slice Ao18 t390.length co18 : Value).ownBlock) ∧ some k_ ≠ (.slice Ao19 t393.length co19 : Value).ownBlock) ∧ some k_ ≠ (.slice Ao22 t396.length co22 : Value).ownBlock)) (n := t407.length) (c := co33) ?_).2.2; exact zq2); (case side6 => exact (Kd.R_reads' HO409.out).2.1); rintro e w34 ⟨v412, rfl, ho0, hb⟩; refine ⟨_, rfl, ?_⟩; have n0_ := Aside0.mk (Kd.R_elder' (by (with_reducible repeat (first | apply Kd.R_alloc | apply Kd.R_drewN | apply Kd.R_drew)); exact (Kd.R_mono (Kd.R_far (p := ⟨gb410, 2, none⟩) (Kd.R_far (p := ⟨gb410, 1, none⟩) (Kd.R_far (p := ⟨gb410, 0, none⟩) (Kd.R_types HO389.out BK410.out (by decide)) (fun _ hk => hk.2) (.slice Ao28 t401.length co28)) (fun _ hk => hk.2) (.slice Ao32 t404.length co32)) (fun _ hk => hk.2) (.slice Ao33 t407.length co33)) (fun _ h_ => h_.1))) (Kd.R_base ho0) hb); have n1_ := Aside0.mk (Kd.R_elder' (by (with_reducible repeat (first | apply Kd.R_alloc | apply Kd.R_drewN | apply Kd.R_drew)); exact (Kd.R_mono (Kd.R_far (p := ⟨gb410, 2, none⟩) (Kd.R_far (p := ⟨gb410, 1, none⟩) (Kd.R_far (p := ⟨gb410, 0, none⟩) (Kd.R_types HO392.out BK410.out (by decide)) (fun _ hk => hk.2) (.slice Ao28 t401.length co28)) (fun _ hk => hk.2) (.slice Ao32 t404.length co32)) (fun _ hk => hk.2) (.slice Ao33 t407.length co33)) (fun _ h_ => h_.1))) (Kd.R_base ho0) hb); have n2_ := Aside0.mk (Kd.R_elder' (by (with_reducible repeat (first | apply Kd.R_alloc | apply Kd.R_drewN | apply Kd.R_drew)); exact (Kd.R_mono (Kd.R_far (p := ⟨gb410, 2, none⟩) (Kd.R_far (p := ⟨gb410, 1, none⟩) (Kd.R_far (p := ⟨gb410, 0, none⟩) (Kd.R_types HO395.out BK410.out (by decide)) (fun _ hk => hk.2) (.slice Ao28 t401.length co28)) (fun _ hk => hk.2) (.slice Ao32 t404.length co32)) (fun _ hk => hk.2) (.slice Ao33 t407.length co33)) (fun _ h_ => h_.1))) (Kd.R_base ho0) hb); have n3_ := Aside0.mk (Kd.R_elder' (by (with_reducible repeat (first | apply Kd.R_alloc | apply Kd.R_drewN | apply Kd.R_drew)); exact (Kd.R_mono (Kd.R_far (p := ⟨gb410, 2, none⟩) (Kd.R_far (p := ⟨gb410, 1, none⟩) (Kd.R_far (p := ⟨gb410, 0, none⟩) (Kd.R_types HO398.out BK410.out (by decide)) (fun _ hk => hk.2) (.slice Ao28 t401.length co28)) (fun _ hk => hk.2) (.slice Ao32 t404.length co32)) (fun _ hk => hk.2) (.slice Ao33 t407.length co33)) (fun _ h_ => h_.1))) (Kd.R_base ho0) hb); have n4_ := Aside0.mk (Kd.R_elder' zq0 (Kd.R_base ho0) hb); have n5_ := Aside0.mk (Kd.R_elder' zq1 (Kd.R_base ho0) hb); have n6_ := Aside0.mk (Kd.R_elder' zq2 (Kd.R_base ho0) hb); have n7_ := Aside0.mk (Kd.R_lower (Kd.R_new' (Kd.R_new' (Kd.R_new' (Kd.R_new' (Kd.R_new' (Kd.R_new' (Kd.R_new' ho0 (Kd.R_lt (by (with_reducible repeat (first | apply Kd.R_alloc | apply Kd.R_drewN | apply Kd.R_drew)); exact (Kd.R_mono (Kd.R_far (p := ⟨gb410, 2, none⟩) (Kd.R_far (p := ⟨gb410, 1, none⟩) (Kd.R_far (p := ⟨gb410, 0, none⟩) (Kd.R_types HO389.out BK410.out (by decide)) (fun _ hk => hk.2) (.slice Ao28 t401.length co28)) (fun _ hk => hk.2) (.slice Ao32 t404.length co32)) (fun _ hk => hk.2) (.slice Ao33 t407.length co33)) (fun _ h_ => h_.1))))) (Kd.R_lt (by (with_reducible repeat (first | apply Kd.R_alloc | apply Kd.R_drewN | apply Kd.R_drew)); exact (Kd.R_mono (Kd.R_far (p := ⟨gb410, 2, none⟩) (Kd.R_far (p := ⟨gb410, 1, none⟩) (Kd.R_far (p := ⟨gb410, 0, none⟩) (Kd.R_types HO392.out BK410.out (by decide)) (fun _ hk => hk.2) (.slice Ao28 t401.length co28)) (fun _ hk => hk.2) (.slice Ao32 t404.length co32)) (fun _ hk => hk.2) (.slice Ao33 t407.length co33)) (fun _ h_ => h_.1))))) (Kd.R_lt (by (with_reducible repeat (first | apply Kd.R_alloc | apply Kd.R_drewN | apply Kd.R_drew)); exact (Kd.R_mono (Kd.R_far (p := ⟨gb410, 2, none⟩) (Kd.R_far (p := ⟨gb410, 1, none⟩) (Kd.R_far (p := ⟨gb410, 0, none⟩) (Kd.R_types HO395.out BK410.out (by decide)) (fun _ hk => hk.2) (.slice Ao28 t401.length co28)) (fun _ hk => hk.2) (.slice Ao32 t404.length co32)) (fun _ hk => hk.2) (.slice Ao33 t407.length co33)) (fun _ h_ => h_.1))))) (Kd.R_lt (by (with_reducible repeat (first | apply Kd.R_alloc | apply Kd.R_drewN | apply Kd.R_drew)); exact (Kd.R_mono (Kd.R_far (p := ⟨gb410, 2, none⟩) (Kd.R_far (p := ⟨gb410, 1, none⟩) (Kd.R_far (p := ⟨gb410, 0, none⟩) (Kd.R_types HO398.out BK410.out (by decide)) (fun _ hk => hk.2) (.slice Ao28 t401.length co28)) (fun _ hk => hk.2) (.slice Ao32 t404.length co32)) (fun _ hk => hk.2) (.slice Ao33 t407.length co33)) (fun _ h_ => h_.1))))) (Kd.R_lt zq0)) (Kd.R_lt zq1)) (Kd.R_lt zq2)) (below_size zq16)); have n8_ := Aside0.mk (blk_below (g := gb385) (o := .cells #[.slice A0_0 l0_0.length c0_0, .slice A0_1 l0_1.length c0_1, .slice A0_2 l0_2.length c0_2] 24 (0, 0)) (by (with_reducible repeat (first | refine blk_drewN ?_ _ | refine blk_drew ?_ | refine blk_alloc ?_ _)); refine blk_far ?_ NB385_410.out _; (with_reducible repeat (first | refine blk_drewN ?_ _ | refine blk_drew ?_ | refine blk_alloc ?_ _)); refine blk_far ?_ NB385_410.out _; (with_reducible repeat (first | refine blk_drewN ?_ _ | refine blk_drew ?_ | refine blk_alloc ?_ _)); refine blk_far ?_ NB385_410.out _; (with_reducible repeat (first | refine blk_drewN ?_ _ | refine blk_drew ?_ | refine blk_alloc ?_ _)); exact BK385.out) hb); have n9_ := Aside0.mk (blk_below (g := gb400) (o := .cells #[.slice Ao22 t396.length co22] 41 (0, 0)) (by (with_reducible repeat (first | refine blk_drewN ?_ _ | refine blk_drew ?_ | refine blk_alloc ?_ _)); refine blk_far ?_ NB400_410.out _; (with_reducible repeat (first | refine blk_drewN ?_ _ | refine blk_drew ?_ | refine blk_alloc ?_ _)); refine blk_far ?_ NB400_410.out _; (with_reducible repeat (first | refine blk_drewN ?_ _ | refine blk_drew ?_ | refine blk_alloc ?_ _)); refine blk_far ?_ NB400_410.out _; (with_reducible repeat (first | refine blk_drewN ?_ _ | refine blk_drew ?_ | refine blk_alloc ?_ _)); exact BK400.out) hb); have n10_ := Aside0.mk (blk_below (g := gb410) (o := .cells #[.slice Ao28 t401.length co28, .slice Ao32 t404.length co32, .slice Ao33 t407.length co33] 28 (0, 0)) (by (with_reducible repeat (first | refine blk_drewN ?_ _ | refine blk_drew ?_ | refine blk_alloc ?_ _)); refine blk_put (cs := #[.slice Ao28 t401.length co28, .slice Ao32 t404.length co32, .slice none 0 0]) ?_ 2 _ rfl; (with_reducible repeat (first | refine blk_drewN ?_ _ | refine blk_drew ?_ | refine blk_alloc ?_ _)); refine blk_put (cs := #[.slice Ao28 t401.length co28, .slice none 0 0, .slice none 0 0]) ?_ 1 _ rfl; (with_reducible repeat (first | refine blk_drewN ?_ _ | refine blk_drew ?_ | refine blk_alloc ?_ _)); refine blk_put (cs := #[.slice none 0 0, .slice none 0 0, .slice none 0 0]) ?_ 0 _ rfl; (with_reducible repeat (first | refine blk_drewN ?_ _ | refine blk_drew ?_ | refine blk_alloc ?_ _)); exact BK410.out) hb); have n11_ := Aside0.mk (below_step zq16 hb); clear HO389; clear HO392; clear HO395; clear HO398; clear HO403; clear HO406; clear HO409; clear BK385; clear BK400; clear BK410; clear HB; have HO389 := n0_; have HO392 := n1_; have HO395 := n2_; have HO398 := n3_; have HO403 := n4_; have HO406 := n5_; have HO409 := n6_; have HO413 := n7_; have BK385 := n8_; have BK400 := n9_; have BK410 := n10_; have HB := n11_; clear n0_ n1_ n2_ n3_ n4_ n5_ n6_ n7_ n8_ n9_ n10_ n11_; (try clear hb); (try clear hb2); (try clear hk); (try clear hi); (try clear ho0)) | ((with_reducible refine gate_dst (N := 7) rfl ?_); refine box_event ?hg (N := 7) ?hd (cs := #[.slice none 0 0]) (t := 41) ?hr ?_; (case hd => rfl); (case hg => rfl); (case hr => first | (go_simp; done) | (go_simp; rfl)); intro gb415 hg w35 hbox hb; have n0_ := Aside0.mk (Kd.R_below zq57 hb); have n1_ := Aside0.mk (Kd.R_below zq58 hb); have n2_ := Aside0.mk (Kd.R_below zq59 hb); have n3_ := Aside0.mk (Kd.R_below (by (with_reducible repeat (first | apply Kd.R_alloc | apply Kd.R_drewN | apply Kd.R_drew)); exact HO398.out) hb); have n4_ := Aside0.mk (Kd.R_below (by (with_reducible repeat (first | apply Kd.R_alloc | apply Kd.R_drewN | apply Kd.R_drew)); exact HO403.out) hb); have n5_ := Aside0.mk (Kd.R_below (by (with_reducible repeat (first | apply Kd.R_alloc | apply Kd.R_drewN | apply Kd.R_drew)); exact HO406.out) hb); have n6_ := Aside0.mk (Kd.R_below (by (with_reducible repeat (first | apply Kd.R_alloc | apply Kd.R_drewN | apply Kd.R_drew)); exact HO409.out) hb); have n7_ := Aside0.mk (Kd.R_below (by (with_reducible repeat (first | apply Kd.R_alloc | apply Kd.R_drewN | apply Kd.R_drew)); exact HO413.out) hb); have n8_ := Aside0.mk (blk_below (g := gb385) (o := .cells #[.slice A0_0 l0_0.length c0_0, .slice A0_1 l0_1.length c0_1, .slice A0_2 l0_2.length c0_2] 24 (0, 0)) zq35 hb); have n9_ := Aside0.mk (blk_below (g := gb400) (o := .cells #[.slice Ao22 t396.length co22] 41 (0, 0)) zq36 hb); have n10_ := Aside0.mk (blk_below (g := gb410) (o := .cells #[.slice Ao28 t401.length co28, .slice Ao32 t404.length co32, .slice Ao33 t407.length co33] 28 (0, 0)) zq37 hb); have n11_ := Aside0.mk (below_step zq16 hb); have n12_ := Aside0.mk (hbox); have n13_ := Aside0.mk ((by rw [hg]; exact (below_size zq16) : w.heap.size ≤ gb415)); have n14_ := Aside0.mk ((by rw [hg]; exact (below_size zq16) : w.heap.size ≤ gb415)); have n15_ := Aside0.mk ((by rw [hg]; exact Nat.ne_of_lt (blk_lt (g := gb385) (o := .cells #[.slice A0_0 l0_0.length c0_0, .slice A0_1 l0_1.length c0_1, .slice A0_2 l0_2.length c0_2] 24 (0, 0)) zq35) : gb385 ≠ gb415)); have n16_ := Aside0.mk ((by rw [hg]; exact Nat.ne_of_gt (blk_lt (g := gb385) (o := .cells #[.slice A0_0 l0_0.length c0_0, .slice A0_1 l0_1.length c0_1, .slice A0_2 l0_2.length c0_2] 24 (0, 0)) zq35) : gb415 ≠ gb385)); have n17_ := Aside0.mk ((by rw [hg]; exact Nat.ne_of_lt (blk_lt (g := gb400) (o := .cells #[.slice Ao22 t396.length co22] 41 (0, 0)) zq36) : gb400 ≠ gb415)); have n18_ := Aside0.mk ((by rw [hg]; exact Nat.ne_of_gt (blk_lt (g := gb400) (o := .cells #[.slice Ao22 t396.length co22] 41 (0, 0)) zq36) : gb415 ≠ gb400)); have n19_ := Aside0.mk ((by rw [hg]; exact Nat.ne_of_lt (blk_lt (g := gb410) (o := .cells #[.slice Ao28 t401.length co28, .slice Ao32 t404.length co32, .slice Ao33 t407.length co33] 28 (0, 0)) zq37) : gb410 ≠ gb415)); have n20_ := Aside0.mk ((by rw [hg]; exact Nat.ne_of_gt (blk_lt (g := gb410) (o := .cells #[.slice Ao28 t401.length co28, .slice Ao32 t404.length co32, .slice Ao33 t407.length co33] 28 (0, 0)) zq37) : gb415 ≠ gb410)); clear HO389; clear HO392; clear HO395; clear HO398; clear HO403; clear HO406; clear HO409; clear HO413; clear BK385; clear BK400; clear BK410; clear HB; have HO389 := n0_; have HO392 := n1_; have HO395 := n2_; have HO398 := n3_; have HO403 := n4_; have HO406 := n5_; have HO409 := n6_; have HO413 := n7_; have BK385 := n8_; have BK400 := n9_; have BK410 := n10_; have HB := n11_; have BK415 := n12_; have GW415 := n13_; have GE415 := n14_; have NB385_415 := n15_; have NB415_385 := n16_; have NB400_415 := n17_; have NB415_400 := n18_; have NB410_415 := n19_; have NB415_410 := n20_; clear n0_ n1_ n2_ n3_ n4_ n5_ n6_ n7_ n8_ n9_ n10_ n11_ n12_ n13_ n14_ n15_ n16_ n17_ n18_ n19_ n20_; clear hb hbox hg; obtain ⟨Ao36, co36, eo36⟩ := Kd.R_slice HO413.out; subst eo36; have hnb37 := NB415_385.out; have hnc37 := NB385_415.out; have hnb38 := NB415_400.out; have hnc38 := NB400_415.out; have hnb39 := NB415_410.out; have hnc39 := NB410_415.out; have hcz40_0 : w35.cell? ⟨gb415, 0, none⟩ = some (.slice none 0 0) := (blk_cell BK415.out 0).trans rfl; have hfz40_0 := blk_frozen BK415.out 0))
  (try simp only [Act.put, List.setIfInBounds_toArray, List.set_cons_zero, List.set_cons_succ])
  go_cut [40] (fun v40 wc => ∃ (kq : Nat) (x40_10 : Bool), v40 = .bool x40_10 ∧ Aside0 (laws_FnExactGapsOfTurns.j0 kq t399 t414 x40_10 l0_0 l0_1 l0_2 t396 t401 t404 t407 t411 = some r) ∧ Aside0 (kq ≤ k) ∧ Aside0 (Kd.R (Kd.int .i64) 2 wc w.heap.size (fun k_ => some k_ ≠ ((.slice Ao28 t401.length co28) : Value).ownBlock ∧ some k_ ≠ ((.slice Ao32 t404.length co32) : Value).ownBlock ∧ some k_ ≠ ((.slice Ao33 t407.length co33) : Value).ownBlock ∧ some k_ ≠ ((.slice Ao36 t411.length co36) : Value).ownBlock) (.slice Ao22 t396.length co22) t396) ∧ Aside0 (Kd.R (Kd.int .i64) 2 wc w.heap.size (fun k_ => some k_ ≠ ((.slice Ao22 t396.length co22) : Value).ownBlock ∧ some k_ ≠ ((.slice Ao32 t404.length co32) : Value).ownBlock ∧ some k_ ≠ ((.slice Ao33 t407.length co33) : Value).ownBlock ∧ some k_ ≠ ((.slice Ao36 t411.length co36) : Value).ownBlock) (.slice Ao28 t401.length co28) t401) ∧ Aside0 (Kd.R (Kd.int .i64) 2 wc w.heap.size (fun k_ => some k_ ≠ ((.slice Ao22 t396.length co22) : Value).ownBlock ∧ some k_ ≠ ((.slice Ao28 t401.length co28) : Value).ownBlock ∧ some k_ ≠ ((.slice Ao33 t407.length co33) : Value).ownBlock ∧ some k_ ≠ ((.slice Ao36 t411.length co36) : Value).ownBlock) (.slice Ao32 t404.length co32) t404) ∧ Aside0 (Kd.R (Kd.int .i64) 2 wc w.heap.size (fun k_ => some k_ ≠ ((.slice Ao22 t396.length co22) : Value).ownBlock ∧ some k_ ≠ ((.slice Ao28 t401.length co28) : Value).ownBlock ∧ some k_ ≠ ((.slice Ao32 t404.length co32) : Value).ownBlock ∧ some k_ ≠ ((.slice Ao36 t411.length co36) : Value).ownBlock) (.slice Ao33 t407.length co33) t407) ∧ Aside0 (Kd.R (Kd.int .i64) 2 wc w.heap.size (fun k_ => some k_ ≠ ((.slice Ao22 t396.length co22) : Value).ownBlock ∧ some k_ ≠ ((.slice Ao28 t401.length co28) : Value).ownBlock ∧ some k_ ≠ ((.slice Ao32 t404.length co32) : Value).ownBlock ∧ some k_ ≠ ((.slice Ao33 t407.length co33) : Value).ownBlock) (.slice Ao36 t411.length co36) t411) ∧ Aside0 (wc.heap[gb385]? = some (.cells #[(.slice A0_0 l0_0.length c0_0), (.slice A0_1 l0_1.length c0_1), (.slice A0_2 l0_2.length c0_2)] 24 (0, 0))) ∧ Aside0 (wc.heap[gb400]? = some (.cells #[(.slice Ao22 t396.length co22)] 41 (0, 0))) ∧ Aside0 (wc.heap[gb410]? = some (.cells #[(.slice Ao28 t401.length co28), (.slice Ao32 t404.length co32), (.slice Ao33 t407.length co33)] 28 (0, 0))) ∧ Aside0 (wc.heap[gb415]? = some (.cells #[(.slice Ao36 t411.length co36)] 41 (0, 0))) ∧ Aside0 (Below w.heap.size w wc))
  case first =>
    have H := HC11.out
    clear HC11
    replace H := Option.bind_eq_some_iff.mp H
    obtain ⟨t416, A410, H⟩ := H
    replace H : (if t416 = true then (laws_FnExactGapsOfTurns.j0 k t399 t414 (t414 != t399) l0_0 l0_1 l0_2 t396 t401 t404 t407 t411) else (laws_FnExactGapsOfTurns.j0 k t399 t414 true l0_0 l0_1 l0_2 t396 t401 t404 t407 t411)) = some r := H
    have A41 := Aside0.mk A410
    clear A410
    by_cases c42 : t416 = true
    · subst c42
      have H1 : (laws_FnExactGapsOfTurns.j0 k t399 t414 (t414 != t399) l0_0 l0_1 l0_2 t396 t401 t404 t407 t411) = some r := by rw [if_pos rfl] at H; exact H
      clear H
      have H := H1
      clear H1
      have H' := Aside0.mk H
      clear H
      have hnb43 := NB415_385.out
      have hnc43 := NB385_415.out
      have hnb44 := NB415_400.out
      have hnc44 := NB400_415.out
      have hnb45 := NB415_410.out
      have hnc45 := NB410_415.out
      have hcz46_0 : w35.cell? ⟨gb415, 0, none⟩ = some (.slice none 0 0) := (blk_cell BK415.out 0).trans rfl
      have hfz46_0 := blk_frozen BK415.out 0
      have hnb47 := NB400_385.out
      have hnc47 := NB385_400.out
      have hnb48 := NB400_410.out
      have hnc48 := NB410_400.out
      have hcz49_0 : w35.cell? ⟨gb400, 0, none⟩ = some (.slice Ao22 t396.length co22) := (blk_cell BK400.out 0).trans rfl
      have hfz49_0 := blk_frozen BK400.out 0
      go_wp2_with (first | ((with_reducible refine gate_callee (f := 33) rfl ?_); refine goesL_ (some 34) rfl rfl Try.func33 (by kernel_rfl) rfl #[.agg #[.slice Ao36 t411.length co36], .agg #[.slice Ao22 t396.length co22]] rfl zq19 ?_; (with_reducible refine (laws_eqTasks.calls k _ _ t411 _ _ t396 true _ ?side1 ?side2 ?side3 ?side4 A41.out).mono ?_); (case side1 => refine (Kd.R_reads' (e := 2) (base := w.heap.size) (ok := fun k_ => (((((((True ∧ some k_ ≠ (.slice Ao17 t387.length co17 : Value).ownBlock) ∧ some k_ ≠ (.slice Ao18 t390.length co18 : Value).ownBlock) ∧ some k_ ≠ (.slice Ao19 t393.length co19 : Value).ownBlock) ∧ some k_ ≠ (.slice Ao22 t396.length co22 : Value).ownBlock) ∧ some k_ ≠ (.slice Ao28 t401.length co28 : Value).ownBlock) ∧ some k_ ≠ (.slice Ao32 t404.length co32 : Value).ownBlock) ∧ some k_ ≠ (.slice Ao33 t407.length co33 : Value).ownBlock)) (n := t411.length) (c := co36) ?_).2.2; exact zq14); (case side2 => exact (Kd.R_reads' HO413.out).2.1); (case side3 => refine (Kd.R_reads' (e := 2) (base := w.heap.size) (ok := fun k_ => (((((((True ∧ some k_ ≠ (.slice Ao17 t387.length co17 : Value).ownBlock) ∧ some k_ ≠ (.slice Ao18 t390.length co18 : Value).ownBlock) ∧ some k_ ≠ (.slice Ao19 t393.length co19 : Value).ownBlock) ∧ some k_ ≠ (.slice Ao28 t401.length co28 : Value).ownBlock) ∧ some k_ ≠ (.slice Ao32 t404.length co32 : Value).ownBlock) ∧ some k_ ≠ (.slice Ao33 t407.length co33 : Value).ownBlock) ∧ some k_ ≠ (.slice Ao36 t411.length co36 : Value).ownBlock)) (n := t396.length) (c := co22) ?_).2.2; exact zq15); (case side4 => exact (Kd.R_reads' HO398.out).2.1); rintro e w50 ⟨rfl, hb⟩; refine ⟨_, rfl, ?_⟩; have n0_ := Aside0.mk (Kd.R_below (by (with_reducible repeat (first | apply Kd.R_alloc | apply Kd.R_drewN | apply Kd.R_drew)); exact (Kd.R_mono (Kd.R_far (p := ⟨gb415, 0, none⟩) (Kd.R_types HO389.out BK415.out (by decide)) (fun _ hk => hk.2) (.slice Ao36 t411.length co36)) (fun _ h_ => h_.1))) hb); have n1_ := Aside0.mk (Kd.R_below (by (with_reducible repeat (first | apply Kd.R_alloc | apply Kd.R_drewN | apply Kd.R_drew)); exact (Kd.R_mono (Kd.R_far (p := ⟨gb415, 0, none⟩) (Kd.R_types HO392.out BK415.out (by decide)) (fun _ hk => hk.2) (.slice Ao36 t411.length co36)) (fun _ h_ => h_.1))) hb); have n2_ := Aside0.mk (Kd.R_below (by (with_reducible repeat (first | apply Kd.R_alloc | apply Kd.R_drewN | apply Kd.R_drew)); exact (Kd.R_mono (Kd.R_far (p := ⟨gb415, 0, none⟩) (Kd.R_types HO395.out BK415.out (by decide)) (fun _ hk => hk.2) (.slice Ao36 t411.length co36)) (fun _ h_ => h_.1))) hb); have n3_ := Aside0.mk (Kd.R_below zq15 hb); have n4_ := Aside0.mk (Kd.R_below (by (with_reducible repeat (first | apply Kd.R_alloc | apply Kd.R_drewN | apply Kd.R_drew)); exact (Kd.R_mono (Kd.R_far (p := ⟨gb415, 0, none⟩) (Kd.R_types HO403.out BK415.out (by decide)) (fun _ hk => hk.2) (.slice Ao36 t411.length co36)) (fun _ h_ => h_.1))) hb); have n5_ := Aside0.mk (Kd.R_below (by (with_reducible repeat (first | apply Kd.R_alloc | apply Kd.R_drewN | apply Kd.R_drew)); exact (Kd.R_mono (Kd.R_far (p := ⟨gb415, 0, none⟩) (Kd.R_types HO406.out BK415.out (by decide)) (fun _ hk => hk.2) (.slice Ao36 t411.length co36)) (fun _ h_ => h_.1))) hb); have n6_ := Aside0.mk (Kd.R_below (by (with_reducible repeat (first | apply Kd.R_alloc | apply Kd.R_drewN | apply Kd.R_drew)); exact (Kd.R_mono (Kd.R_far (p := ⟨gb415, 0, none⟩) (Kd.R_types HO409.out BK415.out (by decide)) (fun _ hk => hk.2) (.slice Ao36 t411.length co36)) (fun _ h_ => h_.1))) hb); have n7_ := Aside0.mk (Kd.R_below zq14 hb); have n8_ := Aside0.mk (blk_below (g := gb385) (o := .cells #[.slice A0_0 l0_0.length c0_0, .slice A0_1 l0_1.length c0_1, .slice A0_2 l0_2.length c0_2] 24 (0, 0)) (by (with_reducible repeat (first | refine blk_drewN ?_ _ | refine blk_drew ?_ | refine blk_alloc ?_ _)); refine blk_far ?_ NB385_415.out _; (with_reducible repeat (first | refine blk_drewN ?_ _ | refine blk_drew ?_ | refine blk_alloc ?_ _)); exact BK385.out) hb); have n9_ := Aside0.mk (blk_below (g := gb400) (o := .cells #[.slice Ao22 t396.length co22] 41 (0, 0)) (by (with_reducible repeat (first | refine blk_drewN ?_ _ | refine blk_drew ?_ | refine blk_alloc ?_ _)); refine blk_far ?_ NB400_415.out _; (with_reducible repeat (first | refine blk_drewN ?_ _ | refine blk_drew ?_ | refine blk_alloc ?_ _)); exact BK400.out) hb); have n10_ := Aside0.mk (blk_below (g := gb410) (o := .cells #[.slice Ao28 t401.length co28, .slice Ao32 t404.length co32, .slice Ao33 t407.length co33] 28 (0, 0)) (by (with_reducible repeat (first | refine blk_drewN ?_ _ | refine blk_drew ?_ | refine blk_alloc ?_ _)); refine blk_far ?_ NB410_415.out _; (with_reducible repeat (first | refine blk_drewN ?_ _ | refine blk_drew ?_ | refine blk_alloc ?_ _)); exact BK410.out) hb); have n11_ := Aside0.mk (blk_below (g := gb415) (o := .cells #[.slice Ao36 t411.length co36] 41 (0, 0)) (by (with_reducible repeat (first | refine blk_drewN ?_ _ | refine blk_drew ?_ | refine blk_alloc ?_ _)); refine blk_put (cs := #[.slice none 0 0]) ?_ 0 _ rfl; (with_reducible repeat (first | refine blk_drewN ?_ _ | refine blk_drew ?_ | refine blk_alloc ?_ _)); exact BK415.out) hb); have n12_ := Aside0.mk (below_step zq16 hb); clear HO389; clear HO392; clear HO395; clear HO398; clear HO403; clear HO406; clear HO409; clear HO413; clear BK385; clear BK400; clear BK410; clear BK415; clear HB; have HO389 := n0_; have HO392 := n1_; have HO395 := n2_; have HO398 := n3_; have HO403 := n4_; have HO406 := n5_; have HO409 := n6_; have HO413 := n7_; have BK385 := n8_; have BK400 := n9_; have BK410 := n10_; have BK415 := n11_; have HB := n12_; clear n0_ n1_ n2_ n3_ n4_ n5_ n6_ n7_ n8_ n9_ n10_ n11_ n12_; (try clear hb); (try clear hb2); (try clear hk); (try clear hi)))
      go_meet
      case rel => exact ⟨_, ((t414 != t399)), zq76, H', ⟨by first | omega | exact Nat.le_refl _⟩, ⟨by (with_reducible repeat (first | apply Kd.R_alloc | apply Kd.R_drewN | apply Kd.R_drew)); exact Kd.R_mono HO398.out (fun _ hk => ⟨hk.1.1.1.2, ⟨hk.1.1.2, ⟨hk.1.2, hk.2⟩⟩⟩)⟩, ⟨by (with_reducible repeat (first | apply Kd.R_alloc | apply Kd.R_drewN | apply Kd.R_drew)); exact Kd.R_mono HO403.out (fun _ hk => ⟨hk.1.2, ⟨hk.1.1.1.1.1.1, ⟨hk.1.1.1.1.1.2, hk.2⟩⟩⟩)⟩, ⟨by (with_reducible repeat (first | apply Kd.R_alloc | apply Kd.R_drewN | apply Kd.R_drew)); exact Kd.R_mono HO406.out (fun _ hk => ⟨hk.1.2, ⟨hk.1.1.1.1.1.1, ⟨hk.1.1.1.1.1.2, hk.2⟩⟩⟩)⟩, ⟨by (with_reducible repeat (first | apply Kd.R_alloc | apply Kd.R_drewN | apply Kd.R_drew)); exact Kd.R_mono HO409.out (fun _ hk => ⟨hk.1.2, ⟨hk.1.1.1.1.1.1, ⟨hk.1.1.1.1.1.2, hk.2⟩⟩⟩)⟩, ⟨by (with_reducible repeat (first | apply Kd.R_alloc | apply Kd.R_drewN | apply Kd.R_drew)); exact Kd.R_mono HO413.out (fun _ hk => ⟨hk.1.1.1.2, ⟨hk.1.1.2, ⟨hk.1.2, hk.2⟩⟩⟩)⟩, ⟨by (with_reducible repeat (first | refine blk_drewN ?_ _ | refine blk_drew ?_ | refine blk_alloc ?_ _)); exact BK385.out⟩, ⟨by (with_reducible repeat (first | refine blk_drewN ?_ _ | refine blk_drew ?_ | refine blk_alloc ?_ _)); exact BK400.out⟩, ⟨by (with_reducible repeat (first | refine blk_drewN ?_ _ | refine blk_drew ?_ | refine blk_alloc ?_ _)); exact BK410.out⟩, ⟨by (with_reducible repeat (first | refine blk_drewN ?_ _ | refine blk_drew ?_ | refine blk_alloc ?_ _)); exact BK415.out⟩, ⟨by repeat (first | (with_reducible first | exact HB.out | apply below_alloc | apply pw_below_drewN | apply below_drew1 | refine below_set ?_ GE385.out | refine below_set ?_ GE400.out | refine below_set ?_ GE410.out | refine below_set ?_ GE415.out) | exact HB.out)⟩⟩
    replace c42 := Bool.eq_false_iff.mpr c42
    subst c42
    have H1 : (laws_FnExactGapsOfTurns.j0 k t399 t414 true l0_0 l0_1 l0_2 t396 t401 t404 t407 t411) = some r := by rw [if_neg (show ¬ (false = true) by decide)] at H; exact H
    clear H
    have H := H1
    clear H1
    have H' := Aside0.mk H
    clear H
    have hnb51 := NB415_385.out
    have hnc51 := NB385_415.out
    have hnb52 := NB415_400.out
    have hnc52 := NB400_415.out
    have hnb53 := NB415_410.out
    have hnc53 := NB410_415.out
    have hcz54_0 : w35.cell? ⟨gb415, 0, none⟩ = some (.slice none 0 0) := (blk_cell BK415.out 0).trans rfl
    have hfz54_0 := blk_frozen BK415.out 0
    have hnb55 := NB400_385.out
    have hnc55 := NB385_400.out
    have hnb56 := NB400_410.out
    have hnc56 := NB410_400.out
    have hcz57_0 : w35.cell? ⟨gb400, 0, none⟩ = some (.slice Ao22 t396.length co22) := (blk_cell BK400.out 0).trans rfl
    have hfz57_0 := blk_frozen BK400.out 0
    go_wp2_with (first | ((with_reducible refine gate_callee (f := 33) rfl ?_); refine goesL_ (some 34) rfl rfl Try.func33 (by kernel_rfl) rfl #[.agg #[.slice Ao36 t411.length co36], .agg #[.slice Ao22 t396.length co22]] rfl zq19 ?_; (with_reducible refine (laws_eqTasks.calls k _ _ t411 _ _ t396 false _ ?side1 ?side2 ?side3 ?side4 A41.out).mono ?_); (case side1 => refine (Kd.R_reads' (e := 2) (base := w.heap.size) (ok := fun k_ => (((((((True ∧ some k_ ≠ (.slice Ao17 t387.length co17 : Value).ownBlock) ∧ some k_ ≠ (.slice Ao18 t390.length co18 : Value).ownBlock) ∧ some k_ ≠ (.slice Ao19 t393.length co19 : Value).ownBlock) ∧ some k_ ≠ (.slice Ao22 t396.length co22 : Value).ownBlock) ∧ some k_ ≠ (.slice Ao28 t401.length co28 : Value).ownBlock) ∧ some k_ ≠ (.slice Ao32 t404.length co32 : Value).ownBlock) ∧ some k_ ≠ (.slice Ao33 t407.length co33 : Value).ownBlock)) (n := t411.length) (c := co36) ?_).2.2; exact zq14); (case side2 => exact (Kd.R_reads' HO413.out).2.1); (case side3 => refine (Kd.R_reads' (e := 2) (base := w.heap.size) (ok := fun k_ => (((((((True ∧ some k_ ≠ (.slice Ao17 t387.length co17 : Value).ownBlock) ∧ some k_ ≠ (.slice Ao18 t390.length co18 : Value).ownBlock) ∧ some k_ ≠ (.slice Ao19 t393.length co19 : Value).ownBlock) ∧ some k_ ≠ (.slice Ao28 t401.length co28 : Value).ownBlock) ∧ some k_ ≠ (.slice Ao32 t404.length co32 : Value).ownBlock) ∧ some k_ ≠ (.slice Ao33 t407.length co33 : Value).ownBlock) ∧ some k_ ≠ (.slice Ao36 t411.length co36 : Value).ownBlock)) (n := t396.length) (c := co22) ?_).2.2; exact zq15); (case side4 => exact (Kd.R_reads' HO398.out).2.1); rintro e w58 ⟨rfl, hb⟩; refine ⟨_, rfl, ?_⟩; have n0_ := Aside0.mk (Kd.R_below (by (with_reducible repeat (first | apply Kd.R_alloc | apply Kd.R_drewN | apply Kd.R_drew)); exact (Kd.R_mono (Kd.R_far (p := ⟨gb415, 0, none⟩) (Kd.R_types HO389.out BK415.out (by decide)) (fun _ hk => hk.2) (.slice Ao36 t411.length co36)) (fun _ h_ => h_.1))) hb); have n1_ := Aside0.mk (Kd.R_below (by (with_reducible repeat (first | apply Kd.R_alloc | apply Kd.R_drewN | apply Kd.R_drew)); exact (Kd.R_mono (Kd.R_far (p := ⟨gb415, 0, none⟩) (Kd.R_types HO392.out BK415.out (by decide)) (fun _ hk => hk.2) (.slice Ao36 t411.length co36)) (fun _ h_ => h_.1))) hb); have n2_ := Aside0.mk (Kd.R_below (by (with_reducible repeat (first | apply Kd.R_alloc | apply Kd.R_drewN | apply Kd.R_drew)); exact (Kd.R_mono (Kd.R_far (p := ⟨gb415, 0, none⟩) (Kd.R_types HO395.out BK415.out (by decide)) (fun _ hk => hk.2) (.slice Ao36 t411.length co36)) (fun _ h_ => h_.1))) hb); have n3_ := Aside0.mk (Kd.R_below zq15 hb); have n4_ := Aside0.mk (Kd.R_below (by (with_reducible repeat (first | apply Kd.R_alloc | apply Kd.R_drewN | apply Kd.R_drew)); exact (Kd.R_mono (Kd.R_far (p := ⟨gb415, 0, none⟩) (Kd.R_types HO403.out BK415.out (by decide)) (fun _ hk => hk.2) (.slice Ao36 t411.length co36)) (fun _ h_ => h_.1))) hb); have n5_ := Aside0.mk (Kd.R_below (by (with_reducible repeat (first | apply Kd.R_alloc | apply Kd.R_drewN | apply Kd.R_drew)); exact (Kd.R_mono (Kd.R_far (p := ⟨gb415, 0, none⟩) (Kd.R_types HO406.out BK415.out (by decide)) (fun _ hk => hk.2) (.slice Ao36 t411.length co36)) (fun _ h_ => h_.1))) hb); have n6_ := Aside0.mk (Kd.R_below (by (with_reducible repeat (first | apply Kd.R_alloc | apply Kd.R_drewN | apply Kd.R_drew)); exact (Kd.R_mono (Kd.R_far (p := ⟨gb415, 0, none⟩) (Kd.R_types HO409.out BK415.out (by decide)) (fun _ hk => hk.2) (.slice Ao36 t411.length co36)) (fun _ h_ => h_.1))) hb); have n7_ := Aside0.mk (Kd.R_below zq14 hb); have n8_ := Aside0.mk (blk_below (g := gb385) (o := .cells #[.slice A0_0 l0_0.length c0_0, .slice A0_1 l0_1.length c0_1, .slice A0_2 l0_2.length c0_2] 24 (0, 0)) (by (with_reducible repeat (first | refine blk_drewN ?_ _ | refine blk_drew ?_ | refine blk_alloc ?_ _)); refine blk_far ?_ NB385_415.out _; (with_reducible repeat (first | refine blk_drewN ?_ _ | refine blk_drew ?_ | refine blk_alloc ?_ _)); exact BK385.out) hb); have n9_ := Aside0.mk (blk_below (g := gb400) (o := .cells #[.slice Ao22 t396.length co22] 41 (0, 0)) (by (with_reducible repeat (first | refine blk_drewN ?_ _ | refine blk_drew ?_ | refine blk_alloc ?_ _)); refine blk_far ?_ NB400_415.out _; (with_reducible repeat (first | refine blk_drewN ?_ _ | refine blk_drew ?_ | refine blk_alloc ?_ _)); exact BK400.out) hb); have n10_ := Aside0.mk (blk_below (g := gb410) (o := .cells #[.slice Ao28 t401.length co28, .slice Ao32 t404.length co32, .slice Ao33 t407.length co33] 28 (0, 0)) (by (with_reducible repeat (first | refine blk_drewN ?_ _ | refine blk_drew ?_ | refine blk_alloc ?_ _)); refine blk_far ?_ NB410_415.out _; (with_reducible repeat (first | refine blk_drewN ?_ _ | refine blk_drew ?_ | refine blk_alloc ?_ _)); exact BK410.out) hb); have n11_ := Aside0.mk (blk_below (g := gb415) (o := .cells #[.slice Ao36 t411.length co36] 41 (0, 0)) (by (with_reducible repeat (first | refine blk_drewN ?_ _ | refine blk_drew ?_ | refine blk_alloc ?_ _)); refine blk_put (cs := #[.slice none 0 0]) ?_ 0 _ rfl; (with_reducible repeat (first | refine blk_drewN ?_ _ | refine blk_drew ?_ | refine blk_alloc ?_ _)); exact BK415.out) hb); have n12_ := Aside0.mk (below_step zq16 hb); clear HO389; clear HO392; clear HO395; clear HO398; clear HO403; clear HO406; clear HO409; clear HO413; clear BK385; clear BK400; clear BK410; clear BK415; clear HB; have HO389 := n0_; have HO392 := n1_; have HO395 := n2_; have HO398 := n3_; have HO403 := n4_; have HO406 := n5_; have HO409 := n6_; have HO413 := n7_; have BK385 := n8_; have BK400 := n9_; have BK410 := n10_; have BK415 := n11_; have HB := n12_; clear n0_ n1_ n2_ n3_ n4_ n5_ n6_ n7_ n8_ n9_ n10_ n11_ n12_; (try clear hb); (try clear hb2); (try clear hk); (try clear hi)))
    go_meet
    case rel => exact ⟨_, (true), zq76, H', ⟨by first | omega | exact Nat.le_refl _⟩, ⟨by (with_reducible repeat (first | apply Kd.R_alloc | apply Kd.R_drewN | apply Kd.R_drew)); exact Kd.R_mono HO398.out (fun _ hk => ⟨hk.1.1.1.2, ⟨hk.1.1.2, ⟨hk.1.2, hk.2⟩⟩⟩)⟩, ⟨by (with_reducible repeat (first | apply Kd.R_alloc | apply Kd.R_drewN | apply Kd.R_drew)); exact Kd.R_mono HO403.out (fun _ hk => ⟨hk.1.2, ⟨hk.1.1.1.1.1.1, ⟨hk.1.1.1.1.1.2, hk.2⟩⟩⟩)⟩, ⟨by (with_reducible repeat (first | apply Kd.R_alloc | apply Kd.R_drewN | apply Kd.R_drew)); exact Kd.R_mono HO406.out (fun _ hk => ⟨hk.1.2, ⟨hk.1.1.1.1.1.1, ⟨hk.1.1.1.1.1.2, hk.2⟩⟩⟩)⟩, ⟨by (with_reducible repeat (first | apply Kd.R_alloc | apply Kd.R_drewN | apply Kd.R_drew)); exact Kd.R_mono HO409.out (fun _ hk => ⟨hk.1.2, ⟨hk.1.1.1.1.1.1, ⟨hk.1.1.1.1.1.2, hk.2⟩⟩⟩)⟩, ⟨by (with_reducible repeat (first | apply Kd.R_alloc | apply Kd.R_drewN | apply Kd.R_drew)); exact Kd.R_mono HO413.out (fun _ hk => ⟨hk.1.1.1.2, ⟨hk.1.1.2, ⟨hk.1.2, hk.2⟩⟩⟩)⟩, ⟨by (with_reducible repeat (first | refine blk_drewN ?_ _ | refine blk_drew ?_ | refine blk_alloc ?_ _)); exact BK385.out⟩, ⟨by (with_reducible repeat (first | refine blk_drewN ?_ _ | refine blk_drew ?_ | refine blk_alloc ?_ _)); exact BK400.out⟩, ⟨by (with_reducible repeat (first | refine blk_drewN ?_ _ | refine blk_drew ?_ | refine blk_alloc ?_ _)); exact BK410.out⟩, ⟨by (with_reducible repeat (first | refine blk_drewN ?_ _ | refine blk_drew ?_ | refine blk_alloc ?_ _)); exact BK415.out⟩, ⟨by repeat (first | (with_reducible first | exact HB.out | apply below_alloc | apply pw_below_drewN | apply below_drew1 | refine below_set ?_ GE385.out | refine below_set ?_ GE400.out | refine below_set ?_ GE410.out | refine below_set ?_ GE415.out) | exact HB.out)⟩⟩
  clear HC11
  try clear c1
  try clear c2
  try clear p2
  try clear c3
  try clear c3b0
  try clear c4
  try clear c5
  try clear c8
  try clear c13
  try clear c15
  try clear c23
  try clear c29
  try clear c30
  try clear c31
  try clear c32
  try clear c33
  try clear c37
  try clear c38
  try clear c39
  try clear c42
  try clear c43
  try clear c44
  try clear c45
  try clear c47
  try clear c48
  try clear c51
  try clear c52
  try clear c53
  try clear c55
  try clear c56
  try clear hcz13_0
  try clear hcz13_1
  try clear hcz13_2
  try clear hcz15_0
  try clear hcz15_1
  try clear hcz15_2
  try clear hcz24_0
  try clear hcz25_0
  try clear hcz25_1
  try clear hcz25_2
  try clear hcz31_0
  try clear hcz31_1
  try clear hcz31_2
  try clear hcz40_0
  try clear hcz46_0
  try clear hcz49_0
  try clear hcz54_0
  try clear hcz57_0
  try clear hcz5_0
  try clear hcz5_1
  try clear hcz5_2
  try clear hfz13_0
  try clear hfz13_1
  try clear hfz13_2
  try clear hfz15_0
  try clear hfz15_1
  try clear hfz15_2
  try clear hfz24_0
  try clear hfz25_0
  try clear hfz25_1
  try clear hfz25_2
  try clear hfz31_0
  try clear hfz31_1
  try clear hfz31_2
  try clear hfz40_0
  try clear hfz46_0
  try clear hfz49_0
  try clear hfz54_0
  try clear hfz57_0
  try clear hfz5_0
  try clear hfz5_1
  try clear hfz5_2
  obtain ⟨kq, x40_10, rfl, HA, HJ10, HO_401000, HO_411000, HO_411001, HO_411002, HO_416000, BK385, BK400, BK410, BK415, HB⟩ := hcut
  cases kq with
  | zero => exact absurd HA.out (by simp [laws_FnExactGapsOfTurns.j0])
  | succ kj10 =>
    have H := HA.out
    clear HA
    simp only [laws_FnExactGapsOfTurns.j0] at H
    by_cases c59 : x40_10 = true
    · subst c59
      have H1 : (some false) = some r := by rw [if_pos rfl] at H; exact H
      clear H
      have H := H1
      clear H1
      rw [hr_.out] at H
      exact absurd H (by simp)
    replace c59 := Bool.eq_false_iff.mpr c59
    subst c59
    have H1 : ((laws_toJobs.f kj10 l0_0 l0_1 l0_2).bind fun bt417 => ((laws_eqJobs.f kj10 t401 t404 t407 bt417.1 bt417.2.1 bt417.2.2).bind fun t426 => (if t426 = true then ((laws_markJobs.f kj10 t401 t404 t407 1).bind fun bt427 => (if bt427.1 < 0 then (laws_FnExactGapsOfTurns.j1 kj10 t399 true l0_0 l0_1 l0_2 t396 t411) else ((laws_eqTasks.f kj10 t411 t396).bind fun t431 => (if t431 = true then (laws_FnExactGapsOfTurns.j1 kj10 t399 (t414 != t399) l0_0 l0_1 l0_2 t396 t411) else (laws_FnExactGapsOfTurns.j1 kj10 t399 true l0_0 l0_1 l0_2 t396 t411))))) else (some false)))) = some r := by rw [if_neg (show ¬ (false = true) by decide)] at H; exact H
    clear H
    have H := H1
    clear H1
    replace H := Option.bind_eq_some_iff.mp H
    obtain ⟨⟨t417, t420, t423⟩, A600, H⟩ := H
    replace H : ((laws_eqJobs.f kj10 t401 t404 t407 t417 t420 t423).bind fun t426 => (if t426 = true then ((laws_markJobs.f kj10 t401 t404 t407 1).bind fun bt427 => (if bt427.1 < 0 then (laws_FnExactGapsOfTurns.j1 kj10 t399 true l0_0 l0_1 l0_2 t396 t411) else ((laws_eqTasks.f kj10 t411 t396).bind fun t431 => (if t431 = true then (laws_FnExactGapsOfTurns.j1 kj10 t399 (t414 != t399) l0_0 l0_1 l0_2 t396 t411) else (laws_FnExactGapsOfTurns.j1 kj10 t399 true l0_0 l0_1 l0_2 t396 t411))))) else (some false))) = some r := H
    have A60 := Aside0.mk A600
    clear A600
    replace H := Option.bind_eq_some_iff.mp H
    obtain ⟨t426, A610, H⟩ := H
    replace H : (if t426 = true then ((laws_markJobs.f kj10 t401 t404 t407 1).bind fun bt427 => (if bt427.1 < 0 then (laws_FnExactGapsOfTurns.j1 kj10 t399 true l0_0 l0_1 l0_2 t396 t411) else ((laws_eqTasks.f kj10 t411 t396).bind fun t431 => (if t431 = true then (laws_FnExactGapsOfTurns.j1 kj10 t399 (t414 != t399) l0_0 l0_1 l0_2 t396 t411) else (laws_FnExactGapsOfTurns.j1 kj10 t399 true l0_0 l0_1 l0_2 t396 t411))))) else (some false)) = some r := H
    have A61 := Aside0.mk A610
    clear A610
    by_cases c62 : t426 = true
    rotate_left
    · replace c62 := Bool.eq_false_iff.mpr c62
      subst c62
      have H1 : (some false) = some r := by rw [if_neg (show ¬ (false = true) by decide)] at H; exact H
      clear H
      have H := H1
      clear H1
      rw [hr_.out] at H
      exact absurd H (by simp)

    subst c62
    have H1 : ((laws_markJobs.f kj10 t401 t404 t407 1).bind fun bt427 => (if bt427.1 < 0 then (laws_FnExactGapsOfTurns.j1 kj10 t399 true l0_0 l0_1 l0_2 t396 t411) else ((laws_eqTasks.f kj10 t411 t396).bind fun t431 => (if t431 = true then (laws_FnExactGapsOfTurns.j1 kj10 t399 (t414 != t399) l0_0 l0_1 l0_2 t396 t411) else (laws_FnExactGapsOfTurns.j1 kj10 t399 true l0_0 l0_1 l0_2 t396 t411))))) = some r := by rw [if_pos rfl] at H; exact H
    clear H
    have H := H1
    clear H1
    replace H := Option.bind_eq_some_iff.mp H
    obtain ⟨⟨t427, t428, t429, t430⟩, A630, H⟩ := H
    replace H : (if t427 < 0 then (laws_FnExactGapsOfTurns.j1 kj10 t399 true l0_0 l0_1 l0_2 t396 t411) else ((laws_eqTasks.f kj10 t411 t396).bind fun t431 => (if t431 = true then (laws_FnExactGapsOfTurns.j1 kj10 t399 (t414 != t399) l0_0 l0_1 l0_2 t396 t411) else (laws_FnExactGapsOfTurns.j1 kj10 t399 true l0_0 l0_1 l0_2 t396 t411)))) = some r := H
    have A63 := Aside0.mk A630
    clear A630
    have HC64 := Aside0.mk H
    clear H
    try go_wp2
    have n0_ := Aside0.mk (Kd.R_drew HO_401000.out)
    have n1_ := Aside0.mk (Kd.R_drew HO_411000.out)
    have n2_ := Aside0.mk (Kd.R_drew HO_411001.out)
    have n3_ := Aside0.mk (Kd.R_drew HO_411002.out)
    have n4_ := Aside0.mk (Kd.R_drew HO_416000.out)
    have n5_ := Aside0.mk (blk_drew BK385.out)
    have n6_ := Aside0.mk (blk_drew BK400.out)
    have n7_ := Aside0.mk (blk_drew BK410.out)
    have n8_ := Aside0.mk (blk_drew BK415.out)
    have n9_ := Aside0.mk (below_drew1 HB.out)
    clear HO_401000
    clear HO_411000
    clear HO_411001
    clear HO_411002
    clear HO_416000
    clear BK385
    clear BK400
    clear BK410
    clear BK415
    clear HB
    have HO_401000 := n0_
    have HO_411000 := n1_
    have HO_411001 := n2_
    have HO_411002 := n3_
    have HO_416000 := n4_
    have BK385 := n5_
    have BK400 := n6_
    have BK410 := n7_
    have BK415 := n8_
    have HB := n9_
    clear n0_ n1_ n2_ n3_ n4_ n5_ n6_ n7_ n8_ n9_
    refine start_ (n := 5) (S := fun w' => w'.cell? ⟨gb410, 0, none⟩ = some (.slice Ao28 t401.length co28) ∧ w'.cell? ⟨gb410, 1, none⟩ = some (.slice Ao32 t404.length co32) ∧ w'.cell? ⟨gb410, 2, none⟩ = some (.slice Ao33 t407.length co33) ∧ w'.cell? ⟨gb385, 0, none⟩ = some (.slice A0_0 l0_0.length c0_0) ∧ w'.cell? ⟨gb385, 1, none⟩ = some (.slice A0_1 l0_1.length c0_1) ∧ w'.cell? ⟨gb385, 2, none⟩ = some (.slice A0_2 l0_2.length c0_2)) (ds := []) #[false, false, false, false, false] (by kernel_rfl) rfl rfl ⟨(blk_cell BK410.out 0).trans rfl, (blk_cell BK410.out 1).trans rfl, (blk_cell BK410.out 2).trans rfl, (blk_cell BK385.out 0).trans rfl, (blk_cell BK385.out 1).trans rfl, (blk_cell BK385.out 2).trans rfl⟩ (fun hHeld => ?_)
    generalize wc.drew = w65 at HO_401000 HO_411000 HO_411001 HO_411002 HO_416000 BK385 BK400 BK410 BK415 HB hHeld ⊢
    refine take_ (i := 0) (N := some 41) (v := ?_) (a' := ?_) #[true, false, false, false, false] rfl rfl (by kernel_rfl) (fun _ _ _ h => h) (Or.inl ⟨by rfl, ?_⟩) hHeld ?_ ?_
    rotate_left
    · rintro w' ⟨s0, s1, s2, s3, s4, s5⟩
      go_simp
      with_reducible rfl
    rotate_left
    · simp only [Act.put, List.setIfInBounds_toArray, List.set_cons_zero, List.set_cons_succ, i64_w, i32_w]
      rfl
    refine take_ (i := 1) (N := some 42) (v := ?_) (a' := ?_) #[true, true, false, false, false] rfl rfl (by kernel_rfl) (fun _ _ _ h => h) (Or.inl ⟨by rfl, ?_⟩) hHeld ?_ ?_
    rotate_left
    · rintro w' ⟨s0, s1, s2, s3, s4, s5⟩
      go_simp
      with_reducible rfl
    rotate_left
    · simp only [Act.put, List.setIfInBounds_toArray, List.set_cons_zero, List.set_cons_succ, i64_w, i32_w]
      rfl
    refine one_ (i := 2) (N := some 43) #[true, true, true, false, false] rfl rfl (by kernel_rfl) (by decide) (fun K hK => ?_)
    refine goes_ Try.func15 (by kernel_rfl) rfl #[.agg #[.slice A0_0 l0_0.length c0_0, .slice A0_1 l0_1.length c0_1, .slice A0_2 l0_2.length c0_2]] (by rfl) rfl rfl zq19 ?_
    with_reducible refine (laws_toJobs.calls kj10 _ _ l0_0 _ _ l0_1 _ _ l0_2 t417 t420 t423 _ ?side1 ?side2 ?side3 ?side4 ?side5 ?side6 A60.out).mono ?_
    (case side1 => repeat (first | exact (Kd.C_below HR0_0.out HB.out) | (with_reducible refine Kd.C_alloc ?_ _) | (with_reducible refine Kd.C_drewN ?_ _) | (with_reducible refine Kd.C_drew ?_)))
    (case side2 => exact HC0_0.out)
    (case side3 => repeat (first | exact (Kd.C_below HR0_1.out HB.out) | (with_reducible refine Kd.C_alloc ?_ _) | (with_reducible refine Kd.C_drewN ?_ _) | (with_reducible refine Kd.C_drew ?_)))
    (case side4 => exact HC0_1.out)
    (case side5 => repeat (first | exact (Kd.C_below HR0_2.out HB.out) | (with_reducible refine Kd.C_alloc ?_ _) | (with_reducible refine Kd.C_drewN ?_ _) | (with_reducible refine Kd.C_drew ?_)))
    (case side6 => exact HC0_2.out)
    rintro e w66 ⟨v418, v421, v424, rfl, ho0, ho1, ho2, hb⟩
    refine ⟨_, rfl, ?_⟩
    have n0_ := Aside0.mk (Kd.R_mono (Kd.R_told (Kd.R_told (Kd.R_told (Kd.R_old zq49 hb) (Kd.R_base ho0)) (Kd.R_base ho1)) (Kd.R_base ho2)) (fun _ h_ => h_.1))
    have n1_ := Aside0.mk (Kd.R_mono (Kd.R_told (Kd.R_told (Kd.R_told (Kd.R_old zq50 hb) (Kd.R_base ho0)) (Kd.R_base ho1)) (Kd.R_base ho2)) (fun _ h_ => h_.1))
    have n2_ := Aside0.mk (Kd.R_mono (Kd.R_told (Kd.R_told (Kd.R_told (Kd.R_old zq51 hb) (Kd.R_base ho0)) (Kd.R_base ho1)) (Kd.R_base ho2)) (fun _ h_ => h_.1))
    have n3_ := Aside0.mk (Kd.R_mono (Kd.R_told (Kd.R_told (Kd.R_told (Kd.R_old zq52 hb) (Kd.R_base ho0)) (Kd.R_base ho1)) (Kd.R_base ho2)) (fun _ h_ => h_.1))
    have n4_ := Aside0.mk (Kd.R_mono (Kd.R_told (Kd.R_told (Kd.R_told (Kd.R_old zq53 hb) (Kd.R_base ho0)) (Kd.R_base ho1)) (Kd.R_base ho2)) (fun _ h_ => h_.1))
    have n5_ := Aside0.mk (Kd.R_lower (Kd.R_new' (Kd.R_new' (Kd.R_new' (Kd.R_new' (Kd.R_new' ho0 (Kd.R_lt zq49)) (Kd.R_lt zq50)) (Kd.R_lt zq51)) (Kd.R_lt zq52)) (Kd.R_lt zq53)) (below_size zq16))
    have n6_ := Aside0.mk (Kd.R_lower (Kd.R_new' (Kd.R_new' (Kd.R_new' (Kd.R_new' (Kd.R_new' ho1 (Kd.R_lt zq49)) (Kd.R_lt zq50)) (Kd.R_lt zq51)) (Kd.R_lt zq52)) (Kd.R_lt zq53)) (below_size zq16))
    have n7_ := Aside0.mk (Kd.R_lower (Kd.R_new' (Kd.R_new' (Kd.R_new' (Kd.R_new' (Kd.R_new' ho2 (Kd.R_lt zq49)) (Kd.R_lt zq50)) (Kd.R_lt zq51)) (Kd.R_lt zq52)) (Kd.R_lt zq53)) (below_size zq16))
    have n8_ := Aside0.mk (blk_below (g := gb385) (o := .cells #[.slice A0_0 l0_0.length c0_0, .slice A0_1 l0_1.length c0_1, .slice A0_2 l0_2.length c0_2] 24 (0, 0)) zq35 hb)
    have n9_ := Aside0.mk (blk_below (g := gb400) (o := .cells #[.slice Ao22 t396.length co22] 41 (0, 0)) zq36 hb)
    have n10_ := Aside0.mk (blk_below (g := gb410) (o := .cells #[.slice Ao28 t401.length co28, .slice Ao32 t404.length co32, .slice Ao33 t407.length co33] 28 (0, 0)) zq37 hb)
    have n11_ := Aside0.mk (blk_below (g := gb415) (o := .cells #[.slice Ao36 t411.length co36] 41 (0, 0)) zq38 hb)
    have n12_ := Aside0.mk (below_step zq16 hb)
    clear HO_401000
    clear HO_411000
    clear HO_411001
    clear HO_411002
    clear HO_416000
    clear BK385
    clear BK400
    clear BK410
    clear BK415
    clear HB
    have HO_401000 := n0_
    have HO_411000 := n1_
    have HO_411001 := n2_
    have HO_411002 := n3_
    have HO_416000 := n4_
    have HO419 := n5_
    have HO422 := n6_
    have HO425 := n7_
    have BK385 := n8_
    have BK400 := n9_
    have BK410 := n10_
    have BK415 := n11_
    have HB := n12_
    clear n0_ n1_ n2_ n3_ n4_ n5_ n6_ n7_ n8_ n9_ n10_ n11_ n12_
    (try clear hb)
    (try clear hb2)
    (try clear hk)
    (try clear hi)
    (try clear ho0)
    (try clear ho1)
    (try clear ho2)
    obtain ⟨Ao67, co67, eo67⟩ := Kd.R_slice HO419.out
    (first | subst eo67 | (injection eo67 with f1_ f2_ f3_; have f4_ := f1_.symm; have f5_ := f3_.symm; clear f1_ f2_ f3_; subst f4_; subst f5_))
    obtain ⟨Ao68, co68, eo68⟩ := Kd.R_slice HO422.out
    (first | subst eo68 | (injection eo68 with f1_ f2_ f3_; have f4_ := f1_.symm; have f5_ := f3_.symm; clear f1_ f2_ f3_; subst f4_; subst f5_))
    obtain ⟨Ao69, co69, eo69⟩ := Kd.R_slice HO425.out
    (first | subst eo69 | (injection eo69 with f1_ f2_ f3_; have f4_ := f1_.symm; have f5_ := f3_.symm; clear f1_ f2_ f3_; subst f4_; subst f5_))
    refine hK.out _ _ ⟨(blk_cell BK410.out 0).trans rfl, (blk_cell BK410.out 1).trans rfl, (blk_cell BK410.out 2).trans rfl, (blk_cell BK385.out 0).trans rfl, (blk_cell BK385.out 1).trans rfl, (blk_cell BK385.out 2).trans rfl⟩ (fun hHeld => ?_)
    clear hK K
    refine norm_ (a' := ?_) ?_ ?_
    rotate_left
    · show Act.put _ (some 43) _ = _
      simp only [Act.put, List.setIfInBounds_toArray, List.set_cons_zero, List.set_cons_succ, i64_w, i32_w]
      rfl
    refine one_ (i := 3) (N := some 44) #[true, true, true, true, false] rfl rfl (by kernel_rfl) (by decide) (fun K hK => ?_)
    refine goes_ Try.func19 (by kernel_rfl) rfl #[.agg #[.slice Ao28 t401.length co28, .slice Ao32 t404.length co32, .slice Ao33 t407.length co33], .agg #[.slice Ao67 t417.length co67, .slice Ao68 t420.length co68, .slice Ao69 t423.length co69]] (by rfl) rfl rfl zq19 ?_
    with_reducible refine (laws_eqJobs.calls kj10 _ _ t401 _ _ t404 _ _ t407 _ _ t417 _ _ t420 _ _ t423 true _ ?side1 ?side2 ?side3 ?side4 ?side5 ?side6 ?side7 ?side8 ?side9 ?side10 ?side11 ?side12 A61.out).mono ?_
    (case side1 => repeat (first | exact (Kd.R_reads' HO_411000.out).2.2 | (with_reducible refine Kd.C_alloc ?_ _) | (with_reducible refine Kd.C_drewN ?_ _) | (with_reducible refine Kd.C_drew ?_)))
    (case side2 => exact (Kd.R_reads' HO_411000.out).2.1)
    (case side3 => repeat (first | exact (Kd.R_reads' HO_411001.out).2.2 | (with_reducible refine Kd.C_alloc ?_ _) | (with_reducible refine Kd.C_drewN ?_ _) | (with_reducible refine Kd.C_drew ?_)))
    (case side4 => exact (Kd.R_reads' HO_411001.out).2.1)
    (case side5 => repeat (first | exact (Kd.R_reads' HO_411002.out).2.2 | (with_reducible refine Kd.C_alloc ?_ _) | (with_reducible refine Kd.C_drewN ?_ _) | (with_reducible refine Kd.C_drew ?_)))
    (case side6 => exact (Kd.R_reads' HO_411002.out).2.1)
    (case side7 => repeat (first | exact (Kd.R_reads' HO419.out).2.2 | (with_reducible refine Kd.C_alloc ?_ _) | (with_reducible refine Kd.C_drewN ?_ _) | (with_reducible refine Kd.C_drew ?_)))
    (case side8 => exact (Kd.R_reads' HO419.out).2.1)
    (case side9 => repeat (first | exact (Kd.R_reads' HO422.out).2.2 | (with_reducible refine Kd.C_alloc ?_ _) | (with_reducible refine Kd.C_drewN ?_ _) | (with_reducible refine Kd.C_drew ?_)))
    (case side10 => exact (Kd.R_reads' HO422.out).2.1)
    (case side11 => repeat (first | exact (Kd.R_reads' HO425.out).2.2 | (with_reducible refine Kd.C_alloc ?_ _) | (with_reducible refine Kd.C_drewN ?_ _) | (with_reducible refine Kd.C_drew ?_)))
    (case side12 => exact (Kd.R_reads' HO425.out).2.1)
    rintro e w70 ⟨rfl, hb⟩
    refine ⟨_, rfl, ?_⟩
    have n0_ := Aside0.mk (Kd.R_below zq49 hb)
    have n1_ := Aside0.mk (Kd.R_below zq50 hb)
    have n2_ := Aside0.mk (Kd.R_below zq51 hb)
    have n3_ := Aside0.mk (Kd.R_below zq52 hb)
    have n4_ := Aside0.mk (Kd.R_below zq53 hb)
    have n5_ := Aside0.mk (Kd.R_below (by (with_reducible repeat (first | apply Kd.R_alloc | apply Kd.R_drewN | apply Kd.R_drew)); exact HO419.out) hb)
    have n6_ := Aside0.mk (Kd.R_below (by (with_reducible repeat (first | apply Kd.R_alloc | apply Kd.R_drewN | apply Kd.R_drew)); exact HO422.out) hb)
    have n7_ := Aside0.mk (Kd.R_below (by (with_reducible repeat (first | apply Kd.R_alloc | apply Kd.R_drewN | apply Kd.R_drew)); exact HO425.out) hb)
    have n8_ := Aside0.mk (blk_below (g := gb385) (o := .cells #[.slice A0_0 l0_0.length c0_0, .slice A0_1 l0_1.length c0_1, .slice A0_2 l0_2.length c0_2] 24 (0, 0)) zq35 hb)
    have n9_ := Aside0.mk (blk_below (g := gb400) (o := .cells #[.slice Ao22 t396.length co22] 41 (0, 0)) zq36 hb)
    have n10_ := Aside0.mk (blk_below (g := gb410) (o := .cells #[.slice Ao28 t401.length co28, .slice Ao32 t404.length co32, .slice Ao33 t407.length co33] 28 (0, 0)) zq37 hb)
    have n11_ := Aside0.mk (blk_below (g := gb415) (o := .cells #[.slice Ao36 t411.length co36] 41 (0, 0)) zq38 hb)
    have n12_ := Aside0.mk (below_step zq16 hb)
    clear HO_401000
    clear HO_411000
    clear HO_411001
    clear HO_411002
    clear HO_416000
    clear HO419
    clear HO422
    clear HO425
    clear BK385
    clear BK400
    clear BK410
    clear BK415
    clear HB
    have HO_401000 := n0_
    have HO_411000 := n1_
    have HO_411001 := n2_
    have HO_411002 := n3_
    have HO_416000 := n4_
    have HO419 := n5_
    have HO422 := n6_
    have HO425 := n7_
    have BK385 := n8_
    have BK400 := n9_
    have BK410 := n10_
    have BK415 := n11_
    have HB := n12_
    clear n0_ n1_ n2_ n3_ n4_ n5_ n6_ n7_ n8_ n9_ n10_ n11_ n12_
    (try clear hb)
    (try clear hb2)
    (try clear hk)
    (try clear hi)
    refine hK.out _ _ ⟨(blk_cell BK410.out 0).trans rfl, (blk_cell BK410.out 1).trans rfl, (blk_cell BK410.out 2).trans rfl, (blk_cell BK385.out 0).trans rfl, (blk_cell BK385.out 1).trans rfl, (blk_cell BK385.out 2).trans rfl⟩ (fun hHeld => ?_)
    clear hK K
    refine norm_ (a' := ?_) ?_ ?_
    rotate_left
    · show Act.put _ (some 44) _ = _
      simp only [Act.put, List.setIfInBounds_toArray, List.set_cons_zero, List.set_cons_succ, i64_w, i32_w]
      rfl
    refine pure_ (i := 4) (N := some 45) (v := ?_) (a' := ?_) #[true, true, true, true, true] rfl rfl (by kernel_rfl) (fun _ _ _ h => h) (Or.inl ⟨by rfl, ?_⟩) ?_ ?_
    rotate_left
    · intro w'
      go_simp
      with_reducible rfl
    rotate_left
    · simp only [Act.put, List.setIfInBounds_toArray, List.set_cons_zero, List.set_cons_succ, i64_w, i32_w]
      rfl
    refine done_ (by kernel_rfl) ?_
    have hnb71 := NB410_385.out
    have hnc71 := NB385_410.out
    have hnb72 := NB410_400.out
    have hnc72 := NB400_410.out
    have hnb73 := NB410_415.out
    have hnc73 := NB415_410.out
    have hcz74_0 : w70.cell? ⟨gb410, 0, none⟩ = some (.slice Ao28 t401.length co28) := (blk_cell BK410.out 0).trans rfl
    have hcz74_1 : w70.cell? ⟨gb410, 1, none⟩ = some (.slice Ao32 t404.length co32) := (blk_cell BK410.out 1).trans rfl
    have hcz74_2 : w70.cell? ⟨gb410, 2, none⟩ = some (.slice Ao33 t407.length co33) := (blk_cell BK410.out 2).trans rfl
    have hfz74_0 := blk_frozen BK410.out 0
    have hfz74_1 := blk_frozen BK410.out 1
    have hfz74_2 := blk_frozen BK410.out 2
    go_upto_region 14 with (first | ((with_reducible refine gate_callee (f := 20) rfl ?_); refine goesL_ (some 48) rfl rfl Try.func20 (by kernel_rfl) rfl #[.agg #[.slice Ao28 t401.length co28, .slice Ao32 t404.length co32, .slice Ao33 t407.length co33], .int .i64 1] rfl zq19 ?_; (with_reducible refine (laws_markJobs.calls kj10 (fun k_ => some k_ = (.slice Ao28 t401.length co28 : Value).ownBlock) (.slice Ao28 t401.length co28) t401 (fun k_ => some k_ = (.slice Ao32 t404.length co32 : Value).ownBlock) (.slice Ao32 t404.length co32) t404 (fun k_ => some k_ = (.slice Ao33 t407.length co33 : Value).ownBlock) (.slice Ao33 t407.length co33) t407 1 t427 t428 t429 t430 w _ ?side1 ?side2 ?side3 ?side4 ?side5 ?side6 ?side7 ?side8 ?side9 ?side10 A63.out).mono ?_); (case side1 => repeat (first | (with_reducible first | exact HB.out | apply below_alloc | apply pw_below_drewN | apply below_drew1 | refine below_set ?_ GE385.out | refine below_set ?_ GE400.out | refine below_set ?_ GE410.out | refine below_set ?_ GE415.out) | exact HB.out)); (case side2 => exact Kd.R_tight rfl HO_411000.out); (case side3 => exact fun k_ e_ => (HO_411000.out.1 k_ e_.symm).1.1.1.2.1); (case side4 => exact fun k_ e_ => (HO_411000.out.1 k_ e_.symm).1.1.1.2.2.1); (case side5 => exact Kd.R_tight rfl HO_411001.out); (case side6 => exact fun k_ e_ => (HO_411001.out.1 k_ e_.symm).1.1.1.2.1); (case side7 => exact fun k_ e_ => (HO_411001.out.1 k_ e_.symm).1.1.1.2.2.1); (case side8 => exact Kd.R_tight rfl HO_411002.out); (case side9 => exact fun k_ e_ => (HO_411002.out.1 k_ e_.symm).1.1.1.2.1); (case side10 => exact fun k_ e_ => (HO_411002.out.1 k_ e_.symm).1.1.1.2.2.1); rintro e w75 ⟨rfl, hy0, hy1, hy2, hb, hkp⟩; refine ⟨_, rfl, ?_⟩; have n0_ := Aside0.mk (Kd.R_mono (ok' := fun k_ => some k_ ≠ (.slice Ao28 t401.length co28 : Value).ownBlock ∧ some k_ ≠ (.slice Ao32 t404.length co32 : Value).ownBlock ∧ some k_ ≠ (.slice Ao33 t407.length co33 : Value).ownBlock ∧ some k_ ≠ (.slice Ao36 t411.length co36 : Value).ownBlock ∧ some k_ ≠ (.slice Ao67 t417.length co67 : Value).ownBlock ∧ some k_ ≠ (.slice Ao68 t420.length co68 : Value).ownBlock ∧ some k_ ≠ (.slice Ao69 t423.length co69 : Value).ownBlock) (Kd.R_keptB (HO_401000.out) hkp (fun k_ hk_ hs_ => Or.elim hs_ (fun e_ => (hk_.1.1.1.1) e_) (fun e_ => Or.elim e_ (fun e_ => (hk_.1.1.1.2.1) e_) (fun e_ => (hk_.1.1.1.2.2.1) e_)))) (fun k_ hk_ => ⟨hk_.1.1.1.1.1, hk_.1.1.1.1.2.1, hk_.1.1.1.1.2.2.1, hk_.1.1.1.1.2.2.2, hk_.1.1.1.2, hk_.1.1.2, hk_.1.2⟩)); have n1_ := Aside0.mk (Kd.R_reok rfl hy0 (fun k_ e_ => HO_411000.out.1 k_ e_)); have n2_ := Aside0.mk (Kd.R_reok rfl hy1 (fun k_ e_ => HO_411001.out.1 k_ e_)); have n3_ := Aside0.mk (Kd.R_reok rfl hy2 (fun k_ e_ => HO_411002.out.1 k_ e_)); have n4_ := Aside0.mk (Kd.R_mono (ok' := fun k_ => some k_ ≠ (.slice Ao22 t396.length co22 : Value).ownBlock ∧ some k_ ≠ (.slice Ao28 t401.length co28 : Value).ownBlock ∧ some k_ ≠ (.slice Ao32 t404.length co32 : Value).ownBlock ∧ some k_ ≠ (.slice Ao33 t407.length co33 : Value).ownBlock ∧ some k_ ≠ (.slice Ao67 t417.length co67 : Value).ownBlock ∧ some k_ ≠ (.slice Ao68 t420.length co68 : Value).ownBlock ∧ some k_ ≠ (.slice Ao69 t423.length co69 : Value).ownBlock) (Kd.R_keptB (HO_416000.out) hkp (fun k_ hk_ hs_ => Or.elim hs_ (fun e_ => (hk_.1.1.1.2.1) e_) (fun e_ => Or.elim e_ (fun e_ => (hk_.1.1.1.2.2.1) e_) (fun e_ => (hk_.1.1.1.2.2.2) e_)))) (fun k_ hk_ => ⟨hk_.1.1.1.1.1, hk_.1.1.1.1.2.1, hk_.1.1.1.1.2.2.1, hk_.1.1.1.1.2.2.2, hk_.1.1.1.2, hk_.1.1.2, hk_.1.2⟩)); have n5_ := Aside0.mk (blk_kept zq35 hkp (fun hs_ => Or.elim hs_ (fun e_ => (fun e_ => (Kd.R_ne HO_411000.out BK385.out (by decide)) e_) e_) (fun e_ => Or.elim e_ (fun e_ => (fun e_ => (Kd.R_ne HO_411001.out BK385.out (by decide)) e_) e_) (fun e_ => (fun e_ => (Kd.R_ne HO_411002.out BK385.out (by decide)) e_) e_)))); have n6_ := Aside0.mk (blk_kept zq36 hkp (fun hs_ => Or.elim hs_ (fun e_ => (fun e_ => (Kd.R_ne HO_411000.out BK400.out (by decide)) e_) e_) (fun e_ => Or.elim e_ (fun e_ => (fun e_ => (Kd.R_ne HO_411001.out BK400.out (by decide)) e_) e_) (fun e_ => (fun e_ => (Kd.R_ne HO_411002.out BK400.out (by decide)) e_) e_)))); have n7_ := Aside0.mk (blk_kept zq37 hkp (fun hs_ => Or.elim hs_ (fun e_ => (fun e_ => (Kd.R_ne HO_411000.out BK410.out (by decide)) e_) e_) (fun e_ => Or.elim e_ (fun e_ => (fun e_ => (Kd.R_ne HO_411001.out BK410.out (by decide)) e_) e_) (fun e_ => (fun e_ => (Kd.R_ne HO_411002.out BK410.out (by decide)) e_) e_)))); have n8_ := Aside0.mk (blk_kept zq38 hkp (fun hs_ => Or.elim hs_ (fun e_ => (fun e_ => (Kd.R_ne HO_411000.out BK415.out (by decide)) e_) e_) (fun e_ => Or.elim e_ (fun e_ => (fun e_ => (Kd.R_ne HO_411001.out BK415.out (by decide)) e_) e_) (fun e_ => (fun e_ => (Kd.R_ne HO_411002.out BK415.out (by decide)) e_) e_)))); have n9_ := Aside0.mk (Kd.R_mono (ok' := fun k_ => some k_ ≠ (.slice Ao22 t396.length co22 : Value).ownBlock ∧ some k_ ≠ (.slice Ao28 t401.length co28 : Value).ownBlock ∧ some k_ ≠ (.slice Ao32 t404.length co32 : Value).ownBlock ∧ some k_ ≠ (.slice Ao33 t407.length co33 : Value).ownBlock ∧ some k_ ≠ (.slice Ao36 t411.length co36 : Value).ownBlock ∧ some k_ ≠ (.slice Ao68 t420.length co68 : Value).ownBlock ∧ some k_ ≠ (.slice Ao69 t423.length co69 : Value).ownBlock) (Kd.R_keptB (HO419.out) hkp (fun k_ hk_ hs_ => Or.elim hs_ (fun e_ => (hk_.1.1.1.2) e_) (fun e_ => Or.elim e_ (fun e_ => (hk_.1.1.2) e_) (fun e_ => (hk_.1.2) e_)))) (fun k_ hk_ => ⟨hk_.1.1.1.1.1.2, hk_.1.1.1.1.2, hk_.1.1.1.2, hk_.1.1.2, hk_.1.2, hk_.1.1.1.1.1.1.1, hk_.1.1.1.1.1.1.2⟩)); have n10_ := Aside0.mk (Kd.R_mono (ok' := fun k_ => some k_ ≠ (.slice Ao22 t396.length co22 : Value).ownBlock ∧ some k_ ≠ (.slice Ao28 t401.length co28 : Value).ownBlock ∧ some k_ ≠ (.slice Ao32 t404.length co32 : Value).ownBlock ∧ some k_ ≠ (.slice Ao33 t407.length co33 : Value).ownBlock ∧ some k_ ≠ (.slice Ao36 t411.length co36 : Value).ownBlock ∧ some k_ ≠ (.slice Ao67 t417.length co67 : Value).ownBlock ∧ some k_ ≠ (.slice Ao69 t423.length co69 : Value).ownBlock) (Kd.R_keptB (HO422.out) hkp (fun k_ hk_ hs_ => Or.elim hs_ (fun e_ => (hk_.1.1.1.2) e_) (fun e_ => Or.elim e_ (fun e_ => (hk_.1.1.2) e_) (fun e_ => (hk_.1.2) e_)))) (fun k_ hk_ => ⟨hk_.1.1.1.1.1.2, hk_.1.1.1.1.2, hk_.1.1.1.2, hk_.1.1.2, hk_.1.2, hk_.1.1.1.1.1.1.1, hk_.1.1.1.1.1.1.2⟩)); have n11_ := Aside0.mk (Kd.R_mono (ok' := fun k_ => some k_ ≠ (.slice Ao22 t396.length co22 : Value).ownBlock ∧ some k_ ≠ (.slice Ao28 t401.length co28 : Value).ownBlock ∧ some k_ ≠ (.slice Ao32 t404.length co32 : Value).ownBlock ∧ some k_ ≠ (.slice Ao33 t407.length co33 : Value).ownBlock ∧ some k_ ≠ (.slice Ao36 t411.length co36 : Value).ownBlock ∧ some k_ ≠ (.slice Ao67 t417.length co67 : Value).ownBlock ∧ some k_ ≠ (.slice Ao68 t420.length co68 : Value).ownBlock) (Kd.R_keptB (HO425.out) hkp (fun k_ hk_ hs_ => Or.elim hs_ (fun e_ => (hk_.1.1.1.2) e_) (fun e_ => Or.elim e_ (fun e_ => (hk_.1.1.2) e_) (fun e_ => (hk_.1.2) e_)))) (fun k_ hk_ => ⟨hk_.1.1.1.1.1.2, hk_.1.1.1.1.2, hk_.1.1.1.2, hk_.1.1.2, hk_.1.2, hk_.1.1.1.1.1.1.1, hk_.1.1.1.1.1.1.2⟩)); have n12_ := Aside0.mk (hb); clear HO_401000; clear HO_411000; clear HO_411001; clear HO_411002; clear HO_416000; clear BK385; clear BK400; clear BK410; clear BK415; clear HO419; clear HO422; clear HO425; clear HB; have HO_401000 := n0_; have HO_411000 := n1_; have HO_411001 := n2_; have HO_411002 := n3_; have HO_416000 := n4_; have BK385 := n5_; have BK400 := n6_; have BK410 := n7_; have BK415 := n8_; have HO419 := n9_; have HO422 := n10_; have HO425 := n11_; have HB := n12_; clear n0_ n1_ n2_ n3_ n4_ n5_ n6_ n7_ n8_ n9_ n10_ n11_ n12_; (try clear hb); (try clear hkp); (try clear hy0); (try clear hy1); (try clear hy2)))
    (try simp only [Act.put, List.setIfInBounds_toArray, List.set_cons_zero, List.set_cons_succ])
    go_cut [61] (fun v61 wc => ∃ (kq : Nat) (x61_63 : Bool), v61 = .bool x61_63 ∧ Aside0 (laws_FnExactGapsOfTurns.j1 kq t399 x61_63 l0_0 l0_1 l0_2 t396 t411 = some r) ∧ Aside0 (kq ≤ kj10) ∧ Aside0 (Kd.R (Kd.int .i64) 2 wc w.heap.size (fun k_ => some k_ ≠ ((.slice Ao28 t401.length co28) : Value).ownBlock ∧ some k_ ≠ ((.slice Ao32 t404.length co32) : Value).ownBlock ∧ some k_ ≠ ((.slice Ao33 t407.length co33) : Value).ownBlock ∧ some k_ ≠ ((.slice Ao36 t411.length co36) : Value).ownBlock) (.slice Ao22 t396.length co22) t396) ∧ Aside0 (Kd.R (Kd.int .i64) 2 wc w.heap.size (fun k_ => some k_ ≠ ((.slice Ao22 t396.length co22) : Value).ownBlock ∧ some k_ ≠ ((.slice Ao32 t404.length co32) : Value).ownBlock ∧ some k_ ≠ ((.slice Ao33 t407.length co33) : Value).ownBlock ∧ some k_ ≠ ((.slice Ao36 t411.length co36) : Value).ownBlock) (.slice Ao28 t401.length co28) t428) ∧ Aside0 (Kd.R (Kd.int .i64) 2 wc w.heap.size (fun k_ => some k_ ≠ ((.slice Ao22 t396.length co22) : Value).ownBlock ∧ some k_ ≠ ((.slice Ao28 t401.length co28) : Value).ownBlock ∧ some k_ ≠ ((.slice Ao33 t407.length co33) : Value).ownBlock ∧ some k_ ≠ ((.slice Ao36 t411.length co36) : Value).ownBlock) (.slice Ao32 t404.length co32) t429) ∧ Aside0 (Kd.R (Kd.int .i64) 2 wc w.heap.size (fun k_ => some k_ ≠ ((.slice Ao22 t396.length co22) : Value).ownBlock ∧ some k_ ≠ ((.slice Ao28 t401.length co28) : Value).ownBlock ∧ some k_ ≠ ((.slice Ao32 t404.length co32) : Value).ownBlock ∧ some k_ ≠ ((.slice Ao36 t411.length co36) : Value).ownBlock) (.slice Ao33 t407.length co33) t430) ∧ Aside0 (Kd.R (Kd.int .i64) 2 wc w.heap.size (fun k_ => some k_ ≠ ((.slice Ao22 t396.length co22) : Value).ownBlock ∧ some k_ ≠ ((.slice Ao28 t401.length co28) : Value).ownBlock ∧ some k_ ≠ ((.slice Ao32 t404.length co32) : Value).ownBlock ∧ some k_ ≠ ((.slice Ao33 t407.length co33) : Value).ownBlock) (.slice Ao36 t411.length co36) t411) ∧ Aside0 (wc.heap[gb385]? = some (.cells #[(.slice A0_0 l0_0.length c0_0), (.slice A0_1 l0_1.length c0_1), (.slice A0_2 l0_2.length c0_2)] 24 (0, 0))) ∧ Aside0 (wc.heap[gb400]? = some (.cells #[(.slice Ao22 t396.length co22)] 41 (0, 0))) ∧ Aside0 (wc.heap[gb410]? = some (.cells #[(.slice Ao28 t401.length co28), (.slice Ao32 t404.length co32), (.slice Ao33 t407.length co33)] 28 (0, 0))) ∧ Aside0 (wc.heap[gb415]? = some (.cells #[(.slice Ao36 t411.length co36)] 41 (0, 0))) ∧ Aside0 (Below w.heap.size w wc))
    case first =>
      have H := HC64.out
      clear HC64
      by_cases c76 : t427 < 0
      · rw [if_pos c76] at H
        have c76b0 : decide (t427 < 0) = true := decide_eq_true c76
        clear c76
        (first | rw [c76b0] | (simp only [i64_w, i32_w]; rw [c76b0]) | skip)
        have H' := Aside0.mk H
        clear H
        go_wp2
        go_meet
        case rel => exact ⟨_, (true), zq76, H', ⟨by have := HJ10.out; first | omega | exact Nat.le_refl _⟩, ⟨by (with_reducible repeat (first | apply Kd.R_alloc | apply Kd.R_drewN | apply Kd.R_drew)); exact Kd.R_mono HO_401000.out (fun _ hk => ⟨hk.1, ⟨hk.2.1, ⟨hk.2.2.1, hk.2.2.2.1⟩⟩⟩)⟩, ⟨by (with_reducible repeat (first | apply Kd.R_alloc | apply Kd.R_drewN | apply Kd.R_drew)); exact Kd.R_mono HO_411000.out (fun _ hk => ⟨hk.1.1.1.1, ⟨hk.1.1.1.2.1, ⟨hk.1.1.1.2.2.1, hk.1.1.1.2.2.2⟩⟩⟩)⟩, ⟨by (with_reducible repeat (first | apply Kd.R_alloc | apply Kd.R_drewN | apply Kd.R_drew)); exact Kd.R_mono HO_411001.out (fun _ hk => ⟨hk.1.1.1.1, ⟨hk.1.1.1.2.1, ⟨hk.1.1.1.2.2.1, hk.1.1.1.2.2.2⟩⟩⟩)⟩, ⟨by (with_reducible repeat (first | apply Kd.R_alloc | apply Kd.R_drewN | apply Kd.R_drew)); exact Kd.R_mono HO_411002.out (fun _ hk => ⟨hk.1.1.1.1, ⟨hk.1.1.1.2.1, ⟨hk.1.1.1.2.2.1, hk.1.1.1.2.2.2⟩⟩⟩)⟩, ⟨by (with_reducible repeat (first | apply Kd.R_alloc | apply Kd.R_drewN | apply Kd.R_drew)); exact Kd.R_mono HO_416000.out (fun _ hk => ⟨hk.1, ⟨hk.2.1, ⟨hk.2.2.1, hk.2.2.2.1⟩⟩⟩)⟩, ⟨by (with_reducible repeat (first | refine blk_drewN ?_ _ | refine blk_drew ?_ | refine blk_alloc ?_ _)); exact BK385.out⟩, ⟨by (with_reducible repeat (first | refine blk_drewN ?_ _ | refine blk_drew ?_ | refine blk_alloc ?_ _)); exact BK400.out⟩, ⟨by (with_reducible repeat (first | refine blk_drewN ?_ _ | refine blk_drew ?_ | refine blk_alloc ?_ _)); exact BK410.out⟩, ⟨by (with_reducible repeat (first | refine blk_drewN ?_ _ | refine blk_drew ?_ | refine blk_alloc ?_ _)); exact BK415.out⟩, ⟨by repeat (first | (with_reducible first | exact HB.out | apply below_alloc | apply pw_below_drewN | apply below_drew1 | refine below_set ?_ GE385.out | refine below_set ?_ GE400.out | refine below_set ?_ GE410.out | refine below_set ?_ GE415.out) | exact HB.out)⟩⟩
      rw [if_neg c76] at H
      have c76b0 : decide (t427 < 0) = false := decide_eq_false c76
      clear c76
      (first | rw [c76b0] | (simp only [i64_w, i32_w]; rw [c76b0]) | skip)
      replace H := Option.bind_eq_some_iff.mp H
      obtain ⟨t431, A770, H⟩ := H
      replace H : (if t431 = true then (laws_FnExactGapsOfTurns.j1 kj10 t399 (t414 != t399) l0_0 l0_1 l0_2 t396 t411) else (laws_FnExactGapsOfTurns.j1 kj10 t399 true l0_0 l0_1 l0_2 t396 t411)) = some r := H
      have A77 := Aside0.mk A770
      clear A770
      by_cases c78 : t431 = true
      · subst c78
        have H1 : (laws_FnExactGapsOfTurns.j1 kj10 t399 (t414 != t399) l0_0 l0_1 l0_2 t396 t411) = some r := by rw [if_pos rfl] at H; exact H
        clear H
        have H := H1
        clear H1
        have H' := Aside0.mk H
        clear H
        have hnb79 := NB415_385.out
        have hnc79 := NB385_415.out
        have hnb80 := NB415_400.out
        have hnc80 := NB400_415.out
        have hnb81 := NB415_410.out
        have hnc81 := NB410_415.out
        have hcz82_0 : w75.cell? ⟨gb415, 0, none⟩ = some (.slice Ao36 t411.length co36) := (blk_cell BK415.out 0).trans rfl
        have hfz82_0 := blk_frozen BK415.out 0
        have hnb83 := NB400_385.out
        have hnc83 := NB385_400.out
        have hnb84 := NB400_410.out
        have hnc84 := NB410_400.out
        have hcz85_0 : w75.cell? ⟨gb400, 0, none⟩ = some (.slice Ao22 t396.length co22) := (blk_cell BK400.out 0).trans rfl
        have hfz85_0 := blk_frozen BK400.out 0
        go_wp2_with (first | (go_at_call 33; (with_reducible refine (laws_eqTasks.calls kj10 _ _ t411 _ _ t396 true _ ?side1 ?side2 ?side3 ?side4 A77.out).mono ?_); (case side1 => repeat (first | exact (Kd.R_reads' HO_416000.out).2.2 | (with_reducible refine Kd.C_alloc ?_ _) | (with_reducible refine Kd.C_drewN ?_ _) | (with_reducible refine Kd.C_drew ?_))); (case side2 => exact (Kd.R_reads' HO_416000.out).2.1); (case side3 => repeat (first | exact (Kd.R_reads' HO_401000.out).2.2 | (with_reducible refine Kd.C_alloc ?_ _) | (with_reducible refine Kd.C_drewN ?_ _) | (with_reducible refine Kd.C_drew ?_))); (case side4 => exact (Kd.R_reads' HO_401000.out).2.1); rintro e w86 ⟨rfl, hb⟩; have n0_ := Aside0.mk (Kd.R_below zq49 hb); have n1_ := Aside0.mk (Kd.R_below zq50 hb); have n2_ := Aside0.mk (Kd.R_below zq51 hb); have n3_ := Aside0.mk (Kd.R_below zq52 hb); have n4_ := Aside0.mk (Kd.R_below zq53 hb); have n5_ := Aside0.mk (Kd.R_below (by (with_reducible repeat (first | apply Kd.R_alloc | apply Kd.R_drewN | apply Kd.R_drew)); exact HO419.out) hb); have n6_ := Aside0.mk (Kd.R_below (by (with_reducible repeat (first | apply Kd.R_alloc | apply Kd.R_drewN | apply Kd.R_drew)); exact HO422.out) hb); have n7_ := Aside0.mk (Kd.R_below (by (with_reducible repeat (first | apply Kd.R_alloc | apply Kd.R_drewN | apply Kd.R_drew)); exact HO425.out) hb); have n8_ := Aside0.mk (blk_below (g := gb385) (o := .cells #[.slice A0_0 l0_0.length c0_0, .slice A0_1 l0_1.length c0_1, .slice A0_2 l0_2.length c0_2] 24 (0, 0)) zq35 hb); have n9_ := Aside0.mk (blk_below (g := gb400) (o := .cells #[.slice Ao22 t396.length co22] 41 (0, 0)) zq36 hb); have n10_ := Aside0.mk (blk_below (g := gb410) (o := .cells #[.slice Ao28 t401.length co28, .slice Ao32 t404.length co32, .slice Ao33 t407.length co33] 28 (0, 0)) zq37 hb); have n11_ := Aside0.mk (blk_below (g := gb415) (o := .cells #[.slice Ao36 t411.length co36] 41 (0, 0)) zq38 hb); have n12_ := Aside0.mk (below_step zq16 hb); clear HO_401000; clear HO_411000; clear HO_411001; clear HO_411002; clear HO_416000; clear HO419; clear HO422; clear HO425; clear BK385; clear BK400; clear BK410; clear BK415; clear HB; have HO_401000 := n0_; have HO_411000 := n1_; have HO_411001 := n2_; have HO_411002 := n3_; have HO_416000 := n4_; have HO419 := n5_; have HO422 := n6_; have HO425 := n7_; have BK385 := n8_; have BK400 := n9_; have BK410 := n10_; have BK415 := n11_; have HB := n12_; clear n0_ n1_ n2_ n3_ n4_ n5_ n6_ n7_ n8_ n9_ n10_ n11_ n12_; (try clear hb); (try clear hb2); (try clear hk); (try clear hi)))
        go_meet
        case rel => exact ⟨_, ((t414 != t399)), zq76, H', ⟨by have := HJ10.out; first | omega | exact Nat.le_refl _⟩, ⟨by (with_reducible repeat (first | apply Kd.R_alloc | apply Kd.R_drewN | apply Kd.R_drew)); exact Kd.R_mono HO_401000.out (fun _ hk => ⟨hk.1, ⟨hk.2.1, ⟨hk.2.2.1, hk.2.2.2.1⟩⟩⟩)⟩, ⟨by (with_reducible repeat (first | apply Kd.R_alloc | apply Kd.R_drewN | apply Kd.R_drew)); exact Kd.R_mono HO_411000.out (fun _ hk => ⟨hk.1.1.1.1, ⟨hk.1.1.1.2.1, ⟨hk.1.1.1.2.2.1, hk.1.1.1.2.2.2⟩⟩⟩)⟩, ⟨by (with_reducible repeat (first | apply Kd.R_alloc | apply Kd.R_drewN | apply Kd.R_drew)); exact Kd.R_mono HO_411001.out (fun _ hk => ⟨hk.1.1.1.1, ⟨hk.1.1.1.2.1, ⟨hk.1.1.1.2.2.1, hk.1.1.1.2.2.2⟩⟩⟩)⟩, ⟨by (with_reducible repeat (first | apply Kd.R_alloc | apply Kd.R_drewN | apply Kd.R_drew)); exact Kd.R_mono HO_411002.out (fun _ hk => ⟨hk.1.1.1.1, ⟨hk.1.1.1.2.1, ⟨hk.1.1.1.2.2.1, hk.1.1.1.2.2.2⟩⟩⟩)⟩, ⟨by (with_reducible repeat (first | apply Kd.R_alloc | apply Kd.R_drewN | apply Kd.R_drew)); exact Kd.R_mono HO_416000.out (fun _ hk => ⟨hk.1, ⟨hk.2.1, ⟨hk.2.2.1, hk.2.2.2.1⟩⟩⟩)⟩, ⟨by (with_reducible repeat (first | refine blk_drewN ?_ _ | refine blk_drew ?_ | refine blk_alloc ?_ _)); exact BK385.out⟩, ⟨by (with_reducible repeat (first | refine blk_drewN ?_ _ | refine blk_drew ?_ | refine blk_alloc ?_ _)); exact BK400.out⟩, ⟨by (with_reducible repeat (first | refine blk_drewN ?_ _ | refine blk_drew ?_ | refine blk_alloc ?_ _)); exact BK410.out⟩, ⟨by (with_reducible repeat (first | refine blk_drewN ?_ _ | refine blk_drew ?_ | refine blk_alloc ?_ _)); exact BK415.out⟩, ⟨by repeat (first | (with_reducible first | exact HB.out | apply below_alloc | apply pw_below_drewN | apply below_drew1 | refine below_set ?_ GE385.out | refine below_set ?_ GE400.out | refine below_set ?_ GE410.out | refine below_set ?_ GE415.out) | exact HB.out)⟩⟩
      replace c78 := Bool.eq_false_iff.mpr c78
      subst c78
      have H1 : (laws_FnExactGapsOfTurns.j1 kj10 t399 true l0_0 l0_1 l0_2 t396 t411) = some r := by rw [if_neg (show ¬ (false = true) by decide)] at H; exact H
      clear H
      have H := H1
      clear H1
      have H' := Aside0.mk H
      clear H
      have hnb87 := NB415_385.out
      have hnc87 := NB385_415.out
      have hnb88 := NB415_400.out
      have hnc88 := NB400_415.out
      have hnb89 := NB415_410.out
      have hnc89 := NB410_415.out
      have hcz90_0 : w75.cell? ⟨gb415, 0, none⟩ = some (.slice Ao36 t411.length co36) := (blk_cell BK415.out 0).trans rfl
      have hfz90_0 := blk_frozen BK415.out 0
      have hnb91 := NB400_385.out
      have hnc91 := NB385_400.out
      have hnb92 := NB400_410.out
      have hnc92 := NB410_400.out
      have hcz93_0 : w75.cell? ⟨gb400, 0, none⟩ = some (.slice Ao22 t396.length co22) := (blk_cell BK400.out 0).trans rfl
      have hfz93_0 := blk_frozen BK400.out 0
      go_wp2_with (first | (go_at_call 33; (with_reducible refine (laws_eqTasks.calls kj10 _ _ t411 _ _ t396 false _ ?side1 ?side2 ?side3 ?side4 A77.out).mono ?_); (case side1 => repeat (first | exact (Kd.R_reads' HO_416000.out).2.2 | (with_reducible refine Kd.C_alloc ?_ _) | (with_reducible refine Kd.C_drewN ?_ _) | (with_reducible refine Kd.C_drew ?_))); (case side2 => exact (Kd.R_reads' HO_416000.out).2.1); (case side3 => repeat (first | exact (Kd.R_reads' HO_401000.out).2.2 | (with_reducible refine Kd.C_alloc ?_ _) | (with_reducible refine Kd.C_drewN ?_ _) | (with_reducible refine Kd.C_drew ?_))); (case side4 => exact (Kd.R_reads' HO_401000.out).2.1); rintro e w94 ⟨rfl, hb⟩; have n0_ := Aside0.mk (Kd.R_below zq49 hb); have n1_ := Aside0.mk (Kd.R_below zq50 hb); have n2_ := Aside0.mk (Kd.R_below zq51 hb); have n3_ := Aside0.mk (Kd.R_below zq52 hb); have n4_ := Aside0.mk (Kd.R_below zq53 hb); have n5_ := Aside0.mk (Kd.R_below (by (with_reducible repeat (first | apply Kd.R_alloc | apply Kd.R_drewN | apply Kd.R_drew)); exact HO419.out) hb); have n6_ := Aside0.mk (Kd.R_below (by (with_reducible repeat (first | apply Kd.R_alloc | apply Kd.R_drewN | apply Kd.R_drew)); exact HO422.out) hb); have n7_ := Aside0.mk (Kd.R_below (by (with_reducible repeat (first | apply Kd.R_alloc | apply Kd.R_drewN | apply Kd.R_drew)); exact HO425.out) hb); have n8_ := Aside0.mk (blk_below (g := gb385) (o := .cells #[.slice A0_0 l0_0.length c0_0, .slice A0_1 l0_1.length c0_1, .slice A0_2 l0_2.length c0_2] 24 (0, 0)) zq35 hb); have n9_ := Aside0.mk (blk_below (g := gb400) (o := .cells #[.slice Ao22 t396.length co22] 41 (0, 0)) zq36 hb); have n10_ := Aside0.mk (blk_below (g := gb410) (o := .cells #[.slice Ao28 t401.length co28, .slice Ao32 t404.length co32, .slice Ao33 t407.length co33] 28 (0, 0)) zq37 hb); have n11_ := Aside0.mk (blk_below (g := gb415) (o := .cells #[.slice Ao36 t411.length co36] 41 (0, 0)) zq38 hb); have n12_ := Aside0.mk (below_step zq16 hb); clear HO_401000; clear HO_411000; clear HO_411001; clear HO_411002; clear HO_416000; clear HO419; clear HO422; clear HO425; clear BK385; clear BK400; clear BK410; clear BK415; clear HB; have HO_401000 := n0_; have HO_411000 := n1_; have HO_411001 := n2_; have HO_411002 := n3_; have HO_416000 := n4_; have HO419 := n5_; have HO422 := n6_; have HO425 := n7_; have BK385 := n8_; have BK400 := n9_; have BK410 := n10_; have BK415 := n11_; have HB := n12_; clear n0_ n1_ n2_ n3_ n4_ n5_ n6_ n7_ n8_ n9_ n10_ n11_ n12_; (try clear hb); (try clear hb2); (try clear hk); (try clear hi)))
      go_meet
      case rel => exact ⟨_, (true), zq76, H', ⟨by have := HJ10.out; first | omega | exact Nat.le_refl _⟩, ⟨by (with_reducible repeat (first | apply Kd.R_alloc | apply Kd.R_drewN | apply Kd.R_drew)); exact Kd.R_mono HO_401000.out (fun _ hk => ⟨hk.1, ⟨hk.2.1, ⟨hk.2.2.1, hk.2.2.2.1⟩⟩⟩)⟩, ⟨by (with_reducible repeat (first | apply Kd.R_alloc | apply Kd.R_drewN | apply Kd.R_drew)); exact Kd.R_mono HO_411000.out (fun _ hk => ⟨hk.1.1.1.1, ⟨hk.1.1.1.2.1, ⟨hk.1.1.1.2.2.1, hk.1.1.1.2.2.2⟩⟩⟩)⟩, ⟨by (with_reducible repeat (first | apply Kd.R_alloc | apply Kd.R_drewN | apply Kd.R_drew)); exact Kd.R_mono HO_411001.out (fun _ hk => ⟨hk.1.1.1.1, ⟨hk.1.1.1.2.1, ⟨hk.1.1.1.2.2.1, hk.1.1.1.2.2.2⟩⟩⟩)⟩, ⟨by (with_reducible repeat (first | apply Kd.R_alloc | apply Kd.R_drewN | apply Kd.R_drew)); exact Kd.R_mono HO_411002.out (fun _ hk => ⟨hk.1.1.1.1, ⟨hk.1.1.1.2.1, ⟨hk.1.1.1.2.2.1, hk.1.1.1.2.2.2⟩⟩⟩)⟩, ⟨by (with_reducible repeat (first | apply Kd.R_alloc | apply Kd.R_drewN | apply Kd.R_drew)); exact Kd.R_mono HO_416000.out (fun _ hk => ⟨hk.1, ⟨hk.2.1, ⟨hk.2.2.1, hk.2.2.2.1⟩⟩⟩)⟩, ⟨by (with_reducible repeat (first | refine blk_drewN ?_ _ | refine blk_drew ?_ | refine blk_alloc ?_ _)); exact BK385.out⟩, ⟨by (with_reducible repeat (first | refine blk_drewN ?_ _ | refine blk_drew ?_ | refine blk_alloc ?_ _)); exact BK400.out⟩, ⟨by (with_reducible repeat (first | refine blk_drewN ?_ _ | refine blk_drew ?_ | refine blk_alloc ?_ _)); exact BK410.out⟩, ⟨by (with_reducible repeat (first | refine blk_drewN ?_ _ | refine blk_drew ?_ | refine blk_alloc ?_ _)); exact BK415.out⟩, ⟨by repeat (first | (with_reducible first | exact HB.out | apply below_alloc | apply pw_below_drewN | apply below_drew1 | refine below_set ?_ GE385.out | refine below_set ?_ GE400.out | refine below_set ?_ GE410.out | refine below_set ?_ GE415.out) | exact HB.out)⟩⟩
    clear HC64
    try clear c1
    try clear c2
    try clear p2
    try clear c3
    try clear c3b0
    try clear c4
    try clear c5
    try clear c6
    try clear c7
    try clear c8
    try clear c9
    try clear c13
    try clear c15
    try clear c19
    try clear c20
    try clear c23
    try clear c29
    try clear c30
    try clear c31
    try clear c32
    try clear c33
    try clear c37
    try clear c38
    try clear c39
    try clear c42
    try clear c43
    try clear c44
    try clear c45
    try clear c47
    try clear c48
    try clear c51
    try clear c52
    try clear c53
    try clear c55
    try clear c56
    try clear c59
    try clear c62
    try clear c71
    try clear c72
    try clear c73
    try clear c76
    try clear c76b0
    try clear c78
    try clear c79
    try clear c80
    try clear c81
    try clear c83
    try clear c84
    try clear c87
    try clear c88
    try clear c89
    try clear c91
    try clear c92
    try clear hcz13_0
    try clear hcz13_1
    try clear hcz13_2
    try clear hcz15_0
    try clear hcz15_1
    try clear hcz15_2
    try clear hcz24_0
    try clear hcz25_0
    try clear hcz25_1
    try clear hcz25_2
    try clear hcz31_0
    try clear hcz31_1
    try clear hcz31_2
    try clear hcz40_0
    try clear hcz46_0
    try clear hcz49_0
    try clear hcz54_0
    try clear hcz57_0
    try clear hcz5_0
    try clear hcz5_1
    try clear hcz5_2
    try clear hcz74_0
    try clear hcz74_1
    try clear hcz74_2
    try clear hcz82_0
    try clear hcz85_0
    try clear hcz90_0
    try clear hcz93_0
    try clear hfz13_0
    try clear hfz13_1
    try clear hfz13_2
    try clear hfz15_0
    try clear hfz15_1
    try clear hfz15_2
    try clear hfz24_0
    try clear hfz25_0
    try clear hfz25_1
    try clear hfz25_2
    try clear hfz31_0
    try clear hfz31_1
    try clear hfz31_2
    try clear hfz40_0
    try clear hfz46_0
    try clear hfz49_0
    try clear hfz54_0
    try clear hfz57_0
    try clear hfz5_0
    try clear hfz5_1
    try clear hfz5_2
    try clear hfz74_0
    try clear hfz74_1
    try clear hfz74_2
    try clear hfz82_0
    try clear hfz85_0
    try clear hfz90_0
    try clear hfz93_0
    try clear p2
    obtain ⟨kq, x61_63, rfl, HA, HJ63, HO_401000, HO_411000, HO_411001, HO_411002, HO_416000, BK385, BK400, BK410, BK415, HB⟩ := hcut
    have hl411000_63 := (Kd.R_reads' HO_411000.out).1
    rw [hl411000_63] at HO_411000
    (try simp only [hl411000_63])
    (try simp only [hl411000_63] at BK385)
    (try simp only [hl411000_63] at BK400)
    (try simp only [hl411000_63] at BK410)
    (try simp only [hl411000_63] at BK415)
    (try simp only [hl411000_63] at HO_401000)
    (try simp only [hl411000_63] at HO_411001)
    (try simp only [hl411000_63] at HO_411002)
    (try simp only [hl411000_63] at HO_416000)
    have hl411001_63 := (Kd.R_reads' HO_411001.out).1
    rw [hl411001_63] at HO_411001
    (try simp only [hl411001_63])
    (try simp only [hl411001_63] at BK385)
    (try simp only [hl411001_63] at BK400)
    (try simp only [hl411001_63] at BK410)
    (try simp only [hl411001_63] at BK415)
    (try simp only [hl411001_63] at HO_401000)
    (try simp only [hl411001_63] at HO_411000)
    (try simp only [hl411001_63] at HO_411002)
    (try simp only [hl411001_63] at HO_416000)
    have hl411002_63 := (Kd.R_reads' HO_411002.out).1
    rw [hl411002_63] at HO_411002
    (try simp only [hl411002_63])
    (try simp only [hl411002_63] at BK385)
    (try simp only [hl411002_63] at BK400)
    (try simp only [hl411002_63] at BK410)
    (try simp only [hl411002_63] at BK415)
    (try simp only [hl411002_63] at HO_401000)
    (try simp only [hl411002_63] at HO_411000)
    (try simp only [hl411002_63] at HO_411001)
    (try simp only [hl411002_63] at HO_416000)
    cases kq with
    | zero => exact absurd HA.out (by simp [laws_FnExactGapsOfTurns.j1])
    | succ kj63 =>
      have H := HA.out
      clear HA
      simp only [laws_FnExactGapsOfTurns.j1] at H
      by_cases c95 : x61_63 = true
      · subst c95
        have H1 : (some false) = some r := by rw [if_pos rfl] at H; exact H
        clear H
        have H := H1
        clear H1
        rw [hr_.out] at H
        exact absurd H (by simp)
      replace c95 := Bool.eq_false_iff.mpr c95
      subst c95
      have H1 : ((laws_markTasks.f kj63 t411 1).bind fun bt432 => ((laws_heldTasks.f kj63 bt432.2 1).bind fun t434 => (if t434 < 0 then (some false) else (if t434 = bt432.1 then ((laws_toJobs.f kj63 l0_0 l0_1 l0_2).bind fun bt435 => ((impl_GapsOfTurns.f kj63 bt435.1 bt435.2.1 bt435.2.2).bind fun bt444 => ((laws_eqTasks.f kj63 bt444.1 t396).bind fun t449 => (if t449 = true then (laws_FnExactGapsOfTurns.j2 kj63 bt432.1 (bt444.2 != t399) bt432.2) else (laws_FnExactGapsOfTurns.j2 kj63 bt432.1 true bt432.2))))) else (some false))))) = some r := by rw [if_neg (show ¬ (false = true) by decide)] at H; exact H
      clear H
      have H := H1
      clear H1
      replace H := Option.bind_eq_some_iff.mp H
      obtain ⟨⟨t432, t433⟩, A960, H⟩ := H
      replace H : ((laws_heldTasks.f kj63 t433 1).bind fun t434 => (if t434 < 0 then (some false) else (if t434 = t432 then ((laws_toJobs.f kj63 l0_0 l0_1 l0_2).bind fun bt435 => ((impl_GapsOfTurns.f kj63 bt435.1 bt435.2.1 bt435.2.2).bind fun bt444 => ((laws_eqTasks.f kj63 bt444.1 t396).bind fun t449 => (if t449 = true then (laws_FnExactGapsOfTurns.j2 kj63 t432 (bt444.2 != t399) t433) else (laws_FnExactGapsOfTurns.j2 kj63 t432 true t433))))) else (some false)))) = some r := H
      have A96 := Aside0.mk A960
      clear A960
      replace H := Option.bind_eq_some_iff.mp H
      obtain ⟨t434, A970, H⟩ := H
      replace H : (if t434 < 0 then (some false) else (if t434 = t432 then ((laws_toJobs.f kj63 l0_0 l0_1 l0_2).bind fun bt435 => ((impl_GapsOfTurns.f kj63 bt435.1 bt435.2.1 bt435.2.2).bind fun bt444 => ((laws_eqTasks.f kj63 bt444.1 t396).bind fun t449 => (if t449 = true then (laws_FnExactGapsOfTurns.j2 kj63 t432 (bt444.2 != t399) t433) else (laws_FnExactGapsOfTurns.j2 kj63 t432 true t433))))) else (some false))) = some r := H
      have A97 := Aside0.mk A970
      clear A970
      by_cases c98 : t434 < 0
      · rw [if_pos c98] at H
        have c98b0 : decide (t434 < 0) = true := decide_eq_true c98
        clear c98
        rw [hr_.out] at H
        exact absurd H (by simp)
      rw [if_neg c98] at H
      have c98b0 : decide (t434 < 0) = false := decide_eq_false c98
      clear c98
      by_cases c99 : t434 = t432
      rotate_left
      · rw [if_neg c99] at H
        have c99b0 : (t434 == t432) = false := beq_eq_false_iff_ne.mpr c99
        have c99b1 : (t434 != t432) = true := bne_iff_ne.mpr c99
        rw [hr_.out] at H
        exact absurd H (by simp)
      rw [if_pos c99] at H
      have c99b0 : (t434 == t432) = true := beq_iff_eq.mpr c99
      have c99b1 : (t434 != t432) = false := bne_eq_false_iff_eq.mpr c99
      clear c99
      replace H := Option.bind_eq_some_iff.mp H
      obtain ⟨⟨t435, t438, t441⟩, A1000, H⟩ := H
      replace H : ((impl_GapsOfTurns.f kj63 t435 t438 t441).bind fun bt444 => ((laws_eqTasks.f kj63 bt444.1 t396).bind fun t449 => (if t449 = true then (laws_FnExactGapsOfTurns.j2 kj63 t432 (bt444.2 != t399) t433) else (laws_FnExactGapsOfTurns.j2 kj63 t432 true t433)))) = some r := H
      have A100 := Aside0.mk A1000
      clear A1000
      replace H := Option.bind_eq_some_iff.mp H
      obtain ⟨⟨t444, t447⟩, A1010, H⟩ := H
      replace H : ((laws_eqTasks.f kj63 t444 t396).bind fun t449 => (if t449 = true then (laws_FnExactGapsOfTurns.j2 kj63 t432 (t447 != t399) t433) else (laws_FnExactGapsOfTurns.j2 kj63 t432 true t433))) = some r := H
      have A101 := Aside0.mk A1010
      clear A1010
      have HC102 := Aside0.mk H
      clear H
      have hnb103 := NB415_385.out
      have hnc103 := NB385_415.out
      have hnb104 := NB415_400.out
      have hnc104 := NB400_415.out
      have hnb105 := NB415_410.out
      have hnc105 := NB410_415.out
      have hcz106_0 : wc.cell? ⟨gb415, 0, none⟩ = some (.slice Ao36 t411.length co36) := (blk_cell BK415.out 0).trans rfl
      have hfz106_0 := blk_frozen BK415.out 0
      go_upto_region 25 with (first | ((with_reducible refine gate_callee (f := 34) rfl ?_); refine goesL_ (some 64) rfl rfl Try.func34 (by kernel_rfl) rfl #[.agg #[.slice Ao36 t411.length co36], .int .i64 1] rfl zq19 ?_; (with_reducible refine (laws_markTasks.calls kj63 (fun k_ => some k_ = (.slice Ao36 t411.length co36 : Value).ownBlock) (.slice Ao36 t411.length co36) t411 1 t432 t433 w _ ?side1 ?side2 A96.out).mono ?_); (case side1 => repeat (first | (with_reducible first | exact HB.out | apply below_alloc | apply pw_below_drewN | apply below_drew1 | refine below_set ?_ GE385.out | refine below_set ?_ GE400.out | refine below_set ?_ GE410.out | refine below_set ?_ GE415.out) | exact HB.out)); (case side2 => exact Kd.R_tight rfl HO_416000.out); rintro e w107 ⟨rfl, hy0, hb, hkp⟩; refine ⟨_, rfl, ?_⟩; have n0_ := Aside0.mk (Kd.R_mono (ok' := fun k_ => some k_ ≠ (.slice Ao28 t428.length co28 : Value).ownBlock ∧ some k_ ≠ (.slice Ao32 t429.length co32 : Value).ownBlock ∧ some k_ ≠ (.slice Ao33 t430.length co33 : Value).ownBlock ∧ some k_ ≠ (.slice Ao36 t411.length co36 : Value).ownBlock) (Kd.R_keptB (HO_401000.out) hkp (fun k_ hk_ hs_ => (hk_.2.2.2) hs_)) (fun k_ hk_ => ⟨hk_.1.1, hk_.1.2.1, hk_.1.2.2.1, hk_.1.2.2.2⟩)); have n1_ := Aside0.mk (Kd.R_mono (ok' := fun k_ => some k_ ≠ (.slice Ao22 t396.length co22 : Value).ownBlock ∧ some k_ ≠ (.slice Ao32 t429.length co32 : Value).ownBlock ∧ some k_ ≠ (.slice Ao33 t430.length co33 : Value).ownBlock ∧ some k_ ≠ (.slice Ao36 t411.length co36 : Value).ownBlock) (Kd.R_keptB (HO_411000.out) hkp (fun k_ hk_ hs_ => (hk_.2.2.2) hs_)) (fun k_ hk_ => ⟨hk_.1.1, hk_.1.2.1, hk_.1.2.2.1, hk_.1.2.2.2⟩)); have n2_ := Aside0.mk (Kd.R_mono (ok' := fun k_ => some k_ ≠ (.slice Ao22 t396.length co22 : Value).ownBlock ∧ some k_ ≠ (.slice Ao28 t428.length co28 : Value).ownBlock ∧ some k_ ≠ (.slice Ao33 t430.length co33 : Value).ownBlock ∧ some k_ ≠ (.slice Ao36 t411.length co36 : Value).ownBlock) (Kd.R_keptB (HO_411001.out) hkp (fun k_ hk_ hs_ => (hk_.2.2.2) hs_)) (fun k_ hk_ => ⟨hk_.1.1, hk_.1.2.1, hk_.1.2.2.1, hk_.1.2.2.2⟩)); have n3_ := Aside0.mk (Kd.R_mono (ok' := fun k_ => some k_ ≠ (.slice Ao22 t396.length co22 : Value).ownBlock ∧ some k_ ≠ (.slice Ao28 t428.length co28 : Value).ownBlock ∧ some k_ ≠ (.slice Ao32 t429.length co32 : Value).ownBlock ∧ some k_ ≠ (.slice Ao36 t411.length co36 : Value).ownBlock) (Kd.R_keptB (HO_411002.out) hkp (fun k_ hk_ hs_ => (hk_.2.2.2) hs_)) (fun k_ hk_ => ⟨hk_.1.1, hk_.1.2.1, hk_.1.2.2.1, hk_.1.2.2.2⟩)); have n4_ := Aside0.mk (Kd.R_reok rfl hy0 (fun k_ e_ => HO_416000.out.1 k_ e_)); have n5_ := Aside0.mk (blk_kept zq35 hkp (fun hs_ => (fun e_ => (Kd.R_ne HO_416000.out BK385.out (by decide)) e_) hs_)); have n6_ := Aside0.mk (blk_kept zq36 hkp (fun hs_ => (fun e_ => (Kd.R_ne HO_416000.out BK400.out (by decide)) e_) hs_)); have n7_ := Aside0.mk (blk_kept zq37 hkp (fun hs_ => (fun e_ => (Kd.R_ne HO_416000.out BK410.out (by decide)) e_) hs_)); have n8_ := Aside0.mk (blk_kept zq38 hkp (fun hs_ => (fun e_ => (Kd.R_ne HO_416000.out BK415.out (by decide)) e_) hs_)); have n9_ := Aside0.mk (hb); clear HO_401000; clear HO_411000; clear HO_411001; clear HO_411002; clear HO_416000; clear BK385; clear BK400; clear BK410; clear BK415; clear HB; have HO_401000 := n0_; have HO_411000 := n1_; have HO_411001 := n2_; have HO_411002 := n3_; have HO_416000 := n4_; have BK385 := n5_; have BK400 := n6_; have BK410 := n7_; have BK415 := n8_; have HB := n9_; clear n0_ n1_ n2_ n3_ n4_ n5_ n6_ n7_ n8_ n9_; (try clear hb); (try clear hkp); (try clear hy0); have hcz108_0 : w107.cell? ⟨gb415, 0, none⟩ = some (.slice Ao36 t411.length co36) := (blk_cell BK415.out 0).trans rfl; have hfz108_0 := blk_frozen BK415.out 0) | ((with_reducible refine gate_callee (f := 35) rfl ?_); refine goesL_ (some 67) rfl rfl Try.func35 (by kernel_rfl) rfl #[.agg #[.slice Ao36 t433.length co36], .int .i64 1] rfl (by (try simp only [List.map_toArray, List.map_cons, List.map_nil]); first | done | (rw [show t433.length = t411.length from (Kd.R_reads' HO_416000.out).1.symm] <;> rfl) | rfl | (simp only [List.length_drop, List.length_take]; rfl)) ?_; (with_reducible refine (laws_heldTasks.calls kj63 _ _ t433 1 t434 _ ?side1 ?side2 A97.out).mono ?_); (case side1 => repeat (first | exact (Kd.R_reads' HO_416000.out).2.2 | (with_reducible refine Kd.C_alloc ?_ _) | (with_reducible refine Kd.C_drewN ?_ _) | (with_reducible refine Kd.C_drew ?_))); (case side2 => rw [show t433.length = t411.length from (Kd.R_reads' HO_416000.out).1.symm]; exact (Kd.R_reads' HO_416000.out).2.1); rintro e w109 ⟨rfl, hb⟩; refine ⟨_, rfl, ?_⟩; have n0_ := Aside0.mk (Kd.R_below zq49 hb); have n1_ := Aside0.mk (Kd.R_below zq50 hb); have n2_ := Aside0.mk (Kd.R_below zq51 hb); have n3_ := Aside0.mk (Kd.R_below zq52 hb); have n4_ := Aside0.mk (Kd.R_below zq53 hb); have n5_ := Aside0.mk (blk_below (g := gb385) (o := .cells #[.slice A0_0 l0_0.length c0_0, .slice A0_1 l0_1.length c0_1, .slice A0_2 l0_2.length c0_2] 24 (0, 0)) zq35 hb); have n6_ := Aside0.mk (blk_below (g := gb400) (o := .cells #[.slice Ao22 t396.length co22] 41 (0, 0)) zq36 hb); have n7_ := Aside0.mk (blk_below (g := gb410) (o := .cells #[.slice Ao28 t428.length co28, .slice Ao32 t429.length co32, .slice Ao33 t430.length co33] 28 (0, 0)) zq37 hb); have n8_ := Aside0.mk (blk_below (g := gb415) (o := .cells #[.slice Ao36 t411.length co36] 41 (0, 0)) zq38 hb); have n9_ := Aside0.mk (below_step zq16 hb); clear HO_401000; clear HO_411000; clear HO_411001; clear HO_411002; clear HO_416000; clear BK385; clear BK400; clear BK410; clear BK415; clear HB; have HO_401000 := n0_; have HO_411000 := n1_; have HO_411001 := n2_; have HO_411002 := n3_; have HO_416000 := n4_; have BK385 := n5_; have BK400 := n6_; have BK410 := n7_; have BK415 := n8_; have HB := n9_; clear n0_ n1_ n2_ n3_ n4_ n5_ n6_ n7_ n8_ n9_; (try clear hb); (try clear hb2); (try clear hk); (try clear hi); have hnb110 := NB385_400.out; have hnc110 := NB400_385.out; have hnb111 := NB385_410.out; have hnc111 := NB410_385.out; have hcz112_0 : w109.cell? ⟨gb385, 0, none⟩ = some (.slice A0_0 l0_0.length c0_0) := (blk_cell BK385.out 0).trans rfl; have hcz112_1 : w109.cell? ⟨gb385, 1, none⟩ = some (.slice A0_1 l0_1.length c0_1) := (blk_cell BK385.out 1).trans rfl; have hcz112_2 : w109.cell? ⟨gb385, 2, none⟩ = some (.slice A0_2 l0_2.length c0_2) := (blk_cell BK385.out 2).trans rfl; have hfz112_0 := blk_frozen BK385.out 0; have hfz112_1 := blk_frozen BK385.out 1; have hfz112_2 := blk_frozen BK385.out 2) | ((with_reducible refine gate_callee (f := 15) rfl ?_); refine goesL_ (some 75) rfl rfl Try.func15 (by kernel_rfl) rfl #[.agg #[.slice A0_0 l0_0.length c0_0, .slice A0_1 l0_1.length c0_1, .slice A0_2 l0_2.length c0_2]] rfl zq19 ?_; (with_reducible refine (laws_toJobs.calls kj63 _ _ l0_0 _ _ l0_1 _ _ l0_2 t435 t438 t441 _ ?side1 ?side2 ?side3 ?side4 ?side5 ?side6 A100.out).mono ?_); (case side1 => repeat (first | exact (Kd.C_below HR0_0.out HB.out) | (with_reducible refine Kd.C_alloc ?_ _) | (with_reducible refine Kd.C_drewN ?_ _) | (with_reducible refine Kd.C_drew ?_))); (case side2 => exact HC0_0.out); (case side3 => repeat (first | exact (Kd.C_below HR0_1.out HB.out) | (with_reducible refine Kd.C_alloc ?_ _) | (with_reducible refine Kd.C_drewN ?_ _) | (with_reducible refine Kd.C_drew ?_))); (case side4 => exact HC0_1.out); (case side5 => repeat (first | exact (Kd.C_below HR0_2.out HB.out) | (with_reducible refine Kd.C_alloc ?_ _) | (with_reducible refine Kd.C_drewN ?_ _) | (with_reducible refine Kd.C_drew ?_))); (case side6 => exact HC0_2.out); rintro e w113 ⟨v436, v439, v442, rfl, ho0, ho1, ho2, hb⟩; refine ⟨_, rfl, ?_⟩; have n0_ := Aside0.mk (Kd.R_mono (Kd.R_told (Kd.R_told (Kd.R_told (Kd.R_old zq49 hb) (Kd.R_base ho0)) (Kd.R_base ho1)) (Kd.R_base ho2)) (fun _ h_ => h_.1)); have n1_ := Aside0.mk (Kd.R_mono (Kd.R_told (Kd.R_told (Kd.R_told (Kd.R_old zq50 hb) (Kd.R_base ho0)) (Kd.R_base ho1)) (Kd.R_base ho2)) (fun _ h_ => h_.1)); have n2_ := Aside0.mk (Kd.R_mono (Kd.R_told (Kd.R_told (Kd.R_told (Kd.R_old zq51 hb) (Kd.R_base ho0)) (Kd.R_base ho1)) (Kd.R_base ho2)) (fun _ h_ => h_.1)); have n3_ := Aside0.mk (Kd.R_mono (Kd.R_told (Kd.R_told (Kd.R_told (Kd.R_old zq52 hb) (Kd.R_base ho0)) (Kd.R_base ho1)) (Kd.R_base ho2)) (fun _ h_ => h_.1)); have n4_ := Aside0.mk (Kd.R_mono (Kd.R_told (Kd.R_told (Kd.R_told (Kd.R_old zq53 hb) (Kd.R_base ho0)) (Kd.R_base ho1)) (Kd.R_base ho2)) (fun _ h_ => h_.1)); have n5_ := Aside0.mk (Kd.R_lower (Kd.R_new' (Kd.R_new' (Kd.R_new' (Kd.R_new' (Kd.R_new' ho0 (Kd.R_lt zq49)) (Kd.R_lt zq50)) (Kd.R_lt zq51)) (Kd.R_lt zq52)) (Kd.R_lt zq53)) (below_size zq16)); have n6_ := Aside0.mk (Kd.R_lower (Kd.R_new' (Kd.R_new' (Kd.R_new' (Kd.R_new' (Kd.R_new' ho1 (Kd.R_lt zq49)) (Kd.R_lt zq50)) (Kd.R_lt zq51)) (Kd.R_lt zq52)) (Kd.R_lt zq53)) (below_size zq16)); have n7_ := Aside0.mk (Kd.R_lower (Kd.R_new' (Kd.R_new' (Kd.R_new' (Kd.R_new' (Kd.R_new' ho2 (Kd.R_lt zq49)) (Kd.R_lt zq50)) (Kd.R_lt zq51)) (Kd.R_lt zq52)) (Kd.R_lt zq53)) (below_size zq16)); have n8_ := Aside0.mk (blk_below (g := gb385) (o := .cells #[.slice A0_0 l0_0.length c0_0, .slice A0_1 l0_1.length c0_1, .slice A0_2 l0_2.length c0_2] 24 (0, 0)) zq35 hb); have n9_ := Aside0.mk (blk_below (g := gb400) (o := .cells #[.slice Ao22 t396.length co22] 41 (0, 0)) zq36 hb); have n10_ := Aside0.mk (blk_below (g := gb410) (o := .cells #[.slice Ao28 t428.length co28, .slice Ao32 t429.length co32, .slice Ao33 t430.length co33] 28 (0, 0)) zq37 hb); have n11_ := Aside0.mk (blk_below (g := gb415) (o := .cells #[.slice Ao36 t411.length co36] 41 (0, 0)) zq38 hb); have n12_ := Aside0.mk (below_step zq16 hb); clear HO_401000; clear HO_411000; clear HO_411001; clear HO_411002; clear HO_416000; clear BK385; clear BK400; clear BK410; clear BK415; clear HB; have HO_401000 := n0_; have HO_411000 := n1_; have HO_411001 := n2_; have HO_411002 := n3_; have HO_416000 := n4_; have HO437 := n5_; have HO440 := n6_; have HO443 := n7_; have BK385 := n8_; have BK400 := n9_; have BK410 := n10_; have BK415 := n11_; have HB := n12_; clear n0_ n1_ n2_ n3_ n4_ n5_ n6_ n7_ n8_ n9_ n10_ n11_ n12_; (try clear hb); (try clear hb2); (try clear hk); (try clear hi); (try clear ho0); (try clear ho1); (try clear ho2); obtain ⟨Ao114, co114, eo114⟩ := Kd.R_slice HO437.out; subst eo114; obtain ⟨Ao115, co115, eo115⟩ := Kd.R_slice HO440.out; subst eo115; obtain ⟨Ao116, co116, eo116⟩ := Kd.R_slice HO443.out; subst eo116) | ((with_reducible refine gate_callee (f := 32) rfl ?_); refine goesL_ (some 76) rfl rfl Try.func32 (by kernel_rfl) rfl #[.agg #[.slice Ao114 t435.length co114, .slice Ao115 t438.length co115, .slice Ao116 t441.length co116]] rfl zq19 ?_; (with_reducible refine (impl_GapsOfTurns.calls kj63 _ _ t435 _ _ t438 _ _ t441 t444 t447 _ ?side1 ?side2 ?side3 ?side4 ?side5 ?side6 A101.out).mono ?_); (case side1 => repeat (first | exact (Kd.R_reads' HO437.out).2.2 | (with_reducible refine Kd.C_alloc ?_ _) | (with_reducible refine Kd.C_drewN ?_ _) | (with_reducible refine Kd.C_drew ?_))); (case side2 => exact (Kd.R_reads' HO437.out).2.1); (case side3 => repeat (first | exact (Kd.R_reads' HO440.out).2.2 | (with_reducible refine Kd.C_alloc ?_ _) | (with_reducible refine Kd.C_drewN ?_ _) | (with_reducible refine Kd.C_drew ?_))); (case side4 => exact (Kd.R_reads' HO440.out).2.1); (case side5 => repeat (first | exact (Kd.R_reads' HO443.out).2.2 | (with_reducible refine Kd.C_alloc ?_ _) | (with_reducible refine Kd.C_drewN ?_ _) | (with_reducible refine Kd.C_drew ?_))); (case side6 => exact (Kd.R_reads' HO443.out).2.1); rintro e w117 ⟨v445, rfl, ho0, hb⟩; refine ⟨_, rfl, ?_⟩; have n0_ := Aside0.mk (Kd.R_elder' zq49 (Kd.R_base ho0) hb); have n1_ := Aside0.mk (Kd.R_elder' zq50 (Kd.R_base ho0) hb); have n2_ := Aside0.mk (Kd.R_elder' zq51 (Kd.R_base ho0) hb); have n3_ := Aside0.mk (Kd.R_elder' zq52 (Kd.R_base ho0) hb); have n4_ := Aside0.mk (Kd.R_elder' zq53 (Kd.R_base ho0) hb); have n5_ := Aside0.mk (Kd.R_elder' (by (with_reducible repeat (first | apply Kd.R_alloc | apply Kd.R_drewN | apply Kd.R_drew)); exact HO437.out) (Kd.R_base ho0) hb); have n6_ := Aside0.mk (Kd.R_elder' (by (with_reducible repeat (first | apply Kd.R_alloc | apply Kd.R_drewN | apply Kd.R_drew)); exact HO440.out) (Kd.R_base ho0) hb); have n7_ := Aside0.mk (Kd.R_elder' (by (with_reducible repeat (first | apply Kd.R_alloc | apply Kd.R_drewN | apply Kd.R_drew)); exact HO443.out) (Kd.R_base ho0) hb); have n8_ := Aside0.mk (Kd.R_lower (Kd.R_new' (Kd.R_new' (Kd.R_new' (Kd.R_new' (Kd.R_new' (Kd.R_new' (Kd.R_new' (Kd.R_new' ho0 (Kd.R_lt zq49)) (Kd.R_lt zq50)) (Kd.R_lt zq51)) (Kd.R_lt zq52)) (Kd.R_lt zq53)) (Kd.R_lt (by (with_reducible repeat (first | apply Kd.R_alloc | apply Kd.R_drewN | apply Kd.R_drew)); exact HO437.out))) (Kd.R_lt (by (with_reducible repeat (first | apply Kd.R_alloc | apply Kd.R_drewN | apply Kd.R_drew)); exact HO440.out))) (Kd.R_lt (by (with_reducible repeat (first | apply Kd.R_alloc | apply Kd.R_drewN | apply Kd.R_drew)); exact HO443.out))) (below_size zq16)); have n9_ := Aside0.mk (blk_below (g := gb385) (o := .cells #[.slice A0_0 l0_0.length c0_0, .slice A0_1 l0_1.length c0_1, .slice A0_2 l0_2.length c0_2] 24 (0, 0)) zq35 hb); have n10_ := Aside0.mk (blk_below (g := gb400) (o := .cells #[.slice Ao22 t396.length co22] 41 (0, 0)) zq36 hb); have n11_ := Aside0.mk (blk_below (g := gb410) (o := .cells #[.slice Ao28 t428.length co28, .slice Ao32 t429.length co32, .slice Ao33 t430.length co33] 28 (0, 0)) zq37 hb); have n12_ := Aside0.mk (blk_below (g := gb415) (o := .cells #[.slice Ao36 t411.length co36] 41 (0, 0)) zq38 hb); have n13_ := Aside0.mk (below_step zq16 hb); clear HO_401000; clear HO_411000; clear HO_411001; clear HO_411002; clear HO_416000; clear HO437; clear HO440; clear HO443; clear BK385; clear BK400; clear BK410; clear BK415; clear HB; have HO_401000 := n0_; have HO_411000 := n1_; have HO_411001 := n2_; have HO_411002 := n3_; have HO_416000 := n4_; have HO437 := n5_; have HO440 := n6_; have HO443 := n7_; have HO446 := n8_; have BK385 := n9_; have BK400 := n10_; have BK410 := n11_; have BK415 := n12_; have HB := n13_; clear n0_ n1_ n2_ n3_ n4_ n5_ n6_ n7_ n8_ n9_ n10_ n11_ n12_ n13_; (try clear hb); (try clear hb2); (try clear hk); (try clear hi); (try clear ho0)) | ((with_reducible refine gate_dst (N := 12) rfl ?_); refine box_event ?hg (N := 12) ?hd (cs := #[.slice none 0 0]) (t := 41) ?hr ?_; (case hd => rfl); (case hg => rfl); (case hr => first | (go_simp; done) | (go_simp; rfl)); intro gb448 hg w118 hbox hb; have n0_ := Aside0.mk (Kd.R_below zq49 hb); have n1_ := Aside0.mk (Kd.R_below zq50 hb); have n2_ := Aside0.mk (Kd.R_below zq51 hb); have n3_ := Aside0.mk (Kd.R_below zq52 hb); have n4_ := Aside0.mk (Kd.R_below zq53 hb); have n5_ := Aside0.mk (Kd.R_below (by (with_reducible repeat (first | apply Kd.R_alloc | apply Kd.R_drewN | apply Kd.R_drew)); exact HO437.out) hb); have n6_ := Aside0.mk (Kd.R_below (by (with_reducible repeat (first | apply Kd.R_alloc | apply Kd.R_drewN | apply Kd.R_drew)); exact HO440.out) hb); have n7_ := Aside0.mk (Kd.R_below (by (with_reducible repeat (first | apply Kd.R_alloc | apply Kd.R_drewN | apply Kd.R_drew)); exact HO443.out) hb); have n8_ := Aside0.mk (Kd.R_below (by (with_reducible repeat (first | apply Kd.R_alloc | apply Kd.R_drewN | apply Kd.R_drew)); exact HO446.out) hb); have n9_ := Aside0.mk (blk_below (g := gb385) (o := .cells #[.slice A0_0 l0_0.length c0_0, .slice A0_1 l0_1.length c0_1, .slice A0_2 l0_2.length c0_2] 24 (0, 0)) zq35 hb); have n10_ := Aside0.mk (blk_below (g := gb400) (o := .cells #[.slice Ao22 t396.length co22] 41 (0, 0)) zq36 hb); have n11_ := Aside0.mk (blk_below (g := gb410) (o := .cells #[.slice Ao28 t428.length co28, .slice Ao32 t429.length co32, .slice Ao33 t430.length co33] 28 (0, 0)) zq37 hb); have n12_ := Aside0.mk (blk_below (g := gb415) (o := .cells #[.slice Ao36 t411.length co36] 41 (0, 0)) zq38 hb); have n13_ := Aside0.mk (below_step zq16 hb); have n14_ := Aside0.mk (hbox); have n15_ := Aside0.mk ((by rw [hg]; exact (below_size zq16) : w.heap.size ≤ gb448)); have n16_ := Aside0.mk ((by rw [hg]; exact (below_size zq16) : w.heap.size ≤ gb448)); have n17_ := Aside0.mk ((by rw [hg]; exact Nat.ne_of_lt (blk_lt (g := gb385) (o := .cells #[.slice A0_0 l0_0.length c0_0, .slice A0_1 l0_1.length c0_1, .slice A0_2 l0_2.length c0_2] 24 (0, 0)) zq35) : gb385 ≠ gb448)); have n18_ := Aside0.mk ((by rw [hg]; exact Nat.ne_of_gt (blk_lt (g := gb385) (o := .cells #[.slice A0_0 l0_0.length c0_0, .slice A0_1 l0_1.length c0_1, .slice A0_2 l0_2.length c0_2] 24 (0, 0)) zq35) : gb448 ≠ gb385)); have n19_ := Aside0.mk ((by rw [hg]; exact Nat.ne_of_lt (blk_lt (g := gb400) (o := .cells #[.slice Ao22 t396.length co22] 41 (0, 0)) zq36) : gb400 ≠ gb448)); have n20_ := Aside0.mk ((by rw [hg]; exact Nat.ne_of_gt (blk_lt (g := gb400) (o := .cells #[.slice Ao22 t396.length co22] 41 (0, 0)) zq36) : gb448 ≠ gb400)); have n21_ := Aside0.mk ((by rw [hg]; exact Nat.ne_of_lt (blk_lt (g := gb410) (o := .cells #[.slice Ao28 t428.length co28, .slice Ao32 t429.length co32, .slice Ao33 t430.length co33] 28 (0, 0)) zq37) : gb410 ≠ gb448)); have n22_ := Aside0.mk ((by rw [hg]; exact Nat.ne_of_gt (blk_lt (g := gb410) (o := .cells #[.slice Ao28 t428.length co28, .slice Ao32 t429.length co32, .slice Ao33 t430.length co33] 28 (0, 0)) zq37) : gb448 ≠ gb410)); have n23_ := Aside0.mk ((by rw [hg]; exact Nat.ne_of_lt (blk_lt (g := gb415) (o := .cells #[.slice Ao36 t411.length co36] 41 (0, 0)) zq38) : gb415 ≠ gb448)); have n24_ := Aside0.mk ((by rw [hg]; exact Nat.ne_of_gt (blk_lt (g := gb415) (o := .cells #[.slice Ao36 t411.length co36] 41 (0, 0)) zq38) : gb448 ≠ gb415)); clear HO_401000; clear HO_411000; clear HO_411001; clear HO_411002; clear HO_416000; clear HO437; clear HO440; clear HO443; clear HO446; clear BK385; clear BK400; clear BK410; clear BK415; clear HB; have HO_401000 := n0_; have HO_411000 := n1_; have HO_411001 := n2_; have HO_411002 := n3_; have HO_416000 := n4_; have HO437 := n5_; have HO440 := n6_; have HO443 := n7_; have HO446 := n8_; have BK385 := n9_; have BK400 := n10_; have BK410 := n11_; have BK415 := n12_; have HB := n13_; have BK448 := n14_; have GW448 := n15_; have GE448 := n16_; have NB385_448 := n17_; have NB448_385 := n18_; have NB400_448 := n19_; have NB448_400 := n20_; have NB410_448 := n21_; have NB448_410 := n22_; have NB415_448 := n23_; have NB448_415 := n24_; clear n0_ n1_ n2_ n3_ n4_ n5_ n6_ n7_ n8_ n9_ n10_ n11_ n12_ n13_ n14_ n15_ n16_ n17_ n18_ n19_ n20_ n21_ n22_ n23_ n24_; clear hb hbox hg; obtain ⟨Ao119, co119, eo119⟩ := Kd.R_slice HO446.out; subst eo119; have hnb120 := NB448_385.out; have hnc120 := NB385_448.out; have hnb121 := NB448_400.out; have hnc121 := NB400_448.out; have hnb122 := NB448_410.out; have hnc122 := NB410_448.out; have hnb123 := NB448_415.out; have hnc123 := NB415_448.out; have hcz124_0 : w118.cell? ⟨gb448, 0, none⟩ = some (.slice none 0 0) := (blk_cell BK448.out 0).trans rfl; have hfz124_0 := blk_frozen BK448.out 0))
      (try simp only [Act.put, List.setIfInBounds_toArray, List.set_cons_zero, List.set_cons_succ])
      go_cut [87] (fun v87 wc => ∃ (kq : Nat) (x87_101 : Bool), v87 = .bool x87_101 ∧ Aside0 (laws_FnExactGapsOfTurns.j2 kq t432 x87_101 t433 = some r) ∧ Aside0 (kq ≤ kj63) ∧ Aside0 (Kd.R (Kd.int .i64) 2 wc w.heap.size (fun k_ => some k_ ≠ ((.slice Ao28 t428.length co28) : Value).ownBlock ∧ some k_ ≠ ((.slice Ao32 t429.length co32) : Value).ownBlock ∧ some k_ ≠ ((.slice Ao33 t430.length co33) : Value).ownBlock ∧ some k_ ≠ ((.slice Ao36 t411.length co36) : Value).ownBlock ∧ some k_ ≠ ((.slice Ao119 t444.length co119) : Value).ownBlock) (.slice Ao22 t396.length co22) t396) ∧ Aside0 (Kd.R (Kd.int .i64) 2 wc w.heap.size (fun k_ => some k_ ≠ ((.slice Ao22 t396.length co22) : Value).ownBlock ∧ some k_ ≠ ((.slice Ao32 t429.length co32) : Value).ownBlock ∧ some k_ ≠ ((.slice Ao33 t430.length co33) : Value).ownBlock ∧ some k_ ≠ ((.slice Ao36 t411.length co36) : Value).ownBlock ∧ some k_ ≠ ((.slice Ao119 t444.length co119) : Value).ownBlock) (.slice Ao28 t428.length co28) t428) ∧ Aside0 (Kd.R (Kd.int .i64) 2 wc w.heap.size (fun k_ => some k_ ≠ ((.slice Ao22 t396.length co22) : Value).ownBlock ∧ some k_ ≠ ((.slice Ao28 t428.length co28) : Value).ownBlock ∧ some k_ ≠ ((.slice Ao33 t430.length co33) : Value).ownBlock ∧ some k_ ≠ ((.slice Ao36 t411.length co36) : Value).ownBlock ∧ some k_ ≠ ((.slice Ao119 t444.length co119) : Value).ownBlock) (.slice Ao32 t429.length co32) t429) ∧ Aside0 (Kd.R (Kd.int .i64) 2 wc w.heap.size (fun k_ => some k_ ≠ ((.slice Ao22 t396.length co22) : Value).ownBlock ∧ some k_ ≠ ((.slice Ao28 t428.length co28) : Value).ownBlock ∧ some k_ ≠ ((.slice Ao32 t429.length co32) : Value).ownBlock ∧ some k_ ≠ ((.slice Ao36 t411.length co36) : Value).ownBlock ∧ some k_ ≠ ((.slice Ao119 t444.length co119) : Value).ownBlock) (.slice Ao33 t430.length co33) t430) ∧ Aside0 (Kd.R (Kd.int .i64) 2 wc w.heap.size (fun k_ => some k_ ≠ ((.slice Ao22 t396.length co22) : Value).ownBlock ∧ some k_ ≠ ((.slice Ao28 t428.length co28) : Value).ownBlock ∧ some k_ ≠ ((.slice Ao32 t429.length co32) : Value).ownBlock ∧ some k_ ≠ ((.slice Ao33 t430.length co33) : Value).ownBlock ∧ some k_ ≠ ((.slice Ao119 t444.length co119) : Value).ownBlock) (.slice Ao36 t411.length co36) t433) ∧ Aside0 (Kd.R (Kd.int .i64) 2 wc w.heap.size (fun k_ => some k_ ≠ ((.slice Ao22 t396.length co22) : Value).ownBlock ∧ some k_ ≠ ((.slice Ao28 t428.length co28) : Value).ownBlock ∧ some k_ ≠ ((.slice Ao32 t429.length co32) : Value).ownBlock ∧ some k_ ≠ ((.slice Ao33 t430.length co33) : Value).ownBlock ∧ some k_ ≠ ((.slice Ao36 t411.length co36) : Value).ownBlock) (.slice Ao119 t444.length co119) t444) ∧ Aside0 (wc.heap[gb385]? = some (.cells #[(.slice A0_0 l0_0.length c0_0), (.slice A0_1 l0_1.length c0_1), (.slice A0_2 l0_2.length c0_2)] 24 (0, 0))) ∧ Aside0 (wc.heap[gb400]? = some (.cells #[(.slice Ao22 t396.length co22)] 41 (0, 0))) ∧ Aside0 (wc.heap[gb410]? = some (.cells #[(.slice Ao28 t428.length co28), (.slice Ao32 t429.length co32), (.slice Ao33 t430.length co33)] 28 (0, 0))) ∧ Aside0 (wc.heap[gb415]? = some (.cells #[(.slice Ao36 t411.length co36)] 41 (0, 0))) ∧ Aside0 (wc.heap[gb448]? = some (.cells #[(.slice Ao119 t444.length co119)] 41 (0, 0))) ∧ Aside0 (Below w.heap.size w wc))
      case first =>
        have H := HC102.out
        clear HC102
        replace H := Option.bind_eq_some_iff.mp H
        obtain ⟨t449, A1250, H⟩ := H
        replace H : (if t449 = true then (laws_FnExactGapsOfTurns.j2 kj63 t432 (t447 != t399) t433) else (laws_FnExactGapsOfTurns.j2 kj63 t432 true t433)) = some r := H
        have A125 := Aside0.mk A1250
        clear A1250
        by_cases c126 : t449 = true
        · subst c126
          have H1 : (laws_FnExactGapsOfTurns.j2 kj63 t432 (t447 != t399) t433) = some r := by rw [if_pos rfl] at H; exact H
          clear H
          have H := H1
          clear H1
          have H' := Aside0.mk H
          clear H
          have hnb127 := NB448_385.out
          have hnc127 := NB385_448.out
          have hnb128 := NB448_400.out
          have hnc128 := NB400_448.out
          have hnb129 := NB448_410.out
          have hnc129 := NB410_448.out
          have hnb130 := NB448_415.out
          have hnc130 := NB415_448.out
          have hcz131_0 : w118.cell? ⟨gb448, 0, none⟩ = some (.slice none 0 0) := (blk_cell BK448.out 0).trans rfl
          have hfz131_0 := blk_frozen BK448.out 0
          have hnb132 := NB400_385.out
          have hnc132 := NB385_400.out
          have hnb133 := NB400_410.out
          have hnc133 := NB410_400.out
          have hnb134 := NB400_415.out
          have hnc134 := NB415_400.out
          have hcz135_0 : w118.cell? ⟨gb400, 0, none⟩ = some (.slice Ao22 t396.length co22) := (blk_cell BK400.out 0).trans rfl
          have hfz135_0 := blk_frozen BK400.out 0
          go_wp2_with (first | ((with_reducible refine gate_callee (f := 33) rfl ?_); refine goesL_ (some 81) rfl rfl Try.func33 (by kernel_rfl) rfl #[.agg #[.slice Ao119 t444.length co119], .agg #[.slice Ao22 t396.length co22]] rfl zq19 ?_; (with_reducible refine (laws_eqTasks.calls kj63 _ _ t444 _ _ t396 true _ ?side1 ?side2 ?side3 ?side4 A125.out).mono ?_); (case side1 => refine (Kd.R_reads' (e := 2) (base := w.heap.size) (ok := fun k_ => ((((((((True ∧ some k_ ≠ (.slice Ao22 t396.length co22 : Value).ownBlock) ∧ some k_ ≠ (.slice Ao28 t428.length co28 : Value).ownBlock) ∧ some k_ ≠ (.slice Ao32 t429.length co32 : Value).ownBlock) ∧ some k_ ≠ (.slice Ao33 t430.length co33 : Value).ownBlock) ∧ some k_ ≠ (.slice Ao36 t411.length co36 : Value).ownBlock) ∧ some k_ ≠ (.slice Ao114 t435.length co114 : Value).ownBlock) ∧ some k_ ≠ (.slice Ao115 t438.length co115 : Value).ownBlock) ∧ some k_ ≠ (.slice Ao116 t441.length co116 : Value).ownBlock)) (n := t444.length) (c := co119) ?_).2.2; exact zq9); (case side2 => exact (Kd.R_reads' HO446.out).2.1); (case side3 => refine (Kd.R_reads' (e := 2) (base := w.heap.size) (ok := fun k_ => (((((some k_ ≠ (.slice Ao28 t428.length co28 : Value).ownBlock ∧ (some k_ ≠ (.slice Ao32 t429.length co32 : Value).ownBlock ∧ (some k_ ≠ (.slice Ao33 t430.length co33 : Value).ownBlock ∧ some k_ ≠ (.slice Ao36 t411.length co36 : Value).ownBlock))) ∧ some k_ ≠ (.slice Ao114 t435.length co114 : Value).ownBlock) ∧ some k_ ≠ (.slice Ao115 t438.length co115 : Value).ownBlock) ∧ some k_ ≠ (.slice Ao116 t441.length co116 : Value).ownBlock) ∧ some k_ ≠ (.slice Ao119 t444.length co119 : Value).ownBlock)) (n := t396.length) (c := co22) ?_).2.2; exact zq8); (case side4 => exact (Kd.R_reads' HO_401000.out).2.1); rintro e w136 ⟨rfl, hb⟩; refine ⟨_, rfl, ?_⟩; have n0_ := Aside0.mk (Kd.R_below zq8 hb); have n1_ := Aside0.mk (Kd.R_below (by (with_reducible repeat (first | apply Kd.R_alloc | apply Kd.R_drewN | apply Kd.R_drew)); exact (Kd.R_mono (Kd.R_far (p := ⟨gb448, 0, none⟩) (Kd.R_types HO_411000.out BK448.out (by decide)) (fun _ hk => hk.2) (.slice Ao119 t444.length co119)) (fun _ h_ => h_.1))) hb); have n2_ := Aside0.mk (Kd.R_below (by (with_reducible repeat (first | apply Kd.R_alloc | apply Kd.R_drewN | apply Kd.R_drew)); exact (Kd.R_mono (Kd.R_far (p := ⟨gb448, 0, none⟩) (Kd.R_types HO_411001.out BK448.out (by decide)) (fun _ hk => hk.2) (.slice Ao119 t444.length co119)) (fun _ h_ => h_.1))) hb); have n3_ := Aside0.mk (Kd.R_below (by (with_reducible repeat (first | apply Kd.R_alloc | apply Kd.R_drewN | apply Kd.R_drew)); exact (Kd.R_mono (Kd.R_far (p := ⟨gb448, 0, none⟩) (Kd.R_types HO_411002.out BK448.out (by decide)) (fun _ hk => hk.2) (.slice Ao119 t444.length co119)) (fun _ h_ => h_.1))) hb); have n4_ := Aside0.mk (Kd.R_below (by (with_reducible repeat (first | apply Kd.R_alloc | apply Kd.R_drewN | apply Kd.R_drew)); exact (Kd.R_mono (Kd.R_far (p := ⟨gb448, 0, none⟩) (Kd.R_types HO_416000.out BK448.out (by decide)) (fun _ hk => hk.2) (.slice Ao119 t444.length co119)) (fun _ h_ => h_.1))) hb); have n5_ := Aside0.mk (Kd.R_below (by (with_reducible repeat (first | apply Kd.R_alloc | apply Kd.R_drewN | apply Kd.R_drew)); exact (Kd.R_mono (Kd.R_far (p := ⟨gb448, 0, none⟩) (Kd.R_types HO437.out BK448.out (by decide)) (fun _ hk => hk.2) (.slice Ao119 t444.length co119)) (fun _ h_ => h_.1))) hb); have n6_ := Aside0.mk (Kd.R_below (by (with_reducible repeat (first | apply Kd.R_alloc | apply Kd.R_drewN | apply Kd.R_drew)); exact (Kd.R_mono (Kd.R_far (p := ⟨gb448, 0, none⟩) (Kd.R_types HO440.out BK448.out (by decide)) (fun _ hk => hk.2) (.slice Ao119 t444.length co119)) (fun _ h_ => h_.1))) hb); have n7_ := Aside0.mk (Kd.R_below (by (with_reducible repeat (first | apply Kd.R_alloc | apply Kd.R_drewN | apply Kd.R_drew)); exact (Kd.R_mono (Kd.R_far (p := ⟨gb448, 0, none⟩) (Kd.R_types HO443.out BK448.out (by decide)) (fun _ hk => hk.2) (.slice Ao119 t444.length co119)) (fun _ h_ => h_.1))) hb); have n8_ := Aside0.mk (Kd.R_below zq9 hb); have n9_ := Aside0.mk (blk_below (g := gb385) (o := .cells #[.slice A0_0 l0_0.length c0_0, .slice A0_1 l0_1.length c0_1, .slice A0_2 l0_2.length c0_2] 24 (0, 0)) (by (with_reducible repeat (first | refine blk_drewN ?_ _ | refine blk_drew ?_ | refine blk_alloc ?_ _)); refine blk_far ?_ NB385_448.out _; (with_reducible repeat (first | refine blk_drewN ?_ _ | refine blk_drew ?_ | refine blk_alloc ?_ _)); exact BK385.out) hb); have n10_ := Aside0.mk (blk_below (g := gb400) (o := .cells #[.slice Ao22 t396.length co22] 41 (0, 0)) (by (with_reducible repeat (first | refine blk_drewN ?_ _ | refine blk_drew ?_ | refine blk_alloc ?_ _)); refine blk_far ?_ NB400_448.out _; (with_reducible repeat (first | refine blk_drewN ?_ _ | refine blk_drew ?_ | refine blk_alloc ?_ _)); exact BK400.out) hb); have n11_ := Aside0.mk (blk_below (g := gb410) (o := .cells #[.slice Ao28 t428.length co28, .slice Ao32 t429.length co32, .slice Ao33 t430.length co33] 28 (0, 0)) (by (with_reducible repeat (first | refine blk_drewN ?_ _ | refine blk_drew ?_ | refine blk_alloc ?_ _)); refine blk_far ?_ NB410_448.out _; (with_reducible repeat (first | refine blk_drewN ?_ _ | refine blk_drew ?_ | refine blk_alloc ?_ _)); exact BK410.out) hb); have n12_ := Aside0.mk (blk_below (g := gb415) (o := .cells #[.slice Ao36 t411.length co36] 41 (0, 0)) (by (with_reducible repeat (first | refine blk_drewN ?_ _ | refine blk_drew ?_ | refine blk_alloc ?_ _)); refine blk_far ?_ NB415_448.out _; (with_reducible repeat (first | refine blk_drewN ?_ _ | refine blk_drew ?_ | refine blk_alloc ?_ _)); exact BK415.out) hb); have n13_ := Aside0.mk (blk_below (g := gb448) (o := .cells #[.slice Ao119 t444.length co119] 41 (0, 0)) (by (with_reducible repeat (first | refine blk_drewN ?_ _ | refine blk_drew ?_ | refine blk_alloc ?_ _)); refine blk_put (cs := #[.slice none 0 0]) ?_ 0 _ rfl; (with_reducible repeat (first | refine blk_drewN ?_ _ | refine blk_drew ?_ | refine blk_alloc ?_ _)); exact BK448.out) hb); have n14_ := Aside0.mk (below_step zq16 hb); clear HO_401000; clear HO_411000; clear HO_411001; clear HO_411002; clear HO_416000; clear HO437; clear HO440; clear HO443; clear HO446; clear BK385; clear BK400; clear BK410; clear BK415; clear BK448; clear HB; have HO_401000 := n0_; have HO_411000 := n1_; have HO_411001 := n2_; have HO_411002 := n3_; have HO_416000 := n4_; have HO437 := n5_; have HO440 := n6_; have HO443 := n7_; have HO446 := n8_; have BK385 := n9_; have BK400 := n10_; have BK410 := n11_; have BK415 := n12_; have BK448 := n13_; have HB := n14_; clear n0_ n1_ n2_ n3_ n4_ n5_ n6_ n7_ n8_ n9_ n10_ n11_ n12_ n13_ n14_; (try clear hb); (try clear hb2); (try clear hk); (try clear hi)))
          go_meet
          case rel => exact ⟨_, ((t447 != t399)), zq76, H', ⟨by have := HJ10.out; have := HJ63.out; first | omega | exact Nat.le_refl _⟩, ⟨by (try simp only [hl411000_63]); (try simp only [hl411001_63]); (try simp only [hl411002_63]); (with_reducible repeat (first | apply Kd.R_alloc | apply Kd.R_drewN | apply Kd.R_drew)); exact Kd.R_mono HO_401000.out (fun _ hk => ⟨hk.1.1.1.1.1, ⟨hk.1.1.1.1.2.1, ⟨hk.1.1.1.1.2.2.1, ⟨hk.1.1.1.1.2.2.2, hk.2⟩⟩⟩⟩)⟩, ⟨by (try simp only [hl411000_63]); (try simp only [hl411001_63]); (try simp only [hl411002_63]); (with_reducible repeat (first | apply Kd.R_alloc | apply Kd.R_drewN | apply Kd.R_drew)); exact Kd.R_mono HO_411000.out (fun _ hk => ⟨hk.1.1.1.1.1, ⟨hk.1.1.1.1.2.1, ⟨hk.1.1.1.1.2.2.1, ⟨hk.1.1.1.1.2.2.2, hk.2⟩⟩⟩⟩)⟩, ⟨by (try simp only [hl411000_63]); (try simp only [hl411001_63]); (try simp only [hl411002_63]); (with_reducible repeat (first | apply Kd.R_alloc | apply Kd.R_drewN | apply Kd.R_drew)); exact Kd.R_mono HO_411001.out (fun _ hk => ⟨hk.1.1.1.1.1, ⟨hk.1.1.1.1.2.1, ⟨hk.1.1.1.1.2.2.1, ⟨hk.1.1.1.1.2.2.2, hk.2⟩⟩⟩⟩)⟩, ⟨by (try simp only [hl411000_63]); (try simp only [hl411001_63]); (try simp only [hl411002_63]); (with_reducible repeat (first | apply Kd.R_alloc | apply Kd.R_drewN | apply Kd.R_drew)); exact Kd.R_mono HO_411002.out (fun _ hk => ⟨hk.1.1.1.1.1, ⟨hk.1.1.1.1.2.1, ⟨hk.1.1.1.1.2.2.1, ⟨hk.1.1.1.1.2.2.2, hk.2⟩⟩⟩⟩)⟩, ⟨by (try simp only [hl411000_63]); (try simp only [hl411001_63]); (try simp only [hl411002_63]); (with_reducible repeat (first | apply Kd.R_alloc | apply Kd.R_drewN | apply Kd.R_drew)); exact Kd.R_mono HO_416000.out (fun _ hk => ⟨hk.1.1.1.1.1, ⟨hk.1.1.1.1.2.1, ⟨hk.1.1.1.1.2.2.1, ⟨hk.1.1.1.1.2.2.2, hk.2⟩⟩⟩⟩)⟩, ⟨by (try simp only [hl411000_63]); (try simp only [hl411001_63]); (try simp only [hl411002_63]); (with_reducible repeat (first | apply Kd.R_alloc | apply Kd.R_drewN | apply Kd.R_drew)); exact Kd.R_mono HO446.out (fun _ hk => ⟨hk.1.1.1.1.1.1.1.2, ⟨hk.1.1.1.1.1.1.2, ⟨hk.1.1.1.1.1.2, ⟨hk.1.1.1.1.2, hk.1.1.1.2⟩⟩⟩⟩)⟩, ⟨by (try simp only [hl411000_63]); (try simp only [hl411001_63]); (try simp only [hl411002_63]); (with_reducible repeat (first | refine blk_drewN ?_ _ | refine blk_drew ?_ | refine blk_alloc ?_ _)); exact BK385.out⟩, ⟨by (try simp only [hl411000_63]); (try simp only [hl411001_63]); (try simp only [hl411002_63]); (with_reducible repeat (first | refine blk_drewN ?_ _ | refine blk_drew ?_ | refine blk_alloc ?_ _)); exact BK400.out⟩, ⟨by (try simp only [hl411000_63]); (try simp only [hl411001_63]); (try simp only [hl411002_63]); (with_reducible repeat (first | refine blk_drewN ?_ _ | refine blk_drew ?_ | refine blk_alloc ?_ _)); exact BK410.out⟩, ⟨by (try simp only [hl411000_63]); (try simp only [hl411001_63]); (try simp only [hl411002_63]); (with_reducible repeat (first | refine blk_drewN ?_ _ | refine blk_drew ?_ | refine blk_alloc ?_ _)); exact BK415.out⟩, ⟨by (try simp only [hl411000_63]); (try simp only [hl411001_63]); (try simp only [hl411002_63]); (with_reducible repeat (first | refine blk_drewN ?_ _ | refine blk_drew ?_ | refine blk_alloc ?_ _)); exact BK448.out⟩, ⟨by repeat (first | (with_reducible first | exact HB.out | apply below_alloc | apply pw_below_drewN | apply below_drew1 | refine below_set ?_ GE385.out | refine below_set ?_ GE400.out | refine below_set ?_ GE410.out | refine below_set ?_ GE415.out | refine below_set ?_ GE448.out) | exact HB.out)⟩⟩
        replace c126 := Bool.eq_false_iff.mpr c126
        subst c126
        have H1 : (laws_FnExactGapsOfTurns.j2 kj63 t432 true t433) = some r := by rw [if_neg (show ¬ (false = true) by decide)] at H; exact H
        clear H
        have H := H1
        clear H1
        have H' := Aside0.mk H
        clear H
        have hnb137 := NB448_385.out
        have hnc137 := NB385_448.out
        have hnb138 := NB448_400.out
        have hnc138 := NB400_448.out
        have hnb139 := NB448_410.out
        have hnc139 := NB410_448.out
        have hnb140 := NB448_415.out
        have hnc140 := NB415_448.out
        have hcz141_0 : w118.cell? ⟨gb448, 0, none⟩ = some (.slice none 0 0) := (blk_cell BK448.out 0).trans rfl
        have hfz141_0 := blk_frozen BK448.out 0
        have hnb142 := NB400_385.out
        have hnc142 := NB385_400.out
        have hnb143 := NB400_410.out
        have hnc143 := NB410_400.out
        have hnb144 := NB400_415.out
        have hnc144 := NB415_400.out
        have hcz145_0 : w118.cell? ⟨gb400, 0, none⟩ = some (.slice Ao22 t396.length co22) := (blk_cell BK400.out 0).trans rfl
        have hfz145_0 := blk_frozen BK400.out 0
        go_wp2_with (first | ((with_reducible refine gate_callee (f := 33) rfl ?_); refine goesL_ (some 81) rfl rfl Try.func33 (by kernel_rfl) rfl #[.agg #[.slice Ao119 t444.length co119], .agg #[.slice Ao22 t396.length co22]] rfl zq19 ?_; (with_reducible refine (laws_eqTasks.calls kj63 _ _ t444 _ _ t396 false _ ?side1 ?side2 ?side3 ?side4 A125.out).mono ?_); (case side1 => refine (Kd.R_reads' (e := 2) (base := w.heap.size) (ok := fun k_ => ((((((((True ∧ some k_ ≠ (.slice Ao22 t396.length co22 : Value).ownBlock) ∧ some k_ ≠ (.slice Ao28 t428.length co28 : Value).ownBlock) ∧ some k_ ≠ (.slice Ao32 t429.length co32 : Value).ownBlock) ∧ some k_ ≠ (.slice Ao33 t430.length co33 : Value).ownBlock) ∧ some k_ ≠ (.slice Ao36 t411.length co36 : Value).ownBlock) ∧ some k_ ≠ (.slice Ao114 t435.length co114 : Value).ownBlock) ∧ some k_ ≠ (.slice Ao115 t438.length co115 : Value).ownBlock) ∧ some k_ ≠ (.slice Ao116 t441.length co116 : Value).ownBlock)) (n := t444.length) (c := co119) ?_).2.2; exact zq9); (case side2 => exact (Kd.R_reads' HO446.out).2.1); (case side3 => refine (Kd.R_reads' (e := 2) (base := w.heap.size) (ok := fun k_ => (((((some k_ ≠ (.slice Ao28 t428.length co28 : Value).ownBlock ∧ (some k_ ≠ (.slice Ao32 t429.length co32 : Value).ownBlock ∧ (some k_ ≠ (.slice Ao33 t430.length co33 : Value).ownBlock ∧ some k_ ≠ (.slice Ao36 t411.length co36 : Value).ownBlock))) ∧ some k_ ≠ (.slice Ao114 t435.length co114 : Value).ownBlock) ∧ some k_ ≠ (.slice Ao115 t438.length co115 : Value).ownBlock) ∧ some k_ ≠ (.slice Ao116 t441.length co116 : Value).ownBlock) ∧ some k_ ≠ (.slice Ao119 t444.length co119 : Value).ownBlock)) (n := t396.length) (c := co22) ?_).2.2; exact zq8); (case side4 => exact (Kd.R_reads' HO_401000.out).2.1); rintro e w146 ⟨rfl, hb⟩; refine ⟨_, rfl, ?_⟩; have n0_ := Aside0.mk (Kd.R_below zq8 hb); have n1_ := Aside0.mk (Kd.R_below (by (with_reducible repeat (first | apply Kd.R_alloc | apply Kd.R_drewN | apply Kd.R_drew)); exact (Kd.R_mono (Kd.R_far (p := ⟨gb448, 0, none⟩) (Kd.R_types HO_411000.out BK448.out (by decide)) (fun _ hk => hk.2) (.slice Ao119 t444.length co119)) (fun _ h_ => h_.1))) hb); have n2_ := Aside0.mk (Kd.R_below (by (with_reducible repeat (first | apply Kd.R_alloc | apply Kd.R_drewN | apply Kd.R_drew)); exact (Kd.R_mono (Kd.R_far (p := ⟨gb448, 0, none⟩) (Kd.R_types HO_411001.out BK448.out (by decide)) (fun _ hk => hk.2) (.slice Ao119 t444.length co119)) (fun _ h_ => h_.1))) hb); have n3_ := Aside0.mk (Kd.R_below (by (with_reducible repeat (first | apply Kd.R_alloc | apply Kd.R_drewN | apply Kd.R_drew)); exact (Kd.R_mono (Kd.R_far (p := ⟨gb448, 0, none⟩) (Kd.R_types HO_411002.out BK448.out (by decide)) (fun _ hk => hk.2) (.slice Ao119 t444.length co119)) (fun _ h_ => h_.1))) hb); have n4_ := Aside0.mk (Kd.R_below (by (with_reducible repeat (first | apply Kd.R_alloc | apply Kd.R_drewN | apply Kd.R_drew)); exact (Kd.R_mono (Kd.R_far (p := ⟨gb448, 0, none⟩) (Kd.R_types HO_416000.out BK448.out (by decide)) (fun _ hk => hk.2) (.slice Ao119 t444.length co119)) (fun _ h_ => h_.1))) hb); have n5_ := Aside0.mk (Kd.R_below (by (with_reducible repeat (first | apply Kd.R_alloc | apply Kd.R_drewN | apply Kd.R_drew)); exact (Kd.R_mono (Kd.R_far (p := ⟨gb448, 0, none⟩) (Kd.R_types HO437.out BK448.out (by decide)) (fun _ hk => hk.2) (.slice Ao119 t444.length co119)) (fun _ h_ => h_.1))) hb); have n6_ := Aside0.mk (Kd.R_below (by (with_reducible repeat (first | apply Kd.R_alloc | apply Kd.R_drewN | apply Kd.R_drew)); exact (Kd.R_mono (Kd.R_far (p := ⟨gb448, 0, none⟩) (Kd.R_types HO440.out BK448.out (by decide)) (fun _ hk => hk.2) (.slice Ao119 t444.length co119)) (fun _ h_ => h_.1))) hb); have n7_ := Aside0.mk (Kd.R_below (by (with_reducible repeat (first | apply Kd.R_alloc | apply Kd.R_drewN | apply Kd.R_drew)); exact (Kd.R_mono (Kd.R_far (p := ⟨gb448, 0, none⟩) (Kd.R_types HO443.out BK448.out (by decide)) (fun _ hk => hk.2) (.slice Ao119 t444.length co119)) (fun _ h_ => h_.1))) hb); have n8_ := Aside0.mk (Kd.R_below zq9 hb); have n9_ := Aside0.mk (blk_below (g := gb385) (o := .cells #[.slice A0_0 l0_0.length c0_0, .slice A0_1 l0_1.length c0_1, .slice A0_2 l0_2.length c0_2] 24 (0, 0)) (by (with_reducible repeat (first | refine blk_drewN ?_ _ | refine blk_drew ?_ | refine blk_alloc ?_ _)); refine blk_far ?_ NB385_448.out _; (with_reducible repeat (first | refine blk_drewN ?_ _ | refine blk_drew ?_ | refine blk_alloc ?_ _)); exact BK385.out) hb); have n10_ := Aside0.mk (blk_below (g := gb400) (o := .cells #[.slice Ao22 t396.length co22] 41 (0, 0)) (by (with_reducible repeat (first | refine blk_drewN ?_ _ | refine blk_drew ?_ | refine blk_alloc ?_ _)); refine blk_far ?_ NB400_448.out _; (with_reducible repeat (first | refine blk_drewN ?_ _ | refine blk_drew ?_ | refine blk_alloc ?_ _)); exact BK400.out) hb); have n11_ := Aside0.mk (blk_below (g := gb410) (o := .cells #[.slice Ao28 t428.length co28, .slice Ao32 t429.length co32, .slice Ao33 t430.length co33] 28 (0, 0)) (by (with_reducible repeat (first | refine blk_drewN ?_ _ | refine blk_drew ?_ | refine blk_alloc ?_ _)); refine blk_far ?_ NB410_448.out _; (with_reducible repeat (first | refine blk_drewN ?_ _ | refine blk_drew ?_ | refine blk_alloc ?_ _)); exact BK410.out) hb); have n12_ := Aside0.mk (blk_below (g := gb415) (o := .cells #[.slice Ao36 t411.length co36] 41 (0, 0)) (by (with_reducible repeat (first | refine blk_drewN ?_ _ | refine blk_drew ?_ | refine blk_alloc ?_ _)); refine blk_far ?_ NB415_448.out _; (with_reducible repeat (first | refine blk_drewN ?_ _ | refine blk_drew ?_ | refine blk_alloc ?_ _)); exact BK415.out) hb); have n13_ := Aside0.mk (blk_below (g := gb448) (o := .cells #[.slice Ao119 t444.length co119] 41 (0, 0)) (by (with_reducible repeat (first | refine blk_drewN ?_ _ | refine blk_drew ?_ | refine blk_alloc ?_ _)); refine blk_put (cs := #[.slice none 0 0]) ?_ 0 _ rfl; (with_reducible repeat (first | refine blk_drewN ?_ _ | refine blk_drew ?_ | refine blk_alloc ?_ _)); exact BK448.out) hb); have n14_ := Aside0.mk (below_step zq16 hb); clear HO_401000; clear HO_411000; clear HO_411001; clear HO_411002; clear HO_416000; clear HO437; clear HO440; clear HO443; clear HO446; clear BK385; clear BK400; clear BK410; clear BK415; clear BK448; clear HB; have HO_401000 := n0_; have HO_411000 := n1_; have HO_411001 := n2_; have HO_411002 := n3_; have HO_416000 := n4_; have HO437 := n5_; have HO440 := n6_; have HO443 := n7_; have HO446 := n8_; have BK385 := n9_; have BK400 := n10_; have BK410 := n11_; have BK415 := n12_; have BK448 := n13_; have HB := n14_; clear n0_ n1_ n2_ n3_ n4_ n5_ n6_ n7_ n8_ n9_ n10_ n11_ n12_ n13_ n14_; (try clear hb); (try clear hb2); (try clear hk); (try clear hi)))
        go_meet
        case rel => exact ⟨_, (true), zq76, H', ⟨by have := HJ10.out; have := HJ63.out; first | omega | exact Nat.le_refl _⟩, ⟨by (try simp only [hl411000_63]); (try simp only [hl411001_63]); (try simp only [hl411002_63]); (with_reducible repeat (first | apply Kd.R_alloc | apply Kd.R_drewN | apply Kd.R_drew)); exact Kd.R_mono HO_401000.out (fun _ hk => ⟨hk.1.1.1.1.1, ⟨hk.1.1.1.1.2.1, ⟨hk.1.1.1.1.2.2.1, ⟨hk.1.1.1.1.2.2.2, hk.2⟩⟩⟩⟩)⟩, ⟨by (try simp only [hl411000_63]); (try simp only [hl411001_63]); (try simp only [hl411002_63]); (with_reducible repeat (first | apply Kd.R_alloc | apply Kd.R_drewN | apply Kd.R_drew)); exact Kd.R_mono HO_411000.out (fun _ hk => ⟨hk.1.1.1.1.1, ⟨hk.1.1.1.1.2.1, ⟨hk.1.1.1.1.2.2.1, ⟨hk.1.1.1.1.2.2.2, hk.2⟩⟩⟩⟩)⟩, ⟨by (try simp only [hl411000_63]); (try simp only [hl411001_63]); (try simp only [hl411002_63]); (with_reducible repeat (first | apply Kd.R_alloc | apply Kd.R_drewN | apply Kd.R_drew)); exact Kd.R_mono HO_411001.out (fun _ hk => ⟨hk.1.1.1.1.1, ⟨hk.1.1.1.1.2.1, ⟨hk.1.1.1.1.2.2.1, ⟨hk.1.1.1.1.2.2.2, hk.2⟩⟩⟩⟩)⟩, ⟨by (try simp only [hl411000_63]); (try simp only [hl411001_63]); (try simp only [hl411002_63]); (with_reducible repeat (first | apply Kd.R_alloc | apply Kd.R_drewN | apply Kd.R_drew)); exact Kd.R_mono HO_411002.out (fun _ hk => ⟨hk.1.1.1.1.1, ⟨hk.1.1.1.1.2.1, ⟨hk.1.1.1.1.2.2.1, ⟨hk.1.1.1.1.2.2.2, hk.2⟩⟩⟩⟩)⟩, ⟨by (try simp only [hl411000_63]); (try simp only [hl411001_63]); (try simp only [hl411002_63]); (with_reducible repeat (first | apply Kd.R_alloc | apply Kd.R_drewN | apply Kd.R_drew)); exact Kd.R_mono HO_416000.out (fun _ hk => ⟨hk.1.1.1.1.1, ⟨hk.1.1.1.1.2.1, ⟨hk.1.1.1.1.2.2.1, ⟨hk.1.1.1.1.2.2.2, hk.2⟩⟩⟩⟩)⟩, ⟨by (try simp only [hl411000_63]); (try simp only [hl411001_63]); (try simp only [hl411002_63]); (with_reducible repeat (first | apply Kd.R_alloc | apply Kd.R_drewN | apply Kd.R_drew)); exact Kd.R_mono HO446.out (fun _ hk => ⟨hk.1.1.1.1.1.1.1.2, ⟨hk.1.1.1.1.1.1.2, ⟨hk.1.1.1.1.1.2, ⟨hk.1.1.1.1.2, hk.1.1.1.2⟩⟩⟩⟩)⟩, ⟨by (try simp only [hl411000_63]); (try simp only [hl411001_63]); (try simp only [hl411002_63]); (with_reducible repeat (first | refine blk_drewN ?_ _ | refine blk_drew ?_ | refine blk_alloc ?_ _)); exact BK385.out⟩, ⟨by (try simp only [hl411000_63]); (try simp only [hl411001_63]); (try simp only [hl411002_63]); (with_reducible repeat (first | refine blk_drewN ?_ _ | refine blk_drew ?_ | refine blk_alloc ?_ _)); exact BK400.out⟩, ⟨by (try simp only [hl411000_63]); (try simp only [hl411001_63]); (try simp only [hl411002_63]); (with_reducible repeat (first | refine blk_drewN ?_ _ | refine blk_drew ?_ | refine blk_alloc ?_ _)); exact BK410.out⟩, ⟨by (try simp only [hl411000_63]); (try simp only [hl411001_63]); (try simp only [hl411002_63]); (with_reducible repeat (first | refine blk_drewN ?_ _ | refine blk_drew ?_ | refine blk_alloc ?_ _)); exact BK415.out⟩, ⟨by (try simp only [hl411000_63]); (try simp only [hl411001_63]); (try simp only [hl411002_63]); (with_reducible repeat (first | refine blk_drewN ?_ _ | refine blk_drew ?_ | refine blk_alloc ?_ _)); exact BK448.out⟩, ⟨by repeat (first | (with_reducible first | exact HB.out | apply below_alloc | apply pw_below_drewN | apply below_drew1 | refine below_set ?_ GE385.out | refine below_set ?_ GE400.out | refine below_set ?_ GE410.out | refine below_set ?_ GE415.out | refine below_set ?_ GE448.out) | exact HB.out)⟩⟩
      clear HC102
      try clear c1
      try clear c2
      try clear p2
      try clear c3
      try clear c3b0
      try clear c4
      try clear c5
      try clear c6
      try clear c7
      try clear c8
      try clear c9
      try clear c10
      try clear c11
      try clear c12
      try clear c13
      try clear c14
      try clear c15
      try clear c19
      try clear c20
      try clear c23
      try clear c29
      try clear c30
      try clear c31
      try clear c32
      try clear c33
      try clear c34
      try clear c35
      try clear c37
      try clear c38
      try clear c39
      try clear c42
      try clear c43
      try clear c44
      try clear c45
      try clear c47
      try clear c48
      try clear c51
      try clear c52
      try clear c53
      try clear c55
      try clear c56
      try clear c59
      try clear c62
      try clear c71
      try clear c72
      try clear c73
      try clear c76
      try clear c76b0
      try clear c78
      try clear c79
      try clear c80
      try clear c81
      try clear c83
      try clear c84
      try clear c87
      try clear c88
      try clear c89
      try clear c91
      try clear c92
      try clear c95
      try clear c98
      try clear c98b0
      try clear c99
      try clear c99b0
      try clear c99b1
      try clear c103
      try clear c104
      try clear c105
      try clear c110
      try clear c111
      try clear c120
      try clear c121
      try clear c122
      try clear c123
      try clear c126
      try clear c127
      try clear c128
      try clear c129
      try clear c130
      try clear c132
      try clear c133
      try clear c134
      try clear c137
      try clear c138
      try clear c139
      try clear c140
      try clear c142
      try clear c143
      try clear c144
      try clear hcz106_0
      try clear hcz108_0
      try clear hcz112_0
      try clear hcz112_1
      try clear hcz112_2
      try clear hcz124_0
      try clear hcz131_0
      try clear hcz135_0
      try clear hcz13_0
      try clear hcz13_1
      try clear hcz13_2
      try clear hcz141_0
      try clear hcz145_0
      try clear hcz15_0
      try clear hcz15_1
      try clear hcz15_2
      try clear hcz24_0
      try clear hcz25_0
      try clear hcz25_1
      try clear hcz25_2
      try clear hcz31_0
      try clear hcz31_1
      try clear hcz31_2
      try clear hcz40_0
      try clear hcz46_0
      try clear hcz49_0
      try clear hcz54_0
      try clear hcz57_0
      try clear hcz5_0
      try clear hcz5_1
      try clear hcz5_2
      try clear hcz74_0
      try clear hcz74_1
      try clear hcz74_2
      try clear hcz82_0
      try clear hcz85_0
      try clear hcz90_0
      try clear hcz93_0
      try clear hfz106_0
      try clear hfz108_0
      try clear hfz112_0
      try clear hfz112_1
      try clear hfz112_2
      try clear hfz124_0
      try clear hfz131_0
      try clear hfz135_0
      try clear hfz13_0
      try clear hfz13_1
      try clear hfz13_2
      try clear hfz141_0
      try clear hfz145_0
      try clear hfz15_0
      try clear hfz15_1
      try clear hfz15_2
      try clear hfz24_0
      try clear hfz25_0
      try clear hfz25_1
      try clear hfz25_2
      try clear hfz31_0
      try clear hfz31_1
      try clear hfz31_2
      try clear hfz40_0
      try clear hfz46_0
      try clear hfz49_0
      try clear hfz54_0
      try clear hfz57_0
      try clear hfz5_0
      try clear hfz5_1
      try clear hfz5_2
      try clear hfz74_0
      try clear hfz74_1
      try clear hfz74_2
      try clear hfz82_0
      try clear hfz85_0
      try clear hfz90_0
      try clear hfz93_0
      try clear p2
      obtain ⟨kq, x87_101, rfl, HA, HJ101, HO_401000, HO_411000, HO_411001, HO_411002, HO_416000, HO_449000, BK385, BK400, BK410, BK415, BK448, HB⟩ := hcut
      have hl416000_101 := (Kd.R_reads' HO_416000.out).1
      rw [hl416000_101] at HO_416000
      (try simp only [hl416000_101])
      (try simp only [hl416000_101] at BK385)
      (try simp only [hl416000_101] at BK400)
      (try simp only [hl416000_101] at BK410)
      (try simp only [hl416000_101] at BK415)
      (try simp only [hl416000_101] at BK448)
      (try simp only [hl416000_101] at HO_401000)
      (try simp only [hl416000_101] at HO_411000)
      (try simp only [hl416000_101] at HO_411001)
      (try simp only [hl416000_101] at HO_411002)
      (try simp only [hl416000_101] at HO_449000)
      cases kq with
      | zero => exact absurd HA.out (by simp [laws_FnExactGapsOfTurns.j2])
      | succ kj101 =>
        have H := HA.out
        clear HA
        simp only [laws_FnExactGapsOfTurns.j2] at H
        by_cases c147 : x87_101 = true
        · subst c147
          have H1 : (some false) = some r := by rw [if_pos rfl] at H; exact H
          clear H
          have H := H1
          clear H1
          rw [hr_.out] at H
          exact absurd H (by simp)
        replace c147 := Bool.eq_false_iff.mpr c147
        subst c147
        have H1 : ((laws_heldTasks.f kj101 t433 1).bind fun t450 => (if t450 < 0 then (some false) else (if t450 = t432 then (some true) else (some false)))) = some r := by rw [if_neg (show ¬ (false = true) by decide)] at H; exact H
        clear H
        have H := H1
        clear H1
        replace H := Option.bind_eq_some_iff.mp H
        obtain ⟨t450, A1480, H⟩ := H
        replace H : (if t450 < 0 then (some false) else (if t450 = t432 then (some true) else (some false))) = some r := H
        have A148 := Aside0.mk A1480
        clear A1480
        by_cases c149 : t450 < 0
        · rw [if_pos c149] at H
          have c149b0 : decide (t450 < 0) = true := decide_eq_true c149
          clear c149
          rw [hr_.out] at H
          exact absurd H (by simp)
        rw [if_neg c149] at H
        have c149b0 : decide (t450 < 0) = false := decide_eq_false c149
        clear c149
        by_cases c150 : t450 = t432
        rotate_left
        · rw [if_neg c150] at H
          have c150b0 : (t450 == t432) = false := beq_eq_false_iff_ne.mpr c150
          have c150b1 : (t450 != t432) = true := bne_iff_ne.mpr c150
          rw [hr_.out] at H
          exact absurd H (by simp)
        rw [if_pos c150] at H
        have c150b0 : (t450 == t432) = true := beq_iff_eq.mpr c150
        have c150b1 : (t450 != t432) = false := bne_eq_false_iff_eq.mpr c150
        clear c150
        obtain rfl := Option.some.inj H
        have hnb151 := NB415_385.out
        have hnc151 := NB385_415.out
        have hnb152 := NB415_400.out
        have hnc152 := NB400_415.out
        have hnb153 := NB415_410.out
        have hnc153 := NB410_415.out
        have hnb154 := NB415_448.out
        have hnc154 := NB448_415.out
        have hcz155_0 : wc.cell? ⟨gb415, 0, none⟩ = some (.slice Ao36 t433.length co36) := (blk_cell BK415.out 0).trans rfl
        have hfz155_0 := blk_frozen BK415.out 0
        go_wp2_with (first | ((with_reducible refine gate_callee (f := 35) rfl ?_); refine goesL_ (some 90) rfl rfl Try.func35 (by kernel_rfl) rfl #[.agg #[.slice Ao36 t433.length co36], .int .i64 1] rfl zq19 ?_; (with_reducible refine (laws_heldTasks.calls kj101 _ _ t433 1 t450 _ ?side1 ?side2 A148.out).mono ?_); (case side1 => repeat (first | exact (Kd.R_reads' HO_416000.out).2.2 | (with_reducible refine Kd.C_alloc ?_ _) | (with_reducible refine Kd.C_drewN ?_ _) | (with_reducible refine Kd.C_drew ?_))); (case side2 => exact (Kd.R_reads' HO_416000.out).2.1); rintro e w156 ⟨rfl, hb⟩; refine ⟨_, rfl, ?_⟩; have n0_ := Aside0.mk (Kd.R_below zq49 hb); have n1_ := Aside0.mk (Kd.R_below zq50 hb); have n2_ := Aside0.mk (Kd.R_below zq51 hb); have n3_ := Aside0.mk (Kd.R_below zq52 hb); have n4_ := Aside0.mk (Kd.R_below zq53 hb); have n5_ := Aside0.mk (Kd.R_below (by (with_reducible repeat (first | apply Kd.R_alloc | apply Kd.R_drewN | apply Kd.R_drew)); exact HO_449000.out) hb); have n6_ := Aside0.mk (blk_below (g := gb385) (o := .cells #[.slice A0_0 l0_0.length c0_0, .slice A0_1 l0_1.length c0_1, .slice A0_2 l0_2.length c0_2] 24 (0, 0)) zq35 hb); have n7_ := Aside0.mk (blk_below (g := gb400) (o := .cells #[.slice Ao22 t396.length co22] 41 (0, 0)) zq36 hb); have n8_ := Aside0.mk (blk_below (g := gb410) (o := .cells #[.slice Ao28 t428.length co28, .slice Ao32 t429.length co32, .slice Ao33 t430.length co33] 28 (0, 0)) zq37 hb); have n9_ := Aside0.mk (blk_below (g := gb415) (o := .cells #[.slice Ao36 t433.length co36] 41 (0, 0)) zq38 hb); have n10_ := Aside0.mk (blk_below (g := gb448) (o := .cells #[.slice Ao119 t444.length co119] 41 (0, 0)) (by (with_reducible repeat (first | refine blk_drewN ?_ _ | refine blk_drew ?_ | refine blk_alloc ?_ _)); exact BK448.out) hb); have n11_ := Aside0.mk (below_step zq16 hb); clear HO_401000; clear HO_411000; clear HO_411001; clear HO_411002; clear HO_416000; clear HO_449000; clear BK385; clear BK400; clear BK410; clear BK415; clear BK448; clear HB; have HO_401000 := n0_; have HO_411000 := n1_; have HO_411001 := n2_; have HO_411002 := n3_; have HO_416000 := n4_; have HO_449000 := n5_; have BK385 := n6_; have BK400 := n7_; have BK410 := n8_; have BK415 := n9_; have BK448 := n10_; have HB := n11_; clear n0_ n1_ n2_ n3_ n4_ n5_ n6_ n7_ n8_ n9_ n10_ n11_; (try clear hb); (try clear hb2); (try clear hk); (try clear hi)))
        go_ret
        exact ⟨by first | rfl | (simp [errW_none, errW_some] <;> rfl) | (simp [*, errW_none, errW_some] <;> rfl), by repeat (first | (with_reducible first | exact HB.out | apply below_alloc | apply pw_below_drewN | apply below_drew1 | refine below_set ?_ GE385.out | refine below_set ?_ GE400.out | refine below_set ?_ GE410.out | refine below_set ?_ GE415.out | refine below_set ?_ GE448.out) | exact HB.out)⟩
/-- THE ONE PURE STATEMENT of laws_FnExactGapsOfTurns. -/
def laws_FnExactGapsOfTurns.Pure : Prop := ∀ (l0_0 : List Int) (l0_1 : List Int) (l0_2 : List Int), l0_0.length ≤ maxLen → l0_0.length * 8 ≤ 140737488351232 → (∀ x ∈ l0_0, (Lit.int .i64 x).wf = true) → l0_1.length ≤ maxLen → l0_1.length * 8 ≤ 140737488351232 → (∀ x ∈ l0_1, (Lit.int .i64 x).wf = true) → l0_2.length ≤ maxLen → l0_2.length * 8 ≤ 140737488351232 → (∀ x ∈ l0_2, (Lit.int .i64 x).wf = true) → ∃ k, laws_FnExactGapsOfTurns.f k l0_0 l0_1 l0_2 = some true
theorem laws_FnExactGapsOfTurns.walk (P : laws_FnExactGapsOfTurns.Pure) (a0_0 : Option Addr) (len0_0 cap0_0 : Nat) (z0_0 : List Int) (a0_1 : Option Addr) (len0_1 cap0_1 : Nat) (z0_1 : List Int) (a0_2 : Option Addr) (len0_2 cap0_2 : Nat) (z0_2 : List Int) (w : World) (w0_0 : (a0_0 = none ∧ len0_0 = 0 ∧ cap0_0 = 0 ∧ z0_0 = []) ∨ ∃ x, a0_0 = some x ∧ len0_0 ≤ cap0_0 ∧ cap0_0 ≤ maxLen ∧ z0_0.length = cap0_0 ∧ (∀ i, i < z0_0.length → w.cell? (x.add i) = some (.int .i64 (z0_0.getD i 0))) ∧ ∀ n ∈ z0_0, (Lit.int .i64 n).wf = true) (y0_0 : len0_0 * 8 ≤ 140737488351232) (w0_1 : (a0_1 = none ∧ len0_1 = 0 ∧ cap0_1 = 0 ∧ z0_1 = []) ∨ ∃ x, a0_1 = some x ∧ len0_1 ≤ cap0_1 ∧ cap0_1 ≤ maxLen ∧ z0_1.length = cap0_1 ∧ (∀ i, i < z0_1.length → w.cell? (x.add i) = some (.int .i64 (z0_1.getD i 0))) ∧ ∀ n ∈ z0_1, (Lit.int .i64 n).wf = true) (y0_1 : len0_1 * 8 ≤ 140737488351232) (w0_2 : (a0_2 = none ∧ len0_2 = 0 ∧ cap0_2 = 0 ∧ z0_2 = []) ∨ ∃ x, a0_2 = some x ∧ len0_2 ≤ cap0_2 ∧ cap0_2 ≤ maxLen ∧ z0_2.length = cap0_2 ∧ (∀ i, i < z0_2.length → w.cell? (x.add i) = some (.int .i64 (z0_2.getD i 0))) ∧ ∀ n ∈ z0_2, (Lit.int .i64 n).wf = true) (y0_2 : len0_2 * 8 ≤ 140737488351232) :
    Calls Try.prog 8 #[.agg #[.slice a0_0 len0_0 cap0_0, .slice a0_1 len0_1 cap0_1, .slice a0_2 len0_2 cap0_2]] w fun e w' => e = .returned (.bool true) ∧ Below w.heap.size w w' := by
  obtain ⟨l0_0, rfl, hr0_0, hm0_0, hw0_0, hc0_0⟩ := ReadsInt.ofRowC w0_0
  obtain ⟨l0_1, rfl, hr0_1, hm0_1, hw0_1, hc0_1⟩ := ReadsInt.ofRowC w0_1
  obtain ⟨l0_2, rfl, hr0_2, hm0_2, hw0_2, hc0_2⟩ := ReadsInt.ofRowC w0_2
  obtain ⟨k, h⟩ := P l0_0 l0_1 l0_2 hm0_0 y0_0 hw0_0 hm0_1 y0_1 hw0_1 hm0_2 y0_2 hw0_2
  refine (laws_FnExactGapsOfTurns.calls k _ _ l0_0 _ _ l0_1 _ _ l0_2 true w (Kd.C_of_reads (d := (0 : Int)) (h1 := fun _ => rfl) hr0_0) hc0_0 (Kd.C_of_reads (d := (0 : Int)) (h1 := fun _ => rfl) hr0_1) hc0_1 (Kd.C_of_reads (d := (0 : Int)) (h1 := fun _ => rfl) hr0_2) hc0_2 h ⟨rfl⟩).mono ?_
  rintro e w' ⟨rfl, hd⟩
  exact ⟨rfl, hd⟩

end Go.Proofs.Ytmgdobiloapelaa.B
