/- Written for this claim by a program of this session's own (pp.py), out of the translation; hand-made contracts among them. -/
import Derived.Test.YtmgdobiloapelaaBz
import Derived.Test.YtmgdobiloapelaaBx0
import Derived.Test.YtmgdobiloapelaaBx1
import Derived.Test.YtmgdobiloapelaaBx5
import Derived.Test.YtmgdobiloapelaaBx8
namespace Go.Proofs.Ytmgdobiloapelaa.B
open Go.RowKit Go.Proofs.YtmgdobiloapelaaW.PrintWords Go.Proofs.YtmgdobiloapelaaW.PrintLast Go.Proofs.YtmgdobiloapelaaW.PrintMore
attribute [local go_sem] max2_int min2_int max_two min_two max_three min_three max_four min_four   -- for this text's walks alone
set_option linter.unusedVariables false
set_option linter.unusedSimpArgs false

/-! ### laws_FnExactTurnsOfJobs: function 6 -/
mutual
def laws_FnExactTurnsOfJobs.j0 : Nat → List Int → Int → List Int → Int → Bool → List Int → List Int → List Int → List Int → List Int → List Int → Option (Bool)
  | 0, _, _, _, _, _, _, _, _, _, _, _ => none
  | k + 1, x4, x5, x7, x8, x40, x256000, x256001, x256002, x280000, x280001, x280002 => if x40 = true then (some false) else ((laws_toJobs.f k x256000 x256001 x256002).bind fun bt285 => ((laws_eqJobs.f k x280000 x280001 x280002 bt285.1 bt285.2.1 bt285.2.2).bind fun t294 => (if t294 = true then ((laws_markJobs.f k x280000 x280001 x280002 1).bind fun bt295 => (if bt295.1 < 0 then (laws_FnExactTurnsOfJobs.j1 k x4 x5 x7 true x256000 x256001 x256002) else ((laws_eqInt64S.f k x7 x4).bind fun t299 => (if t299 = true then (laws_FnExactTurnsOfJobs.j1 k x4 x5 x7 (x8 != x5) x256000 x256001 x256002) else (laws_FnExactTurnsOfJobs.j1 k x4 x5 x7 true x256000 x256001 x256002))))) else (some false))))
def laws_FnExactTurnsOfJobs.j1 : Nat → List Int → Int → List Int → Bool → List Int → List Int → List Int → Option (Bool)
  | 0, _, _, _, _, _, _, _ => none
  | k + 1, x4, x5, x7, x61, x256000, x256001, x256002 => if x61 = true then (some false) else ((laws_markInt64S.f k x7 1).bind fun bt300 => ((laws_heldInt64S.f k bt300.2 1).bind fun t302 => (if t302 < 0 then (some false) else (if t302 = bt300.1 then ((laws_toJobs.f k x256000 x256001 x256002).bind fun bt303 => ((impl_TurnsOfJobs.f k bt303.1 bt303.2.1 bt303.2.2).bind fun bt312 => ((laws_eqInt64S.f k bt312.1 x4).bind fun t316 => (if t316 = true then (laws_FnExactTurnsOfJobs.j2 k bt300.2 bt300.1 (bt312.2 != x5)) else (laws_FnExactTurnsOfJobs.j2 k bt300.2 bt300.1 true))))) else (some false)))))
def laws_FnExactTurnsOfJobs.j2 : Nat → List Int → Int → Bool → Option (Bool)
  | 0, _, _, _ => none
  | k + 1, x7, x10, x87 => if x87 = true then (some false) else ((laws_heldInt64S.f k x7 1).bind fun t317 => (if t317 < 0 then (some false) else (if t317 = x10 then (some true) else (some false))))
end
def laws_FnExactTurnsOfJobs.f (k : Nat) (l0_0 : List Int) (l0_1 : List Int) (l0_2 : List Int) : Option (Bool) := (laws_szJobs.f l0_0 l0_1 l0_2 1048576).bind fun t256 => (if t256 < 0 then (some true) else ((laws_toJobs.f k l0_0 l0_1 l0_2).bind fun bt257 => ((spec_TurnsOfJobs.f k bt257.1 bt257.2.1 bt257.2.2).bind fun bt266 => ((laws_toJobs.f k l0_0 l0_1 l0_2).bind fun bt270 => ((impl_TurnsOfJobs.f k bt270.1 bt270.2.1 bt270.2.2).bind fun bt280 => ((laws_eqInt64S.f k bt280.1 bt266.1).bind fun t284 => (if t284 = true then (laws_FnExactTurnsOfJobs.j0 k bt266.1 bt266.2 bt280.1 bt280.2 (bt280.2 != bt266.2) l0_0 l0_1 l0_2 bt270.1 bt270.2.1 bt270.2.2) else (laws_FnExactTurnsOfJobs.j0 k bt266.1 bt266.2 bt280.1 bt280.2 true l0_0 l0_1 l0_2 bt270.1 bt270.2.1 bt270.2.2))))))))
theorem laws_FnExactTurnsOfJobs.mono_l : ∀ k, (∀ y0 y1 y2 y3 y4 y5 y6 y7 y8 y9 y10, LeO (laws_FnExactTurnsOfJobs.j0 k y0 y1 y2 y3 y4 y5 y6 y7 y8 y9 y10) (laws_FnExactTurnsOfJobs.j0 (k + 1) y0 y1 y2 y3 y4 y5 y6 y7 y8 y9 y10)) ∧ (∀ y0 y1 y2 y3 y4 y5 y6, LeO (laws_FnExactTurnsOfJobs.j1 k y0 y1 y2 y3 y4 y5 y6) (laws_FnExactTurnsOfJobs.j1 (k + 1) y0 y1 y2 y3 y4 y5 y6)) ∧ (∀ y0 y1 y2, LeO (laws_FnExactTurnsOfJobs.j2 k y0 y1 y2) (laws_FnExactTurnsOfJobs.j2 (k + 1) y0 y1 y2))
  | 0 => ⟨fun _ _ _ _ _ _ _ _ _ _ _ r h => by simp [laws_FnExactTurnsOfJobs.j0] at h, fun _ _ _ _ _ _ _ r h => by simp [laws_FnExactTurnsOfJobs.j1] at h, fun _ _ _ r h => by simp [laws_FnExactTurnsOfJobs.j2] at h⟩
  | k + 1 => by
    obtain ⟨ih0, ih1, ih2⟩ := laws_FnExactTurnsOfJobs.mono_l k
    refine ⟨?_, ?_, ?_⟩
    · intro y0 y1 y2 y3 y4 y5 y6 y7 y8 y9 y10
      unfold laws_FnExactTurnsOfJobs.j0
      repeat' first
      | (with_reducible exact ih0 _ _ _ _ _ _ _ _ _ _ _)
      | (with_reducible exact ih1 _ _ _ _ _ _ _)
      | (with_reducible exact ih2 _ _ _)
      | (with_reducible exact impl_TurnsOfJobs.mono _ _ _ _)
      | (with_reducible exact laws_eqInt64S.mono _ _ _)
      | (with_reducible exact laws_eqJobs.mono _ _ _ _ _ _ _)
      | (with_reducible exact laws_heldInt64S.mono _ _ _)
      | (with_reducible exact laws_markInt64S.mono _ _ _)
      | (with_reducible exact laws_markJobs.mono _ _ _ _ _)
      | (with_reducible exact laws_toJobs.mono _ _ _ _)
      | (with_reducible exact spec_TurnsOfJobs.mono _ _ _ _)
      | (with_reducible exact LeO.refl _)
      | (with_reducible exact LeO.none _)
      | (with_reducible refine LeO.ite ?_ ?_)
      | (with_reducible refine LeO.bind ?_ (fun _ => ?_))
      | exact ih0 _ _ _ _ _ _ _ _ _ _ _
      | exact ih1 _ _ _ _ _ _ _
      | exact ih2 _ _ _
      | exact impl_TurnsOfJobs.mono _ _ _ _
      | exact laws_eqInt64S.mono _ _ _
      | exact laws_eqJobs.mono _ _ _ _ _ _ _
      | exact laws_heldInt64S.mono _ _ _
      | exact laws_markInt64S.mono _ _ _
      | exact laws_markJobs.mono _ _ _ _ _
      | exact laws_toJobs.mono _ _ _ _
      | exact spec_TurnsOfJobs.mono _ _ _ _
      | exact LeO.none _
      | refine LeO.ite ?_ ?_
      | refine LeO.bind ?_ (fun _ => ?_)
    · intro y0 y1 y2 y3 y4 y5 y6
      unfold laws_FnExactTurnsOfJobs.j1
      repeat' first
      | (with_reducible exact ih0 _ _ _ _ _ _ _ _ _ _ _)
      | (with_reducible exact ih1 _ _ _ _ _ _ _)
      | (with_reducible exact ih2 _ _ _)
      | (with_reducible exact impl_TurnsOfJobs.mono _ _ _ _)
      | (with_reducible exact laws_eqInt64S.mono _ _ _)
      | (with_reducible exact laws_eqJobs.mono _ _ _ _ _ _ _)
      | (with_reducible exact laws_heldInt64S.mono _ _ _)
      | (with_reducible exact laws_markInt64S.mono _ _ _)
      | (with_reducible exact laws_markJobs.mono _ _ _ _ _)
      | (with_reducible exact laws_toJobs.mono _ _ _ _)
      | (with_reducible exact spec_TurnsOfJobs.mono _ _ _ _)
      | (with_reducible exact LeO.refl _)
      | (with_reducible exact LeO.none _)
      | (with_reducible refine LeO.ite ?_ ?_)
      | (with_reducible refine LeO.bind ?_ (fun _ => ?_))
      | exact ih0 _ _ _ _ _ _ _ _ _ _ _
      | exact ih1 _ _ _ _ _ _ _
      | exact ih2 _ _ _
      | exact impl_TurnsOfJobs.mono _ _ _ _
      | exact laws_eqInt64S.mono _ _ _
      | exact laws_eqJobs.mono _ _ _ _ _ _ _
      | exact laws_heldInt64S.mono _ _ _
      | exact laws_markInt64S.mono _ _ _
      | exact laws_markJobs.mono _ _ _ _ _
      | exact laws_toJobs.mono _ _ _ _
      | exact spec_TurnsOfJobs.mono _ _ _ _
      | exact LeO.none _
      | refine LeO.ite ?_ ?_
      | refine LeO.bind ?_ (fun _ => ?_)
    intro y0 y1 y2
    unfold laws_FnExactTurnsOfJobs.j2
    repeat' first
    | (with_reducible exact ih0 _ _ _ _ _ _ _ _ _ _ _)
    | (with_reducible exact ih1 _ _ _ _ _ _ _)
    | (with_reducible exact ih2 _ _ _)
    | (with_reducible exact impl_TurnsOfJobs.mono _ _ _ _)
    | (with_reducible exact laws_eqInt64S.mono _ _ _)
    | (with_reducible exact laws_eqJobs.mono _ _ _ _ _ _ _)
    | (with_reducible exact laws_heldInt64S.mono _ _ _)
    | (with_reducible exact laws_markInt64S.mono _ _ _)
    | (with_reducible exact laws_markJobs.mono _ _ _ _ _)
    | (with_reducible exact laws_toJobs.mono _ _ _ _)
    | (with_reducible exact spec_TurnsOfJobs.mono _ _ _ _)
    | (with_reducible exact LeO.refl _)
    | (with_reducible exact LeO.none _)
    | (with_reducible refine LeO.ite ?_ ?_)
    | (with_reducible refine LeO.bind ?_ (fun _ => ?_))
    | exact ih0 _ _ _ _ _ _ _ _ _ _ _
    | exact ih1 _ _ _ _ _ _ _
    | exact ih2 _ _ _
    | exact impl_TurnsOfJobs.mono _ _ _ _
    | exact laws_eqInt64S.mono _ _ _
    | exact laws_eqJobs.mono _ _ _ _ _ _ _
    | exact laws_heldInt64S.mono _ _ _
    | exact laws_markInt64S.mono _ _ _
    | exact laws_markJobs.mono _ _ _ _ _
    | exact laws_toJobs.mono _ _ _ _
    | exact spec_TurnsOfJobs.mono _ _ _ _
    | exact LeO.none _
    | refine LeO.ite ?_ ?_
    | refine LeO.bind ?_ (fun _ => ?_)
theorem laws_FnExactTurnsOfJobs.mono : ∀ a0 a1 a2 k, LeO (laws_FnExactTurnsOfJobs.f k a0 a1 a2) (laws_FnExactTurnsOfJobs.f (k + 1) a0 a1 a2) := by
  intro a0 a1 a2 k
  obtain ⟨ih0, ih1, ih2⟩ := laws_FnExactTurnsOfJobs.mono_l k
  unfold laws_FnExactTurnsOfJobs.f
  repeat' first
      | (with_reducible exact ih0 _ _ _ _ _ _ _ _ _ _ _)
      | (with_reducible exact ih1 _ _ _ _ _ _ _)
      | (with_reducible exact ih2 _ _ _)
      | (with_reducible exact impl_TurnsOfJobs.mono _ _ _ _)
      | (with_reducible exact laws_eqInt64S.mono _ _ _)
      | (with_reducible exact laws_eqJobs.mono _ _ _ _ _ _ _)
      | (with_reducible exact laws_heldInt64S.mono _ _ _)
      | (with_reducible exact laws_markInt64S.mono _ _ _)
      | (with_reducible exact laws_markJobs.mono _ _ _ _ _)
      | (with_reducible exact laws_toJobs.mono _ _ _ _)
      | (with_reducible exact spec_TurnsOfJobs.mono _ _ _ _)
      | (with_reducible exact LeO.refl _)
      | (with_reducible exact LeO.none _)
      | (with_reducible refine LeO.ite ?_ ?_)
      | (with_reducible refine LeO.bind ?_ (fun _ => ?_))
      | exact ih0 _ _ _ _ _ _ _ _ _ _ _
      | exact ih1 _ _ _ _ _ _ _
      | exact ih2 _ _ _
      | exact impl_TurnsOfJobs.mono _ _ _ _
      | exact laws_eqInt64S.mono _ _ _
      | exact laws_eqJobs.mono _ _ _ _ _ _ _
      | exact laws_heldInt64S.mono _ _ _
      | exact laws_markInt64S.mono _ _ _
      | exact laws_markJobs.mono _ _ _ _ _
      | exact laws_toJobs.mono _ _ _ _
      | exact spec_TurnsOfJobs.mono _ _ _ _
      | exact LeO.none _
      | refine LeO.ite ?_ ?_
      | refine LeO.bind ?_ (fun _ => ?_)
set_option maxHeartbeats 8000000 in
set_option maxRecDepth 100000 in
theorem laws_FnExactTurnsOfJobs.calls (k : Nat) (A0_0 : Option Addr) (c0_0 : Nat) (l0_0 : List Int) (A0_1 : Option Addr) (c0_1 : Nat) (l0_1 : List Int) (A0_2 : Option Addr) (c0_2 : Nat) (l0_2 : List Int) (r : Bool) (w : World) (hr0_0 : Kd.C (Kd.int .i64) w A0_0 l0_0.length l0_0) (hc0_0 : l0_0.length ≤ c0_0) (hr0_1 : Kd.C (Kd.int .i64) w A0_1 l0_1.length l0_1) (hc0_1 : l0_1.length ≤ c0_1) (hr0_2 : Kd.C (Kd.int .i64) w A0_2 l0_2.length l0_2) (hc0_2 : l0_2.length ≤ c0_2) (h : laws_FnExactTurnsOfJobs.f k l0_0 l0_1 l0_2 = some r) (hr_ : Aside0 (r = true)) :
    Calls Try.prog 6 #[.agg #[.slice A0_0 l0_0.length c0_0, .slice A0_1 l0_1.length c0_1, .slice A0_2 l0_2.length c0_2]] w fun e w' => e = .returned (.bool r) ∧ Below w.heap.size w w' := by
  have hu24 := Try.underlying24
  have hu28 := Try.underlying28
  have HR0_0 := Aside0.mk hr0_0
  have HC0_0 := Aside0.mk hc0_0
  clear hr0_0 hc0_0
  have HR0_1 := Aside0.mk hr0_1
  have HC0_1 := Aside0.mk hc0_1
  clear hr0_1 hc0_1
  have HR0_2 := Aside0.mk hr0_2
  have HC0_2 := Aside0.mk hc0_2
  clear hr0_2 hc0_2
  have HB := Aside0.mk (Below.refl w.heap.size w)
  have H : ((laws_szJobs.f l0_0 l0_1 l0_2 1048576).bind fun t256 => (if t256 < 0 then (some true) else ((laws_toJobs.f k l0_0 l0_1 l0_2).bind fun bt257 => ((spec_TurnsOfJobs.f k bt257.1 bt257.2.1 bt257.2.2).bind fun bt266 => ((laws_toJobs.f k l0_0 l0_1 l0_2).bind fun bt270 => ((impl_TurnsOfJobs.f k bt270.1 bt270.2.1 bt270.2.2).bind fun bt280 => ((laws_eqInt64S.f k bt280.1 bt266.1).bind fun t284 => (if t284 = true then (laws_FnExactTurnsOfJobs.j0 k bt266.1 bt266.2 bt280.1 bt280.2 (bt280.2 != bt266.2) l0_0 l0_1 l0_2 bt270.1 bt270.2.1 bt270.2.2) else (laws_FnExactTurnsOfJobs.j0 k bt266.1 bt266.2 bt280.1 bt280.2 true l0_0 l0_1 l0_2 bt270.1 bt270.2.1 bt270.2.2))))))))) = some r := h
  clear h
  replace H := Option.bind_eq_some_iff.mp H
  obtain ⟨t256, A20, H⟩ := H
  replace H : (if t256 < 0 then (some true) else ((laws_toJobs.f k l0_0 l0_1 l0_2).bind fun bt257 => ((spec_TurnsOfJobs.f k bt257.1 bt257.2.1 bt257.2.2).bind fun bt266 => ((laws_toJobs.f k l0_0 l0_1 l0_2).bind fun bt270 => ((impl_TurnsOfJobs.f k bt270.1 bt270.2.1 bt270.2.2).bind fun bt280 => ((laws_eqInt64S.f k bt280.1 bt266.1).bind fun t284 => (if t284 = true then (laws_FnExactTurnsOfJobs.j0 k bt266.1 bt266.2 bt280.1 bt280.2 (bt280.2 != bt266.2) l0_0 l0_1 l0_2 bt270.1 bt270.2.1 bt270.2.2) else (laws_FnExactTurnsOfJobs.j0 k bt266.1 bt266.2 bt280.1 bt280.2 true l0_0 l0_1 l0_2 bt270.1 bt270.2.1 bt270.2.2)))))))) = some r := H
  have A2 := Aside0.mk A20
  clear A20
  by_cases c3 : t256 < 0
  · rw [if_pos c3] at H
    have c3b0 : decide (t256 < 0) = true := decide_eq_true c3
    clear c3
    obtain rfl := Option.some.inj H
    go_enter Try.func6, Try.ntmps6
    go_wp2_with (first | ((with_reducible refine gate_dst (N := 1) rfl ?_); refine box_event ?hg (N := 1) ?hd (cs := #[.slice A0_0 l0_0.length c0_0, .slice A0_1 l0_1.length c0_1, .slice A0_2 l0_2.length c0_2]) (t := 24) ?hr ?_; (case hd => rfl); (case hg => rfl); (case hr => first | (go_simp; done) | (go_simp; rfl)); intro gb255 hg w4 hbox hb; have n0_ := Aside0.mk (below_step zq22 hb); have n1_ := Aside0.mk (hbox); have n2_ := Aside0.mk ((by rw [hg]; exact (below_size zq22) : w.heap.size ≤ gb255)); have n3_ := Aside0.mk ((by rw [hg]; exact (below_size zq22) : w.heap.size ≤ gb255)); clear HB; have HB := n0_; have BK255 := n1_; have GW255 := n2_; have GE255 := n3_; clear n0_ n1_ n2_ n3_; clear hb hbox hg; have hcz5_0 : w4.cell? ⟨gb255, 0, none⟩ = some (.slice A0_0 l0_0.length c0_0) := (blk_cell BK255.out 0).trans rfl; have hcz5_1 : w4.cell? ⟨gb255, 1, none⟩ = some (.slice A0_1 l0_1.length c0_1) := (blk_cell BK255.out 1).trans rfl; have hcz5_2 : w4.cell? ⟨gb255, 2, none⟩ = some (.slice A0_2 l0_2.length c0_2) := (blk_cell BK255.out 2).trans rfl; have hfz5_0 := blk_frozen BK255.out 0; have hfz5_1 := blk_frozen BK255.out 1; have hfz5_2 := blk_frozen BK255.out 2) | ((with_reducible refine gate_callee (f := 13) rfl ?_); refine goesL_ (some 16) rfl rfl Try.func13 (by kernel_rfl) rfl #[.agg #[.slice A0_0 l0_0.length c0_0, .slice A0_1 l0_1.length c0_1, .slice A0_2 l0_2.length c0_2], .int .i64 1048576] rfl zq19 ?_; (with_reducible refine (laws_szJobs.calls _ _ l0_0 _ _ l0_1 _ _ l0_2 1048576 t256 _ ?side1 ?side2 ?side3 ?side4 ?side5 ?side6 A2.out).mono ?_); (case side1 => repeat (first | exact (Kd.C_below HR0_0.out HB.out) | (with_reducible refine Kd.C_alloc ?_ _) | (with_reducible refine Kd.C_drewN ?_ _) | (with_reducible refine Kd.C_drew ?_))); (case side2 => exact HC0_0.out); (case side3 => repeat (first | exact (Kd.C_below HR0_1.out HB.out) | (with_reducible refine Kd.C_alloc ?_ _) | (with_reducible refine Kd.C_drewN ?_ _) | (with_reducible refine Kd.C_drew ?_))); (case side4 => exact HC0_1.out); (case side5 => repeat (first | exact (Kd.C_below HR0_2.out HB.out) | (with_reducible refine Kd.C_alloc ?_ _) | (with_reducible refine Kd.C_drewN ?_ _) | (with_reducible refine Kd.C_drew ?_))); (case side6 => exact HC0_2.out); rintro e w6 ⟨rfl, hb⟩; refine ⟨_, rfl, ?_⟩; have n0_ := Aside0.mk (blk_below (g := gb255) (o := .cells #[.slice A0_0 l0_0.length c0_0, .slice A0_1 l0_1.length c0_1, .slice A0_2 l0_2.length c0_2] 24 (0, 0)) zq46 hb); have n1_ := Aside0.mk (below_step zq16 hb); clear BK255; clear HB; have BK255 := n0_; have HB := n1_; clear n0_ n1_; (try clear hb); (try clear hb2); (try clear hk); (try clear hi)))
    go_ret
    exact ⟨by first | rfl | (simp [errW_none, errW_some] <;> rfl) | (simp [*, errW_none, errW_some] <;> rfl), by repeat (first | (with_reducible first | exact HB.out | apply below_alloc | apply pw_below_drewN | apply below_drew1 | refine below_set ?_ GE255.out) | exact HB.out)⟩
  rw [if_neg c3] at H
  have c3b0 : decide (t256 < 0) = false := decide_eq_false c3
  clear c3
  replace H := Option.bind_eq_some_iff.mp H
  obtain ⟨⟨t257, t260, t263⟩, A70, H⟩ := H
  replace H : ((spec_TurnsOfJobs.f k t257 t260 t263).bind fun bt266 => ((laws_toJobs.f k l0_0 l0_1 l0_2).bind fun bt270 => ((impl_TurnsOfJobs.f k bt270.1 bt270.2.1 bt270.2.2).bind fun bt280 => ((laws_eqInt64S.f k bt280.1 bt266.1).bind fun t284 => (if t284 = true then (laws_FnExactTurnsOfJobs.j0 k bt266.1 bt266.2 bt280.1 bt280.2 (bt280.2 != bt266.2) l0_0 l0_1 l0_2 bt270.1 bt270.2.1 bt270.2.2) else (laws_FnExactTurnsOfJobs.j0 k bt266.1 bt266.2 bt280.1 bt280.2 true l0_0 l0_1 l0_2 bt270.1 bt270.2.1 bt270.2.2)))))) = some r := H
  have A7 := Aside0.mk A70
  clear A70
  replace H := Option.bind_eq_some_iff.mp H
  obtain ⟨⟨t266, t269⟩, A80, H⟩ := H
  replace H : ((laws_toJobs.f k l0_0 l0_1 l0_2).bind fun bt270 => ((impl_TurnsOfJobs.f k bt270.1 bt270.2.1 bt270.2.2).bind fun bt280 => ((laws_eqInt64S.f k bt280.1 t266).bind fun t284 => (if t284 = true then (laws_FnExactTurnsOfJobs.j0 k t266 t269 bt280.1 bt280.2 (bt280.2 != t269) l0_0 l0_1 l0_2 bt270.1 bt270.2.1 bt270.2.2) else (laws_FnExactTurnsOfJobs.j0 k t266 t269 bt280.1 bt280.2 true l0_0 l0_1 l0_2 bt270.1 bt270.2.1 bt270.2.2))))) = some r := H
  have A8 := Aside0.mk A80
  clear A80
  replace H := Option.bind_eq_some_iff.mp H
  obtain ⟨⟨t270, t273, t276⟩, A90, H⟩ := H
  replace H : ((impl_TurnsOfJobs.f k t270 t273 t276).bind fun bt280 => ((laws_eqInt64S.f k bt280.1 t266).bind fun t284 => (if t284 = true then (laws_FnExactTurnsOfJobs.j0 k t266 t269 bt280.1 bt280.2 (bt280.2 != t269) l0_0 l0_1 l0_2 t270 t273 t276) else (laws_FnExactTurnsOfJobs.j0 k t266 t269 bt280.1 bt280.2 true l0_0 l0_1 l0_2 t270 t273 t276)))) = some r := H
  have A9 := Aside0.mk A90
  clear A90
  replace H := Option.bind_eq_some_iff.mp H
  obtain ⟨⟨t280, t283⟩, A100, H⟩ := H
  replace H : ((laws_eqInt64S.f k t280 t266).bind fun t284 => (if t284 = true then (laws_FnExactTurnsOfJobs.j0 k t266 t269 t280 t283 (t283 != t269) l0_0 l0_1 l0_2 t270 t273 t276) else (laws_FnExactTurnsOfJobs.j0 k t266 t269 t280 t283 true l0_0 l0_1 l0_2 t270 t273 t276))) = some r := H
  have A10 := Aside0.mk A100
  clear A100
  have HC11 := Aside0.mk H
  clear H
  go_enter Try.func6, Try.ntmps6
  go_upto_region 8 with (first | ((with_reducible refine gate_dst (N := 1) rfl ?_); refine box_event ?hg (N := 1) ?hd (cs := #[.slice A0_0 l0_0.length c0_0, .slice A0_1 l0_1.length c0_1, .slice A0_2 l0_2.length c0_2]) (t := 24) ?hr ?_; (case hd => rfl); (case hg => rfl); (case hr => first | (go_simp; done) | (go_simp; rfl)); intro gb255 hg w12 hbox hb; have n0_ := Aside0.mk (below_step zq22 hb); have n1_ := Aside0.mk (hbox); have n2_ := Aside0.mk ((by rw [hg]; exact (below_size zq22) : w.heap.size ≤ gb255)); have n3_ := Aside0.mk ((by rw [hg]; exact (below_size zq22) : w.heap.size ≤ gb255)); clear HB; have HB := n0_; have BK255 := n1_; have GW255 := n2_; have GE255 := n3_; clear n0_ n1_ n2_ n3_; clear hb hbox hg; have hcz13_0 : w12.cell? ⟨gb255, 0, none⟩ = some (.slice A0_0 l0_0.length c0_0) := (blk_cell BK255.out 0).trans rfl; have hcz13_1 : w12.cell? ⟨gb255, 1, none⟩ = some (.slice A0_1 l0_1.length c0_1) := (blk_cell BK255.out 1).trans rfl; have hcz13_2 : w12.cell? ⟨gb255, 2, none⟩ = some (.slice A0_2 l0_2.length c0_2) := (blk_cell BK255.out 2).trans rfl; have hfz13_0 := blk_frozen BK255.out 0; have hfz13_1 := blk_frozen BK255.out 1; have hfz13_2 := blk_frozen BK255.out 2) | ((with_reducible refine gate_callee (f := 13) rfl ?_); refine goesL_ (some 16) rfl rfl Try.func13 (by kernel_rfl) rfl #[.agg #[.slice A0_0 l0_0.length c0_0, .slice A0_1 l0_1.length c0_1, .slice A0_2 l0_2.length c0_2], .int .i64 1048576] rfl zq19 ?_; (with_reducible refine (laws_szJobs.calls _ _ l0_0 _ _ l0_1 _ _ l0_2 1048576 t256 _ ?side1 ?side2 ?side3 ?side4 ?side5 ?side6 A2.out).mono ?_); (case side1 => repeat (first | exact (Kd.C_below HR0_0.out HB.out) | (with_reducible refine Kd.C_alloc ?_ _) | (with_reducible refine Kd.C_drewN ?_ _) | (with_reducible refine Kd.C_drew ?_))); (case side2 => exact HC0_0.out); (case side3 => repeat (first | exact (Kd.C_below HR0_1.out HB.out) | (with_reducible refine Kd.C_alloc ?_ _) | (with_reducible refine Kd.C_drewN ?_ _) | (with_reducible refine Kd.C_drew ?_))); (case side4 => exact HC0_1.out); (case side5 => repeat (first | exact (Kd.C_below HR0_2.out HB.out) | (with_reducible refine Kd.C_alloc ?_ _) | (with_reducible refine Kd.C_drewN ?_ _) | (with_reducible refine Kd.C_drew ?_))); (case side6 => exact HC0_2.out); rintro e w14 ⟨rfl, hb⟩; refine ⟨_, rfl, ?_⟩; have n0_ := Aside0.mk (blk_below (g := gb255) (o := .cells #[.slice A0_0 l0_0.length c0_0, .slice A0_1 l0_1.length c0_1, .slice A0_2 l0_2.length c0_2] 24 (0, 0)) zq46 hb); have n1_ := Aside0.mk (below_step zq16 hb); clear BK255; clear HB; have BK255 := n0_; have HB := n1_; clear n0_ n1_; (try clear hb); (try clear hb2); (try clear hk); (try clear hi); have hcz15_0 : w14.cell? ⟨gb255, 0, none⟩ = some (.slice A0_0 l0_0.length c0_0) := (blk_cell BK255.out 0).trans rfl; have hcz15_1 : w14.cell? ⟨gb255, 1, none⟩ = some (.slice A0_1 l0_1.length c0_1) := (blk_cell BK255.out 1).trans rfl; have hcz15_2 : w14.cell? ⟨gb255, 2, none⟩ = some (.slice A0_2 l0_2.length c0_2) := (blk_cell BK255.out 2).trans rfl; have hfz15_0 := blk_frozen BK255.out 0; have hfz15_1 := blk_frozen BK255.out 1; have hfz15_2 := blk_frozen BK255.out 2) | ((with_reducible refine gate_callee (f := 15) rfl ?_); refine goesL_ (some 21) rfl rfl Try.func15 (by kernel_rfl) rfl #[.agg #[.slice A0_0 l0_0.length c0_0, .slice A0_1 l0_1.length c0_1, .slice A0_2 l0_2.length c0_2]] rfl zq19 ?_; (with_reducible refine (laws_toJobs.calls k _ _ l0_0 _ _ l0_1 _ _ l0_2 t257 t260 t263 _ ?side1 ?side2 ?side3 ?side4 ?side5 ?side6 A7.out).mono ?_); (case side1 => repeat (first | exact (Kd.C_below HR0_0.out HB.out) | (with_reducible refine Kd.C_alloc ?_ _) | (with_reducible refine Kd.C_drewN ?_ _) | (with_reducible refine Kd.C_drew ?_))); (case side2 => exact HC0_0.out); (case side3 => repeat (first | exact (Kd.C_below HR0_1.out HB.out) | (with_reducible refine Kd.C_alloc ?_ _) | (with_reducible refine Kd.C_drewN ?_ _) | (with_reducible refine Kd.C_drew ?_))); (case side4 => exact HC0_1.out); (case side5 => repeat (first | exact (Kd.C_below HR0_2.out HB.out) | (with_reducible refine Kd.C_alloc ?_ _) | (with_reducible refine Kd.C_drewN ?_ _) | (with_reducible refine Kd.C_drew ?_))); (case side6 => exact HC0_2.out); rintro e w16 ⟨v258, v261, v264, rfl, ho0, ho1, ho2, hb⟩; refine ⟨_, rfl, ?_⟩; have n0_ := Aside0.mk (Kd.R_lower ho0 (below_size zq16)); have n1_ := Aside0.mk (Kd.R_lower ho1 (below_size zq16)); have n2_ := Aside0.mk (Kd.R_lower ho2 (below_size zq16)); have n3_ := Aside0.mk (blk_below (g := gb255) (o := .cells #[.slice A0_0 l0_0.length c0_0, .slice A0_1 l0_1.length c0_1, .slice A0_2 l0_2.length c0_2] 24 (0, 0)) zq46 hb); have n4_ := Aside0.mk (below_step zq16 hb); clear BK255; clear HB; have HO259 := n0_; have HO262 := n1_; have HO265 := n2_; have BK255 := n3_; have HB := n4_; clear n0_ n1_ n2_ n3_ n4_; (try clear hb); (try clear hb2); (try clear hk); (try clear hi); (try clear ho0); (try clear ho1); (try clear ho2); obtain ⟨Ao17, co17, eo17⟩ := Kd.R_slice HO259.out; subst eo17; obtain ⟨Ao18, co18, eo18⟩ := Kd.R_slice HO262.out; subst eo18; obtain ⟨Ao19, co19, eo19⟩ := Kd.R_slice HO265.out; subst eo19) | ((with_reducible refine gate_callee (f := 27) rfl ?_); refine goesL_ (some 22) rfl rfl Try.func27 (by kernel_rfl) rfl #[.agg #[.slice Ao17 t257.length co17, .slice Ao18 t260.length co18, .slice Ao19 t263.length co19]] rfl zq19 ?_; (with_reducible refine (spec_TurnsOfJobs.calls k _ _ t257 _ _ t260 _ _ t263 t266 t269 _ ?side1 ?side2 ?side3 ?side4 ?side5 ?side6 A8.out).mono ?_); (case side1 => repeat (first | exact (Kd.R_reads' HO259.out).2.2 | (with_reducible refine Kd.C_alloc ?_ _) | (with_reducible refine Kd.C_drewN ?_ _) | (with_reducible refine Kd.C_drew ?_))); (case side2 => exact (Kd.R_reads' HO259.out).2.1); (case side3 => repeat (first | exact (Kd.R_reads' HO262.out).2.2 | (with_reducible refine Kd.C_alloc ?_ _) | (with_reducible refine Kd.C_drewN ?_ _) | (with_reducible refine Kd.C_drew ?_))); (case side4 => exact (Kd.R_reads' HO262.out).2.1); (case side5 => repeat (first | exact (Kd.R_reads' HO265.out).2.2 | (with_reducible refine Kd.C_alloc ?_ _) | (with_reducible refine Kd.C_drewN ?_ _) | (with_reducible refine Kd.C_drew ?_))); (case side6 => exact (Kd.R_reads' HO265.out).2.1); rintro e w20 ⟨v267, rfl, ho0, hb⟩; refine ⟨_, rfl, ?_⟩; have n0_ := Aside0.mk (Kd.R_elder' zq62 (Kd.R_base ho0) hb); have n1_ := Aside0.mk (Kd.R_elder' zq63 (Kd.R_base ho0) hb); have n2_ := Aside0.mk (Kd.R_elder' zq64 (Kd.R_base ho0) hb); have n3_ := Aside0.mk (Kd.R_lower (Kd.R_new' (Kd.R_new' (Kd.R_new' ho0 (Kd.R_lt zq62)) (Kd.R_lt zq63)) (Kd.R_lt zq64)) (below_size zq16)); have n4_ := Aside0.mk (blk_below (g := gb255) (o := .cells #[.slice A0_0 l0_0.length c0_0, .slice A0_1 l0_1.length c0_1, .slice A0_2 l0_2.length c0_2] 24 (0, 0)) zq46 hb); have n5_ := Aside0.mk (below_step zq16 hb); clear HO259; clear HO262; clear HO265; clear BK255; clear HB; have HO259 := n0_; have HO262 := n1_; have HO265 := n2_; have HO268 := n3_; have BK255 := n4_; have HB := n5_; clear n0_ n1_ n2_ n3_ n4_ n5_; (try clear hb); (try clear hb2); (try clear hk); (try clear hi); (try clear ho0); have hcz21_0 : w20.cell? ⟨gb255, 0, none⟩ = some (.slice A0_0 l0_0.length c0_0) := (blk_cell BK255.out 0).trans rfl; have hcz21_1 : w20.cell? ⟨gb255, 1, none⟩ = some (.slice A0_1 l0_1.length c0_1) := (blk_cell BK255.out 1).trans rfl; have hcz21_2 : w20.cell? ⟨gb255, 2, none⟩ = some (.slice A0_2 l0_2.length c0_2) := (blk_cell BK255.out 2).trans rfl; have hfz21_0 := blk_frozen BK255.out 0; have hfz21_1 := blk_frozen BK255.out 1; have hfz21_2 := blk_frozen BK255.out 2) | ((with_reducible refine gate_callee (f := 15) rfl ?_); refine goesL_ (some 26) rfl rfl Try.func15 (by kernel_rfl) rfl #[.agg #[.slice A0_0 l0_0.length c0_0, .slice A0_1 l0_1.length c0_1, .slice A0_2 l0_2.length c0_2]] rfl zq19 ?_; (with_reducible refine (laws_toJobs.calls k _ _ l0_0 _ _ l0_1 _ _ l0_2 t270 t273 t276 _ ?side1 ?side2 ?side3 ?side4 ?side5 ?side6 A9.out).mono ?_); (case side1 => repeat (first | exact (Kd.C_below HR0_0.out HB.out) | (with_reducible refine Kd.C_alloc ?_ _) | (with_reducible refine Kd.C_drewN ?_ _) | (with_reducible refine Kd.C_drew ?_))); (case side2 => exact HC0_0.out); (case side3 => repeat (first | exact (Kd.C_below HR0_1.out HB.out) | (with_reducible refine Kd.C_alloc ?_ _) | (with_reducible refine Kd.C_drewN ?_ _) | (with_reducible refine Kd.C_drew ?_))); (case side4 => exact HC0_1.out); (case side5 => repeat (first | exact (Kd.C_below HR0_2.out HB.out) | (with_reducible refine Kd.C_alloc ?_ _) | (with_reducible refine Kd.C_drewN ?_ _) | (with_reducible refine Kd.C_drew ?_))); (case side6 => exact HC0_2.out); rintro e w22 ⟨v271, v274, v277, rfl, ho0, ho1, ho2, hb⟩; refine ⟨_, rfl, ?_⟩; have n0_ := Aside0.mk (Kd.R_mono (Kd.R_told (Kd.R_told (Kd.R_told (Kd.R_old zq62 hb) (Kd.R_base ho0)) (Kd.R_base ho1)) (Kd.R_base ho2)) (fun _ h_ => h_.1)); have n1_ := Aside0.mk (Kd.R_mono (Kd.R_told (Kd.R_told (Kd.R_told (Kd.R_old zq63 hb) (Kd.R_base ho0)) (Kd.R_base ho1)) (Kd.R_base ho2)) (fun _ h_ => h_.1)); have n2_ := Aside0.mk (Kd.R_mono (Kd.R_told (Kd.R_told (Kd.R_told (Kd.R_old zq64 hb) (Kd.R_base ho0)) (Kd.R_base ho1)) (Kd.R_base ho2)) (fun _ h_ => h_.1)); have n3_ := Aside0.mk (Kd.R_mono (Kd.R_told (Kd.R_told (Kd.R_told (Kd.R_old zq65 hb) (Kd.R_base ho0)) (Kd.R_base ho1)) (Kd.R_base ho2)) (fun _ h_ => h_.1)); have n4_ := Aside0.mk (Kd.R_lower (Kd.R_new' (Kd.R_new' (Kd.R_new' (Kd.R_new' ho0 (Kd.R_lt zq62)) (Kd.R_lt zq63)) (Kd.R_lt zq64)) (Kd.R_lt zq65)) (below_size zq16)); have n5_ := Aside0.mk (Kd.R_lower (Kd.R_new' (Kd.R_new' (Kd.R_new' (Kd.R_new' ho1 (Kd.R_lt zq62)) (Kd.R_lt zq63)) (Kd.R_lt zq64)) (Kd.R_lt zq65)) (below_size zq16)); have n6_ := Aside0.mk (Kd.R_lower (Kd.R_new' (Kd.R_new' (Kd.R_new' (Kd.R_new' ho2 (Kd.R_lt zq62)) (Kd.R_lt zq63)) (Kd.R_lt zq64)) (Kd.R_lt zq65)) (below_size zq16)); have n7_ := Aside0.mk (blk_below (g := gb255) (o := .cells #[.slice A0_0 l0_0.length c0_0, .slice A0_1 l0_1.length c0_1, .slice A0_2 l0_2.length c0_2] 24 (0, 0)) zq46 hb); have n8_ := Aside0.mk (below_step zq16 hb); clear HO259; clear HO262; clear HO265; clear HO268; clear BK255; clear HB; have HO259 := n0_; have HO262 := n1_; have HO265 := n2_; have HO268 := n3_; have HO272 := n4_; have HO275 := n5_; have HO278 := n6_; have BK255 := n7_; have HB := n8_; clear n0_ n1_ n2_ n3_ n4_ n5_ n6_ n7_ n8_; (try clear hb); (try clear hb2); (try clear hk); (try clear hi); (try clear ho0); (try clear ho1); (try clear ho2)) | ((with_reducible refine gate_dst (N := 6) rfl ?_); refine box_event ?hg (N := 6) ?hd (cs := #[.slice none 0 0, .slice none 0 0, .slice none 0 0]) (t := 28) ?hr ?_; (case hd => rfl); (case hg => rfl); (case hr => first | (go_simp; done) | (go_simp; rfl)); intro gb279 hg w23 hbox hb; have n0_ := Aside0.mk (Kd.R_below zq62 hb); have n1_ := Aside0.mk (Kd.R_below zq63 hb); have n2_ := Aside0.mk (Kd.R_below zq64 hb); have n3_ := Aside0.mk (Kd.R_below zq65 hb); have n4_ := Aside0.mk (Kd.R_below (by (with_reducible repeat (first | apply Kd.R_alloc | apply Kd.R_drewN | apply Kd.R_drew)); exact HO272.out) hb); have n5_ := Aside0.mk (Kd.R_below (by (with_reducible repeat (first | apply Kd.R_alloc | apply Kd.R_drewN | apply Kd.R_drew)); exact HO275.out) hb); have n6_ := Aside0.mk (Kd.R_below (by (with_reducible repeat (first | apply Kd.R_alloc | apply Kd.R_drewN | apply Kd.R_drew)); exact HO278.out) hb); have n7_ := Aside0.mk (blk_below (g := gb255) (o := .cells #[.slice A0_0 l0_0.length c0_0, .slice A0_1 l0_1.length c0_1, .slice A0_2 l0_2.length c0_2] 24 (0, 0)) zq46 hb); have n8_ := Aside0.mk (below_step zq16 hb); have n9_ := Aside0.mk (hbox); have n10_ := Aside0.mk ((by rw [hg]; exact (below_size zq16) : w.heap.size ≤ gb279)); have n11_ := Aside0.mk ((by rw [hg]; exact (below_size zq16) : w.heap.size ≤ gb279)); have n12_ := Aside0.mk ((by rw [hg]; exact Nat.ne_of_lt (blk_lt (g := gb255) (o := .cells #[.slice A0_0 l0_0.length c0_0, .slice A0_1 l0_1.length c0_1, .slice A0_2 l0_2.length c0_2] 24 (0, 0)) zq46) : gb255 ≠ gb279)); have n13_ := Aside0.mk ((by rw [hg]; exact Nat.ne_of_gt (blk_lt (g := gb255) (o := .cells #[.slice A0_0 l0_0.length c0_0, .slice A0_1 l0_1.length c0_1, .slice A0_2 l0_2.length c0_2] 24 (0, 0)) zq46) : gb279 ≠ gb255)); clear HO259; clear HO262; clear HO265; clear HO268; clear HO272; clear HO275; clear HO278; clear BK255; clear HB; have HO259 := n0_; have HO262 := n1_; have HO265 := n2_; have HO268 := n3_; have HO272 := n4_; have HO275 := n5_; have HO278 := n6_; have BK255 := n7_; have HB := n8_; have BK279 := n9_; have GW279 := n10_; have GE279 := n11_; have NB255_279 := n12_; have NB279_255 := n13_; clear n0_ n1_ n2_ n3_ n4_ n5_ n6_ n7_ n8_ n9_ n10_ n11_ n12_ n13_; clear hb hbox hg; obtain ⟨Ao24, co24, eo24⟩ := Kd.R_slice HO272.out; subst eo24; have hnb25 := NB279_255.out; have hnc25 := NB255_279.out; have hcz26_0 : w23.cell? ⟨gb279, 0, none⟩ = some (.slice none 0 0) := (blk_cell BK279.out 0).trans rfl; have hcz26_1 : w23.cell? ⟨gb279, 1, none⟩ = some (.slice none 0 0) := (blk_cell BK279.out 1).trans rfl; have hcz26_2 : w23.cell? ⟨gb279, 2, none⟩ = some (.slice none 0 0) := (blk_cell BK279.out 2).trans rfl; have hfz26_0 := blk_frozen BK279.out 0; have hfz26_1 := blk_frozen BK279.out 1; have hfz26_2 := blk_frozen BK279.out 2; obtain ⟨Ao27, co27, eo27⟩ := Kd.R_slice HO275.out; subst eo27; obtain ⟨Ao28, co28, eo28⟩ := Kd.R_slice HO278.out; subst eo28) | ((with_reducible refine gate_callee (f := 28) rfl ?_); refine goesL_ (some 29) rfl rfl Try.func28 (by kernel_rfl) rfl #[.agg #[.slice Ao24 t270.length co24, .slice Ao27 t273.length co27, .slice Ao28 t276.length co28]] rfl zq19 ?_; (with_reducible refine (impl_TurnsOfJobs.calls k _ _ t270 _ _ t273 _ _ t276 t280 t283 _ ?side1 ?side2 ?side3 ?side4 ?side5 ?side6 A10.out).mono ?_); (case side1 => refine (Kd.R_reads' (e := 2) (base := w.heap.size) (ok := fun k_ => (((((some k_ ≠ (.slice Ao27 t273.length co27 : Value).ownBlock ∧ some k_ ≠ (.slice Ao28 t276.length co28 : Value).ownBlock) ∧ some k_ ≠ (.slice Ao17 t257.length co17 : Value).ownBlock) ∧ some k_ ≠ (.slice Ao18 t260.length co18 : Value).ownBlock) ∧ some k_ ≠ (.slice Ao19 t263.length co19 : Value).ownBlock) ∧ some k_ ≠ (v267 : Value).ownBlock)) (n := t270.length) (c := co24) ?_).2.2; exact zq3); (case side2 => exact (Kd.R_reads' HO272.out).2.1); (case side3 => refine (Kd.R_reads' (e := 2) (base := w.heap.size) (ok := fun k_ => (((((some k_ ≠ (.slice Ao24 t270.length co24 : Value).ownBlock ∧ some k_ ≠ (.slice Ao28 t276.length co28 : Value).ownBlock) ∧ some k_ ≠ (.slice Ao17 t257.length co17 : Value).ownBlock) ∧ some k_ ≠ (.slice Ao18 t260.length co18 : Value).ownBlock) ∧ some k_ ≠ (.slice Ao19 t263.length co19 : Value).ownBlock) ∧ some k_ ≠ (v267 : Value).ownBlock)) (n := t273.length) (c := co27) ?_).2.2; exact zq4); (case side4 => exact (Kd.R_reads' HO275.out).2.1); (case side5 => refine (Kd.R_reads' (e := 2) (base := w.heap.size) (ok := fun k_ => (((((some k_ ≠ (.slice Ao24 t270.length co24 : Value).ownBlock ∧ some k_ ≠ (.slice Ao27 t273.length co27 : Value).ownBlock) ∧ some k_ ≠ (.slice Ao17 t257.length co17 : Value).ownBlock) ∧ some k_ ≠ (.slice Ao18 t260.length co18 : Value).ownBlock) ∧ some k_ ≠ (.slice Ao19 t263.length co19 : Value).ownBlock) ∧ some k_ ≠ (v267 : Value).ownBlock)) (n := t276.length) (c := co28) ?_).2.2; exact zq5); (case side6 => exact (Kd.R_reads' HO278.out).2.1); rintro e w29 ⟨v281, rfl, ho0, hb⟩; refine ⟨_, rfl, ?_⟩; have n0_ := Aside0.mk (Kd.R_elder' (by (with_reducible repeat (first | apply Kd.R_alloc | apply Kd.R_drewN | apply Kd.R_drew)); exact (Kd.R_mono (Kd.R_far (p := ⟨gb279, 2, none⟩) (Kd.R_far (p := ⟨gb279, 1, none⟩) (Kd.R_far (p := ⟨gb279, 0, none⟩) (Kd.R_types HO259.out BK279.out (by decide)) (fun _ hk => hk.2) (.slice Ao24 t270.length co24)) (fun _ hk => hk.2) (.slice Ao27 t273.length co27)) (fun _ hk => hk.2) (.slice Ao28 t276.length co28)) (fun _ h_ => h_.1))) (Kd.R_base ho0) hb); have n1_ := Aside0.mk (Kd.R_elder' (by (with_reducible repeat (first | apply Kd.R_alloc | apply Kd.R_drewN | apply Kd.R_drew)); exact (Kd.R_mono (Kd.R_far (p := ⟨gb279, 2, none⟩) (Kd.R_far (p := ⟨gb279, 1, none⟩) (Kd.R_far (p := ⟨gb279, 0, none⟩) (Kd.R_types HO262.out BK279.out (by decide)) (fun _ hk => hk.2) (.slice Ao24 t270.length co24)) (fun _ hk => hk.2) (.slice Ao27 t273.length co27)) (fun _ hk => hk.2) (.slice Ao28 t276.length co28)) (fun _ h_ => h_.1))) (Kd.R_base ho0) hb); have n2_ := Aside0.mk (Kd.R_elder' (by (with_reducible repeat (first | apply Kd.R_alloc | apply Kd.R_drewN | apply Kd.R_drew)); exact (Kd.R_mono (Kd.R_far (p := ⟨gb279, 2, none⟩) (Kd.R_far (p := ⟨gb279, 1, none⟩) (Kd.R_far (p := ⟨gb279, 0, none⟩) (Kd.R_types HO265.out BK279.out (by decide)) (fun _ hk => hk.2) (.slice Ao24 t270.length co24)) (fun _ hk => hk.2) (.slice Ao27 t273.length co27)) (fun _ hk => hk.2) (.slice Ao28 t276.length co28)) (fun _ h_ => h_.1))) (Kd.R_base ho0) hb); have n3_ := Aside0.mk (Kd.R_elder' (by (with_reducible repeat (first | apply Kd.R_alloc | apply Kd.R_drewN | apply Kd.R_drew)); exact (Kd.R_mono (Kd.R_far (p := ⟨gb279, 2, none⟩) (Kd.R_far (p := ⟨gb279, 1, none⟩) (Kd.R_far (p := ⟨gb279, 0, none⟩) (Kd.R_types HO268.out BK279.out (by decide)) (fun _ hk => hk.2) (.slice Ao24 t270.length co24)) (fun _ hk => hk.2) (.slice Ao27 t273.length co27)) (fun _ hk => hk.2) (.slice Ao28 t276.length co28)) (fun _ h_ => h_.1))) (Kd.R_base ho0) hb); have n4_ := Aside0.mk (Kd.R_elder' zq3 (Kd.R_base ho0) hb); have n5_ := Aside0.mk (Kd.R_elder' zq4 (Kd.R_base ho0) hb); have n6_ := Aside0.mk (Kd.R_elder' zq5 (Kd.R_base ho0) hb); have n7_ := Aside0.mk (Kd.R_lower (Kd.R_new' (Kd.R_new' (Kd.R_new' (Kd.R_new' (Kd.R_new' (Kd.R_new' (Kd.R_new' ho0 (Kd.R_lt (by (with_reducible repeat (first | apply Kd.R_alloc | apply Kd.R_drewN | apply Kd.R_drew)); exact (Kd.R_mono (Kd.R_far (p := ⟨gb279, 2, none⟩) (Kd.R_far (p := ⟨gb279, 1, none⟩) (Kd.R_far (p := ⟨gb279, 0, none⟩) (Kd.R_types HO259.out BK279.out (by decide)) (fun _ hk => hk.2) (.slice Ao24 t270.length co24)) (fun _ hk => hk.2) (.slice Ao27 t273.length co27)) (fun _ hk => hk.2) (.slice Ao28 t276.length co28)) (fun _ h_ => h_.1))))) (Kd.R_lt (by (with_reducible repeat (first | apply Kd.R_alloc | apply Kd.R_drewN | apply Kd.R_drew)); exact (Kd.R_mono (Kd.R_far (p := ⟨gb279, 2, none⟩) (Kd.R_far (p := ⟨gb279, 1, none⟩) (Kd.R_far (p := ⟨gb279, 0, none⟩) (Kd.R_types HO262.out BK279.out (by decide)) (fun _ hk => hk.2) (.slice Ao24 t270.length co24)) (fun _ hk => hk.2) (.slice Ao27 t273.length co27)) (fun _ hk => hk.2) (.slice Ao28 t276.length co28)) (fun _ h_ => h_.1))))) (Kd.R_lt (by (with_reducible repeat (first | apply Kd.R_alloc | apply Kd.R_drewN | apply Kd.R_drew)); exact (Kd.R_mono (Kd.R_far (p := ⟨gb279, 2, none⟩) (Kd.R_far (p := ⟨gb279, 1, none⟩) (Kd.R_far (p := ⟨gb279, 0, none⟩) (Kd.R_types HO265.out BK279.out (by decide)) (fun _ hk => hk.2) (.slice Ao24 t270.length co24)) (fun _ hk => hk.2) (.slice Ao27 t273.length co27)) (fun _ hk => hk.2) (.slice Ao28 t276.length co28)) (fun _ h_ => h_.1))))) (Kd.R_lt (by (with_reducible repeat (first | apply Kd.R_alloc | apply Kd.R_drewN | apply Kd.R_drew)); exact (Kd.R_mono (Kd.R_far (p := ⟨gb279, 2, none⟩) (Kd.R_far (p := ⟨gb279, 1, none⟩) (Kd.R_far (p := ⟨gb279, 0, none⟩) (Kd.R_types HO268.out BK279.out (by decide)) (fun _ hk => hk.2) (.slice Ao24 t270.length co24)) (fun _ hk => hk.2) (.slice Ao27 t273.length co27)) (fun _ hk => hk.2) (.slice Ao28 t276.length co28)) (fun _ h_ => h_.1))))) (Kd.R_lt zq3)) (Kd.R_lt zq4)) (Kd.R_lt zq5)) (below_size zq16)); have n8_ := Aside0.mk (blk_below (g := gb255) (o := .cells #[.slice A0_0 l0_0.length c0_0, .slice A0_1 l0_1.length c0_1, .slice A0_2 l0_2.length c0_2] 24 (0, 0)) (by (with_reducible repeat (first | refine blk_drewN ?_ _ | refine blk_drew ?_ | refine blk_alloc ?_ _)); refine blk_far ?_ NB255_279.out _; (with_reducible repeat (first | refine blk_drewN ?_ _ | refine blk_drew ?_ | refine blk_alloc ?_ _)); refine blk_far ?_ NB255_279.out _; (with_reducible repeat (first | refine blk_drewN ?_ _ | refine blk_drew ?_ | refine blk_alloc ?_ _)); refine blk_far ?_ NB255_279.out _; (with_reducible repeat (first | refine blk_drewN ?_ _ | refine blk_drew ?_ | refine blk_alloc ?_ _)); exact BK255.out) hb); have n9_ := Aside0.mk (blk_below (g := gb279) (o := .cells #[.slice Ao24 t270.length co24, .slice Ao27 t273.length co27, .slice Ao28 t276.length co28] 28 (0, 0)) (by (with_reducible repeat (first | refine blk_drewN ?_ _ | refine blk_drew ?_ | refine blk_alloc ?_ _)); refine blk_put (cs := #[.slice Ao24 t270.length co24, .slice Ao27 t273.length co27, .slice none 0 0]) ?_ 2 _ rfl; (with_reducible repeat (first | refine blk_drewN ?_ _ | refine blk_drew ?_ | refine blk_alloc ?_ _)); refine blk_put (cs := #[.slice Ao24 t270.length co24, .slice none 0 0, .slice none 0 0]) ?_ 1 _ rfl; (with_reducible repeat (first | refine blk_drewN ?_ _ | refine blk_drew ?_ | refine blk_alloc ?_ _)); refine blk_put (cs := #[.slice none 0 0, .slice none 0 0, .slice none 0 0]) ?_ 0 _ rfl; (with_reducible repeat (first | refine blk_drewN ?_ _ | refine blk_drew ?_ | refine blk_alloc ?_ _)); exact BK279.out) hb); have n10_ := Aside0.mk (below_step zq16 hb); clear HO259; clear HO262; clear HO265; clear HO268; clear HO272; clear HO275; clear HO278; clear BK255; clear BK279; clear HB; have HO259 := n0_; have HO262 := n1_; have HO265 := n2_; have HO268 := n3_; have HO272 := n4_; have HO275 := n5_; have HO278 := n6_; have HO282 := n7_; have BK255 := n8_; have BK279 := n9_; have HB := n10_; clear n0_ n1_ n2_ n3_ n4_ n5_ n6_ n7_ n8_ n9_ n10_; (try clear hb); (try clear hb2); (try clear hk); (try clear hi); (try clear ho0)))
  (try simp only [Act.put, List.setIfInBounds_toArray, List.set_cons_zero, List.set_cons_succ])
  go_cut [40] (fun v40 wc => ∃ (kq : Nat) (x40_10 : Bool), v40 = .bool x40_10 ∧ Aside0 (laws_FnExactTurnsOfJobs.j0 kq t266 t269 t280 t283 x40_10 l0_0 l0_1 l0_2 t270 t273 t276 = some r) ∧ Aside0 (kq ≤ k) ∧ Aside0 (Kd.R (Kd.int .i64) 2 wc w.heap.size (fun k_ => some k_ ≠ (v281 : Value).ownBlock ∧ some k_ ≠ ((.slice Ao24 t270.length co24) : Value).ownBlock ∧ some k_ ≠ ((.slice Ao27 t273.length co27) : Value).ownBlock ∧ some k_ ≠ ((.slice Ao28 t276.length co28) : Value).ownBlock) v267 t266) ∧ Aside0 (Kd.R (Kd.int .i64) 2 wc w.heap.size (fun k_ => some k_ ≠ (v267 : Value).ownBlock ∧ some k_ ≠ ((.slice Ao24 t270.length co24) : Value).ownBlock ∧ some k_ ≠ ((.slice Ao27 t273.length co27) : Value).ownBlock ∧ some k_ ≠ ((.slice Ao28 t276.length co28) : Value).ownBlock) v281 t280) ∧ Aside0 (Kd.R (Kd.int .i64) 2 wc w.heap.size (fun k_ => some k_ ≠ (v267 : Value).ownBlock ∧ some k_ ≠ (v281 : Value).ownBlock ∧ some k_ ≠ ((.slice Ao27 t273.length co27) : Value).ownBlock ∧ some k_ ≠ ((.slice Ao28 t276.length co28) : Value).ownBlock) (.slice Ao24 t270.length co24) t270) ∧ Aside0 (Kd.R (Kd.int .i64) 2 wc w.heap.size (fun k_ => some k_ ≠ (v267 : Value).ownBlock ∧ some k_ ≠ (v281 : Value).ownBlock ∧ some k_ ≠ ((.slice Ao24 t270.length co24) : Value).ownBlock ∧ some k_ ≠ ((.slice Ao28 t276.length co28) : Value).ownBlock) (.slice Ao27 t273.length co27) t273) ∧ Aside0 (Kd.R (Kd.int .i64) 2 wc w.heap.size (fun k_ => some k_ ≠ (v267 : Value).ownBlock ∧ some k_ ≠ (v281 : Value).ownBlock ∧ some k_ ≠ ((.slice Ao24 t270.length co24) : Value).ownBlock ∧ some k_ ≠ ((.slice Ao27 t273.length co27) : Value).ownBlock) (.slice Ao28 t276.length co28) t276) ∧ Aside0 (wc.heap[gb255]? = some (.cells #[(.slice A0_0 l0_0.length c0_0), (.slice A0_1 l0_1.length c0_1), (.slice A0_2 l0_2.length c0_2)] 24 (0, 0))) ∧ Aside0 (wc.heap[gb279]? = some (.cells #[(.slice Ao24 t270.length co24), (.slice Ao27 t273.length co27), (.slice Ao28 t276.length co28)] 28 (0, 0))) ∧ Aside0 (Below w.heap.size w wc))
  case first =>
    have H := HC11.out
    clear HC11
    replace H := Option.bind_eq_some_iff.mp H
    obtain ⟨t284, A300, H⟩ := H
    replace H : (if t284 = true then (laws_FnExactTurnsOfJobs.j0 k t266 t269 t280 t283 (t283 != t269) l0_0 l0_1 l0_2 t270 t273 t276) else (laws_FnExactTurnsOfJobs.j0 k t266 t269 t280 t283 true l0_0 l0_1 l0_2 t270 t273 t276)) = some r := H
    have A30 := Aside0.mk A300
    clear A300
    by_cases c31 : t284 = true
    · subst c31
      have H1 : (laws_FnExactTurnsOfJobs.j0 k t266 t269 t280 t283 (t283 != t269) l0_0 l0_1 l0_2 t270 t273 t276) = some r := by rw [if_pos rfl] at H; exact H
      clear H
      have H := H1
      clear H1
      have H' := Aside0.mk H
      clear H
      obtain ⟨Ao32, co32, eo32⟩ := Kd.R_slice HO282.out
      subst eo32
      obtain ⟨Ao33, co33, eo33⟩ := Kd.R_slice HO268.out
      subst eo33
      go_wp2_with (first | ((with_reducible refine gate_callee (f := 18) rfl ?_); refine goesL_ (some 34) rfl rfl Try.func18 (by kernel_rfl) rfl #[.slice Ao32 t280.length co32, .slice Ao33 t266.length co33] rfl zq19 ?_; (with_reducible refine (laws_eqInt64S.calls k _ _ t280 _ _ t266 true _ ?side1 ?side2 ?side3 ?side4 A30.out).mono ?_); (case side1 => repeat (first | exact (Kd.R_reads' HO282.out).2.2 | (with_reducible refine Kd.C_alloc ?_ _) | (with_reducible refine Kd.C_drewN ?_ _) | (with_reducible refine Kd.C_drew ?_))); (case side2 => exact (Kd.R_reads' HO282.out).2.1); (case side3 => repeat (first | exact (Kd.R_reads' HO268.out).2.2 | (with_reducible refine Kd.C_alloc ?_ _) | (with_reducible refine Kd.C_drewN ?_ _) | (with_reducible refine Kd.C_drew ?_))); (case side4 => exact (Kd.R_reads' HO268.out).2.1); rintro e w' ⟨rfl, ⟨nd, rfl⟩⟩; refine ⟨_, rfl, ?_⟩))
      go_meet
      case rel => exact ⟨_, ((t283 != t269)), zq76, H', ⟨by first | omega | exact Nat.le_refl _⟩, ⟨by (with_reducible repeat (first | apply Kd.R_alloc | apply Kd.R_drewN | apply Kd.R_drew)); exact Kd.R_mono HO268.out (fun _ hk => ⟨hk.2, ⟨hk.1.1.1.2, ⟨hk.1.1.2, hk.1.2⟩⟩⟩)⟩, ⟨by (with_reducible repeat (first | apply Kd.R_alloc | apply Kd.R_drewN | apply Kd.R_drew)); exact Kd.R_mono HO282.out (fun _ hk => ⟨hk.1.1.1.2, ⟨hk.1.1.2, ⟨hk.1.2, hk.2⟩⟩⟩)⟩, ⟨by (with_reducible repeat (first | apply Kd.R_alloc | apply Kd.R_drewN | apply Kd.R_drew)); exact Kd.R_mono HO272.out (fun _ hk => ⟨hk.1.2, ⟨hk.2, ⟨hk.1.1.1.1.1.1, hk.1.1.1.1.1.2⟩⟩⟩)⟩, ⟨by (with_reducible repeat (first | apply Kd.R_alloc | apply Kd.R_drewN | apply Kd.R_drew)); exact Kd.R_mono HO275.out (fun _ hk => ⟨hk.1.2, ⟨hk.2, ⟨hk.1.1.1.1.1.1, hk.1.1.1.1.1.2⟩⟩⟩)⟩, ⟨by (with_reducible repeat (first | apply Kd.R_alloc | apply Kd.R_drewN | apply Kd.R_drew)); exact Kd.R_mono HO278.out (fun _ hk => ⟨hk.1.2, ⟨hk.2, ⟨hk.1.1.1.1.1.1, hk.1.1.1.1.1.2⟩⟩⟩)⟩, ⟨by (with_reducible repeat (first | refine blk_drewN ?_ _ | refine blk_drew ?_ | refine blk_alloc ?_ _)); exact BK255.out⟩, ⟨by (with_reducible repeat (first | refine blk_drewN ?_ _ | refine blk_drew ?_ | refine blk_alloc ?_ _)); exact BK279.out⟩, ⟨by repeat (first | (with_reducible first | exact HB.out | apply below_alloc | apply pw_below_drewN | apply below_drew1 | refine below_set ?_ GE255.out | refine below_set ?_ GE279.out) | exact HB.out)⟩⟩
    replace c31 := Bool.eq_false_iff.mpr c31
    subst c31
    have H1 : (laws_FnExactTurnsOfJobs.j0 k t266 t269 t280 t283 true l0_0 l0_1 l0_2 t270 t273 t276) = some r := by rw [if_neg (show ¬ (false = true) by decide)] at H; exact H
    clear H
    have H := H1
    clear H1
    have H' := Aside0.mk H
    clear H
    obtain ⟨Ao34, co34, eo34⟩ := Kd.R_slice HO282.out
    subst eo34
    obtain ⟨Ao35, co35, eo35⟩ := Kd.R_slice HO268.out
    subst eo35
    go_wp2_with (first | ((with_reducible refine gate_callee (f := 18) rfl ?_); refine goesL_ (some 34) rfl rfl Try.func18 (by kernel_rfl) rfl #[.slice Ao34 t280.length co34, .slice Ao35 t266.length co35] rfl zq19 ?_; (with_reducible refine (laws_eqInt64S.calls k _ _ t280 _ _ t266 false _ ?side1 ?side2 ?side3 ?side4 A30.out).mono ?_); (case side1 => repeat (first | exact (Kd.R_reads' HO282.out).2.2 | (with_reducible refine Kd.C_alloc ?_ _) | (with_reducible refine Kd.C_drewN ?_ _) | (with_reducible refine Kd.C_drew ?_))); (case side2 => exact (Kd.R_reads' HO282.out).2.1); (case side3 => repeat (first | exact (Kd.R_reads' HO268.out).2.2 | (with_reducible refine Kd.C_alloc ?_ _) | (with_reducible refine Kd.C_drewN ?_ _) | (with_reducible refine Kd.C_drew ?_))); (case side4 => exact (Kd.R_reads' HO268.out).2.1); rintro e w' ⟨rfl, ⟨nd, rfl⟩⟩; refine ⟨_, rfl, ?_⟩))
    go_meet
    case rel => exact ⟨_, (true), zq76, H', ⟨by first | omega | exact Nat.le_refl _⟩, ⟨by (with_reducible repeat (first | apply Kd.R_alloc | apply Kd.R_drewN | apply Kd.R_drew)); exact Kd.R_mono HO268.out (fun _ hk => ⟨hk.2, ⟨hk.1.1.1.2, ⟨hk.1.1.2, hk.1.2⟩⟩⟩)⟩, ⟨by (with_reducible repeat (first | apply Kd.R_alloc | apply Kd.R_drewN | apply Kd.R_drew)); exact Kd.R_mono HO282.out (fun _ hk => ⟨hk.1.1.1.2, ⟨hk.1.1.2, ⟨hk.1.2, hk.2⟩⟩⟩)⟩, ⟨by (with_reducible repeat (first | apply Kd.R_alloc | apply Kd.R_drewN | apply Kd.R_drew)); exact Kd.R_mono HO272.out (fun _ hk => ⟨hk.1.2, ⟨hk.2, ⟨hk.1.1.1.1.1.1, hk.1.1.1.1.1.2⟩⟩⟩)⟩, ⟨by (with_reducible repeat (first | apply Kd.R_alloc | apply Kd.R_drewN | apply Kd.R_drew)); exact Kd.R_mono HO275.out (fun _ hk => ⟨hk.1.2, ⟨hk.2, ⟨hk.1.1.1.1.1.1, hk.1.1.1.1.1.2⟩⟩⟩)⟩, ⟨by (with_reducible repeat (first | apply Kd.R_alloc | apply Kd.R_drewN | apply Kd.R_drew)); exact Kd.R_mono HO278.out (fun _ hk => ⟨hk.1.2, ⟨hk.2, ⟨hk.1.1.1.1.1.1, hk.1.1.1.1.1.2⟩⟩⟩)⟩, ⟨by (with_reducible repeat (first | refine blk_drewN ?_ _ | refine blk_drew ?_ | refine blk_alloc ?_ _)); exact BK255.out⟩, ⟨by (with_reducible repeat (first | refine blk_drewN ?_ _ | refine blk_drew ?_ | refine blk_alloc ?_ _)); exact BK279.out⟩, ⟨by repeat (first | (with_reducible first | exact HB.out | apply below_alloc | apply pw_below_drewN | apply below_drew1 | refine below_set ?_ GE255.out | refine below_set ?_ GE279.out) | exact HB.out)⟩⟩
  clear HC11
  try clear c1
  try clear c2
  try clear p2
  try clear c3
  try clear c3b0
  try clear c6
  try clear c13
  try clear c15
  try clear c18
  try clear c25
  try clear c27
  try clear c28
  try clear c31
  try clear hcz13_0
  try clear hcz13_1
  try clear hcz13_2
  try clear hcz15_0
  try clear hcz15_1
  try clear hcz15_2
  try clear hcz21_0
  try clear hcz21_1
  try clear hcz21_2
  try clear hcz26_0
  try clear hcz26_1
  try clear hcz26_2
  try clear hcz5_0
  try clear hcz5_1
  try clear hcz5_2
  try clear hfz13_0
  try clear hfz13_1
  try clear hfz13_2
  try clear hfz15_0
  try clear hfz15_1
  try clear hfz15_2
  try clear hfz21_0
  try clear hfz21_1
  try clear hfz21_2
  try clear hfz26_0
  try clear hfz26_1
  try clear hfz26_2
  try clear hfz5_0
  try clear hfz5_1
  try clear hfz5_2
  obtain ⟨kq, x40_10, rfl, HA, HJ10, HO_4, HO_7, HO_280000, HO_280001, HO_280002, BK255, BK279, HB⟩ := hcut
  cases kq with
  | zero => exact absurd HA.out (by simp [laws_FnExactTurnsOfJobs.j0])
  | succ kj10 =>
    have H := HA.out
    clear HA
    simp only [laws_FnExactTurnsOfJobs.j0] at H
    by_cases c36 : x40_10 = true
    · subst c36
      have H1 : (some false) = some r := by rw [if_pos rfl] at H; exact H
      clear H
      have H := H1
      clear H1
      rw [hr_.out] at H
      exact absurd H (by simp)
    replace c36 := Bool.eq_false_iff.mpr c36
    subst c36
    have H1 : ((laws_toJobs.f kj10 l0_0 l0_1 l0_2).bind fun bt285 => ((laws_eqJobs.f kj10 t270 t273 t276 bt285.1 bt285.2.1 bt285.2.2).bind fun t294 => (if t294 = true then ((laws_markJobs.f kj10 t270 t273 t276 1).bind fun bt295 => (if bt295.1 < 0 then (laws_FnExactTurnsOfJobs.j1 kj10 t266 t269 t280 true l0_0 l0_1 l0_2) else ((laws_eqInt64S.f kj10 t280 t266).bind fun t299 => (if t299 = true then (laws_FnExactTurnsOfJobs.j1 kj10 t266 t269 t280 (t283 != t269) l0_0 l0_1 l0_2) else (laws_FnExactTurnsOfJobs.j1 kj10 t266 t269 t280 true l0_0 l0_1 l0_2))))) else (some false)))) = some r := by rw [if_neg (show ¬ (false = true) by decide)] at H; exact H
    clear H
    have H := H1
    clear H1
    replace H := Option.bind_eq_some_iff.mp H
    obtain ⟨⟨t285, t288, t291⟩, A370, H⟩ := H
    replace H : ((laws_eqJobs.f kj10 t270 t273 t276 t285 t288 t291).bind fun t294 => (if t294 = true then ((laws_markJobs.f kj10 t270 t273 t276 1).bind fun bt295 => (if bt295.1 < 0 then (laws_FnExactTurnsOfJobs.j1 kj10 t266 t269 t280 true l0_0 l0_1 l0_2) else ((laws_eqInt64S.f kj10 t280 t266).bind fun t299 => (if t299 = true then (laws_FnExactTurnsOfJobs.j1 kj10 t266 t269 t280 (t283 != t269) l0_0 l0_1 l0_2) else (laws_FnExactTurnsOfJobs.j1 kj10 t266 t269 t280 true l0_0 l0_1 l0_2))))) else (some false))) = some r := H
    have A37 := Aside0.mk A370
    clear A370
    replace H := Option.bind_eq_some_iff.mp H
    obtain ⟨t294, A380, H⟩ := H
    replace H : (if t294 = true then ((laws_markJobs.f kj10 t270 t273 t276 1).bind fun bt295 => (if bt295.1 < 0 then (laws_FnExactTurnsOfJobs.j1 kj10 t266 t269 t280 true l0_0 l0_1 l0_2) else ((laws_eqInt64S.f kj10 t280 t266).bind fun t299 => (if t299 = true then (laws_FnExactTurnsOfJobs.j1 kj10 t266 t269 t280 (t283 != t269) l0_0 l0_1 l0_2) else (laws_FnExactTurnsOfJobs.j1 kj10 t266 t269 t280 true l0_0 l0_1 l0_2))))) else (some false)) = some r := H
    have A38 := Aside0.mk A380
    clear A380
    by_cases c39 : t294 = true
    rotate_left
    · replace c39 := Bool.eq_false_iff.mpr c39
      subst c39
      have H1 : (some false) = some r := by rw [if_neg (show ¬ (false = true) by decide)] at H; exact H
      clear H
      have H := H1
      clear H1
      rw [hr_.out] at H
      exact absurd H (by simp)

    subst c39
    have H1 : ((laws_markJobs.f kj10 t270 t273 t276 1).bind fun bt295 => (if bt295.1 < 0 then (laws_FnExactTurnsOfJobs.j1 kj10 t266 t269 t280 true l0_0 l0_1 l0_2) else ((laws_eqInt64S.f kj10 t280 t266).bind fun t299 => (if t299 = true then (laws_FnExactTurnsOfJobs.j1 kj10 t266 t269 t280 (t283 != t269) l0_0 l0_1 l0_2) else (laws_FnExactTurnsOfJobs.j1 kj10 t266 t269 t280 true l0_0 l0_1 l0_2))))) = some r := by rw [if_pos rfl] at H; exact H
    clear H
    have H := H1
    clear H1
    replace H := Option.bind_eq_some_iff.mp H
    obtain ⟨⟨t295, t296, t297, t298⟩, A400, H⟩ := H
    replace H : (if t295 < 0 then (laws_FnExactTurnsOfJobs.j1 kj10 t266 t269 t280 true l0_0 l0_1 l0_2) else ((laws_eqInt64S.f kj10 t280 t266).bind fun t299 => (if t299 = true then (laws_FnExactTurnsOfJobs.j1 kj10 t266 t269 t280 (t283 != t269) l0_0 l0_1 l0_2) else (laws_FnExactTurnsOfJobs.j1 kj10 t266 t269 t280 true l0_0 l0_1 l0_2)))) = some r := H
    have A40 := Aside0.mk A400
    clear A400
    have HC41 := Aside0.mk H
    clear H
    try go_wp2
    have n0_ := Aside0.mk (Kd.R_drew HO_4.out)
    have n1_ := Aside0.mk (Kd.R_drew HO_7.out)
    have n2_ := Aside0.mk (Kd.R_drew HO_280000.out)
    have n3_ := Aside0.mk (Kd.R_drew HO_280001.out)
    have n4_ := Aside0.mk (Kd.R_drew HO_280002.out)
    have n5_ := Aside0.mk (blk_drew BK255.out)
    have n6_ := Aside0.mk (blk_drew BK279.out)
    have n7_ := Aside0.mk (below_drew1 HB.out)
    clear HO_4
    clear HO_7
    clear HO_280000
    clear HO_280001
    clear HO_280002
    clear BK255
    clear BK279
    clear HB
    have HO_4 := n0_
    have HO_7 := n1_
    have HO_280000 := n2_
    have HO_280001 := n3_
    have HO_280002 := n4_
    have BK255 := n5_
    have BK279 := n6_
    have HB := n7_
    clear n0_ n1_ n2_ n3_ n4_ n5_ n6_ n7_
    refine start_ (n := 5) (S := fun w' => w'.cell? ⟨gb279, 0, none⟩ = some (.slice Ao24 t270.length co24) ∧ w'.cell? ⟨gb279, 1, none⟩ = some (.slice Ao27 t273.length co27) ∧ w'.cell? ⟨gb279, 2, none⟩ = some (.slice Ao28 t276.length co28) ∧ w'.cell? ⟨gb255, 0, none⟩ = some (.slice A0_0 l0_0.length c0_0) ∧ w'.cell? ⟨gb255, 1, none⟩ = some (.slice A0_1 l0_1.length c0_1) ∧ w'.cell? ⟨gb255, 2, none⟩ = some (.slice A0_2 l0_2.length c0_2)) (ds := []) #[false, false, false, false, false] (by kernel_rfl) rfl rfl ⟨(blk_cell BK279.out 0).trans rfl, (blk_cell BK279.out 1).trans rfl, (blk_cell BK279.out 2).trans rfl, (blk_cell BK255.out 0).trans rfl, (blk_cell BK255.out 1).trans rfl, (blk_cell BK255.out 2).trans rfl⟩ (fun hHeld => ?_)
    generalize wc.drew = w42 at HO_4 HO_7 HO_280000 HO_280001 HO_280002 BK255 BK279 HB hHeld ⊢
    refine take_ (i := 0) (N := some 41) (v := ?_) (a' := ?_) #[true, false, false, false, false] rfl rfl (by kernel_rfl) (fun _ _ _ h => h) (Or.inl ⟨by rfl, ?_⟩) hHeld ?_ ?_
    rotate_left
    · rintro w' ⟨s0, s1, s2, s3, s4, s5⟩
      go_simp
      with_reducible rfl
    rotate_left
    · simp only [Act.put, List.setIfInBounds_toArray, List.set_cons_zero, List.set_cons_succ, i64_w, i32_w]
      rfl
    refine take_ (i := 1) (N := some 42) (v := ?_) (a' := ?_) #[true, true, false, false, false] rfl rfl (by kernel_rfl) (fun _ _ _ h => h) (Or.inl ⟨by rfl, ?_⟩) hHeld ?_ ?_
    rotate_left
    · rintro w' ⟨s0, s1, s2, s3, s4, s5⟩
      go_simp
      with_reducible rfl
    rotate_left
    · simp only [Act.put, List.setIfInBounds_toArray, List.set_cons_zero, List.set_cons_succ, i64_w, i32_w]
      rfl
    refine one_ (i := 2) (N := some 43) #[true, true, true, false, false] rfl rfl (by kernel_rfl) (by decide) (fun K hK => ?_)
    refine goes_ Try.func15 (by kernel_rfl) rfl #[.agg #[.slice A0_0 l0_0.length c0_0, .slice A0_1 l0_1.length c0_1, .slice A0_2 l0_2.length c0_2]] (by rfl) rfl rfl zq19 ?_
    with_reducible refine (laws_toJobs.calls kj10 _ _ l0_0 _ _ l0_1 _ _ l0_2 t285 t288 t291 _ ?side1 ?side2 ?side3 ?side4 ?side5 ?side6 A37.out).mono ?_
    (case side1 => repeat (first | exact (Kd.C_below HR0_0.out HB.out) | (with_reducible refine Kd.C_alloc ?_ _) | (with_reducible refine Kd.C_drewN ?_ _) | (with_reducible refine Kd.C_drew ?_)))
    (case side2 => exact HC0_0.out)
    (case side3 => repeat (first | exact (Kd.C_below HR0_1.out HB.out) | (with_reducible refine Kd.C_alloc ?_ _) | (with_reducible refine Kd.C_drewN ?_ _) | (with_reducible refine Kd.C_drew ?_)))
    (case side4 => exact HC0_1.out)
    (case side5 => repeat (first | exact (Kd.C_below HR0_2.out HB.out) | (with_reducible refine Kd.C_alloc ?_ _) | (with_reducible refine Kd.C_drewN ?_ _) | (with_reducible refine Kd.C_drew ?_)))
    (case side6 => exact HC0_2.out)
    rintro e w43 ⟨v286, v289, v292, rfl, ho0, ho1, ho2, hb⟩
    refine ⟨_, rfl, ?_⟩
    have n0_ := Aside0.mk (Kd.R_mono (Kd.R_told (Kd.R_told (Kd.R_told (Kd.R_old zq67 hb) (Kd.R_base ho0)) (Kd.R_base ho1)) (Kd.R_base ho2)) (fun _ h_ => h_.1))
    have n1_ := Aside0.mk (Kd.R_mono (Kd.R_told (Kd.R_told (Kd.R_told (Kd.R_old zq69 hb) (Kd.R_base ho0)) (Kd.R_base ho1)) (Kd.R_base ho2)) (fun _ h_ => h_.1))
    have n2_ := Aside0.mk (Kd.R_mono (Kd.R_told (Kd.R_told (Kd.R_told (Kd.R_old zq54 hb) (Kd.R_base ho0)) (Kd.R_base ho1)) (Kd.R_base ho2)) (fun _ h_ => h_.1))
    have n3_ := Aside0.mk (Kd.R_mono (Kd.R_told (Kd.R_told (Kd.R_told (Kd.R_old zq55 hb) (Kd.R_base ho0)) (Kd.R_base ho1)) (Kd.R_base ho2)) (fun _ h_ => h_.1))
    have n4_ := Aside0.mk (Kd.R_mono (Kd.R_told (Kd.R_told (Kd.R_told (Kd.R_old zq56 hb) (Kd.R_base ho0)) (Kd.R_base ho1)) (Kd.R_base ho2)) (fun _ h_ => h_.1))
    have n5_ := Aside0.mk (Kd.R_lower (Kd.R_new' (Kd.R_new' (Kd.R_new' (Kd.R_new' (Kd.R_new' ho0 (Kd.R_lt zq67)) (Kd.R_lt zq69)) (Kd.R_lt zq54)) (Kd.R_lt zq55)) (Kd.R_lt zq56)) (below_size zq16))
    have n6_ := Aside0.mk (Kd.R_lower (Kd.R_new' (Kd.R_new' (Kd.R_new' (Kd.R_new' (Kd.R_new' ho1 (Kd.R_lt zq67)) (Kd.R_lt zq69)) (Kd.R_lt zq54)) (Kd.R_lt zq55)) (Kd.R_lt zq56)) (below_size zq16))
    have n7_ := Aside0.mk (Kd.R_lower (Kd.R_new' (Kd.R_new' (Kd.R_new' (Kd.R_new' (Kd.R_new' ho2 (Kd.R_lt zq67)) (Kd.R_lt zq69)) (Kd.R_lt zq54)) (Kd.R_lt zq55)) (Kd.R_lt zq56)) (below_size zq16))
    have n8_ := Aside0.mk (blk_below (g := gb255) (o := .cells #[.slice A0_0 l0_0.length c0_0, .slice A0_1 l0_1.length c0_1, .slice A0_2 l0_2.length c0_2] 24 (0, 0)) zq46 hb)
    have n9_ := Aside0.mk (blk_below (g := gb279) (o := .cells #[.slice Ao24 t270.length co24, .slice Ao27 t273.length co27, .slice Ao28 t276.length co28] 28 (0, 0)) zq47 hb)
    have n10_ := Aside0.mk (below_step zq16 hb)
    clear HO_4
    clear HO_7
    clear HO_280000
    clear HO_280001
    clear HO_280002
    clear BK255
    clear BK279
    clear HB
    have HO_4 := n0_
    have HO_7 := n1_
    have HO_280000 := n2_
    have HO_280001 := n3_
    have HO_280002 := n4_
    have HO287 := n5_
    have HO290 := n6_
    have HO293 := n7_
    have BK255 := n8_
    have BK279 := n9_
    have HB := n10_
    clear n0_ n1_ n2_ n3_ n4_ n5_ n6_ n7_ n8_ n9_ n10_
    (try clear hb)
    (try clear hb2)
    (try clear hk)
    (try clear hi)
    (try clear ho0)
    (try clear ho1)
    (try clear ho2)
    obtain ⟨Ao44, co44, eo44⟩ := Kd.R_slice HO287.out
    (first | subst eo44 | (injection eo44 with f1_ f2_ f3_; have f4_ := f1_.symm; have f5_ := f3_.symm; clear f1_ f2_ f3_; subst f4_; subst f5_))
    obtain ⟨Ao45, co45, eo45⟩ := Kd.R_slice HO290.out
    (first | subst eo45 | (injection eo45 with f1_ f2_ f3_; have f4_ := f1_.symm; have f5_ := f3_.symm; clear f1_ f2_ f3_; subst f4_; subst f5_))
    obtain ⟨Ao46, co46, eo46⟩ := Kd.R_slice HO293.out
    (first | subst eo46 | (injection eo46 with f1_ f2_ f3_; have f4_ := f1_.symm; have f5_ := f3_.symm; clear f1_ f2_ f3_; subst f4_; subst f5_))
    refine hK.out _ _ ⟨(blk_cell BK279.out 0).trans rfl, (blk_cell BK279.out 1).trans rfl, (blk_cell BK279.out 2).trans rfl, (blk_cell BK255.out 0).trans rfl, (blk_cell BK255.out 1).trans rfl, (blk_cell BK255.out 2).trans rfl⟩ (fun hHeld => ?_)
    clear hK K
    refine norm_ (a' := ?_) ?_ ?_
    rotate_left
    · show Act.put _ (some 43) _ = _
      simp only [Act.put, List.setIfInBounds_toArray, List.set_cons_zero, List.set_cons_succ, i64_w, i32_w]
      rfl
    refine one_ (i := 3) (N := some 44) #[true, true, true, true, false] rfl rfl (by kernel_rfl) (by decide) (fun K hK => ?_)
    refine goes_ Try.func19 (by kernel_rfl) rfl #[.agg #[.slice Ao24 t270.length co24, .slice Ao27 t273.length co27, .slice Ao28 t276.length co28], .agg #[.slice Ao44 t285.length co44, .slice Ao45 t288.length co45, .slice Ao46 t291.length co46]] (by rfl) rfl rfl zq19 ?_
    with_reducible refine (laws_eqJobs.calls kj10 _ _ t270 _ _ t273 _ _ t276 _ _ t285 _ _ t288 _ _ t291 true _ ?side1 ?side2 ?side3 ?side4 ?side5 ?side6 ?side7 ?side8 ?side9 ?side10 ?side11 ?side12 A38.out).mono ?_
    (case side1 => repeat (first | exact (Kd.R_reads' HO_280000.out).2.2 | (with_reducible refine Kd.C_alloc ?_ _) | (with_reducible refine Kd.C_drewN ?_ _) | (with_reducible refine Kd.C_drew ?_)))
    (case side2 => exact (Kd.R_reads' HO_280000.out).2.1)
    (case side3 => repeat (first | exact (Kd.R_reads' HO_280001.out).2.2 | (with_reducible refine Kd.C_alloc ?_ _) | (with_reducible refine Kd.C_drewN ?_ _) | (with_reducible refine Kd.C_drew ?_)))
    (case side4 => exact (Kd.R_reads' HO_280001.out).2.1)
    (case side5 => repeat (first | exact (Kd.R_reads' HO_280002.out).2.2 | (with_reducible refine Kd.C_alloc ?_ _) | (with_reducible refine Kd.C_drewN ?_ _) | (with_reducible refine Kd.C_drew ?_)))
    (case side6 => exact (Kd.R_reads' HO_280002.out).2.1)
    (case side7 => repeat (first | exact (Kd.R_reads' HO287.out).2.2 | (with_reducible refine Kd.C_alloc ?_ _) | (with_reducible refine Kd.C_drewN ?_ _) | (with_reducible refine Kd.C_drew ?_)))
    (case side8 => exact (Kd.R_reads' HO287.out).2.1)
    (case side9 => repeat (first | exact (Kd.R_reads' HO290.out).2.2 | (with_reducible refine Kd.C_alloc ?_ _) | (with_reducible refine Kd.C_drewN ?_ _) | (with_reducible refine Kd.C_drew ?_)))
    (case side10 => exact (Kd.R_reads' HO290.out).2.1)
    (case side11 => repeat (first | exact (Kd.R_reads' HO293.out).2.2 | (with_reducible refine Kd.C_alloc ?_ _) | (with_reducible refine Kd.C_drewN ?_ _) | (with_reducible refine Kd.C_drew ?_)))
    (case side12 => exact (Kd.R_reads' HO293.out).2.1)
    rintro e w47 ⟨rfl, hb⟩
    refine ⟨_, rfl, ?_⟩
    have n0_ := Aside0.mk (Kd.R_below zq67 hb)
    have n1_ := Aside0.mk (Kd.R_below zq69 hb)
    have n2_ := Aside0.mk (Kd.R_below zq54 hb)
    have n3_ := Aside0.mk (Kd.R_below zq55 hb)
    have n4_ := Aside0.mk (Kd.R_below zq56 hb)
    have n5_ := Aside0.mk (Kd.R_below (by (with_reducible repeat (first | apply Kd.R_alloc | apply Kd.R_drewN | apply Kd.R_drew)); exact HO287.out) hb)
    have n6_ := Aside0.mk (Kd.R_below (by (with_reducible repeat (first | apply Kd.R_alloc | apply Kd.R_drewN | apply Kd.R_drew)); exact HO290.out) hb)
    have n7_ := Aside0.mk (Kd.R_below (by (with_reducible repeat (first | apply Kd.R_alloc | apply Kd.R_drewN | apply Kd.R_drew)); exact HO293.out) hb)
    have n8_ := Aside0.mk (blk_below (g := gb255) (o := .cells #[.slice A0_0 l0_0.length c0_0, .slice A0_1 l0_1.length c0_1, .slice A0_2 l0_2.length c0_2] 24 (0, 0)) zq46 hb)
    have n9_ := Aside0.mk (blk_below (g := gb279) (o := .cells #[.slice Ao24 t270.length co24, .slice Ao27 t273.length co27, .slice Ao28 t276.length co28] 28 (0, 0)) zq47 hb)
    have n10_ := Aside0.mk (below_step zq16 hb)
    clear HO_4
    clear HO_7
    clear HO_280000
    clear HO_280001
    clear HO_280002
    clear HO287
    clear HO290
    clear HO293
    clear BK255
    clear BK279
    clear HB
    have HO_4 := n0_
    have HO_7 := n1_
    have HO_280000 := n2_
    have HO_280001 := n3_
    have HO_280002 := n4_
    have HO287 := n5_
    have HO290 := n6_
    have HO293 := n7_
    have BK255 := n8_
    have BK279 := n9_
    have HB := n10_
    clear n0_ n1_ n2_ n3_ n4_ n5_ n6_ n7_ n8_ n9_ n10_
    (try clear hb)
    (try clear hb2)
    (try clear hk)
    (try clear hi)
    refine hK.out _ _ ⟨(blk_cell BK279.out 0).trans rfl, (blk_cell BK279.out 1).trans rfl, (blk_cell BK279.out 2).trans rfl, (blk_cell BK255.out 0).trans rfl, (blk_cell BK255.out 1).trans rfl, (blk_cell BK255.out 2).trans rfl⟩ (fun hHeld => ?_)
    clear hK K
    refine norm_ (a' := ?_) ?_ ?_
    rotate_left
    · show Act.put _ (some 44) _ = _
      simp only [Act.put, List.setIfInBounds_toArray, List.set_cons_zero, List.set_cons_succ, i64_w, i32_w]
      rfl
    refine pure_ (i := 4) (N := some 45) (v := ?_) (a' := ?_) #[true, true, true, true, true] rfl rfl (by kernel_rfl) (fun _ _ _ h => h) (Or.inl ⟨by rfl, ?_⟩) ?_ ?_
    rotate_left
    · intro w'
      go_simp
      with_reducible rfl
    rotate_left
    · simp only [Act.put, List.setIfInBounds_toArray, List.set_cons_zero, List.set_cons_succ, i64_w, i32_w]
      rfl
    refine done_ (by kernel_rfl) ?_
    have hnb48 := NB279_255.out
    have hnc48 := NB255_279.out
    have hcz49_0 : w47.cell? ⟨gb279, 0, none⟩ = some (.slice Ao24 t270.length co24) := (blk_cell BK279.out 0).trans rfl
    have hcz49_1 : w47.cell? ⟨gb279, 1, none⟩ = some (.slice Ao27 t273.length co27) := (blk_cell BK279.out 1).trans rfl
    have hcz49_2 : w47.cell? ⟨gb279, 2, none⟩ = some (.slice Ao28 t276.length co28) := (blk_cell BK279.out 2).trans rfl
    have hfz49_0 := blk_frozen BK279.out 0
    have hfz49_1 := blk_frozen BK279.out 1
    have hfz49_2 := blk_frozen BK279.out 2
    go_upto_region 14 with (first | ((with_reducible refine gate_callee (f := 20) rfl ?_); refine goesL_ (some 48) rfl rfl Try.func20 (by kernel_rfl) rfl #[.agg #[.slice Ao24 t270.length co24, .slice Ao27 t273.length co27, .slice Ao28 t276.length co28], .int .i64 1] rfl zq19 ?_; (with_reducible refine (laws_markJobs.calls kj10 (fun k_ => some k_ = (.slice Ao24 t270.length co24 : Value).ownBlock) (.slice Ao24 t270.length co24) t270 (fun k_ => some k_ = (.slice Ao27 t273.length co27 : Value).ownBlock) (.slice Ao27 t273.length co27) t273 (fun k_ => some k_ = (.slice Ao28 t276.length co28 : Value).ownBlock) (.slice Ao28 t276.length co28) t276 1 t295 t296 t297 t298 w _ ?side1 ?side2 ?side3 ?side4 ?side5 ?side6 ?side7 ?side8 ?side9 ?side10 A40.out).mono ?_); (case side1 => repeat (first | (with_reducible first | exact HB.out | apply below_alloc | apply pw_below_drewN | apply below_drew1 | refine below_set ?_ GE255.out | refine below_set ?_ GE279.out) | exact HB.out)); (case side2 => exact Kd.R_tight rfl HO_280000.out); (case side3 => exact fun k_ e_ => (HO_280000.out.1 k_ e_.symm).1.1.1.2.2.1); (case side4 => exact fun k_ e_ => (HO_280000.out.1 k_ e_.symm).1.1.1.2.2.2); (case side5 => exact Kd.R_tight rfl HO_280001.out); (case side6 => exact fun k_ e_ => (HO_280001.out.1 k_ e_.symm).1.1.1.2.2.1); (case side7 => exact fun k_ e_ => (HO_280001.out.1 k_ e_.symm).1.1.1.2.2.2); (case side8 => exact Kd.R_tight rfl HO_280002.out); (case side9 => exact fun k_ e_ => (HO_280002.out.1 k_ e_.symm).1.1.1.2.2.1); (case side10 => exact fun k_ e_ => (HO_280002.out.1 k_ e_.symm).1.1.1.2.2.2); rintro e w50 ⟨rfl, hy0, hy1, hy2, hb, hkp⟩; refine ⟨_, rfl, ?_⟩; have n0_ := Aside0.mk (Kd.R_mono (ok' := fun k_ => some k_ ≠ (v281 : Value).ownBlock ∧ some k_ ≠ (.slice Ao24 t270.length co24 : Value).ownBlock ∧ some k_ ≠ (.slice Ao27 t273.length co27 : Value).ownBlock ∧ some k_ ≠ (.slice Ao28 t276.length co28 : Value).ownBlock ∧ some k_ ≠ (.slice Ao44 t285.length co44 : Value).ownBlock ∧ some k_ ≠ (.slice Ao45 t288.length co45 : Value).ownBlock ∧ some k_ ≠ (.slice Ao46 t291.length co46 : Value).ownBlock) (Kd.R_keptB (HO_4.out) hkp (fun k_ hk_ hs_ => Or.elim hs_ (fun e_ => (hk_.1.1.1.2.1) e_) (fun e_ => Or.elim e_ (fun e_ => (hk_.1.1.1.2.2.1) e_) (fun e_ => (hk_.1.1.1.2.2.2) e_)))) (fun k_ hk_ => ⟨hk_.1.1.1.1.1, hk_.1.1.1.1.2.1, hk_.1.1.1.1.2.2.1, hk_.1.1.1.1.2.2.2, hk_.1.1.1.2, hk_.1.1.2, hk_.1.2⟩)); have n1_ := Aside0.mk (Kd.R_mono (ok' := fun k_ => some k_ ≠ (v267 : Value).ownBlock ∧ some k_ ≠ (.slice Ao24 t270.length co24 : Value).ownBlock ∧ some k_ ≠ (.slice Ao27 t273.length co27 : Value).ownBlock ∧ some k_ ≠ (.slice Ao28 t276.length co28 : Value).ownBlock ∧ some k_ ≠ (.slice Ao44 t285.length co44 : Value).ownBlock ∧ some k_ ≠ (.slice Ao45 t288.length co45 : Value).ownBlock ∧ some k_ ≠ (.slice Ao46 t291.length co46 : Value).ownBlock) (Kd.R_keptB (HO_7.out) hkp (fun k_ hk_ hs_ => Or.elim hs_ (fun e_ => (hk_.1.1.1.2.1) e_) (fun e_ => Or.elim e_ (fun e_ => (hk_.1.1.1.2.2.1) e_) (fun e_ => (hk_.1.1.1.2.2.2) e_)))) (fun k_ hk_ => ⟨hk_.1.1.1.1.1, hk_.1.1.1.1.2.1, hk_.1.1.1.1.2.2.1, hk_.1.1.1.1.2.2.2, hk_.1.1.1.2, hk_.1.1.2, hk_.1.2⟩)); have n2_ := Aside0.mk (Kd.R_reok rfl hy0 (fun k_ e_ => HO_280000.out.1 k_ e_)); have n3_ := Aside0.mk (Kd.R_reok rfl hy1 (fun k_ e_ => HO_280001.out.1 k_ e_)); have n4_ := Aside0.mk (Kd.R_reok rfl hy2 (fun k_ e_ => HO_280002.out.1 k_ e_)); have n5_ := Aside0.mk (blk_kept zq46 hkp (fun hs_ => Or.elim hs_ (fun e_ => (fun e_ => (Kd.R_ne HO_280000.out BK255.out (by decide)) e_) e_) (fun e_ => Or.elim e_ (fun e_ => (fun e_ => (Kd.R_ne HO_280001.out BK255.out (by decide)) e_) e_) (fun e_ => (fun e_ => (Kd.R_ne HO_280002.out BK255.out (by decide)) e_) e_)))); have n6_ := Aside0.mk (blk_kept zq47 hkp (fun hs_ => Or.elim hs_ (fun e_ => (fun e_ => (Kd.R_ne HO_280000.out BK279.out (by decide)) e_) e_) (fun e_ => Or.elim e_ (fun e_ => (fun e_ => (Kd.R_ne HO_280001.out BK279.out (by decide)) e_) e_) (fun e_ => (fun e_ => (Kd.R_ne HO_280002.out BK279.out (by decide)) e_) e_)))); have n7_ := Aside0.mk (Kd.R_mono (ok' := fun k_ => some k_ ≠ (v267 : Value).ownBlock ∧ some k_ ≠ (v281 : Value).ownBlock ∧ some k_ ≠ (.slice Ao24 t270.length co24 : Value).ownBlock ∧ some k_ ≠ (.slice Ao27 t273.length co27 : Value).ownBlock ∧ some k_ ≠ (.slice Ao28 t276.length co28 : Value).ownBlock ∧ some k_ ≠ (.slice Ao45 t288.length co45 : Value).ownBlock ∧ some k_ ≠ (.slice Ao46 t291.length co46 : Value).ownBlock) (Kd.R_keptB (HO287.out) hkp (fun k_ hk_ hs_ => Or.elim hs_ (fun e_ => (hk_.1.1.2) e_) (fun e_ => Or.elim e_ (fun e_ => (hk_.1.2) e_) (fun e_ => (hk_.2) e_)))) (fun k_ hk_ => ⟨hk_.1.1.1.1.1.2, hk_.1.1.1.1.2, hk_.1.1.1.2, hk_.1.1.2, hk_.1.2, hk_.1.1.1.1.1.1.1, hk_.1.1.1.1.1.1.2⟩)); have n8_ := Aside0.mk (Kd.R_mono (ok' := fun k_ => some k_ ≠ (v267 : Value).ownBlock ∧ some k_ ≠ (v281 : Value).ownBlock ∧ some k_ ≠ (.slice Ao24 t270.length co24 : Value).ownBlock ∧ some k_ ≠ (.slice Ao27 t273.length co27 : Value).ownBlock ∧ some k_ ≠ (.slice Ao28 t276.length co28 : Value).ownBlock ∧ some k_ ≠ (.slice Ao44 t285.length co44 : Value).ownBlock ∧ some k_ ≠ (.slice Ao46 t291.length co46 : Value).ownBlock) (Kd.R_keptB (HO290.out) hkp (fun k_ hk_ hs_ => Or.elim hs_ (fun e_ => (hk_.1.1.2) e_) (fun e_ => Or.elim e_ (fun e_ => (hk_.1.2) e_) (fun e_ => (hk_.2) e_)))) (fun k_ hk_ => ⟨hk_.1.1.1.1.1.2, hk_.1.1.1.1.2, hk_.1.1.1.2, hk_.1.1.2, hk_.1.2, hk_.1.1.1.1.1.1.1, hk_.1.1.1.1.1.1.2⟩)); have n9_ := Aside0.mk (Kd.R_mono (ok' := fun k_ => some k_ ≠ (v267 : Value).ownBlock ∧ some k_ ≠ (v281 : Value).ownBlock ∧ some k_ ≠ (.slice Ao24 t270.length co24 : Value).ownBlock ∧ some k_ ≠ (.slice Ao27 t273.length co27 : Value).ownBlock ∧ some k_ ≠ (.slice Ao28 t276.length co28 : Value).ownBlock ∧ some k_ ≠ (.slice Ao44 t285.length co44 : Value).ownBlock ∧ some k_ ≠ (.slice Ao45 t288.length co45 : Value).ownBlock) (Kd.R_keptB (HO293.out) hkp (fun k_ hk_ hs_ => Or.elim hs_ (fun e_ => (hk_.1.1.2) e_) (fun e_ => Or.elim e_ (fun e_ => (hk_.1.2) e_) (fun e_ => (hk_.2) e_)))) (fun k_ hk_ => ⟨hk_.1.1.1.1.1.2, hk_.1.1.1.1.2, hk_.1.1.1.2, hk_.1.1.2, hk_.1.2, hk_.1.1.1.1.1.1.1, hk_.1.1.1.1.1.1.2⟩)); have n10_ := Aside0.mk (hb); clear HO_4; clear HO_7; clear HO_280000; clear HO_280001; clear HO_280002; clear BK255; clear BK279; clear HO287; clear HO290; clear HO293; clear HB; have HO_4 := n0_; have HO_7 := n1_; have HO_280000 := n2_; have HO_280001 := n3_; have HO_280002 := n4_; have BK255 := n5_; have BK279 := n6_; have HO287 := n7_; have HO290 := n8_; have HO293 := n9_; have HB := n10_; clear n0_ n1_ n2_ n3_ n4_ n5_ n6_ n7_ n8_ n9_ n10_; (try clear hb); (try clear hkp); (try clear hy0); (try clear hy1); (try clear hy2)))
    (try simp only [Act.put, List.setIfInBounds_toArray, List.set_cons_zero, List.set_cons_succ])
    go_cut [61] (fun v61 wc => ∃ (kq : Nat) (x61_40 : Bool), v61 = .bool x61_40 ∧ Aside0 (laws_FnExactTurnsOfJobs.j1 kq t266 t269 t280 x61_40 l0_0 l0_1 l0_2 = some r) ∧ Aside0 (kq ≤ kj10) ∧ Aside0 (Kd.R (Kd.int .i64) 2 wc w.heap.size (fun k_ => some k_ ≠ (v281 : Value).ownBlock ∧ some k_ ≠ ((.slice Ao24 t270.length co24) : Value).ownBlock ∧ some k_ ≠ ((.slice Ao27 t273.length co27) : Value).ownBlock ∧ some k_ ≠ ((.slice Ao28 t276.length co28) : Value).ownBlock) v267 t266) ∧ Aside0 (Kd.R (Kd.int .i64) 2 wc w.heap.size (fun k_ => some k_ ≠ (v267 : Value).ownBlock ∧ some k_ ≠ ((.slice Ao24 t270.length co24) : Value).ownBlock ∧ some k_ ≠ ((.slice Ao27 t273.length co27) : Value).ownBlock ∧ some k_ ≠ ((.slice Ao28 t276.length co28) : Value).ownBlock) v281 t280) ∧ Aside0 (Kd.R (Kd.int .i64) 2 wc w.heap.size (fun k_ => some k_ ≠ (v267 : Value).ownBlock ∧ some k_ ≠ (v281 : Value).ownBlock ∧ some k_ ≠ ((.slice Ao27 t273.length co27) : Value).ownBlock ∧ some k_ ≠ ((.slice Ao28 t276.length co28) : Value).ownBlock) (.slice Ao24 t270.length co24) t296) ∧ Aside0 (Kd.R (Kd.int .i64) 2 wc w.heap.size (fun k_ => some k_ ≠ (v267 : Value).ownBlock ∧ some k_ ≠ (v281 : Value).ownBlock ∧ some k_ ≠ ((.slice Ao24 t270.length co24) : Value).ownBlock ∧ some k_ ≠ ((.slice Ao28 t276.length co28) : Value).ownBlock) (.slice Ao27 t273.length co27) t297) ∧ Aside0 (Kd.R (Kd.int .i64) 2 wc w.heap.size (fun k_ => some k_ ≠ (v267 : Value).ownBlock ∧ some k_ ≠ (v281 : Value).ownBlock ∧ some k_ ≠ ((.slice Ao24 t270.length co24) : Value).ownBlock ∧ some k_ ≠ ((.slice Ao27 t273.length co27) : Value).ownBlock) (.slice Ao28 t276.length co28) t298) ∧ Aside0 (wc.heap[gb255]? = some (.cells #[(.slice A0_0 l0_0.length c0_0), (.slice A0_1 l0_1.length c0_1), (.slice A0_2 l0_2.length c0_2)] 24 (0, 0))) ∧ Aside0 (wc.heap[gb279]? = some (.cells #[(.slice Ao24 t270.length co24), (.slice Ao27 t273.length co27), (.slice Ao28 t276.length co28)] 28 (0, 0))) ∧ Aside0 (Below w.heap.size w wc))
    case first =>
      have H := HC41.out
      clear HC41
      by_cases c51 : t295 < 0
      · rw [if_pos c51] at H
        have c51b0 : decide (t295 < 0) = true := decide_eq_true c51
        clear c51
        (first | rw [c51b0] | (simp only [i64_w, i32_w]; rw [c51b0]) | skip)
        have H' := Aside0.mk H
        clear H
        go_wp2
        go_meet
        case rel => exact ⟨_, (true), zq76, H', ⟨by have := HJ10.out; first | omega | exact Nat.le_refl _⟩, ⟨by (with_reducible repeat (first | apply Kd.R_alloc | apply Kd.R_drewN | apply Kd.R_drew)); exact Kd.R_mono HO_4.out (fun _ hk => ⟨hk.1, ⟨hk.2.1, ⟨hk.2.2.1, hk.2.2.2.1⟩⟩⟩)⟩, ⟨by (with_reducible repeat (first | apply Kd.R_alloc | apply Kd.R_drewN | apply Kd.R_drew)); exact Kd.R_mono HO_7.out (fun _ hk => ⟨hk.1, ⟨hk.2.1, ⟨hk.2.2.1, hk.2.2.2.1⟩⟩⟩)⟩, ⟨by (with_reducible repeat (first | apply Kd.R_alloc | apply Kd.R_drewN | apply Kd.R_drew)); exact Kd.R_mono HO_280000.out (fun _ hk => ⟨hk.1.1.1.1, ⟨hk.1.1.1.2.1, ⟨hk.1.1.1.2.2.1, hk.1.1.1.2.2.2⟩⟩⟩)⟩, ⟨by (with_reducible repeat (first | apply Kd.R_alloc | apply Kd.R_drewN | apply Kd.R_drew)); exact Kd.R_mono HO_280001.out (fun _ hk => ⟨hk.1.1.1.1, ⟨hk.1.1.1.2.1, ⟨hk.1.1.1.2.2.1, hk.1.1.1.2.2.2⟩⟩⟩)⟩, ⟨by (with_reducible repeat (first | apply Kd.R_alloc | apply Kd.R_drewN | apply Kd.R_drew)); exact Kd.R_mono HO_280002.out (fun _ hk => ⟨hk.1.1.1.1, ⟨hk.1.1.1.2.1, ⟨hk.1.1.1.2.2.1, hk.1.1.1.2.2.2⟩⟩⟩)⟩, ⟨by (with_reducible repeat (first | refine blk_drewN ?_ _ | refine blk_drew ?_ | refine blk_alloc ?_ _)); exact BK255.out⟩, ⟨by (with_reducible repeat (first | refine blk_drewN ?_ _ | refine blk_drew ?_ | refine blk_alloc ?_ _)); exact BK279.out⟩, ⟨by repeat (first | (with_reducible first | exact HB.out | apply below_alloc | apply pw_below_drewN | apply below_drew1 | refine below_set ?_ GE255.out | refine below_set ?_ GE279.out) | exact HB.out)⟩⟩
      rw [if_neg c51] at H
      have c51b0 : decide (t295 < 0) = false := decide_eq_false c51
      clear c51
      (first | rw [c51b0] | (simp only [i64_w, i32_w]; rw [c51b0]) | skip)
      replace H := Option.bind_eq_some_iff.mp H
      obtain ⟨t299, A520, H⟩ := H
      replace H : (if t299 = true then (laws_FnExactTurnsOfJobs.j1 kj10 t266 t269 t280 (t283 != t269) l0_0 l0_1 l0_2) else (laws_FnExactTurnsOfJobs.j1 kj10 t266 t269 t280 true l0_0 l0_1 l0_2)) = some r := H
      have A52 := Aside0.mk A520
      clear A520
      by_cases c53 : t299 = true
      · subst c53
        have H1 : (laws_FnExactTurnsOfJobs.j1 kj10 t266 t269 t280 (t283 != t269) l0_0 l0_1 l0_2) = some r := by rw [if_pos rfl] at H; exact H
        clear H
        have H := H1
        clear H1
        have H' := Aside0.mk H
        clear H
        obtain ⟨Ao54, co54, eo54⟩ := Kd.R_slice HO_7.out
        subst eo54
        obtain ⟨Ao55, co55, eo55⟩ := Kd.R_slice HO_4.out
        subst eo55
        go_wp2_with (first | (go_at_call 18; (with_reducible refine (laws_eqInt64S.calls kj10 _ _ t280 _ _ t266 true _ ?side1 ?side2 ?side3 ?side4 A52.out).mono ?_); (case side1 => repeat (first | exact (Kd.R_reads' HO_7.out).2.2 | (with_reducible refine Kd.C_alloc ?_ _) | (with_reducible refine Kd.C_drewN ?_ _) | (with_reducible refine Kd.C_drew ?_))); (case side2 => exact (Kd.R_reads' HO_7.out).2.1); (case side3 => repeat (first | exact (Kd.R_reads' HO_4.out).2.2 | (with_reducible refine Kd.C_alloc ?_ _) | (with_reducible refine Kd.C_drewN ?_ _) | (with_reducible refine Kd.C_drew ?_))); (case side4 => exact (Kd.R_reads' HO_4.out).2.1); rintro e w' ⟨rfl, ⟨nd, rfl⟩⟩))
        go_meet
        case rel => exact ⟨_, ((t283 != t269)), zq76, H', ⟨by have := HJ10.out; first | omega | exact Nat.le_refl _⟩, ⟨by (with_reducible repeat (first | apply Kd.R_alloc | apply Kd.R_drewN | apply Kd.R_drew)); exact Kd.R_mono HO_4.out (fun _ hk => ⟨hk.1, ⟨hk.2.1, ⟨hk.2.2.1, hk.2.2.2.1⟩⟩⟩)⟩, ⟨by (with_reducible repeat (first | apply Kd.R_alloc | apply Kd.R_drewN | apply Kd.R_drew)); exact Kd.R_mono HO_7.out (fun _ hk => ⟨hk.1, ⟨hk.2.1, ⟨hk.2.2.1, hk.2.2.2.1⟩⟩⟩)⟩, ⟨by (with_reducible repeat (first | apply Kd.R_alloc | apply Kd.R_drewN | apply Kd.R_drew)); exact Kd.R_mono HO_280000.out (fun _ hk => ⟨hk.1.1.1.1, ⟨hk.1.1.1.2.1, ⟨hk.1.1.1.2.2.1, hk.1.1.1.2.2.2⟩⟩⟩)⟩, ⟨by (with_reducible repeat (first | apply Kd.R_alloc | apply Kd.R_drewN | apply Kd.R_drew)); exact Kd.R_mono HO_280001.out (fun _ hk => ⟨hk.1.1.1.1, ⟨hk.1.1.1.2.1, ⟨hk.1.1.1.2.2.1, hk.1.1.1.2.2.2⟩⟩⟩)⟩, ⟨by (with_reducible repeat (first | apply Kd.R_alloc | apply Kd.R_drewN | apply Kd.R_drew)); exact Kd.R_mono HO_280002.out (fun _ hk => ⟨hk.1.1.1.1, ⟨hk.1.1.1.2.1, ⟨hk.1.1.1.2.2.1, hk.1.1.1.2.2.2⟩⟩⟩)⟩, ⟨by (with_reducible repeat (first | refine blk_drewN ?_ _ | refine blk_drew ?_ | refine blk_alloc ?_ _)); exact BK255.out⟩, ⟨by (with_reducible repeat (first | refine blk_drewN ?_ _ | refine blk_drew ?_ | refine blk_alloc ?_ _)); exact BK279.out⟩, ⟨by repeat (first | (with_reducible first | exact HB.out | apply below_alloc | apply pw_below_drewN | apply below_drew1 | refine below_set ?_ GE255.out | refine below_set ?_ GE279.out) | exact HB.out)⟩⟩
      replace c53 := Bool.eq_false_iff.mpr c53
      subst c53
      have H1 : (laws_FnExactTurnsOfJobs.j1 kj10 t266 t269 t280 true l0_0 l0_1 l0_2) = some r := by rw [if_neg (show ¬ (false = true) by decide)] at H; exact H
      clear H
      have H := H1
      clear H1
      have H' := Aside0.mk H
      clear H
      obtain ⟨Ao56, co56, eo56⟩ := Kd.R_slice HO_7.out
      subst eo56
      obtain ⟨Ao57, co57, eo57⟩ := Kd.R_slice HO_4.out
      subst eo57
      go_wp2_with (first | (go_at_call 18; (with_reducible refine (laws_eqInt64S.calls kj10 _ _ t280 _ _ t266 false _ ?side1 ?side2 ?side3 ?side4 A52.out).mono ?_); (case side1 => repeat (first | exact (Kd.R_reads' HO_7.out).2.2 | (with_reducible refine Kd.C_alloc ?_ _) | (with_reducible refine Kd.C_drewN ?_ _) | (with_reducible refine Kd.C_drew ?_))); (case side2 => exact (Kd.R_reads' HO_7.out).2.1); (case side3 => repeat (first | exact (Kd.R_reads' HO_4.out).2.2 | (with_reducible refine Kd.C_alloc ?_ _) | (with_reducible refine Kd.C_drewN ?_ _) | (with_reducible refine Kd.C_drew ?_))); (case side4 => exact (Kd.R_reads' HO_4.out).2.1); rintro e w' ⟨rfl, ⟨nd, rfl⟩⟩))
      go_meet
      case rel => exact ⟨_, (true), zq76, H', ⟨by have := HJ10.out; first | omega | exact Nat.le_refl _⟩, ⟨by (with_reducible repeat (first | apply Kd.R_alloc | apply Kd.R_drewN | apply Kd.R_drew)); exact Kd.R_mono HO_4.out (fun _ hk => ⟨hk.1, ⟨hk.2.1, ⟨hk.2.2.1, hk.2.2.2.1⟩⟩⟩)⟩, ⟨by (with_reducible repeat (first | apply Kd.R_alloc | apply Kd.R_drewN | apply Kd.R_drew)); exact Kd.R_mono HO_7.out (fun _ hk => ⟨hk.1, ⟨hk.2.1, ⟨hk.2.2.1, hk.2.2.2.1⟩⟩⟩)⟩, ⟨by (with_reducible repeat (first | apply Kd.R_alloc | apply Kd.R_drewN | apply Kd.R_drew)); exact Kd.R_mono HO_280000.out (fun _ hk => ⟨hk.1.1.1.1, ⟨hk.1.1.1.2.1, ⟨hk.1.1.1.2.2.1, hk.1.1.1.2.2.2⟩⟩⟩)⟩, ⟨by (with_reducible repeat (first | apply Kd.R_alloc | apply Kd.R_drewN | apply Kd.R_drew)); exact Kd.R_mono HO_280001.out (fun _ hk => ⟨hk.1.1.1.1, ⟨hk.1.1.1.2.1, ⟨hk.1.1.1.2.2.1, hk.1.1.1.2.2.2⟩⟩⟩)⟩, ⟨by (with_reducible repeat (first | apply Kd.R_alloc | apply Kd.R_drewN | apply Kd.R_drew)); exact Kd.R_mono HO_280002.out (fun _ hk => ⟨hk.1.1.1.1, ⟨hk.1.1.1.2.1, ⟨hk.1.1.1.2.2.1, hk.1.1.1.2.2.2⟩⟩⟩)⟩, ⟨by (with_reducible repeat (first | refine blk_drewN ?_ _ | refine blk_drew ?_ | refine blk_alloc ?_ _)); exact BK255.out⟩, ⟨by (with_reducible repeat (first | refine blk_drewN ?_ _ | refine blk_drew ?_ | refine blk_alloc ?_ _)); exact BK279.out⟩, ⟨by repeat (first | (with_reducible first | exact HB.out | apply below_alloc | apply pw_below_drewN | apply below_drew1 | refine below_set ?_ GE255.out | refine below_set ?_ GE279.out) | exact HB.out)⟩⟩
    clear HC41
    try clear c1
    try clear c2
    try clear p2
    try clear c3
    try clear c3b0
    try clear c4
    try clear c5
    try clear c6
    try clear c13
    try clear c15
    try clear c18
    try clear c19
    try clear c20
    try clear c25
    try clear c27
    try clear c28
    try clear c31
    try clear c36
    try clear c39
    try clear c48
    try clear c51
    try clear c51b0
    try clear c53
    try clear hcz13_0
    try clear hcz13_1
    try clear hcz13_2
    try clear hcz15_0
    try clear hcz15_1
    try clear hcz15_2
    try clear hcz21_0
    try clear hcz21_1
    try clear hcz21_2
    try clear hcz26_0
    try clear hcz26_1
    try clear hcz26_2
    try clear hcz49_0
    try clear hcz49_1
    try clear hcz49_2
    try clear hcz5_0
    try clear hcz5_1
    try clear hcz5_2
    try clear hfz13_0
    try clear hfz13_1
    try clear hfz13_2
    try clear hfz15_0
    try clear hfz15_1
    try clear hfz15_2
    try clear hfz21_0
    try clear hfz21_1
    try clear hfz21_2
    try clear hfz26_0
    try clear hfz26_1
    try clear hfz26_2
    try clear hfz49_0
    try clear hfz49_1
    try clear hfz49_2
    try clear hfz5_0
    try clear hfz5_1
    try clear hfz5_2
    try clear p2
    obtain ⟨kq, x61_40, rfl, HA, HJ40, HO_4, HO_7, HO_280000, HO_280001, HO_280002, BK255, BK279, HB⟩ := hcut
    have hl280000_40 := (Kd.R_reads' HO_280000.out).1
    rw [hl280000_40] at HO_280000
    (try simp only [hl280000_40])
    (try simp only [hl280000_40] at BK255)
    (try simp only [hl280000_40] at BK279)
    (try simp only [hl280000_40] at HO_4)
    (try simp only [hl280000_40] at HO_7)
    (try simp only [hl280000_40] at HO_280001)
    (try simp only [hl280000_40] at HO_280002)
    have hl280001_40 := (Kd.R_reads' HO_280001.out).1
    rw [hl280001_40] at HO_280001
    (try simp only [hl280001_40])
    (try simp only [hl280001_40] at BK255)
    (try simp only [hl280001_40] at BK279)
    (try simp only [hl280001_40] at HO_4)
    (try simp only [hl280001_40] at HO_7)
    (try simp only [hl280001_40] at HO_280000)
    (try simp only [hl280001_40] at HO_280002)
    have hl280002_40 := (Kd.R_reads' HO_280002.out).1
    rw [hl280002_40] at HO_280002
    (try simp only [hl280002_40])
    (try simp only [hl280002_40] at BK255)
    (try simp only [hl280002_40] at BK279)
    (try simp only [hl280002_40] at HO_4)
    (try simp only [hl280002_40] at HO_7)
    (try simp only [hl280002_40] at HO_280000)
    (try simp only [hl280002_40] at HO_280001)
    cases kq with
    | zero => exact absurd HA.out (by simp [laws_FnExactTurnsOfJobs.j1])
    | succ kj40 =>
      have H := HA.out
      clear HA
      simp only [laws_FnExactTurnsOfJobs.j1] at H
      by_cases c58 : x61_40 = true
      · subst c58
        have H1 : (some false) = some r := by rw [if_pos rfl] at H; exact H
        clear H
        have H := H1
        clear H1
        rw [hr_.out] at H
        exact absurd H (by simp)
      replace c58 := Bool.eq_false_iff.mpr c58
      subst c58
      have H1 : ((laws_markInt64S.f kj40 t280 1).bind fun bt300 => ((laws_heldInt64S.f kj40 bt300.2 1).bind fun t302 => (if t302 < 0 then (some false) else (if t302 = bt300.1 then ((laws_toJobs.f kj40 l0_0 l0_1 l0_2).bind fun bt303 => ((impl_TurnsOfJobs.f kj40 bt303.1 bt303.2.1 bt303.2.2).bind fun bt312 => ((laws_eqInt64S.f kj40 bt312.1 t266).bind fun t316 => (if t316 = true then (laws_FnExactTurnsOfJobs.j2 kj40 bt300.2 bt300.1 (bt312.2 != t269)) else (laws_FnExactTurnsOfJobs.j2 kj40 bt300.2 bt300.1 true))))) else (some false))))) = some r := by rw [if_neg (show ¬ (false = true) by decide)] at H; exact H
      clear H
      have H := H1
      clear H1
      replace H := Option.bind_eq_some_iff.mp H
      obtain ⟨⟨t300, t301⟩, A590, H⟩ := H
      replace H : ((laws_heldInt64S.f kj40 t301 1).bind fun t302 => (if t302 < 0 then (some false) else (if t302 = t300 then ((laws_toJobs.f kj40 l0_0 l0_1 l0_2).bind fun bt303 => ((impl_TurnsOfJobs.f kj40 bt303.1 bt303.2.1 bt303.2.2).bind fun bt312 => ((laws_eqInt64S.f kj40 bt312.1 t266).bind fun t316 => (if t316 = true then (laws_FnExactTurnsOfJobs.j2 kj40 t301 t300 (bt312.2 != t269)) else (laws_FnExactTurnsOfJobs.j2 kj40 t301 t300 true))))) else (some false)))) = some r := H
      have A59 := Aside0.mk A590
      clear A590
      replace H := Option.bind_eq_some_iff.mp H
      obtain ⟨t302, A600, H⟩ := H
      replace H : (if t302 < 0 then (some false) else (if t302 = t300 then ((laws_toJobs.f kj40 l0_0 l0_1 l0_2).bind fun bt303 => ((impl_TurnsOfJobs.f kj40 bt303.1 bt303.2.1 bt303.2.2).bind fun bt312 => ((laws_eqInt64S.f kj40 bt312.1 t266).bind fun t316 => (if t316 = true then (laws_FnExactTurnsOfJobs.j2 kj40 t301 t300 (bt312.2 != t269)) else (laws_FnExactTurnsOfJobs.j2 kj40 t301 t300 true))))) else (some false))) = some r := H
      have A60 := Aside0.mk A600
      clear A600
      by_cases c61 : t302 < 0
      · rw [if_pos c61] at H
        have c61b0 : decide (t302 < 0) = true := decide_eq_true c61
        clear c61
        rw [hr_.out] at H
        exact absurd H (by simp)
      rw [if_neg c61] at H
      have c61b0 : decide (t302 < 0) = false := decide_eq_false c61
      clear c61
      by_cases c62 : t302 = t300
      rotate_left
      · rw [if_neg c62] at H
        have c62b0 : (t302 == t300) = false := beq_eq_false_iff_ne.mpr c62
        have c62b1 : (t302 != t300) = true := bne_iff_ne.mpr c62
        rw [hr_.out] at H
        exact absurd H (by simp)
      rw [if_pos c62] at H
      have c62b0 : (t302 == t300) = true := beq_iff_eq.mpr c62
      have c62b1 : (t302 != t300) = false := bne_eq_false_iff_eq.mpr c62
      clear c62
      replace H := Option.bind_eq_some_iff.mp H
      obtain ⟨⟨t303, t306, t309⟩, A630, H⟩ := H
      replace H : ((impl_TurnsOfJobs.f kj40 t303 t306 t309).bind fun bt312 => ((laws_eqInt64S.f kj40 bt312.1 t266).bind fun t316 => (if t316 = true then (laws_FnExactTurnsOfJobs.j2 kj40 t301 t300 (bt312.2 != t269)) else (laws_FnExactTurnsOfJobs.j2 kj40 t301 t300 true)))) = some r := H
      have A63 := Aside0.mk A630
      clear A630
      replace H := Option.bind_eq_some_iff.mp H
      obtain ⟨⟨t312, t315⟩, A640, H⟩ := H
      replace H : ((laws_eqInt64S.f kj40 t312 t266).bind fun t316 => (if t316 = true then (laws_FnExactTurnsOfJobs.j2 kj40 t301 t300 (t315 != t269)) else (laws_FnExactTurnsOfJobs.j2 kj40 t301 t300 true))) = some r := H
      have A64 := Aside0.mk A640
      clear A640
      have HC65 := Aside0.mk H
      clear H
      obtain ⟨Ao66, co66, eo66⟩ := Kd.R_slice HO_7.out
      subst eo66
      go_upto_region 25 with (first | ((with_reducible refine gate_callee (f := 21) rfl ?_); refine goesL_ (some 64) rfl rfl Try.func21 (by kernel_rfl) rfl #[.slice Ao66 t280.length co66, .int .i64 1] rfl zq19 ?_; (with_reducible refine (laws_markInt64S.calls kj40 (fun k_ => some k_ = (.slice Ao66 t280.length co66 : Value).ownBlock) (.slice Ao66 t280.length co66) t280 1 t300 t301 w _ ?side1 ?side2 A59.out).mono ?_); (case side1 => repeat (first | (with_reducible first | exact HB.out | apply below_alloc | apply pw_below_drewN | apply below_drew1 | refine below_set ?_ GE255.out | refine below_set ?_ GE279.out) | exact HB.out)); (case side2 => exact Kd.R_tight rfl HO_7.out); rintro e w67 ⟨rfl, hy0, hb, hkp⟩; refine ⟨_, rfl, ?_⟩; have n0_ := Aside0.mk (Kd.R_mono (ok' := fun k_ => some k_ ≠ (.slice Ao66 t280.length co66 : Value).ownBlock ∧ some k_ ≠ (.slice Ao24 t296.length co24 : Value).ownBlock ∧ some k_ ≠ (.slice Ao27 t297.length co27 : Value).ownBlock ∧ some k_ ≠ (.slice Ao28 t298.length co28 : Value).ownBlock) (Kd.R_keptB (HO_4.out) hkp (fun k_ hk_ hs_ => (hk_.1) hs_)) (fun k_ hk_ => ⟨hk_.1.1, hk_.1.2.1, hk_.1.2.2.1, hk_.1.2.2.2⟩)); have n1_ := Aside0.mk (Kd.R_reok rfl hy0 (fun k_ e_ => HO_7.out.1 k_ e_)); have n2_ := Aside0.mk (Kd.R_mono (ok' := fun k_ => some k_ ≠ (v267 : Value).ownBlock ∧ some k_ ≠ (.slice Ao66 t280.length co66 : Value).ownBlock ∧ some k_ ≠ (.slice Ao27 t297.length co27 : Value).ownBlock ∧ some k_ ≠ (.slice Ao28 t298.length co28 : Value).ownBlock) (Kd.R_keptB (HO_280000.out) hkp (fun k_ hk_ hs_ => (hk_.2.1) hs_)) (fun k_ hk_ => ⟨hk_.1.1, hk_.1.2.1, hk_.1.2.2.1, hk_.1.2.2.2⟩)); have n3_ := Aside0.mk (Kd.R_mono (ok' := fun k_ => some k_ ≠ (v267 : Value).ownBlock ∧ some k_ ≠ (.slice Ao66 t280.length co66 : Value).ownBlock ∧ some k_ ≠ (.slice Ao24 t296.length co24 : Value).ownBlock ∧ some k_ ≠ (.slice Ao28 t298.length co28 : Value).ownBlock) (Kd.R_keptB (HO_280001.out) hkp (fun k_ hk_ hs_ => (hk_.2.1) hs_)) (fun k_ hk_ => ⟨hk_.1.1, hk_.1.2.1, hk_.1.2.2.1, hk_.1.2.2.2⟩)); have n4_ := Aside0.mk (Kd.R_mono (ok' := fun k_ => some k_ ≠ (v267 : Value).ownBlock ∧ some k_ ≠ (.slice Ao66 t280.length co66 : Value).ownBlock ∧ some k_ ≠ (.slice Ao24 t296.length co24 : Value).ownBlock ∧ some k_ ≠ (.slice Ao27 t297.length co27 : Value).ownBlock) (Kd.R_keptB (HO_280002.out) hkp (fun k_ hk_ hs_ => (hk_.2.1) hs_)) (fun k_ hk_ => ⟨hk_.1.1, hk_.1.2.1, hk_.1.2.2.1, hk_.1.2.2.2⟩)); have n5_ := Aside0.mk (blk_kept zq46 hkp (fun hs_ => (fun e_ => (Kd.R_ne HO_7.out BK255.out (by decide)) e_) hs_)); have n6_ := Aside0.mk (blk_kept zq47 hkp (fun hs_ => (fun e_ => (Kd.R_ne HO_7.out BK279.out (by decide)) e_) hs_)); have n7_ := Aside0.mk (hb); clear HO_4; clear HO_7; clear HO_280000; clear HO_280001; clear HO_280002; clear BK255; clear BK279; clear HB; have HO_4 := n0_; have HO_7 := n1_; have HO_280000 := n2_; have HO_280001 := n3_; have HO_280002 := n4_; have BK255 := n5_; have BK279 := n6_; have HB := n7_; clear n0_ n1_ n2_ n3_ n4_ n5_ n6_ n7_; (try clear hb); (try clear hkp); (try clear hy0)) | ((with_reducible refine gate_callee (f := 22) rfl ?_); refine goesL_ (some 67) rfl rfl Try.func22 (by kernel_rfl) rfl #[.slice Ao66 t301.length co66, .int .i64 1] rfl (by (try simp only [List.map_toArray, List.map_cons, List.map_nil]); first | done | (rw [show t301.length = t280.length from (Kd.R_reads' HO_7.out).1.symm] <;> rfl) | rfl | (simp only [List.length_drop, List.length_take]; rfl)) ?_; (with_reducible refine (laws_heldInt64S.calls kj40 _ _ t301 1 t302 _ ?side1 ?side2 A60.out).mono ?_); (case side1 => repeat (first | exact (Kd.R_reads' HO_7.out).2.2 | (with_reducible refine Kd.C_alloc ?_ _) | (with_reducible refine Kd.C_drewN ?_ _) | (with_reducible refine Kd.C_drew ?_))); (case side2 => rw [show t301.length = t280.length from (Kd.R_reads' HO_7.out).1.symm]; exact (Kd.R_reads' HO_7.out).2.1); rintro e w' ⟨rfl, ⟨nd, rfl⟩⟩; refine ⟨_, rfl, ?_⟩; have hnb68 := NB255_279.out; have hnc68 := NB279_255.out; have hcz69_0 : w67.cell? ⟨gb255, 0, none⟩ = some (.slice A0_0 l0_0.length c0_0) := (blk_cell BK255.out 0).trans rfl; have hcz69_1 : w67.cell? ⟨gb255, 1, none⟩ = some (.slice A0_1 l0_1.length c0_1) := (blk_cell BK255.out 1).trans rfl; have hcz69_2 : w67.cell? ⟨gb255, 2, none⟩ = some (.slice A0_2 l0_2.length c0_2) := (blk_cell BK255.out 2).trans rfl; have hfz69_0 := blk_frozen BK255.out 0; have hfz69_1 := blk_frozen BK255.out 1; have hfz69_2 := blk_frozen BK255.out 2) | ((with_reducible refine gate_callee (f := 15) rfl ?_); refine goesL_ (some 75) rfl rfl Try.func15 (by kernel_rfl) rfl #[.agg #[.slice A0_0 l0_0.length c0_0, .slice A0_1 l0_1.length c0_1, .slice A0_2 l0_2.length c0_2]] rfl zq19 ?_; (with_reducible refine (laws_toJobs.calls kj40 _ _ l0_0 _ _ l0_1 _ _ l0_2 t303 t306 t309 _ ?side1 ?side2 ?side3 ?side4 ?side5 ?side6 A63.out).mono ?_); (case side1 => repeat (first | exact (Kd.C_below HR0_0.out zq16) | (with_reducible refine Kd.C_alloc ?_ _) | (with_reducible refine Kd.C_drewN ?_ _) | (with_reducible refine Kd.C_drew ?_))); (case side2 => exact HC0_0.out); (case side3 => repeat (first | exact (Kd.C_below HR0_1.out zq16) | (with_reducible refine Kd.C_alloc ?_ _) | (with_reducible refine Kd.C_drewN ?_ _) | (with_reducible refine Kd.C_drew ?_))); (case side4 => exact HC0_1.out); (case side5 => repeat (first | exact (Kd.C_below HR0_2.out zq16) | (with_reducible refine Kd.C_alloc ?_ _) | (with_reducible refine Kd.C_drewN ?_ _) | (with_reducible refine Kd.C_drew ?_))); (case side6 => exact HC0_2.out); rintro e w70 ⟨v304, v307, v310, rfl, ho0, ho1, ho2, hb⟩; refine ⟨_, rfl, ?_⟩; have n0_ := Aside0.mk (Kd.R_mono (Kd.R_told (Kd.R_told (Kd.R_told (Kd.R_old zq67 hb) (Kd.R_base ho0)) (Kd.R_base ho1)) (Kd.R_base ho2)) (fun _ h_ => h_.1)); have n1_ := Aside0.mk (Kd.R_mono (Kd.R_told (Kd.R_told (Kd.R_told (Kd.R_old zq69 hb) (Kd.R_base ho0)) (Kd.R_base ho1)) (Kd.R_base ho2)) (fun _ h_ => h_.1)); have n2_ := Aside0.mk (Kd.R_mono (Kd.R_told (Kd.R_told (Kd.R_told (Kd.R_old zq54 hb) (Kd.R_base ho0)) (Kd.R_base ho1)) (Kd.R_base ho2)) (fun _ h_ => h_.1)); have n3_ := Aside0.mk (Kd.R_mono (Kd.R_told (Kd.R_told (Kd.R_told (Kd.R_old zq55 hb) (Kd.R_base ho0)) (Kd.R_base ho1)) (Kd.R_base ho2)) (fun _ h_ => h_.1)); have n4_ := Aside0.mk (Kd.R_mono (Kd.R_told (Kd.R_told (Kd.R_told (Kd.R_old zq56 hb) (Kd.R_base ho0)) (Kd.R_base ho1)) (Kd.R_base ho2)) (fun _ h_ => h_.1)); have n5_ := Aside0.mk (Kd.R_lower (Kd.R_new' (Kd.R_new' (Kd.R_new' (Kd.R_new' (Kd.R_new' ho0 (Kd.R_lt zq67)) (Kd.R_lt zq69)) (Kd.R_lt zq54)) (Kd.R_lt zq55)) (Kd.R_lt zq56)) (below_size zq16)); have n6_ := Aside0.mk (Kd.R_lower (Kd.R_new' (Kd.R_new' (Kd.R_new' (Kd.R_new' (Kd.R_new' ho1 (Kd.R_lt zq67)) (Kd.R_lt zq69)) (Kd.R_lt zq54)) (Kd.R_lt zq55)) (Kd.R_lt zq56)) (below_size zq16)); have n7_ := Aside0.mk (Kd.R_lower (Kd.R_new' (Kd.R_new' (Kd.R_new' (Kd.R_new' (Kd.R_new' ho2 (Kd.R_lt zq67)) (Kd.R_lt zq69)) (Kd.R_lt zq54)) (Kd.R_lt zq55)) (Kd.R_lt zq56)) (below_size zq16)); have n8_ := Aside0.mk (blk_below (g := gb255) (o := .cells #[.slice A0_0 l0_0.length c0_0, .slice A0_1 l0_1.length c0_1, .slice A0_2 l0_2.length c0_2] 24 (0, 0)) zq46 hb); have n9_ := Aside0.mk (blk_below (g := gb279) (o := .cells #[.slice Ao24 t296.length co24, .slice Ao27 t297.length co27, .slice Ao28 t298.length co28] 28 (0, 0)) zq47 hb); have n10_ := Aside0.mk (below_step zq16 hb); clear HO_4; clear HO_7; clear HO_280000; clear HO_280001; clear HO_280002; clear BK255; clear BK279; clear HB; have HO_4 := n0_; have HO_7 := n1_; have HO_280000 := n2_; have HO_280001 := n3_; have HO_280002 := n4_; have HO305 := n5_; have HO308 := n6_; have HO311 := n7_; have BK255 := n8_; have BK279 := n9_; have HB := n10_; clear n0_ n1_ n2_ n3_ n4_ n5_ n6_ n7_ n8_ n9_ n10_; (try clear hb); (try clear hb2); (try clear hk); (try clear hi); (try clear ho0); (try clear ho1); (try clear ho2); obtain ⟨Ao71, co71, eo71⟩ := Kd.R_slice HO305.out; subst eo71; obtain ⟨Ao72, co72, eo72⟩ := Kd.R_slice HO308.out; subst eo72; obtain ⟨Ao73, co73, eo73⟩ := Kd.R_slice HO311.out; subst eo73) | ((with_reducible refine gate_callee (f := 28) rfl ?_); refine goesL_ (some 76) rfl rfl Try.func28 (by kernel_rfl) rfl #[.agg #[.slice Ao71 t303.length co71, .slice Ao72 t306.length co72, .slice Ao73 t309.length co73]] rfl zq19 ?_; (with_reducible refine (impl_TurnsOfJobs.calls kj40 _ _ t303 _ _ t306 _ _ t309 t312 t315 _ ?side1 ?side2 ?side3 ?side4 ?side5 ?side6 A64.out).mono ?_); (case side1 => repeat (first | exact (Kd.R_reads' HO305.out).2.2 | (with_reducible refine Kd.C_alloc ?_ _) | (with_reducible refine Kd.C_drewN ?_ _) | (with_reducible refine Kd.C_drew ?_))); (case side2 => exact (Kd.R_reads' HO305.out).2.1); (case side3 => repeat (first | exact (Kd.R_reads' HO308.out).2.2 | (with_reducible refine Kd.C_alloc ?_ _) | (with_reducible refine Kd.C_drewN ?_ _) | (with_reducible refine Kd.C_drew ?_))); (case side4 => exact (Kd.R_reads' HO308.out).2.1); (case side5 => repeat (first | exact (Kd.R_reads' HO311.out).2.2 | (with_reducible refine Kd.C_alloc ?_ _) | (with_reducible refine Kd.C_drewN ?_ _) | (with_reducible refine Kd.C_drew ?_))); (case side6 => exact (Kd.R_reads' HO311.out).2.1); rintro e w74 ⟨v313, rfl, ho0, hb⟩; refine ⟨_, rfl, ?_⟩; have n0_ := Aside0.mk (Kd.R_elder' zq67 (Kd.R_base ho0) hb); have n1_ := Aside0.mk (Kd.R_elder' zq69 (Kd.R_base ho0) hb); have n2_ := Aside0.mk (Kd.R_elder' zq54 (Kd.R_base ho0) hb); have n3_ := Aside0.mk (Kd.R_elder' zq55 (Kd.R_base ho0) hb); have n4_ := Aside0.mk (Kd.R_elder' zq56 (Kd.R_base ho0) hb); have n5_ := Aside0.mk (Kd.R_elder' (by (with_reducible repeat (first | apply Kd.R_alloc | apply Kd.R_drewN | apply Kd.R_drew)); exact HO305.out) (Kd.R_base ho0) hb); have n6_ := Aside0.mk (Kd.R_elder' (by (with_reducible repeat (first | apply Kd.R_alloc | apply Kd.R_drewN | apply Kd.R_drew)); exact HO308.out) (Kd.R_base ho0) hb); have n7_ := Aside0.mk (Kd.R_elder' (by (with_reducible repeat (first | apply Kd.R_alloc | apply Kd.R_drewN | apply Kd.R_drew)); exact HO311.out) (Kd.R_base ho0) hb); have n8_ := Aside0.mk (Kd.R_lower (Kd.R_new' (Kd.R_new' (Kd.R_new' (Kd.R_new' (Kd.R_new' (Kd.R_new' (Kd.R_new' (Kd.R_new' ho0 (Kd.R_lt zq67)) (Kd.R_lt zq69)) (Kd.R_lt zq54)) (Kd.R_lt zq55)) (Kd.R_lt zq56)) (Kd.R_lt (by (with_reducible repeat (first | apply Kd.R_alloc | apply Kd.R_drewN | apply Kd.R_drew)); exact HO305.out))) (Kd.R_lt (by (with_reducible repeat (first | apply Kd.R_alloc | apply Kd.R_drewN | apply Kd.R_drew)); exact HO308.out))) (Kd.R_lt (by (with_reducible repeat (first | apply Kd.R_alloc | apply Kd.R_drewN | apply Kd.R_drew)); exact HO311.out))) (below_size zq16)); have n9_ := Aside0.mk (blk_below (g := gb255) (o := .cells #[.slice A0_0 l0_0.length c0_0, .slice A0_1 l0_1.length c0_1, .slice A0_2 l0_2.length c0_2] 24 (0, 0)) zq46 hb); have n10_ := Aside0.mk (blk_below (g := gb279) (o := .cells #[.slice Ao24 t296.length co24, .slice Ao27 t297.length co27, .slice Ao28 t298.length co28] 28 (0, 0)) zq47 hb); have n11_ := Aside0.mk (below_step zq16 hb); clear HO_4; clear HO_7; clear HO_280000; clear HO_280001; clear HO_280002; clear HO305; clear HO308; clear HO311; clear BK255; clear BK279; clear HB; have HO_4 := n0_; have HO_7 := n1_; have HO_280000 := n2_; have HO_280001 := n3_; have HO_280002 := n4_; have HO305 := n5_; have HO308 := n6_; have HO311 := n7_; have HO314 := n8_; have BK255 := n9_; have BK279 := n10_; have HB := n11_; clear n0_ n1_ n2_ n3_ n4_ n5_ n6_ n7_ n8_ n9_ n10_ n11_; (try clear hb); (try clear hb2); (try clear hk); (try clear hi); (try clear ho0)))
      (try simp only [Act.put, List.setIfInBounds_toArray, List.set_cons_zero, List.set_cons_succ])
      go_cut [87] (fun v87 wc => ∃ (kq : Nat) (x87_64 : Bool), v87 = .bool x87_64 ∧ Aside0 (laws_FnExactTurnsOfJobs.j2 kq t301 t300 x87_64 = some r) ∧ Aside0 (kq ≤ kj40) ∧ Aside0 (Kd.R (Kd.int .i64) 2 wc w.heap.size (fun k_ => some k_ ≠ ((.slice Ao24 t296.length co24) : Value).ownBlock ∧ some k_ ≠ ((.slice Ao27 t297.length co27) : Value).ownBlock ∧ some k_ ≠ ((.slice Ao28 t298.length co28) : Value).ownBlock) (.slice Ao66 t280.length co66) t301) ∧ Aside0 (Kd.R (Kd.int .i64) 2 wc w.heap.size (fun k_ => some k_ ≠ ((.slice Ao66 t280.length co66) : Value).ownBlock ∧ some k_ ≠ ((.slice Ao27 t297.length co27) : Value).ownBlock ∧ some k_ ≠ ((.slice Ao28 t298.length co28) : Value).ownBlock) (.slice Ao24 t296.length co24) t296) ∧ Aside0 (Kd.R (Kd.int .i64) 2 wc w.heap.size (fun k_ => some k_ ≠ ((.slice Ao66 t280.length co66) : Value).ownBlock ∧ some k_ ≠ ((.slice Ao24 t296.length co24) : Value).ownBlock ∧ some k_ ≠ ((.slice Ao28 t298.length co28) : Value).ownBlock) (.slice Ao27 t297.length co27) t297) ∧ Aside0 (Kd.R (Kd.int .i64) 2 wc w.heap.size (fun k_ => some k_ ≠ ((.slice Ao66 t280.length co66) : Value).ownBlock ∧ some k_ ≠ ((.slice Ao24 t296.length co24) : Value).ownBlock ∧ some k_ ≠ ((.slice Ao27 t297.length co27) : Value).ownBlock) (.slice Ao28 t298.length co28) t298) ∧ Aside0 (wc.heap[gb255]? = some (.cells #[(.slice A0_0 l0_0.length c0_0), (.slice A0_1 l0_1.length c0_1), (.slice A0_2 l0_2.length c0_2)] 24 (0, 0))) ∧ Aside0 (wc.heap[gb279]? = some (.cells #[(.slice Ao24 t296.length co24), (.slice Ao27 t297.length co27), (.slice Ao28 t298.length co28)] 28 (0, 0))) ∧ Aside0 (Below w.heap.size w wc))
      case first =>
        have H := HC65.out
        clear HC65
        replace H := Option.bind_eq_some_iff.mp H
        obtain ⟨t316, A750, H⟩ := H
        replace H : (if t316 = true then (laws_FnExactTurnsOfJobs.j2 kj40 t301 t300 (t315 != t269)) else (laws_FnExactTurnsOfJobs.j2 kj40 t301 t300 true)) = some r := H
        have A75 := Aside0.mk A750
        clear A750
        by_cases c76 : t316 = true
        · subst c76
          have H1 : (laws_FnExactTurnsOfJobs.j2 kj40 t301 t300 (t315 != t269)) = some r := by rw [if_pos rfl] at H; exact H
          clear H
          have H := H1
          clear H1
          have H' := Aside0.mk H
          clear H
          obtain ⟨Ao77, co77, eo77⟩ := Kd.R_slice HO314.out
          subst eo77
          obtain ⟨Ao78, co78, eo78⟩ := Kd.R_slice HO_4.out
          subst eo78
          go_wp2_with (first | ((with_reducible refine gate_callee (f := 18) rfl ?_); refine goesL_ (some 81) rfl rfl Try.func18 (by kernel_rfl) rfl #[.slice Ao77 t312.length co77, .slice Ao78 t266.length co78] rfl zq19 ?_; (with_reducible refine (laws_eqInt64S.calls kj40 _ _ t312 _ _ t266 true _ ?side1 ?side2 ?side3 ?side4 A75.out).mono ?_); (case side1 => repeat (first | exact (Kd.R_reads' HO314.out).2.2 | (with_reducible refine Kd.C_alloc ?_ _) | (with_reducible refine Kd.C_drewN ?_ _) | (with_reducible refine Kd.C_drew ?_))); (case side2 => exact (Kd.R_reads' HO314.out).2.1); (case side3 => repeat (first | exact (Kd.R_reads' HO_4.out).2.2 | (with_reducible refine Kd.C_alloc ?_ _) | (with_reducible refine Kd.C_drewN ?_ _) | (with_reducible refine Kd.C_drew ?_))); (case side4 => exact (Kd.R_reads' HO_4.out).2.1); rintro e w' ⟨rfl, ⟨nd, rfl⟩⟩; refine ⟨_, rfl, ?_⟩))
          go_meet
          case rel => exact ⟨_, ((t315 != t269)), zq76, H', ⟨by have := HJ10.out; have := HJ40.out; first | omega | exact Nat.le_refl _⟩, ⟨by (try simp only [hl280000_40]); (try simp only [hl280001_40]); (try simp only [hl280002_40]); (with_reducible repeat (first | apply Kd.R_alloc | apply Kd.R_drewN | apply Kd.R_drew)); exact Kd.R_mono HO_7.out (fun _ hk => ⟨hk.1.1.1.1.2.1, ⟨hk.1.1.1.1.2.2.1, hk.1.1.1.1.2.2.2⟩⟩)⟩, ⟨by (try simp only [hl280000_40]); (try simp only [hl280001_40]); (try simp only [hl280002_40]); (with_reducible repeat (first | apply Kd.R_alloc | apply Kd.R_drewN | apply Kd.R_drew)); exact Kd.R_mono HO_280000.out (fun _ hk => ⟨hk.1.1.1.1.2.1, ⟨hk.1.1.1.1.2.2.1, hk.1.1.1.1.2.2.2⟩⟩)⟩, ⟨by (try simp only [hl280000_40]); (try simp only [hl280001_40]); (try simp only [hl280002_40]); (with_reducible repeat (first | apply Kd.R_alloc | apply Kd.R_drewN | apply Kd.R_drew)); exact Kd.R_mono HO_280001.out (fun _ hk => ⟨hk.1.1.1.1.2.1, ⟨hk.1.1.1.1.2.2.1, hk.1.1.1.1.2.2.2⟩⟩)⟩, ⟨by (try simp only [hl280000_40]); (try simp only [hl280001_40]); (try simp only [hl280002_40]); (with_reducible repeat (first | apply Kd.R_alloc | apply Kd.R_drewN | apply Kd.R_drew)); exact Kd.R_mono HO_280002.out (fun _ hk => ⟨hk.1.1.1.1.2.1, ⟨hk.1.1.1.1.2.2.1, hk.1.1.1.1.2.2.2⟩⟩)⟩, ⟨by (try simp only [hl280000_40]); (try simp only [hl280001_40]); (try simp only [hl280002_40]); (with_reducible repeat (first | refine blk_drewN ?_ _ | refine blk_drew ?_ | refine blk_alloc ?_ _)); exact BK255.out⟩, ⟨by (try simp only [hl280000_40]); (try simp only [hl280001_40]); (try simp only [hl280002_40]); (with_reducible repeat (first | refine blk_drewN ?_ _ | refine blk_drew ?_ | refine blk_alloc ?_ _)); exact BK279.out⟩, ⟨by repeat (first | (with_reducible first | exact HB.out | apply below_alloc | apply pw_below_drewN | apply below_drew1 | refine below_set ?_ GE255.out | refine below_set ?_ GE279.out) | exact HB.out)⟩⟩
        replace c76 := Bool.eq_false_iff.mpr c76
        subst c76
        have H1 : (laws_FnExactTurnsOfJobs.j2 kj40 t301 t300 true) = some r := by rw [if_neg (show ¬ (false = true) by decide)] at H; exact H
        clear H
        have H := H1
        clear H1
        have H' := Aside0.mk H
        clear H
        obtain ⟨Ao79, co79, eo79⟩ := Kd.R_slice HO314.out
        subst eo79
        obtain ⟨Ao80, co80, eo80⟩ := Kd.R_slice HO_4.out
        subst eo80
        go_wp2_with (first | ((with_reducible refine gate_callee (f := 18) rfl ?_); refine goesL_ (some 81) rfl rfl Try.func18 (by kernel_rfl) rfl #[.slice Ao79 t312.length co79, .slice Ao80 t266.length co80] rfl zq19 ?_; (with_reducible refine (laws_eqInt64S.calls kj40 _ _ t312 _ _ t266 false _ ?side1 ?side2 ?side3 ?side4 A75.out).mono ?_); (case side1 => repeat (first | exact (Kd.R_reads' HO314.out).2.2 | (with_reducible refine Kd.C_alloc ?_ _) | (with_reducible refine Kd.C_drewN ?_ _) | (with_reducible refine Kd.C_drew ?_))); (case side2 => exact (Kd.R_reads' HO314.out).2.1); (case side3 => repeat (first | exact (Kd.R_reads' HO_4.out).2.2 | (with_reducible refine Kd.C_alloc ?_ _) | (with_reducible refine Kd.C_drewN ?_ _) | (with_reducible refine Kd.C_drew ?_))); (case side4 => exact (Kd.R_reads' HO_4.out).2.1); rintro e w' ⟨rfl, ⟨nd, rfl⟩⟩; refine ⟨_, rfl, ?_⟩))
        go_meet
        case rel => exact ⟨_, (true), zq76, H', ⟨by have := HJ10.out; have := HJ40.out; first | omega | exact Nat.le_refl _⟩, ⟨by (try simp only [hl280000_40]); (try simp only [hl280001_40]); (try simp only [hl280002_40]); (with_reducible repeat (first | apply Kd.R_alloc | apply Kd.R_drewN | apply Kd.R_drew)); exact Kd.R_mono HO_7.out (fun _ hk => ⟨hk.1.1.1.1.2.1, ⟨hk.1.1.1.1.2.2.1, hk.1.1.1.1.2.2.2⟩⟩)⟩, ⟨by (try simp only [hl280000_40]); (try simp only [hl280001_40]); (try simp only [hl280002_40]); (with_reducible repeat (first | apply Kd.R_alloc | apply Kd.R_drewN | apply Kd.R_drew)); exact Kd.R_mono HO_280000.out (fun _ hk => ⟨hk.1.1.1.1.2.1, ⟨hk.1.1.1.1.2.2.1, hk.1.1.1.1.2.2.2⟩⟩)⟩, ⟨by (try simp only [hl280000_40]); (try simp only [hl280001_40]); (try simp only [hl280002_40]); (with_reducible repeat (first | apply Kd.R_alloc | apply Kd.R_drewN | apply Kd.R_drew)); exact Kd.R_mono HO_280001.out (fun _ hk => ⟨hk.1.1.1.1.2.1, ⟨hk.1.1.1.1.2.2.1, hk.1.1.1.1.2.2.2⟩⟩)⟩, ⟨by (try simp only [hl280000_40]); (try simp only [hl280001_40]); (try simp only [hl280002_40]); (with_reducible repeat (first | apply Kd.R_alloc | apply Kd.R_drewN | apply Kd.R_drew)); exact Kd.R_mono HO_280002.out (fun _ hk => ⟨hk.1.1.1.1.2.1, ⟨hk.1.1.1.1.2.2.1, hk.1.1.1.1.2.2.2⟩⟩)⟩, ⟨by (try simp only [hl280000_40]); (try simp only [hl280001_40]); (try simp only [hl280002_40]); (with_reducible repeat (first | refine blk_drewN ?_ _ | refine blk_drew ?_ | refine blk_alloc ?_ _)); exact BK255.out⟩, ⟨by (try simp only [hl280000_40]); (try simp only [hl280001_40]); (try simp only [hl280002_40]); (with_reducible repeat (first | refine blk_drewN ?_ _ | refine blk_drew ?_ | refine blk_alloc ?_ _)); exact BK279.out⟩, ⟨by repeat (first | (with_reducible first | exact HB.out | apply below_alloc | apply pw_below_drewN | apply below_drew1 | refine below_set ?_ GE255.out | refine below_set ?_ GE279.out) | exact HB.out)⟩⟩
      clear HC65
      try clear c1
      try clear c2
      try clear p2
      try clear c3
      try clear c3b0
      try clear c4
      try clear c5
      try clear c6
      try clear c7
      try clear c13
      try clear c15
      try clear c18
      try clear c19
      try clear c20
      try clear c21
      try clear c22
      try clear c25
      try clear c27
      try clear c28
      try clear c31
      try clear c36
      try clear c39
      try clear c48
      try clear c51
      try clear c51b0
      try clear c53
      try clear c58
      try clear c61
      try clear c61b0
      try clear c62
      try clear c62b0
      try clear c62b1
      try clear c68
      try clear c76
      try clear hcz13_0
      try clear hcz13_1
      try clear hcz13_2
      try clear hcz15_0
      try clear hcz15_1
      try clear hcz15_2
      try clear hcz21_0
      try clear hcz21_1
      try clear hcz21_2
      try clear hcz26_0
      try clear hcz26_1
      try clear hcz26_2
      try clear hcz49_0
      try clear hcz49_1
      try clear hcz49_2
      try clear hcz5_0
      try clear hcz5_1
      try clear hcz5_2
      try clear hcz69_0
      try clear hcz69_1
      try clear hcz69_2
      try clear hfz13_0
      try clear hfz13_1
      try clear hfz13_2
      try clear hfz15_0
      try clear hfz15_1
      try clear hfz15_2
      try clear hfz21_0
      try clear hfz21_1
      try clear hfz21_2
      try clear hfz26_0
      try clear hfz26_1
      try clear hfz26_2
      try clear hfz49_0
      try clear hfz49_1
      try clear hfz49_2
      try clear hfz5_0
      try clear hfz5_1
      try clear hfz5_2
      try clear hfz69_0
      try clear hfz69_1
      try clear hfz69_2
      try clear p2
      obtain ⟨kq, x87_64, rfl, HA, HJ64, HO_7, HO_280000, HO_280001, HO_280002, BK255, BK279, HB⟩ := hcut
      have hl7_64 := (Kd.R_reads' HO_7.out).1
      rw [hl7_64] at HO_7
      (try simp only [hl7_64])
      (try simp only [hl7_64] at BK255)
      (try simp only [hl7_64] at BK279)
      (try simp only [hl7_64] at HO_280000)
      (try simp only [hl7_64] at HO_280001)
      (try simp only [hl7_64] at HO_280002)
      cases kq with
      | zero => exact absurd HA.out (by simp [laws_FnExactTurnsOfJobs.j2])
      | succ kj64 =>
        have H := HA.out
        clear HA
        simp only [laws_FnExactTurnsOfJobs.j2] at H
        by_cases c81 : x87_64 = true
        · subst c81
          have H1 : (some false) = some r := by rw [if_pos rfl] at H; exact H
          clear H
          have H := H1
          clear H1
          rw [hr_.out] at H
          exact absurd H (by simp)
        replace c81 := Bool.eq_false_iff.mpr c81
        subst c81
        have H1 : ((laws_heldInt64S.f kj64 t301 1).bind fun t317 => (if t317 < 0 then (some false) else (if t317 = t300 then (some true) else (some false)))) = some r := by rw [if_neg (show ¬ (false = true) by decide)] at H; exact H
        clear H
        have H := H1
        clear H1
        replace H := Option.bind_eq_some_iff.mp H
        obtain ⟨t317, A820, H⟩ := H
        replace H : (if t317 < 0 then (some false) else (if t317 = t300 then (some true) else (some false))) = some r := H
        have A82 := Aside0.mk A820
        clear A820
        by_cases c83 : t317 < 0
        · rw [if_pos c83] at H
          have c83b0 : decide (t317 < 0) = true := decide_eq_true c83
          clear c83
          rw [hr_.out] at H
          exact absurd H (by simp)
        rw [if_neg c83] at H
        have c83b0 : decide (t317 < 0) = false := decide_eq_false c83
        clear c83
        by_cases c84 : t317 = t300
        rotate_left
        · rw [if_neg c84] at H
          have c84b0 : (t317 == t300) = false := beq_eq_false_iff_ne.mpr c84
          have c84b1 : (t317 != t300) = true := bne_iff_ne.mpr c84
          rw [hr_.out] at H
          exact absurd H (by simp)
        rw [if_pos c84] at H
        have c84b0 : (t317 == t300) = true := beq_iff_eq.mpr c84
        have c84b1 : (t317 != t300) = false := bne_eq_false_iff_eq.mpr c84
        clear c84
        obtain rfl := Option.some.inj H
        go_wp2_with (first | ((with_reducible refine gate_callee (f := 22) rfl ?_); refine goesL_ (some 90) rfl rfl Try.func22 (by kernel_rfl) rfl #[.slice Ao66 t301.length co66, .int .i64 1] rfl zq19 ?_; (with_reducible refine (laws_heldInt64S.calls kj64 _ _ t301 1 t317 _ ?side1 ?side2 A82.out).mono ?_); (case side1 => repeat (first | exact (Kd.R_reads' HO_7.out).2.2 | (with_reducible refine Kd.C_alloc ?_ _) | (with_reducible refine Kd.C_drewN ?_ _) | (with_reducible refine Kd.C_drew ?_))); (case side2 => exact (Kd.R_reads' HO_7.out).2.1); rintro e w' ⟨rfl, ⟨nd, rfl⟩⟩; refine ⟨_, rfl, ?_⟩))
        go_ret
        exact ⟨by first | rfl | (simp [errW_none, errW_some] <;> rfl) | (simp [*, errW_none, errW_some] <;> rfl), by repeat (first | (with_reducible first | exact HB.out | apply below_alloc | apply pw_below_drewN | apply below_drew1 | refine below_set ?_ GE255.out | refine below_set ?_ GE279.out) | exact HB.out)⟩
/-- THE ONE PURE STATEMENT of laws_FnExactTurnsOfJobs. -/
def laws_FnExactTurnsOfJobs.Pure : Prop := ∀ (l0_0 : List Int) (l0_1 : List Int) (l0_2 : List Int), l0_0.length ≤ maxLen → l0_0.length * 8 ≤ 140737488351232 → (∀ x ∈ l0_0, (Lit.int .i64 x).wf = true) → l0_1.length ≤ maxLen → l0_1.length * 8 ≤ 140737488351232 → (∀ x ∈ l0_1, (Lit.int .i64 x).wf = true) → l0_2.length ≤ maxLen → l0_2.length * 8 ≤ 140737488351232 → (∀ x ∈ l0_2, (Lit.int .i64 x).wf = true) → ∃ k, laws_FnExactTurnsOfJobs.f k l0_0 l0_1 l0_2 = some true
theorem laws_FnExactTurnsOfJobs.walk (P : laws_FnExactTurnsOfJobs.Pure) (a0_0 : Option Addr) (len0_0 cap0_0 : Nat) (z0_0 : List Int) (a0_1 : Option Addr) (len0_1 cap0_1 : Nat) (z0_1 : List Int) (a0_2 : Option Addr) (len0_2 cap0_2 : Nat) (z0_2 : List Int) (w : World) (w0_0 : (a0_0 = none ∧ len0_0 = 0 ∧ cap0_0 = 0 ∧ z0_0 = []) ∨ ∃ x, a0_0 = some x ∧ len0_0 ≤ cap0_0 ∧ cap0_0 ≤ maxLen ∧ z0_0.length = cap0_0 ∧ (∀ i, i < z0_0.length → w.cell? (x.add i) = some (.int .i64 (z0_0.getD i 0))) ∧ ∀ n ∈ z0_0, (Lit.int .i64 n).wf = true) (y0_0 : len0_0 * 8 ≤ 140737488351232) (w0_1 : (a0_1 = none ∧ len0_1 = 0 ∧ cap0_1 = 0 ∧ z0_1 = []) ∨ ∃ x, a0_1 = some x ∧ len0_1 ≤ cap0_1 ∧ cap0_1 ≤ maxLen ∧ z0_1.length = cap0_1 ∧ (∀ i, i < z0_1.length → w.cell? (x.add i) = some (.int .i64 (z0_1.getD i 0))) ∧ ∀ n ∈ z0_1, (Lit.int .i64 n).wf = true) (y0_1 : len0_1 * 8 ≤ 140737488351232) (w0_2 : (a0_2 = none ∧ len0_2 = 0 ∧ cap0_2 = 0 ∧ z0_2 = []) ∨ ∃ x, a0_2 = some x ∧ len0_2 ≤ cap0_2 ∧ cap0_2 ≤ maxLen ∧ z0_2.length = cap0_2 ∧ (∀ i, i < z0_2.length → w.cell? (x.add i) = some (.int .i64 (z0_2.getD i 0))) ∧ ∀ n ∈ z0_2, (Lit.int .i64 n).wf = true) (y0_2 : len0_2 * 8 ≤ 140737488351232) :
    Calls Try.prog 6 #[.agg #[.slice a0_0 len0_0 cap0_0, .slice a0_1 len0_1 cap0_1, .slice a0_2 len0_2 cap0_2]] w fun e w' => e = .returned (.bool true) ∧ Below w.heap.size w w' := by
  obtain ⟨l0_0, rfl, hr0_0, hm0_0, hw0_0, hc0_0⟩ := ReadsInt.ofRowC w0_0
  obtain ⟨l0_1, rfl, hr0_1, hm0_1, hw0_1, hc0_1⟩ := ReadsInt.ofRowC w0_1
  obtain ⟨l0_2, rfl, hr0_2, hm0_2, hw0_2, hc0_2⟩ := ReadsInt.ofRowC w0_2
  obtain ⟨k, h⟩ := P l0_0 l0_1 l0_2 hm0_0 y0_0 hw0_0 hm0_1 y0_1 hw0_1 hm0_2 y0_2 hw0_2
  refine (laws_FnExactTurnsOfJobs.calls k _ _ l0_0 _ _ l0_1 _ _ l0_2 true w (Kd.C_of_reads (d := (0 : Int)) (h1 := fun _ => rfl) hr0_0) hc0_0 (Kd.C_of_reads (d := (0 : Int)) (h1 := fun _ => rfl) hr0_1) hc0_1 (Kd.C_of_reads (d := (0 : Int)) (h1 := fun _ => rfl) hr0_2) hc0_2 h ⟨rfl⟩).mono ?_
  rintro e w' ⟨rfl, hd⟩
  exact ⟨rfl, hd⟩

end Go.Proofs.Ytmgdobiloapelaa.B
