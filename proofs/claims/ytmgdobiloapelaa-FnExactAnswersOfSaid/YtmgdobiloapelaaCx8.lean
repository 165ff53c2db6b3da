/- Written for this claim by a program of this session's own (pp.py), out of the translation; hand-made contracts among them. -/
import Derived.Test.YtmgdobiloapelaaCz
import Derived.Test.YtmgdobiloapelaaCx0
import Derived.Test.YtmgdobiloapelaaCx1
import Derived.Test.YtmgdobiloapelaaCx3
import Derived.Test.YtmgdobiloapelaaCx4
import Derived.Test.YtmgdobiloapelaaCx6
import Derived.Test.YtmgdobiloapelaaCx7
namespace Go.Proofs.Ytmgdobiloapelaa.C
open Go.RowKit Go.Proofs.YtmgdobiloapelaaW.PrintWords Go.Proofs.YtmgdobiloapelaaW.PrintLast Go.Proofs.YtmgdobiloapelaaW.PrintMore
attribute [local go_sem] max2_int min2_int max_two min_two max_three min_three max_four min_four   -- for this text's walks alone
set_option linter.unusedVariables false
set_option linter.unusedSimpArgs false

/-! ### laws_FnExactAnswersOf: function 3 -/
mutual
def laws_FnExactAnswersOf.j0 : Nat → List Int → List Int → Int → List Int → List Int → Int → Bool → List Int → List Int → List Int → List Int → List Int → List Int → Option (Bool)
  | 0, _, _, _, _, _, _, _, _, _, _, _, _, _ => none
  | k + 1, x1, x6, x7, x9, x10, x11, x51, x212000, x212001, x212002, x239000, x239001, x239002 => if x51 = true then (some false) else ((laws_toJobs.f k x212000 x212001 x212002).bind fun bt247 => ((laws_eqJobs.f k x239000 x239001 x239002 bt247.1 bt247.2.1 bt247.2.2).bind fun t256 => (if t256 = true then ((laws_toInt64S.f k x1).bind fun t257 => ((laws_eqInt64S.f k x9 t257).bind fun t260 => (if t260 = true then ((laws_markJobs.f k x239000 x239001 x239002 1).bind fun bt261 => ((laws_markInt64S.f k x9 bt261.1).bind fun bt265 => (if bt265.1 < 0 then (laws_FnExactAnswersOf.j1 k x1 x6 x7 x10 true x212000 x212001 x212002) else ((laws_eqInt64S.f k x10 x6).bind fun t267 => (if t267 = true then (laws_FnExactAnswersOf.j1 k x1 x6 x7 x10 (x11 != x7) x212000 x212001 x212002) else (laws_FnExactAnswersOf.j1 k x1 x6 x7 x10 true x212000 x212001 x212002)))))) else (some false)))) else (some false))))
def laws_FnExactAnswersOf.j1 : Nat → List Int → List Int → Int → List Int → Bool → List Int → List Int → List Int → Option (Bool)
  | 0, _, _, _, _, _, _, _, _ => none
  | k + 1, x1, x6, x7, x10, x80, x212000, x212001, x212002 => if x80 = true then (some false) else ((laws_markInt64S.f k x10 1).bind fun bt268 => ((laws_heldInt64S.f k bt268.2 1).bind fun t270 => (if t270 < 0 then (some false) else (if t270 = bt268.1 then ((laws_toJobs.f k x212000 x212001 x212002).bind fun bt271 => ((laws_toInt64S.f k x1).bind fun t280 => ((impl_AnswersOf.f k bt271.1 bt271.2.1 bt271.2.2 t280).bind fun bt283 => ((laws_eqInt64S.f k bt283.1 x6).bind fun t287 => (if t287 = true then (laws_FnExactAnswersOf.j2 k bt268.2 bt268.1 (bt283.2 != x7)) else (laws_FnExactAnswersOf.j2 k bt268.2 bt268.1 true)))))) else (some false)))))
def laws_FnExactAnswersOf.j2 : Nat → List Int → Int → Bool → Option (Bool)
  | 0, _, _, _ => none
  | k + 1, x10, x13, x108 => if x108 = true then (some false) else ((laws_heldInt64S.f k x10 1).bind fun t288 => (if t288 < 0 then (some false) else (if t288 = x13 then (some true) else (some false))))
end
def laws_FnExactAnswersOf.f (k : Nat) (l0_0 : List Int) (l0_1 : List Int) (l0_2 : List Int) (l1 : List Int) : Option (Bool) := if (l1.length : Int) > 1048576 then (some true) else ((laws_szJobs.f l0_0 l0_1 l0_2 1048576).bind fun t212 => (if t212 < 0 then (some true) else ((laws_toJobs.f k l0_0 l0_1 l0_2).bind fun bt213 => ((laws_toInt64S.f k l1).bind fun t222 => ((spec_AnswersOf.f k bt213.1 bt213.2.1 bt213.2.2 t222).bind fun bt225 => ((laws_toJobs.f k l0_0 l0_1 l0_2).bind fun bt229 => ((laws_toInt64S.f k l1).bind fun t239 => ((impl_AnswersOf.f k bt229.1 bt229.2.1 bt229.2.2 t239).bind fun bt242 => ((laws_eqInt64S.f k bt242.1 bt225.1).bind fun t246 => (if t246 = true then (laws_FnExactAnswersOf.j0 k l1 bt225.1 bt225.2 t239 bt242.1 bt242.2 (bt242.2 != bt225.2) l0_0 l0_1 l0_2 bt229.1 bt229.2.1 bt229.2.2) else (laws_FnExactAnswersOf.j0 k l1 bt225.1 bt225.2 t239 bt242.1 bt242.2 true l0_0 l0_1 l0_2 bt229.1 bt229.2.1 bt229.2.2)))))))))))
theorem laws_FnExactAnswersOf.mono_l : ∀ k, (∀ y0 y1 y2 y3 y4 y5 y6 y7 y8 y9 y10 y11 y12, LeO (laws_FnExactAnswersOf.j0 k y0 y1 y2 y3 y4 y5 y6 y7 y8 y9 y10 y11 y12) (laws_FnExactAnswersOf.j0 (k + 1) y0 y1 y2 y3 y4 y5 y6 y7 y8 y9 y10 y11 y12)) ∧ (∀ y0 y1 y2 y3 y4 y5 y6 y7, LeO (laws_FnExactAnswersOf.j1 k y0 y1 y2 y3 y4 y5 y6 y7) (laws_FnExactAnswersOf.j1 (k + 1) y0 y1 y2 y3 y4 y5 y6 y7)) ∧ (∀ y0 y1 y2, LeO (laws_FnExactAnswersOf.j2 k y0 y1 y2) (laws_FnExactAnswersOf.j2 (k + 1) y0 y1 y2))
  | 0 => ⟨fun _ _ _ _ _ _ _ _ _ _ _ _ _ r h => by simp [laws_FnExactAnswersOf.j0] at h, fun _ _ _ _ _ _ _ _ r h => by simp [laws_FnExactAnswersOf.j1] at h, fun _ _ _ r h => by simp [laws_FnExactAnswersOf.j2] at h⟩
  | k + 1 => by
    obtain ⟨ih0, ih1, ih2⟩ := laws_FnExactAnswersOf.mono_l k
    refine ⟨?_, ?_, ?_⟩
    · intro y0 y1 y2 y3 y4 y5 y6 y7 y8 y9 y10 y11 y12
      unfold laws_FnExactAnswersOf.j0
      repeat' first
      | (with_reducible exact ih0 _ _ _ _ _ _ _ _ _ _ _ _ _)
      | (with_reducible exact ih1 _ _ _ _ _ _ _ _)
      | (with_reducible exact ih2 _ _ _)
      | (with_reducible exact impl_AnswersOf.mono _ _ _ _ _)
      | (with_reducible exact laws_eqInt64S.mono _ _ _)
      | (with_reducible exact laws_eqJobs.mono _ _ _ _ _ _ _)
      | (with_reducible exact laws_heldInt64S.mono _ _ _)
      | (with_reducible exact laws_markInt64S.mono _ _ _)
      | (with_reducible exact laws_markJobs.mono _ _ _ _ _)
      | (with_reducible exact laws_toInt64S.mono _ _)
      | (with_reducible exact laws_toJobs.mono _ _ _ _)
      | (with_reducible exact spec_AnswersOf.mono _ _ _ _ _)
      | (with_reducible exact LeO.refl _)
      | (with_reducible exact LeO.none _)
      | (with_reducible refine LeO.ite ?_ ?_)
      | (with_reducible refine LeO.bind ?_ (fun _ => ?_))
      | exact ih0 _ _ _ _ _ _ _ _ _ _ _ _ _
      | exact ih1 _ _ _ _ _ _ _ _
      | exact ih2 _ _ _
      | exact impl_AnswersOf.mono _ _ _ _ _
      | exact laws_eqInt64S.mono _ _ _
      | exact laws_eqJobs.mono _ _ _ _ _ _ _
      | exact laws_heldInt64S.mono _ _ _
      | exact laws_markInt64S.mono _ _ _
      | exact laws_markJobs.mono _ _ _ _ _
      | exact laws_toInt64S.mono _ _
      | exact laws_toJobs.mono _ _ _ _
      | exact spec_AnswersOf.mono _ _ _ _ _
      | exact LeO.none _
      | refine LeO.ite ?_ ?_
      | refine LeO.bind ?_ (fun _ => ?_)
    · intro y0 y1 y2 y3 y4 y5 y6 y7
      unfold laws_FnExactAnswersOf.j1
      repeat' first
      | (with_reducible exact ih0 _ _ _ _ _ _ _ _ _ _ _ _ _)
      | (with_reducible exact ih1 _ _ _ _ _ _ _ _)
      | (with_reducible exact ih2 _ _ _)
      | (with_reducible exact impl_AnswersOf.mono _ _ _ _ _)
      | (with_reducible exact laws_eqInt64S.mono _ _ _)
      | (with_reducible exact laws_eqJobs.mono _ _ _ _ _ _ _)
      | (with_reducible exact laws_heldInt64S.mono _ _ _)
      | (with_reducible exact laws_markInt64S.mono _ _ _)
      | (with_reducible exact laws_markJobs.mono _ _ _ _ _)
      | (with_reducible exact laws_toInt64S.mono _ _)
      | (with_reducible exact laws_toJobs.mono _ _ _ _)
      | (with_reducible exact spec_AnswersOf.mono _ _ _ _ _)
      | (with_reducible exact LeO.refl _)
      | (with_reducible exact LeO.none _)
      | (with_reducible refine LeO.ite ?_ ?_)
      | (with_reducible refine LeO.bind ?_ (fun _ => ?_))
      | exact ih0 _ _ _ _ _ _ _ _ _ _ _ _ _
      | exact ih1 _ _ _ _ _ _ _ _
      | exact ih2 _ _ _
      | exact impl_AnswersOf.mono _ _ _ _ _
      | exact laws_eqInt64S.mono _ _ _
      | exact laws_eqJobs.mono _ _ _ _ _ _ _
      | exact laws_heldInt64S.mono _ _ _
      | exact laws_markInt64S.mono _ _ _
      | exact laws_markJobs.mono _ _ _ _ _
      | exact laws_toInt64S.mono _ _
      | exact laws_toJobs.mono _ _ _ _
      | exact spec_AnswersOf.mono _ _ _ _ _
      | exact LeO.none _
      | refine LeO.ite ?_ ?_
      | refine LeO.bind ?_ (fun _ => ?_)
    intro y0 y1 y2
    unfold laws_FnExactAnswersOf.j2
    repeat' first
    | (with_reducible exact ih0 _ _ _ _ _ _ _ _ _ _ _ _ _)
    | (with_reducible exact ih1 _ _ _ _ _ _ _ _)
    | (with_reducible exact ih2 _ _ _)
    | (with_reducible exact impl_AnswersOf.mono _ _ _ _ _)
    | (with_reducible exact laws_eqInt64S.mono _ _ _)
    | (with_reducible exact laws_eqJobs.mono _ _ _ _ _ _ _)
    | (with_reducible exact laws_heldInt64S.mono _ _ _)
    | (with_reducible exact laws_markInt64S.mono _ _ _)
    | (with_reducible exact laws_markJobs.mono _ _ _ _ _)
    | (with_reducible exact laws_toInt64S.mono _ _)
    | (with_reducible exact laws_toJobs.mono _ _ _ _)
    | (with_reducible exact spec_AnswersOf.mono _ _ _ _ _)
    | (with_reducible exact LeO.refl _)
    | (with_reducible exact LeO.none _)
    | (with_reducible refine LeO.ite ?_ ?_)
    | (with_reducible refine LeO.bind ?_ (fun _ => ?_))
    | exact ih0 _ _ _ _ _ _ _ _ _ _ _ _ _
    | exact ih1 _ _ _ _ _ _ _ _
    | exact ih2 _ _ _
    | exact impl_AnswersOf.mono _ _ _ _ _
    | exact laws_eqInt64S.mono _ _ _
    | exact laws_eqJobs.mono _ _ _ _ _ _ _
    | exact laws_heldInt64S.mono _ _ _
    | exact laws_markInt64S.mono _ _ _
    | exact laws_markJobs.mono _ _ _ _ _
    | exact laws_toInt64S.mono _ _
    | exact laws_toJobs.mono _ _ _ _
    | exact spec_AnswersOf.mono _ _ _ _ _
    | exact LeO.none _
    | refine LeO.ite ?_ ?_
    | refine LeO.bind ?_ (fun _ => ?_)
theorem laws_FnExactAnswersOf.mono : ∀ a0 a1 a2 a3 k, LeO (laws_FnExactAnswersOf.f k a0 a1 a2 a3) (laws_FnExactAnswersOf.f (k + 1) a0 a1 a2 a3) := by
  intro a0 a1 a2 a3 k
  obtain ⟨ih0, ih1, ih2⟩ := laws_FnExactAnswersOf.mono_l k
  unfold laws_FnExactAnswersOf.f
  repeat' first
      | (with_reducible exact ih0 _ _ _ _ _ _ _ _ _ _ _ _ _)
      | (with_reducible exact ih1 _ _ _ _ _ _ _ _)
      | (with_reducible exact ih2 _ _ _)
      | (with_reducible exact impl_AnswersOf.mono _ _ _ _ _)
      | (with_reducible exact laws_eqInt64S.mono _ _ _)
      | (with_reducible exact laws_eqJobs.mono _ _ _ _ _ _ _)
      | (with_reducible exact laws_heldInt64S.mono _ _ _)
      | (with_reducible exact laws_markInt64S.mono _ _ _)
      | (with_reducible exact laws_markJobs.mono _ _ _ _ _)
      | (with_reducible exact laws_toInt64S.mono _ _)
      | (with_reducible exact laws_toJobs.mono _ _ _ _)
      | (with_reducible exact spec_AnswersOf.mono _ _ _ _ _)
      | (with_reducible exact LeO.refl _)
      | (with_reducible exact LeO.none _)
      | (with_reducible refine LeO.ite ?_ ?_)
      | (with_reducible refine LeO.bind ?_ (fun _ => ?_))
      | exact ih0 _ _ _ _ _ _ _ _ _ _ _ _ _
      | exact ih1 _ _ _ _ _ _ _ _
      | exact ih2 _ _ _
      | exact impl_AnswersOf.mono _ _ _ _ _
      | exact laws_eqInt64S.mono _ _ _
      | exact laws_eqJobs.mono _ _ _ _ _ _ _
      | exact laws_heldInt64S.mono _ _ _
      | exact laws_markInt64S.mono _ _ _
      | exact laws_markJobs.mono _ _ _ _ _
      | exact laws_toInt64S.mono _ _
      | exact laws_toJobs.mono _ _ _ _
      | exact spec_AnswersOf.mono _ _ _ _ _
      | exact LeO.none _
      | refine LeO.ite ?_ ?_
      | refine LeO.bind ?_ (fun _ => ?_)
set_option maxHeartbeats 8000000 in
set_option maxRecDepth 100000 in
theorem laws_FnExactAnswersOf.calls (k : Nat) (A0_0 : Option Addr) (c0_0 : Nat) (l0_0 : List Int) (A0_1 : Option Addr) (c0_1 : Nat) (l0_1 : List Int) (A0_2 : Option Addr) (c0_2 : Nat) (l0_2 : List Int) (A1 : Option Addr) (c1 : Nat) (l1 : List Int) (r : Bool) (w : World) (hr0_0 : Kd.C (Kd.int .i64) w A0_0 l0_0.length l0_0) (hc0_0 : l0_0.length ≤ c0_0) (hr0_1 : Kd.C (Kd.int .i64) w A0_1 l0_1.length l0_1) (hc0_1 : l0_1.length ≤ c0_1) (hr0_2 : Kd.C (Kd.int .i64) w A0_2 l0_2.length l0_2) (hc0_2 : l0_2.length ≤ c0_2) (hr1 : Kd.C (Kd.int .i64) w A1 l1.length l1) (hc1 : l1.length ≤ c1) (h : laws_FnExactAnswersOf.f k l0_0 l0_1 l0_2 l1 = some r) (hr_ : Aside0 (r = true)) :
    Calls Try.prog 3 #[.agg #[.slice A0_0 l0_0.length c0_0, .slice A0_1 l0_1.length c0_1, .slice A0_2 l0_2.length c0_2], .slice A1 l1.length c1] w fun e w' => e = .returned (.bool r) ∧ Below w.heap.size w w' := by
  have hu24 := Try.underlying24
  have hu28 := Try.underlying28
  have HR0_0 := Aside0.mk hr0_0
  have HC0_0 := Aside0.mk hc0_0
  clear hr0_0 hc0_0
  have HR0_1 := Aside0.mk hr0_1
  have HC0_1 := Aside0.mk hc0_1
  clear hr0_1 hc0_1
  have HR0_2 := Aside0.mk hr0_2
  have HC0_2 := Aside0.mk hc0_2
  clear hr0_2 hc0_2
  have HR1 := Aside0.mk hr1
  have HC1 := Aside0.mk hc1
  clear hr1 hc1
  have HB := Aside0.mk (Below.refl w.heap.size w)
  have H : (if (l1.length : Int) > 1048576 then (some true) else ((laws_szJobs.f l0_0 l0_1 l0_2 1048576).bind fun t212 => (if t212 < 0 then (some true) else ((laws_toJobs.f k l0_0 l0_1 l0_2).bind fun bt213 => ((laws_toInt64S.f k l1).bind fun t222 => ((spec_AnswersOf.f k bt213.1 bt213.2.1 bt213.2.2 t222).bind fun bt225 => ((laws_toJobs.f k l0_0 l0_1 l0_2).bind fun bt229 => ((laws_toInt64S.f k l1).bind fun t239 => ((impl_AnswersOf.f k bt229.1 bt229.2.1 bt229.2.2 t239).bind fun bt242 => ((laws_eqInt64S.f k bt242.1 bt225.1).bind fun t246 => (if t246 = true then (laws_FnExactAnswersOf.j0 k l1 bt225.1 bt225.2 t239 bt242.1 bt242.2 (bt242.2 != bt225.2) l0_0 l0_1 l0_2 bt229.1 bt229.2.1 bt229.2.2) else (laws_FnExactAnswersOf.j0 k l1 bt225.1 bt225.2 t239 bt242.1 bt242.2 true l0_0 l0_1 l0_2 bt229.1 bt229.2.1 bt229.2.2)))))))))))) = some r := h
  clear h
  by_cases c3 : (l1.length : Int) > 1048576
  · rw [if_pos c3] at H
    have c3b0 : decide (1048576 < (l1.length : Int)) = true := decide_eq_true c3
    have c3b1 : decide (1048576 < l1.length) = true := decide_eq_true (by omega)
    clear c3
    obtain rfl := Option.some.inj H
    go_enter Try.func3, Try.ntmps3
    go_wp2_with (first | ((with_reducible refine gate_dst (N := 2) rfl ?_); refine box_event ?hg (N := 2) ?hd (cs := #[.slice A0_0 l0_0.length c0_0, .slice A0_1 l0_1.length c0_1, .slice A0_2 l0_2.length c0_2]) (t := 24) ?hr ?_; (case hd => rfl); (case hg => rfl); (case hr => first | (go_simp; done) | (go_simp; rfl)); intro gb211 hg w4 hbox hb; have n0_ := Aside0.mk (below_step zq4 hb); have n1_ := Aside0.mk (hbox); have n2_ := Aside0.mk ((by rw [hg]; exact (below_size zq4) : w.heap.size ≤ gb211)); have n3_ := Aside0.mk ((by rw [hg]; exact (below_size zq4) : w.heap.size ≤ gb211)); clear HB; have HB := n0_; have BK211 := n1_; have GW211 := n2_; have GE211 := n3_; clear n0_ n1_ n2_ n3_; clear hb hbox hg))
    go_ret
    exact ⟨by first | rfl | (simp [errW_none, errW_some] <;> rfl) | (simp [*, errW_none, errW_some] <;> rfl), by repeat (first | (with_reducible first | exact HB.out | apply below_alloc | apply pw_below_drewN | apply below_drew1 | refine below_set ?_ GE211.out) | exact HB.out)⟩
  rw [if_neg c3] at H
  have c3b0 : decide (1048576 < (l1.length : Int)) = false := decide_eq_false c3
  have c3b1 : decide (1048576 < l1.length) = false := decide_eq_false (by omega)
  clear c3
  replace H := Option.bind_eq_some_iff.mp H
  obtain ⟨t212, A50, H⟩ := H
  replace H : (if t212 < 0 then (some true) else ((laws_toJobs.f k l0_0 l0_1 l0_2).bind fun bt213 => ((laws_toInt64S.f k l1).bind fun t222 => ((spec_AnswersOf.f k bt213.1 bt213.2.1 bt213.2.2 t222).bind fun bt225 => ((laws_toJobs.f k l0_0 l0_1 l0_2).bind fun bt229 => ((laws_toInt64S.f k l1).bind fun t239 => ((impl_AnswersOf.f k bt229.1 bt229.2.1 bt229.2.2 t239).bind fun bt242 => ((laws_eqInt64S.f k bt242.1 bt225.1).bind fun t246 => (if t246 = true then (laws_FnExactAnswersOf.j0 k l1 bt225.1 bt225.2 t239 bt242.1 bt242.2 (bt242.2 != bt225.2) l0_0 l0_1 l0_2 bt229.1 bt229.2.1 bt229.2.2) else (laws_FnExactAnswersOf.j0 k l1 bt225.1 bt225.2 t239 bt242.1 bt242.2 true l0_0 l0_1 l0_2 bt229.1 bt229.2.1 bt229.2.2)))))))))) = some r := H
  have A5 := Aside0.mk A50
  clear A50
  by_cases c6 : t212 < 0
  · rw [if_pos c6] at H
    have c6b0 : decide (t212 < 0) = true := decide_eq_true c6
    clear c6
    obtain rfl := Option.some.inj H
    go_enter Try.func3, Try.ntmps3
    go_wp2_with (first | ((with_reducible refine gate_dst (N := 2) rfl ?_); refine box_event ?hg (N := 2) ?hd (cs := #[.slice A0_0 l0_0.length c0_0, .slice A0_1 l0_1.length c0_1, .slice A0_2 l0_2.length c0_2]) (t := 24) ?hr ?_; (case hd => rfl); (case hg => rfl); (case hr => first | (go_simp; done) | (go_simp; rfl)); intro gb211 hg w7 hbox hb; have n0_ := Aside0.mk (below_step zq4 hb); have n1_ := Aside0.mk (hbox); have n2_ := Aside0.mk ((by rw [hg]; exact (below_size zq4) : w.heap.size ≤ gb211)); have n3_ := Aside0.mk ((by rw [hg]; exact (below_size zq4) : w.heap.size ≤ gb211)); clear HB; have HB := n0_; have BK211 := n1_; have GW211 := n2_; have GE211 := n3_; clear n0_ n1_ n2_ n3_; clear hb hbox hg; have hcz8_0 : w7.cell? ⟨gb211, 0, none⟩ = some (.slice A0_0 l0_0.length c0_0) := (blk_cell BK211.out 0).trans rfl; have hcz8_1 : w7.cell? ⟨gb211, 1, none⟩ = some (.slice A0_1 l0_1.length c0_1) := (blk_cell BK211.out 1).trans rfl; have hcz8_2 : w7.cell? ⟨gb211, 2, none⟩ = some (.slice A0_2 l0_2.length c0_2) := (blk_cell BK211.out 2).trans rfl; have hfz8_0 := blk_frozen BK211.out 0; have hfz8_1 := blk_frozen BK211.out 1; have hfz8_2 := blk_frozen BK211.out 2) | ((with_reducible refine gate_callee (f := 13) rfl ?_); refine goesL_ (some 22) rfl rfl Try.func13 (by kernel_rfl) rfl #[.agg #[.slice A0_0 l0_0.length c0_0, .slice A0_1 l0_1.length c0_1, .slice A0_2 l0_2.length c0_2], .int .i64 1048576] rfl zq3 ?_; (with_reducible refine (laws_szJobs.calls _ _ l0_0 _ _ l0_1 _ _ l0_2 1048576 t212 _ ?side1 ?side2 ?side3 ?side4 ?side5 ?side6 A5.out).mono ?_); (case side1 => repeat (first | exact (Kd.C_below HR0_0.out HB.out) | (with_reducible refine Kd.C_alloc ?_ _) | (with_reducible refine Kd.C_drewN ?_ _) | (with_reducible refine Kd.C_drew ?_))); (case side2 => exact HC0_0.out); (case side3 => repeat (first | exact (Kd.C_below HR0_1.out HB.out) | (with_reducible refine Kd.C_alloc ?_ _) | (with_reducible refine Kd.C_drewN ?_ _) | (with_reducible refine Kd.C_drew ?_))); (case side4 => exact HC0_1.out); (case side5 => repeat (first | exact (Kd.C_below HR0_2.out HB.out) | (with_reducible refine Kd.C_alloc ?_ _) | (with_reducible refine Kd.C_drewN ?_ _) | (with_reducible refine Kd.C_drew ?_))); (case side6 => exact HC0_2.out); rintro e w9 ⟨rfl, hb⟩; refine ⟨_, rfl, ?_⟩; have n0_ := Aside0.mk (blk_below (g := gb211) (o := .cells #[.slice A0_0 l0_0.length c0_0, .slice A0_1 l0_1.length c0_1, .slice A0_2 l0_2.length c0_2] 24 (0, 0)) zq13 hb); have n1_ := Aside0.mk (below_step zq0 hb); clear BK211; clear HB; have BK211 := n0_; have HB := n1_; clear n0_ n1_; (try clear hb); (try clear hb2); (try clear hk); (try clear hi)))
    go_ret
    exact ⟨by first | rfl | (simp [errW_none, errW_some] <;> rfl) | (simp [*, errW_none, errW_some] <;> rfl), by repeat (first | (with_reducible first | exact HB.out | apply below_alloc | apply pw_below_drewN | apply below_drew1 | refine below_set ?_ GE211.out) | exact HB.out)⟩
  rw [if_neg c6] at H
  have c6b0 : decide (t212 < 0) = false := decide_eq_false c6
  clear c6
  replace H := Option.bind_eq_some_iff.mp H
  obtain ⟨⟨t213, t216, t219⟩, A100, H⟩ := H
  replace H : ((laws_toInt64S.f k l1).bind fun t222 => ((spec_AnswersOf.f k t213 t216 t219 t222).bind fun bt225 => ((laws_toJobs.f k l0_0 l0_1 l0_2).bind fun bt229 => ((laws_toInt64S.f k l1).bind fun t239 => ((impl_AnswersOf.f k bt229.1 bt229.2.1 bt229.2.2 t239).bind fun bt242 => ((laws_eqInt64S.f k bt242.1 bt225.1).bind fun t246 => (if t246 = true then (laws_FnExactAnswersOf.j0 k l1 bt225.1 bt225.2 t239 bt242.1 bt242.2 (bt242.2 != bt225.2) l0_0 l0_1 l0_2 bt229.1 bt229.2.1 bt229.2.2) else (laws_FnExactAnswersOf.j0 k l1 bt225.1 bt225.2 t239 bt242.1 bt242.2 true l0_0 l0_1 l0_2 bt229.1 bt229.2.1 bt229.2.2)))))))) = some r := H
  have A10 := Aside0.mk A100
  clear A100
  replace H := Option.bind_eq_some_iff.mp H
  obtain ⟨t222, A110, H⟩ := H
  replace H : ((spec_AnswersOf.f k t213 t216 t219 t222).bind fun bt225 => ((laws_toJobs.f k l0_0 l0_1 l0_2).bind fun bt229 => ((laws_toInt64S.f k l1).bind fun t239 => ((impl_AnswersOf.f k bt229.1 bt229.2.1 bt229.2.2 t239).bind fun bt242 => ((laws_eqInt64S.f k bt242.1 bt225.1).bind fun t246 => (if t246 = true then (laws_FnExactAnswersOf.j0 k l1 bt225.1 bt225.2 t239 bt242.1 bt242.2 (bt242.2 != bt225.2) l0_0 l0_1 l0_2 bt229.1 bt229.2.1 bt229.2.2) else (laws_FnExactAnswersOf.j0 k l1 bt225.1 bt225.2 t239 bt242.1 bt242.2 true l0_0 l0_1 l0_2 bt229.1 bt229.2.1 bt229.2.2))))))) = some r := H
  have A11 := Aside0.mk A110
  clear A110
  replace H := Option.bind_eq_some_iff.mp H
  obtain ⟨⟨t225, t228⟩, A120, H⟩ := H
  replace H : ((laws_toJobs.f k l0_0 l0_1 l0_2).bind fun bt229 => ((laws_toInt64S.f k l1).bind fun t239 => ((impl_AnswersOf.f k bt229.1 bt229.2.1 bt229.2.2 t239).bind fun bt242 => ((laws_eqInt64S.f k bt242.1 t225).bind fun t246 => (if t246 = true then (laws_FnExactAnswersOf.j0 k l1 t225 t228 t239 bt242.1 bt242.2 (bt242.2 != t228) l0_0 l0_1 l0_2 bt229.1 bt229.2.1 bt229.2.2) else (laws_FnExactAnswersOf.j0 k l1 t225 t228 t239 bt242.1 bt242.2 true l0_0 l0_1 l0_2 bt229.1 bt229.2.1 bt229.2.2)))))) = some r := H
  have A12 := Aside0.mk A120
  clear A120
  replace H := Option.bind_eq_some_iff.mp H
  obtain ⟨⟨t229, t232, t235⟩, A130, H⟩ := H
  replace H : ((laws_toInt64S.f k l1).bind fun t239 => ((impl_AnswersOf.f k t229 t232 t235 t239).bind fun bt242 => ((laws_eqInt64S.f k bt242.1 t225).bind fun t246 => (if t246 = true then (laws_FnExactAnswersOf.j0 k l1 t225 t228 t239 bt242.1 bt242.2 (bt242.2 != t228) l0_0 l0_1 l0_2 t229 t232 t235) else (laws_FnExactAnswersOf.j0 k l1 t225 t228 t239 bt242.1 bt242.2 true l0_0 l0_1 l0_2 t229 t232 t235))))) = some r := H
  have A13 := Aside0.mk A130
  clear A130
  replace H := Option.bind_eq_some_iff.mp H
  obtain ⟨t239, A140, H⟩ := H
  replace H : ((impl_AnswersOf.f k t229 t232 t235 t239).bind fun bt242 => ((laws_eqInt64S.f k bt242.1 t225).bind fun t246 => (if t246 = true then (laws_FnExactAnswersOf.j0 k l1 t225 t228 t239 bt242.1 bt242.2 (bt242.2 != t228) l0_0 l0_1 l0_2 t229 t232 t235) else (laws_FnExactAnswersOf.j0 k l1 t225 t228 t239 bt242.1 bt242.2 true l0_0 l0_1 l0_2 t229 t232 t235)))) = some r := H
  have A14 := Aside0.mk A140
  clear A140
  replace H := Option.bind_eq_some_iff.mp H
  obtain ⟨⟨t242, t245⟩, A150, H⟩ := H
  replace H : ((laws_eqInt64S.f k t242 t225).bind fun t246 => (if t246 = true then (laws_FnExactAnswersOf.j0 k l1 t225 t228 t239 t242 t245 (t245 != t228) l0_0 l0_1 l0_2 t229 t232 t235) else (laws_FnExactAnswersOf.j0 k l1 t225 t228 t239 t242 t245 true l0_0 l0_1 l0_2 t229 t232 t235))) = some r := H
  have A15 := Aside0.mk A150
  clear A150
  have HC16 := Aside0.mk H
  clear H
  go_enter Try.func3, Try.ntmps3
  go_upto_region 11 with (first | ((with_reducible refine gate_dst (N := 2) rfl ?_); refine box_event ?hg (N := 2) ?hd (cs := #[.slice A0_0 l0_0.length c0_0, .slice A0_1 l0_1.length c0_1, .slice A0_2 l0_2.length c0_2]) (t := 24) ?hr ?_; (case hd => rfl); (case hg => rfl); (case hr => first | (go_simp; done) | (go_simp; rfl)); intro gb211 hg w17 hbox hb; have n0_ := Aside0.mk (below_step zq4 hb); have n1_ := Aside0.mk (hbox); have n2_ := Aside0.mk ((by rw [hg]; exact (below_size zq4) : w.heap.size ≤ gb211)); have n3_ := Aside0.mk ((by rw [hg]; exact (below_size zq4) : w.heap.size ≤ gb211)); clear HB; have HB := n0_; have BK211 := n1_; have GW211 := n2_; have GE211 := n3_; clear n0_ n1_ n2_ n3_; clear hb hbox hg; have hcz18_0 : w17.cell? ⟨gb211, 0, none⟩ = some (.slice A0_0 l0_0.length c0_0) := (blk_cell BK211.out 0).trans rfl; have hcz18_1 : w17.cell? ⟨gb211, 1, none⟩ = some (.slice A0_1 l0_1.length c0_1) := (blk_cell BK211.out 1).trans rfl; have hcz18_2 : w17.cell? ⟨gb211, 2, none⟩ = some (.slice A0_2 l0_2.length c0_2) := (blk_cell BK211.out 2).trans rfl; have hfz18_0 := blk_frozen BK211.out 0; have hfz18_1 := blk_frozen BK211.out 1; have hfz18_2 := blk_frozen BK211.out 2) | ((with_reducible refine gate_callee (f := 13) rfl ?_); refine goesL_ (some 22) rfl rfl Try.func13 (by kernel_rfl) rfl #[.agg #[.slice A0_0 l0_0.length c0_0, .slice A0_1 l0_1.length c0_1, .slice A0_2 l0_2.length c0_2], .int .i64 1048576] rfl zq3 ?_; (with_reducible refine (laws_szJobs.calls _ _ l0_0 _ _ l0_1 _ _ l0_2 1048576 t212 _ ?side1 ?side2 ?side3 ?side4 ?side5 ?side6 A5.out).mono ?_); (case side1 => repeat (first | exact (Kd.C_below HR0_0.out HB.out) | (with_reducible refine Kd.C_alloc ?_ _) | (with_reducible refine Kd.C_drewN ?_ _) | (with_reducible refine Kd.C_drew ?_))); (case side2 => exact HC0_0.out); (case side3 => repeat (first | exact (Kd.C_below HR0_1.out HB.out) | (with_reducible refine Kd.C_alloc ?_ _) | (with_reducible refine Kd.C_drewN ?_ _) | (with_reducible refine Kd.C_drew ?_))); (case side4 => exact HC0_1.out); (case side5 => repeat (first | exact (Kd.C_below HR0_2.out HB.out) | (with_reducible refine Kd.C_alloc ?_ _) | (with_reducible refine Kd.C_drewN ?_ _) | (with_reducible refine Kd.C_drew ?_))); (case side6 => exact HC0_2.out); rintro e w19 ⟨rfl, hb⟩; refine ⟨_, rfl, ?_⟩; have n0_ := Aside0.mk (blk_below (g := gb211) (o := .cells #[.slice A0_0 l0_0.length c0_0, .slice A0_1 l0_1.length c0_1, .slice A0_2 l0_2.length c0_2] 24 (0, 0)) zq13 hb); have n1_ := Aside0.mk (below_step zq0 hb); clear BK211; clear HB; have BK211 := n0_; have HB := n1_; clear n0_ n1_; (try clear hb); (try clear hb2); (try clear hk); (try clear hi); have hcz20_0 : w19.cell? ⟨gb211, 0, none⟩ = some (.slice A0_0 l0_0.length c0_0) := (blk_cell BK211.out 0).trans rfl; have hcz20_1 : w19.cell? ⟨gb211, 1, none⟩ = some (.slice A0_1 l0_1.length c0_1) := (blk_cell BK211.out 1).trans rfl; have hcz20_2 : w19.cell? ⟨gb211, 2, none⟩ = some (.slice A0_2 l0_2.length c0_2) := (blk_cell BK211.out 2).trans rfl; have hfz20_0 := blk_frozen BK211.out 0; have hfz20_1 := blk_frozen BK211.out 1; have hfz20_2 := blk_frozen BK211.out 2) | ((with_reducible refine gate_callee (f := 15) rfl ?_); refine goesL_ (some 27) rfl rfl Try.func15 (by kernel_rfl) rfl #[.agg #[.slice A0_0 l0_0.length c0_0, .slice A0_1 l0_1.length c0_1, .slice A0_2 l0_2.length c0_2]] rfl zq3 ?_; (with_reducible refine (laws_toJobs.calls k _ _ l0_0 _ _ l0_1 _ _ l0_2 t213 t216 t219 _ ?side1 ?side2 ?side3 ?side4 ?side5 ?side6 A10.out).mono ?_); (case side1 => repeat (first | exact (Kd.C_below HR0_0.out HB.out) | (with_reducible refine Kd.C_alloc ?_ _) | (with_reducible refine Kd.C_drewN ?_ _) | (with_reducible refine Kd.C_drew ?_))); (case side2 => exact HC0_0.out); (case side3 => repeat (first | exact (Kd.C_below HR0_1.out HB.out) | (with_reducible refine Kd.C_alloc ?_ _) | (with_reducible refine Kd.C_drewN ?_ _) | (with_reducible refine Kd.C_drew ?_))); (case side4 => exact HC0_1.out); (case side5 => repeat (first | exact (Kd.C_below HR0_2.out HB.out) | (with_reducible refine Kd.C_alloc ?_ _) | (with_reducible refine Kd.C_drewN ?_ _) | (with_reducible refine Kd.C_drew ?_))); (case side6 => exact HC0_2.out); rintro e w21 ⟨v214, v217, v220, rfl, ho0, ho1, ho2, hb⟩; refine ⟨_, rfl, ?_⟩; have n0_ := Aside0.mk (Kd.R_lower ho0 (below_size zq0)); have n1_ := Aside0.mk (Kd.R_lower ho1 (below_size zq0)); have n2_ := Aside0.mk (Kd.R_lower ho2 (below_size zq0)); have n3_ := Aside0.mk (blk_below (g := gb211) (o := .cells #[.slice A0_0 l0_0.length c0_0, .slice A0_1 l0_1.length c0_1, .slice A0_2 l0_2.length c0_2] 24 (0, 0)) zq13 hb); have n4_ := Aside0.mk (below_step zq0 hb); clear BK211; clear HB; have HO215 := n0_; have HO218 := n1_; have HO221 := n2_; have BK211 := n3_; have HB := n4_; clear n0_ n1_ n2_ n3_ n4_; (try clear hb); (try clear hb2); (try clear hk); (try clear hi); (try clear ho0); (try clear ho1); (try clear ho2)) | ((with_reducible refine gate_callee (f := 16) rfl ?_); refine goesL_ (some 29) rfl rfl Try.func16 (by kernel_rfl) rfl #[.slice A1 l1.length c1] rfl zq3 ?_; (with_reducible refine (laws_toInt64S.calls k _ _ l1 t222 _ ?side1 ?side2 A11.out).mono ?_); (case side1 => repeat (first | exact (Kd.C_below HR1.out HB.out) | (with_reducible refine Kd.C_alloc ?_ _) | (with_reducible refine Kd.C_drewN ?_ _) | (with_reducible refine Kd.C_drew ?_))); (case side2 => exact HC1.out); rintro e w22 ⟨v223, rfl, ho0, hb⟩; refine ⟨_, rfl, ?_⟩; have n0_ := Aside0.mk (Kd.R_elder' zq18 (Kd.R_base ho0) hb); have n1_ := Aside0.mk (Kd.R_elder' zq19 (Kd.R_base ho0) hb); have n2_ := Aside0.mk (Kd.R_elder' zq20 (Kd.R_base ho0) hb); have n3_ := Aside0.mk (Kd.R_lower (Kd.R_new' (Kd.R_new' (Kd.R_new' ho0 (Kd.R_lt zq18)) (Kd.R_lt zq19)) (Kd.R_lt zq20)) (below_size zq0)); have n4_ := Aside0.mk (blk_below (g := gb211) (o := .cells #[.slice A0_0 l0_0.length c0_0, .slice A0_1 l0_1.length c0_1, .slice A0_2 l0_2.length c0_2] 24 (0, 0)) zq13 hb); have n5_ := Aside0.mk (below_step zq0 hb); clear HO215; clear HO218; clear HO221; clear BK211; clear HB; have HO215 := n0_; have HO218 := n1_; have HO221 := n2_; have HO224 := n3_; have BK211 := n4_; have HB := n5_; clear n0_ n1_ n2_ n3_ n4_ n5_; (try clear hb); (try clear hb2); (try clear hk); (try clear hi); (try clear ho0); obtain ⟨Ao23, co23, eo23⟩ := Kd.R_slice HO215.out; subst eo23; obtain ⟨Ao24, co24, eo24⟩ := Kd.R_slice HO218.out; subst eo24; obtain ⟨Ao25, co25, eo25⟩ := Kd.R_slice HO221.out; subst eo25; obtain ⟨Ao26, co26, eo26⟩ := Kd.R_slice HO224.out; subst eo26) | ((with_reducible refine gate_callee (f := 14) rfl ?_); refine goesL_ (some 30) rfl rfl Try.func14 (by kernel_rfl) rfl #[.agg #[.slice Ao23 t213.length co23, .slice Ao24 t216.length co24, .slice Ao25 t219.length co25], .slice Ao26 t222.length co26] rfl zq3 ?_; (with_reducible refine (spec_AnswersOf.calls k _ _ t213 _ _ t216 _ _ t219 _ _ t222 t225 t228 _ ?side1 ?side2 ?side3 ?side4 ?side5 ?side6 ?side7 ?side8 A12.out).mono ?_); (case side1 => repeat (first | exact (Kd.R_reads' HO215.out).2.2 | (with_reducible refine Kd.C_alloc ?_ _) | (with_reducible refine Kd.C_drewN ?_ _) | (with_reducible refine Kd.C_drew ?_))); (case side2 => exact (Kd.R_reads' HO215.out).2.1); (case side3 => repeat (first | exact (Kd.R_reads' HO218.out).2.2 | (with_reducible refine Kd.C_alloc ?_ _) | (with_reducible refine Kd.C_drewN ?_ _) | (with_reducible refine Kd.C_drew ?_))); (case side4 => exact (Kd.R_reads' HO218.out).2.1); (case side5 => repeat (first | exact (Kd.R_reads' HO221.out).2.2 | (with_reducible refine Kd.C_alloc ?_ _) | (with_reducible refine Kd.C_drewN ?_ _) | (with_reducible refine Kd.C_drew ?_))); (case side6 => exact (Kd.R_reads' HO221.out).2.1); (case side7 => repeat (first | exact (Kd.R_reads' HO224.out).2.2 | (with_reducible refine Kd.C_alloc ?_ _) | (with_reducible refine Kd.C_drewN ?_ _) | (with_reducible refine Kd.C_drew ?_))); (case side8 => exact (Kd.R_reads' HO224.out).2.1); rintro e w27 ⟨v226, rfl, ho0, hb⟩; refine ⟨_, rfl, ?_⟩; have n0_ := Aside0.mk (Kd.R_elder' zq18 (Kd.R_base ho0) hb); have n1_ := Aside0.mk (Kd.R_elder' zq19 (Kd.R_base ho0) hb); have n2_ := Aside0.mk (Kd.R_elder' zq20 (Kd.R_base ho0) hb); have n3_ := Aside0.mk (Kd.R_elder' zq21 (Kd.R_base ho0) hb); have n4_ := Aside0.mk (Kd.R_lower (Kd.R_new' (Kd.R_new' (Kd.R_new' (Kd.R_new' ho0 (Kd.R_lt zq18)) (Kd.R_lt zq19)) (Kd.R_lt zq20)) (Kd.R_lt zq21)) (below_size zq0)); have n5_ := Aside0.mk (blk_below (g := gb211) (o := .cells #[.slice A0_0 l0_0.length c0_0, .slice A0_1 l0_1.length c0_1, .slice A0_2 l0_2.length c0_2] 24 (0, 0)) zq13 hb); have n6_ := Aside0.mk (below_step zq0 hb); clear HO215; clear HO218; clear HO221; clear HO224; clear BK211; clear HB; have HO215 := n0_; have HO218 := n1_; have HO221 := n2_; have HO224 := n3_; have HO227 := n4_; have BK211 := n5_; have HB := n6_; clear n0_ n1_ n2_ n3_ n4_ n5_ n6_; (try clear hb); (try clear hb2); (try clear hk); (try clear hi); (try clear ho0); have hcz28_0 : w27.cell? ⟨gb211, 0, none⟩ = some (.slice A0_0 l0_0.length c0_0) := (blk_cell BK211.out 0).trans rfl; have hcz28_1 : w27.cell? ⟨gb211, 1, none⟩ = some (.slice A0_1 l0_1.length c0_1) := (blk_cell BK211.out 1).trans rfl; have hcz28_2 : w27.cell? ⟨gb211, 2, none⟩ = some (.slice A0_2 l0_2.length c0_2) := (blk_cell BK211.out 2).trans rfl; have hfz28_0 := blk_frozen BK211.out 0; have hfz28_1 := blk_frozen BK211.out 1; have hfz28_2 := blk_frozen BK211.out 2) | ((with_reducible refine gate_callee (f := 15) rfl ?_); refine goesL_ (some 34) rfl rfl Try.func15 (by kernel_rfl) rfl #[.agg #[.slice A0_0 l0_0.length c0_0, .slice A0_1 l0_1.length c0_1, .slice A0_2 l0_2.length c0_2]] rfl zq3 ?_; (with_reducible refine (laws_toJobs.calls k _ _ l0_0 _ _ l0_1 _ _ l0_2 t229 t232 t235 _ ?side1 ?side2 ?side3 ?side4 ?side5 ?side6 A13.out).mono ?_); (case side1 => repeat (first | exact (Kd.C_below HR0_0.out HB.out) | (with_reducible refine Kd.C_alloc ?_ _) | (with_reducible refine Kd.C_drewN ?_ _) | (with_reducible refine Kd.C_drew ?_))); (case side2 => exact HC0_0.out); (case side3 => repeat (first | exact (Kd.C_below HR0_1.out HB.out) | (with_reducible refine Kd.C_alloc ?_ _) | (with_reducible refine Kd.C_drewN ?_ _) | (with_reducible refine Kd.C_drew ?_))); (case side4 => exact HC0_1.out); (case side5 => repeat (first | exact (Kd.C_below HR0_2.out HB.out) | (with_reducible refine Kd.C_alloc ?_ _) | (with_reducible refine Kd.C_drewN ?_ _) | (with_reducible refine Kd.C_drew ?_))); (case side6 => exact HC0_2.out); rintro e w29 ⟨v230, v233, v236, rfl, ho0, ho1, ho2, hb⟩; refine ⟨_, rfl, ?_⟩; have n0_ := Aside0.mk (Kd.R_mono (Kd.R_told (Kd.R_told (Kd.R_told (Kd.R_old zq18 hb) (Kd.R_base ho0)) (Kd.R_base ho1)) (Kd.R_base ho2)) (fun _ h_ => h_.1)); have n1_ := Aside0.mk (Kd.R_mono (Kd.R_told (Kd.R_told (Kd.R_told (Kd.R_old zq19 hb) (Kd.R_base ho0)) (Kd.R_base ho1)) (Kd.R_base ho2)) (fun _ h_ => h_.1)); have n2_ := Aside0.mk (Kd.R_mono (Kd.R_told (Kd.R_told (Kd.R_told (Kd.R_old zq20 hb) (Kd.R_base ho0)) (Kd.R_base ho1)) (Kd.R_base ho2)) (fun _ h_ => h_.1)); have n3_ := Aside0.mk (Kd.R_mono (Kd.R_told (Kd.R_told (Kd.R_told (Kd.R_old zq21 hb) (Kd.R_base ho0)) (Kd.R_base ho1)) (Kd.R_base ho2)) (fun _ h_ => h_.1)); have n4_ := Aside0.mk (Kd.R_mono (Kd.R_told (Kd.R_told (Kd.R_told (Kd.R_old zq22 hb) (Kd.R_base ho0)) (Kd.R_base ho1)) (Kd.R_base ho2)) (fun _ h_ => h_.1)); have n5_ := Aside0.mk (Kd.R_lower (Kd.R_new' (Kd.R_new' (Kd.R_new' (Kd.R_new' (Kd.R_new' ho0 (Kd.R_lt zq18)) (Kd.R_lt zq19)) (Kd.R_lt zq20)) (Kd.R_lt zq21)) (Kd.R_lt zq22)) (below_size zq0)); have n6_ := Aside0.mk (Kd.R_lower (Kd.R_new' (Kd.R_new' (Kd.R_new' (Kd.R_new' (Kd.R_new' ho1 (Kd.R_lt zq18)) (Kd.R_lt zq19)) (Kd.R_lt zq20)) (Kd.R_lt zq21)) (Kd.R_lt zq22)) (below_size zq0)); have n7_ := Aside0.mk (Kd.R_lower (Kd.R_new' (Kd.R_new' (Kd.R_new' (Kd.R_new' (Kd.R_new' ho2 (Kd.R_lt zq18)) (Kd.R_lt zq19)) (Kd.R_lt zq20)) (Kd.R_lt zq21)) (Kd.R_lt zq22)) (below_size zq0)); have n8_ := Aside0.mk (blk_below (g := gb211) (o := .cells #[.slice A0_0 l0_0.length c0_0, .slice A0_1 l0_1.length c0_1, .slice A0_2 l0_2.length c0_2] 24 (0, 0)) zq13 hb); have n9_ := Aside0.mk (below_step zq0 hb); clear HO215; clear HO218; clear HO221; clear HO224; clear HO227; clear BK211; clear HB; have HO215 := n0_; have HO218 := n1_; have HO221 := n2_; have HO224 := n3_; have HO227 := n4_; have HO231 := n5_; have HO234 := n6_; have HO237 := n7_; have BK211 := n8_; have HB := n9_; clear n0_ n1_ n2_ n3_ n4_ n5_ n6_ n7_ n8_ n9_; (try clear hb); (try clear hb2); (try clear hk); (try clear hi); (try clear ho0); (try clear ho1); (try clear ho2)) | ((with_reducible refine gate_dst (N := 8) rfl ?_); refine box_event ?hg (N := 8) ?hd (cs := #[.slice none 0 0, .slice none 0 0, .slice none 0 0]) (t := 28) ?hr ?_; (case hd => rfl); (case hg => rfl); (case hr => first | (go_simp; done) | (go_simp; rfl)); intro gb238 hg w30 hbox hb; have n0_ := Aside0.mk (Kd.R_below zq18 hb); have n1_ := Aside0.mk (Kd.R_below zq19 hb); have n2_ := Aside0.mk (Kd.R_below zq20 hb); have n3_ := Aside0.mk (Kd.R_below zq21 hb); have n4_ := Aside0.mk (Kd.R_below zq22 hb); have n5_ := Aside0.mk (Kd.R_below (by (with_reducible repeat (first | apply Kd.R_alloc | apply Kd.R_drewN | apply Kd.R_drew)); exact HO231.out) hb); have n6_ := Aside0.mk (Kd.R_below (by (with_reducible repeat (first | apply Kd.R_alloc | apply Kd.R_drewN | apply Kd.R_drew)); exact HO234.out) hb); have n7_ := Aside0.mk (Kd.R_below (by (with_reducible repeat (first | apply Kd.R_alloc | apply Kd.R_drewN | apply Kd.R_drew)); exact HO237.out) hb); have n8_ := Aside0.mk (blk_below (g := gb211) (o := .cells #[.slice A0_0 l0_0.length c0_0, .slice A0_1 l0_1.length c0_1, .slice A0_2 l0_2.length c0_2] 24 (0, 0)) zq13 hb); have n9_ := Aside0.mk (below_step zq0 hb); have n10_ := Aside0.mk (hbox); have n11_ := Aside0.mk ((by rw [hg]; exact (below_size zq0) : w.heap.size ≤ gb238)); have n12_ := Aside0.mk ((by rw [hg]; exact (below_size zq0) : w.heap.size ≤ gb238)); have n13_ := Aside0.mk ((by rw [hg]; exact Nat.ne_of_lt (blk_lt (g := gb211) (o := .cells #[.slice A0_0 l0_0.length c0_0, .slice A0_1 l0_1.length c0_1, .slice A0_2 l0_2.length c0_2] 24 (0, 0)) zq13) : gb211 ≠ gb238)); have n14_ := Aside0.mk ((by rw [hg]; exact Nat.ne_of_gt (blk_lt (g := gb211) (o := .cells #[.slice A0_0 l0_0.length c0_0, .slice A0_1 l0_1.length c0_1, .slice A0_2 l0_2.length c0_2] 24 (0, 0)) zq13) : gb238 ≠ gb211)); clear HO215; clear HO218; clear HO221; clear HO224; clear HO227; clear HO231; clear HO234; clear HO237; clear BK211; clear HB; have HO215 := n0_; have HO218 := n1_; have HO221 := n2_; have HO224 := n3_; have HO227 := n4_; have HO231 := n5_; have HO234 := n6_; have HO237 := n7_; have BK211 := n8_; have HB := n9_; have BK238 := n10_; have GW238 := n11_; have GE238 := n12_; have NB211_238 := n13_; have NB238_211 := n14_; clear n0_ n1_ n2_ n3_ n4_ n5_ n6_ n7_ n8_ n9_ n10_ n11_ n12_ n13_ n14_; clear hb hbox hg; obtain ⟨Ao31, co31, eo31⟩ := Kd.R_slice HO231.out; subst eo31; have hnb32 := NB238_211.out; have hnc32 := NB211_238.out; have hcz33_0 : w30.cell? ⟨gb238, 0, none⟩ = some (.slice none 0 0) := (blk_cell BK238.out 0).trans rfl; have hcz33_1 : w30.cell? ⟨gb238, 1, none⟩ = some (.slice none 0 0) := (blk_cell BK238.out 1).trans rfl; have hcz33_2 : w30.cell? ⟨gb238, 2, none⟩ = some (.slice none 0 0) := (blk_cell BK238.out 2).trans rfl; have hfz33_0 := blk_frozen BK238.out 0; have hfz33_1 := blk_frozen BK238.out 1; have hfz33_2 := blk_frozen BK238.out 2; obtain ⟨Ao34, co34, eo34⟩ := Kd.R_slice HO234.out; subst eo34; obtain ⟨Ao35, co35, eo35⟩ := Kd.R_slice HO237.out; subst eo35) | ((with_reducible refine gate_callee (f := 16) rfl ?_); refine goesL_ (some 36) rfl rfl Try.func16 (by kernel_rfl) rfl #[.slice A1 l1.length c1] rfl zq3 ?_; (with_reducible refine (laws_toInt64S.calls k _ _ l1 t239 _ ?side1 ?side2 A14.out).mono ?_); (case side1 => exact Kd.C_below HR1.out zq0); (case side2 => exact HC1.out); rintro e w36 ⟨v240, rfl, ho0, hb⟩; refine ⟨_, rfl, ?_⟩; have n0_ := Aside0.mk (Kd.R_elder' (by (with_reducible repeat (first | apply Kd.R_alloc | apply Kd.R_drewN | apply Kd.R_drew)); exact (Kd.R_mono (Kd.R_far (p := ⟨gb238, 2, none⟩) (Kd.R_far (p := ⟨gb238, 1, none⟩) (Kd.R_far (p := ⟨gb238, 0, none⟩) (Kd.R_types HO215.out BK238.out (by decide)) (fun _ hk => hk.2) (.slice Ao31 t229.length co31)) (fun _ hk => hk.2) (.slice Ao34 t232.length co34)) (fun _ hk => hk.2) (.slice Ao35 t235.length co35)) (fun _ h_ => h_.1))) (Kd.R_base ho0) hb); have n1_ := Aside0.mk (Kd.R_elder' (by (with_reducible repeat (first | apply Kd.R_alloc | apply Kd.R_drewN | apply Kd.R_drew)); exact (Kd.R_mono (Kd.R_far (p := ⟨gb238, 2, none⟩) (Kd.R_far (p := ⟨gb238, 1, none⟩) (Kd.R_far (p := ⟨gb238, 0, none⟩) (Kd.R_types HO218.out BK238.out (by decide)) (fun _ hk => hk.2) (.slice Ao31 t229.length co31)) (fun _ hk => hk.2) (.slice Ao34 t232.length co34)) (fun _ hk => hk.2) (.slice Ao35 t235.length co35)) (fun _ h_ => h_.1))) (Kd.R_base ho0) hb); have n2_ := Aside0.mk (Kd.R_elder' (by (with_reducible repeat (first | apply Kd.R_alloc | apply Kd.R_drewN | apply Kd.R_drew)); exact (Kd.R_mono (Kd.R_far (p := ⟨gb238, 2, none⟩) (Kd.R_far (p := ⟨gb238, 1, none⟩) (Kd.R_far (p := ⟨gb238, 0, none⟩) (Kd.R_types HO221.out BK238.out (by decide)) (fun _ hk => hk.2) (.slice Ao31 t229.length co31)) (fun _ hk => hk.2) (.slice Ao34 t232.length co34)) (fun _ hk => hk.2) (.slice Ao35 t235.length co35)) (fun _ h_ => h_.1))) (Kd.R_base ho0) hb); have n3_ := Aside0.mk (Kd.R_elder' (by (with_reducible repeat (first | apply Kd.R_alloc | apply Kd.R_drewN | apply Kd.R_drew)); exact (Kd.R_mono (Kd.R_far (p := ⟨gb238, 2, none⟩) (Kd.R_far (p := ⟨gb238, 1, none⟩) (Kd.R_far (p := ⟨gb238, 0, none⟩) (Kd.R_types HO224.out BK238.out (by decide)) (fun _ hk => hk.2) (.slice Ao31 t229.length co31)) (fun _ hk => hk.2) (.slice Ao34 t232.length co34)) (fun _ hk => hk.2) (.slice Ao35 t235.length co35)) (fun _ h_ => h_.1))) (Kd.R_base ho0) hb); have n4_ := Aside0.mk (Kd.R_elder' (by (with_reducible repeat (first | apply Kd.R_alloc | apply Kd.R_drewN | apply Kd.R_drew)); exact (Kd.R_mono (Kd.R_far (p := ⟨gb238, 2, none⟩) (Kd.R_far (p := ⟨gb238, 1, none⟩) (Kd.R_far (p := ⟨gb238, 0, none⟩) (Kd.R_types HO227.out BK238.out (by decide)) (fun _ hk => hk.2) (.slice Ao31 t229.length co31)) (fun _ hk => hk.2) (.slice Ao34 t232.length co34)) (fun _ hk => hk.2) (.slice Ao35 t235.length co35)) (fun _ h_ => h_.1))) (Kd.R_base ho0) hb); have n5_ := Aside0.mk (Kd.R_elder' (by (with_reducible repeat (first | apply Kd.R_alloc | apply Kd.R_drewN | apply Kd.R_drew)); exact (Kd.R_mono (Kd.R_far (p := ⟨gb238, 2, none⟩) (Kd.R_far (p := ⟨gb238, 1, none⟩) (Kd.R_far (p := ⟨gb238, 0, none⟩) (Kd.R_types HO231.out BK238.out (by decide)) (fun _ hk => hk.2) (.slice Ao31 t229.length co31)) (fun _ hk => hk.2) (.slice Ao34 t232.length co34)) (fun _ hk => hk.2) (.slice Ao35 t235.length co35)) (fun _ h_ => h_.1))) (Kd.R_base ho0) hb); have n6_ := Aside0.mk (Kd.R_elder' (by (with_reducible repeat (first | apply Kd.R_alloc | apply Kd.R_drewN | apply Kd.R_drew)); exact (Kd.R_mono (Kd.R_far (p := ⟨gb238, 2, none⟩) (Kd.R_far (p := ⟨gb238, 1, none⟩) (Kd.R_far (p := ⟨gb238, 0, none⟩) (Kd.R_types HO234.out BK238.out (by decide)) (fun _ hk => hk.2) (.slice Ao31 t229.length co31)) (fun _ hk => hk.2) (.slice Ao34 t232.length co34)) (fun _ hk => hk.2) (.slice Ao35 t235.length co35)) (fun _ h_ => h_.1))) (Kd.R_base ho0) hb); have n7_ := Aside0.mk (Kd.R_elder' (by (with_reducible repeat (first | apply Kd.R_alloc | apply Kd.R_drewN | apply Kd.R_drew)); exact (Kd.R_mono (Kd.R_far (p := ⟨gb238, 2, none⟩) (Kd.R_far (p := ⟨gb238, 1, none⟩) (Kd.R_far (p := ⟨gb238, 0, none⟩) (Kd.R_types HO237.out BK238.out (by decide)) (fun _ hk => hk.2) (.slice Ao31 t229.length co31)) (fun _ hk => hk.2) (.slice Ao34 t232.length co34)) (fun _ hk => hk.2) (.slice Ao35 t235.length co35)) (fun _ h_ => h_.1))) (Kd.R_base ho0) hb); have n8_ := Aside0.mk (Kd.R_lower (Kd.R_new' (Kd.R_new' (Kd.R_new' (Kd.R_new' (Kd.R_new' (Kd.R_new' (Kd.R_new' (Kd.R_new' ho0 (Kd.R_lt (by (with_reducible repeat (first | apply Kd.R_alloc | apply Kd.R_drewN | apply Kd.R_drew)); exact (Kd.R_mono (Kd.R_far (p := ⟨gb238, 2, none⟩) (Kd.R_far (p := ⟨gb238, 1, none⟩) (Kd.R_far (p := ⟨gb238, 0, none⟩) (Kd.R_types HO215.out BK238.out (by decide)) (fun _ hk => hk.2) (.slice Ao31 t229.length co31)) (fun _ hk => hk.2) (.slice Ao34 t232.length co34)) (fun _ hk => hk.2) (.slice Ao35 t235.length co35)) (fun _ h_ => h_.1))))) (Kd.R_lt (by (with_reducible repeat (first | apply Kd.R_alloc | apply Kd.R_drewN | apply Kd.R_drew)); exact (Kd.R_mono (Kd.R_far (p := ⟨gb238, 2, none⟩) (Kd.R_far (p := ⟨gb238, 1, none⟩) (Kd.R_far (p := ⟨gb238, 0, none⟩) (Kd.R_types HO218.out BK238.out (by decide)) (fun _ hk => hk.2) (.slice Ao31 t229.length co31)) (fun _ hk => hk.2) (.slice Ao34 t232.length co34)) (fun _ hk => hk.2) (.slice Ao35 t235.length co35)) (fun _ h_ => h_.1))))) (Kd.R_lt (by (with_reducible repeat (first | apply Kd.R_alloc | apply Kd.R_drewN | apply Kd.R_drew)); exact (Kd.R_mono (Kd.R_far (p := ⟨gb238, 2, none⟩) (Kd.R_far (p := ⟨gb238, 1, none⟩) (Kd.R_far (p := ⟨gb238, 0, none⟩) (Kd.R_types HO221.out BK238.out (by decide)) (fun _ hk => hk.2) (.slice Ao31 t229.length co31)) (fun _ hk => hk.2) (.slice Ao34 t232.length co34)) (fun _ hk => hk.2) (.slice Ao35 t235.length co35)) (fun _ h_ => h_.1))))) (Kd.R_lt (by (with_reducible repeat (first | apply Kd.R_alloc | apply Kd.R_drewN | apply Kd.R_drew)); exact (Kd.R_mono (Kd.R_far (p := ⟨gb238, 2, none⟩) (Kd.R_far (p := ⟨gb238, 1, none⟩) (Kd.R_far (p := ⟨gb238, 0, none⟩) (Kd.R_types HO224.out BK238.out (by decide)) (fun _ hk => hk.2) (.slice Ao31 t229.length co31)) (fun _ hk => hk.2) (.slice Ao34 t232.length co34)) (fun _ hk => hk.2) (.slice Ao35 t235.length co35)) (fun _ h_ => h_.1))))) (Kd.R_lt (by (with_reducible repeat (first | apply Kd.R_alloc | apply Kd.R_drewN | apply Kd.R_drew)); exact (Kd.R_mono (Kd.R_far (p := ⟨gb238, 2, none⟩) (Kd.R_far (p := ⟨gb238, 1, none⟩) (Kd.R_far (p := ⟨gb238, 0, none⟩) (Kd.R_types HO227.out BK238.out (by decide)) (fun _ hk => hk.2) (.slice Ao31 t229.length co31)) (fun _ hk => hk.2) (.slice Ao34 t232.length co34)) (fun _ hk => hk.2) (.slice Ao35 t235.length co35)) (fun _ h_ => h_.1))))) (Kd.R_lt (by (with_reducible repeat (first | apply Kd.R_alloc | apply Kd.R_drewN | apply Kd.R_drew)); exact (Kd.R_mono (Kd.R_far (p := ⟨gb238, 2, none⟩) (Kd.R_far (p := ⟨gb238, 1, none⟩) (Kd.R_far (p := ⟨gb238, 0, none⟩) (Kd.R_types HO231.out BK238.out (by decide)) (fun _ hk => hk.2) (.slice Ao31 t229.length co31)) (fun _ hk => hk.2) (.slice Ao34 t232.length co34)) (fun _ hk => hk.2) (.slice Ao35 t235.length co35)) (fun _ h_ => h_.1))))) (Kd.R_lt (by (with_reducible repeat (first | apply Kd.R_alloc | apply Kd.R_drewN | apply Kd.R_drew)); exact (Kd.R_mono (Kd.R_far (p := ⟨gb238, 2, none⟩) (Kd.R_far (p := ⟨gb238, 1, none⟩) (Kd.R_far (p := ⟨gb238, 0, none⟩) (Kd.R_types HO234.out BK238.out (by decide)) (fun _ hk => hk.2) (.slice Ao31 t229.length co31)) (fun _ hk => hk.2) (.slice Ao34 t232.length co34)) (fun _ hk => hk.2) (.slice Ao35 t235.length co35)) (fun _ h_ => h_.1))))) (Kd.R_lt (by (with_reducible repeat (first | apply Kd.R_alloc | apply Kd.R_drewN | apply Kd.R_drew)); exact (Kd.R_mono (Kd.R_far (p := ⟨gb238, 2, none⟩) (Kd.R_far (p := ⟨gb238, 1, none⟩) (Kd.R_far (p := ⟨gb238, 0, none⟩) (Kd.R_types HO237.out BK238.out (by decide)) (fun _ hk => hk.2) (.slice Ao31 t229.length co31)) (fun _ hk => hk.2) (.slice Ao34 t232.length co34)) (fun _ hk => hk.2) (.slice Ao35 t235.length co35)) (fun _ h_ => h_.1))))) (below_size zq0)); have n9_ := Aside0.mk (blk_below (g := gb211) (o := .cells #[.slice A0_0 l0_0.length c0_0, .slice A0_1 l0_1.length c0_1, .slice A0_2 l0_2.length c0_2] 24 (0, 0)) (by (with_reducible repeat (first | refine blk_drewN ?_ _ | refine blk_drew ?_ | refine blk_alloc ?_ _)); refine blk_far ?_ NB211_238.out _; (with_reducible repeat (first | refine blk_drewN ?_ _ | refine blk_drew ?_ | refine blk_alloc ?_ _)); refine blk_far ?_ NB211_238.out _; (with_reducible repeat (first | refine blk_drewN ?_ _ | refine blk_drew ?_ | refine blk_alloc ?_ _)); refine blk_far ?_ NB211_238.out _; (with_reducible repeat (first | refine blk_drewN ?_ _ | refine blk_drew ?_ | refine blk_alloc ?_ _)); exact BK211.out) hb); have n10_ := Aside0.mk (blk_below (g := gb238) (o := .cells #[.slice Ao31 t229.length co31, .slice Ao34 t232.length co34, .slice Ao35 t235.length co35] 28 (0, 0)) (by (with_reducible repeat (first | refine blk_drewN ?_ _ | refine blk_drew ?_ | refine blk_alloc ?_ _)); refine blk_put (cs := #[.slice Ao31 t229.length co31, .slice Ao34 t232.length co34, .slice none 0 0]) ?_ 2 _ rfl; (with_reducible repeat (first | refine blk_drewN ?_ _ | refine blk_drew ?_ | refine blk_alloc ?_ _)); refine blk_put (cs := #[.slice Ao31 t229.length co31, .slice none 0 0, .slice none 0 0]) ?_ 1 _ rfl; (with_reducible repeat (first | refine blk_drewN ?_ _ | refine blk_drew ?_ | refine blk_alloc ?_ _)); refine blk_put (cs := #[.slice none 0 0, .slice none 0 0, .slice none 0 0]) ?_ 0 _ rfl; (with_reducible repeat (first | refine blk_drewN ?_ _ | refine blk_drew ?_ | refine blk_alloc ?_ _)); exact BK238.out) hb); have n11_ := Aside0.mk (below_step zq0 hb); clear HO215; clear HO218; clear HO221; clear HO224; clear HO227; clear HO231; clear HO234; clear HO237; clear BK211; clear BK238; clear HB; have HO215 := n0_; have HO218 := n1_; have HO221 := n2_; have HO224 := n3_; have HO227 := n4_; have HO231 := n5_; have HO234 := n6_; have HO237 := n7_; have HO241 := n8_; have BK211 := n9_; have BK238 := n10_; have HB := n11_; clear n0_ n1_ n2_ n3_ n4_ n5_ n6_ n7_ n8_ n9_ n10_ n11_; (try clear hb); (try clear hb2); (try clear hk); (try clear hi); (try clear ho0); have hcz37_0 : w36.cell? ⟨gb238, 0, none⟩ = some (.slice Ao31 t229.length co31) := (blk_cell BK238.out 0).trans rfl; have hcz37_1 : w36.cell? ⟨gb238, 1, none⟩ = some (.slice Ao34 t232.length co34) := (blk_cell BK238.out 1).trans rfl; have hcz37_2 : w36.cell? ⟨gb238, 2, none⟩ = some (.slice Ao35 t235.length co35) := (blk_cell BK238.out 2).trans rfl; have hfz37_0 := blk_frozen BK238.out 0; have hfz37_1 := blk_frozen BK238.out 1; have hfz37_2 := blk_frozen BK238.out 2; obtain ⟨Ao38, co38, eo38⟩ := Kd.R_slice HO241.out; subst eo38) | ((with_reducible refine gate_callee (f := 17) rfl ?_); refine goesL_ (some 40) rfl rfl Try.func17 (by kernel_rfl) rfl #[.agg #[.slice Ao31 t229.length co31, .slice Ao34 t232.length co34, .slice Ao35 t235.length co35], .slice Ao38 t239.length co38] rfl zq3 ?_; (with_reducible refine (impl_AnswersOf.calls k _ _ t229 _ _ t232 _ _ t235 _ _ t239 t242 t245 _ ?side1 ?side2 ?side3 ?side4 ?side5 ?side6 ?side7 ?side8 A15.out).mono ?_); (case side1 => repeat (first | exact (Kd.R_reads' HO231.out).2.2 | (with_reducible refine Kd.C_alloc ?_ _) | (with_reducible refine Kd.C_drewN ?_ _) | (with_reducible refine Kd.C_drew ?_))); (case side2 => exact (Kd.R_reads' HO231.out).2.1); (case side3 => repeat (first | exact (Kd.R_reads' HO234.out).2.2 | (with_reducible refine Kd.C_alloc ?_ _) | (with_reducible refine Kd.C_drewN ?_ _) | (with_reducible refine Kd.C_drew ?_))); (case side4 => exact (Kd.R_reads' HO234.out).2.1); (case side5 => repeat (first | exact (Kd.R_reads' HO237.out).2.2 | (with_reducible refine Kd.C_alloc ?_ _) | (with_reducible refine Kd.C_drewN ?_ _) | (with_reducible refine Kd.C_drew ?_))); (case side6 => exact (Kd.R_reads' HO237.out).2.1); (case side7 => repeat (first | exact (Kd.R_reads' HO241.out).2.2 | (with_reducible refine Kd.C_alloc ?_ _) | (with_reducible refine Kd.C_drewN ?_ _) | (with_reducible refine Kd.C_drew ?_))); (case side8 => exact (Kd.R_reads' HO241.out).2.1); rintro e w39 ⟨v243, rfl, ho0, hb⟩; refine ⟨_, rfl, ?_⟩; have n0_ := Aside0.mk (Kd.R_elder' zq18 (Kd.R_base ho0) hb); have n1_ := Aside0.mk (Kd.R_elder' zq19 (Kd.R_base ho0) hb); have n2_ := Aside0.mk (Kd.R_elder' zq20 (Kd.R_base ho0) hb); have n3_ := Aside0.mk (Kd.R_elder' zq21 (Kd.R_base ho0) hb); have n4_ := Aside0.mk (Kd.R_elder' zq22 (Kd.R_base ho0) hb); have n5_ := Aside0.mk (Kd.R_elder' (by (with_reducible repeat (first | apply Kd.R_alloc | apply Kd.R_drewN | apply Kd.R_drew)); exact HO231.out) (Kd.R_base ho0) hb); have n6_ := Aside0.mk (Kd.R_elder' (by (with_reducible repeat (first | apply Kd.R_alloc | apply Kd.R_drewN | apply Kd.R_drew)); exact HO234.out) (Kd.R_base ho0) hb); have n7_ := Aside0.mk (Kd.R_elder' (by (with_reducible repeat (first | apply Kd.R_alloc | apply Kd.R_drewN | apply Kd.R_drew)); exact HO237.out) (Kd.R_base ho0) hb); have n8_ := Aside0.mk (Kd.R_elder' (by (with_reducible repeat (first | apply Kd.R_alloc | apply Kd.R_drewN | apply Kd.R_drew)); exact HO241.out) (Kd.R_base ho0) hb); have n9_ := Aside0.mk (Kd.R_lower (Kd.R_new' (Kd.R_new' (Kd.R_new' (Kd.R_new' (Kd.R_new' (Kd.R_new' (Kd.R_new' (Kd.R_new' (Kd.R_new' ho0 (Kd.R_lt zq18)) (Kd.R_lt zq19)) (Kd.R_lt zq20)) (Kd.R_lt zq21)) (Kd.R_lt zq22)) (Kd.R_lt (by (with_reducible repeat (first | apply Kd.R_alloc | apply Kd.R_drewN | apply Kd.R_drew)); exact HO231.out))) (Kd.R_lt (by (with_reducible repeat (first | apply Kd.R_alloc | apply Kd.R_drewN | apply Kd.R_drew)); exact HO234.out))) (Kd.R_lt (by (with_reducible repeat (first | apply Kd.R_alloc | apply Kd.R_drewN | apply Kd.R_drew)); exact HO237.out))) (Kd.R_lt (by (with_reducible repeat (first | apply Kd.R_alloc | apply Kd.R_drewN | apply Kd.R_drew)); exact HO241.out))) (below_size zq0)); have n10_ := Aside0.mk (blk_below (g := gb211) (o := .cells #[.slice A0_0 l0_0.length c0_0, .slice A0_1 l0_1.length c0_1, .slice A0_2 l0_2.length c0_2] 24 (0, 0)) zq13 hb); have n11_ := Aside0.mk (blk_below (g := gb238) (o := .cells #[.slice Ao31 t229.length co31, .slice Ao34 t232.length co34, .slice Ao35 t235.length co35] 28 (0, 0)) zq14 hb); have n12_ := Aside0.mk (below_step zq0 hb); clear HO215; clear HO218; clear HO221; clear HO224; clear HO227; clear HO231; clear HO234; clear HO237; clear HO241; clear BK211; clear BK238; clear HB; have HO215 := n0_; have HO218 := n1_; have HO221 := n2_; have HO224 := n3_; have HO227 := n4_; have HO231 := n5_; have HO234 := n6_; have HO237 := n7_; have HO241 := n8_; have HO244 := n9_; have BK211 := n10_; have BK238 := n11_; have HB := n12_; clear n0_ n1_ n2_ n3_ n4_ n5_ n6_ n7_ n8_ n9_ n10_ n11_ n12_; (try clear hb); (try clear hb2); (try clear hk); (try clear hi); (try clear ho0)))
  (try simp only [Act.put, List.setIfInBounds_toArray, List.set_cons_zero, List.set_cons_succ])
  go_cut [51] (fun v51 wc => ∃ (kq : Nat) (x51_15 : Bool), v51 = .bool x51_15 ∧ Aside0 (laws_FnExactAnswersOf.j0 kq l1 t225 t228 t239 t242 t245 x51_15 l0_0 l0_1 l0_2 t229 t232 t235 = some r) ∧ Aside0 (kq ≤ k) ∧ Aside0 (Kd.R (Kd.int .i64) 2 wc w.heap.size (fun k_ => some k_ ≠ ((.slice Ao38 t239.length co38) : Value).ownBlock ∧ some k_ ≠ (v243 : Value).ownBlock ∧ some k_ ≠ ((.slice Ao31 t229.length co31) : Value).ownBlock ∧ some k_ ≠ ((.slice Ao34 t232.length co34) : Value).ownBlock ∧ some k_ ≠ ((.slice Ao35 t235.length co35) : Value).ownBlock) v226 t225) ∧ Aside0 (Kd.R (Kd.int .i64) 2 wc w.heap.size (fun k_ => some k_ ≠ (v226 : Value).ownBlock ∧ some k_ ≠ (v243 : Value).ownBlock ∧ some k_ ≠ ((.slice Ao31 t229.length co31) : Value).ownBlock ∧ some k_ ≠ ((.slice Ao34 t232.length co34) : Value).ownBlock ∧ some k_ ≠ ((.slice Ao35 t235.length co35) : Value).ownBlock) (.slice Ao38 t239.length co38) t239) ∧ Aside0 (Kd.R (Kd.int .i64) 2 wc w.heap.size (fun k_ => some k_ ≠ (v226 : Value).ownBlock ∧ some k_ ≠ ((.slice Ao38 t239.length co38) : Value).ownBlock ∧ some k_ ≠ ((.slice Ao31 t229.length co31) : Value).ownBlock ∧ some k_ ≠ ((.slice Ao34 t232.length co34) : Value).ownBlock ∧ some k_ ≠ ((.slice Ao35 t235.length co35) : Value).ownBlock) v243 t242) ∧ Aside0 (Kd.R (Kd.int .i64) 2 wc w.heap.size (fun k_ => some k_ ≠ (v226 : Value).ownBlock ∧ some k_ ≠ ((.slice Ao38 t239.length co38) : Value).ownBlock ∧ some k_ ≠ (v243 : Value).ownBlock ∧ some k_ ≠ ((.slice Ao34 t232.length co34) : Value).ownBlock ∧ some k_ ≠ ((.slice Ao35 t235.length co35) : Value).ownBlock) (.slice Ao31 t229.length co31) t229) ∧ Aside0 (Kd.R (Kd.int .i64) 2 wc w.heap.size (fun k_ => some k_ ≠ (v226 : Value).ownBlock ∧ some k_ ≠ ((.slice Ao38 t239.length co38) : Value).ownBlock ∧ some k_ ≠ (v243 : Value).ownBlock ∧ some k_ ≠ ((.slice Ao31 t229.length co31) : Value).ownBlock ∧ some k_ ≠ ((.slice Ao35 t235.length co35) : Value).ownBlock) (.slice Ao34 t232.length co34) t232) ∧ Aside0 (Kd.R (Kd.int .i64) 2 wc w.heap.size (fun k_ => some k_ ≠ (v226 : Value).ownBlock ∧ some k_ ≠ ((.slice Ao38 t239.length co38) : Value).ownBlock ∧ some k_ ≠ (v243 : Value).ownBlock ∧ some k_ ≠ ((.slice Ao31 t229.length co31) : Value).ownBlock ∧ some k_ ≠ ((.slice Ao34 t232.length co34) : Value).ownBlock) (.slice Ao35 t235.length co35) t235) ∧ Aside0 (wc.heap[gb211]? = some (.cells #[(.slice A0_0 l0_0.length c0_0), (.slice A0_1 l0_1.length c0_1), (.slice A0_2 l0_2.length c0_2)] 24 (0, 0))) ∧ Aside0 (wc.heap[gb238]? = some (.cells #[(.slice Ao31 t229.length co31), (.slice Ao34 t232.length co34), (.slice Ao35 t235.length co35)] 28 (0, 0))) ∧ Aside0 (Below w.heap.size w wc))
  case first =>
    have H := HC16.out
    clear HC16
    replace H := Option.bind_eq_some_iff.mp H
    obtain ⟨t246, A400, H⟩ := H
    replace H : (if t246 = true then (laws_FnExactAnswersOf.j0 k l1 t225 t228 t239 t242 t245 (t245 != t228) l0_0 l0_1 l0_2 t229 t232 t235) else (laws_FnExactAnswersOf.j0 k l1 t225 t228 t239 t242 t245 true l0_0 l0_1 l0_2 t229 t232 t235)) = some r := H
    have A40 := Aside0.mk A400
    clear A400
    by_cases c41 : t246 = true
    · subst c41
      have H1 : (laws_FnExactAnswersOf.j0 k l1 t225 t228 t239 t242 t245 (t245 != t228) l0_0 l0_1 l0_2 t229 t232 t235) = some r := by rw [if_pos rfl] at H; exact H
      clear H
      have H := H1
      clear H1
      have H' := Aside0.mk H
      clear H
      obtain ⟨Ao42, co42, eo42⟩ := Kd.R_slice HO244.out
      subst eo42
      obtain ⟨Ao43, co43, eo43⟩ := Kd.R_slice HO227.out
      subst eo43
      go_wp2_with (first | ((with_reducible refine gate_callee (f := 18) rfl ?_); refine goesL_ (some 45) rfl rfl Try.func18 (by kernel_rfl) rfl #[.slice Ao42 t242.length co42, .slice Ao43 t225.length co43] rfl zq3 ?_; (with_reducible refine (laws_eqInt64S.calls k _ _ t242 _ _ t225 true _ ?side1 ?side2 ?side3 ?side4 A40.out).mono ?_); (case side1 => repeat (first | exact (Kd.R_reads' HO244.out).2.2 | (with_reducible refine Kd.C_alloc ?_ _) | (with_reducible refine Kd.C_drewN ?_ _) | (with_reducible refine Kd.C_drew ?_))); (case side2 => exact (Kd.R_reads' HO244.out).2.1); (case side3 => repeat (first | exact (Kd.R_reads' HO227.out).2.2 | (with_reducible refine Kd.C_alloc ?_ _) | (with_reducible refine Kd.C_drewN ?_ _) | (with_reducible refine Kd.C_drew ?_))); (case side4 => exact (Kd.R_reads' HO227.out).2.1); rintro e w' ⟨rfl, ⟨nd, rfl⟩⟩; refine ⟨_, rfl, ?_⟩))
      go_meet
      case rel => exact ⟨_, ((t245 != t228)), zq30, H', ⟨by first | omega | exact Nat.le_refl _⟩, ⟨by (with_reducible repeat (first | apply Kd.R_alloc | apply Kd.R_drewN | apply Kd.R_drew)); exact Kd.R_mono HO227.out (fun _ hk => ⟨hk.1.2, ⟨hk.2, ⟨hk.1.1.1.1.2, ⟨hk.1.1.1.2, hk.1.1.2⟩⟩⟩⟩)⟩, ⟨by (with_reducible repeat (first | apply Kd.R_alloc | apply Kd.R_drewN | apply Kd.R_drew)); exact Kd.R_mono HO241.out (fun _ hk => ⟨hk.1.1.1.1.2, ⟨hk.2, ⟨hk.1.1.1.2, ⟨hk.1.1.2, hk.1.2⟩⟩⟩⟩)⟩, ⟨by (with_reducible repeat (first | apply Kd.R_alloc | apply Kd.R_drewN | apply Kd.R_drew)); exact Kd.R_mono HO244.out (fun _ hk => ⟨hk.1.1.1.1.2, ⟨hk.2, ⟨hk.1.1.1.2, ⟨hk.1.1.2, hk.1.2⟩⟩⟩⟩)⟩, ⟨by (with_reducible repeat (first | apply Kd.R_alloc | apply Kd.R_drewN | apply Kd.R_drew)); exact Kd.R_mono HO231.out (fun _ hk => ⟨hk.1.1.2, ⟨hk.1.2, ⟨hk.2, ⟨hk.1.1.1.1.1.1.1.1, hk.1.1.1.1.1.1.1.2⟩⟩⟩⟩)⟩, ⟨by (with_reducible repeat (first | apply Kd.R_alloc | apply Kd.R_drewN | apply Kd.R_drew)); exact Kd.R_mono HO234.out (fun _ hk => ⟨hk.1.1.2, ⟨hk.1.2, ⟨hk.2, ⟨hk.1.1.1.1.1.1.1.1, hk.1.1.1.1.1.1.1.2⟩⟩⟩⟩)⟩, ⟨by (with_reducible repeat (first | apply Kd.R_alloc | apply Kd.R_drewN | apply Kd.R_drew)); exact Kd.R_mono HO237.out (fun _ hk => ⟨hk.1.1.2, ⟨hk.1.2, ⟨hk.2, ⟨hk.1.1.1.1.1.1.1.1, hk.1.1.1.1.1.1.1.2⟩⟩⟩⟩)⟩, ⟨by (with_reducible repeat (first | refine blk_drewN ?_ _ | refine blk_drew ?_ | refine blk_alloc ?_ _)); exact BK211.out⟩, ⟨by (with_reducible repeat (first | refine blk_drewN ?_ _ | refine blk_drew ?_ | refine blk_alloc ?_ _)); exact BK238.out⟩, ⟨by repeat (first | (with_reducible first | exact HB.out | apply below_alloc | apply pw_below_drewN | apply below_drew1 | refine below_set ?_ GE211.out | refine below_set ?_ GE238.out) | exact HB.out)⟩⟩
    replace c41 := Bool.eq_false_iff.mpr c41
    subst c41
    have H1 : (laws_FnExactAnswersOf.j0 k l1 t225 t228 t239 t242 t245 true l0_0 l0_1 l0_2 t229 t232 t235) = some r := by rw [if_neg (show ¬ (false = true) by decide)] at H; exact H
    clear H
    have H := H1
    clear H1
    have H' := Aside0.mk H
    clear H
    obtain ⟨Ao44, co44, eo44⟩ := Kd.R_slice HO244.out
    subst eo44
    obtain ⟨Ao45, co45, eo45⟩ := Kd.R_slice HO227.out
    subst eo45
    go_wp2_with (first | ((with_reducible refine gate_callee (f := 18) rfl ?_); refine goesL_ (some 45) rfl rfl Try.func18 (by kernel_rfl) rfl #[.slice Ao44 t242.length co44, .slice Ao45 t225.length co45] rfl zq3 ?_; (with_reducible refine (laws_eqInt64S.calls k _ _ t242 _ _ t225 false _ ?side1 ?side2 ?side3 ?side4 A40.out).mono ?_); (case side1 => repeat (first | exact (Kd.R_reads' HO244.out).2.2 | (with_reducible refine Kd.C_alloc ?_ _) | (with_reducible refine Kd.C_drewN ?_ _) | (with_reducible refine Kd.C_drew ?_))); (case side2 => exact (Kd.R_reads' HO244.out).2.1); (case side3 => repeat (first | exact (Kd.R_reads' HO227.out).2.2 | (with_reducible refine Kd.C_alloc ?_ _) | (with_reducible refine Kd.C_drewN ?_ _) | (with_reducible refine Kd.C_drew ?_))); (case side4 => exact (Kd.R_reads' HO227.out).2.1); rintro e w' ⟨rfl, ⟨nd, rfl⟩⟩; refine ⟨_, rfl, ?_⟩))
    go_meet
    case rel => exact ⟨_, (true), zq30, H', ⟨by first | omega | exact Nat.le_refl _⟩, ⟨by (with_reducible repeat (first | apply Kd.R_alloc | apply Kd.R_drewN | apply Kd.R_drew)); exact Kd.R_mono HO227.out (fun _ hk => ⟨hk.1.2, ⟨hk.2, ⟨hk.1.1.1.1.2, ⟨hk.1.1.1.2, hk.1.1.2⟩⟩⟩⟩)⟩, ⟨by (with_reducible repeat (first | apply Kd.R_alloc | apply Kd.R_drewN | apply Kd.R_drew)); exact Kd.R_mono HO241.out (fun _ hk => ⟨hk.1.1.1.1.2, ⟨hk.2, ⟨hk.1.1.1.2, ⟨hk.1.1.2, hk.1.2⟩⟩⟩⟩)⟩, ⟨by (with_reducible repeat (first | apply Kd.R_alloc | apply Kd.R_drewN | apply Kd.R_drew)); exact Kd.R_mono HO244.out (fun _ hk => ⟨hk.1.1.1.1.2, ⟨hk.2, ⟨hk.1.1.1.2, ⟨hk.1.1.2, hk.1.2⟩⟩⟩⟩)⟩, ⟨by (with_reducible repeat (first | apply Kd.R_alloc | apply Kd.R_drewN | apply Kd.R_drew)); exact Kd.R_mono HO231.out (fun _ hk => ⟨hk.1.1.2, ⟨hk.1.2, ⟨hk.2, ⟨hk.1.1.1.1.1.1.1.1, hk.1.1.1.1.1.1.1.2⟩⟩⟩⟩)⟩, ⟨by (with_reducible repeat (first | apply Kd.R_alloc | apply Kd.R_drewN | apply Kd.R_drew)); exact Kd.R_mono HO234.out (fun _ hk => ⟨hk.1.1.2, ⟨hk.1.2, ⟨hk.2, ⟨hk.1.1.1.1.1.1.1.1, hk.1.1.1.1.1.1.1.2⟩⟩⟩⟩)⟩, ⟨by (with_reducible repeat (first | apply Kd.R_alloc | apply Kd.R_drewN | apply Kd.R_drew)); exact Kd.R_mono HO237.out (fun _ hk => ⟨hk.1.1.2, ⟨hk.1.2, ⟨hk.2, ⟨hk.1.1.1.1.1.1.1.1, hk.1.1.1.1.1.1.1.2⟩⟩⟩⟩)⟩, ⟨by (with_reducible repeat (first | refine blk_drewN ?_ _ | refine blk_drew ?_ | refine blk_alloc ?_ _)); exact BK211.out⟩, ⟨by (with_reducible repeat (first | refine blk_drewN ?_ _ | refine blk_drew ?_ | refine blk_alloc ?_ _)); exact BK238.out⟩, ⟨by repeat (first | (with_reducible first | exact HB.out | apply below_alloc | apply pw_below_drewN | apply below_drew1 | refine below_set ?_ GE211.out | refine below_set ?_ GE238.out) | exact HB.out)⟩⟩
  clear HC16
  try clear c1
  try clear p2
  try clear c3
  try clear c3b0
  try clear c3b1
  try clear c4
  try clear c6
  try clear c6b0
  try clear c13
  try clear c14
  try clear c15
  try clear c16
  try clear c17
  try clear c18
  try clear c32
  try clear c41
  try clear hcz18_0
  try clear hcz18_1
  try clear hcz18_2
  try clear hcz20_0
  try clear hcz20_1
  try clear hcz20_2
  try clear hcz28_0
  try clear hcz28_1
  try clear hcz28_2
  try clear hcz33_0
  try clear hcz33_1
  try clear hcz33_2
  try clear hcz37_0
  try clear hcz37_1
  try clear hcz37_2
  try clear hcz8_0
  try clear hcz8_1
  try clear hcz8_2
  try clear hfz18_0
  try clear hfz18_1
  try clear hfz18_2
  try clear hfz20_0
  try clear hfz20_1
  try clear hfz20_2
  try clear hfz28_0
  try clear hfz28_1
  try clear hfz28_2
  try clear hfz33_0
  try clear hfz33_1
  try clear hfz33_2
  try clear hfz37_0
  try clear hfz37_1
  try clear hfz37_2
  try clear hfz8_0
  try clear hfz8_1
  try clear hfz8_2
  obtain ⟨kq, x51_15, rfl, HA, HJ15, HO_6, HO_9, HO_10, HO_239000, HO_239001, HO_239002, BK211, BK238, HB⟩ := hcut
  cases kq with
  | zero => exact absurd HA.out (by simp [laws_FnExactAnswersOf.j0])
  | succ kj15 =>
    have H := HA.out
    clear HA
    simp only [laws_FnExactAnswersOf.j0] at H
    by_cases c46 : x51_15 = true
    · subst c46
      have H1 : (some false) = some r := by rw [if_pos rfl] at H; exact H
      clear H
      have H := H1
      clear H1
      rw [hr_.out] at H
      exact absurd H (by simp)
    replace c46 := Bool.eq_false_iff.mpr c46
    subst c46
    have H1 : ((laws_toJobs.f kj15 l0_0 l0_1 l0_2).bind fun bt247 => ((laws_eqJobs.f kj15 t229 t232 t235 bt247.1 bt247.2.1 bt247.2.2).bind fun t256 => (if t256 = true then ((laws_toInt64S.f kj15 l1).bind fun t257 => ((laws_eqInt64S.f kj15 t239 t257).bind fun t260 => (if t260 = true then ((laws_markJobs.f kj15 t229 t232 t235 1).bind fun bt261 => ((laws_markInt64S.f kj15 t239 bt261.1).bind fun bt265 => (if bt265.1 < 0 then (laws_FnExactAnswersOf.j1 kj15 l1 t225 t228 t242 true l0_0 l0_1 l0_2) else ((laws_eqInt64S.f kj15 t242 t225).bind fun t267 => (if t267 = true then (laws_FnExactAnswersOf.j1 kj15 l1 t225 t228 t242 (t245 != t228) l0_0 l0_1 l0_2) else (laws_FnExactAnswersOf.j1 kj15 l1 t225 t228 t242 true l0_0 l0_1 l0_2)))))) else (some false)))) else (some false)))) = some r := by rw [if_neg (show ¬ (false = true) by decide)] at H; exact H
    clear H
    have H := H1
    clear H1
    replace H := Option.bind_eq_some_iff.mp H
    obtain ⟨⟨t247, t250, t253⟩, A470, H⟩ := H
    replace H : ((laws_eqJobs.f kj15 t229 t232 t235 t247 t250 t253).bind fun t256 => (if t256 = true then ((laws_toInt64S.f kj15 l1).bind fun t257 => ((laws_eqInt64S.f kj15 t239 t257).bind fun t260 => (if t260 = true then ((laws_markJobs.f kj15 t229 t232 t235 1).bind fun bt261 => ((laws_markInt64S.f kj15 t239 bt261.1).bind fun bt265 => (if bt265.1 < 0 then (laws_FnExactAnswersOf.j1 kj15 l1 t225 t228 t242 true l0_0 l0_1 l0_2) else ((laws_eqInt64S.f kj15 t242 t225).bind fun t267 => (if t267 = true then (laws_FnExactAnswersOf.j1 kj15 l1 t225 t228 t242 (t245 != t228) l0_0 l0_1 l0_2) else (laws_FnExactAnswersOf.j1 kj15 l1 t225 t228 t242 true l0_0 l0_1 l0_2)))))) else (some false)))) else (some false))) = some r := H
    have A47 := Aside0.mk A470
    clear A470
    replace H := Option.bind_eq_some_iff.mp H
    obtain ⟨t256, A480, H⟩ := H
    replace H : (if t256 = true then ((laws_toInt64S.f kj15 l1).bind fun t257 => ((laws_eqInt64S.f kj15 t239 t257).bind fun t260 => (if t260 = true then ((laws_markJobs.f kj15 t229 t232 t235 1).bind fun bt261 => ((laws_markInt64S.f kj15 t239 bt261.1).bind fun bt265 => (if bt265.1 < 0 then (laws_FnExactAnswersOf.j1 kj15 l1 t225 t228 t242 true l0_0 l0_1 l0_2) else ((laws_eqInt64S.f kj15 t242 t225).bind fun t267 => (if t267 = true then (laws_FnExactAnswersOf.j1 kj15 l1 t225 t228 t242 (t245 != t228) l0_0 l0_1 l0_2) else (laws_FnExactAnswersOf.j1 kj15 l1 t225 t228 t242 true l0_0 l0_1 l0_2)))))) else (some false)))) else (some false)) = some r := H
    have A48 := Aside0.mk A480
    clear A480
    by_cases c49 : t256 = true
    rotate_left
    · replace c49 := Bool.eq_false_iff.mpr c49
      subst c49
      have H1 : (some false) = some r := by rw [if_neg (show ¬ (false = true) by decide)] at H; exact H
      clear H
      have H := H1
      clear H1
      rw [hr_.out] at H
      exact absurd H (by simp)

    subst c49
    have H1 : ((laws_toInt64S.f kj15 l1).bind fun t257 => ((laws_eqInt64S.f kj15 t239 t257).bind fun t260 => (if t260 = true then ((laws_markJobs.f kj15 t229 t232 t235 1).bind fun bt261 => ((laws_markInt64S.f kj15 t239 bt261.1).bind fun bt265 => (if bt265.1 < 0 then (laws_FnExactAnswersOf.j1 kj15 l1 t225 t228 t242 true l0_0 l0_1 l0_2) else ((laws_eqInt64S.f kj15 t242 t225).bind fun t267 => (if t267 = true then (laws_FnExactAnswersOf.j1 kj15 l1 t225 t228 t242 (t245 != t228) l0_0 l0_1 l0_2) else (laws_FnExactAnswersOf.j1 kj15 l1 t225 t228 t242 true l0_0 l0_1 l0_2)))))) else (some false)))) = some r := by rw [if_pos rfl] at H; exact H
    clear H
    have H := H1
    clear H1
    replace H := Option.bind_eq_some_iff.mp H
    obtain ⟨t257, A500, H⟩ := H
    replace H : ((laws_eqInt64S.f kj15 t239 t257).bind fun t260 => (if t260 = true then ((laws_markJobs.f kj15 t229 t232 t235 1).bind fun bt261 => ((laws_markInt64S.f kj15 t239 bt261.1).bind fun bt265 => (if bt265.1 < 0 then (laws_FnExactAnswersOf.j1 kj15 l1 t225 t228 t242 true l0_0 l0_1 l0_2) else ((laws_eqInt64S.f kj15 t242 t225).bind fun t267 => (if t267 = true then (laws_FnExactAnswersOf.j1 kj15 l1 t225 t228 t242 (t245 != t228) l0_0 l0_1 l0_2) else (laws_FnExactAnswersOf.j1 kj15 l1 t225 t228 t242 true l0_0 l0_1 l0_2)))))) else (some false))) = some r := H
    have A50 := Aside0.mk A500
    clear A500
    replace H := Option.bind_eq_some_iff.mp H
    obtain ⟨t260, A510, H⟩ := H
    replace H : (if t260 = true then ((laws_markJobs.f kj15 t229 t232 t235 1).bind fun bt261 => ((laws_markInt64S.f kj15 t239 bt261.1).bind fun bt265 => (if bt265.1 < 0 then (laws_FnExactAnswersOf.j1 kj15 l1 t225 t228 t242 true l0_0 l0_1 l0_2) else ((laws_eqInt64S.f kj15 t242 t225).bind fun t267 => (if t267 = true then (laws_FnExactAnswersOf.j1 kj15 l1 t225 t228 t242 (t245 != t228) l0_0 l0_1 l0_2) else (laws_FnExactAnswersOf.j1 kj15 l1 t225 t228 t242 true l0_0 l0_1 l0_2)))))) else (some false)) = some r := H
    have A51 := Aside0.mk A510
    clear A510
    by_cases c52 : t260 = true
    rotate_left
    · replace c52 := Bool.eq_false_iff.mpr c52
      subst c52
      have H1 : (some false) = some r := by rw [if_neg (show ¬ (false = true) by decide)] at H; exact H
      clear H
      have H := H1
      clear H1
      rw [hr_.out] at H
      exact absurd H (by simp)
    subst c52
    have H1 : ((laws_markJobs.f kj15 t229 t232 t235 1).bind fun bt261 => ((laws_markInt64S.f kj15 t239 bt261.1).bind fun bt265 => (if bt265.1 < 0 then (laws_FnExactAnswersOf.j1 kj15 l1 t225 t228 t242 true l0_0 l0_1 l0_2) else ((laws_eqInt64S.f kj15 t242 t225).bind fun t267 => (if t267 = true then (laws_FnExactAnswersOf.j1 kj15 l1 t225 t228 t242 (t245 != t228) l0_0 l0_1 l0_2) else (laws_FnExactAnswersOf.j1 kj15 l1 t225 t228 t242 true l0_0 l0_1 l0_2)))))) = some r := by rw [if_pos rfl] at H; exact H
    clear H
    have H := H1
    clear H1
    replace H := Option.bind_eq_some_iff.mp H
    obtain ⟨⟨t261, t262, t263, t264⟩, A530, H⟩ := H
    replace H : ((laws_markInt64S.f kj15 t239 t261).bind fun bt265 => (if bt265.1 < 0 then (laws_FnExactAnswersOf.j1 kj15 l1 t225 t228 t242 true l0_0 l0_1 l0_2) else ((laws_eqInt64S.f kj15 t242 t225).bind fun t267 => (if t267 = true then (laws_FnExactAnswersOf.j1 kj15 l1 t225 t228 t242 (t245 != t228) l0_0 l0_1 l0_2) else (laws_FnExactAnswersOf.j1 kj15 l1 t225 t228 t242 true l0_0 l0_1 l0_2))))) = some r := H
    have A53 := Aside0.mk A530
    clear A530
    replace H := Option.bind_eq_some_iff.mp H
    obtain ⟨⟨t265, t266⟩, A540, H⟩ := H
    replace H : (if t265 < 0 then (laws_FnExactAnswersOf.j1 kj15 l1 t225 t228 t242 true l0_0 l0_1 l0_2) else ((laws_eqInt64S.f kj15 t242 t225).bind fun t267 => (if t267 = true then (laws_FnExactAnswersOf.j1 kj15 l1 t225 t228 t242 (t245 != t228) l0_0 l0_1 l0_2) else (laws_FnExactAnswersOf.j1 kj15 l1 t225 t228 t242 true l0_0 l0_1 l0_2)))) = some r := H
    have A54 := Aside0.mk A540
    clear A540
    have HC55 := Aside0.mk H
    clear H
    try go_wp2
    have n0_ := Aside0.mk (Kd.R_drew HO_6.out)
    have n1_ := Aside0.mk (Kd.R_drew HO_9.out)
    have n2_ := Aside0.mk (Kd.R_drew HO_10.out)
    have n3_ := Aside0.mk (Kd.R_drew HO_239000.out)
    have n4_ := Aside0.mk (Kd.R_drew HO_239001.out)
    have n5_ := Aside0.mk (Kd.R_drew HO_239002.out)
    have n6_ := Aside0.mk (blk_drew BK211.out)
    have n7_ := Aside0.mk (blk_drew BK238.out)
    have n8_ := Aside0.mk (below_drew1 HB.out)
    clear HO_6
    clear HO_9
    clear HO_10
    clear HO_239000
    clear HO_239001
    clear HO_239002
    clear BK211
    clear BK238
    clear HB
    have HO_6 := n0_
    have HO_9 := n1_
    have HO_10 := n2_
    have HO_239000 := n3_
    have HO_239001 := n4_
    have HO_239002 := n5_
    have BK211 := n6_
    have BK238 := n7_
    have HB := n8_
    clear n0_ n1_ n2_ n3_ n4_ n5_ n6_ n7_ n8_
    refine start_ (n := 5) (S := fun w' => w'.cell? ⟨gb238, 0, none⟩ = some (.slice Ao31 t229.length co31) ∧ w'.cell? ⟨gb238, 1, none⟩ = some (.slice Ao34 t232.length co34) ∧ w'.cell? ⟨gb238, 2, none⟩ = some (.slice Ao35 t235.length co35) ∧ w'.cell? ⟨gb211, 0, none⟩ = some (.slice A0_0 l0_0.length c0_0) ∧ w'.cell? ⟨gb211, 1, none⟩ = some (.slice A0_1 l0_1.length c0_1) ∧ w'.cell? ⟨gb211, 2, none⟩ = some (.slice A0_2 l0_2.length c0_2)) (ds := []) #[false, false, false, false, false] (by kernel_rfl) rfl rfl ⟨(blk_cell BK238.out 0).trans rfl, (blk_cell BK238.out 1).trans rfl, (blk_cell BK238.out 2).trans rfl, (blk_cell BK211.out 0).trans rfl, (blk_cell BK211.out 1).trans rfl, (blk_cell BK211.out 2).trans rfl⟩ (fun hHeld => ?_)
    generalize wc.drew = w56 at HO_6 HO_9 HO_10 HO_239000 HO_239001 HO_239002 BK211 BK238 HB hHeld ⊢
    refine take_ (i := 0) (N := some 52) (v := ?_) (a' := ?_) #[true, false, false, false, false] rfl rfl (by kernel_rfl) (fun _ _ _ h => h) (Or.inl ⟨by rfl, ?_⟩) hHeld ?_ ?_
    rotate_left
    · rintro w' ⟨s0, s1, s2, s3, s4, s5⟩
      go_simp
      with_reducible rfl
    rotate_left
    · simp only [Act.put, List.setIfInBounds_toArray, List.set_cons_zero, List.set_cons_succ, i64_w, i32_w]
      rfl
    refine take_ (i := 1) (N := some 53) (v := ?_) (a' := ?_) #[true, true, false, false, false] rfl rfl (by kernel_rfl) (fun _ _ _ h => h) (Or.inl ⟨by rfl, ?_⟩) hHeld ?_ ?_
    rotate_left
    · rintro w' ⟨s0, s1, s2, s3, s4, s5⟩
      go_simp
      with_reducible rfl
    rotate_left
    · simp only [Act.put, List.setIfInBounds_toArray, List.set_cons_zero, List.set_cons_succ, i64_w, i32_w]
      rfl
    refine one_ (i := 2) (N := some 54) #[true, true, true, false, false] rfl rfl (by kernel_rfl) (by decide) (fun K hK => ?_)
    refine goes_ Try.func15 (by kernel_rfl) rfl #[.agg #[.slice A0_0 l0_0.length c0_0, .slice A0_1 l0_1.length c0_1, .slice A0_2 l0_2.length c0_2]] (by rfl) rfl rfl zq3 ?_
    with_reducible refine (laws_toJobs.calls kj15 _ _ l0_0 _ _ l0_1 _ _ l0_2 t247 t250 t253 _ ?side1 ?side2 ?side3 ?side4 ?side5 ?side6 A47.out).mono ?_
    (case side1 => repeat (first | exact (Kd.C_below HR0_0.out HB.out) | (with_reducible refine Kd.C_alloc ?_ _) | (with_reducible refine Kd.C_drewN ?_ _) | (with_reducible refine Kd.C_drew ?_)))
    (case side2 => exact HC0_0.out)
    (case side3 => repeat (first | exact (Kd.C_below HR0_1.out HB.out) | (with_reducible refine Kd.C_alloc ?_ _) | (with_reducible refine Kd.C_drewN ?_ _) | (with_reducible refine Kd.C_drew ?_)))
    (case side4 => exact HC0_1.out)
    (case side5 => repeat (first | exact (Kd.C_below HR0_2.out HB.out) | (with_reducible refine Kd.C_alloc ?_ _) | (with_reducible refine Kd.C_drewN ?_ _) | (with_reducible refine Kd.C_drew ?_)))
    (case side6 => exact HC0_2.out)
    rintro e w57 ⟨v248, v251, v254, rfl, ho0, ho1, ho2, hb⟩
    refine ⟨_, rfl, ?_⟩
    have n0_ := Aside0.mk (Kd.R_mono (Kd.R_told (Kd.R_told (Kd.R_told (Kd.R_old zq27 hb) (Kd.R_base ho0)) (Kd.R_base ho1)) (Kd.R_base ho2)) (fun _ h_ => h_.1))
    have n1_ := Aside0.mk (Kd.R_mono (Kd.R_told (Kd.R_told (Kd.R_told (Kd.R_old zq28 hb) (Kd.R_base ho0)) (Kd.R_base ho1)) (Kd.R_base ho2)) (fun _ h_ => h_.1))
    have n2_ := Aside0.mk (Kd.R_mono (Kd.R_told (Kd.R_told (Kd.R_told (Kd.R_old zq23 hb) (Kd.R_base ho0)) (Kd.R_base ho1)) (Kd.R_base ho2)) (fun _ h_ => h_.1))
    have n3_ := Aside0.mk (Kd.R_mono (Kd.R_told (Kd.R_told (Kd.R_told (Kd.R_old zq15 hb) (Kd.R_base ho0)) (Kd.R_base ho1)) (Kd.R_base ho2)) (fun _ h_ => h_.1))
    have n4_ := Aside0.mk (Kd.R_mono (Kd.R_told (Kd.R_told (Kd.R_told (Kd.R_old zq16 hb) (Kd.R_base ho0)) (Kd.R_base ho1)) (Kd.R_base ho2)) (fun _ h_ => h_.1))
    have n5_ := Aside0.mk (Kd.R_mono (Kd.R_told (Kd.R_told (Kd.R_told (Kd.R_old zq17 hb) (Kd.R_base ho0)) (Kd.R_base ho1)) (Kd.R_base ho2)) (fun _ h_ => h_.1))
    have n6_ := Aside0.mk (Kd.R_lower (Kd.R_new' (Kd.R_new' (Kd.R_new' (Kd.R_new' (Kd.R_new' (Kd.R_new' ho0 (Kd.R_lt zq27)) (Kd.R_lt zq28)) (Kd.R_lt zq23)) (Kd.R_lt zq15)) (Kd.R_lt zq16)) (Kd.R_lt zq17)) (below_size zq0))
    have n7_ := Aside0.mk (Kd.R_lower (Kd.R_new' (Kd.R_new' (Kd.R_new' (Kd.R_new' (Kd.R_new' (Kd.R_new' ho1 (Kd.R_lt zq27)) (Kd.R_lt zq28)) (Kd.R_lt zq23)) (Kd.R_lt zq15)) (Kd.R_lt zq16)) (Kd.R_lt zq17)) (below_size zq0))
    have n8_ := Aside0.mk (Kd.R_lower (Kd.R_new' (Kd.R_new' (Kd.R_new' (Kd.R_new' (Kd.R_new' (Kd.R_new' ho2 (Kd.R_lt zq27)) (Kd.R_lt zq28)) (Kd.R_lt zq23)) (Kd.R_lt zq15)) (Kd.R_lt zq16)) (Kd.R_lt zq17)) (below_size zq0))
    have n9_ := Aside0.mk (blk_below (g := gb211) (o := .cells #[.slice A0_0 l0_0.length c0_0, .slice A0_1 l0_1.length c0_1, .slice A0_2 l0_2.length c0_2] 24 (0, 0)) zq13 hb)
    have n10_ := Aside0.mk (blk_below (g := gb238) (o := .cells #[.slice Ao31 t229.length co31, .slice Ao34 t232.length co34, .slice Ao35 t235.length co35] 28 (0, 0)) zq14 hb)
    have n11_ := Aside0.mk (below_step zq0 hb)
    clear HO_6
    clear HO_9
    clear HO_10
    clear HO_239000
    clear HO_239001
    clear HO_239002
    clear BK211
    clear BK238
    clear HB
    have HO_6 := n0_
    have HO_9 := n1_
    have HO_10 := n2_
    have HO_239000 := n3_
    have HO_239001 := n4_
    have HO_239002 := n5_
    have HO249 := n6_
    have HO252 := n7_
    have HO255 := n8_
    have BK211 := n9_
    have BK238 := n10_
    have HB := n11_
    clear n0_ n1_ n2_ n3_ n4_ n5_ n6_ n7_ n8_ n9_ n10_ n11_
    (try clear hb)
    (try clear hb2)
    (try clear hk)
    (try clear hi)
    (try clear ho0)
    (try clear ho1)
    (try clear ho2)
    obtain ⟨Ao58, co58, eo58⟩ := Kd.R_slice HO249.out
    (first | subst eo58 | (injection eo58 with f1_ f2_ f3_; have f4_ := f1_.symm; have f5_ := f3_.symm; clear f1_ f2_ f3_; subst f4_; subst f5_))
    obtain ⟨Ao59, co59, eo59⟩ := Kd.R_slice HO252.out
    (first | subst eo59 | (injection eo59 with f1_ f2_ f3_; have f4_ := f1_.symm; have f5_ := f3_.symm; clear f1_ f2_ f3_; subst f4_; subst f5_))
    obtain ⟨Ao60, co60, eo60⟩ := Kd.R_slice HO255.out
    (first | subst eo60 | (injection eo60 with f1_ f2_ f3_; have f4_ := f1_.symm; have f5_ := f3_.symm; clear f1_ f2_ f3_; subst f4_; subst f5_))
    refine hK.out _ _ ⟨(blk_cell BK238.out 0).trans rfl, (blk_cell BK238.out 1).trans rfl, (blk_cell BK238.out 2).trans rfl, (blk_cell BK211.out 0).trans rfl, (blk_cell BK211.out 1).trans rfl, (blk_cell BK211.out 2).trans rfl⟩ (fun hHeld => ?_)
    clear hK K
    refine norm_ (a' := ?_) ?_ ?_
    rotate_left
    · show Act.put _ (some 54) _ = _
      simp only [Act.put, List.setIfInBounds_toArray, List.set_cons_zero, List.set_cons_succ, i64_w, i32_w]
      rfl
    refine one_ (i := 3) (N := some 55) #[true, true, true, true, false] rfl rfl (by kernel_rfl) (by decide) (fun K hK => ?_)
    refine goes_ Try.func19 (by kernel_rfl) rfl #[.agg #[.slice Ao31 t229.length co31, .slice Ao34 t232.length co34, .slice Ao35 t235.length co35], .agg #[.slice Ao58 t247.length co58, .slice Ao59 t250.length co59, .slice Ao60 t253.length co60]] (by rfl) rfl rfl zq3 ?_
    with_reducible refine (laws_eqJobs.calls kj15 _ _ t229 _ _ t232 _ _ t235 _ _ t247 _ _ t250 _ _ t253 true _ ?side1 ?side2 ?side3 ?side4 ?side5 ?side6 ?side7 ?side8 ?side9 ?side10 ?side11 ?side12 A48.out).mono ?_
    (case side1 => repeat (first | exact (Kd.R_reads' HO_239000.out).2.2 | (with_reducible refine Kd.C_alloc ?_ _) | (with_reducible refine Kd.C_drewN ?_ _) | (with_reducible refine Kd.C_drew ?_)))
    (case side2 => exact (Kd.R_reads' HO_239000.out).2.1)
    (case side3 => repeat (first | exact (Kd.R_reads' HO_239001.out).2.2 | (with_reducible refine Kd.C_alloc ?_ _) | (with_reducible refine Kd.C_drewN ?_ _) | (with_reducible refine Kd.C_drew ?_)))
    (case side4 => exact (Kd.R_reads' HO_239001.out).2.1)
    (case side5 => repeat (first | exact (Kd.R_reads' HO_239002.out).2.2 | (with_reducible refine Kd.C_alloc ?_ _) | (with_reducible refine Kd.C_drewN ?_ _) | (with_reducible refine Kd.C_drew ?_)))
    (case side6 => exact (Kd.R_reads' HO_239002.out).2.1)
    (case side7 => repeat (first | exact (Kd.R_reads' HO249.out).2.2 | (with_reducible refine Kd.C_alloc ?_ _) | (with_reducible refine Kd.C_drewN ?_ _) | (with_reducible refine Kd.C_drew ?_)))
    (case side8 => exact (Kd.R_reads' HO249.out).2.1)
    (case side9 => repeat (first | exact (Kd.R_reads' HO252.out).2.2 | (with_reducible refine Kd.C_alloc ?_ _) | (with_reducible refine Kd.C_drewN ?_ _) | (with_reducible refine Kd.C_drew ?_)))
    (case side10 => exact (Kd.R_reads' HO252.out).2.1)
    (case side11 => repeat (first | exact (Kd.R_reads' HO255.out).2.2 | (with_reducible refine Kd.C_alloc ?_ _) | (with_reducible refine Kd.C_drewN ?_ _) | (with_reducible refine Kd.C_drew ?_)))
    (case side12 => exact (Kd.R_reads' HO255.out).2.1)
    rintro e w61 ⟨rfl, hb⟩
    refine ⟨_, rfl, ?_⟩
    have n0_ := Aside0.mk (Kd.R_below zq27 hb)
    have n1_ := Aside0.mk (Kd.R_below zq28 hb)
    have n2_ := Aside0.mk (Kd.R_below zq23 hb)
    have n3_ := Aside0.mk (Kd.R_below zq15 hb)
    have n4_ := Aside0.mk (Kd.R_below zq16 hb)
    have n5_ := Aside0.mk (Kd.R_below zq17 hb)
    have n6_ := Aside0.mk (Kd.R_below (by (with_reducible repeat (first | apply Kd.R_alloc | apply Kd.R_drewN | apply Kd.R_drew)); exact HO249.out) hb)
    have n7_ := Aside0.mk (Kd.R_below (by (with_reducible repeat (first | apply Kd.R_alloc | apply Kd.R_drewN | apply Kd.R_drew)); exact HO252.out) hb)
    have n8_ := Aside0.mk (Kd.R_below (by (with_reducible repeat (first | apply Kd.R_alloc | apply Kd.R_drewN | apply Kd.R_drew)); exact HO255.out) hb)
    have n9_ := Aside0.mk (blk_below (g := gb211) (o := .cells #[.slice A0_0 l0_0.length c0_0, .slice A0_1 l0_1.length c0_1, .slice A0_2 l0_2.length c0_2] 24 (0, 0)) zq13 hb)
    have n10_ := Aside0.mk (blk_below (g := gb238) (o := .cells #[.slice Ao31 t229.length co31, .slice Ao34 t232.length co34, .slice Ao35 t235.length co35] 28 (0, 0)) zq14 hb)
    have n11_ := Aside0.mk (below_step zq0 hb)
    clear HO_6
    clear HO_9
    clear HO_10
    clear HO_239000
    clear HO_239001
    clear HO_239002
    clear HO249
    clear HO252
    clear HO255
    clear BK211
    clear BK238
    clear HB
    have HO_6 := n0_
    have HO_9 := n1_
    have HO_10 := n2_
    have HO_239000 := n3_
    have HO_239001 := n4_
    have HO_239002 := n5_
    have HO249 := n6_
    have HO252 := n7_
    have HO255 := n8_
    have BK211 := n9_
    have BK238 := n10_
    have HB := n11_
    clear n0_ n1_ n2_ n3_ n4_ n5_ n6_ n7_ n8_ n9_ n10_ n11_
    (try clear hb)
    (try clear hb2)
    (try clear hk)
    (try clear hi)
    refine hK.out _ _ ⟨(blk_cell BK238.out 0).trans rfl, (blk_cell BK238.out 1).trans rfl, (blk_cell BK238.out 2).trans rfl, (blk_cell BK211.out 0).trans rfl, (blk_cell BK211.out 1).trans rfl, (blk_cell BK211.out 2).trans rfl⟩ (fun hHeld => ?_)
    clear hK K
    refine norm_ (a' := ?_) ?_ ?_
    rotate_left
    · show Act.put _ (some 55) _ = _
      simp only [Act.put, List.setIfInBounds_toArray, List.set_cons_zero, List.set_cons_succ, i64_w, i32_w]
      rfl
    refine pure_ (i := 4) (N := some 56) (v := ?_) (a' := ?_) #[true, true, true, true, true] rfl rfl (by kernel_rfl) (fun _ _ _ h => h) (Or.inl ⟨by rfl, ?_⟩) ?_ ?_
    rotate_left
    · intro w'
      go_simp
      with_reducible rfl
    rotate_left
    · simp only [Act.put, List.setIfInBounds_toArray, List.set_cons_zero, List.set_cons_succ, i64_w, i32_w]
      rfl
    refine done_ (by kernel_rfl) ?_
    go_upto_region 20 with (first | ((with_reducible refine gate_callee (f := 16) rfl ?_); refine goesL_ (some 59) rfl rfl Try.func16 (by kernel_rfl) rfl #[.slice A1 l1.length c1] rfl zq3 ?_; (with_reducible refine (laws_toInt64S.calls kj15 _ _ l1 t257 _ ?side1 ?side2 A50.out).mono ?_); (case side1 => repeat (first | exact (Kd.C_below HR1.out HB.out) | (with_reducible refine Kd.C_alloc ?_ _) | (with_reducible refine Kd.C_drewN ?_ _) | (with_reducible refine Kd.C_drew ?_))); (case side2 => exact HC1.out); rintro e w62 ⟨v258, rfl, ho0, hb⟩; refine ⟨_, rfl, ?_⟩; have n0_ := Aside0.mk (Kd.R_elder' zq27 (Kd.R_base ho0) hb); have n1_ := Aside0.mk (Kd.R_elder' zq28 (Kd.R_base ho0) hb); have n2_ := Aside0.mk (Kd.R_elder' zq23 (Kd.R_base ho0) hb); have n3_ := Aside0.mk (Kd.R_elder' zq15 (Kd.R_base ho0) hb); have n4_ := Aside0.mk (Kd.R_elder' zq16 (Kd.R_base ho0) hb); have n5_ := Aside0.mk (Kd.R_elder' zq17 (Kd.R_base ho0) hb); have n6_ := Aside0.mk (Kd.R_elder' (by (with_reducible repeat (first | apply Kd.R_alloc | apply Kd.R_drewN | apply Kd.R_drew)); exact HO249.out) (Kd.R_base ho0) hb); have n7_ := Aside0.mk (Kd.R_elder' (by (with_reducible repeat (first | apply Kd.R_alloc | apply Kd.R_drewN | apply Kd.R_drew)); exact HO252.out) (Kd.R_base ho0) hb); have n8_ := Aside0.mk (Kd.R_elder' (by (with_reducible repeat (first | apply Kd.R_alloc | apply Kd.R_drewN | apply Kd.R_drew)); exact HO255.out) (Kd.R_base ho0) hb); have n9_ := Aside0.mk (Kd.R_lower (Kd.R_new' (Kd.R_new' (Kd.R_new' (Kd.R_new' (Kd.R_new' (Kd.R_new' (Kd.R_new' (Kd.R_new' (Kd.R_new' ho0 (Kd.R_lt zq27)) (Kd.R_lt zq28)) (Kd.R_lt zq23)) (Kd.R_lt zq15)) (Kd.R_lt zq16)) (Kd.R_lt zq17)) (Kd.R_lt (by (with_reducible repeat (first | apply Kd.R_alloc | apply Kd.R_drewN | apply Kd.R_drew)); exact HO249.out))) (Kd.R_lt (by (with_reducible repeat (first | apply Kd.R_alloc | apply Kd.R_drewN | apply Kd.R_drew)); exact HO252.out))) (Kd.R_lt (by (with_reducible repeat (first | apply Kd.R_alloc | apply Kd.R_drewN | apply Kd.R_drew)); exact HO255.out))) (below_size zq0)); have n10_ := Aside0.mk (blk_below (g := gb211) (o := .cells #[.slice A0_0 l0_0.length c0_0, .slice A0_1 l0_1.length c0_1, .slice A0_2 l0_2.length c0_2] 24 (0, 0)) zq13 hb); have n11_ := Aside0.mk (blk_below (g := gb238) (o := .cells #[.slice Ao31 t229.length co31, .slice Ao34 t232.length co34, .slice Ao35 t235.length co35] 28 (0, 0)) zq14 hb); have n12_ := Aside0.mk (below_step zq0 hb); clear HO_6; clear HO_9; clear HO_10; clear HO_239000; clear HO_239001; clear HO_239002; clear HO249; clear HO252; clear HO255; clear BK211; clear BK238; clear HB; have HO_6 := n0_; have HO_9 := n1_; have HO_10 := n2_; have HO_239000 := n3_; have HO_239001 := n4_; have HO_239002 := n5_; have HO249 := n6_; have HO252 := n7_; have HO255 := n8_; have HO259 := n9_; have BK211 := n10_; have BK238 := n11_; have HB := n12_; clear n0_ n1_ n2_ n3_ n4_ n5_ n6_ n7_ n8_ n9_ n10_ n11_ n12_; (try clear hb); (try clear hb2); (try clear hk); (try clear hi); (try clear ho0); obtain ⟨Ao63, co63, eo63⟩ := Kd.R_slice HO259.out; subst eo63) | ((with_reducible refine gate_callee (f := 18) rfl ?_); refine goesL_ (some 60) rfl rfl Try.func18 (by kernel_rfl) rfl #[.slice Ao38 t239.length co38, .slice Ao63 t257.length co63] rfl zq3 ?_; (with_reducible refine (laws_eqInt64S.calls kj15 _ _ t239 _ _ t257 true _ ?side1 ?side2 ?side3 ?side4 A51.out).mono ?_); (case side1 => repeat (first | exact (Kd.R_reads' HO_9.out).2.2 | (with_reducible refine Kd.C_alloc ?_ _) | (with_reducible refine Kd.C_drewN ?_ _) | (with_reducible refine Kd.C_drew ?_))); (case side2 => exact (Kd.R_reads' HO_9.out).2.1); (case side3 => repeat (first | exact (Kd.R_reads' HO259.out).2.2 | (with_reducible refine Kd.C_alloc ?_ _) | (with_reducible refine Kd.C_drewN ?_ _) | (with_reducible refine Kd.C_drew ?_))); (case side4 => exact (Kd.R_reads' HO259.out).2.1); rintro e w' ⟨rfl, ⟨nd, rfl⟩⟩; refine ⟨_, rfl, ?_⟩; have hnb64 := NB238_211.out; have hnc64 := NB211_238.out; have hcz65_0 : w62.cell? ⟨gb238, 0, none⟩ = some (.slice Ao31 t229.length co31) := (blk_cell BK238.out 0).trans rfl; have hcz65_1 : w62.cell? ⟨gb238, 1, none⟩ = some (.slice Ao34 t232.length co34) := (blk_cell BK238.out 1).trans rfl; have hcz65_2 : w62.cell? ⟨gb238, 2, none⟩ = some (.slice Ao35 t235.length co35) := (blk_cell BK238.out 2).trans rfl; have hfz65_0 := blk_frozen BK238.out 0; have hfz65_1 := blk_frozen BK238.out 1; have hfz65_2 := blk_frozen BK238.out 2) | ((with_reducible refine gate_callee (f := 20) rfl ?_); refine goesL_ (some 64) rfl rfl Try.func20 (by kernel_rfl) rfl #[.agg #[.slice Ao31 t229.length co31, .slice Ao34 t232.length co34, .slice Ao35 t235.length co35], .int .i64 1] rfl zq3 ?_; (with_reducible refine (laws_markJobs.calls kj15 (fun k_ => some k_ = (.slice Ao31 t229.length co31 : Value).ownBlock) (.slice Ao31 t229.length co31) t229 (fun k_ => some k_ = (.slice Ao34 t232.length co34 : Value).ownBlock) (.slice Ao34 t232.length co34) t232 (fun k_ => some k_ = (.slice Ao35 t235.length co35 : Value).ownBlock) (.slice Ao35 t235.length co35) t235 1 t261 t262 t263 t264 w _ ?side1 ?side2 ?side3 ?side4 ?side5 ?side6 ?side7 ?side8 ?side9 ?side10 A53.out).mono ?_); (case side1 => repeat (first | (with_reducible first | exact HB.out | apply below_alloc | apply pw_below_drewN | apply below_drew1 | refine below_set ?_ GE211.out | refine below_set ?_ GE238.out) | exact HB.out)); (case side2 => exact Kd.R_tight rfl HO_239000.out); (case side3 => exact fun k_ e_ => (HO_239000.out.1 k_ e_.symm).1.1.1.1.2.2.2.1); (case side4 => exact fun k_ e_ => (HO_239000.out.1 k_ e_.symm).1.1.1.1.2.2.2.2); (case side5 => exact Kd.R_tight rfl HO_239001.out); (case side6 => exact fun k_ e_ => (HO_239001.out.1 k_ e_.symm).1.1.1.1.2.2.2.1); (case side7 => exact fun k_ e_ => (HO_239001.out.1 k_ e_.symm).1.1.1.1.2.2.2.2); (case side8 => exact Kd.R_tight rfl HO_239002.out); (case side9 => exact fun k_ e_ => (HO_239002.out.1 k_ e_.symm).1.1.1.1.2.2.2.1); (case side10 => exact fun k_ e_ => (HO_239002.out.1 k_ e_.symm).1.1.1.1.2.2.2.2); rintro e w66 ⟨rfl, hy0, hy1, hy2, hb, hkp⟩; refine ⟨_, rfl, ?_⟩; have n0_ := Aside0.mk (Kd.R_mono (ok' := fun k_ => some k_ ≠ (.slice Ao38 t239.length co38 : Value).ownBlock ∧ some k_ ≠ (v243 : Value).ownBlock ∧ some k_ ≠ (.slice Ao31 t229.length co31 : Value).ownBlock ∧ some k_ ≠ (.slice Ao34 t232.length co34 : Value).ownBlock ∧ some k_ ≠ (.slice Ao35 t235.length co35 : Value).ownBlock ∧ some k_ ≠ (.slice Ao58 t247.length co58 : Value).ownBlock ∧ some k_ ≠ (.slice Ao59 t250.length co59 : Value).ownBlock ∧ some k_ ≠ (.slice Ao60 t253.length co60 : Value).ownBlock ∧ some k_ ≠ (.slice Ao63 t257.length co63 : Value).ownBlock) (Kd.R_keptB (HO_6.out) hkp (fun k_ hk_ hs_ => Or.elim hs_ (fun e_ => (hk_.1.1.1.1.2.2.1) e_) (fun e_ => Or.elim e_ (fun e_ => (hk_.1.1.1.1.2.2.2.1) e_) (fun e_ => (hk_.1.1.1.1.2.2.2.2) e_)))) (fun k_ hk_ => ⟨hk_.1.1.1.1.1.1, hk_.1.1.1.1.1.2.1, hk_.1.1.1.1.1.2.2.1, hk_.1.1.1.1.1.2.2.2.1, hk_.1.1.1.1.1.2.2.2.2, hk_.1.1.1.1.2, hk_.1.1.1.2, hk_.1.1.2, hk_.1.2⟩)); have n1_ := Aside0.mk (Kd.R_mono (ok' := fun k_ => some k_ ≠ (v226 : Value).ownBlock ∧ some k_ ≠ (v243 : Value).ownBlock ∧ some k_ ≠ (.slice Ao31 t229.length co31 : Value).ownBlock ∧ some k_ ≠ (.slice Ao34 t232.length co34 : Value).ownBlock ∧ some k_ ≠ (.slice Ao35 t235.length co35 : Value).ownBlock ∧ some k_ ≠ (.slice Ao58 t247.length co58 : Value).ownBlock ∧ some k_ ≠ (.slice Ao59 t250.length co59 : Value).ownBlock ∧ some k_ ≠ (.slice Ao60 t253.length co60 : Value).ownBlock ∧ some k_ ≠ (.slice Ao63 t257.length co63 : Value).ownBlock) (Kd.R_keptB (HO_9.out) hkp (fun k_ hk_ hs_ => Or.elim hs_ (fun e_ => (hk_.1.1.1.1.2.2.1) e_) (fun e_ => Or.elim e_ (fun e_ => (hk_.1.1.1.1.2.2.2.1) e_) (fun e_ => (hk_.1.1.1.1.2.2.2.2) e_)))) (fun k_ hk_ => ⟨hk_.1.1.1.1.1.1, hk_.1.1.1.1.1.2.1, hk_.1.1.1.1.1.2.2.1, hk_.1.1.1.1.1.2.2.2.1, hk_.1.1.1.1.1.2.2.2.2, hk_.1.1.1.1.2, hk_.1.1.1.2, hk_.1.1.2, hk_.1.2⟩)); have n2_ := Aside0.mk (Kd.R_mono (ok' := fun k_ => some k_ ≠ (v226 : Value).ownBlock ∧ some k_ ≠ (.slice Ao38 t239.length co38 : Value).ownBlock ∧ some k_ ≠ (.slice Ao31 t229.length co31 : Value).ownBlock ∧ some k_ ≠ (.slice Ao34 t232.length co34 : Value).ownBlock ∧ some k_ ≠ (.slice Ao35 t235.length co35 : Value).ownBlock ∧ some k_ ≠ (.slice Ao58 t247.length co58 : Value).ownBlock ∧ some k_ ≠ (.slice Ao59 t250.length co59 : Value).ownBlock ∧ some k_ ≠ (.slice Ao60 t253.length co60 : Value).ownBlock ∧ some k_ ≠ (.slice Ao63 t257.length co63 : Value).ownBlock) (Kd.R_keptB (HO_10.out) hkp (fun k_ hk_ hs_ => Or.elim hs_ (fun e_ => (hk_.1.1.1.1.2.2.1) e_) (fun e_ => Or.elim e_ (fun e_ => (hk_.1.1.1.1.2.2.2.1) e_) (fun e_ => (hk_.1.1.1.1.2.2.2.2) e_)))) (fun k_ hk_ => ⟨hk_.1.1.1.1.1.1, hk_.1.1.1.1.1.2.1, hk_.1.1.1.1.1.2.2.1, hk_.1.1.1.1.1.2.2.2.1, hk_.1.1.1.1.1.2.2.2.2, hk_.1.1.1.1.2, hk_.1.1.1.2, hk_.1.1.2, hk_.1.2⟩)); have n3_ := Aside0.mk (Kd.R_reok rfl hy0 (fun k_ e_ => HO_239000.out.1 k_ e_)); have n4_ := Aside0.mk (Kd.R_reok rfl hy1 (fun k_ e_ => HO_239001.out.1 k_ e_)); have n5_ := Aside0.mk (Kd.R_reok rfl hy2 (fun k_ e_ => HO_239002.out.1 k_ e_)); have n6_ := Aside0.mk (blk_kept zq13 hkp (fun hs_ => Or.elim hs_ (fun e_ => (fun e_ => (Kd.R_ne HO_239000.out BK211.out (by decide)) e_) e_) (fun e_ => Or.elim e_ (fun e_ => (fun e_ => (Kd.R_ne HO_239001.out BK211.out (by decide)) e_) e_) (fun e_ => (fun e_ => (Kd.R_ne HO_239002.out BK211.out (by decide)) e_) e_)))); have n7_ := Aside0.mk (blk_kept zq14 hkp (fun hs_ => Or.elim hs_ (fun e_ => (fun e_ => (Kd.R_ne HO_239000.out BK238.out (by decide)) e_) e_) (fun e_ => Or.elim e_ (fun e_ => (fun e_ => (Kd.R_ne HO_239001.out BK238.out (by decide)) e_) e_) (fun e_ => (fun e_ => (Kd.R_ne HO_239002.out BK238.out (by decide)) e_) e_)))); have n8_ := Aside0.mk (Kd.R_mono (ok' := fun k_ => some k_ ≠ (v226 : Value).ownBlock ∧ some k_ ≠ (.slice Ao38 t239.length co38 : Value).ownBlock ∧ some k_ ≠ (v243 : Value).ownBlock ∧ some k_ ≠ (.slice Ao31 t229.length co31 : Value).ownBlock ∧ some k_ ≠ (.slice Ao34 t232.length co34 : Value).ownBlock ∧ some k_ ≠ (.slice Ao35 t235.length co35 : Value).ownBlock ∧ some k_ ≠ (.slice Ao59 t250.length co59 : Value).ownBlock ∧ some k_ ≠ (.slice Ao60 t253.length co60 : Value).ownBlock ∧ some k_ ≠ (.slice Ao63 t257.length co63 : Value).ownBlock) (Kd.R_keptB (HO249.out) hkp (fun k_ hk_ hs_ => Or.elim hs_ (fun e_ => (hk_.1.1.1.2) e_) (fun e_ => Or.elim e_ (fun e_ => (hk_.1.1.2) e_) (fun e_ => (hk_.1.2) e_)))) (fun k_ hk_ => ⟨hk_.1.1.1.1.1.1.1.2, hk_.1.1.1.1.1.1.2, hk_.1.1.1.1.1.2, hk_.1.1.1.1.2, hk_.1.1.1.2, hk_.1.1.2, hk_.1.1.1.1.1.1.1.1.1, hk_.1.1.1.1.1.1.1.1.2, hk_.1.2⟩)); have n9_ := Aside0.mk (Kd.R_mono (ok' := fun k_ => some k_ ≠ (v226 : Value).ownBlock ∧ some k_ ≠ (.slice Ao38 t239.length co38 : Value).ownBlock ∧ some k_ ≠ (v243 : Value).ownBlock ∧ some k_ ≠ (.slice Ao31 t229.length co31 : Value).ownBlock ∧ some k_ ≠ (.slice Ao34 t232.length co34 : Value).ownBlock ∧ some k_ ≠ (.slice Ao35 t235.length co35 : Value).ownBlock ∧ some k_ ≠ (.slice Ao58 t247.length co58 : Value).ownBlock ∧ some k_ ≠ (.slice Ao60 t253.length co60 : Value).ownBlock ∧ some k_ ≠ (.slice Ao63 t257.length co63 : Value).ownBlock) (Kd.R_keptB (HO252.out) hkp (fun k_ hk_ hs_ => Or.elim hs_ (fun e_ => (hk_.1.1.1.2) e_) (fun e_ => Or.elim e_ (fun e_ => (hk_.1.1.2) e_) (fun e_ => (hk_.1.2) e_)))) (fun k_ hk_ => ⟨hk_.1.1.1.1.1.1.1.2, hk_.1.1.1.1.1.1.2, hk_.1.1.1.1.1.2, hk_.1.1.1.1.2, hk_.1.1.1.2, hk_.1.1.2, hk_.1.1.1.1.1.1.1.1.1, hk_.1.1.1.1.1.1.1.1.2, hk_.1.2⟩)); have n10_ := Aside0.mk (Kd.R_mono (ok' := fun k_ => some k_ ≠ (v226 : Value).ownBlock ∧ some k_ ≠ (.slice Ao38 t239.length co38 : Value).ownBlock ∧ some k_ ≠ (v243 : Value).ownBlock ∧ some k_ ≠ (.slice Ao31 t229.length co31 : Value).ownBlock ∧ some k_ ≠ (.slice Ao34 t232.length co34 : Value).ownBlock ∧ some k_ ≠ (.slice Ao35 t235.length co35 : Value).ownBlock ∧ some k_ ≠ (.slice Ao58 t247.length co58 : Value).ownBlock ∧ some k_ ≠ (.slice Ao59 t250.length co59 : Value).ownBlock ∧ some k_ ≠ (.slice Ao63 t257.length co63 : Value).ownBlock) (Kd.R_keptB (HO255.out) hkp (fun k_ hk_ hs_ => Or.elim hs_ (fun e_ => (hk_.1.1.1.2) e_) (fun e_ => Or.elim e_ (fun e_ => (hk_.1.1.2) e_) (fun e_ => (hk_.1.2) e_)))) (fun k_ hk_ => ⟨hk_.1.1.1.1.1.1.1.2, hk_.1.1.1.1.1.1.2, hk_.1.1.1.1.1.2, hk_.1.1.1.1.2, hk_.1.1.1.2, hk_.1.1.2, hk_.1.1.1.1.1.1.1.1.1, hk_.1.1.1.1.1.1.1.1.2, hk_.1.2⟩)); have n11_ := Aside0.mk (Kd.R_mono (ok' := fun k_ => some k_ ≠ (v226 : Value).ownBlock ∧ some k_ ≠ (.slice Ao38 t239.length co38 : Value).ownBlock ∧ some k_ ≠ (v243 : Value).ownBlock ∧ some k_ ≠ (.slice Ao31 t229.length co31 : Value).ownBlock ∧ some k_ ≠ (.slice Ao34 t232.length co34 : Value).ownBlock ∧ some k_ ≠ (.slice Ao35 t235.length co35 : Value).ownBlock ∧ some k_ ≠ (.slice Ao58 t247.length co58 : Value).ownBlock ∧ some k_ ≠ (.slice Ao59 t250.length co59 : Value).ownBlock ∧ some k_ ≠ (.slice Ao60 t253.length co60 : Value).ownBlock) (Kd.R_keptB (HO259.out) hkp (fun k_ hk_ hs_ => Or.elim hs_ (fun e_ => (hk_.1.1.1.1.1.2) e_) (fun e_ => Or.elim e_ (fun e_ => (hk_.1.1.1.1.2) e_) (fun e_ => (hk_.1.1.1.2) e_)))) (fun k_ hk_ => ⟨hk_.1.1.1.1.1.1.1.1.1.2, hk_.1.1.1.1.1.1.1.1.2, hk_.1.1.1.1.1.1.1.2, hk_.1.1.1.1.1.1.2, hk_.1.1.1.1.1.2, hk_.1.1.1.1.2, hk_.1.1.1.2, hk_.1.1.2, hk_.1.2⟩)); have n12_ := Aside0.mk (hb); clear HO_6; clear HO_9; clear HO_10; clear HO_239000; clear HO_239001; clear HO_239002; clear BK211; clear BK238; clear HO249; clear HO252; clear HO255; clear HO259; clear HB; have HO_6 := n0_; have HO_9 := n1_; have HO_10 := n2_; have HO_239000 := n3_; have HO_239001 := n4_; have HO_239002 := n5_; have BK211 := n6_; have BK238 := n7_; have HO249 := n8_; have HO252 := n9_; have HO255 := n10_; have HO259 := n11_; have HB := n12_; clear n0_ n1_ n2_ n3_ n4_ n5_ n6_ n7_ n8_ n9_ n10_ n11_ n12_; (try clear hb); (try clear hkp); (try clear hy0); (try clear hy1); (try clear hy2)) | ((with_reducible refine gate_callee (f := 21) rfl ?_); refine goesL_ (some 67) rfl rfl Try.func21 (by kernel_rfl) rfl #[.slice Ao38 t239.length co38, .int .i64 t261] rfl zq3 ?_; (with_reducible refine (laws_markInt64S.calls kj15 (fun k_ => some k_ = (.slice Ao38 t239.length co38 : Value).ownBlock) (.slice Ao38 t239.length co38) t239 t261 t265 t266 w _ ?side1 ?side2 A54.out).mono ?_); (case side1 => repeat (first | (with_reducible first | exact HB.out | apply below_alloc | apply pw_below_drewN | apply below_drew1 | refine below_set ?_ GE211.out | refine below_set ?_ GE238.out) | exact HB.out)); (case side2 => exact Kd.R_tight rfl HO_9.out); rintro e w67 ⟨rfl, hy0, hb, hkp⟩; refine ⟨_, rfl, ?_⟩; have n0_ := Aside0.mk (Kd.R_mono (ok' := fun k_ => some k_ ≠ (.slice Ao38 t239.length co38 : Value).ownBlock ∧ some k_ ≠ (v243 : Value).ownBlock ∧ some k_ ≠ (.slice Ao31 t229.length co31 : Value).ownBlock ∧ some k_ ≠ (.slice Ao34 t232.length co34 : Value).ownBlock ∧ some k_ ≠ (.slice Ao35 t235.length co35 : Value).ownBlock ∧ some k_ ≠ (.slice Ao58 t247.length co58 : Value).ownBlock ∧ some k_ ≠ (.slice Ao59 t250.length co59 : Value).ownBlock ∧ some k_ ≠ (.slice Ao60 t253.length co60 : Value).ownBlock ∧ some k_ ≠ (.slice Ao63 t257.length co63 : Value).ownBlock) (Kd.R_keptB (HO_6.out) hkp (fun k_ hk_ hs_ => (hk_.1) hs_)) (fun k_ hk_ => ⟨hk_.1.1, hk_.1.2.1, hk_.1.2.2.1, hk_.1.2.2.2.1, hk_.1.2.2.2.2.1, hk_.1.2.2.2.2.2.1, hk_.1.2.2.2.2.2.2.1, hk_.1.2.2.2.2.2.2.2.1, hk_.1.2.2.2.2.2.2.2.2⟩)); have n1_ := Aside0.mk (Kd.R_reok rfl hy0 (fun k_ e_ => HO_9.out.1 k_ e_)); have n2_ := Aside0.mk (Kd.R_mono (ok' := fun k_ => some k_ ≠ (v226 : Value).ownBlock ∧ some k_ ≠ (.slice Ao38 t239.length co38 : Value).ownBlock ∧ some k_ ≠ (.slice Ao31 t229.length co31 : Value).ownBlock ∧ some k_ ≠ (.slice Ao34 t232.length co34 : Value).ownBlock ∧ some k_ ≠ (.slice Ao35 t235.length co35 : Value).ownBlock ∧ some k_ ≠ (.slice Ao58 t247.length co58 : Value).ownBlock ∧ some k_ ≠ (.slice Ao59 t250.length co59 : Value).ownBlock ∧ some k_ ≠ (.slice Ao60 t253.length co60 : Value).ownBlock ∧ some k_ ≠ (.slice Ao63 t257.length co63 : Value).ownBlock) (Kd.R_keptB (HO_10.out) hkp (fun k_ hk_ hs_ => (hk_.2.1) hs_)) (fun k_ hk_ => ⟨hk_.1.1, hk_.1.2.1, hk_.1.2.2.1, hk_.1.2.2.2.1, hk_.1.2.2.2.2.1, hk_.1.2.2.2.2.2.1, hk_.1.2.2.2.2.2.2.1, hk_.1.2.2.2.2.2.2.2.1, hk_.1.2.2.2.2.2.2.2.2⟩)); have n3_ := Aside0.mk (Kd.R_mono (ok' := fun k_ => some k_ ≠ (v226 : Value).ownBlock ∧ some k_ ≠ (.slice Ao38 t239.length co38 : Value).ownBlock ∧ some k_ ≠ (v243 : Value).ownBlock ∧ some k_ ≠ (.slice Ao34 t232.length co34 : Value).ownBlock ∧ some k_ ≠ (.slice Ao35 t235.length co35 : Value).ownBlock ∧ some k_ ≠ (.slice Ao58 t247.length co58 : Value).ownBlock ∧ some k_ ≠ (.slice Ao59 t250.length co59 : Value).ownBlock ∧ some k_ ≠ (.slice Ao60 t253.length co60 : Value).ownBlock ∧ some k_ ≠ (.slice Ao63 t257.length co63 : Value).ownBlock) (Kd.R_keptB (HO_239000.out) hkp (fun k_ hk_ hs_ => (hk_.1.1.1.1.2.1) hs_)) (fun k_ hk_ => ⟨hk_.1.1.1.1.1.1, hk_.1.1.1.1.1.2.1, hk_.1.1.1.1.1.2.2.1, hk_.1.1.1.1.1.2.2.2.1, hk_.1.1.1.1.1.2.2.2.2, hk_.1.1.1.1.2, hk_.1.1.1.2, hk_.1.1.2, hk_.1.2⟩)); have n4_ := Aside0.mk (Kd.R_mono (ok' := fun k_ => some k_ ≠ (v226 : Value).ownBlock ∧ some k_ ≠ (.slice Ao38 t239.length co38 : Value).ownBlock ∧ some k_ ≠ (v243 : Value).ownBlock ∧ some k_ ≠ (.slice Ao31 t229.length co31 : Value).ownBlock ∧ some k_ ≠ (.slice Ao35 t235.length co35 : Value).ownBlock ∧ some k_ ≠ (.slice Ao58 t247.length co58 : Value).ownBlock ∧ some k_ ≠ (.slice Ao59 t250.length co59 : Value).ownBlock ∧ some k_ ≠ (.slice Ao60 t253.length co60 : Value).ownBlock ∧ some k_ ≠ (.slice Ao63 t257.length co63 : Value).ownBlock) (Kd.R_keptB (HO_239001.out) hkp (fun k_ hk_ hs_ => (hk_.1.1.1.1.2.1) hs_)) (fun k_ hk_ => ⟨hk_.1.1.1.1.1.1, hk_.1.1.1.1.1.2.1, hk_.1.1.1.1.1.2.2.1, hk_.1.1.1.1.1.2.2.2.1, hk_.1.1.1.1.1.2.2.2.2, hk_.1.1.1.1.2, hk_.1.1.1.2, hk_.1.1.2, hk_.1.2⟩)); have n5_ := Aside0.mk (Kd.R_mono (ok' := fun k_ => some k_ ≠ (v226 : Value).ownBlock ∧ some k_ ≠ (.slice Ao38 t239.length co38 : Value).ownBlock ∧ some k_ ≠ (v243 : Value).ownBlock ∧ some k_ ≠ (.slice Ao31 t229.length co31 : Value).ownBlock ∧ some k_ ≠ (.slice Ao34 t232.length co34 : Value).ownBlock ∧ some k_ ≠ (.slice Ao58 t247.length co58 : Value).ownBlock ∧ some k_ ≠ (.slice Ao59 t250.length co59 : Value).ownBlock ∧ some k_ ≠ (.slice Ao60 t253.length co60 : Value).ownBlock ∧ some k_ ≠ (.slice Ao63 t257.length co63 : Value).ownBlock) (Kd.R_keptB (HO_239002.out) hkp (fun k_ hk_ hs_ => (hk_.1.1.1.1.2.1) hs_)) (fun k_ hk_ => ⟨hk_.1.1.1.1.1.1, hk_.1.1.1.1.1.2.1, hk_.1.1.1.1.1.2.2.1, hk_.1.1.1.1.1.2.2.2.1, hk_.1.1.1.1.1.2.2.2.2, hk_.1.1.1.1.2, hk_.1.1.1.2, hk_.1.1.2, hk_.1.2⟩)); have n6_ := Aside0.mk (blk_kept zq13 hkp (fun hs_ => (fun e_ => (Kd.R_ne HO_9.out BK211.out (by decide)) e_) hs_)); have n7_ := Aside0.mk (blk_kept zq14 hkp (fun hs_ => (fun e_ => (Kd.R_ne HO_9.out BK238.out (by decide)) e_) hs_)); have n8_ := Aside0.mk (Kd.R_mono (ok' := fun k_ => some k_ ≠ (v226 : Value).ownBlock ∧ some k_ ≠ (.slice Ao38 t239.length co38 : Value).ownBlock ∧ some k_ ≠ (v243 : Value).ownBlock ∧ some k_ ≠ (.slice Ao31 t229.length co31 : Value).ownBlock ∧ some k_ ≠ (.slice Ao34 t232.length co34 : Value).ownBlock ∧ some k_ ≠ (.slice Ao35 t235.length co35 : Value).ownBlock ∧ some k_ ≠ (.slice Ao59 t250.length co59 : Value).ownBlock ∧ some k_ ≠ (.slice Ao60 t253.length co60 : Value).ownBlock ∧ some k_ ≠ (.slice Ao63 t257.length co63 : Value).ownBlock) (Kd.R_keptB (HO249.out) hkp (fun k_ hk_ hs_ => (hk_.2.1) hs_)) (fun k_ hk_ => ⟨hk_.1.1, hk_.1.2.1, hk_.1.2.2.1, hk_.1.2.2.2.1, hk_.1.2.2.2.2.1, hk_.1.2.2.2.2.2.1, hk_.1.2.2.2.2.2.2.1, hk_.1.2.2.2.2.2.2.2.1, hk_.1.2.2.2.2.2.2.2.2⟩)); have n9_ := Aside0.mk (Kd.R_mono (ok' := fun k_ => some k_ ≠ (v226 : Value).ownBlock ∧ some k_ ≠ (.slice Ao38 t239.length co38 : Value).ownBlock ∧ some k_ ≠ (v243 : Value).ownBlock ∧ some k_ ≠ (.slice Ao31 t229.length co31 : Value).ownBlock ∧ some k_ ≠ (.slice Ao34 t232.length co34 : Value).ownBlock ∧ some k_ ≠ (.slice Ao35 t235.length co35 : Value).ownBlock ∧ some k_ ≠ (.slice Ao58 t247.length co58 : Value).ownBlock ∧ some k_ ≠ (.slice Ao60 t253.length co60 : Value).ownBlock ∧ some k_ ≠ (.slice Ao63 t257.length co63 : Value).ownBlock) (Kd.R_keptB (HO252.out) hkp (fun k_ hk_ hs_ => (hk_.2.1) hs_)) (fun k_ hk_ => ⟨hk_.1.1, hk_.1.2.1, hk_.1.2.2.1, hk_.1.2.2.2.1, hk_.1.2.2.2.2.1, hk_.1.2.2.2.2.2.1, hk_.1.2.2.2.2.2.2.1, hk_.1.2.2.2.2.2.2.2.1, hk_.1.2.2.2.2.2.2.2.2⟩)); have n10_ := Aside0.mk (Kd.R_mono (ok' := fun k_ => some k_ ≠ (v226 : Value).ownBlock ∧ some k_ ≠ (.slice Ao38 t239.length co38 : Value).ownBlock ∧ some k_ ≠ (v243 : Value).ownBlock ∧ some k_ ≠ (.slice Ao31 t229.length co31 : Value).ownBlock ∧ some k_ ≠ (.slice Ao34 t232.length co34 : Value).ownBlock ∧ some k_ ≠ (.slice Ao35 t235.length co35 : Value).ownBlock ∧ some k_ ≠ (.slice Ao58 t247.length co58 : Value).ownBlock ∧ some k_ ≠ (.slice Ao59 t250.length co59 : Value).ownBlock ∧ some k_ ≠ (.slice Ao63 t257.length co63 : Value).ownBlock) (Kd.R_keptB (HO255.out) hkp (fun k_ hk_ hs_ => (hk_.2.1) hs_)) (fun k_ hk_ => ⟨hk_.1.1, hk_.1.2.1, hk_.1.2.2.1, hk_.1.2.2.2.1, hk_.1.2.2.2.2.1, hk_.1.2.2.2.2.2.1, hk_.1.2.2.2.2.2.2.1, hk_.1.2.2.2.2.2.2.2.1, hk_.1.2.2.2.2.2.2.2.2⟩)); have n11_ := Aside0.mk (Kd.R_mono (ok' := fun k_ => some k_ ≠ (v226 : Value).ownBlock ∧ some k_ ≠ (.slice Ao38 t239.length co38 : Value).ownBlock ∧ some k_ ≠ (v243 : Value).ownBlock ∧ some k_ ≠ (.slice Ao31 t229.length co31 : Value).ownBlock ∧ some k_ ≠ (.slice Ao34 t232.length co34 : Value).ownBlock ∧ some k_ ≠ (.slice Ao35 t235.length co35 : Value).ownBlock ∧ some k_ ≠ (.slice Ao58 t247.length co58 : Value).ownBlock ∧ some k_ ≠ (.slice Ao59 t250.length co59 : Value).ownBlock ∧ some k_ ≠ (.slice Ao60 t253.length co60 : Value).ownBlock) (Kd.R_keptB (HO259.out) hkp (fun k_ hk_ hs_ => (hk_.2.1) hs_)) (fun k_ hk_ => ⟨hk_.1.1, hk_.1.2.1, hk_.1.2.2.1, hk_.1.2.2.2.1, hk_.1.2.2.2.2.1, hk_.1.2.2.2.2.2.1, hk_.1.2.2.2.2.2.2.1, hk_.1.2.2.2.2.2.2.2.1, hk_.1.2.2.2.2.2.2.2.2⟩)); have n12_ := Aside0.mk (hb); clear HO_6; clear HO_9; clear HO_10; clear HO_239000; clear HO_239001; clear HO_239002; clear BK211; clear BK238; clear HO249; clear HO252; clear HO255; clear HO259; clear HB; have HO_6 := n0_; have HO_9 := n1_; have HO_10 := n2_; have HO_239000 := n3_; have HO_239001 := n4_; have HO_239002 := n5_; have BK211 := n6_; have BK238 := n7_; have HO249 := n8_; have HO252 := n9_; have HO255 := n10_; have HO259 := n11_; have HB := n12_; clear n0_ n1_ n2_ n3_ n4_ n5_ n6_ n7_ n8_ n9_ n10_ n11_ n12_; (try clear hb); (try clear hkp); (try clear hy0)))
    (try simp only [Act.put, List.setIfInBounds_toArray, List.set_cons_zero, List.set_cons_succ])
    go_cut [80] (fun v80 wc => ∃ (kq : Nat) (x80_54 : Bool), v80 = .bool x80_54 ∧ Aside0 (laws_FnExactAnswersOf.j1 kq l1 t225 t228 t242 x80_54 l0_0 l0_1 l0_2 = some r) ∧ Aside0 (kq ≤ kj15) ∧ Aside0 (Kd.R (Kd.int .i64) 2 wc w.heap.size (fun k_ => some k_ ≠ (v243 : Value).ownBlock ∧ some k_ ≠ ((.slice Ao31 t229.length co31) : Value).ownBlock ∧ some k_ ≠ ((.slice Ao34 t232.length co34) : Value).ownBlock ∧ some k_ ≠ ((.slice Ao35 t235.length co35) : Value).ownBlock) v226 t225) ∧ Aside0 (Kd.R (Kd.int .i64) 2 wc w.heap.size (fun k_ => some k_ ≠ (v226 : Value).ownBlock ∧ some k_ ≠ ((.slice Ao31 t229.length co31) : Value).ownBlock ∧ some k_ ≠ ((.slice Ao34 t232.length co34) : Value).ownBlock ∧ some k_ ≠ ((.slice Ao35 t235.length co35) : Value).ownBlock) v243 t242) ∧ Aside0 (Kd.R (Kd.int .i64) 2 wc w.heap.size (fun k_ => some k_ ≠ (v226 : Value).ownBlock ∧ some k_ ≠ (v243 : Value).ownBlock ∧ some k_ ≠ ((.slice Ao34 t232.length co34) : Value).ownBlock ∧ some k_ ≠ ((.slice Ao35 t235.length co35) : Value).ownBlock) (.slice Ao31 t229.length co31) t262) ∧ Aside0 (Kd.R (Kd.int .i64) 2 wc w.heap.size (fun k_ => some k_ ≠ (v226 : Value).ownBlock ∧ some k_ ≠ (v243 : Value).ownBlock ∧ some k_ ≠ ((.slice Ao31 t229.length co31) : Value).ownBlock ∧ some k_ ≠ ((.slice Ao35 t235.length co35) : Value).ownBlock) (.slice Ao34 t232.length co34) t263) ∧ Aside0 (Kd.R (Kd.int .i64) 2 wc w.heap.size (fun k_ => some k_ ≠ (v226 : Value).ownBlock ∧ some k_ ≠ (v243 : Value).ownBlock ∧ some k_ ≠ ((.slice Ao31 t229.length co31) : Value).ownBlock ∧ some k_ ≠ ((.slice Ao34 t232.length co34) : Value).ownBlock) (.slice Ao35 t235.length co35) t264) ∧ Aside0 (wc.heap[gb211]? = some (.cells #[(.slice A0_0 l0_0.length c0_0), (.slice A0_1 l0_1.length c0_1), (.slice A0_2 l0_2.length c0_2)] 24 (0, 0))) ∧ Aside0 (wc.heap[gb238]? = some (.cells #[(.slice Ao31 t229.length co31), (.slice Ao34 t232.length co34), (.slice Ao35 t235.length co35)] 28 (0, 0))) ∧ Aside0 (Below w.heap.size w wc))
    case first =>
      have H := HC55.out
      clear HC55
      by_cases c68 : t265 < 0
      · rw [if_pos c68] at H
        have c68b0 : decide (t265 < 0) = true := decide_eq_true c68
        clear c68
        (first | rw [c68b0] | (simp only [i64_w, i32_w]; rw [c68b0]) | skip)
        have H' := Aside0.mk H
        clear H
        go_wp2
        go_meet
        case rel => exact ⟨_, (true), zq30, H', ⟨by have := HJ15.out; first | omega | exact Nat.le_refl _⟩, ⟨by (with_reducible repeat (first | apply Kd.R_alloc | apply Kd.R_drewN | apply Kd.R_drew)); exact Kd.R_mono HO_6.out (fun _ hk => ⟨hk.2.1, ⟨hk.2.2.1, ⟨hk.2.2.2.1, hk.2.2.2.2.1⟩⟩⟩)⟩, ⟨by (with_reducible repeat (first | apply Kd.R_alloc | apply Kd.R_drewN | apply Kd.R_drew)); exact Kd.R_mono HO_10.out (fun _ hk => ⟨hk.1, ⟨hk.2.2.1, ⟨hk.2.2.2.1, hk.2.2.2.2.1⟩⟩⟩)⟩, ⟨by (with_reducible repeat (first | apply Kd.R_alloc | apply Kd.R_drewN | apply Kd.R_drew)); exact Kd.R_mono HO_239000.out (fun _ hk => ⟨hk.1, ⟨hk.2.2.1, ⟨hk.2.2.2.1, hk.2.2.2.2.1⟩⟩⟩)⟩, ⟨by (with_reducible repeat (first | apply Kd.R_alloc | apply Kd.R_drewN | apply Kd.R_drew)); exact Kd.R_mono HO_239001.out (fun _ hk => ⟨hk.1, ⟨hk.2.2.1, ⟨hk.2.2.2.1, hk.2.2.2.2.1⟩⟩⟩)⟩, ⟨by (with_reducible repeat (first | apply Kd.R_alloc | apply Kd.R_drewN | apply Kd.R_drew)); exact Kd.R_mono HO_239002.out (fun _ hk => ⟨hk.1, ⟨hk.2.2.1, ⟨hk.2.2.2.1, hk.2.2.2.2.1⟩⟩⟩)⟩, ⟨by (with_reducible repeat (first | refine blk_drewN ?_ _ | refine blk_drew ?_ | refine blk_alloc ?_ _)); exact BK211.out⟩, ⟨by (with_reducible repeat (first | refine blk_drewN ?_ _ | refine blk_drew ?_ | refine blk_alloc ?_ _)); exact BK238.out⟩, ⟨by repeat (first | (with_reducible first | exact HB.out | apply below_alloc | apply pw_below_drewN | apply below_drew1 | refine below_set ?_ GE211.out | refine below_set ?_ GE238.out) | exact HB.out)⟩⟩
      rw [if_neg c68] at H
      have c68b0 : decide (t265 < 0) = false := decide_eq_false c68
      clear c68
      (first | rw [c68b0] | (simp only [i64_w, i32_w]; rw [c68b0]) | skip)
      replace H := Option.bind_eq_some_iff.mp H
      obtain ⟨t267, A690, H⟩ := H
      replace H : (if t267 = true then (laws_FnExactAnswersOf.j1 kj15 l1 t225 t228 t242 (t245 != t228) l0_0 l0_1 l0_2) else (laws_FnExactAnswersOf.j1 kj15 l1 t225 t228 t242 true l0_0 l0_1 l0_2)) = some r := H
      have A69 := Aside0.mk A690
      clear A690
      by_cases c70 : t267 = true
      · subst c70
        have H1 : (laws_FnExactAnswersOf.j1 kj15 l1 t225 t228 t242 (t245 != t228) l0_0 l0_1 l0_2) = some r := by rw [if_pos rfl] at H; exact H
        clear H
        have H := H1
        clear H1
        have H' := Aside0.mk H
        clear H
        obtain ⟨Ao71, co71, eo71⟩ := Kd.R_slice HO_10.out
        subst eo71
        obtain ⟨Ao72, co72, eo72⟩ := Kd.R_slice HO_6.out
        subst eo72
        go_wp2_with (first | (go_at_call 18; (with_reducible refine (laws_eqInt64S.calls kj15 _ _ t242 _ _ t225 true _ ?side1 ?side2 ?side3 ?side4 A69.out).mono ?_); (case side1 => repeat (first | exact (Kd.R_reads' HO_10.out).2.2 | (with_reducible refine Kd.C_alloc ?_ _) | (with_reducible refine Kd.C_drewN ?_ _) | (with_reducible refine Kd.C_drew ?_))); (case side2 => exact (Kd.R_reads' HO_10.out).2.1); (case side3 => repeat (first | exact (Kd.R_reads' HO_6.out).2.2 | (with_reducible refine Kd.C_alloc ?_ _) | (with_reducible refine Kd.C_drewN ?_ _) | (with_reducible refine Kd.C_drew ?_))); (case side4 => exact (Kd.R_reads' HO_6.out).2.1); rintro e w' ⟨rfl, ⟨nd, rfl⟩⟩))
        go_meet
        case rel => exact ⟨_, ((t245 != t228)), zq30, H', ⟨by have := HJ15.out; first | omega | exact Nat.le_refl _⟩, ⟨by (with_reducible repeat (first | apply Kd.R_alloc | apply Kd.R_drewN | apply Kd.R_drew)); exact Kd.R_mono HO_6.out (fun _ hk => ⟨hk.2.1, ⟨hk.2.2.1, ⟨hk.2.2.2.1, hk.2.2.2.2.1⟩⟩⟩)⟩, ⟨by (with_reducible repeat (first | apply Kd.R_alloc | apply Kd.R_drewN | apply Kd.R_drew)); exact Kd.R_mono HO_10.out (fun _ hk => ⟨hk.1, ⟨hk.2.2.1, ⟨hk.2.2.2.1, hk.2.2.2.2.1⟩⟩⟩)⟩, ⟨by (with_reducible repeat (first | apply Kd.R_alloc | apply Kd.R_drewN | apply Kd.R_drew)); exact Kd.R_mono HO_239000.out (fun _ hk => ⟨hk.1, ⟨hk.2.2.1, ⟨hk.2.2.2.1, hk.2.2.2.2.1⟩⟩⟩)⟩, ⟨by (with_reducible repeat (first | apply Kd.R_alloc | apply Kd.R_drewN | apply Kd.R_drew)); exact Kd.R_mono HO_239001.out (fun _ hk => ⟨hk.1, ⟨hk.2.2.1, ⟨hk.2.2.2.1, hk.2.2.2.2.1⟩⟩⟩)⟩, ⟨by (with_reducible repeat (first | apply Kd.R_alloc | apply Kd.R_drewN | apply Kd.R_drew)); exact Kd.R_mono HO_239002.out (fun _ hk => ⟨hk.1, ⟨hk.2.2.1, ⟨hk.2.2.2.1, hk.2.2.2.2.1⟩⟩⟩)⟩, ⟨by (with_reducible repeat (first | refine blk_drewN ?_ _ | refine blk_drew ?_ | refine blk_alloc ?_ _)); exact BK211.out⟩, ⟨by (with_reducible repeat (first | refine blk_drewN ?_ _ | refine blk_drew ?_ | refine blk_alloc ?_ _)); exact BK238.out⟩, ⟨by repeat (first | (with_reducible first | exact HB.out | apply below_alloc | apply pw_below_drewN | apply below_drew1 | refine below_set ?_ GE211.out | refine below_set ?_ GE238.out) | exact HB.out)⟩⟩
      replace c70 := Bool.eq_false_iff.mpr c70
      subst c70
      have H1 : (laws_FnExactAnswersOf.j1 kj15 l1 t225 t228 t242 true l0_0 l0_1 l0_2) = some r := by rw [if_neg (show ¬ (false = true) by decide)] at H; exact H
      clear H
      have H := H1
      clear H1
      have H' := Aside0.mk H
      clear H
      obtain ⟨Ao73, co73, eo73⟩ := Kd.R_slice HO_10.out
      subst eo73
      obtain ⟨Ao74, co74, eo74⟩ := Kd.R_slice HO_6.out
      subst eo74
      go_wp2_with (first | (go_at_call 18; (with_reducible refine (laws_eqInt64S.calls kj15 _ _ t242 _ _ t225 false _ ?side1 ?side2 ?side3 ?side4 A69.out).mono ?_); (case side1 => repeat (first | exact (Kd.R_reads' HO_10.out).2.2 | (with_reducible refine Kd.C_alloc ?_ _) | (with_reducible refine Kd.C_drewN ?_ _) | (with_reducible refine Kd.C_drew ?_))); (case side2 => exact (Kd.R_reads' HO_10.out).2.1); (case side3 => repeat (first | exact (Kd.R_reads' HO_6.out).2.2 | (with_reducible refine Kd.C_alloc ?_ _) | (with_reducible refine Kd.C_drewN ?_ _) | (with_reducible refine Kd.C_drew ?_))); (case side4 => exact (Kd.R_reads' HO_6.out).2.1); rintro e w' ⟨rfl, ⟨nd, rfl⟩⟩))
      go_meet
      case rel => exact ⟨_, (true), zq30, H', ⟨by have := HJ15.out; first | omega | exact Nat.le_refl _⟩, ⟨by (with_reducible repeat (first | apply Kd.R_alloc | apply Kd.R_drewN | apply Kd.R_drew)); exact Kd.R_mono HO_6.out (fun _ hk => ⟨hk.2.1, ⟨hk.2.2.1, ⟨hk.2.2.2.1, hk.2.2.2.2.1⟩⟩⟩)⟩, ⟨by (with_reducible repeat (first | apply Kd.R_alloc | apply Kd.R_drewN | apply Kd.R_drew)); exact Kd.R_mono HO_10.out (fun _ hk => ⟨hk.1, ⟨hk.2.2.1, ⟨hk.2.2.2.1, hk.2.2.2.2.1⟩⟩⟩)⟩, ⟨by (with_reducible repeat (first | apply Kd.R_alloc | apply Kd.R_drewN | apply Kd.R_drew)); exact Kd.R_mono HO_239000.out (fun _ hk => ⟨hk.1, ⟨hk.2.2.1, ⟨hk.2.2.2.1, hk.2.2.2.2.1⟩⟩⟩)⟩, ⟨by (with_reducible repeat (first | apply Kd.R_alloc | apply Kd.R_drewN | apply Kd.R_drew)); exact Kd.R_mono HO_239001.out (fun _ hk => ⟨hk.1, ⟨hk.2.2.1, ⟨hk.2.2.2.1, hk.2.2.2.2.1⟩⟩⟩)⟩, ⟨by (with_reducible repeat (first | apply Kd.R_alloc | apply Kd.R_drewN | apply Kd.R_drew)); exact Kd.R_mono HO_239002.out (fun _ hk => ⟨hk.1, ⟨hk.2.2.1, ⟨hk.2.2.2.1, hk.2.2.2.2.1⟩⟩⟩)⟩, ⟨by (with_reducible repeat (first | refine blk_drewN ?_ _ | refine blk_drew ?_ | refine blk_alloc ?_ _)); exact BK211.out⟩, ⟨by (with_reducible repeat (first | refine blk_drewN ?_ _ | refine blk_drew ?_ | refine blk_alloc ?_ _)); exact BK238.out⟩, ⟨by repeat (first | (with_reducible first | exact HB.out | apply below_alloc | apply pw_below_drewN | apply below_drew1 | refine below_set ?_ GE211.out | refine below_set ?_ GE238.out) | exact HB.out)⟩⟩
    clear HC55
    try clear c1
    try clear c2
    try clear p2
    try clear c3
    try clear c3b0
    try clear c3b1
    try clear c4
    try clear c5
    try clear c6
    try clear c6b0
    try clear c7
    try clear c13
    try clear c14
    try clear c15
    try clear c16
    try clear c17
    try clear c18
    try clear c19
    try clear c20
    try clear c21
    try clear c32
    try clear c41
    try clear c46
    try clear c49
    try clear c52
    try clear c64
    try clear c68
    try clear c68b0
    try clear c70
    try clear hcz18_0
    try clear hcz18_1
    try clear hcz18_2
    try clear hcz20_0
    try clear hcz20_1
    try clear hcz20_2
    try clear hcz28_0
    try clear hcz28_1
    try clear hcz28_2
    try clear hcz33_0
    try clear hcz33_1
    try clear hcz33_2
    try clear hcz37_0
    try clear hcz37_1
    try clear hcz37_2
    try clear hcz65_0
    try clear hcz65_1
    try clear hcz65_2
    try clear hcz8_0
    try clear hcz8_1
    try clear hcz8_2
    try clear hfz18_0
    try clear hfz18_1
    try clear hfz18_2
    try clear hfz20_0
    try clear hfz20_1
    try clear hfz20_2
    try clear hfz28_0
    try clear hfz28_1
    try clear hfz28_2
    try clear hfz33_0
    try clear hfz33_1
    try clear hfz33_2
    try clear hfz37_0
    try clear hfz37_1
    try clear hfz37_2
    try clear hfz65_0
    try clear hfz65_1
    try clear hfz65_2
    try clear hfz8_0
    try clear hfz8_1
    try clear hfz8_2
    try clear p2
    obtain ⟨kq, x80_54, rfl, HA, HJ54, HO_6, HO_10, HO_239000, HO_239001, HO_239002, BK211, BK238, HB⟩ := hcut
    have hl239000_54 := (Kd.R_reads' HO_239000.out).1
    rw [hl239000_54] at HO_239000
    (try simp only [hl239000_54])
    (try simp only [hl239000_54] at BK211)
    (try simp only [hl239000_54] at BK238)
    (try simp only [hl239000_54] at HO_6)
    (try simp only [hl239000_54] at HO_10)
    (try simp only [hl239000_54] at HO_239001)
    (try simp only [hl239000_54] at HO_239002)
    have hl239001_54 := (Kd.R_reads' HO_239001.out).1
    rw [hl239001_54] at HO_239001
    (try simp only [hl239001_54])
    (try simp only [hl239001_54] at BK211)
    (try simp only [hl239001_54] at BK238)
    (try simp only [hl239001_54] at HO_6)
    (try simp only [hl239001_54] at HO_10)
    (try simp only [hl239001_54] at HO_239000)
    (try simp only [hl239001_54] at HO_239002)
    have hl239002_54 := (Kd.R_reads' HO_239002.out).1
    rw [hl239002_54] at HO_239002
    (try simp only [hl239002_54])
    (try simp only [hl239002_54] at BK211)
    (try simp only [hl239002_54] at BK238)
    (try simp only [hl239002_54] at HO_6)
    (try simp only [hl239002_54] at HO_10)
    (try simp only [hl239002_54] at HO_239000)
    (try simp only [hl239002_54] at HO_239001)
    cases kq with
    | zero => exact absurd HA.out (by simp [laws_FnExactAnswersOf.j1])
    | succ kj54 =>
      have H := HA.out
      clear HA
      simp only [laws_FnExactAnswersOf.j1] at H
      by_cases c75 : x80_54 = true
      · subst c75
        have H1 : (some false) = some r := by rw [if_pos rfl] at H; exact H
        clear H
        have H := H1
        clear H1
        rw [hr_.out] at H
        exact absurd H (by simp)
      replace c75 := Bool.eq_false_iff.mpr c75
      subst c75
      have H1 : ((laws_markInt64S.f kj54 t242 1).bind fun bt268 => ((laws_heldInt64S.f kj54 bt268.2 1).bind fun t270 => (if t270 < 0 then (some false) else (if t270 = bt268.1 then ((laws_toJobs.f kj54 l0_0 l0_1 l0_2).bind fun bt271 => ((laws_toInt64S.f kj54 l1).bind fun t280 => ((impl_AnswersOf.f kj54 bt271.1 bt271.2.1 bt271.2.2 t280).bind fun bt283 => ((laws_eqInt64S.f kj54 bt283.1 t225).bind fun t287 => (if t287 = true then (laws_FnExactAnswersOf.j2 kj54 bt268.2 bt268.1 (bt283.2 != t228)) else (laws_FnExactAnswersOf.j2 kj54 bt268.2 bt268.1 true)))))) else (some false))))) = some r := by rw [if_neg (show ¬ (false = true) by decide)] at H; exact H
      clear H
      have H := H1
      clear H1
      replace H := Option.bind_eq_some_iff.mp H
      obtain ⟨⟨t268, t269⟩, A760, H⟩ := H
      replace H : ((laws_heldInt64S.f kj54 t269 1).bind fun t270 => (if t270 < 0 then (some false) else (if t270 = t268 then ((laws_toJobs.f kj54 l0_0 l0_1 l0_2).bind fun bt271 => ((laws_toInt64S.f kj54 l1).bind fun t280 => ((impl_AnswersOf.f kj54 bt271.1 bt271.2.1 bt271.2.2 t280).bind fun bt283 => ((laws_eqInt64S.f kj54 bt283.1 t225).bind fun t287 => (if t287 = true then (laws_FnExactAnswersOf.j2 kj54 t269 t268 (bt283.2 != t228)) else (laws_FnExactAnswersOf.j2 kj54 t269 t268 true)))))) else (some false)))) = some r := H
      have A76 := Aside0.mk A760
      clear A760
      replace H := Option.bind_eq_some_iff.mp H
      obtain ⟨t270, A770, H⟩ := H
      replace H : (if t270 < 0 then (some false) else (if t270 = t268 then ((laws_toJobs.f kj54 l0_0 l0_1 l0_2).bind fun bt271 => ((laws_toInt64S.f kj54 l1).bind fun t280 => ((impl_AnswersOf.f kj54 bt271.1 bt271.2.1 bt271.2.2 t280).bind fun bt283 => ((laws_eqInt64S.f kj54 bt283.1 t225).bind fun t287 => (if t287 = true then (laws_FnExactAnswersOf.j2 kj54 t269 t268 (bt283.2 != t228)) else (laws_FnExactAnswersOf.j2 kj54 t269 t268 true)))))) else (some false))) = some r := H
      have A77 := Aside0.mk A770
      clear A770
      by_cases c78 : t270 < 0
      · rw [if_pos c78] at H
        have c78b0 : decide (t270 < 0) = true := decide_eq_true c78
        clear c78
        rw [hr_.out] at H
        exact absurd H (by simp)
      rw [if_neg c78] at H
      have c78b0 : decide (t270 < 0) = false := decide_eq_false c78
      clear c78
      by_cases c79 : t270 = t268
      rotate_left
      · rw [if_neg c79] at H
        have c79b0 : (t270 == t268) = false := beq_eq_false_iff_ne.mpr c79
        have c79b1 : (t270 != t268) = true := bne_iff_ne.mpr c79
        rw [hr_.out] at H
        exact absurd H (by simp)
      rw [if_pos c79] at H
      have c79b0 : (t270 == t268) = true := beq_iff_eq.mpr c79
      have c79b1 : (t270 != t268) = false := bne_eq_false_iff_eq.mpr c79
      clear c79
      replace H := Option.bind_eq_some_iff.mp H
      obtain ⟨⟨t271, t274, t277⟩, A800, H⟩ := H
      replace H : ((laws_toInt64S.f kj54 l1).bind fun t280 => ((impl_AnswersOf.f kj54 t271 t274 t277 t280).bind fun bt283 => ((laws_eqInt64S.f kj54 bt283.1 t225).bind fun t287 => (if t287 = true then (laws_FnExactAnswersOf.j2 kj54 t269 t268 (bt283.2 != t228)) else (laws_FnExactAnswersOf.j2 kj54 t269 t268 true))))) = some r := H
      have A80 := Aside0.mk A800
      clear A800
      replace H := Option.bind_eq_some_iff.mp H
      obtain ⟨t280, A810, H⟩ := H
      replace H : ((impl_AnswersOf.f kj54 t271 t274 t277 t280).bind fun bt283 => ((laws_eqInt64S.f kj54 bt283.1 t225).bind fun t287 => (if t287 = true then (laws_FnExactAnswersOf.j2 kj54 t269 t268 (bt283.2 != t228)) else (laws_FnExactAnswersOf.j2 kj54 t269 t268 true)))) = some r := H
      have A81 := Aside0.mk A810
      clear A810
      replace H := Option.bind_eq_some_iff.mp H
      obtain ⟨⟨t283, t286⟩, A820, H⟩ := H
      replace H : ((laws_eqInt64S.f kj54 t283 t225).bind fun t287 => (if t287 = true then (laws_FnExactAnswersOf.j2 kj54 t269 t268 (t286 != t228)) else (laws_FnExactAnswersOf.j2 kj54 t269 t268 true))) = some r := H
      have A82 := Aside0.mk A820
      clear A820
      have HC83 := Aside0.mk H
      clear H
      obtain ⟨Ao84, co84, eo84⟩ := Kd.R_slice HO_10.out
      subst eo84
      go_upto_region 31 with (first | ((with_reducible refine gate_callee (f := 21) rfl ?_); refine goesL_ (some 83) rfl rfl Try.func21 (by kernel_rfl) rfl #[.slice Ao84 t242.length co84, .int .i64 1] rfl zq3 ?_; (with_reducible refine (laws_markInt64S.calls kj54 (fun k_ => some k_ = (.slice Ao84 t242.length co84 : Value).ownBlock) (.slice Ao84 t242.length co84) t242 1 t268 t269 w _ ?side1 ?side2 A76.out).mono ?_); (case side1 => repeat (first | (with_reducible first | exact HB.out | apply below_alloc | apply pw_below_drewN | apply below_drew1 | refine below_set ?_ GE211.out | refine below_set ?_ GE238.out) | exact HB.out)); (case side2 => exact Kd.R_tight rfl HO_10.out); rintro e w85 ⟨rfl, hy0, hb, hkp⟩; refine ⟨_, rfl, ?_⟩; have n0_ := Aside0.mk (Kd.R_mono (ok' := fun k_ => some k_ ≠ (.slice Ao84 t242.length co84 : Value).ownBlock ∧ some k_ ≠ (.slice Ao31 t262.length co31 : Value).ownBlock ∧ some k_ ≠ (.slice Ao34 t263.length co34 : Value).ownBlock ∧ some k_ ≠ (.slice Ao35 t264.length co35 : Value).ownBlock) (Kd.R_keptB (HO_6.out) hkp (fun k_ hk_ hs_ => (hk_.1) hs_)) (fun k_ hk_ => ⟨hk_.1.1, hk_.1.2.1, hk_.1.2.2.1, hk_.1.2.2.2⟩)); have n1_ := Aside0.mk (Kd.R_reok rfl hy0 (fun k_ e_ => HO_10.out.1 k_ e_)); have n2_ := Aside0.mk (Kd.R_mono (ok' := fun k_ => some k_ ≠ (v226 : Value).ownBlock ∧ some k_ ≠ (.slice Ao84 t242.length co84 : Value).ownBlock ∧ some k_ ≠ (.slice Ao34 t263.length co34 : Value).ownBlock ∧ some k_ ≠ (.slice Ao35 t264.length co35 : Value).ownBlock) (Kd.R_keptB (HO_239000.out) hkp (fun k_ hk_ hs_ => (hk_.2.1) hs_)) (fun k_ hk_ => ⟨hk_.1.1, hk_.1.2.1, hk_.1.2.2.1, hk_.1.2.2.2⟩)); have n3_ := Aside0.mk (Kd.R_mono (ok' := fun k_ => some k_ ≠ (v226 : Value).ownBlock ∧ some k_ ≠ (.slice Ao84 t242.length co84 : Value).ownBlock ∧ some k_ ≠ (.slice Ao31 t262.length co31 : Value).ownBlock ∧ some k_ ≠ (.slice Ao35 t264.length co35 : Value).ownBlock) (Kd.R_keptB (HO_239001.out) hkp (fun k_ hk_ hs_ => (hk_.2.1) hs_)) (fun k_ hk_ => ⟨hk_.1.1, hk_.1.2.1, hk_.1.2.2.1, hk_.1.2.2.2⟩)); have n4_ := Aside0.mk (Kd.R_mono (ok' := fun k_ => some k_ ≠ (v226 : Value).ownBlock ∧ some k_ ≠ (.slice Ao84 t242.length co84 : Value).ownBlock ∧ some k_ ≠ (.slice Ao31 t262.length co31 : Value).ownBlock ∧ some k_ ≠ (.slice Ao34 t263.length co34 : Value).ownBlock) (Kd.R_keptB (HO_239002.out) hkp (fun k_ hk_ hs_ => (hk_.2.1) hs_)) (fun k_ hk_ => ⟨hk_.1.1, hk_.1.2.1, hk_.1.2.2.1, hk_.1.2.2.2⟩)); have n5_ := Aside0.mk (blk_kept zq13 hkp (fun hs_ => (fun e_ => (Kd.R_ne HO_10.out BK211.out (by decide)) e_) hs_)); have n6_ := Aside0.mk (blk_kept zq14 hkp (fun hs_ => (fun e_ => (Kd.R_ne HO_10.out BK238.out (by decide)) e_) hs_)); have n7_ := Aside0.mk (hb); clear HO_6; clear HO_10; clear HO_239000; clear HO_239001; clear HO_239002; clear BK211; clear BK238; clear HB; have HO_6 := n0_; have HO_10 := n1_; have HO_239000 := n2_; have HO_239001 := n3_; have HO_239002 := n4_; have BK211 := n5_; have BK238 := n6_; have HB := n7_; clear n0_ n1_ n2_ n3_ n4_ n5_ n6_ n7_; (try clear hb); (try clear hkp); (try clear hy0)) | ((with_reducible refine gate_callee (f := 22) rfl ?_); refine goesL_ (some 86) rfl rfl Try.func22 (by kernel_rfl) rfl #[.slice Ao84 t269.length co84, .int .i64 1] rfl (by (try simp only [List.map_toArray, List.map_cons, List.map_nil]); first | done | (rw [show t269.length = t242.length from (Kd.R_reads' HO_10.out).1.symm] <;> rfl) | rfl | (simp only [List.length_drop, List.length_take]; rfl)) ?_; (with_reducible refine (laws_heldInt64S.calls kj54 _ _ t269 1 t270 _ ?side1 ?side2 A77.out).mono ?_); (case side1 => repeat (first | exact (Kd.R_reads' HO_10.out).2.2 | (with_reducible refine Kd.C_alloc ?_ _) | (with_reducible refine Kd.C_drewN ?_ _) | (with_reducible refine Kd.C_drew ?_))); (case side2 => rw [show t269.length = t242.length from (Kd.R_reads' HO_10.out).1.symm]; exact (Kd.R_reads' HO_10.out).2.1); rintro e w' ⟨rfl, ⟨nd, rfl⟩⟩; refine ⟨_, rfl, ?_⟩; have hnb86 := NB211_238.out; have hnc86 := NB238_211.out; have hcz87_0 : w85.cell? ⟨gb211, 0, none⟩ = some (.slice A0_0 l0_0.length c0_0) := (blk_cell BK211.out 0).trans rfl; have hcz87_1 : w85.cell? ⟨gb211, 1, none⟩ = some (.slice A0_1 l0_1.length c0_1) := (blk_cell BK211.out 1).trans rfl; have hcz87_2 : w85.cell? ⟨gb211, 2, none⟩ = some (.slice A0_2 l0_2.length c0_2) := (blk_cell BK211.out 2).trans rfl; have hfz87_0 := blk_frozen BK211.out 0; have hfz87_1 := blk_frozen BK211.out 1; have hfz87_2 := blk_frozen BK211.out 2) | ((with_reducible refine gate_callee (f := 15) rfl ?_); refine goesL_ (some 94) rfl rfl Try.func15 (by kernel_rfl) rfl #[.agg #[.slice A0_0 l0_0.length c0_0, .slice A0_1 l0_1.length c0_1, .slice A0_2 l0_2.length c0_2]] rfl zq3 ?_; (with_reducible refine (laws_toJobs.calls kj54 _ _ l0_0 _ _ l0_1 _ _ l0_2 t271 t274 t277 _ ?side1 ?side2 ?side3 ?side4 ?side5 ?side6 A80.out).mono ?_); (case side1 => repeat (first | exact (Kd.C_below HR0_0.out zq0) | (with_reducible refine Kd.C_alloc ?_ _) | (with_reducible refine Kd.C_drewN ?_ _) | (with_reducible refine Kd.C_drew ?_))); (case side2 => exact HC0_0.out); (case side3 => repeat (first | exact (Kd.C_below HR0_1.out zq0) | (with_reducible refine Kd.C_alloc ?_ _) | (with_reducible refine Kd.C_drewN ?_ _) | (with_reducible refine Kd.C_drew ?_))); (case side4 => exact HC0_1.out); (case side5 => repeat (first | exact (Kd.C_below HR0_2.out zq0) | (with_reducible refine Kd.C_alloc ?_ _) | (with_reducible refine Kd.C_drewN ?_ _) | (with_reducible refine Kd.C_drew ?_))); (case side6 => exact HC0_2.out); rintro e w88 ⟨v272, v275, v278, rfl, ho0, ho1, ho2, hb⟩; refine ⟨_, rfl, ?_⟩; have n0_ := Aside0.mk (Kd.R_mono (Kd.R_told (Kd.R_told (Kd.R_told (Kd.R_old zq27 hb) (Kd.R_base ho0)) (Kd.R_base ho1)) (Kd.R_base ho2)) (fun _ h_ => h_.1)); have n1_ := Aside0.mk (Kd.R_mono (Kd.R_told (Kd.R_told (Kd.R_told (Kd.R_old zq23 hb) (Kd.R_base ho0)) (Kd.R_base ho1)) (Kd.R_base ho2)) (fun _ h_ => h_.1)); have n2_ := Aside0.mk (Kd.R_mono (Kd.R_told (Kd.R_told (Kd.R_told (Kd.R_old zq15 hb) (Kd.R_base ho0)) (Kd.R_base ho1)) (Kd.R_base ho2)) (fun _ h_ => h_.1)); have n3_ := Aside0.mk (Kd.R_mono (Kd.R_told (Kd.R_told (Kd.R_told (Kd.R_old zq16 hb) (Kd.R_base ho0)) (Kd.R_base ho1)) (Kd.R_base ho2)) (fun _ h_ => h_.1)); have n4_ := Aside0.mk (Kd.R_mono (Kd.R_told (Kd.R_told (Kd.R_told (Kd.R_old zq17 hb) (Kd.R_base ho0)) (Kd.R_base ho1)) (Kd.R_base ho2)) (fun _ h_ => h_.1)); have n5_ := Aside0.mk (Kd.R_lower (Kd.R_new' (Kd.R_new' (Kd.R_new' (Kd.R_new' (Kd.R_new' ho0 (Kd.R_lt zq27)) (Kd.R_lt zq23)) (Kd.R_lt zq15)) (Kd.R_lt zq16)) (Kd.R_lt zq17)) (below_size zq0)); have n6_ := Aside0.mk (Kd.R_lower (Kd.R_new' (Kd.R_new' (Kd.R_new' (Kd.R_new' (Kd.R_new' ho1 (Kd.R_lt zq27)) (Kd.R_lt zq23)) (Kd.R_lt zq15)) (Kd.R_lt zq16)) (Kd.R_lt zq17)) (below_size zq0)); have n7_ := Aside0.mk (Kd.R_lower (Kd.R_new' (Kd.R_new' (Kd.R_new' (Kd.R_new' (Kd.R_new' ho2 (Kd.R_lt zq27)) (Kd.R_lt zq23)) (Kd.R_lt zq15)) (Kd.R_lt zq16)) (Kd.R_lt zq17)) (below_size zq0)); have n8_ := Aside0.mk (blk_below (g := gb211) (o := .cells #[.slice A0_0 l0_0.length c0_0, .slice A0_1 l0_1.length c0_1, .slice A0_2 l0_2.length c0_2] 24 (0, 0)) zq13 hb); have n9_ := Aside0.mk (blk_below (g := gb238) (o := .cells #[.slice Ao31 t262.length co31, .slice Ao34 t263.length co34, .slice Ao35 t264.length co35] 28 (0, 0)) zq14 hb); have n10_ := Aside0.mk (below_step zq0 hb); clear HO_6; clear HO_10; clear HO_239000; clear HO_239001; clear HO_239002; clear BK211; clear BK238; clear HB; have HO_6 := n0_; have HO_10 := n1_; have HO_239000 := n2_; have HO_239001 := n3_; have HO_239002 := n4_; have HO273 := n5_; have HO276 := n6_; have HO279 := n7_; have BK211 := n8_; have BK238 := n9_; have HB := n10_; clear n0_ n1_ n2_ n3_ n4_ n5_ n6_ n7_ n8_ n9_ n10_; (try clear hb); (try clear hb2); (try clear hk); (try clear hi); (try clear ho0); (try clear ho1); (try clear ho2)) | ((with_reducible refine gate_callee (f := 16) rfl ?_); refine goesL_ (some 96) rfl rfl Try.func16 (by kernel_rfl) rfl #[.slice A1 l1.length c1] rfl zq3 ?_; (with_reducible refine (laws_toInt64S.calls kj54 _ _ l1 t280 _ ?side1 ?side2 A81.out).mono ?_); (case side1 => repeat (first | exact (Kd.C_below HR1.out HB.out) | (with_reducible refine Kd.C_alloc ?_ _) | (with_reducible refine Kd.C_drewN ?_ _) | (with_reducible refine Kd.C_drew ?_))); (case side2 => exact HC1.out); rintro e w89 ⟨v281, rfl, ho0, hb⟩; refine ⟨_, rfl, ?_⟩; have n0_ := Aside0.mk (Kd.R_elder' zq27 (Kd.R_base ho0) hb); have n1_ := Aside0.mk (Kd.R_elder' zq23 (Kd.R_base ho0) hb); have n2_ := Aside0.mk (Kd.R_elder' zq15 (Kd.R_base ho0) hb); have n3_ := Aside0.mk (Kd.R_elder' zq16 (Kd.R_base ho0) hb); have n4_ := Aside0.mk (Kd.R_elder' zq17 (Kd.R_base ho0) hb); have n5_ := Aside0.mk (Kd.R_elder' zq24 (Kd.R_base ho0) hb); have n6_ := Aside0.mk (Kd.R_elder' zq25 (Kd.R_base ho0) hb); have n7_ := Aside0.mk (Kd.R_elder' zq26 (Kd.R_base ho0) hb); have n8_ := Aside0.mk (Kd.R_lower (Kd.R_new' (Kd.R_new' (Kd.R_new' (Kd.R_new' (Kd.R_new' (Kd.R_new' (Kd.R_new' (Kd.R_new' ho0 (Kd.R_lt zq27)) (Kd.R_lt zq23)) (Kd.R_lt zq15)) (Kd.R_lt zq16)) (Kd.R_lt zq17)) (Kd.R_lt zq24)) (Kd.R_lt zq25)) (Kd.R_lt zq26)) (below_size zq0)); have n9_ := Aside0.mk (blk_below (g := gb211) (o := .cells #[.slice A0_0 l0_0.length c0_0, .slice A0_1 l0_1.length c0_1, .slice A0_2 l0_2.length c0_2] 24 (0, 0)) zq13 hb); have n10_ := Aside0.mk (blk_below (g := gb238) (o := .cells #[.slice Ao31 t262.length co31, .slice Ao34 t263.length co34, .slice Ao35 t264.length co35] 28 (0, 0)) zq14 hb); have n11_ := Aside0.mk (below_step zq0 hb); clear HO_6; clear HO_10; clear HO_239000; clear HO_239001; clear HO_239002; clear HO273; clear HO276; clear HO279; clear BK211; clear BK238; clear HB; have HO_6 := n0_; have HO_10 := n1_; have HO_239000 := n2_; have HO_239001 := n3_; have HO_239002 := n4_; have HO273 := n5_; have HO276 := n6_; have HO279 := n7_; have HO282 := n8_; have BK211 := n9_; have BK238 := n10_; have HB := n11_; clear n0_ n1_ n2_ n3_ n4_ n5_ n6_ n7_ n8_ n9_ n10_ n11_; (try clear hb); (try clear hb2); (try clear hk); (try clear hi); (try clear ho0); obtain ⟨Ao90, co90, eo90⟩ := Kd.R_slice HO273.out; subst eo90; obtain ⟨Ao91, co91, eo91⟩ := Kd.R_slice HO276.out; subst eo91; obtain ⟨Ao92, co92, eo92⟩ := Kd.R_slice HO279.out; subst eo92; obtain ⟨Ao93, co93, eo93⟩ := Kd.R_slice HO282.out; subst eo93) | ((with_reducible refine gate_callee (f := 17) rfl ?_); refine goesL_ (some 97) rfl rfl Try.func17 (by kernel_rfl) rfl #[.agg #[.slice Ao90 t271.length co90, .slice Ao91 t274.length co91, .slice Ao92 t277.length co92], .slice Ao93 t280.length co93] rfl zq3 ?_; (with_reducible refine (impl_AnswersOf.calls kj54 _ _ t271 _ _ t274 _ _ t277 _ _ t280 t283 t286 _ ?side1 ?side2 ?side3 ?side4 ?side5 ?side6 ?side7 ?side8 A82.out).mono ?_); (case side1 => repeat (first | exact (Kd.R_reads' HO273.out).2.2 | (with_reducible refine Kd.C_alloc ?_ _) | (with_reducible refine Kd.C_drewN ?_ _) | (with_reducible refine Kd.C_drew ?_))); (case side2 => exact (Kd.R_reads' HO273.out).2.1); (case side3 => repeat (first | exact (Kd.R_reads' HO276.out).2.2 | (with_reducible refine Kd.C_alloc ?_ _) | (with_reducible refine Kd.C_drewN ?_ _) | (with_reducible refine Kd.C_drew ?_))); (case side4 => exact (Kd.R_reads' HO276.out).2.1); (case side5 => repeat (first | exact (Kd.R_reads' HO279.out).2.2 | (with_reducible refine Kd.C_alloc ?_ _) | (with_reducible refine Kd.C_drewN ?_ _) | (with_reducible refine Kd.C_drew ?_))); (case side6 => exact (Kd.R_reads' HO279.out).2.1); (case side7 => repeat (first | exact (Kd.R_reads' HO282.out).2.2 | (with_reducible refine Kd.C_alloc ?_ _) | (with_reducible refine Kd.C_drewN ?_ _) | (with_reducible refine Kd.C_drew ?_))); (case side8 => exact (Kd.R_reads' HO282.out).2.1); rintro e w94 ⟨v284, rfl, ho0, hb⟩; refine ⟨_, rfl, ?_⟩; have n0_ := Aside0.mk (Kd.R_elder' zq27 (Kd.R_base ho0) hb); have n1_ := Aside0.mk (Kd.R_elder' zq23 (Kd.R_base ho0) hb); have n2_ := Aside0.mk (Kd.R_elder' zq15 (Kd.R_base ho0) hb); have n3_ := Aside0.mk (Kd.R_elder' zq16 (Kd.R_base ho0) hb); have n4_ := Aside0.mk (Kd.R_elder' zq17 (Kd.R_base ho0) hb); have n5_ := Aside0.mk (Kd.R_elder' zq24 (Kd.R_base ho0) hb); have n6_ := Aside0.mk (Kd.R_elder' zq25 (Kd.R_base ho0) hb); have n7_ := Aside0.mk (Kd.R_elder' zq26 (Kd.R_base ho0) hb); have n8_ := Aside0.mk (Kd.R_elder' (by (with_reducible repeat (first | apply Kd.R_alloc | apply Kd.R_drewN | apply Kd.R_drew)); exact HO282.out) (Kd.R_base ho0) hb); have n9_ := Aside0.mk (Kd.R_lower (Kd.R_new' (Kd.R_new' (Kd.R_new' (Kd.R_new' (Kd.R_new' (Kd.R_new' (Kd.R_new' (Kd.R_new' (Kd.R_new' ho0 (Kd.R_lt zq27)) (Kd.R_lt zq23)) (Kd.R_lt zq15)) (Kd.R_lt zq16)) (Kd.R_lt zq17)) (Kd.R_lt zq24)) (Kd.R_lt zq25)) (Kd.R_lt zq26)) (Kd.R_lt (by (with_reducible repeat (first | apply Kd.R_alloc | apply Kd.R_drewN | apply Kd.R_drew)); exact HO282.out))) (below_size zq0)); have n10_ := Aside0.mk (blk_below (g := gb211) (o := .cells #[.slice A0_0 l0_0.length c0_0, .slice A0_1 l0_1.length c0_1, .slice A0_2 l0_2.length c0_2] 24 (0, 0)) zq13 hb); have n11_ := Aside0.mk (blk_below (g := gb238) (o := .cells #[.slice Ao31 t262.length co31, .slice Ao34 t263.length co34, .slice Ao35 t264.length co35] 28 (0, 0)) zq14 hb); have n12_ := Aside0.mk (below_step zq0 hb); clear HO_6; clear HO_10; clear HO_239000; clear HO_239001; clear HO_239002; clear HO273; clear HO276; clear HO279; clear HO282; clear BK211; clear BK238; clear HB; have HO_6 := n0_; have HO_10 := n1_; have HO_239000 := n2_; have HO_239001 := n3_; have HO_239002 := n4_; have HO273 := n5_; have HO276 := n6_; have HO279 := n7_; have HO282 := n8_; have HO285 := n9_; have BK211 := n10_; have BK238 := n11_; have HB := n12_; clear n0_ n1_ n2_ n3_ n4_ n5_ n6_ n7_ n8_ n9_ n10_ n11_ n12_; (try clear hb); (try clear hb2); (try clear hk); (try clear hi); (try clear ho0)))
      (try simp only [Act.put, List.setIfInBounds_toArray, List.set_cons_zero, List.set_cons_succ])
      go_cut [108] (fun v108 wc => ∃ (kq : Nat) (x108_82 : Bool), v108 = .bool x108_82 ∧ Aside0 (laws_FnExactAnswersOf.j2 kq t269 t268 x108_82 = some r) ∧ Aside0 (kq ≤ kj54) ∧ Aside0 (Kd.R (Kd.int .i64) 2 wc w.heap.size (fun k_ => some k_ ≠ ((.slice Ao31 t262.length co31) : Value).ownBlock ∧ some k_ ≠ ((.slice Ao34 t263.length co34) : Value).ownBlock ∧ some k_ ≠ ((.slice Ao35 t264.length co35) : Value).ownBlock) (.slice Ao84 t242.length co84) t269) ∧ Aside0 (Kd.R (Kd.int .i64) 2 wc w.heap.size (fun k_ => some k_ ≠ ((.slice Ao84 t242.length co84) : Value).ownBlock ∧ some k_ ≠ ((.slice Ao34 t263.length co34) : Value).ownBlock ∧ some k_ ≠ ((.slice Ao35 t264.length co35) : Value).ownBlock) (.slice Ao31 t262.length co31) t262) ∧ Aside0 (Kd.R (Kd.int .i64) 2 wc w.heap.size (fun k_ => some k_ ≠ ((.slice Ao84 t242.length co84) : Value).ownBlock ∧ some k_ ≠ ((.slice Ao31 t262.length co31) : Value).ownBlock ∧ some k_ ≠ ((.slice Ao35 t264.length co35) : Value).ownBlock) (.slice Ao34 t263.length co34) t263) ∧ Aside0 (Kd.R (Kd.int .i64) 2 wc w.heap.size (fun k_ => some k_ ≠ ((.slice Ao84 t242.length co84) : Value).ownBlock ∧ some k_ ≠ ((.slice Ao31 t262.length co31) : Value).ownBlock ∧ some k_ ≠ ((.slice Ao34 t263.length co34) : Value).ownBlock) (.slice Ao35 t264.length co35) t264) ∧ Aside0 (wc.heap[gb211]? = some (.cells #[(.slice A0_0 l0_0.length c0_0), (.slice A0_1 l0_1.length c0_1), (.slice A0_2 l0_2.length c0_2)] 24 (0, 0))) ∧ Aside0 (wc.heap[gb238]? = some (.cells #[(.slice Ao31 t262.length co31), (.slice Ao34 t263.length co34), (.slice Ao35 t264.length co35)] 28 (0, 0))) ∧ Aside0 (Below w.heap.size w wc))
      case first =>
        have H := HC83.out
        clear HC83
        replace H := Option.bind_eq_some_iff.mp H
        obtain ⟨t287, A950, H⟩ := H
        replace H : (if t287 = true then (laws_FnExactAnswersOf.j2 kj54 t269 t268 (t286 != t228)) else (laws_FnExactAnswersOf.j2 kj54 t269 t268 true)) = some r := H
        have A95 := Aside0.mk A950
        clear A950
        by_cases c96 : t287 = true
        · subst c96
          have H1 : (laws_FnExactAnswersOf.j2 kj54 t269 t268 (t286 != t228)) = some r := by rw [if_pos rfl] at H; exact H
          clear H
          have H := H1
          clear H1
          have H' := Aside0.mk H
          clear H
          obtain ⟨Ao97, co97, eo97⟩ := Kd.R_slice HO285.out
          subst eo97
          obtain ⟨Ao98, co98, eo98⟩ := Kd.R_slice HO_6.out
          subst eo98
          go_wp2_with (first | ((with_reducible refine gate_callee (f := 18) rfl ?_); refine goesL_ (some 102) rfl rfl Try.func18 (by kernel_rfl) rfl #[.slice Ao97 t283.length co97, .slice Ao98 t225.length co98] rfl zq3 ?_; (with_reducible refine (laws_eqInt64S.calls kj54 _ _ t283 _ _ t225 true _ ?side1 ?side2 ?side3 ?side4 A95.out).mono ?_); (case side1 => repeat (first | exact (Kd.R_reads' HO285.out).2.2 | (with_reducible refine Kd.C_alloc ?_ _) | (with_reducible refine Kd.C_drewN ?_ _) | (with_reducible refine Kd.C_drew ?_))); (case side2 => exact (Kd.R_reads' HO285.out).2.1); (case side3 => repeat (first | exact (Kd.R_reads' HO_6.out).2.2 | (with_reducible refine Kd.C_alloc ?_ _) | (with_reducible refine Kd.C_drewN ?_ _) | (with_reducible refine Kd.C_drew ?_))); (case side4 => exact (Kd.R_reads' HO_6.out).2.1); rintro e w' ⟨rfl, ⟨nd, rfl⟩⟩; refine ⟨_, rfl, ?_⟩))
          go_meet
          case rel => exact ⟨_, ((t286 != t228)), zq30, H', ⟨by have := HJ15.out; have := HJ54.out; first | omega | exact Nat.le_refl _⟩, ⟨by (try simp only [hl239000_54]); (try simp only [hl239001_54]); (try simp only [hl239002_54]); (with_reducible repeat (first | apply Kd.R_alloc | apply Kd.R_drewN | apply Kd.R_drew)); exact Kd.R_mono HO_10.out (fun _ hk => ⟨hk.1.1.1.1.1.2.1, ⟨hk.1.1.1.1.1.2.2.1, hk.1.1.1.1.1.2.2.2⟩⟩)⟩, ⟨by (try simp only [hl239000_54]); (try simp only [hl239001_54]); (try simp only [hl239002_54]); (with_reducible repeat (first | apply Kd.R_alloc | apply Kd.R_drewN | apply Kd.R_drew)); exact Kd.R_mono HO_239000.out (fun _ hk => ⟨hk.1.1.1.1.1.2.1, ⟨hk.1.1.1.1.1.2.2.1, hk.1.1.1.1.1.2.2.2⟩⟩)⟩, ⟨by (try simp only [hl239000_54]); (try simp only [hl239001_54]); (try simp only [hl239002_54]); (with_reducible repeat (first | apply Kd.R_alloc | apply Kd.R_drewN | apply Kd.R_drew)); exact Kd.R_mono HO_239001.out (fun _ hk => ⟨hk.1.1.1.1.1.2.1, ⟨hk.1.1.1.1.1.2.2.1, hk.1.1.1.1.1.2.2.2⟩⟩)⟩, ⟨by (try simp only [hl239000_54]); (try simp only [hl239001_54]); (try simp only [hl239002_54]); (with_reducible repeat (first | apply Kd.R_alloc | apply Kd.R_drewN | apply Kd.R_drew)); exact Kd.R_mono HO_239002.out (fun _ hk => ⟨hk.1.1.1.1.1.2.1, ⟨hk.1.1.1.1.1.2.2.1, hk.1.1.1.1.1.2.2.2⟩⟩)⟩, ⟨by (try simp only [hl239000_54]); (try simp only [hl239001_54]); (try simp only [hl239002_54]); (with_reducible repeat (first | refine blk_drewN ?_ _ | refine blk_drew ?_ | refine blk_alloc ?_ _)); exact BK211.out⟩, ⟨by (try simp only [hl239000_54]); (try simp only [hl239001_54]); (try simp only [hl239002_54]); (with_reducible repeat (first | refine blk_drewN ?_ _ | refine blk_drew ?_ | refine blk_alloc ?_ _)); exact BK238.out⟩, ⟨by repeat (first | (with_reducible first | exact HB.out | apply below_alloc | apply pw_below_drewN | apply below_drew1 | refine below_set ?_ GE211.out | refine below_set ?_ GE238.out) | exact HB.out)⟩⟩
        replace c96 := Bool.eq_false_iff.mpr c96
        subst c96
        have H1 : (laws_FnExactAnswersOf.j2 kj54 t269 t268 true) = some r := by rw [if_neg (show ¬ (false = true) by decide)] at H; exact H
        clear H
        have H := H1
        clear H1
        have H' := Aside0.mk H
        clear H
        obtain ⟨Ao99, co99, eo99⟩ := Kd.R_slice HO285.out
        subst eo99
        obtain ⟨Ao100, co100, eo100⟩ := Kd.R_slice HO_6.out
        subst eo100
        go_wp2_with (first | ((with_reducible refine gate_callee (f := 18) rfl ?_); refine goesL_ (some 102) rfl rfl Try.func18 (by kernel_rfl) rfl #[.slice Ao99 t283.length co99, .slice Ao100 t225.length co100] rfl zq3 ?_; (with_reducible refine (laws_eqInt64S.calls kj54 _ _ t283 _ _ t225 false _ ?side1 ?side2 ?side3 ?side4 A95.out).mono ?_); (case side1 => repeat (first | exact (Kd.R_reads' HO285.out).2.2 | (with_reducible refine Kd.C_alloc ?_ _) | (with_reducible refine Kd.C_drewN ?_ _) | (with_reducible refine Kd.C_drew ?_))); (case side2 => exact (Kd.R_reads' HO285.out).2.1); (case side3 => repeat (first | exact (Kd.R_reads' HO_6.out).2.2 | (with_reducible refine Kd.C_alloc ?_ _) | (with_reducible refine Kd.C_drewN ?_ _) | (with_reducible refine Kd.C_drew ?_))); (case side4 => exact (Kd.R_reads' HO_6.out).2.1); rintro e w' ⟨rfl, ⟨nd, rfl⟩⟩; refine ⟨_, rfl, ?_⟩))
        go_meet
        case rel => exact ⟨_, (true), zq30, H', ⟨by have := HJ15.out; have := HJ54.out; first | omega | exact Nat.le_refl _⟩, ⟨by (try simp only [hl239000_54]); (try simp only [hl239001_54]); (try simp only [hl239002_54]); (with_reducible repeat (first | apply Kd.R_alloc | apply Kd.R_drewN | apply Kd.R_drew)); exact Kd.R_mono HO_10.out (fun _ hk => ⟨hk.1.1.1.1.1.2.1, ⟨hk.1.1.1.1.1.2.2.1, hk.1.1.1.1.1.2.2.2⟩⟩)⟩, ⟨by (try simp only [hl239000_54]); (try simp only [hl239001_54]); (try simp only [hl239002_54]); (with_reducible repeat (first | apply Kd.R_alloc | apply Kd.R_drewN | apply Kd.R_drew)); exact Kd.R_mono HO_239000.out (fun _ hk => ⟨hk.1.1.1.1.1.2.1, ⟨hk.1.1.1.1.1.2.2.1, hk.1.1.1.1.1.2.2.2⟩⟩)⟩, ⟨by (try simp only [hl239000_54]); (try simp only [hl239001_54]); (try simp only [hl239002_54]); (with_reducible repeat (first | apply Kd.R_alloc | apply Kd.R_drewN | apply Kd.R_drew)); exact Kd.R_mono HO_239001.out (fun _ hk => ⟨hk.1.1.1.1.1.2.1, ⟨hk.1.1.1.1.1.2.2.1, hk.1.1.1.1.1.2.2.2⟩⟩)⟩, ⟨by (try simp only [hl239000_54]); (try simp only [hl239001_54]); (try simp only [hl239002_54]); (with_reducible repeat (first | apply Kd.R_alloc | apply Kd.R_drewN | apply Kd.R_drew)); exact Kd.R_mono HO_239002.out (fun _ hk => ⟨hk.1.1.1.1.1.2.1, ⟨hk.1.1.1.1.1.2.2.1, hk.1.1.1.1.1.2.2.2⟩⟩)⟩, ⟨by (try simp only [hl239000_54]); (try simp only [hl239001_54]); (try simp only [hl239002_54]); (with_reducible repeat (first | refine blk_drewN ?_ _ | refine blk_drew ?_ | refine blk_alloc ?_ _)); exact BK211.out⟩, ⟨by (try simp only [hl239000_54]); (try simp only [hl239001_54]); (try simp only [hl239002_54]); (with_reducible repeat (first | refine blk_drewN ?_ _ | refine blk_drew ?_ | refine blk_alloc ?_ _)); exact BK238.out⟩, ⟨by repeat (first | (with_reducible first | exact HB.out | apply below_alloc | apply pw_below_drewN | apply below_drew1 | refine below_set ?_ GE211.out | refine below_set ?_ GE238.out) | exact HB.out)⟩⟩
      clear HC83
      try clear c1
      try clear c2
      try clear p2
      try clear c3
      try clear c3b0
      try clear c3b1
      try clear c4
      try clear c5
      try clear c6
      try clear c6b0
      try clear c7
      try clear c8
      try clear c9
      try clear c13
      try clear c14
      try clear c15
      try clear c16
      try clear c17
      try clear c18
      try clear c19
      try clear c20
      try clear c21
      try clear c22
      try clear c32
      try clear c41
      try clear c46
      try clear c49
      try clear c52
      try clear c64
      try clear c68
      try clear c68b0
      try clear c70
      try clear c75
      try clear c78
      try clear c78b0
      try clear c79
      try clear c79b0
      try clear c79b1
      try clear c86
      try clear c96
      try clear hcz18_0
      try clear hcz18_1
      try clear hcz18_2
      try clear hcz20_0
      try clear hcz20_1
      try clear hcz20_2
      try clear hcz28_0
      try clear hcz28_1
      try clear hcz28_2
      try clear hcz33_0
      try clear hcz33_1
      try clear hcz33_2
      try clear hcz37_0
      try clear hcz37_1
      try clear hcz37_2
      try clear hcz65_0
      try clear hcz65_1
      try clear hcz65_2
      try clear hcz87_0
      try clear hcz87_1
      try clear hcz87_2
      try clear hcz8_0
      try clear hcz8_1
      try clear hcz8_2
      try clear hfz18_0
      try clear hfz18_1
      try clear hfz18_2
      try clear hfz20_0
      try clear hfz20_1
      try clear hfz20_2
      try clear hfz28_0
      try clear hfz28_1
      try clear hfz28_2
      try clear hfz33_0
      try clear hfz33_1
      try clear hfz33_2
      try clear hfz37_0
      try clear hfz37_1
      try clear hfz37_2
      try clear hfz65_0
      try clear hfz65_1
      try clear hfz65_2
      try clear hfz87_0
      try clear hfz87_1
      try clear hfz87_2
      try clear hfz8_0
      try clear hfz8_1
      try clear hfz8_2
      try clear p2
      obtain ⟨kq, x108_82, rfl, HA, HJ82, HO_10, HO_239000, HO_239001, HO_239002, BK211, BK238, HB⟩ := hcut
      have hl10_82 := (Kd.R_reads' HO_10.out).1
      rw [hl10_82] at HO_10
      (try simp only [hl10_82])
      (try simp only [hl10_82] at BK211)
      (try simp only [hl10_82] at BK238)
      (try simp only [hl10_82] at HO_239000)
      (try simp only [hl10_82] at HO_239001)
      (try simp only [hl10_82] at HO_239002)
      cases kq with
      | zero => exact absurd HA.out (by simp [laws_FnExactAnswersOf.j2])
      | succ kj82 =>
        have H := HA.out
        clear HA
        simp only [laws_FnExactAnswersOf.j2] at H
        by_cases c101 : x108_82 = true
        · subst c101
          have H1 : (some false) = some r := by rw [if_pos rfl] at H; exact H
          clear H
          have H := H1
          clear H1
          rw [hr_.out] at H
          exact absurd H (by simp)
        replace c101 := Bool.eq_false_iff.mpr c101
        subst c101
        have H1 : ((laws_heldInt64S.f kj82 t269 1).bind fun t288 => (if t288 < 0 then (some false) else (if t288 = t268 then (some true) else (some false)))) = some r := by rw [if_neg (show ¬ (false = true) by decide)] at H; exact H
        clear H
        have H := H1
        clear H1
        replace H := Option.bind_eq_some_iff.mp H
        obtain ⟨t288, A1020, H⟩ := H
        replace H : (if t288 < 0 then (some false) else (if t288 = t268 then (some true) else (some false))) = some r := H
        have A102 := Aside0.mk A1020
        clear A1020
        by_cases c103 : t288 < 0
        · rw [if_pos c103] at H
          have c103b0 : decide (t288 < 0) = true := decide_eq_true c103
          clear c103
          rw [hr_.out] at H
          exact absurd H (by simp)
        rw [if_neg c103] at H
        have c103b0 : decide (t288 < 0) = false := decide_eq_false c103
        clear c103
        by_cases c104 : t288 = t268
        rotate_left
        · rw [if_neg c104] at H
          have c104b0 : (t288 == t268) = false := beq_eq_false_iff_ne.mpr c104
          have c104b1 : (t288 != t268) = true := bne_iff_ne.mpr c104
          rw [hr_.out] at H
          exact absurd H (by simp)
        rw [if_pos c104] at H
        have c104b0 : (t288 == t268) = true := beq_iff_eq.mpr c104
        have c104b1 : (t288 != t268) = false := bne_eq_false_iff_eq.mpr c104
        clear c104
        obtain rfl := Option.some.inj H
        go_wp2_with (first | ((with_reducible refine gate_callee (f := 22) rfl ?_); refine goesL_ (some 111) rfl rfl Try.func22 (by kernel_rfl) rfl #[.slice Ao84 t269.length co84, .int .i64 1] rfl zq3 ?_; (with_reducible refine (laws_heldInt64S.calls kj82 _ _ t269 1 t288 _ ?side1 ?side2 A102.out).mono ?_); (case side1 => repeat (first | exact (Kd.R_reads' HO_10.out).2.2 | (with_reducible refine Kd.C_alloc ?_ _) | (with_reducible refine Kd.C_drewN ?_ _) | (with_reducible refine Kd.C_drew ?_))); (case side2 => exact (Kd.R_reads' HO_10.out).2.1); rintro e w' ⟨rfl, ⟨nd, rfl⟩⟩; refine ⟨_, rfl, ?_⟩))
        go_ret
        exact ⟨by first | rfl | (simp [errW_none, errW_some] <;> rfl) | (simp [*, errW_none, errW_some] <;> rfl), by repeat (first | (with_reducible first | exact HB.out | apply below_alloc | apply pw_below_drewN | apply below_drew1 | refine below_set ?_ GE211.out | refine below_set ?_ GE238.out) | exact HB.out)⟩
/-- THE ONE PURE STATEMENT of laws_FnExactAnswersOf. -/
def laws_FnExactAnswersOf.Pure : Prop := ∀ (l0_0 : List Int) (l0_1 : List Int) (l0_2 : List Int) (l1 : List Int), l0_0.length ≤ maxLen → l0_0.length * 8 ≤ 140737488351232 → (∀ x ∈ l0_0, (Lit.int .i64 x).wf = true) → l0_1.length ≤ maxLen → l0_1.length * 8 ≤ 140737488351232 → (∀ x ∈ l0_1, (Lit.int .i64 x).wf = true) → l0_2.length ≤ maxLen → l0_2.length * 8 ≤ 140737488351232 → (∀ x ∈ l0_2, (Lit.int .i64 x).wf = true) → l1.length ≤ maxLen → l1.length * 8 ≤ 140737488351232 → (∀ x ∈ l1, (Lit.int .i64 x).wf = true) → ∃ k, laws_FnExactAnswersOf.f k l0_0 l0_1 l0_2 l1 = some true
theorem laws_FnExactAnswersOf.walk (P : laws_FnExactAnswersOf.Pure) (a0_0 : Option Addr) (len0_0 cap0_0 : Nat) (z0_0 : List Int) (a0_1 : Option Addr) (len0_1 cap0_1 : Nat) (z0_1 : List Int) (a0_2 : Option Addr) (len0_2 cap0_2 : Nat) (z0_2 : List Int) (a1 : Option Addr) (len1 cap1 : Nat) (z1 : List Int) (w : World) (w0_0 : (a0_0 = none ∧ len0_0 = 0 ∧ cap0_0 = 0 ∧ z0_0 = []) ∨ ∃ x, a0_0 = some x ∧ len0_0 ≤ cap0_0 ∧ cap0_0 ≤ maxLen ∧ z0_0.length = cap0_0 ∧ (∀ i, i < z0_0.length → w.cell? (x.add i) = some (.int .i64 (z0_0.getD i 0))) ∧ ∀ n ∈ z0_0, (Lit.int .i64 n).wf = true) (y0_0 : len0_0 * 8 ≤ 140737488351232) (w0_1 : (a0_1 = none ∧ len0_1 = 0 ∧ cap0_1 = 0 ∧ z0_1 = []) ∨ ∃ x, a0_1 = some x ∧ len0_1 ≤ cap0_1 ∧ cap0_1 ≤ maxLen ∧ z0_1.length = cap0_1 ∧ (∀ i, i < z0_1.length → w.cell? (x.add i) = some (.int .i64 (z0_1.getD i 0))) ∧ ∀ n ∈ z0_1, (Lit.int .i64 n).wf = true) (y0_1 : len0_1 * 8 ≤ 140737488351232) (w0_2 : (a0_2 = none ∧ len0_2 = 0 ∧ cap0_2 = 0 ∧ z0_2 = []) ∨ ∃ x, a0_2 = some x ∧ len0_2 ≤ cap0_2 ∧ cap0_2 ≤ maxLen ∧ z0_2.length = cap0_2 ∧ (∀ i, i < z0_2.length → w.cell? (x.add i) = some (.int .i64 (z0_2.getD i 0))) ∧ ∀ n ∈ z0_2, (Lit.int .i64 n).wf = true) (y0_2 : len0_2 * 8 ≤ 140737488351232) (w1 : (a1 = none ∧ len1 = 0 ∧ cap1 = 0 ∧ z1 = []) ∨ ∃ x, a1 = some x ∧ len1 ≤ cap1 ∧ cap1 ≤ maxLen ∧ z1.length = cap1 ∧ (∀ i, i < z1.length → w.cell? (x.add i) = some (.int .i64 (z1.getD i 0))) ∧ ∀ n ∈ z1, (Lit.int .i64 n).wf = true) (y1 : len1 * 8 ≤ 140737488351232) :
    Calls Try.prog 3 #[.agg #[.slice a0_0 len0_0 cap0_0, .slice a0_1 len0_1 cap0_1, .slice a0_2 len0_2 cap0_2], .slice a1 len1 cap1] w fun e w' => e = .returned (.bool true) ∧ Below w.heap.size w w' := by
  obtain ⟨l0_0, rfl, hr0_0, hm0_0, hw0_0, hc0_0⟩ := ReadsInt.ofRowC w0_0
  obtain ⟨l0_1, rfl, hr0_1, hm0_1, hw0_1, hc0_1⟩ := ReadsInt.ofRowC w0_1
  obtain ⟨l0_2, rfl, hr0_2, hm0_2, hw0_2, hc0_2⟩ := ReadsInt.ofRowC w0_2
  obtain ⟨l1, rfl, hr1, hm1, hw1, hc1⟩ := ReadsInt.ofRowC w1
  obtain ⟨k, h⟩ := P l0_0 l0_1 l0_2 l1 hm0_0 y0_0 hw0_0 hm0_1 y0_1 hw0_1 hm0_2 y0_2 hw0_2 hm1 y1 hw1
  refine (laws_FnExactAnswersOf.calls k _ _ l0_0 _ _ l0_1 _ _ l0_2 _ _ l1 true w (Kd.C_of_reads (d := (0 : Int)) (h1 := fun _ => rfl) hr0_0) hc0_0 (Kd.C_of_reads (d := (0 : Int)) (h1 := fun _ => rfl) hr0_1) hc0_1 (Kd.C_of_reads (d := (0 : Int)) (h1 := fun _ => rfl) hr0_2) hc0_2 (Kd.C_of_reads (d := (0 : Int)) (h1 := fun _ => rfl) hr1) hc1 h ⟨rfl⟩).mono ?_
  rintro e w' ⟨rfl, hd⟩
  exact ⟨rfl, hd⟩

end Go.Proofs.Ytmgdobiloapelaa.C
