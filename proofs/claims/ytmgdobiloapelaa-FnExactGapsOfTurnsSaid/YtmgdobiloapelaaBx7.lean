/- Written for this claim by a program of this session's own (pp.py), out of the translation; hand-made contracts among them. -/
import Derived.Test.YtmgdobiloapelaaBz
import Derived.Test.YtmgdobiloapelaaBx0
import Derived.Test.YtmgdobiloapelaaBx5
namespace Go.Proofs.Ytmgdobiloapelaa.B
open Go.RowKit Go.Proofs.YtmgdobiloapelaaW.PrintWords Go.Proofs.YtmgdobiloapelaaW.PrintLast Go.Proofs.YtmgdobiloapelaaW.PrintMore
attribute [local go_sem] max2_int min2_int max_two min_two max_three min_three max_four min_four   -- for this text's walks alone
set_option linter.unusedVariables false
set_option linter.unusedSimpArgs false

/-! ### impl_Jobs_earliest: function 112 -/
mutual
def impl_Jobs_earliest.l0 : Nat → List Int → List Int → List Int → Int → List Int → List Int → List Int → Option (List Int × Int)
  | 0, _, _, _, _, _, _, _ => none
  | k + 1, x4, x5, x6, x7, x218000, x218001, x218002 => impl_Jobs_earliest.l1 k x4 x5 x6 x7 (x4.length : Int) 0 x218000 x218001 x218002
def impl_Jobs_earliest.l1 : Nat → List Int → List Int → List Int → Int → Int → Int → List Int → List Int → List Int → Option (List Int × Int)
  | 0, _, _, _, _, _, _, _, _, _ => none
  | k + 1, x4, x5, x6, x7, x21, x22, x218000, x218001, x218002 => if x22 < x21 then (if 0 ≤ x22 then (if x22 < (x4.length : Int) then (if (rd x4 x22) > 0 then (if x22 < (x5.length : Int) then (if (rd x5 x22) ≤ x7 then (some (x6, x22)) else (impl_Jobs_earliest.l1 k x4 x5 x6 x7 x21 (wrap64 (x22 + 1)) x218000 x218001 x218002)) else (none)) else (impl_Jobs_earliest.l1 k x4 x5 x6 x7 x21 (wrap64 (x22 + 1)) x218000 x218001 x218002)) else (none)) else (none)) else ((impl_Jobs_whole.f k x218000 x218001 x218002).bind fun t228 => (if x7 = t228 then (some (x6, (-1))) else (impl_Jobs_earliest.l2 k x4 x5 x6 x7 (-1) x218001 (x218001.length : Int) 0 x218000 x218001 x218002)))
def impl_Jobs_earliest.l2 : Nat → List Int → List Int → List Int → Int → Int → List Int → Int → Int → List Int → List Int → List Int → Option (List Int × Int)
  | 0, _, _, _, _, _, _, _, _, _, _, _ => none
  | k + 1, x4, x5, x6, x7, x9, x47, x48, x49, x218000, x218001, x218002 => if x49 < x48 then (if 0 ≤ x49 then (if x49 < (x47.length : Int) then (if (rd x47 x49) = 0 then (none) else (if (Int.tmod x7 (rd x47 x49)) = 0 then (if x49 < (x218000.length : Int) then (if x49 < (x218002.length : Int) then (if x49 < (x4.length : Int) then ((some (x4.set (x49 : Int).toNat (rd x218000 x49) : List Int)).bind fun y240 => (if x49 < (x5.length : Int) then ((some (x5.set (x49 : Int).toNat (wrap64 (x7 + (rd x218002 x49))) : List Int)).bind fun y241 => (if (rd y240 x49) > 0 then (if x9 = (-1) then (impl_Jobs_earliest.l2 k y240 y241 x6 x7 x49 x47 x48 (wrap64 (x49 + 1)) x218000 x218001 x218002) else (if 0 ≤ x9 then (if x9 < (x5.length : Int) then (if (rd y241 x49) < (rd y241 x9) then (impl_Jobs_earliest.l2 k y240 y241 x6 x7 x49 x47 x48 (wrap64 (x49 + 1)) x218000 x218001 x218002) else (impl_Jobs_earliest.l2 k y240 y241 x6 x7 x9 x47 x48 (wrap64 (x49 + 1)) x218000 x218001 x218002)) else (none)) else (none))) else (impl_Jobs_earliest.l2 k y240 y241 x6 x7 x9 x47 x48 (wrap64 (x49 + 1)) x218000 x218001 x218002))) else (none))) else (none)) else (none)) else (none)) else (if x49 < (x4.length : Int) then (if (rd x4 x49) > 0 then (if x9 = (-1) then (impl_Jobs_earliest.l2 k x4 x5 x6 x7 x49 x47 x48 (wrap64 (x49 + 1)) x218000 x218001 x218002) else (if x49 < (x5.length : Int) then (if 0 ≤ x9 then (if x9 < (x5.length : Int) then (if (rd x5 x49) < (rd x5 x9) then (impl_Jobs_earliest.l2 k x4 x5 x6 x7 x49 x47 x48 (wrap64 (x49 + 1)) x218000 x218001 x218002) else (impl_Jobs_earliest.l2 k x4 x5 x6 x7 x9 x47 x48 (wrap64 (x49 + 1)) x218000 x218001 x218002)) else (none)) else (none)) else (none))) else (impl_Jobs_earliest.l2 k x4 x5 x6 x7 x9 x47 x48 (wrap64 (x49 + 1)) x218000 x218001 x218002)) else (none)))) else (none)) else (none)) else (if x9 = (-1) then (if x6.length < 17592186044416 then (impl_Jobs_earliest.l0 k x4 x5 (x6 ++ [x9]) (wrap64 (x7 + 1)) x218000 x218001 x218002) else (none)) else (if 0 ≤ x9 then (if x9 < (x4.length : Int) then (if x6.length < 17592186044416 then (impl_Jobs_earliest.l0 k (x4.set (x9 : Int).toNat (wrap64 ((rd x4 x9) - 1))) x5 (x6 ++ [x9]) (wrap64 (x7 + 1)) x218000 x218001 x218002) else (none)) else (none)) else (none)))
end
def impl_Jobs_earliest.f (k : Nat) (l0_0 : List Int) (l0_1 : List Int) (l0_2 : List Int) : Option (List Int × Int) := (impl_Jobs_many.f l0_0 l0_1 l0_2).bind fun t218 => (if 0 ≤ t218 then (if (t218 : Int).toNat ≤ 35184372088832 then ((impl_Jobs_many.f l0_0 l0_1 l0_2).bind fun t222 => (if 0 ≤ t222 then (if (t222 : Int).toNat ≤ 35184372088832 then (impl_Jobs_earliest.l0 k (List.replicate (t218 : Int).toNat 0) (List.replicate (t222 : Int).toNat 0) ([] : List Int) 0 l0_0 l0_1 l0_2) else (none)) else (none))) else (none)) else (none))
theorem impl_Jobs_earliest.mono_l : ∀ k, (∀ y0 y1 y2 y3 y4 y5 y6, LeO (impl_Jobs_earliest.l0 k y0 y1 y2 y3 y4 y5 y6) (impl_Jobs_earliest.l0 (k + 1) y0 y1 y2 y3 y4 y5 y6)) ∧ (∀ y0 y1 y2 y3 y4 y5 y6 y7 y8, LeO (impl_Jobs_earliest.l1 k y0 y1 y2 y3 y4 y5 y6 y7 y8) (impl_Jobs_earliest.l1 (k + 1) y0 y1 y2 y3 y4 y5 y6 y7 y8)) ∧ (∀ y0 y1 y2 y3 y4 y5 y6 y7 y8 y9 y10, LeO (impl_Jobs_earliest.l2 k y0 y1 y2 y3 y4 y5 y6 y7 y8 y9 y10) (impl_Jobs_earliest.l2 (k + 1) y0 y1 y2 y3 y4 y5 y6 y7 y8 y9 y10))
  | 0 => ⟨fun _ _ _ _ _ _ _ r h => by simp [impl_Jobs_earliest.l0] at h, fun _ _ _ _ _ _ _ _ _ r h => by simp [impl_Jobs_earliest.l1] at h, fun _ _ _ _ _ _ _ _ _ _ _ r h => by simp [impl_Jobs_earliest.l2] at h⟩
  | k + 1 => by
    obtain ⟨ih0, ih1, ih2⟩ := impl_Jobs_earliest.mono_l k
    refine ⟨?_, ?_, ?_⟩
    · intro y0 y1 y2 y3 y4 y5 y6
      unfold impl_Jobs_earliest.l0
      repeat' first
      | (with_reducible exact ih0 _ _ _ _ _ _ _)
      | (with_reducible exact ih1 _ _ _ _ _ _ _ _ _)
      | (with_reducible exact ih2 _ _ _ _ _ _ _ _ _ _ _)
      | (with_reducible exact impl_Jobs_whole.mono _ _ _ _)
      | (with_reducible exact LeO.refl _)
      | (with_reducible exact LeO.none _)
      | (with_reducible refine LeO.ite ?_ ?_)
      | (with_reducible refine LeO.bind ?_ (fun _ => ?_))
      | exact ih0 _ _ _ _ _ _ _
      | exact ih1 _ _ _ _ _ _ _ _ _
      | exact ih2 _ _ _ _ _ _ _ _ _ _ _
      | exact impl_Jobs_whole.mono _ _ _ _
      | exact LeO.none _
      | refine LeO.ite ?_ ?_
      | refine LeO.bind ?_ (fun _ => ?_)
    · intro y0 y1 y2 y3 y4 y5 y6 y7 y8
      unfold impl_Jobs_earliest.l1
      repeat' first
      | (with_reducible exact ih0 _ _ _ _ _ _ _)
      | (with_reducible exact ih1 _ _ _ _ _ _ _ _ _)
      | (with_reducible exact ih2 _ _ _ _ _ _ _ _ _ _ _)
      | (with_reducible exact impl_Jobs_whole.mono _ _ _ _)
      | (with_reducible exact LeO.refl _)
      | (with_reducible exact LeO.none _)
      | (with_reducible refine LeO.ite ?_ ?_)
      | (with_reducible refine LeO.bind ?_ (fun _ => ?_))
      | exact ih0 _ _ _ _ _ _ _
      | exact ih1 _ _ _ _ _ _ _ _ _
      | exact ih2 _ _ _ _ _ _ _ _ _ _ _
      | exact impl_Jobs_whole.mono _ _ _ _
      | exact LeO.none _
      | refine LeO.ite ?_ ?_
      | refine LeO.bind ?_ (fun _ => ?_)
    intro y0 y1 y2 y3 y4 y5 y6 y7 y8 y9 y10
    unfold impl_Jobs_earliest.l2
    repeat' first
    | (with_reducible exact ih0 _ _ _ _ _ _ _)
    | (with_reducible exact ih1 _ _ _ _ _ _ _ _ _)
    | (with_reducible exact ih2 _ _ _ _ _ _ _ _ _ _ _)
    | (with_reducible exact impl_Jobs_whole.mono _ _ _ _)
    | (with_reducible exact LeO.refl _)
    | (with_reducible exact LeO.none _)
    | (with_reducible refine LeO.ite ?_ ?_)
    | (with_reducible refine LeO.bind ?_ (fun _ => ?_))
    | exact ih0 _ _ _ _ _ _ _
    | exact ih1 _ _ _ _ _ _ _ _ _
    | exact ih2 _ _ _ _ _ _ _ _ _ _ _
    | exact impl_Jobs_whole.mono _ _ _ _
    | exact LeO.none _
    | refine LeO.ite ?_ ?_
    | refine LeO.bind ?_ (fun _ => ?_)
theorem impl_Jobs_earliest.mono : ∀ a0 a1 a2 k, LeO (impl_Jobs_earliest.f k a0 a1 a2) (impl_Jobs_earliest.f (k + 1) a0 a1 a2) := by
  intro a0 a1 a2 k
  obtain ⟨ih0, ih1, ih2⟩ := impl_Jobs_earliest.mono_l k
  unfold impl_Jobs_earliest.f
  repeat' first
      | (with_reducible exact ih0 _ _ _ _ _ _ _)
      | (with_reducible exact ih1 _ _ _ _ _ _ _ _ _)
      | (with_reducible exact ih2 _ _ _ _ _ _ _ _ _ _ _)
      | (with_reducible exact impl_Jobs_whole.mono _ _ _ _)
      | (with_reducible exact LeO.refl _)
      | (with_reducible exact LeO.none _)
      | (with_reducible refine LeO.ite ?_ ?_)
      | (with_reducible refine LeO.bind ?_ (fun _ => ?_))
      | exact ih0 _ _ _ _ _ _ _
      | exact ih1 _ _ _ _ _ _ _ _ _
      | exact ih2 _ _ _ _ _ _ _ _ _ _ _
      | exact impl_Jobs_whole.mono _ _ _ _
      | exact LeO.none _
      | refine LeO.ite ?_ ?_
      | refine LeO.bind ?_ (fun _ => ?_)
def impl_Jobs_earliest.T1 : Bool × List (List Nat × List Nat) := (true, [([], []), ([0], [0]), ([1, 1], [1]), ([], []), ([3, 1], [3]), ([4, 4], [4]), ([2, 4, 0, 1, 2], [2]), ([5, 6, 0, 1, 2, 3, 4, 5, 6], [5])])
def impl_Jobs_earliest.B1 : List Nat := [0, 1, 3, 0, 11, 27, 31, 127]
theorem impl_Jobs_earliest.tab1 : rtab .any (opsOf Try.f112 1) = impl_Jobs_earliest.T1 := by kernel_rfl
theorem impl_Jobs_earliest.bits1 : waitsOk impl_Jobs_earliest.T1.2 impl_Jobs_earliest.B1 = true := by kernel_rfl
def impl_Jobs_earliest.T18 : Bool × List (List Nat × List Nat) := (true, [([], []), ([], []), ([], []), ([], []), ([], []), ([4], [4]), ([], []), ([5, 6], [5, 6]), ([7], [7]), ([], []), ([], []), ([10], [10]), ([], []), ([11, 12], [11, 12]), ([13], [13]), ([9, 14], [9, 14]), ([0, 1, 0, 1, 4, 5, 6, 7, 8, 14], [0, 1]), ([16, 8, 0, 1, 4, 5, 6, 7, 8, 14], [8, 16]), ([2, 3, 0, 1, 2, 3, 4, 5, 6, 7, 8, 9, 10, 11, 12, 13, 14, 15, 16, 17], [2, 3]), ([18, 15, 17, 0, 1, 2, 3, 4, 5, 6, 7, 8, 9, 10, 11, 12, 13, 14, 15, 16, 17], [15, 18])])
def impl_Jobs_earliest.B18 : List Nat := [0, 0, 0, 0, 0, 16, 0, 112, 240, 0, 0, 1024, 0, 7168, 15360, 32256, 32243, 97779, 262143, 524287]
theorem impl_Jobs_earliest.tab18 : rtab .any (opsOf Try.f112 18) = impl_Jobs_earliest.T18 := by kernel_rfl
theorem impl_Jobs_earliest.bits18 : waitsOk impl_Jobs_earliest.T18.2 impl_Jobs_earliest.B18 = true := by kernel_rfl
def impl_Jobs_earliest.T19 : Bool × List (List Nat × List Nat) := (true, [([], []), ([], []), ([0, 1], [0, 1]), ([2], [2]), ([3], [3]), ([4], [4]), ([5], [5]), ([6, 5], [5, 6]), ([7, 5, 5], [5, 7]), ([8], [8]), ([8], [8]), ([9, 10, 8], [8, 9, 10]), ([11, 8], [8, 11]), ([8], [8]), ([8], [8]), ([13, 14, 8], [8, 13, 14]), ([15, 8], [8, 15]), ([12, 16, 8], [8, 12, 16]), ([8, 17, 5], [5, 8, 17]), ([5, 18], [5, 18])])
def impl_Jobs_earliest.B19 : List Nat := [0, 0, 3, 7, 15, 31, 63, 127, 255, 511, 511, 2047, 4095, 511, 511, 25087, 57855, 131071, 262143, 524287]
theorem impl_Jobs_earliest.tab19 : rtab .any (opsOf Try.f112 19) = impl_Jobs_earliest.T19 := by kernel_rfl
theorem impl_Jobs_earliest.bits19 : waitsOk impl_Jobs_earliest.T19.2 impl_Jobs_earliest.B19 = true := by kernel_rfl
set_option maxHeartbeats 8000000 in
set_option maxRecDepth 100000 in
theorem impl_Jobs_earliest.calls (k : Nat) (A0_0 : Option Addr) (c0_0 : Nat) (l0_0 : List Int) (A0_1 : Option Addr) (c0_1 : Nat) (l0_1 : List Int) (A0_2 : Option Addr) (c0_2 : Nat) (l0_2 : List Int) (r1 : List Int) (r2 : Int) (w : World) (hr0_0 : Kd.C (Kd.int .i64) w A0_0 l0_0.length l0_0) (hc0_0 : l0_0.length ≤ c0_0) (hr0_1 : Kd.C (Kd.int .i64) w A0_1 l0_1.length l0_1) (hc0_1 : l0_1.length ≤ c0_1) (hr0_2 : Kd.C (Kd.int .i64) w A0_2 l0_2.length l0_2) (hc0_2 : l0_2.length ≤ c0_2) (h : impl_Jobs_earliest.f k l0_0 l0_1 l0_2 = some (r1, r2)) :
    Calls Try.prog 112 #[.agg #[.slice A0_0 l0_0.length c0_0, .slice A0_1 l0_1.length c0_1, .slice A0_2 l0_2.length c0_2]] w fun e w' => ∃ v0_ : Value, e = .returned (.tuple #[v0_, .int .i64 r2]) ∧ Kd.R (Kd.int .i64) 2 w' w.heap.size (fun _ => True) v0_ r1 ∧ Below w.heap.size w w' := by
  have hu28 := Try.underlying28
  have HR0_0 := Aside0.mk hr0_0
  have HC0_0 := Aside0.mk hc0_0
  clear hr0_0 hc0_0
  have HR0_1 := Aside0.mk hr0_1
  have HC0_1 := Aside0.mk hc0_1
  clear hr0_1 hc0_1
  have HR0_2 := Aside0.mk hr0_2
  have HC0_2 := Aside0.mk hc0_2
  clear hr0_2 hc0_2
  have HB := Aside0.mk (Below.refl w.heap.size w)
  have H : ((impl_Jobs_many.f l0_0 l0_1 l0_2).bind fun t218 => (if 0 ≤ t218 then (if (t218 : Int).toNat ≤ 35184372088832 then ((impl_Jobs_many.f l0_0 l0_1 l0_2).bind fun t222 => (if 0 ≤ t222 then (if (t222 : Int).toNat ≤ 35184372088832 then (impl_Jobs_earliest.l0 k (List.replicate (t218 : Int).toNat 0) (List.replicate (t222 : Int).toNat 0) ([] : List Int) 0 l0_0 l0_1 l0_2) else (none)) else (none))) else (none)) else (none))) = some (r1, r2) := h
  clear h
  replace H := Option.bind_eq_some_iff.mp H
  obtain ⟨t218, A20, H⟩ := H
  replace H : (if 0 ≤ t218 then (if (t218 : Int).toNat ≤ 35184372088832 then ((impl_Jobs_many.f l0_0 l0_1 l0_2).bind fun t222 => (if 0 ≤ t222 then (if (t222 : Int).toNat ≤ 35184372088832 then (impl_Jobs_earliest.l0 k (List.replicate (t218 : Int).toNat 0) (List.replicate (t222 : Int).toNat 0) ([] : List Int) 0 l0_0 l0_1 l0_2) else (none)) else (none))) else (none)) else (none)) = some (r1, r2) := H
  have A2 := Aside0.mk A20
  clear A20
  by_cases c3 : 0 ≤ t218
  rotate_left
  · rw [if_neg c3] at H
    exact absurd H (by simp)

  rw [if_pos c3] at H
  have c3b0 := eq_true c3
  have c3b1 : decide (0 ≤ t218) = true := decide_eq_true c3
  clear c3
  by_cases c4 : (t218 : Int).toNat ≤ 35184372088832
  rotate_left
  · rw [if_neg c4] at H
    exact absurd H (by simp)
  rw [if_pos c4] at H
  have c4b0 := eq_true c4
  have c4b1 : decide ((t218 : Int).toNat ≤ 35184372088832) = true := decide_eq_true c4
  clear c4
  obtain ⟨y219, hy219⟩ : ∃ y_ : List Int, y_ = (List.replicate (t218 : Int).toNat 0) := ⟨_, rfl⟩
  replace H : ((impl_Jobs_many.f l0_0 l0_1 l0_2).bind fun t222 => (if 0 ≤ t222 then (if (t222 : Int).toNat ≤ 35184372088832 then (impl_Jobs_earliest.l0 k y219 (List.replicate (t222 : Int).toNat 0) ([] : List Int) 0 l0_0 l0_1 l0_2) else (none)) else (none))) = some (r1, r2) := by first | (rw [hy219]; with_reducible exact H) | (have H2_ := (Option.bind_some _ _).symm.trans H; rw [hy219]; with_reducible exact H2_) | (have H2_ := (Option.bind_some _ _).symm.trans H; with_reducible exact H2_) | with_reducible exact H | (rw [hy219]; exact H) | exact H
  have Ny219 := Aside0.mk hy219
  clear hy219
  replace H := Option.bind_eq_some_iff.mp H
  obtain ⟨t222, A50, H⟩ := H
  replace H : (if 0 ≤ t222 then (if (t222 : Int).toNat ≤ 35184372088832 then (impl_Jobs_earliest.l0 k y219 (List.replicate (t222 : Int).toNat 0) ([] : List Int) 0 l0_0 l0_1 l0_2) else (none)) else (none)) = some (r1, r2) := H
  have A5 := Aside0.mk A50
  clear A50
  by_cases c6 : 0 ≤ t222
  rotate_left
  · rw [if_neg c6] at H
    exact absurd H (by simp)
  rw [if_pos c6] at H
  have c6b0 := eq_true c6
  have c6b1 : decide (0 ≤ t222) = true := decide_eq_true c6
  clear c6
  by_cases c7 : (t222 : Int).toNat ≤ 35184372088832
  rotate_left
  · rw [if_neg c7] at H
    exact absurd H (by simp)
  rw [if_pos c7] at H
  have c7b0 := eq_true c7
  have c7b1 : decide ((t222 : Int).toNat ≤ 35184372088832) = true := decide_eq_true c7
  clear c7
  obtain ⟨y223, hy223⟩ : ∃ y_ : List Int, y_ = (List.replicate (t222 : Int).toNat 0) := ⟨_, rfl⟩
  replace H : (impl_Jobs_earliest.l0 k y219 y223 ([] : List Int) 0 l0_0 l0_1 l0_2) = some (r1, r2) := by first | (rw [hy223]; with_reducible exact H) | (have H2_ := (Option.bind_some _ _).symm.trans H; rw [hy223]; with_reducible exact H2_) | (have H2_ := (Option.bind_some _ _).symm.trans H; with_reducible exact H2_) | with_reducible exact H | (rw [hy223]; exact H) | exact H
  have Ny223 := Aside0.mk hy223
  clear hy223
  have H' := Aside0.mk H
  clear H
  go_enter Try.func112, Try.ntmps112
  try go_wp2_with (first | ((with_reducible refine gate_dst (N := 1) rfl ?_); refine box_event ?hg (N := 1) ?hd (cs := #[.slice A0_0 l0_0.length c0_0, .slice A0_1 l0_1.length c0_1, .slice A0_2 l0_2.length c0_2]) (t := 28) ?hr ?_; (case hd => rfl); (case hg => rfl); (case hr => first | (go_simp; done) | (go_simp; rfl)); intro gb217 hg w8 hbox hb; have n0_ := Aside0.mk (below_step zq22 hb); have n1_ := Aside0.mk (hbox); have n2_ := Aside0.mk ((by rw [hg]; exact (below_size zq22) : w.heap.size ≤ gb217)); have n3_ := Aside0.mk ((by rw [hg]; exact (below_size zq22) : w.heap.size ≤ gb217)); clear HB; have HB := n0_; have BK217 := n1_; have GW217 := n2_; have GE217 := n3_; clear n0_ n1_ n2_ n3_; clear hb hbox hg))
  have n0_ := Aside0.mk (blk_drew BK217.out)
  have n1_ := Aside0.mk (below_drew1 HB.out)
  clear BK217
  clear HB
  have BK217 := n0_
  have HB := n1_
  clear n0_ n1_
  refine start_ (n := 8) (S := fun w' => w'.cell? ⟨gb217, 0, none⟩ = some (.slice A0_0 l0_0.length c0_0) ∧ w'.cell? ⟨gb217, 1, none⟩ = some (.slice A0_1 l0_1.length c0_1) ∧ w'.cell? ⟨gb217, 2, none⟩ = some (.slice A0_2 l0_2.length c0_2)) (ds := []) #[false, false, false, false, false, false, false, false] (by kernel_rfl) rfl rfl ⟨(blk_cell BK217.out 0).trans rfl, (blk_cell BK217.out 1).trans rfl, (blk_cell BK217.out 2).trans rfl⟩ (fun hHeld => ?_); refine with_tabW impl_Jobs_earliest.tab1 impl_Jobs_earliest.bits1 (fun HT_ HW_ => ?_)
  generalize w8.drew = w9 at BK217 HB hHeld ⊢
  refine take_ (i := 0) (N := some 12) (v := ?_) (a' := ?_) #[true, false, false, false, false, false, false, false] rfl rfl (take_ofW HT_.out HW_.out (by kernel_rfl)) (fun _ _ _ h => h) (Or.inl ⟨by rfl, ?_⟩) hHeld ?_ ?_
  rotate_left
  · rintro w' ⟨s0, s1, s2⟩
    go_simp
    with_reducible rfl
  rotate_left
  · simp only [Act.put, List.setIfInBounds_toArray, List.set_cons_zero, List.set_cons_succ, i64_w, i32_w]
    rfl
  refine take_ (i := 3) (N := some 15) (v := ?_) (a' := ?_) #[true, false, false, true, false, false, false, false] rfl rfl (take_ofW HT_.out HW_.out (by kernel_rfl)) (fun _ _ _ h => h) (Or.inl ⟨by rfl, ?_⟩) hHeld ?_ ?_
  rotate_left
  · rintro w' ⟨s0, s1, s2⟩
    go_simp
    with_reducible rfl
  rotate_left
  · simp only [Act.put, List.setIfInBounds_toArray, List.set_cons_zero, List.set_cons_succ, i64_w, i32_w]
    rfl
  refine one_ (i := 1) (N := some 13) #[true, true, false, true, false, false, false, false] rfl rfl (one_of HT_.out (by kernel_rfl)) (by decide) (fun K hK => ?_)
  refine goes_ Try.func96 (by kernel_rfl) rfl #[.agg #[.slice A0_0 l0_0.length c0_0, .slice A0_1 l0_1.length c0_1, .slice A0_2 l0_2.length c0_2]] (by rfl) rfl rfl zq19 ?_
  with_reducible refine (impl_Jobs_many.calls _ _ l0_0 _ _ l0_1 _ _ l0_2 t218 _ ?side1 ?side2 ?side3 ?side4 ?side5 ?side6 A2.out).mono ?_
  (case side1 => repeat (first | exact (Kd.C_below HR0_0.out HB.out) | (with_reducible refine Kd.C_alloc ?_ _) | (with_reducible refine Kd.C_drewN ?_ _) | (with_reducible refine Kd.C_drew ?_)))
  (case side2 => exact HC0_0.out)
  (case side3 => repeat (first | exact (Kd.C_below HR0_1.out HB.out) | (with_reducible refine Kd.C_alloc ?_ _) | (with_reducible refine Kd.C_drewN ?_ _) | (with_reducible refine Kd.C_drew ?_)))
  (case side4 => exact HC0_1.out)
  (case side5 => repeat (first | exact (Kd.C_below HR0_2.out HB.out) | (with_reducible refine Kd.C_alloc ?_ _) | (with_reducible refine Kd.C_drewN ?_ _) | (with_reducible refine Kd.C_drew ?_)))
  (case side6 => exact HC0_2.out)
  rintro e w10 ⟨rfl, hb⟩
  refine ⟨_, rfl, ?_⟩
  have n0_ := Aside0.mk (blk_below (g := gb217) (o := .cells #[.slice A0_0 l0_0.length c0_0, .slice A0_1 l0_1.length c0_1, .slice A0_2 l0_2.length c0_2] 28 (0, 0)) zq44 hb)
  have n1_ := Aside0.mk (below_step zq16 hb)
  clear BK217
  clear HB
  have BK217 := n0_
  have HB := n1_
  clear n0_ n1_
  (try clear hb)
  (try clear hb2)
  (try clear hk)
  (try clear hi)
  refine hK.out _ _ ⟨(blk_cell BK217.out 0).trans rfl, (blk_cell BK217.out 1).trans rfl, (blk_cell BK217.out 2).trans rfl⟩ (fun hHeld => ?_)
  clear hK K
  refine norm_ (a' := ?_) ?_ ?_
  rotate_left
  · show Act.put _ (some 13) _ = _
    simp only [Act.put, List.setIfInBounds_toArray, List.set_cons_zero, List.set_cons_succ, i64_w, i32_w]
    rfl
  refine join_ (σ := Value × Value) 1 #[true, true, true, true, true, true, true, false] (fun s_ => [(14, s_.1), (16, .int .i64 t222), (17, s_.2), (4, s_.1)]) (fun s_ w' => (w'.cell? ⟨gb217, 0, none⟩ = some (.slice A0_0 l0_0.length c0_0) ∧ w'.cell? ⟨gb217, 1, none⟩ = some (.slice A0_1 l0_1.length c0_1) ∧ w'.cell? ⟨gb217, 2, none⟩ = some (.slice A0_2 l0_2.length c0_2)) ∧ (Kd.R (Kd.int .i64) 2 w' w.heap.size (fun k_ => some k_ ≠ (s_.2 : Value).ownBlock) s_.1 y219) ∧ (Kd.R (Kd.int .i64) 2 w' w.heap.size (fun k_ => some k_ ≠ (s_.1 : Value).ownBlock) s_.2 y223) ∧ (w'.heap[gb217]? = some (.cells #[.slice A0_0 l0_0.length c0_0, .slice A0_1 l0_1.length c0_1, .slice A0_2 l0_2.length c0_2] 28 (0, 0))) ∧ (Below w.heap.size w w')) ?_ ?_
  rotate_left
  · intro hCont
    refine two_ (i := 2) (j := 4) (Ni := some 14) (Nj := some 16) #[true, true, true, true, false, false, false, false] #[true, true, false, true, true, false, false, false] rfl rfl rfl rfl (two_of HT_.out (by kernel_rfl)) (by decide) (by decide) (fun K hK => ?_) (fun K hK => ?_)
    · skip
      refine Kd.R_make_step (Kd.int .i64) _ 2 (by rfl) (N := 14) rfl 22 _ _ rfl t218 rfl rfl Try.underlying22 (.int .i64 0) 8 info2 rfl (by decide) (by omega) 0 (ok := fun _ => True) (okp := fun _ => True) rfl (fun _ hk => hk) trivial (of_decide_eq_true zq75) (Nat.le_trans (Nat.mul_le_mul_right _ (of_decide_eq_true zq75 : t218.toNat ≤ 35184372088832)) (by omega)) (Below.refl _ _) (Nat.le_refl _) ?_
      intro v220 w11 ho12 hb hg_ hnew_
      clear hg_ hnew_
      (first | rw [← Ny219.out] at ho12 | (simp only [Int.reduceToNat] at ho12; rw [← Ny219.out] at ho12))
      have n0_ := Aside0.mk (Kd.R_lower ho12 (below_size zq16))
      have n1_ := Aside0.mk (blk_below (g := gb217) (o := .cells #[.slice A0_0 l0_0.length c0_0, .slice A0_1 l0_1.length c0_1, .slice A0_2 l0_2.length c0_2] 28 (0, 0)) zq44 hb)
      have n2_ := Aside0.mk (below_step zq16 hb)
      clear BK217
      clear HB
      have HO221 := n0_
      have BK217 := n1_
      have HB := n2_
      clear n0_ n1_ n2_
      clear hb ho12
      refine hK.out _ _ ⟨(blk_cell BK217.out 0).trans rfl, (blk_cell BK217.out 1).trans rfl, (blk_cell BK217.out 2).trans rfl⟩ (fun hHeld => ?_)
      clear hK K
      refine norm_ (a' := ?_) ?_ ?_
      rotate_left
      · show Act.put _ (some 14) _ = _
        simp only [Act.put, List.setIfInBounds_toArray, List.set_cons_zero, List.set_cons_succ, i64_w, i32_w]
        rfl
      refine one_ (i := 4) (N := some 16) #[true, true, true, true, true, false, false, false] rfl rfl (one_of HT_.out (by kernel_rfl)) (by decide) (fun K hK => ?_)
      refine goes_ Try.func96 (by kernel_rfl) rfl #[.agg #[.slice A0_0 l0_0.length c0_0, .slice A0_1 l0_1.length c0_1, .slice A0_2 l0_2.length c0_2]] (by rfl) rfl rfl zq19 ?_
      with_reducible refine (impl_Jobs_many.calls _ _ l0_0 _ _ l0_1 _ _ l0_2 t222 _ ?side1 ?side2 ?side3 ?side4 ?side5 ?side6 A5.out).mono ?_
      (case side1 => repeat (first | exact (Kd.C_below HR0_0.out HB.out) | (with_reducible refine Kd.C_alloc ?_ _) | (with_reducible refine Kd.C_drewN ?_ _) | (with_reducible refine Kd.C_drew ?_)))
      (case side2 => exact HC0_0.out)
      (case side3 => repeat (first | exact (Kd.C_below HR0_1.out HB.out) | (with_reducible refine Kd.C_alloc ?_ _) | (with_reducible refine Kd.C_drewN ?_ _) | (with_reducible refine Kd.C_drew ?_)))
      (case side4 => exact HC0_1.out)
      (case side5 => repeat (first | exact (Kd.C_below HR0_2.out HB.out) | (with_reducible refine Kd.C_alloc ?_ _) | (with_reducible refine Kd.C_drewN ?_ _) | (with_reducible refine Kd.C_drew ?_)))
      (case side6 => exact HC0_2.out)
      rintro e w13 ⟨rfl, hb⟩
      refine ⟨_, rfl, ?_⟩
      have n0_ := Aside0.mk (Kd.R_below zq61 hb)
      have n1_ := Aside0.mk (blk_below (g := gb217) (o := .cells #[.slice A0_0 l0_0.length c0_0, .slice A0_1 l0_1.length c0_1, .slice A0_2 l0_2.length c0_2] 28 (0, 0)) zq44 hb)
      have n2_ := Aside0.mk (below_step zq16 hb)
      clear HO221
      clear BK217
      clear HB
      have HO221 := n0_
      have BK217 := n1_
      have HB := n2_
      clear n0_ n1_ n2_
      (try clear hb)
      (try clear hb2)
      (try clear hk)
      (try clear hi)
      refine hK.out _ _ ⟨(blk_cell BK217.out 0).trans rfl, (blk_cell BK217.out 1).trans rfl, (blk_cell BK217.out 2).trans rfl⟩ (fun hHeld => ?_)
      clear hK K
      refine norm_ (a' := ?_) ?_ ?_
      rotate_left
      · show Act.put _ (some 16) _ = _
        simp only [Act.put, List.setIfInBounds_toArray, List.set_cons_zero, List.set_cons_succ, i64_w, i32_w]
        rfl
      refine pureA_ 6 4 HT_.out ?_
      refine one_ (i := 5) (N := some 17) #[true, true, true, true, true, true, true, false] rfl rfl (one_of HT_.out (by kernel_rfl)) (by decide) (fun K hK => ?_)
      refine Kd.R_make_step (Kd.int .i64) _ 2 (by rfl) (N := 17) rfl 22 _ _ rfl t222 rfl rfl Try.underlying22 (.int .i64 0) 8 info2 rfl (by decide) (by omega) 0 (ok := fun _ => True) (okp := fun _ => True) rfl (fun _ hk => hk) trivial (of_decide_eq_true zq75) (Nat.le_trans (Nat.mul_le_mul_right _ (of_decide_eq_true zq75 : t222.toNat ≤ 35184372088832)) (by omega)) (Below.refl _ _) (Nat.le_refl _) ?_
      intro v224 w14 ho15 hb hg_ hnew_
      clear hg_ hnew_
      (first | rw [← Ny223.out] at ho15 | (simp only [Int.reduceToNat] at ho15; rw [← Ny223.out] at ho15))
      have n0_ := Aside0.mk (Kd.R_elder' zq61 (Kd.R_base ho15) hb)
      have n1_ := Aside0.mk (Kd.R_lower (Kd.R_new' ho15 (Kd.R_lt zq61)) (below_size zq16))
      have n2_ := Aside0.mk (blk_below (g := gb217) (o := .cells #[.slice A0_0 l0_0.length c0_0, .slice A0_1 l0_1.length c0_1, .slice A0_2 l0_2.length c0_2] 28 (0, 0)) zq44 hb)
      have n3_ := Aside0.mk (below_step zq16 hb)
      clear HO221
      clear BK217
      clear HB
      have HO221 := n0_
      have HO225 := n1_
      have BK217 := n2_
      have HB := n3_
      clear n0_ n1_ n2_ n3_
      clear hb ho15
      refine hK.out _ _ ⟨(blk_cell BK217.out 0).trans rfl, (blk_cell BK217.out 1).trans rfl, (blk_cell BK217.out 2).trans rfl⟩ (fun hHeld => ?_)
      clear hK K
      refine norm_ (a' := ?_) ?_ ?_
      rotate_left
      · show Act.put _ (some 17) _ = _
        simp only [Act.put, List.setIfInBounds_toArray, List.set_cons_zero, List.set_cons_succ, i64_w, i32_w]
        rfl
      exact norm_ zq71 (hCont (v220, v224) _ ⟨hHeld, zq20, zq21, zq44, zq16⟩)
    skip
    refine goes_ Try.func96 (by kernel_rfl) rfl #[.agg #[.slice A0_0 l0_0.length c0_0, .slice A0_1 l0_1.length c0_1, .slice A0_2 l0_2.length c0_2]] (by rfl) rfl rfl zq19 ?_
    with_reducible refine (impl_Jobs_many.calls _ _ l0_0 _ _ l0_1 _ _ l0_2 t222 _ ?side1 ?side2 ?side3 ?side4 ?side5 ?side6 A5.out).mono ?_
    (case side1 => repeat (first | exact (Kd.C_below HR0_0.out HB.out) | (with_reducible refine Kd.C_alloc ?_ _) | (with_reducible refine Kd.C_drewN ?_ _) | (with_reducible refine Kd.C_drew ?_)))
    (case side2 => exact HC0_0.out)
    (case side3 => repeat (first | exact (Kd.C_below HR0_1.out HB.out) | (with_reducible refine Kd.C_alloc ?_ _) | (with_reducible refine Kd.C_drewN ?_ _) | (with_reducible refine Kd.C_drew ?_)))
    (case side4 => exact HC0_1.out)
    (case side5 => repeat (first | exact (Kd.C_below HR0_2.out HB.out) | (with_reducible refine Kd.C_alloc ?_ _) | (with_reducible refine Kd.C_drewN ?_ _) | (with_reducible refine Kd.C_drew ?_)))
    (case side6 => exact HC0_2.out)
    rintro e w11 ⟨rfl, hb⟩
    refine ⟨_, rfl, ?_⟩
    have n0_ := Aside0.mk (blk_below (g := gb217) (o := .cells #[.slice A0_0 l0_0.length c0_0, .slice A0_1 l0_1.length c0_1, .slice A0_2 l0_2.length c0_2] 28 (0, 0)) zq44 hb)
    have n1_ := Aside0.mk (below_step zq16 hb)
    clear BK217
    clear HB
    have BK217 := n0_
    have HB := n1_
    clear n0_ n1_
    (try clear hb)
    (try clear hb2)
    (try clear hk)
    (try clear hi)
    refine hK.out _ _ ⟨(blk_cell BK217.out 0).trans rfl, (blk_cell BK217.out 1).trans rfl, (blk_cell BK217.out 2).trans rfl⟩ (fun hHeld => ?_)
    clear hK K
    refine norm_ (a' := ?_) ?_ ?_
    rotate_left
    · show Act.put _ (some 16) _ = _
      simp only [Act.put, List.setIfInBounds_toArray, List.set_cons_zero, List.set_cons_succ, i64_w, i32_w]
      rfl
    refine two_ (i := 2) (j := 5) (Ni := some 14) (Nj := some 17) #[true, true, true, true, true, false, false, false] #[true, true, false, true, true, true, false, false] rfl rfl rfl rfl (two_of HT_.out (by kernel_rfl)) (by decide) (by decide) (fun K hK => ?_) (fun K hK => ?_)
    · skip
      refine Kd.R_make_step (Kd.int .i64) _ 2 (by rfl) (N := 14) rfl 22 _ _ rfl t218 rfl rfl Try.underlying22 (.int .i64 0) 8 info2 rfl (by decide) (by omega) 0 (ok := fun _ => True) (okp := fun _ => True) rfl (fun _ hk => hk) trivial (of_decide_eq_true zq75) (Nat.le_trans (Nat.mul_le_mul_right _ (of_decide_eq_true zq75 : t218.toNat ≤ 35184372088832)) (by omega)) (Below.refl _ _) (Nat.le_refl _) ?_
      intro v220 w12 ho13 hb hg_ hnew_
      clear hg_ hnew_
      (first | rw [← Ny219.out] at ho13 | (simp only [Int.reduceToNat] at ho13; rw [← Ny219.out] at ho13))
      have n0_ := Aside0.mk (Kd.R_lower ho13 (below_size zq16))
      have n1_ := Aside0.mk (blk_below (g := gb217) (o := .cells #[.slice A0_0 l0_0.length c0_0, .slice A0_1 l0_1.length c0_1, .slice A0_2 l0_2.length c0_2] 28 (0, 0)) zq44 hb)
      have n2_ := Aside0.mk (below_step zq16 hb)
      clear BK217
      clear HB
      have HO221 := n0_
      have BK217 := n1_
      have HB := n2_
      clear n0_ n1_ n2_
      clear hb ho13
      refine hK.out _ _ ⟨(blk_cell BK217.out 0).trans rfl, (blk_cell BK217.out 1).trans rfl, (blk_cell BK217.out 2).trans rfl⟩ (fun hHeld => ?_)
      clear hK K
      refine norm_ (a' := ?_) ?_ ?_
      rotate_left
      · show Act.put _ (some 14) _ = _
        simp only [Act.put, List.setIfInBounds_toArray, List.set_cons_zero, List.set_cons_succ, i64_w, i32_w]
        rfl
      refine pureA_ 6 4 HT_.out ?_
      refine one_ (i := 5) (N := some 17) #[true, true, true, true, true, true, true, false] rfl rfl (one_of HT_.out (by kernel_rfl)) (by decide) (fun K hK => ?_)
      refine Kd.R_make_step (Kd.int .i64) _ 2 (by rfl) (N := 17) rfl 22 _ _ rfl t222 rfl rfl Try.underlying22 (.int .i64 0) 8 info2 rfl (by decide) (by omega) 0 (ok := fun _ => True) (okp := fun _ => True) rfl (fun _ hk => hk) trivial (of_decide_eq_true zq75) (Nat.le_trans (Nat.mul_le_mul_right _ (of_decide_eq_true zq75 : t222.toNat ≤ 35184372088832)) (by omega)) (Below.refl _ _) (Nat.le_refl _) ?_
      intro v224 w14 ho15 hb hg_ hnew_
      clear hg_ hnew_
      (first | rw [← Ny223.out] at ho15 | (simp only [Int.reduceToNat] at ho15; rw [← Ny223.out] at ho15))
      have n0_ := Aside0.mk (Kd.R_elder' zq61 (Kd.R_base ho15) hb)
      have n1_ := Aside0.mk (Kd.R_lower (Kd.R_new' ho15 (Kd.R_lt zq61)) (below_size zq16))
      have n2_ := Aside0.mk (blk_below (g := gb217) (o := .cells #[.slice A0_0 l0_0.length c0_0, .slice A0_1 l0_1.length c0_1, .slice A0_2 l0_2.length c0_2] 28 (0, 0)) zq44 hb)
      have n3_ := Aside0.mk (below_step zq16 hb)
      clear HO221
      clear BK217
      clear HB
      have HO221 := n0_
      have HO225 := n1_
      have BK217 := n2_
      have HB := n3_
      clear n0_ n1_ n2_ n3_
      clear hb ho15
      refine hK.out _ _ ⟨(blk_cell BK217.out 0).trans rfl, (blk_cell BK217.out 1).trans rfl, (blk_cell BK217.out 2).trans rfl⟩ (fun hHeld => ?_)
      clear hK K
      refine norm_ (a' := ?_) ?_ ?_
      rotate_left
      · show Act.put _ (some 17) _ = _
        simp only [Act.put, List.setIfInBounds_toArray, List.set_cons_zero, List.set_cons_succ, i64_w, i32_w]
        rfl
      exact norm_ zq71 (hCont (v220, v224) _ ⟨hHeld, zq20, zq21, zq44, zq16⟩)
    skip
    refine Kd.R_make_step (Kd.int .i64) _ 2 (by rfl) (N := 17) rfl 22 _ _ rfl t222 rfl rfl Try.underlying22 (.int .i64 0) 8 info2 rfl (by decide) (by omega) 0 (ok := fun _ => True) (okp := fun _ => True) rfl (fun _ hk => hk) trivial (of_decide_eq_true zq75) (Nat.le_trans (Nat.mul_le_mul_right _ (of_decide_eq_true zq75 : t222.toNat ≤ 35184372088832)) (by omega)) (Below.refl _ _) (Nat.le_refl _) ?_
    intro v224 w12 ho13 hb hg_ hnew_
    clear hg_ hnew_
    (first | rw [← Ny223.out] at ho13 | (simp only [Int.reduceToNat] at ho13; rw [← Ny223.out] at ho13))
    have n0_ := Aside0.mk (Kd.R_lower ho13 (below_size zq16))
    have n1_ := Aside0.mk (blk_below (g := gb217) (o := .cells #[.slice A0_0 l0_0.length c0_0, .slice A0_1 l0_1.length c0_1, .slice A0_2 l0_2.length c0_2] 28 (0, 0)) zq44 hb)
    have n2_ := Aside0.mk (below_step zq16 hb)
    clear BK217
    clear HB
    have HO225 := n0_
    have BK217 := n1_
    have HB := n2_
    clear n0_ n1_ n2_
    clear hb ho13
    refine hK.out _ _ ⟨(blk_cell BK217.out 0).trans rfl, (blk_cell BK217.out 1).trans rfl, (blk_cell BK217.out 2).trans rfl⟩ (fun hHeld => ?_)
    clear hK K
    refine norm_ (a' := ?_) ?_ ?_
    rotate_left
    · show Act.put _ (some 17) _ = _
      simp only [Act.put, List.setIfInBounds_toArray, List.set_cons_zero, List.set_cons_succ, i64_w, i32_w]
      rfl
    refine one_ (i := 2) (N := some 14) #[true, true, true, true, true, true, false, false] rfl rfl (one_of HT_.out (by kernel_rfl)) (by decide) (fun K hK => ?_)
    refine Kd.R_make_step (Kd.int .i64) _ 2 (by rfl) (N := 14) rfl 22 _ _ rfl t218 rfl rfl Try.underlying22 (.int .i64 0) 8 info2 rfl (by decide) (by omega) 0 (ok := fun _ => True) (okp := fun _ => True) rfl (fun _ hk => hk) trivial (of_decide_eq_true zq75) (Nat.le_trans (Nat.mul_le_mul_right _ (of_decide_eq_true zq75 : t218.toNat ≤ 35184372088832)) (by omega)) (Below.refl _ _) (Nat.le_refl _) ?_
    intro v220 w14 ho15 hb hg_ hnew_
    clear hg_ hnew_
    (first | rw [← Ny219.out] at ho15 | (simp only [Int.reduceToNat] at ho15; rw [← Ny219.out] at ho15))
    have n0_ := Aside0.mk (Kd.R_elder' (by (with_reducible repeat (first | apply Kd.R_alloc | apply Kd.R_drewN | apply Kd.R_drew)); exact HO225.out) (Kd.R_base ho15) hb)
    have n1_ := Aside0.mk (Kd.R_lower (Kd.R_new' ho15 (Kd.R_lt (by (with_reducible repeat (first | apply Kd.R_alloc | apply Kd.R_drewN | apply Kd.R_drew)); exact HO225.out))) (below_size zq16))
    have n2_ := Aside0.mk (blk_below (g := gb217) (o := .cells #[.slice A0_0 l0_0.length c0_0, .slice A0_1 l0_1.length c0_1, .slice A0_2 l0_2.length c0_2] 28 (0, 0)) zq44 hb)
    have n3_ := Aside0.mk (below_step zq16 hb)
    clear HO225
    clear BK217
    clear HB
    have HO225 := n0_
    have HO221 := n1_
    have BK217 := n2_
    have HB := n3_
    clear n0_ n1_ n2_ n3_
    clear hb ho15
    refine hK.out _ _ ⟨(blk_cell BK217.out 0).trans rfl, (blk_cell BK217.out 1).trans rfl, (blk_cell BK217.out 2).trans rfl⟩ (fun hHeld => ?_)
    clear hK K
    refine norm_ (a' := ?_) ?_ ?_
    rotate_left
    · show Act.put _ (some 14) _ = _
      simp only [Act.put, List.setIfInBounds_toArray, List.set_cons_zero, List.set_cons_succ, i64_w, i32_w]
      rfl
    refine pureA_ 6 4 HT_.out ?_
    exact norm_ zq71 (hCont (v220, v224) _ ⟨hHeld, zq20, zq21, zq44, zq16⟩)
  rintro ⟨v220, v224⟩ w16 ⟨hS_, h0_, h1_, h2_, h3_⟩
  have n0_ : Aside0 (Kd.R (Kd.int .i64) 2 w16 w.heap.size (fun k_ => some k_ ≠ (v224 : Value).ownBlock) v220 y219) := ⟨h0_⟩
  have n1_ : Aside0 (Kd.R (Kd.int .i64) 2 w16 w.heap.size (fun k_ => some k_ ≠ (v220 : Value).ownBlock) v224 y223) := ⟨h1_⟩
  have n2_ : Aside0 (w16.heap[gb217]? = some (.cells #[.slice A0_0 l0_0.length c0_0, .slice A0_1 l0_1.length c0_1, .slice A0_2 l0_2.length c0_2] 28 (0, 0))) := ⟨h2_⟩
  have n3_ : Aside0 (Below w.heap.size w w16) := ⟨h3_⟩
  clear BK217
  clear HB
  clear h0_ h1_ h2_ h3_
  have HO221 := n0_
  have HO225 := n1_
  have BK217 := n2_
  have HB := n3_
  clear n0_ n1_ n2_ n3_
  have hHeld : w16.cell? ⟨gb217, 0, none⟩ = some (.slice A0_0 l0_0.length c0_0) ∧ w16.cell? ⟨gb217, 1, none⟩ = some (.slice A0_1 l0_1.length c0_1) ∧ w16.cell? ⟨gb217, 2, none⟩ = some (.slice A0_2 l0_2.length c0_2) := hS_
  refine norm_ (a' := ?_) ?_ ?_
  rotate_left
  · simp only [putAll, Act.put, List.setIfInBounds_toArray, List.set_cons_zero, List.set_cons_succ]
    rfl
  refine pureA_ 7 5 HT_.out ?_
  refine done_ (done_of HT_.out (by kernel_rfl)) ?_
  try go_wp2
  go_loopg [6, 7] k (fun kq v6 v7 w' => ∃ (x4_1 : List Int) (x5_1 : List Int) (x6_1 : List Int) (x7_1 : Int), v7 = .int .i64 x7_1 ∧ Aside0 (impl_Jobs_earliest.l0 kq x4_1 x5_1 x6_1 x7_1 l0_0 l0_1 l0_2 = some (r1, r2)) ∧ Aside0 (kq ≤ k) ∧ Aside0 (Kd.R (Kd.int .i64) 2 w' w.heap.size (fun k_ => some k_ ≠ (v224 : Value).ownBlock ∧ some k_ ≠ (v6 : Value).ownBlock) v220 x4_1) ∧ Aside0 (Kd.R (Kd.int .i64) 2 w' w.heap.size (fun k_ => some k_ ≠ (v220 : Value).ownBlock ∧ some k_ ≠ (v6 : Value).ownBlock) v224 x5_1) ∧ Aside0 (Kd.R (Kd.int .i64) 2 w' w.heap.size (fun k_ => some k_ ≠ (v220 : Value).ownBlock ∧ some k_ ≠ (v224 : Value).ownBlock) v6 x6_1) ∧ Aside0 (w'.heap[gb217]? = some (.cells #[(.slice A0_0 l0_0.length c0_0), (.slice A0_1 l0_1.length c0_1), (.slice A0_2 l0_2.length c0_2)] 28 (0, 0))) ∧ Aside0 (Below w.heap.size w w'))
  case atStart => exact ⟨(y219), (y223), (([] : List Int)), (0), zq76, H', ⟨Nat.le_refl _⟩, ⟨by (with_reducible repeat (first | apply Kd.R_alloc | apply Kd.R_drewN | apply Kd.R_drew)); exact Kd.R_mono HO221.out (fun _ hk => ⟨hk, (by simp [Value.ownBlock])⟩)⟩, ⟨by (with_reducible repeat (first | apply Kd.R_alloc | apply Kd.R_drewN | apply Kd.R_drew)); exact Kd.R_mono HO225.out (fun _ hk => ⟨hk, (by simp [Value.ownBlock])⟩)⟩, ⟨by first | exact Kd.R_nil _ _ _ _ _ | exact Kd.N_nil _ _ _ _ _ | exact Kd.V_nil _ _ _ _ _ | exact Kd.Q_nil _ _ _ _ _ | exact Kd.S_nil _ _ _ _ _⟩, ⟨by (with_reducible repeat (first | refine blk_drewN ?_ _ | refine blk_drew ?_ | refine blk_alloc ?_ _)); exact BK217.out⟩, ⟨by repeat (first | (with_reducible first | exact HB.out | apply below_alloc | apply pw_below_drewN | apply below_drew1 | refine below_set ?_ GE217.out) | exact HB.out)⟩⟩
  clear H'
  try clear c1
  try clear p2
  try clear c3
  try clear c3b0
  try clear c3b1
  try clear c4
  try clear c4b0
  try clear c4b1
  try clear c6
  try clear c6b0
  try clear c6b1
  try clear c7
  try clear c7b0
  try clear c7b1
  try clear c9
  try clear c11
  obtain ⟨x4_1, x5_1, x6_1, x7_1, rfl, HA, HK1, HO_4, HO_5, HO_6, BK217, HB⟩ := hrel
  cases gk with
  | zero => exact absurd HA.out (by simp [impl_Jobs_earliest.l0])
  | succ k1 =>
    have H := HA.out
    clear HA
    simp only [impl_Jobs_earliest.l0] at H
    have H' := Aside0.mk H
    clear H
    obtain ⟨Ao17, co17, eo17⟩ := Kd.R_slice HO_4.out
    subst eo17
    go_wp2
    go_loopg [22] k1 (fun kq v22 w' => ∃ (x22_2 : Int), v22 = .int .i64 x22_2 ∧ Aside0 (impl_Jobs_earliest.l1 kq x4_1 x5_1 x6_1 x7_1 (x4_1.length : Int) x22_2 l0_0 l0_1 l0_2 = some (r1, r2)) ∧ Aside0 (kq ≤ k1) ∧ Aside0 (Kd.R (Kd.int .i64) 2 w' w.heap.size (fun k_ => some k_ ≠ (v224 : Value).ownBlock ∧ some k_ ≠ (u6 : Value).ownBlock) (.slice Ao17 x4_1.length co17) x4_1) ∧ Aside0 (Kd.R (Kd.int .i64) 2 w' w.heap.size (fun k_ => some k_ ≠ ((.slice Ao17 x4_1.length co17) : Value).ownBlock ∧ some k_ ≠ (u6 : Value).ownBlock) v224 x5_1) ∧ Aside0 (Kd.R (Kd.int .i64) 2 w' w.heap.size (fun k_ => some k_ ≠ ((.slice Ao17 x4_1.length co17) : Value).ownBlock ∧ some k_ ≠ (v224 : Value).ownBlock) u6 x6_1) ∧ Aside0 (w'.heap[gb217]? = some (.cells #[(.slice A0_0 l0_0.length c0_0), (.slice A0_1 l0_1.length c0_1), (.slice A0_2 l0_2.length c0_2)] 28 (0, 0))) ∧ Aside0 (Below w.heap.size w w'))
    case atStart => exact ⟨(0), zq76, H', ⟨Nat.le_refl _⟩, ⟨by (with_reducible repeat (first | apply Kd.R_alloc | apply Kd.R_drewN | apply Kd.R_drew)); exact HO_4.out⟩, ⟨by (with_reducible repeat (first | apply Kd.R_alloc | apply Kd.R_drewN | apply Kd.R_drew)); exact HO_5.out⟩, ⟨by (with_reducible repeat (first | apply Kd.R_alloc | apply Kd.R_drewN | apply Kd.R_drew)); exact HO_6.out⟩, ⟨by (with_reducible repeat (first | refine blk_drewN ?_ _ | refine blk_drew ?_ | refine blk_alloc ?_ _)); exact BK217.out⟩, ⟨by repeat (first | (with_reducible first | exact HB.out | apply below_alloc | apply pw_below_drewN | apply below_drew1 | refine below_set ?_ GE217.out) | exact HB.out)⟩⟩
    clear H'
    try clear c1
    try clear p2
    try clear c3
    try clear c3b0
    try clear c3b1
    try clear c4
    try clear c4b0
    try clear c4b1
    try clear c6
    try clear c6b0
    try clear c6b1
    try clear c7
    try clear c7b0
    try clear c7b1
    try clear c9
    try clear c11
    try clear p2
    obtain ⟨x22_2, rfl, HA, HK2, HO_4, HO_5, HO_6, BK217, HB⟩ := hrel
    cases gk with
    | zero => exact absurd HA.out (by simp [impl_Jobs_earliest.l1])
    | succ k2 =>
      have H := HA.out
      clear HA
      simp only [impl_Jobs_earliest.l1] at H
      by_cases c18 : x22_2 < (x4_1.length : Int)
      · rw [if_pos c18] at H
        have c18b0 : decide (x22_2 < (x4_1.length : Int)) = true := decide_eq_true c18
        clear c18
        by_cases c19 : 0 ≤ x22_2
        rotate_left
        · rw [if_neg c19] at H
          exact absurd H (by simp)
        rw [if_pos c19] at H
        have c19b0 : decide (0 ≤ x22_2) = true := decide_eq_true c19
        clear c19
        by_cases c20 : x22_2 < (x4_1.length : Int)
        rotate_left
        · rw [if_neg c20] at H
          exact absurd H (by simp)
        rw [if_pos c20] at H
        have c20b0 : decide (x22_2 < (x4_1.length : Int)) = true := decide_eq_true c20
        clear c20
        by_cases c21 : (rd x4_1 x22_2) > 0
        rotate_left
        · rw [if_neg c21] at H
          have c21b0 : decide (0 < (rd x4_1 x22_2)) = false := decide_eq_false c21
          clear c21
          have H' := Aside0.mk H
          clear H
          have p226 : 0 ≤ (x22_2 : Int) := of_decide_eq_true zq75
          have q226 : x22_2 < (x4_1.length : Int) := of_decide_eq_true zq75
          obtain ⟨ad226, e226, hx226_0⟩ := Kd.at_int (Kd.R_reads' HO_4.out).2.2 x22_2 p226 q226
          cases e226
          replace p226 := eq_true p226
          replace q226 := eq_true q226
          go_wp2
          go_roundg k2
          case measure => have := HK1.out; have := HK2.out; omega
          case rel => exact ⟨(wrap64 (x22_2 + 1)), zq76, H', ⟨by have := HK1.out; have := HK2.out; omega⟩, ⟨by (with_reducible repeat (first | apply Kd.R_alloc | apply Kd.R_drewN | apply Kd.R_drew)); exact HO_4.out⟩, ⟨by (with_reducible repeat (first | apply Kd.R_alloc | apply Kd.R_drewN | apply Kd.R_drew)); exact HO_5.out⟩, ⟨by (with_reducible repeat (first | apply Kd.R_alloc | apply Kd.R_drewN | apply Kd.R_drew)); exact HO_6.out⟩, ⟨by (with_reducible repeat (first | refine blk_drewN ?_ _ | refine blk_drew ?_ | refine blk_alloc ?_ _)); exact BK217.out⟩, ⟨by repeat (first | (with_reducible first | exact HB.out | apply below_alloc | apply pw_below_drewN | apply below_drew1 | refine below_set ?_ GE217.out) | exact HB.out)⟩⟩
        rw [if_pos c21] at H
        have c21b0 : decide (0 < (rd x4_1 x22_2)) = true := decide_eq_true c21
        clear c21
        by_cases c22 : x22_2 < (x5_1.length : Int)
        rotate_left
        · rw [if_neg c22] at H
          exact absurd H (by simp)
        rw [if_pos c22] at H
        have c22b0 : decide (x22_2 < (x5_1.length : Int)) = true := decide_eq_true c22
        clear c22
        by_cases c23 : (rd x5_1 x22_2) ≤ x7_1
        · rw [if_pos c23] at H
          have c23b0 : decide ((rd x5_1 x22_2) ≤ x7_1) = true := decide_eq_true c23
          clear c23
          simp only [Option.some.injEq, Prod.mk.injEq] at H
          obtain ⟨rfl, rfl⟩ := H
          have p226 : 0 ≤ (x22_2 : Int) := of_decide_eq_true zq75
          have q226 : x22_2 < (x4_1.length : Int) := of_decide_eq_true zq75
          obtain ⟨ad226, e226, hx226_0⟩ := Kd.at_int (Kd.R_reads' HO_4.out).2.2 x22_2 p226 q226
          cases e226
          replace p226 := eq_true p226
          replace q226 := eq_true q226
          obtain ⟨Ao24, co24, eo24⟩ := Kd.R_slice HO_5.out
          subst eo24
          have p227 : 0 ≤ (x22_2 : Int) := of_decide_eq_true zq75
          have q227 : x22_2 < (x5_1.length : Int) := of_decide_eq_true zq75
          obtain ⟨ad227, e227, hx227_0⟩ := Kd.at_int (Kd.R_reads' HO_5.out).2.2 x22_2 p227 q227
          cases e227
          replace p227 := eq_true p227
          replace q227 := eq_true q227
          go_wp2
          go_ret2
          exact ⟨_, by first | rfl | (simp [errW_none, errW_some] <;> rfl) | (simp [*, errW_none, errW_some] <;> rfl), by (with_reducible repeat (first | apply Kd.R_alloc | apply Kd.R_drewN | apply Kd.R_drew)); exact Kd.R_mono HO_6.out (fun _ hk => trivial), by repeat (first | (with_reducible first | exact HB.out | apply below_alloc | apply pw_below_drewN | apply below_drew1 | refine below_set ?_ GE217.out) | exact HB.out)⟩
        rw [if_neg c23] at H
        have c23b0 : decide ((rd x5_1 x22_2) ≤ x7_1) = false := decide_eq_false c23
        clear c23
        have H' := Aside0.mk H
        clear H
        have p226 : 0 ≤ (x22_2 : Int) := of_decide_eq_true zq75
        have q226 : x22_2 < (x4_1.length : Int) := of_decide_eq_true zq75
        obtain ⟨ad226, e226, hx226_0⟩ := Kd.at_int (Kd.R_reads' HO_4.out).2.2 x22_2 p226 q226
        cases e226
        replace p226 := eq_true p226
        replace q226 := eq_true q226
        obtain ⟨Ao25, co25, eo25⟩ := Kd.R_slice HO_5.out
        subst eo25
        have p227 : 0 ≤ (x22_2 : Int) := of_decide_eq_true zq75
        have q227 : x22_2 < (x5_1.length : Int) := of_decide_eq_true zq75
        obtain ⟨ad227, e227, hx227_0⟩ := Kd.at_int (Kd.R_reads' HO_5.out).2.2 x22_2 p227 q227
        cases e227
        replace p227 := eq_true p227
        replace q227 := eq_true q227
        go_wp2
        go_roundg k2
        case measure => have := HK1.out; have := HK2.out; omega
        case rel => exact ⟨(wrap64 (x22_2 + 1)), zq76, H', ⟨by have := HK1.out; have := HK2.out; omega⟩, ⟨by (with_reducible repeat (first | apply Kd.R_alloc | apply Kd.R_drewN | apply Kd.R_drew)); exact HO_4.out⟩, ⟨by (with_reducible repeat (first | apply Kd.R_alloc | apply Kd.R_drewN | apply Kd.R_drew)); exact HO_5.out⟩, ⟨by (with_reducible repeat (first | apply Kd.R_alloc | apply Kd.R_drewN | apply Kd.R_drew)); exact HO_6.out⟩, ⟨by (with_reducible repeat (first | refine blk_drewN ?_ _ | refine blk_drew ?_ | refine blk_alloc ?_ _)); exact BK217.out⟩, ⟨by repeat (first | (with_reducible first | exact HB.out | apply below_alloc | apply pw_below_drewN | apply below_drew1 | refine below_set ?_ GE217.out) | exact HB.out)⟩⟩
      rw [if_neg c18] at H
      have c18b0 : decide (x22_2 < (x4_1.length : Int)) = false := decide_eq_false c18
      clear c18
      replace H := Option.bind_eq_some_iff.mp H
      obtain ⟨t228, A260, H⟩ := H
      replace H : (if x7_1 = t228 then (some (x6_1, (-1))) else (impl_Jobs_earliest.l2 k2 x4_1 x5_1 x6_1 x7_1 (-1) l0_1 (l0_1.length : Int) 0 l0_0 l0_1 l0_2)) = some (r1, r2) := H
      have A26 := Aside0.mk A260
      clear A260
      by_cases c27 : x7_1 = t228
      · rw [if_pos c27] at H
        have c27b0 : (x7_1 == t228) = true := beq_iff_eq.mpr c27
        have c27b1 : (x7_1 != t228) = false := bne_eq_false_iff_eq.mpr c27
        clear c27
        simp only [Option.some.injEq, Prod.mk.injEq] at H
        obtain ⟨rfl, rfl⟩ := H
        have hcz28_0 : wr.cell? ⟨gb217, 0, none⟩ = some (.slice A0_0 l0_0.length c0_0) := (blk_cell BK217.out 0).trans rfl
        have hcz28_1 : wr.cell? ⟨gb217, 1, none⟩ = some (.slice A0_1 l0_1.length c0_1) := (blk_cell BK217.out 1).trans rfl
        have hcz28_2 : wr.cell? ⟨gb217, 2, none⟩ = some (.slice A0_2 l0_2.length c0_2) := (blk_cell BK217.out 2).trans rfl
        have hfz28_0 := blk_frozen BK217.out 0
        have hfz28_1 := blk_frozen BK217.out 1
        have hfz28_2 := blk_frozen BK217.out 2
        go_wp2_with (first | ((with_reducible refine gate_callee (f := 114) rfl ?_); refine goesL_ (some 43) rfl rfl Try.func114 (by kernel_rfl) rfl #[.agg #[.slice A0_0 l0_0.length c0_0, .slice A0_1 l0_1.length c0_1, .slice A0_2 l0_2.length c0_2]] rfl zq19 ?_; (with_reducible refine (impl_Jobs_whole.calls k2 _ _ l0_0 _ _ l0_1 _ _ l0_2 t228 _ ?side1 ?side2 ?side3 ?side4 ?side5 ?side6 A26.out).mono ?_); (case side1 => repeat (first | exact (Kd.C_below HR0_0.out HB.out) | (with_reducible refine Kd.C_alloc ?_ _) | (with_reducible refine Kd.C_drewN ?_ _) | (with_reducible refine Kd.C_drew ?_))); (case side2 => exact HC0_0.out); (case side3 => repeat (first | exact (Kd.C_below HR0_1.out HB.out) | (with_reducible refine Kd.C_alloc ?_ _) | (with_reducible refine Kd.C_drewN ?_ _) | (with_reducible refine Kd.C_drew ?_))); (case side4 => exact HC0_1.out); (case side5 => repeat (first | exact (Kd.C_below HR0_2.out HB.out) | (with_reducible refine Kd.C_alloc ?_ _) | (with_reducible refine Kd.C_drewN ?_ _) | (with_reducible refine Kd.C_drew ?_))); (case side6 => exact HC0_2.out); rintro e w29 ⟨rfl, hb⟩; refine ⟨_, rfl, ?_⟩; have n0_ := Aside0.mk (Kd.R_below zq67 hb); have n1_ := Aside0.mk (Kd.R_below zq66 hb); have n2_ := Aside0.mk (Kd.R_below zq68 hb); have n3_ := Aside0.mk (blk_below (g := gb217) (o := .cells #[.slice A0_0 l0_0.length c0_0, .slice A0_1 l0_1.length c0_1, .slice A0_2 l0_2.length c0_2] 28 (0, 0)) zq44 hb); have n4_ := Aside0.mk (below_step zq16 hb); clear HO_4; clear HO_5; clear HO_6; clear BK217; clear HB; have HO_4 := n0_; have HO_5 := n1_; have HO_6 := n2_; have BK217 := n3_; have HB := n4_; clear n0_ n1_ n2_ n3_ n4_; (try clear hb); (try clear hb2); (try clear hk); (try clear hi)))
        go_ret2
        exact ⟨_, by first | rfl | (simp [errW_none, errW_some] <;> rfl) | (simp [*, errW_none, errW_some] <;> rfl), by (with_reducible repeat (first | apply Kd.R_alloc | apply Kd.R_drewN | apply Kd.R_drew)); exact Kd.R_mono HO_6.out (fun _ hk => trivial), by repeat (first | (with_reducible first | exact HB.out | apply below_alloc | apply pw_below_drewN | apply below_drew1 | refine below_set ?_ GE217.out) | exact HB.out)⟩
      rw [if_neg c27] at H
      have c27b0 : (x7_1 == t228) = false := beq_eq_false_iff_ne.mpr c27
      have c27b1 : (x7_1 != t228) = true := bne_iff_ne.mpr c27
      have H' := Aside0.mk H
      clear H
      have hcz30_0 : wr.cell? ⟨gb217, 0, none⟩ = some (.slice A0_0 l0_0.length c0_0) := (blk_cell BK217.out 0).trans rfl
      have hcz30_1 : wr.cell? ⟨gb217, 1, none⟩ = some (.slice A0_1 l0_1.length c0_1) := (blk_cell BK217.out 1).trans rfl
      have hcz30_2 : wr.cell? ⟨gb217, 2, none⟩ = some (.slice A0_2 l0_2.length c0_2) := (blk_cell BK217.out 2).trans rfl
      have hfz30_0 := blk_frozen BK217.out 0
      have hfz30_1 := blk_frozen BK217.out 1
      have hfz30_2 := blk_frozen BK217.out 2
      go_wp2_with (first | ((with_reducible refine gate_callee (f := 114) rfl ?_); refine goesL_ (some 43) rfl rfl Try.func114 (by kernel_rfl) rfl #[.agg #[.slice A0_0 l0_0.length c0_0, .slice A0_1 l0_1.length c0_1, .slice A0_2 l0_2.length c0_2]] rfl zq19 ?_; (with_reducible refine (impl_Jobs_whole.calls k2 _ _ l0_0 _ _ l0_1 _ _ l0_2 t228 _ ?side1 ?side2 ?side3 ?side4 ?side5 ?side6 A26.out).mono ?_); (case side1 => repeat (first | exact (Kd.C_below HR0_0.out HB.out) | (with_reducible refine Kd.C_alloc ?_ _) | (with_reducible refine Kd.C_drewN ?_ _) | (with_reducible refine Kd.C_drew ?_))); (case side2 => exact HC0_0.out); (case side3 => repeat (first | exact (Kd.C_below HR0_1.out HB.out) | (with_reducible refine Kd.C_alloc ?_ _) | (with_reducible refine Kd.C_drewN ?_ _) | (with_reducible refine Kd.C_drew ?_))); (case side4 => exact HC0_1.out); (case side5 => repeat (first | exact (Kd.C_below HR0_2.out HB.out) | (with_reducible refine Kd.C_alloc ?_ _) | (with_reducible refine Kd.C_drewN ?_ _) | (with_reducible refine Kd.C_drew ?_))); (case side6 => exact HC0_2.out); rintro e w31 ⟨rfl, hb⟩; refine ⟨_, rfl, ?_⟩; have n0_ := Aside0.mk (Kd.R_below zq67 hb); have n1_ := Aside0.mk (Kd.R_below zq66 hb); have n2_ := Aside0.mk (Kd.R_below zq68 hb); have n3_ := Aside0.mk (blk_below (g := gb217) (o := .cells #[.slice A0_0 l0_0.length c0_0, .slice A0_1 l0_1.length c0_1, .slice A0_2 l0_2.length c0_2] 28 (0, 0)) zq44 hb); have n4_ := Aside0.mk (below_step zq16 hb); clear HO_4; clear HO_5; clear HO_6; clear BK217; clear HB; have HO_4 := n0_; have HO_5 := n1_; have HO_6 := n2_; have BK217 := n3_; have HB := n4_; clear n0_ n1_ n2_ n3_ n4_; (try clear hb); (try clear hb2); (try clear hk); (try clear hi); have hcz32_0 : w31.cell? ⟨gb217, 0, none⟩ = some (.slice A0_0 l0_0.length c0_0) := (blk_cell BK217.out 0).trans rfl; have hcz32_1 : w31.cell? ⟨gb217, 1, none⟩ = some (.slice A0_1 l0_1.length c0_1) := (blk_cell BK217.out 1).trans rfl; have hcz32_2 : w31.cell? ⟨gb217, 2, none⟩ = some (.slice A0_2 l0_2.length c0_2) := (blk_cell BK217.out 2).trans rfl; have hfz32_0 := blk_frozen BK217.out 0; have hfz32_1 := blk_frozen BK217.out 1; have hfz32_2 := blk_frozen BK217.out 2))
      go_loopg [9, 49] k2 (fun kq v9 v49 w' => ∃ (x4_3 : List Int) (x5_3 : List Int) (x9_3 : Int) (x49_3 : Int), v9 = .int .i64 x9_3 ∧ v49 = .int .i64 x49_3 ∧ Aside0 (impl_Jobs_earliest.l2 kq x4_3 x5_3 x6_1 x7_1 x9_3 l0_1 (l0_1.length : Int) x49_3 l0_0 l0_1 l0_2 = some (r1, r2)) ∧ Aside0 (kq ≤ k2) ∧ Aside0 (Kd.R (Kd.int .i64) 2 w' w.heap.size (fun k_ => some k_ ≠ (v224 : Value).ownBlock ∧ some k_ ≠ (u6 : Value).ownBlock) (.slice Ao17 x4_1.length co17) x4_3) ∧ Aside0 (Kd.R (Kd.int .i64) 2 w' w.heap.size (fun k_ => some k_ ≠ ((.slice Ao17 x4_1.length co17) : Value).ownBlock ∧ some k_ ≠ (u6 : Value).ownBlock) v224 x5_3) ∧ Aside0 (Kd.R (Kd.int .i64) 2 w' w.heap.size (fun k_ => some k_ ≠ ((.slice Ao17 x4_1.length co17) : Value).ownBlock ∧ some k_ ≠ (v224 : Value).ownBlock) u6 x6_1) ∧ Aside0 (w'.heap[gb217]? = some (.cells #[(.slice A0_0 l0_0.length c0_0), (.slice A0_1 l0_1.length c0_1), (.slice A0_2 l0_2.length c0_2)] 28 (0, 0))) ∧ Aside0 (Below w.heap.size w w'))
      case atStart => exact ⟨(x4_1), (x5_1), ((-1)), (0), zq76, zq76, H', ⟨Nat.le_refl _⟩, ⟨by (with_reducible repeat (first | apply Kd.R_alloc | apply Kd.R_drewN | apply Kd.R_drew)); exact HO_4.out⟩, ⟨by (with_reducible repeat (first | apply Kd.R_alloc | apply Kd.R_drewN | apply Kd.R_drew)); exact HO_5.out⟩, ⟨by (with_reducible repeat (first | apply Kd.R_alloc | apply Kd.R_drewN | apply Kd.R_drew)); exact HO_6.out⟩, ⟨by (with_reducible repeat (first | refine blk_drewN ?_ _ | refine blk_drew ?_ | refine blk_alloc ?_ _)); exact BK217.out⟩, ⟨by repeat (first | (with_reducible first | exact HB.out | apply below_alloc | apply pw_below_drewN | apply below_drew1 | refine below_set ?_ GE217.out) | exact HB.out)⟩⟩
      clear H'
      try clear c1
      try clear c2
      try clear p2
      try clear q2
      try clear hx2
      try clear c3
      try clear c3b0
      try clear c3b1
      try clear c4
      try clear c4b0
      try clear c4b1
      try clear c6
      try clear c6b0
      try clear c6b1
      try clear p6
      try clear c7
      try clear c7b0
      try clear c7b1
      try clear c9
      try clear c11
      try clear c18
      try clear c18b0
      try clear c19
      try clear c19b0
      try clear c20
      try clear c20b0
      try clear c21
      try clear c21b0
      try clear c22
      try clear c22b0
      try clear p22
      try clear q22
      try clear hx22
      try clear c23
      try clear c23b0
      try clear c27
      try clear c27b0
      try clear c27b1
      try clear hcz28_0
      try clear hcz28_1
      try clear hcz28_2
      try clear hcz30_0
      try clear hcz30_1
      try clear hcz30_2
      try clear hcz32_0
      try clear hcz32_1
      try clear hcz32_2
      try clear hfz28_0
      try clear hfz28_1
      try clear hfz28_2
      try clear hfz30_0
      try clear hfz30_1
      try clear hfz30_2
      try clear hfz32_0
      try clear hfz32_1
      try clear hfz32_2
      try clear hx226_0
      try clear hx227_0
      try clear p2
      try clear p226
      try clear p227
      try clear q226
      try clear q227
      obtain ⟨x4_3, x5_3, x9_3, x49_3, rfl, rfl, HA, HK3, HO_4, HO_5, HO_6, BK217, HB⟩ := hrel
      have hl4_3 := (Kd.R_reads' HO_4.out).1
      rw [hl4_3] at HO_4
      (try simp only [hl4_3])
      (try simp only [hl4_3] at BK217)
      (try simp only [hl4_3] at HO_5)
      (try simp only [hl4_3] at HO_6)
      cases gk with
      | zero => exact absurd HA.out (by simp [impl_Jobs_earliest.l2])
      | succ k3 =>
        have H := HA.out
        clear HA
        simp only [impl_Jobs_earliest.l2] at H
        by_cases c33 : x49_3 < (l0_1.length : Int)
        rotate_left
        · rw [if_neg c33] at H
          have c33b0 : decide (x49_3 < (l0_1.length : Int)) = false := decide_eq_false c33
          clear c33
          by_cases c82 : x9_3 = (-1)
          · rw [if_pos c82] at H
            have c82b0 : (x9_3 == (-1)) = true := beq_iff_eq.mpr c82
            have c82b1 : (x9_3 != (-1)) = false := bne_eq_false_iff_eq.mpr c82
            clear c82
            by_cases c83 : x6_1.length < 17592186044416
            rotate_left
            · rw [if_neg c83] at H
              exact absurd H (by simp)
            rw [if_pos c83] at H
            have LMc83 := Aside0.mk c83
            clear c83
            obtain ⟨y229, hy229⟩ : ∃ y_ : List Int, y_ = (x6_1 ++ [x9_3]) := ⟨_, rfl⟩
            replace H : (impl_Jobs_earliest.l0 k3 x4_3 x5_3 y229 (wrap64 (x7_1 + 1)) l0_0 l0_1 l0_2) = some (r1, r2) := by first | (rw [hy229]; with_reducible exact H) | (have H2_ := (Option.bind_some _ _).symm.trans H; rw [hy229]; with_reducible exact H2_) | (have H2_ := (Option.bind_some _ _).symm.trans H; with_reducible exact H2_) | with_reducible exact H | (rw [hy229]; exact H) | exact H
            have Ny229 := Aside0.mk hy229
            clear hy229
            have H' := Aside0.mk H
            clear H
            go_wp2_with (first | ((with_reducible refine gate_builtin (b := .append) (xs := #[.tmp 106, .tmp 108]) rfl ?_); at_builtin; refine Kd.R_append (Kd.int .i64) (w0 := w) w.heap.size rfl (.tmp 106) (.tmp 108) 22 2 (.int .i64 0) 8 rfl Try.underlying22 info2 rfl (by decide) (by omega) u6 x6_1 x9_3 [.int .i64 x9_3] (fun k_ => some k_ ≠ (.slice Ao17 x4_3.length co17 : Value).ownBlock ∧ some k_ ≠ (v224 : Value).ownBlock) (fun _ => False) rfl rfl ?aP (fun _ hk => hk.elim) ?aF ?aO ?aB ?aS ?aL ?_; (case aP => exact rfl); (case aB => exact zq16); (case aF => exact (fun k_ hk => ⟨Kd.fresh' (Kd.R_lt zq67) k_ hk, Kd.fresh' (Kd.R_lt zq66) k_ hk⟩)); (case aO => exact zq68); (case aS => exact (below_size zq16)); (case aL => have := LMc83.out; omega); intro v230 w84 ho hb hg hat; rw [← Ny229.out] at ho; have n0_ := Aside0.mk (Kd.R_after (ok := (fun k_ => some k_ ≠ (v224 : Value).ownBlock)) zq67 hg hat); have n1_ := Aside0.mk (Kd.R_after (ok := (fun k_ => some k_ ≠ (.slice Ao17 x4_3.length co17 : Value).ownBlock)) zq66 hg hat); have n2_ := Aside0.mk (blk_grown (g := gb217) (o := .cells #[.slice A0_0 l0_0.length c0_0, .slice A0_1 l0_1.length c0_1, .slice A0_2 l0_2.length c0_2] 28 (0, 0)) zq44 hg (Kd.R_ne HO_6.out BK217.out (by decide))); have n3_ := Aside0.mk (hb); have n4_ := Aside0.mk (ho); clear HO_4; clear HO_5; clear BK217; clear HB; clear HO_6; have HO_4 := n0_; have HO_5 := n1_; have BK217 := n2_; have HB := n3_; have HO231 := n4_; clear n0_ n1_ n2_ n3_ n4_; clear ho hb hg hat))
            (try simp only [← hl4_3])
            go_roundg k3
            case measure => have := HK1.out; have := HK2.out; have := HK3.out; omega
            case rel => exact ⟨(x4_3), (x5_3), (y229), (wrap64 (x7_1 + 1)), zq76, H', ⟨by have := HK1.out; have := HK2.out; have := HK3.out; omega⟩, ⟨by (try simp only [hl4_3]); (with_reducible repeat (first | apply Kd.R_alloc | apply Kd.R_drewN | apply Kd.R_drew)); exact HO_4.out⟩, ⟨by (try simp only [hl4_3]); (with_reducible repeat (first | apply Kd.R_alloc | apply Kd.R_drewN | apply Kd.R_drew)); exact HO_5.out⟩, ⟨by (try simp only [hl4_3]); (with_reducible repeat (first | apply Kd.R_alloc | apply Kd.R_drewN | apply Kd.R_drew)); exact HO231.out⟩, ⟨by (try simp only [hl4_3]); (with_reducible repeat (first | refine blk_drewN ?_ _ | refine blk_drew ?_ | refine blk_alloc ?_ _)); exact BK217.out⟩, ⟨by repeat (first | (with_reducible first | exact HB.out | apply below_alloc | apply pw_below_drewN | apply below_drew1 | refine below_set ?_ GE217.out) | exact HB.out)⟩⟩
          rw [if_neg c82] at H
          have c82b0 : (x9_3 == (-1)) = false := beq_eq_false_iff_ne.mpr c82
          have c82b1 : (x9_3 != (-1)) = true := bne_iff_ne.mpr c82
          by_cases c85 : 0 ≤ x9_3
          rotate_left
          · rw [if_neg c85] at H
            exact absurd H (by simp)
          rw [if_pos c85] at H
          have c85b0 : decide (0 ≤ x9_3) = true := decide_eq_true c85
          clear c85
          by_cases c86 : x9_3 < (x4_3.length : Int)
          rotate_left
          · rw [if_neg c86] at H
            exact absurd H (by simp)
          rw [if_pos c86] at H
          have c86b0 : decide (x9_3 < (x4_3.length : Int)) = true := decide_eq_true c86
          clear c86
          obtain ⟨y233, hy233⟩ : ∃ y_ : List Int, y_ = (x4_3.set (x9_3 : Int).toNat (wrap64 ((rd x4_3 x9_3) - 1))) := ⟨_, rfl⟩
          replace H : (if x6_1.length < 17592186044416 then (impl_Jobs_earliest.l0 k3 y233 x5_3 (x6_1 ++ [x9_3]) (wrap64 (x7_1 + 1)) l0_0 l0_1 l0_2) else (none)) = some (r1, r2) := by first | (rw [hy233]; with_reducible exact H) | (have H2_ := (Option.bind_some _ _).symm.trans H; rw [hy233]; with_reducible exact H2_) | (have H2_ := (Option.bind_some _ _).symm.trans H; with_reducible exact H2_) | with_reducible exact H | (rw [hy233]; exact H) | exact H
          have Ny233 := Aside0.mk hy233
          clear hy233
          by_cases c88 : x6_1.length < 17592186044416
          rotate_left
          · rw [if_neg c88] at H
            exact absurd H (by simp)
          rw [if_pos c88] at H
          have LMc88 := Aside0.mk c88
          clear c88
          obtain ⟨y234, hy234⟩ : ∃ y_ : List Int, y_ = (x6_1 ++ [x9_3]) := ⟨_, rfl⟩
          replace H : (impl_Jobs_earliest.l0 k3 y233 x5_3 y234 (wrap64 (x7_1 + 1)) l0_0 l0_1 l0_2) = some (r1, r2) := by first | (rw [hy234]; with_reducible exact H) | (have H2_ := (Option.bind_some _ _).symm.trans H; rw [hy234]; with_reducible exact H2_) | (have H2_ := (Option.bind_some _ _).symm.trans H; with_reducible exact H2_) | with_reducible exact H | (rw [hy234]; exact H) | exact H
          have Ny234 := Aside0.mk hy234
          clear hy234
          have H' := Aside0.mk H
          clear H
          have p232 : 0 ≤ (x9_3 : Int) := of_decide_eq_true zq75
          have q232 : x9_3 < (x4_3.length : Int) := of_decide_eq_true zq75
          obtain ⟨ad232, e232, hx232_0⟩ := Kd.at_int (Kd.R_reads' HO_4.out).2.2 x9_3 p232 q232
          cases e232
          replace p232 := eq_true p232
          replace q232 := eq_true q232
          have p87 : 0 ≤ (x9_3 : Int) := of_decide_eq_true zq75
          have q87 : (x9_3 : Int) < ((x4_3.length : Int) : Int) := of_decide_eq_true zq75
          obtain ⟨go87, co87, eo87, gb87, gl87, cl87, HG87⟩ := Kd.R_form HO_4.out (by omega)
          (first | cases eo87 | (injection eo87 with ea_ en_ ec_; (first | subst ea_ | (injection ea_ with ea_; subst ea_)); subst ec_; clear en_))
          have GB87 := Aside0.mk gb87
          have GG87 := Aside0.mk HG87
          clear gb87 gl87 HG87
          (first | simp only [add_plain] at hx232_0 | skip)
          obtain ⟨hx87_0, hf87_0⟩ := Kd.R_celln 0 HO_4.out (x9_3 : Int) p87 q87
          replace p87 := eq_true p87
          replace q87 := eq_true q87
          have HP89 := Kd.R_putg HO_4.out (x9_3 : Int) (wrap64 ((rd x4_3 x9_3) - 1))
          go_wp2_with (first | ((with_reducible refine gate_store (t := 2) (p := 105) rfl ?_); refine store_event (t := 2) (p := 105) (v := ?vo_w90) (w1 := (wr.setCell ⟨go87, (x9_3 : Int).toNat, none⟩ (.int .i64 (wrap64 ((rd x4_3 x9_3) - 1))))) ?hg ?ho ?hn ?hr ?_; (case ho => rfl); (case hg => rfl); (case hn => rfl); (case hr => first | (go_simp; done) | (go_simp; rfl)); intro w90 hw; have hg : wr.grownBy w90 (some go87) := (by rw [hw]; exact HP89.2); have hp_ : Kd.R (Kd.int .i64) 2 w90 w.heap.size (fun k_ => some k_ ≠ (v224 : Value).ownBlock ∧ some k_ ≠ (u6 : Value).ownBlock) (.slice (some ⟨go87, 0, none⟩) x4_3.length co17) y233 := (by rw [hw, Ny233.out]; exact HP89.1); clear HP89; have n0_ := Aside0.mk (hp_); have n1_ := Aside0.mk (Kd.R_after (v := (.slice (some ⟨go87, 0, none⟩) x4_3.length co17)) (v1 := (.slice (some ⟨go87, 0, none⟩) x4_3.length co17)) (ok := (fun k_ => some k_ ≠ (u6 : Value).ownBlock)) (by (with_reducible repeat (first | apply Kd.R_alloc | apply Kd.R_drewN | apply Kd.R_drew)); exact Kd.R_mono HO_5.out (fun _ hk => ⟨hk.2, hk.1⟩)) hg (.inl rfl)); have n2_ := Aside0.mk (Kd.R_after (v := (.slice (some ⟨go87, 0, none⟩) x4_3.length co17)) (v1 := (.slice (some ⟨go87, 0, none⟩) x4_3.length co17)) (ok := (fun k_ => some k_ ≠ (v224 : Value).ownBlock)) zq18 hg (.inl rfl)); have n3_ := Aside0.mk (blk_grown (g := gb217) (o := .cells #[.slice A0_0 l0_0.length c0_0, .slice A0_1 l0_1.length c0_1, .slice A0_2 l0_2.length c0_2] 28 (0, 0)) zq44 hg (Kd.R_ne HO_4.out BK217.out (by decide))); have n4_ := Aside0.mk ((by rw [hw]; exact below_set (HB.out) GB87.out : Below w.heap.size w w90)); clear HO_4; clear HO_5; clear HO_6; clear BK217; clear HB; have HO_4 := n0_; have HO_5 := n1_; have HO_6 := n2_; have BK217 := n3_; have HB := n4_; clear n0_ n1_ n2_ n3_ n4_; clear hg hw hp_) | ((with_reducible refine gate_builtin (b := .append) (xs := #[.tmp 106, .tmp 108]) rfl ?_); at_builtin; refine Kd.R_append (Kd.int .i64) (w0 := w) w.heap.size rfl (.tmp 106) (.tmp 108) 22 2 (.int .i64 0) 8 rfl Try.underlying22 info2 rfl (by decide) (by omega) u6 x6_1 x9_3 [.int .i64 x9_3] (fun k_ => some k_ ≠ (.slice (some ⟨go87, 0, none⟩) x4_3.length co17 : Value).ownBlock ∧ some k_ ≠ (v224 : Value).ownBlock) (fun _ => False) rfl rfl ?aP (fun _ hk => hk.elim) ?aF ?aO ?aB ?aS ?aL ?_; (case aP => exact rfl); (case aB => exact zq16); (case aF => exact (fun k_ hk => ⟨Kd.fresh' (Kd.R_lt zq67) k_ hk, Kd.fresh' (Kd.R_lt zq66) k_ hk⟩)); (case aO => exact zq18); (case aS => exact (below_size zq16)); (case aL => have := LMc88.out; omega); intro v235 w91 ho hb hg hat; rw [← Ny234.out] at ho; have n0_ := Aside0.mk (Kd.R_after (ok := (fun k_ => some k_ ≠ (v224 : Value).ownBlock)) zq67 hg hat); have n1_ := Aside0.mk (Kd.R_after (ok := (fun k_ => some k_ ≠ (.slice (some ⟨go87, 0, none⟩) x4_3.length co17 : Value).ownBlock)) (by (with_reducible repeat (first | apply Kd.R_alloc | apply Kd.R_drewN | apply Kd.R_drew)); exact Kd.R_mono HO_5.out (fun _ hk => ⟨hk.2, hk.1⟩)) hg hat); have n2_ := Aside0.mk (blk_grown (g := gb217) (o := .cells #[.slice A0_0 l0_0.length c0_0, .slice A0_1 l0_1.length c0_1, .slice A0_2 l0_2.length c0_2] 28 (0, 0)) zq44 hg (Kd.R_ne HO_6.out BK217.out (by decide))); have n3_ := Aside0.mk (hb); have n4_ := Aside0.mk (ho); clear HO_4; clear HO_5; clear BK217; clear HB; clear HO_6; have HO_4 := n0_; have HO_5 := n1_; have BK217 := n2_; have HB := n3_; have HO236 := n4_; clear n0_ n1_ n2_ n3_ n4_; clear ho hb hg hat))
          (try simp only [← hl4_3])
          go_roundg k3
          case measure => have := HK1.out; have := HK2.out; have := HK3.out; omega
          case rel => exact ⟨(y233), (x5_3), (y234), (wrap64 (x7_1 + 1)), zq76, H', ⟨by have := HK1.out; have := HK2.out; have := HK3.out; omega⟩, ⟨by (try simp only [hl4_3]); (with_reducible repeat (first | apply Kd.R_alloc | apply Kd.R_drewN | apply Kd.R_drew)); exact HO_4.out⟩, ⟨by (try simp only [hl4_3]); (with_reducible repeat (first | apply Kd.R_alloc | apply Kd.R_drewN | apply Kd.R_drew)); exact HO_5.out⟩, ⟨by (try simp only [hl4_3]); (with_reducible repeat (first | apply Kd.R_alloc | apply Kd.R_drewN | apply Kd.R_drew)); exact HO236.out⟩, ⟨by (try simp only [hl4_3]); (with_reducible repeat (first | refine blk_drewN ?_ _ | refine blk_drew ?_ | refine blk_alloc ?_ _)); exact BK217.out⟩, ⟨by repeat (first | (with_reducible first | exact HB.out | apply below_alloc | apply pw_below_drewN | apply below_drew1 | refine below_set ?_ GE217.out) | exact HB.out)⟩⟩
        rw [if_pos c33] at H
        have c33b0 : decide (x49_3 < (l0_1.length : Int)) = true := decide_eq_true c33
        clear c33
        by_cases c34 : 0 ≤ x49_3
        rotate_left
        · rw [if_neg c34] at H
          exact absurd H (by simp)
        rw [if_pos c34] at H
        have c34b0 : decide (0 ≤ x49_3) = true := decide_eq_true c34
        clear c34
        by_cases c35 : x49_3 < (l0_1.length : Int)
        rotate_left
        · rw [if_neg c35] at H
          exact absurd H (by simp)
        rw [if_pos c35] at H
        have c35b0 : decide (x49_3 < (l0_1.length : Int)) = true := decide_eq_true c35
        clear c35
        by_cases c36 : (rd l0_1 x49_3) = 0
        · rw [if_pos c36] at H
          exact absurd H (by simp)
        rw [if_neg c36] at H
        have c36b0 : ((rd l0_1 x49_3) == 0) = false := beq_eq_false_iff_ne.mpr c36
        have c36b1 : ((rd l0_1 x49_3) != 0) = true := bne_iff_ne.mpr c36
        by_cases c37 : (Int.tmod x7_1 (rd l0_1 x49_3)) = 0
        rotate_left
        · rw [if_neg c37] at H
          have c37b0 : ((Int.tmod x7_1 (rd l0_1 x49_3)) == 0) = false := beq_eq_false_iff_ne.mpr c37
          have c37b1 : ((Int.tmod x7_1 (rd l0_1 x49_3)) != 0) = true := bne_iff_ne.mpr c37
          by_cases c69 : x49_3 < (x4_3.length : Int)
          rotate_left
          · rw [if_neg c69] at H
            exact absurd H (by simp)
          rw [if_pos c69] at H
          have c69b0 : decide (x49_3 < (x4_3.length : Int)) = true := decide_eq_true c69
          clear c69
          by_cases c70 : (rd x4_3 x49_3) > 0
          rotate_left
          · rw [if_neg c70] at H
            have c70b0 : decide (0 < (rd x4_3 x49_3)) = false := decide_eq_false c70
            clear c70
            have H' := Aside0.mk H
            clear H
            have p237 : 0 ≤ (x49_3 : Int) := of_decide_eq_true zq75
            have q237 : x49_3 < (l0_1.length : Int) := of_decide_eq_true zq75
            obtain ⟨ad237, e237, hx237_0⟩ := Kd.at_int HR0_1.out x49_3 p237 q237
            cases e237
            replace hx237_0 := (HB.out.cell (World.block_lt_of_cell? w _ hx237_0)).trans hx237_0
            replace p237 := eq_true p237
            replace q237 := eq_true q237
            try go_wp2
            have n0_ := Aside0.mk (Kd.R_drew HO_4.out)
            have n1_ := Aside0.mk (Kd.R_drew HO_5.out)
            have n2_ := Aside0.mk (Kd.R_drew HO_6.out)
            have n3_ := Aside0.mk (blk_drew BK217.out)
            have n4_ := Aside0.mk (below_drew1 HB.out)
            clear HO_4
            clear HO_5
            clear HO_6
            clear BK217
            clear HB
            have HO_4 := n0_
            have HO_5 := n1_
            have HO_6 := n2_
            have BK217 := n3_
            have HB := n4_
            clear n0_ n1_ n2_ n3_ n4_
            have p245 : 0 ≤ (x49_3 : Int) := of_decide_eq_true zq75
            have q245 : x49_3 < (x4_3.length : Int) := of_decide_eq_true zq75
            obtain ⟨ad245, e245, hx245_0⟩ := Kd.at_int (Kd.R_reads' HO_4.out).2.2 x49_3 p245 q245
            cases e245
            replace p245 := eq_true p245
            replace q245 := eq_true q245
            refine start_ (n := 20) (S := fun w' => w'.cell? (ad245.add (x49_3).toNat) = some (.int .i64 (rd x4_3 x49_3))) (ds := []) #[false, false, false, false, false, false, false, false, false, false, false, false, false, false, false, false, false, false, false, false] (by kernel_rfl) rfl rfl (hx245_0) (fun hHeld => ?_); refine with_tabW impl_Jobs_earliest.tab19 impl_Jobs_earliest.bits19 (fun HT_ HW_ => ?_)
            generalize wr.drew = w81 at HO_4 HO_5 HO_6 BK217 HB hx245_0 hHeld ⊢
            refine pureA_ 0 76 HT_.out ?_
            refine pureA_ 1 77 HT_.out ?_
            refine pureA_ 2 78 HT_.out ?_
            refine take_ (i := 3) (N := some 79) (v := ?_) (a' := ?_) #[true, true, true, true, false, false, false, false, false, false, false, false, false, false, false, false, false, false, false, false] rfl rfl (take_ofW HT_.out HW_.out (by kernel_rfl)) (fun _ _ _ h => h) (Or.inl ⟨by rfl, ?_⟩) hHeld ?_ ?_
            rotate_left
            · intro w' s0
              go_simp
              with_reducible rfl
            rotate_left
            · simp only [Act.put, List.setIfInBounds_toArray, List.set_cons_zero, List.set_cons_succ, i64_w, i32_w]
              rfl
            refine pureA_ 4 80 HT_.out ?_
            refine pureA_ 5 81 HT_.out ?_
            refine pureU_ 6 82 HT_.out ?_
            refine pureU_ 7 83 HT_.out ?_
            refine pureU_ 8 84 HT_.out ?_
            refine pureU_ 9 85 HT_.out ?_
            refine pureU_ 10 86 HT_.out ?_
            refine pureU_ 11 87 HT_.out ?_
            refine pureU_ 12 88 HT_.out ?_
            refine pureU_ 13 89 HT_.out ?_
            refine pureU_ 14 90 HT_.out ?_
            refine pureU_ 15 91 HT_.out ?_
            refine pureU_ 16 92 HT_.out ?_
            refine pureU_ 17 93 HT_.out ?_
            refine pureU_ 18 94 HT_.out ?_
            refine pureA_ 19 95 HT_.out ?_
            refine done_ (done_of HT_.out (by kernel_rfl)) ?_
            try go_wp2
            (try simp only [← hl4_3])
            go_roundg k3
            case measure => have := HK1.out; have := HK2.out; have := HK3.out; omega
            case rel => exact ⟨(x4_3), (x5_3), (x9_3), (wrap64 (x49_3 + 1)), zq76, zq76, H', ⟨by have := HK1.out; have := HK2.out; have := HK3.out; omega⟩, ⟨by (try simp only [hl4_3]); (with_reducible repeat (first | apply Kd.R_alloc | apply Kd.R_drewN | apply Kd.R_drew)); exact HO_4.out⟩, ⟨by (try simp only [hl4_3]); (with_reducible repeat (first | apply Kd.R_alloc | apply Kd.R_drewN | apply Kd.R_drew)); exact HO_5.out⟩, ⟨by (try simp only [hl4_3]); (with_reducible repeat (first | apply Kd.R_alloc | apply Kd.R_drewN | apply Kd.R_drew)); exact HO_6.out⟩, ⟨by (try simp only [hl4_3]); (with_reducible repeat (first | refine blk_drewN ?_ _ | refine blk_drew ?_ | refine blk_alloc ?_ _)); exact BK217.out⟩, ⟨by repeat (first | (with_reducible first | exact HB.out | apply below_alloc | apply pw_below_drewN | apply below_drew1 | refine below_set ?_ GE217.out) | exact HB.out)⟩⟩
          rw [if_pos c70] at H
          have c70b0 : decide (0 < (rd x4_3 x49_3)) = true := decide_eq_true c70
          clear c70
          by_cases c71 : x9_3 = (-1)
          · rw [if_pos c71] at H
            have c71b0 : (x9_3 == (-1)) = true := beq_iff_eq.mpr c71
            have c71b1 : (x9_3 != (-1)) = false := bne_eq_false_iff_eq.mpr c71
            clear c71
            have H' := Aside0.mk H
            clear H
            have p237 : 0 ≤ (x49_3 : Int) := of_decide_eq_true zq75
            have q237 : x49_3 < (l0_1.length : Int) := of_decide_eq_true zq75
            obtain ⟨ad237, e237, hx237_0⟩ := Kd.at_int HR0_1.out x49_3 p237 q237
            cases e237
            replace hx237_0 := (HB.out.cell (World.block_lt_of_cell? w _ hx237_0)).trans hx237_0
            replace p237 := eq_true p237
            replace q237 := eq_true q237
            try go_wp2
            have n0_ := Aside0.mk (Kd.R_drew HO_4.out)
            have n1_ := Aside0.mk (Kd.R_drew HO_5.out)
            have n2_ := Aside0.mk (Kd.R_drew HO_6.out)
            have n3_ := Aside0.mk (blk_drew BK217.out)
            have n4_ := Aside0.mk (below_drew1 HB.out)
            clear HO_4
            clear HO_5
            clear HO_6
            clear BK217
            clear HB
            have HO_4 := n0_
            have HO_5 := n1_
            have HO_6 := n2_
            have BK217 := n3_
            have HB := n4_
            clear n0_ n1_ n2_ n3_ n4_
            have p245 : 0 ≤ (x49_3 : Int) := of_decide_eq_true zq75
            have q245 : x49_3 < (x4_3.length : Int) := of_decide_eq_true zq75
            obtain ⟨ad245, e245, hx245_0⟩ := Kd.at_int (Kd.R_reads' HO_4.out).2.2 x49_3 p245 q245
            cases e245
            replace p245 := eq_true p245
            replace q245 := eq_true q245
            refine start_ (n := 20) (S := fun w' => w'.cell? (ad245.add (x49_3).toNat) = some (.int .i64 (rd x4_3 x49_3))) (ds := []) #[false, false, false, false, false, false, false, false, false, false, false, false, false, false, false, false, false, false, false, false] (by kernel_rfl) rfl rfl (hx245_0) (fun hHeld => ?_); refine with_tabW impl_Jobs_earliest.tab19 impl_Jobs_earliest.bits19 (fun HT_ HW_ => ?_)
            generalize wr.drew = w72 at HO_4 HO_5 HO_6 BK217 HB hx245_0 hHeld ⊢
            refine pureA_ 0 76 HT_.out ?_
            refine pureA_ 1 77 HT_.out ?_
            refine pureA_ 2 78 HT_.out ?_
            refine take_ (i := 3) (N := some 79) (v := ?_) (a' := ?_) #[true, true, true, true, false, false, false, false, false, false, false, false, false, false, false, false, false, false, false, false] rfl rfl (take_ofW HT_.out HW_.out (by kernel_rfl)) (fun _ _ _ h => h) (Or.inl ⟨by rfl, ?_⟩) hHeld ?_ ?_
            rotate_left
            · intro w' s0
              go_simp
              with_reducible rfl
            rotate_left
            · simp only [Act.put, List.setIfInBounds_toArray, List.set_cons_zero, List.set_cons_succ, i64_w, i32_w]
              rfl
            refine pureA_ 4 80 HT_.out ?_
            refine pureA_ 5 81 HT_.out ?_
            refine pureA_ 6 82 HT_.out ?_
            refine pureA_ 7 83 HT_.out ?_
            refine pureA_ 8 84 HT_.out ?_
            refine pureU_ 9 85 HT_.out ?_
            refine pureU_ 10 86 HT_.out ?_
            refine pureU_ 11 87 HT_.out ?_
            refine pureU_ 12 88 HT_.out ?_
            refine pureU_ 13 89 HT_.out ?_
            refine pureU_ 14 90 HT_.out ?_
            refine pureU_ 15 91 HT_.out ?_
            refine pureU_ 16 92 HT_.out ?_
            refine pureU_ 17 93 HT_.out ?_
            refine pureA_ 18 94 HT_.out ?_
            refine pureA_ 19 95 HT_.out ?_
            refine done_ (done_of HT_.out (by kernel_rfl)) ?_
            try go_wp2
            (try simp only [← hl4_3])
            go_roundg k3
            case measure => have := HK1.out; have := HK2.out; have := HK3.out; omega
            case rel => exact ⟨(x4_3), (x5_3), (x49_3), (wrap64 (x49_3 + 1)), zq76, zq76, H', ⟨by have := HK1.out; have := HK2.out; have := HK3.out; omega⟩, ⟨by (try simp only [hl4_3]); (with_reducible repeat (first | apply Kd.R_alloc | apply Kd.R_drewN | apply Kd.R_drew)); exact HO_4.out⟩, ⟨by (try simp only [hl4_3]); (with_reducible repeat (first | apply Kd.R_alloc | apply Kd.R_drewN | apply Kd.R_drew)); exact HO_5.out⟩, ⟨by (try simp only [hl4_3]); (with_reducible repeat (first | apply Kd.R_alloc | apply Kd.R_drewN | apply Kd.R_drew)); exact HO_6.out⟩, ⟨by (try simp only [hl4_3]); (with_reducible repeat (first | refine blk_drewN ?_ _ | refine blk_drew ?_ | refine blk_alloc ?_ _)); exact BK217.out⟩, ⟨by repeat (first | (with_reducible first | exact HB.out | apply below_alloc | apply pw_below_drewN | apply below_drew1 | refine below_set ?_ GE217.out) | exact HB.out)⟩⟩
          rw [if_neg c71] at H
          have c71b0 : (x9_3 == (-1)) = false := beq_eq_false_iff_ne.mpr c71
          have c71b1 : (x9_3 != (-1)) = true := bne_iff_ne.mpr c71
          by_cases c73 : x49_3 < (x5_3.length : Int)
          rotate_left
          · rw [if_neg c73] at H
            exact absurd H (by simp)
          rw [if_pos c73] at H
          have c73b0 : decide (x49_3 < (x5_3.length : Int)) = true := decide_eq_true c73
          clear c73
          by_cases c74 : 0 ≤ x9_3
          rotate_left
          · rw [if_neg c74] at H
            exact absurd H (by simp)
          rw [if_pos c74] at H
          have c74b0 : decide (0 ≤ x9_3) = true := decide_eq_true c74
          clear c74
          by_cases c75 : x9_3 < (x5_3.length : Int)
          rotate_left
          · rw [if_neg c75] at H
            exact absurd H (by simp)
          rw [if_pos c75] at H
          have c75b0 : decide (x9_3 < (x5_3.length : Int)) = true := decide_eq_true c75
          clear c75
          by_cases c76 : (rd x5_3 x49_3) < (rd x5_3 x9_3)
          · rw [if_pos c76] at H
            have c76b0 : decide ((rd x5_3 x49_3) < (rd x5_3 x9_3)) = true := decide_eq_true c76
            clear c76
            have H' := Aside0.mk H
            clear H
            have p237 : 0 ≤ (x49_3 : Int) := of_decide_eq_true zq75
            have q237 : x49_3 < (l0_1.length : Int) := of_decide_eq_true zq75
            obtain ⟨ad237, e237, hx237_0⟩ := Kd.at_int HR0_1.out x49_3 p237 q237
            cases e237
            replace hx237_0 := (HB.out.cell (World.block_lt_of_cell? w _ hx237_0)).trans hx237_0
            replace p237 := eq_true p237
            replace q237 := eq_true q237
            try go_wp2
            have n0_ := Aside0.mk (Kd.R_drew HO_4.out)
            have n1_ := Aside0.mk (Kd.R_drew HO_5.out)
            have n2_ := Aside0.mk (Kd.R_drew HO_6.out)
            have n3_ := Aside0.mk (blk_drew BK217.out)
            have n4_ := Aside0.mk (below_drew1 HB.out)
            clear HO_4
            clear HO_5
            clear HO_6
            clear BK217
            clear HB
            have HO_4 := n0_
            have HO_5 := n1_
            have HO_6 := n2_
            have BK217 := n3_
            have HB := n4_
            clear n0_ n1_ n2_ n3_ n4_
            have p245 : 0 ≤ (x49_3 : Int) := of_decide_eq_true zq75
            have q245 : x49_3 < (x4_3.length : Int) := of_decide_eq_true zq75
            obtain ⟨ad245, e245, hx245_0⟩ := Kd.at_int (Kd.R_reads' HO_4.out).2.2 x49_3 p245 q245
            cases e245
            replace p245 := eq_true p245
            replace q245 := eq_true q245
            obtain ⟨Ao78, co78, eo78⟩ := Kd.R_slice HO_5.out
            (first | subst eo78 | (injection eo78 with f1_ f2_ f3_; have f4_ := f1_.symm; have f5_ := f3_.symm; clear f1_ f2_ f3_; subst f4_; subst f5_))
            have p246 : 0 ≤ (x49_3 : Int) := of_decide_eq_true zq75
            have q246 : x49_3 < (x5_3.length : Int) := of_decide_eq_true zq75
            obtain ⟨ad246, e246, hx246_0⟩ := Kd.at_int (Kd.R_reads' HO_5.out).2.2 x49_3 p246 q246
            cases e246
            replace p246 := eq_true p246
            replace q246 := eq_true q246
            have p247 : 0 ≤ (x9_3 : Int) := of_decide_eq_true zq75
            have q247 : x9_3 < (x5_3.length : Int) := of_decide_eq_true zq75
            obtain ⟨ad247, e247, hx247_0⟩ := Kd.at_int (Kd.R_reads' HO_5.out).2.2 x9_3 p247 q247
            obtain rfl : ad246 = ad247 := (by injection e247)
            replace p247 := eq_true p247
            replace q247 := eq_true q247
            refine start_ (n := 20) (S := fun w' => w'.cell? (ad245.add (x49_3).toNat) = some (.int .i64 (rd x4_3 x49_3)) ∧ w'.cell? (ad246.add (x49_3).toNat) = some (.int .i64 (rd x5_3 x49_3)) ∧ w'.cell? (ad246.add (x9_3).toNat) = some (.int .i64 (rd x5_3 x9_3))) (ds := []) #[false, false, false, false, false, false, false, false, false, false, false, false, false, false, false, false, false, false, false, false] (by kernel_rfl) rfl rfl ⟨hx245_0, hx246_0, hx247_0⟩ (fun hHeld => ?_); refine with_tabW impl_Jobs_earliest.tab19 impl_Jobs_earliest.bits19 (fun HT_ HW_ => ?_)
            generalize wr.drew = w77 at HO_4 HO_5 HO_6 BK217 HB hx245_0 hx246_0 hx247_0 hHeld ⊢
            refine pureA_ 0 76 HT_.out ?_
            refine pureA_ 1 77 HT_.out ?_
            refine pureA_ 2 78 HT_.out ?_
            refine take_ (i := 3) (N := some 79) (v := ?_) (a' := ?_) #[true, true, true, true, false, false, false, false, false, false, false, false, false, false, false, false, false, false, false, false] rfl rfl (take_ofW HT_.out HW_.out (by kernel_rfl)) (fun _ _ _ h => h) (Or.inl ⟨by rfl, ?_⟩) hHeld ?_ ?_
            rotate_left
            · rintro w' ⟨s0, s1, s2⟩
              go_simp
              with_reducible rfl
            rotate_left
            · simp only [Act.put, List.setIfInBounds_toArray, List.set_cons_zero, List.set_cons_succ, i64_w, i32_w]
              rfl
            refine pureA_ 4 80 HT_.out ?_
            refine pureA_ 5 81 HT_.out ?_
            refine pureA_ 6 82 HT_.out ?_
            refine pureA_ 7 83 HT_.out ?_
            refine pureA_ 8 84 HT_.out ?_
            refine pureA_ 9 85 HT_.out ?_
            refine pureA_ 10 86 HT_.out ?_
            refine pureA_ 11 87 HT_.out ?_
            refine pureA_ 13 89 HT_.out ?_
            refine pureA_ 14 90 HT_.out ?_
            refine pureA_ 15 91 HT_.out ?_
            refine take_ (i := 12) (N := some 88) (v := ?_) (a' := ?_) #[true, true, true, true, true, true, true, true, true, true, true, true, true, true, true, true, false, false, false, false] rfl rfl (take_ofW HT_.out HW_.out (by kernel_rfl)) (fun _ _ _ h => h) (Or.inl ⟨by rfl, ?_⟩) hHeld ?_ ?_
            rotate_left
            · rintro w' ⟨s0, s1, s2⟩
              go_simp
              with_reducible rfl
            rotate_left
            · simp only [Act.put, List.setIfInBounds_toArray, List.set_cons_zero, List.set_cons_succ, i64_w, i32_w]
              rfl
            refine take_ (i := 16) (N := some 92) (v := ?_) (a' := ?_) #[true, true, true, true, true, true, true, true, true, true, true, true, true, true, true, true, true, false, false, false] rfl rfl (take_ofW HT_.out HW_.out (by kernel_rfl)) (fun _ _ _ h => h) (Or.inl ⟨by rfl, ?_⟩) hHeld ?_ ?_
            rotate_left
            · rintro w' ⟨s0, s1, s2⟩
              go_simp
              with_reducible rfl
            rotate_left
            · simp only [Act.put, List.setIfInBounds_toArray, List.set_cons_zero, List.set_cons_succ, i64_w, i32_w]
              rfl
            refine pureA_ 17 93 HT_.out ?_
            refine pureA_ 18 94 HT_.out ?_
            refine pureA_ 19 95 HT_.out ?_
            refine done_ (done_of HT_.out (by kernel_rfl)) ?_
            try go_wp2
            (try simp only [← hl4_3])
            go_roundg k3
            case measure => have := HK1.out; have := HK2.out; have := HK3.out; omega
            case rel => exact ⟨(x4_3), (x5_3), (x49_3), (wrap64 (x49_3 + 1)), zq76, zq76, H', ⟨by have := HK1.out; have := HK2.out; have := HK3.out; omega⟩, ⟨by (try simp only [hl4_3]); (with_reducible repeat (first | apply Kd.R_alloc | apply Kd.R_drewN | apply Kd.R_drew)); exact HO_4.out⟩, ⟨by (try simp only [hl4_3]); (with_reducible repeat (first | apply Kd.R_alloc | apply Kd.R_drewN | apply Kd.R_drew)); exact HO_5.out⟩, ⟨by (try simp only [hl4_3]); (with_reducible repeat (first | apply Kd.R_alloc | apply Kd.R_drewN | apply Kd.R_drew)); exact HO_6.out⟩, ⟨by (try simp only [hl4_3]); (with_reducible repeat (first | refine blk_drewN ?_ _ | refine blk_drew ?_ | refine blk_alloc ?_ _)); exact BK217.out⟩, ⟨by repeat (first | (with_reducible first | exact HB.out | apply below_alloc | apply pw_below_drewN | apply below_drew1 | refine below_set ?_ GE217.out) | exact HB.out)⟩⟩
          rw [if_neg c76] at H
          have c76b0 : decide ((rd x5_3 x49_3) < (rd x5_3 x9_3)) = false := decide_eq_false c76
          clear c76
          have H' := Aside0.mk H
          clear H
          have p237 : 0 ≤ (x49_3 : Int) := of_decide_eq_true zq75
          have q237 : x49_3 < (l0_1.length : Int) := of_decide_eq_true zq75
          obtain ⟨ad237, e237, hx237_0⟩ := Kd.at_int HR0_1.out x49_3 p237 q237
          cases e237
          replace hx237_0 := (HB.out.cell (World.block_lt_of_cell? w _ hx237_0)).trans hx237_0
          replace p237 := eq_true p237
          replace q237 := eq_true q237
          try go_wp2
          have n0_ := Aside0.mk (Kd.R_drew HO_4.out)
          have n1_ := Aside0.mk (Kd.R_drew HO_5.out)
          have n2_ := Aside0.mk (Kd.R_drew HO_6.out)
          have n3_ := Aside0.mk (blk_drew BK217.out)
          have n4_ := Aside0.mk (below_drew1 HB.out)
          clear HO_4
          clear HO_5
          clear HO_6
          clear BK217
          clear HB
          have HO_4 := n0_
          have HO_5 := n1_
          have HO_6 := n2_
          have BK217 := n3_
          have HB := n4_
          clear n0_ n1_ n2_ n3_ n4_
          have p245 : 0 ≤ (x49_3 : Int) := of_decide_eq_true zq75
          have q245 : x49_3 < (x4_3.length : Int) := of_decide_eq_true zq75
          obtain ⟨ad245, e245, hx245_0⟩ := Kd.at_int (Kd.R_reads' HO_4.out).2.2 x49_3 p245 q245
          cases e245
          replace p245 := eq_true p245
          replace q245 := eq_true q245
          obtain ⟨Ao80, co80, eo80⟩ := Kd.R_slice HO_5.out
          (first | subst eo80 | (injection eo80 with f1_ f2_ f3_; have f4_ := f1_.symm; have f5_ := f3_.symm; clear f1_ f2_ f3_; subst f4_; subst f5_))
          have p246 : 0 ≤ (x49_3 : Int) := of_decide_eq_true zq75
          have q246 : x49_3 < (x5_3.length : Int) := of_decide_eq_true zq75
          obtain ⟨ad246, e246, hx246_0⟩ := Kd.at_int (Kd.R_reads' HO_5.out).2.2 x49_3 p246 q246
          cases e246
          replace p246 := eq_true p246
          replace q246 := eq_true q246
          have p247 : 0 ≤ (x9_3 : Int) := of_decide_eq_true zq75
          have q247 : x9_3 < (x5_3.length : Int) := of_decide_eq_true zq75
          obtain ⟨ad247, e247, hx247_0⟩ := Kd.at_int (Kd.R_reads' HO_5.out).2.2 x9_3 p247 q247
          obtain rfl : ad246 = ad247 := (by injection e247)
          replace p247 := eq_true p247
          replace q247 := eq_true q247
          refine start_ (n := 20) (S := fun w' => w'.cell? (ad245.add (x49_3).toNat) = some (.int .i64 (rd x4_3 x49_3)) ∧ w'.cell? (ad246.add (x49_3).toNat) = some (.int .i64 (rd x5_3 x49_3)) ∧ w'.cell? (ad246.add (x9_3).toNat) = some (.int .i64 (rd x5_3 x9_3))) (ds := []) #[false, false, false, false, false, false, false, false, false, false, false, false, false, false, false, false, false, false, false, false] (by kernel_rfl) rfl rfl ⟨hx245_0, hx246_0, hx247_0⟩ (fun hHeld => ?_); refine with_tabW impl_Jobs_earliest.tab19 impl_Jobs_earliest.bits19 (fun HT_ HW_ => ?_)
          generalize wr.drew = w79 at HO_4 HO_5 HO_6 BK217 HB hx245_0 hx246_0 hx247_0 hHeld ⊢
          refine pureA_ 0 76 HT_.out ?_
          refine pureA_ 1 77 HT_.out ?_
          refine pureA_ 2 78 HT_.out ?_
          refine take_ (i := 3) (N := some 79) (v := ?_) (a' := ?_) #[true, true, true, true, false, false, false, false, false, false, false, false, false, false, false, false, false, false, false, false] rfl rfl (take_ofW HT_.out HW_.out (by kernel_rfl)) (fun _ _ _ h => h) (Or.inl ⟨by rfl, ?_⟩) hHeld ?_ ?_
          rotate_left
          · rintro w' ⟨s0, s1, s2⟩
            go_simp
            with_reducible rfl
          rotate_left
          · simp only [Act.put, List.setIfInBounds_toArray, List.set_cons_zero, List.set_cons_succ, i64_w, i32_w]
            rfl
          refine pureA_ 4 80 HT_.out ?_
          refine pureA_ 5 81 HT_.out ?_
          refine pureA_ 6 82 HT_.out ?_
          refine pureA_ 7 83 HT_.out ?_
          refine pureA_ 8 84 HT_.out ?_
          refine pureA_ 9 85 HT_.out ?_
          refine pureA_ 10 86 HT_.out ?_
          refine pureA_ 11 87 HT_.out ?_
          refine pureA_ 13 89 HT_.out ?_
          refine pureA_ 14 90 HT_.out ?_
          refine pureA_ 15 91 HT_.out ?_
          refine take_ (i := 12) (N := some 88) (v := ?_) (a' := ?_) #[true, true, true, true, true, true, true, true, true, true, true, true, true, true, true, true, false, false, false, false] rfl rfl (take_ofW HT_.out HW_.out (by kernel_rfl)) (fun _ _ _ h => h) (Or.inl ⟨by rfl, ?_⟩) hHeld ?_ ?_
          rotate_left
          · rintro w' ⟨s0, s1, s2⟩
            go_simp
            with_reducible rfl
          rotate_left
          · simp only [Act.put, List.setIfInBounds_toArray, List.set_cons_zero, List.set_cons_succ, i64_w, i32_w]
            rfl
          refine take_ (i := 16) (N := some 92) (v := ?_) (a' := ?_) #[true, true, true, true, true, true, true, true, true, true, true, true, true, true, true, true, true, false, false, false] rfl rfl (take_ofW HT_.out HW_.out (by kernel_rfl)) (fun _ _ _ h => h) (Or.inl ⟨by rfl, ?_⟩) hHeld ?_ ?_
          rotate_left
          · rintro w' ⟨s0, s1, s2⟩
            go_simp
            with_reducible rfl
          rotate_left
          · simp only [Act.put, List.setIfInBounds_toArray, List.set_cons_zero, List.set_cons_succ, i64_w, i32_w]
            rfl
          refine pureA_ 17 93 HT_.out ?_
          refine pureA_ 18 94 HT_.out ?_
          refine pureA_ 19 95 HT_.out ?_
          refine done_ (done_of HT_.out (by kernel_rfl)) ?_
          try go_wp2
          (try simp only [← hl4_3])
          go_roundg k3
          case measure => have := HK1.out; have := HK2.out; have := HK3.out; omega
          case rel => exact ⟨(x4_3), (x5_3), (x9_3), (wrap64 (x49_3 + 1)), zq76, zq76, H', ⟨by have := HK1.out; have := HK2.out; have := HK3.out; omega⟩, ⟨by (try simp only [hl4_3]); (with_reducible repeat (first | apply Kd.R_alloc | apply Kd.R_drewN | apply Kd.R_drew)); exact HO_4.out⟩, ⟨by (try simp only [hl4_3]); (with_reducible repeat (first | apply Kd.R_alloc | apply Kd.R_drewN | apply Kd.R_drew)); exact HO_5.out⟩, ⟨by (try simp only [hl4_3]); (with_reducible repeat (first | apply Kd.R_alloc | apply Kd.R_drewN | apply Kd.R_drew)); exact HO_6.out⟩, ⟨by (try simp only [hl4_3]); (with_reducible repeat (first | refine blk_drewN ?_ _ | refine blk_drew ?_ | refine blk_alloc ?_ _)); exact BK217.out⟩, ⟨by repeat (first | (with_reducible first | exact HB.out | apply below_alloc | apply pw_below_drewN | apply below_drew1 | refine below_set ?_ GE217.out) | exact HB.out)⟩⟩
        rw [if_pos c37] at H
        have c37b0 : ((Int.tmod x7_1 (rd l0_1 x49_3)) == 0) = true := beq_iff_eq.mpr c37
        have c37b1 : ((Int.tmod x7_1 (rd l0_1 x49_3)) != 0) = false := bne_eq_false_iff_eq.mpr c37
        clear c37
        by_cases c38 : x49_3 < (l0_0.length : Int)
        rotate_left
        · rw [if_neg c38] at H
          exact absurd H (by simp)
        rw [if_pos c38] at H
        have c38b0 : decide (x49_3 < (l0_0.length : Int)) = true := decide_eq_true c38
        clear c38
        by_cases c39 : x49_3 < (l0_2.length : Int)
        rotate_left
        · rw [if_neg c39] at H
          exact absurd H (by simp)
        rw [if_pos c39] at H
        have c39b0 : decide (x49_3 < (l0_2.length : Int)) = true := decide_eq_true c39
        clear c39
        by_cases c40 : x49_3 < (x4_3.length : Int)
        rotate_left
        · rw [if_neg c40] at H
          exact absurd H (by simp)
        rw [if_pos c40] at H
        have c40b0 : decide (x49_3 < (x4_3.length : Int)) = true := decide_eq_true c40
        clear c40
        obtain ⟨y240, hy240⟩ : ∃ y_ : List Int, y_ = (x4_3.set (x49_3 : Int).toNat (rd l0_0 x49_3)) := ⟨_, rfl⟩
        replace H : (if x49_3 < (x5_3.length : Int) then ((some (x5_3.set (x49_3 : Int).toNat (wrap64 (x7_1 + (rd l0_2 x49_3))) : List Int)).bind fun y241 => (if (rd y240 x49_3) > 0 then (if x9_3 = (-1) then (impl_Jobs_earliest.l2 k3 y240 y241 x6_1 x7_1 x49_3 l0_1 (l0_1.length : Int) (wrap64 (x49_3 + 1)) l0_0 l0_1 l0_2) else (if 0 ≤ x9_3 then (if x9_3 < (x5_3.length : Int) then (if (rd y241 x49_3) < (rd y241 x9_3) then (impl_Jobs_earliest.l2 k3 y240 y241 x6_1 x7_1 x49_3 l0_1 (l0_1.length : Int) (wrap64 (x49_3 + 1)) l0_0 l0_1 l0_2) else (impl_Jobs_earliest.l2 k3 y240 y241 x6_1 x7_1 x9_3 l0_1 (l0_1.length : Int) (wrap64 (x49_3 + 1)) l0_0 l0_1 l0_2)) else (none)) else (none))) else (impl_Jobs_earliest.l2 k3 y240 y241 x6_1 x7_1 x9_3 l0_1 (l0_1.length : Int) (wrap64 (x49_3 + 1)) l0_0 l0_1 l0_2))) else (none)) = some (r1, r2) := by first | (rw [hy240]; with_reducible exact H) | (have H2_ := (Option.bind_some _ _).symm.trans H; rw [hy240]; with_reducible exact H2_) | (have H2_ := (Option.bind_some _ _).symm.trans H; with_reducible exact H2_) | with_reducible exact H | (rw [hy240]; exact H) | exact H
        have Ny240 := Aside0.mk hy240
        clear hy240
        by_cases c42 : x49_3 < (x5_3.length : Int)
        rotate_left
        · rw [if_neg c42] at H
          exact absurd H (by simp)
        rw [if_pos c42] at H
        have c42b0 : decide (x49_3 < (x5_3.length : Int)) = true := decide_eq_true c42
        clear c42
        obtain ⟨y241, hy241⟩ : ∃ y_ : List Int, y_ = (x5_3.set (x49_3 : Int).toNat (wrap64 (x7_1 + (rd l0_2 x49_3)))) := ⟨_, rfl⟩
        replace H : (if (rd y240 x49_3) > 0 then (if x9_3 = (-1) then (impl_Jobs_earliest.l2 k3 y240 y241 x6_1 x7_1 x49_3 l0_1 (l0_1.length : Int) (wrap64 (x49_3 + 1)) l0_0 l0_1 l0_2) else (if 0 ≤ x9_3 then (if x9_3 < (x5_3.length : Int) then (if (rd y241 x49_3) < (rd y241 x9_3) then (impl_Jobs_earliest.l2 k3 y240 y241 x6_1 x7_1 x49_3 l0_1 (l0_1.length : Int) (wrap64 (x49_3 + 1)) l0_0 l0_1 l0_2) else (impl_Jobs_earliest.l2 k3 y240 y241 x6_1 x7_1 x9_3 l0_1 (l0_1.length : Int) (wrap64 (x49_3 + 1)) l0_0 l0_1 l0_2)) else (none)) else (none))) else (impl_Jobs_earliest.l2 k3 y240 y241 x6_1 x7_1 x9_3 l0_1 (l0_1.length : Int) (wrap64 (x49_3 + 1)) l0_0 l0_1 l0_2)) = some (r1, r2) := by first | (rw [hy241]; with_reducible exact H) | (have H2_ := (Option.bind_some _ _).symm.trans H; rw [hy241]; with_reducible exact H2_) | (have H2_ := (Option.bind_some _ _).symm.trans H; with_reducible exact H2_) | with_reducible exact H | (rw [hy241]; exact H) | exact H
        have Ny241 := Aside0.mk hy241
        clear hy241
        by_cases c44 : (rd y240 x49_3) > 0
        rotate_left
        · rw [if_neg c44] at H
          have c44b0 : decide (0 < (rd y240 x49_3)) = false := decide_eq_false c44
          clear c44
          have H' := Aside0.mk H
          clear H
          have p237 : 0 ≤ (x49_3 : Int) := of_decide_eq_true zq75
          have q237 : x49_3 < (l0_1.length : Int) := of_decide_eq_true zq75
          obtain ⟨ad237, e237, hx237_0⟩ := Kd.at_int HR0_1.out x49_3 p237 q237
          cases e237
          replace hx237_0 := (HB.out.cell (World.block_lt_of_cell? w _ hx237_0)).trans hx237_0
          replace p237 := eq_true p237
          replace q237 := eq_true q237
          try go_wp2
          have n0_ := Aside0.mk (Kd.R_drew HO_4.out)
          have n1_ := Aside0.mk (Kd.R_drew HO_5.out)
          have n2_ := Aside0.mk (Kd.R_drew HO_6.out)
          have n3_ := Aside0.mk (blk_drew BK217.out)
          have n4_ := Aside0.mk (below_drew1 HB.out)
          clear HO_4
          clear HO_5
          clear HO_6
          clear BK217
          clear HB
          have HO_4 := n0_
          have HO_5 := n1_
          have HO_6 := n2_
          have BK217 := n3_
          have HB := n4_
          clear n0_ n1_ n2_ n3_ n4_
          have p238 : 0 ≤ (x49_3 : Int) := of_decide_eq_true zq75
          have q238 : x49_3 < (l0_0.length : Int) := of_decide_eq_true zq75
          obtain ⟨ad238, e238, hx238_0⟩ := Kd.at_int HR0_0.out x49_3 p238 q238
          have hw238_0 := hx238_0
          cases e238
          replace hx238_0 := (HB.out.cell (World.block_lt_of_cell? w _ hx238_0)).trans hx238_0
          replace p238 := eq_true p238
          replace q238 := eq_true q238
          have p239 : 0 ≤ (x49_3 : Int) := of_decide_eq_true zq75
          have q239 : x49_3 < (l0_2.length : Int) := of_decide_eq_true zq75
          obtain ⟨ad239, e239, hx239_0⟩ := Kd.at_int HR0_2.out x49_3 p239 q239
          have hw239_0 := hx239_0
          cases e239
          replace hx239_0 := (HB.out.cell (World.block_lt_of_cell? w _ hx239_0)).trans hx239_0
          replace p239 := eq_true p239
          replace q239 := eq_true q239
          have p41 : 0 ≤ (x49_3 : Int) := of_decide_eq_true zq75
          have q41 : (x49_3 : Int) < ((x4_3.length : Int) : Int) := of_decide_eq_true zq75
          obtain ⟨go41, co41, eo41, gb41, gl41, cl41, HG41⟩ := Kd.R_form HO_4.out (by omega)
          (first | cases eo41 | (injection eo41 with ea_ en_ ec_; (first | subst ea_ | (injection ea_ with ea_; subst ea_)); subst ec_; clear en_))
          have GB41 := Aside0.mk gb41
          have GG41 := Aside0.mk HG41
          clear gb41 gl41 HG41
          obtain ⟨hx41_0, hf41_0⟩ := Kd.R_celln 0 HO_4.out (x49_3 : Int) p41 q41
          replace p41 := eq_true p41
          replace q41 := eq_true q41
          have HP65 := Kd.R_putn HO_4.out (x49_3 : Int) (rd l0_0 x49_3)
          rw [← Ny240.out] at HP65
          have HQ65 := Aside0.mk HP65
          clear HP65
          have p43 : 0 ≤ (x49_3 : Int) := of_decide_eq_true zq75
          have q43 : (x49_3 : Int) < ((x5_3.length : Int) : Int) := of_decide_eq_true zq75
          obtain ⟨go43, co43, eo43, gb43, gl43, cl43, HG43⟩ := Kd.R_form HO_5.out (by omega)
          (first | cases eo43 | (injection eo43 with ea_ en_ ec_; (first | subst ea_ | (injection ea_ with ea_; subst ea_)); subst ec_; clear en_))
          have GB43 := Aside0.mk gb43
          have GG43 := Aside0.mk HG43
          clear gb43 gl43 HG43
          obtain ⟨hx43_0, hf43_0⟩ := Kd.R_celln 0 (Kd.R_far (p := ⟨go41, (x49_3 : Int).toNat, none⟩) (Kd.R_mono HO_5.out (fun k_ hk => (⟨hk, fun e_ => hk.1 zq77⟩ : _ ∧ k_ ≠ go41))) (fun _ hk => hk.2) (.int .i64 (rd l0_0 x49_3))) (x49_3 : Int) p43 q43
          replace p43 := eq_true p43
          replace q43 := eq_true q43
          have HP66 := Kd.R_putn (Kd.R_far (p := ⟨go41, (x49_3 : Int).toNat, none⟩) (Kd.R_mono HO_5.out (fun k_ hk => (⟨hk, fun e_ => hk.1 zq77⟩ : _ ∧ k_ ≠ go41))) (fun _ hk => hk.2) (.int .i64 (rd l0_0 x49_3))) (x49_3 : Int) (wrap64 (x7_1 + (rd l0_2 x49_3)))
          rw [← Ny241.out] at HP66
          have HQ66 := Aside0.mk HP66
          clear HP66
          refine start_ (n := 20) (S := fun w' => w'.cell? ⟨gb217, 0, none⟩ = some (.slice (some ad238) l0_0.length c0_0) ∧ w'.cell? ⟨gb217, 1, none⟩ = some (.slice (some ad237) l0_1.length c0_1) ∧ w'.cell? ⟨gb217, 2, none⟩ = some (.slice (some ad239) l0_2.length c0_2) ∧ w'.cell? (ad238.add (x49_3).toNat) = some (.int .i64 (rd l0_0 x49_3)) ∧ w'.cell? (ad239.add (x49_3).toNat) = some (.int .i64 (rd l0_2 x49_3))) (ds := [17, 19]) #[false, false, false, false, false, false, false, false, false, false, false, false, false, false, false, false, false, false, false, false] (by kernel_rfl) rfl rfl ⟨(blk_cell BK217.out 0).trans rfl, (blk_cell BK217.out 1).trans rfl, (blk_cell BK217.out 2).trans rfl, ((HB.out.cell (World.block_lt_of_cell? w _ hw238_0)).trans hw238_0), ((HB.out.cell (World.block_lt_of_cell? w _ hw239_0)).trans hw239_0)⟩ (fun hHeld => ?_); refine with_tabW impl_Jobs_earliest.tab18 impl_Jobs_earliest.bits18 (fun HT_ HW_ => ?_)
          generalize wr.drew = w64 at HO_4 HO_5 HO_6 BK217 HB GG41 GG43 HQ65 HQ66 hf41_0 hf43_0 hx238_0 hx239_0 hx41_0 hx43_0 hHeld ⊢
          refine pureA_ 0 58 HT_.out ?_
          refine pureA_ 1 59 HT_.out ?_
          refine pureA_ 2 60 HT_.out ?_
          refine pureA_ 3 61 HT_.out ?_
          refine pureA_ 4 62 HT_.out ?_
          refine pureA_ 6 64 HT_.out ?_
          refine pureA_ 9 67 HT_.out ?_
          refine pureA_ 10 68 HT_.out ?_
          refine pureA_ 12 70 HT_.out ?_
          refine take_ (i := 5) (N := some 63) (v := ?_) (a' := ?_) #[true, true, true, true, true, true, true, false, false, true, true, false, true, false, false, false, false, false, false, false] rfl rfl (take_ofW HT_.out HW_.out (by kernel_rfl)) (fun _ _ _ h => h) (Or.inl ⟨by rfl, ?_⟩) hHeld ?_ ?_
          rotate_left
          · rintro w' ⟨s0, s1, s2, s3, s4⟩
            go_simp
            with_reducible rfl
          rotate_left
          · simp only [Act.put, List.setIfInBounds_toArray, List.set_cons_zero, List.set_cons_succ, i64_w, i32_w]
            rfl
          refine pureA_ 7 65 HT_.out ?_
          refine take_ (i := 8) (N := some 66) (v := ?_) (a' := ?_) #[true, true, true, true, true, true, true, true, true, true, true, false, true, false, false, false, false, false, false, false] rfl rfl (take_ofW HT_.out HW_.out (by kernel_rfl)) (fun _ _ _ h => h) (Or.inl ⟨by rfl, ?_⟩) hHeld ?_ ?_
          rotate_left
          · rintro w' ⟨s0, s1, s2, s3, s4⟩
            go_simp
            with_reducible rfl
          rotate_left
          · simp only [Act.put, List.setIfInBounds_toArray, List.set_cons_zero, List.set_cons_succ, i64_w, i32_w]
            rfl
          refine take_ (i := 11) (N := some 69) (v := ?_) (a' := ?_) #[true, true, true, true, true, true, true, true, true, true, true, true, true, false, false, false, false, false, false, false] rfl rfl (take_ofW HT_.out HW_.out (by kernel_rfl)) (fun _ _ _ h => h) (Or.inl ⟨by rfl, ?_⟩) hHeld ?_ ?_
          rotate_left
          · rintro w' ⟨s0, s1, s2, s3, s4⟩
            go_simp
            with_reducible rfl
          rotate_left
          · simp only [Act.put, List.setIfInBounds_toArray, List.set_cons_zero, List.set_cons_succ, i64_w, i32_w]
            rfl
          refine pureA_ 13 71 HT_.out ?_
          refine take_ (i := 14) (N := some 72) (v := ?_) (a' := ?_) #[true, true, true, true, true, true, true, true, true, true, true, true, true, true, true, false, false, false, false, false] rfl rfl (take_ofW HT_.out HW_.out (by kernel_rfl)) (fun _ _ _ h => h) (Or.inl ⟨by rfl, ?_⟩) hHeld ?_ ?_
          rotate_left
          · rintro w' ⟨s0, s1, s2, s3, s4⟩
            go_simp
            with_reducible rfl
          rotate_left
          · simp only [Act.put, List.setIfInBounds_toArray, List.set_cons_zero, List.set_cons_succ, i64_w, i32_w]
            rfl
          refine pureA_ 15 73 HT_.out ?_
          refine pureA_ 16 74 HT_.out ?_
          refine last_ (i := 17) (N := none) #[true, true, true, true, true, true, true, true, true, true, true, true, true, true, true, true, true, true, false, false] rfl rfl (one_of HT_.out (by kernel_rfl)) (by decide) (fun K hK => ?_)
          refine skip_ (w1 := ?_) (by rfl) rfl ?_ ?_
          rotate_left
          · go_simp
            rfl
          refine hK.out _ _ ?_
          clear hK K
          refine pureA_ 18 75 HT_.out ?_
          refine last_ (i := 19) (N := none) #[true, true, true, true, true, true, true, true, true, true, true, true, true, true, true, true, true, true, true, true] rfl rfl (one_of HT_.out (by kernel_rfl)) (by decide) (fun K hK => ?_)
          refine skip_ (w1 := ?_) (by rfl) rfl ?_ ?_
          rotate_left
          · go_simp
            rfl
          refine hK.out _ _ ?_
          clear hK K
          refine done_ (done_of HT_.out (by kernel_rfl)) ?_
          try go_wp2
          have n0_ : Aside0 (Kd.R (Kd.int .i64) 2 ((w64.setCell ⟨go41, (x49_3 : Int).toNat, none⟩ (.int .i64 (rd l0_0 x49_3))).setCell ⟨go43, (x49_3 : Int).toNat, none⟩ (.int .i64 (wrap64 (x7_1 + (rd l0_2 x49_3))))) w.heap.size (fun k_ => some k_ ≠ (.slice (some ⟨go43, 0, none⟩) x5_3.length co43 : Value).ownBlock ∧ some k_ ≠ (u6 : Value).ownBlock) (.slice (some ⟨go41, 0, none⟩) x4_3.length co17) y240) := ⟨by (with_reducible repeat (first | apply Kd.R_alloc | apply Kd.R_drewN | apply Kd.R_drew)); exact Kd.R_mono (Kd.R_far (p := ⟨go43, (x49_3 : Int).toNat, none⟩) (Kd.R_mono HQ65.out (fun k_ hk => (⟨hk, fun e_ => hk.1 zq77⟩ : _ ∧ k_ ≠ go43))) (fun _ hk => hk.2) (.int .i64 (wrap64 (x7_1 + (rd l0_2 x49_3))))) (fun _ hk => ⟨hk.1.1, hk.1.2⟩)⟩
          have n1_ : Aside0 (Kd.R (Kd.int .i64) 2 ((w64.setCell ⟨go41, (x49_3 : Int).toNat, none⟩ (.int .i64 (rd l0_0 x49_3))).setCell ⟨go43, (x49_3 : Int).toNat, none⟩ (.int .i64 (wrap64 (x7_1 + (rd l0_2 x49_3))))) w.heap.size (fun k_ => some k_ ≠ (.slice (some ⟨go41, 0, none⟩) x4_3.length co17 : Value).ownBlock ∧ some k_ ≠ (u6 : Value).ownBlock) (.slice (some ⟨go43, 0, none⟩) x5_3.length co43) y241) := ⟨by (with_reducible repeat (first | apply Kd.R_alloc | apply Kd.R_drewN | apply Kd.R_drew)); exact Kd.R_mono HQ66.out (fun _ hk => ⟨hk.1.1, hk.1.2⟩)⟩
          have n2_ : Aside0 (Kd.R (Kd.int .i64) 2 ((w64.setCell ⟨go41, (x49_3 : Int).toNat, none⟩ (.int .i64 (rd l0_0 x49_3))).setCell ⟨go43, (x49_3 : Int).toNat, none⟩ (.int .i64 (wrap64 (x7_1 + (rd l0_2 x49_3))))) w.heap.size (fun k_ => some k_ ≠ (.slice (some ⟨go41, 0, none⟩) x4_3.length co17 : Value).ownBlock ∧ some k_ ≠ (.slice (some ⟨go43, 0, none⟩) x5_3.length co43 : Value).ownBlock) u6 x6_1) := ⟨by (with_reducible repeat (first | apply Kd.R_alloc | apply Kd.R_drewN | apply Kd.R_drew)); exact Kd.R_mono (Kd.R_far (p := ⟨go43, (x49_3 : Int).toNat, none⟩) (Kd.R_far (p := ⟨go41, (x49_3 : Int).toNat, none⟩) (Kd.R_mono (Kd.R_mono HO_6.out (fun k_ hk => (⟨hk, fun e_ => hk.1 zq77⟩ : _ ∧ k_ ≠ go41))) (fun k_ hk => (⟨hk, fun e_ => hk.1.2 zq77⟩ : _ ∧ k_ ≠ go43))) (fun _ hk => hk.1.2) (.int .i64 (rd l0_0 x49_3))) (fun _ hk => hk.2) (.int .i64 (wrap64 (x7_1 + (rd l0_2 x49_3))))) (fun _ hk => ⟨hk.1.1.1, hk.1.1.2⟩)⟩
          have n3_ : Aside0 (((w64.setCell ⟨go41, (x49_3 : Int).toNat, none⟩ (.int .i64 (rd l0_0 x49_3))).setCell ⟨go43, (x49_3 : Int).toNat, none⟩ (.int .i64 (wrap64 (x7_1 + (rd l0_2 x49_3))))).heap[gb217]? = some (.cells #[.slice (some ad238) l0_0.length c0_0, .slice (some ad237) l0_1.length c0_1, .slice (some ad239) l0_2.length c0_2] 28 (0, 0))) := ⟨by (with_reducible repeat (first | refine blk_drewN ?_ _ | refine blk_drew ?_ | refine blk_alloc ?_ _)); refine blk_far ?_ zq72 _; (with_reducible repeat (first | refine blk_drewN ?_ _ | refine blk_drew ?_ | refine blk_alloc ?_ _)); refine blk_far ?_ zq73 _; (with_reducible repeat (first | refine blk_drewN ?_ _ | refine blk_drew ?_ | refine blk_alloc ?_ _)); exact BK217.out⟩
          have n4_ : Aside0 (Below w.heap.size w ((w64.setCell ⟨go41, (x49_3 : Int).toNat, none⟩ (.int .i64 (rd l0_0 x49_3))).setCell ⟨go43, (x49_3 : Int).toNat, none⟩ (.int .i64 (wrap64 (x7_1 + (rd l0_2 x49_3)))))) := ⟨by repeat (first | (with_reducible first | exact HB.out | apply below_alloc | apply pw_below_drewN | apply below_drew1 | refine below_set ?_ GB41.out | refine below_set ?_ GB43.out | refine below_set ?_ GE217.out) | exact HB.out)⟩
          (try clear HO_4)
          (try clear HO_5)
          (try clear HO_6)
          (try clear BK217)
          (try clear HB)
          generalize ((w64.setCell ⟨go41, (x49_3 : Int).toNat, none⟩ (.int .i64 (rd l0_0 x49_3))).setCell ⟨go43, (x49_3 : Int).toNat, none⟩ (.int .i64 (wrap64 (x7_1 + (rd l0_2 x49_3))))) = w67 at n0_ n1_ n2_ n3_ n4_ ⊢
          have HO_4 := n0_
          have HO_5 := n1_
          have HO_6 := n2_
          have BK217 := n3_
          have HB := n4_
          clear n0_ n1_ n2_ n3_ n4_
          have n0_ := Aside0.mk (Kd.R_drew HO_4.out)
          have n1_ := Aside0.mk (Kd.R_drew HO_5.out)
          have n2_ := Aside0.mk (Kd.R_drew HO_6.out)
          have n3_ := Aside0.mk (blk_drew BK217.out)
          have n4_ := Aside0.mk (below_drew1 HB.out)
          clear HO_4
          clear HO_5
          clear HO_6
          clear BK217
          clear HB
          have HO_4 := n0_
          have HO_5 := n1_
          have HO_6 := n2_
          have BK217 := n3_
          have HB := n4_
          clear n0_ n1_ n2_ n3_ n4_
          have p242 : 0 ≤ (x49_3 : Int) := of_decide_eq_true zq75
          have q242 : x49_3 < (y240.length : Int) := (by have h_ : (x49_3 : Int) < ((x4_3.length : Int) : Int) := of_decide_eq_true zq75; first | (have e_ := (Kd.R_reads' HO_4.out).1; omega) | simpa only [Ny240.out, List.length_set] using h_)
          have ql242 : ((x49_3 : Int) < ((x4_3.length : Int) : Int)) = True := eq_true (of_decide_eq_true zq75)
          obtain ⟨ad242, e242, hx242_0⟩ := Kd.at_int (Kd.R_reads' HO_4.out).2.2 x49_3 p242 q242
          obtain rfl : (⟨go41, 0, none⟩ : Addr) = ad242 := (by injection e242)
          (first | simp only [add_plain] at hx242_0 | simp only [add_at] at hx242_0 | simp only [Addr.add, Nat.zero_add] at hx242_0 | skip)
          replace p242 := eq_true p242
          replace q242 := eq_true q242
          refine start_ (n := 20) (S := fun w' => w'.cell? ⟨go41, (x49_3).toNat, none⟩ = some (.int .i64 (rd y240 x49_3))) (ds := []) #[false, false, false, false, false, false, false, false, false, false, false, false, false, false, false, false, false, false, false, false] (by kernel_rfl) rfl rfl (hx242_0) (fun hHeld => ?_); refine with_tabW impl_Jobs_earliest.tab19 impl_Jobs_earliest.bits19 (fun HT_ HW_ => ?_)
          generalize w67.drew = w68 at HO_4 HO_5 HO_6 BK217 HB HQ65 HQ66 hx242_0 hHeld ⊢
          refine pureA_ 0 76 HT_.out ?_
          refine pureA_ 1 77 HT_.out ?_
          refine pureA_ 2 78 HT_.out ?_
          refine take_ (i := 3) (N := some 79) (v := ?_) (a' := ?_) #[true, true, true, true, false, false, false, false, false, false, false, false, false, false, false, false, false, false, false, false] rfl rfl (take_ofW HT_.out HW_.out (by kernel_rfl)) (fun _ _ _ h => h) (Or.inl ⟨by rfl, ?_⟩) hHeld ?_ ?_
          rotate_left
          · intro w' s0
            go_simp
            with_reducible rfl
          rotate_left
          · simp only [Act.put, List.setIfInBounds_toArray, List.set_cons_zero, List.set_cons_succ, i64_w, i32_w]
            rfl
          refine pureA_ 4 80 HT_.out ?_
          refine pureA_ 5 81 HT_.out ?_
          refine pureU_ 6 82 HT_.out ?_
          refine pureU_ 7 83 HT_.out ?_
          refine pureU_ 8 84 HT_.out ?_
          refine pureU_ 9 85 HT_.out ?_
          refine pureU_ 10 86 HT_.out ?_
          refine pureU_ 11 87 HT_.out ?_
          refine pureU_ 12 88 HT_.out ?_
          refine pureU_ 13 89 HT_.out ?_
          refine pureU_ 14 90 HT_.out ?_
          refine pureU_ 15 91 HT_.out ?_
          refine pureU_ 16 92 HT_.out ?_
          refine pureU_ 17 93 HT_.out ?_
          refine pureU_ 18 94 HT_.out ?_
          refine pureA_ 19 95 HT_.out ?_
          refine done_ (done_of HT_.out (by kernel_rfl)) ?_
          try go_wp2
          (try simp only [← hl4_3])
          go_roundg k3
          case measure => have := HK1.out; have := HK2.out; have := HK3.out; omega
          case rel => exact ⟨(y240), (y241), (x9_3), (wrap64 (x49_3 + 1)), zq76, zq76, H', ⟨by have := HK1.out; have := HK2.out; have := HK3.out; omega⟩, ⟨by (try simp only [hl4_3]); (with_reducible repeat (first | apply Kd.R_alloc | apply Kd.R_drewN | apply Kd.R_drew)); exact HO_4.out⟩, ⟨by (try simp only [hl4_3]); (with_reducible repeat (first | apply Kd.R_alloc | apply Kd.R_drewN | apply Kd.R_drew)); exact HO_5.out⟩, ⟨by (try simp only [hl4_3]); (with_reducible repeat (first | apply Kd.R_alloc | apply Kd.R_drewN | apply Kd.R_drew)); exact HO_6.out⟩, ⟨by (try simp only [hl4_3]); (with_reducible repeat (first | refine blk_drewN ?_ _ | refine blk_drew ?_ | refine blk_alloc ?_ _)); exact BK217.out⟩, ⟨by repeat (first | (with_reducible first | exact HB.out | apply below_alloc | apply pw_below_drewN | apply below_drew1 | refine below_set ?_ GE217.out) | exact HB.out)⟩⟩
        rw [if_pos c44] at H
        have c44b0 : decide (0 < (rd y240 x49_3)) = true := decide_eq_true c44
        clear c44
        by_cases c45 : x9_3 = (-1)
        · rw [if_pos c45] at H
          have c45b0 : (x9_3 == (-1)) = true := beq_iff_eq.mpr c45
          have c45b1 : (x9_3 != (-1)) = false := bne_eq_false_iff_eq.mpr c45
          clear c45
          have H' := Aside0.mk H
          clear H
          have p237 : 0 ≤ (x49_3 : Int) := of_decide_eq_true zq75
          have q237 : x49_3 < (l0_1.length : Int) := of_decide_eq_true zq75
          obtain ⟨ad237, e237, hx237_0⟩ := Kd.at_int HR0_1.out x49_3 p237 q237
          cases e237
          replace hx237_0 := (HB.out.cell (World.block_lt_of_cell? w _ hx237_0)).trans hx237_0
          replace p237 := eq_true p237
          replace q237 := eq_true q237
          try go_wp2
          have n0_ := Aside0.mk (Kd.R_drew HO_4.out)
          have n1_ := Aside0.mk (Kd.R_drew HO_5.out)
          have n2_ := Aside0.mk (Kd.R_drew HO_6.out)
          have n3_ := Aside0.mk (blk_drew BK217.out)
          have n4_ := Aside0.mk (below_drew1 HB.out)
          clear HO_4
          clear HO_5
          clear HO_6
          clear BK217
          clear HB
          have HO_4 := n0_
          have HO_5 := n1_
          have HO_6 := n2_
          have BK217 := n3_
          have HB := n4_
          clear n0_ n1_ n2_ n3_ n4_
          have p238 : 0 ≤ (x49_3 : Int) := of_decide_eq_true zq75
          have q238 : x49_3 < (l0_0.length : Int) := of_decide_eq_true zq75
          obtain ⟨ad238, e238, hx238_0⟩ := Kd.at_int HR0_0.out x49_3 p238 q238
          have hw238_0 := hx238_0
          cases e238
          replace hx238_0 := (HB.out.cell (World.block_lt_of_cell? w _ hx238_0)).trans hx238_0
          replace p238 := eq_true p238
          replace q238 := eq_true q238
          have p239 : 0 ≤ (x49_3 : Int) := of_decide_eq_true zq75
          have q239 : x49_3 < (l0_2.length : Int) := of_decide_eq_true zq75
          obtain ⟨ad239, e239, hx239_0⟩ := Kd.at_int HR0_2.out x49_3 p239 q239
          have hw239_0 := hx239_0
          cases e239
          replace hx239_0 := (HB.out.cell (World.block_lt_of_cell? w _ hx239_0)).trans hx239_0
          replace p239 := eq_true p239
          replace q239 := eq_true q239
          have p41 : 0 ≤ (x49_3 : Int) := of_decide_eq_true zq75
          have q41 : (x49_3 : Int) < ((x4_3.length : Int) : Int) := of_decide_eq_true zq75
          obtain ⟨go41, co41, eo41, gb41, gl41, cl41, HG41⟩ := Kd.R_form HO_4.out (by omega)
          (first | cases eo41 | (injection eo41 with ea_ en_ ec_; (first | subst ea_ | (injection ea_ with ea_; subst ea_)); subst ec_; clear en_))
          have GB41 := Aside0.mk gb41
          have GG41 := Aside0.mk HG41
          clear gb41 gl41 HG41
          obtain ⟨hx41_0, hf41_0⟩ := Kd.R_celln 0 HO_4.out (x49_3 : Int) p41 q41
          replace p41 := eq_true p41
          replace q41 := eq_true q41
          have HP47 := Kd.R_putn HO_4.out (x49_3 : Int) (rd l0_0 x49_3)
          rw [← Ny240.out] at HP47
          have HQ47 := Aside0.mk HP47
          clear HP47
          have p43 : 0 ≤ (x49_3 : Int) := of_decide_eq_true zq75
          have q43 : (x49_3 : Int) < ((x5_3.length : Int) : Int) := of_decide_eq_true zq75
          obtain ⟨go43, co43, eo43, gb43, gl43, cl43, HG43⟩ := Kd.R_form HO_5.out (by omega)
          (first | cases eo43 | (injection eo43 with ea_ en_ ec_; (first | subst ea_ | (injection ea_ with ea_; subst ea_)); subst ec_; clear en_))
          have GB43 := Aside0.mk gb43
          have GG43 := Aside0.mk HG43
          clear gb43 gl43 HG43
          obtain ⟨hx43_0, hf43_0⟩ := Kd.R_celln 0 (Kd.R_far (p := ⟨go41, (x49_3 : Int).toNat, none⟩) (Kd.R_mono HO_5.out (fun k_ hk => (⟨hk, fun e_ => hk.1 zq77⟩ : _ ∧ k_ ≠ go41))) (fun _ hk => hk.2) (.int .i64 (rd l0_0 x49_3))) (x49_3 : Int) p43 q43
          replace p43 := eq_true p43
          replace q43 := eq_true q43
          have HP48 := Kd.R_putn (Kd.R_far (p := ⟨go41, (x49_3 : Int).toNat, none⟩) (Kd.R_mono HO_5.out (fun k_ hk => (⟨hk, fun e_ => hk.1 zq77⟩ : _ ∧ k_ ≠ go41))) (fun _ hk => hk.2) (.int .i64 (rd l0_0 x49_3))) (x49_3 : Int) (wrap64 (x7_1 + (rd l0_2 x49_3)))
          rw [← Ny241.out] at HP48
          have HQ48 := Aside0.mk HP48
          clear HP48
          refine start_ (n := 20) (S := fun w' => w'.cell? ⟨gb217, 0, none⟩ = some (.slice (some ad238) l0_0.length c0_0) ∧ w'.cell? ⟨gb217, 1, none⟩ = some (.slice (some ad237) l0_1.length c0_1) ∧ w'.cell? ⟨gb217, 2, none⟩ = some (.slice (some ad239) l0_2.length c0_2) ∧ w'.cell? (ad238.add (x49_3).toNat) = some (.int .i64 (rd l0_0 x49_3)) ∧ w'.cell? (ad239.add (x49_3).toNat) = some (.int .i64 (rd l0_2 x49_3))) (ds := [17, 19]) #[false, false, false, false, false, false, false, false, false, false, false, false, false, false, false, false, false, false, false, false] (by kernel_rfl) rfl rfl ⟨(blk_cell BK217.out 0).trans rfl, (blk_cell BK217.out 1).trans rfl, (blk_cell BK217.out 2).trans rfl, ((HB.out.cell (World.block_lt_of_cell? w _ hw238_0)).trans hw238_0), ((HB.out.cell (World.block_lt_of_cell? w _ hw239_0)).trans hw239_0)⟩ (fun hHeld => ?_); refine with_tabW impl_Jobs_earliest.tab18 impl_Jobs_earliest.bits18 (fun HT_ HW_ => ?_)
          generalize wr.drew = w46 at HO_4 HO_5 HO_6 BK217 HB GG41 GG43 HQ47 HQ48 hf41_0 hf43_0 hx238_0 hx239_0 hx41_0 hx43_0 hHeld ⊢
          refine pureA_ 0 58 HT_.out ?_
          refine pureA_ 1 59 HT_.out ?_
          refine pureA_ 2 60 HT_.out ?_
          refine pureA_ 3 61 HT_.out ?_
          refine pureA_ 4 62 HT_.out ?_
          refine pureA_ 6 64 HT_.out ?_
          refine pureA_ 9 67 HT_.out ?_
          refine pureA_ 10 68 HT_.out ?_
          refine pureA_ 12 70 HT_.out ?_
          refine take_ (i := 5) (N := some 63) (v := ?_) (a' := ?_) #[true, true, true, true, true, true, true, false, false, true, true, false, true, false, false, false, false, false, false, false] rfl rfl (take_ofW HT_.out HW_.out (by kernel_rfl)) (fun _ _ _ h => h) (Or.inl ⟨by rfl, ?_⟩) hHeld ?_ ?_
          rotate_left
          · rintro w' ⟨s0, s1, s2, s3, s4⟩
            go_simp
            with_reducible rfl
          rotate_left
          · simp only [Act.put, List.setIfInBounds_toArray, List.set_cons_zero, List.set_cons_succ, i64_w, i32_w]
            rfl
          refine pureA_ 7 65 HT_.out ?_
          refine take_ (i := 8) (N := some 66) (v := ?_) (a' := ?_) #[true, true, true, true, true, true, true, true, true, true, true, false, true, false, false, false, false, false, false, false] rfl rfl (take_ofW HT_.out HW_.out (by kernel_rfl)) (fun _ _ _ h => h) (Or.inl ⟨by rfl, ?_⟩) hHeld ?_ ?_
          rotate_left
          · rintro w' ⟨s0, s1, s2, s3, s4⟩
            go_simp
            with_reducible rfl
          rotate_left
          · simp only [Act.put, List.setIfInBounds_toArray, List.set_cons_zero, List.set_cons_succ, i64_w, i32_w]
            rfl
          refine take_ (i := 11) (N := some 69) (v := ?_) (a' := ?_) #[true, true, true, true, true, true, true, true, true, true, true, true, true, false, false, false, false, false, false, false] rfl rfl (take_ofW HT_.out HW_.out (by kernel_rfl)) (fun _ _ _ h => h) (Or.inl ⟨by rfl, ?_⟩) hHeld ?_ ?_
          rotate_left
          · rintro w' ⟨s0, s1, s2, s3, s4⟩
            go_simp
            with_reducible rfl
          rotate_left
          · simp only [Act.put, List.setIfInBounds_toArray, List.set_cons_zero, List.set_cons_succ, i64_w, i32_w]
            rfl
          refine pureA_ 13 71 HT_.out ?_
          refine take_ (i := 14) (N := some 72) (v := ?_) (a' := ?_) #[true, true, true, true, true, true, true, true, true, true, true, true, true, true, true, false, false, false, false, false] rfl rfl (take_ofW HT_.out HW_.out (by kernel_rfl)) (fun _ _ _ h => h) (Or.inl ⟨by rfl, ?_⟩) hHeld ?_ ?_
          rotate_left
          · rintro w' ⟨s0, s1, s2, s3, s4⟩
            go_simp
            with_reducible rfl
          rotate_left
          · simp only [Act.put, List.setIfInBounds_toArray, List.set_cons_zero, List.set_cons_succ, i64_w, i32_w]
            rfl
          refine pureA_ 15 73 HT_.out ?_
          refine pureA_ 16 74 HT_.out ?_
          refine last_ (i := 17) (N := none) #[true, true, true, true, true, true, true, true, true, true, true, true, true, true, true, true, true, true, false, false] rfl rfl (one_of HT_.out (by kernel_rfl)) (by decide) (fun K hK => ?_)
          refine skip_ (w1 := ?_) (by rfl) rfl ?_ ?_
          rotate_left
          · go_simp
            rfl
          refine hK.out _ _ ?_
          clear hK K
          refine pureA_ 18 75 HT_.out ?_
          refine last_ (i := 19) (N := none) #[true, true, true, true, true, true, true, true, true, true, true, true, true, true, true, true, true, true, true, true] rfl rfl (one_of HT_.out (by kernel_rfl)) (by decide) (fun K hK => ?_)
          refine skip_ (w1 := ?_) (by rfl) rfl ?_ ?_
          rotate_left
          · go_simp
            rfl
          refine hK.out _ _ ?_
          clear hK K
          refine done_ (done_of HT_.out (by kernel_rfl)) ?_
          try go_wp2
          have n0_ : Aside0 (Kd.R (Kd.int .i64) 2 ((w46.setCell ⟨go41, (x49_3 : Int).toNat, none⟩ (.int .i64 (rd l0_0 x49_3))).setCell ⟨go43, (x49_3 : Int).toNat, none⟩ (.int .i64 (wrap64 (x7_1 + (rd l0_2 x49_3))))) w.heap.size (fun k_ => some k_ ≠ (.slice (some ⟨go43, 0, none⟩) x5_3.length co43 : Value).ownBlock ∧ some k_ ≠ (u6 : Value).ownBlock) (.slice (some ⟨go41, 0, none⟩) x4_3.length co17) y240) := ⟨by (with_reducible repeat (first | apply Kd.R_alloc | apply Kd.R_drewN | apply Kd.R_drew)); exact Kd.R_mono (Kd.R_far (p := ⟨go43, (x49_3 : Int).toNat, none⟩) (Kd.R_mono HQ47.out (fun k_ hk => (⟨hk, fun e_ => hk.1 zq77⟩ : _ ∧ k_ ≠ go43))) (fun _ hk => hk.2) (.int .i64 (wrap64 (x7_1 + (rd l0_2 x49_3))))) (fun _ hk => ⟨hk.1.1, hk.1.2⟩)⟩
          have n1_ : Aside0 (Kd.R (Kd.int .i64) 2 ((w46.setCell ⟨go41, (x49_3 : Int).toNat, none⟩ (.int .i64 (rd l0_0 x49_3))).setCell ⟨go43, (x49_3 : Int).toNat, none⟩ (.int .i64 (wrap64 (x7_1 + (rd l0_2 x49_3))))) w.heap.size (fun k_ => some k_ ≠ (.slice (some ⟨go41, 0, none⟩) x4_3.length co17 : Value).ownBlock ∧ some k_ ≠ (u6 : Value).ownBlock) (.slice (some ⟨go43, 0, none⟩) x5_3.length co43) y241) := ⟨by (with_reducible repeat (first | apply Kd.R_alloc | apply Kd.R_drewN | apply Kd.R_drew)); exact Kd.R_mono HQ48.out (fun _ hk => ⟨hk.1.1, hk.1.2⟩)⟩
          have n2_ : Aside0 (Kd.R (Kd.int .i64) 2 ((w46.setCell ⟨go41, (x49_3 : Int).toNat, none⟩ (.int .i64 (rd l0_0 x49_3))).setCell ⟨go43, (x49_3 : Int).toNat, none⟩ (.int .i64 (wrap64 (x7_1 + (rd l0_2 x49_3))))) w.heap.size (fun k_ => some k_ ≠ (.slice (some ⟨go41, 0, none⟩) x4_3.length co17 : Value).ownBlock ∧ some k_ ≠ (.slice (some ⟨go43, 0, none⟩) x5_3.length co43 : Value).ownBlock) u6 x6_1) := ⟨by (with_reducible repeat (first | apply Kd.R_alloc | apply Kd.R_drewN | apply Kd.R_drew)); exact Kd.R_mono (Kd.R_far (p := ⟨go43, (x49_3 : Int).toNat, none⟩) (Kd.R_far (p := ⟨go41, (x49_3 : Int).toNat, none⟩) (Kd.R_mono (Kd.R_mono HO_6.out (fun k_ hk => (⟨hk, fun e_ => hk.1 zq77⟩ : _ ∧ k_ ≠ go41))) (fun k_ hk => (⟨hk, fun e_ => hk.1.2 zq77⟩ : _ ∧ k_ ≠ go43))) (fun _ hk => hk.1.2) (.int .i64 (rd l0_0 x49_3))) (fun _ hk => hk.2) (.int .i64 (wrap64 (x7_1 + (rd l0_2 x49_3))))) (fun _ hk => ⟨hk.1.1.1, hk.1.1.2⟩)⟩
          have n3_ : Aside0 (((w46.setCell ⟨go41, (x49_3 : Int).toNat, none⟩ (.int .i64 (rd l0_0 x49_3))).setCell ⟨go43, (x49_3 : Int).toNat, none⟩ (.int .i64 (wrap64 (x7_1 + (rd l0_2 x49_3))))).heap[gb217]? = some (.cells #[.slice (some ad238) l0_0.length c0_0, .slice (some ad237) l0_1.length c0_1, .slice (some ad239) l0_2.length c0_2] 28 (0, 0))) := ⟨by (with_reducible repeat (first | refine blk_drewN ?_ _ | refine blk_drew ?_ | refine blk_alloc ?_ _)); refine blk_far ?_ zq72 _; (with_reducible repeat (first | refine blk_drewN ?_ _ | refine blk_drew ?_ | refine blk_alloc ?_ _)); refine blk_far ?_ zq73 _; (with_reducible repeat (first | refine blk_drewN ?_ _ | refine blk_drew ?_ | refine blk_alloc ?_ _)); exact BK217.out⟩
          have n4_ : Aside0 (Below w.heap.size w ((w46.setCell ⟨go41, (x49_3 : Int).toNat, none⟩ (.int .i64 (rd l0_0 x49_3))).setCell ⟨go43, (x49_3 : Int).toNat, none⟩ (.int .i64 (wrap64 (x7_1 + (rd l0_2 x49_3)))))) := ⟨by repeat (first | (with_reducible first | exact HB.out | apply below_alloc | apply pw_below_drewN | apply below_drew1 | refine below_set ?_ GB41.out | refine below_set ?_ GB43.out | refine below_set ?_ GE217.out) | exact HB.out)⟩
          (try clear HO_4)
          (try clear HO_5)
          (try clear HO_6)
          (try clear BK217)
          (try clear HB)
          generalize ((w46.setCell ⟨go41, (x49_3 : Int).toNat, none⟩ (.int .i64 (rd l0_0 x49_3))).setCell ⟨go43, (x49_3 : Int).toNat, none⟩ (.int .i64 (wrap64 (x7_1 + (rd l0_2 x49_3))))) = w49 at n0_ n1_ n2_ n3_ n4_ ⊢
          have HO_4 := n0_
          have HO_5 := n1_
          have HO_6 := n2_
          have BK217 := n3_
          have HB := n4_
          clear n0_ n1_ n2_ n3_ n4_
          have n0_ := Aside0.mk (Kd.R_drew HO_4.out)
          have n1_ := Aside0.mk (Kd.R_drew HO_5.out)
          have n2_ := Aside0.mk (Kd.R_drew HO_6.out)
          have n3_ := Aside0.mk (blk_drew BK217.out)
          have n4_ := Aside0.mk (below_drew1 HB.out)
          clear HO_4
          clear HO_5
          clear HO_6
          clear BK217
          clear HB
          have HO_4 := n0_
          have HO_5 := n1_
          have HO_6 := n2_
          have BK217 := n3_
          have HB := n4_
          clear n0_ n1_ n2_ n3_ n4_
          have p242 : 0 ≤ (x49_3 : Int) := of_decide_eq_true zq75
          have q242 : x49_3 < (y240.length : Int) := (by have h_ : (x49_3 : Int) < ((x4_3.length : Int) : Int) := of_decide_eq_true zq75; first | (have e_ := (Kd.R_reads' HO_4.out).1; omega) | simpa only [Ny240.out, List.length_set] using h_)
          have ql242 : ((x49_3 : Int) < ((x4_3.length : Int) : Int)) = True := eq_true (of_decide_eq_true zq75)
          obtain ⟨ad242, e242, hx242_0⟩ := Kd.at_int (Kd.R_reads' HO_4.out).2.2 x49_3 p242 q242
          obtain rfl : (⟨go41, 0, none⟩ : Addr) = ad242 := (by injection e242)
          (first | simp only [add_plain] at hx242_0 | simp only [add_at] at hx242_0 | simp only [Addr.add, Nat.zero_add] at hx242_0 | skip)
          replace p242 := eq_true p242
          replace q242 := eq_true q242
          refine start_ (n := 20) (S := fun w' => w'.cell? ⟨go41, (x49_3).toNat, none⟩ = some (.int .i64 (rd y240 x49_3))) (ds := []) #[false, false, false, false, false, false, false, false, false, false, false, false, false, false, false, false, false, false, false, false] (by kernel_rfl) rfl rfl (hx242_0) (fun hHeld => ?_); refine with_tabW impl_Jobs_earliest.tab19 impl_Jobs_earliest.bits19 (fun HT_ HW_ => ?_)
          generalize w49.drew = w50 at HO_4 HO_5 HO_6 BK217 HB HQ47 HQ48 hx242_0 hHeld ⊢
          refine pureA_ 0 76 HT_.out ?_
          refine pureA_ 1 77 HT_.out ?_
          refine pureA_ 2 78 HT_.out ?_
          refine take_ (i := 3) (N := some 79) (v := ?_) (a' := ?_) #[true, true, true, true, false, false, false, false, false, false, false, false, false, false, false, false, false, false, false, false] rfl rfl (take_ofW HT_.out HW_.out (by kernel_rfl)) (fun _ _ _ h => h) (Or.inl ⟨by rfl, ?_⟩) hHeld ?_ ?_
          rotate_left
          · intro w' s0
            go_simp
            with_reducible rfl
          rotate_left
          · simp only [Act.put, List.setIfInBounds_toArray, List.set_cons_zero, List.set_cons_succ, i64_w, i32_w]
            rfl
          refine pureA_ 4 80 HT_.out ?_
          refine pureA_ 5 81 HT_.out ?_
          refine pureA_ 6 82 HT_.out ?_
          refine pureA_ 7 83 HT_.out ?_
          refine pureA_ 8 84 HT_.out ?_
          refine pureU_ 9 85 HT_.out ?_
          refine pureU_ 10 86 HT_.out ?_
          refine pureU_ 11 87 HT_.out ?_
          refine pureU_ 12 88 HT_.out ?_
          refine pureU_ 13 89 HT_.out ?_
          refine pureU_ 14 90 HT_.out ?_
          refine pureU_ 15 91 HT_.out ?_
          refine pureU_ 16 92 HT_.out ?_
          refine pureU_ 17 93 HT_.out ?_
          refine pureA_ 18 94 HT_.out ?_
          refine pureA_ 19 95 HT_.out ?_
          refine done_ (done_of HT_.out (by kernel_rfl)) ?_
          try go_wp2
          (try simp only [← hl4_3])
          go_roundg k3
          case measure => have := HK1.out; have := HK2.out; have := HK3.out; omega
          case rel => exact ⟨(y240), (y241), (x49_3), (wrap64 (x49_3 + 1)), zq76, zq76, H', ⟨by have := HK1.out; have := HK2.out; have := HK3.out; omega⟩, ⟨by (try simp only [hl4_3]); (with_reducible repeat (first | apply Kd.R_alloc | apply Kd.R_drewN | apply Kd.R_drew)); exact HO_4.out⟩, ⟨by (try simp only [hl4_3]); (with_reducible repeat (first | apply Kd.R_alloc | apply Kd.R_drewN | apply Kd.R_drew)); exact HO_5.out⟩, ⟨by (try simp only [hl4_3]); (with_reducible repeat (first | apply Kd.R_alloc | apply Kd.R_drewN | apply Kd.R_drew)); exact HO_6.out⟩, ⟨by (try simp only [hl4_3]); (with_reducible repeat (first | refine blk_drewN ?_ _ | refine blk_drew ?_ | refine blk_alloc ?_ _)); exact BK217.out⟩, ⟨by repeat (first | (with_reducible first | exact HB.out | apply below_alloc | apply pw_below_drewN | apply below_drew1 | refine below_set ?_ GE217.out) | exact HB.out)⟩⟩
        rw [if_neg c45] at H
        have c45b0 : (x9_3 == (-1)) = false := beq_eq_false_iff_ne.mpr c45
        have c45b1 : (x9_3 != (-1)) = true := bne_iff_ne.mpr c45
        by_cases c51 : 0 ≤ x9_3
        rotate_left
        · rw [if_neg c51] at H
          exact absurd H (by simp)
        rw [if_pos c51] at H
        have c51b0 : decide (0 ≤ x9_3) = true := decide_eq_true c51
        clear c51
        by_cases c52 : x9_3 < (x5_3.length : Int)
        rotate_left
        · rw [if_neg c52] at H
          exact absurd H (by simp)
        rw [if_pos c52] at H
        have c52b0 : decide (x9_3 < (x5_3.length : Int)) = true := decide_eq_true c52
        clear c52
        by_cases c53 : (rd y241 x49_3) < (rd y241 x9_3)
        · rw [if_pos c53] at H
          have c53b0 : decide ((rd y241 x49_3) < (rd y241 x9_3)) = true := decide_eq_true c53
          clear c53
          have H' := Aside0.mk H
          clear H
          have p237 : 0 ≤ (x49_3 : Int) := of_decide_eq_true zq75
          have q237 : x49_3 < (l0_1.length : Int) := of_decide_eq_true zq75
          obtain ⟨ad237, e237, hx237_0⟩ := Kd.at_int HR0_1.out x49_3 p237 q237
          cases e237
          replace hx237_0 := (HB.out.cell (World.block_lt_of_cell? w _ hx237_0)).trans hx237_0
          replace p237 := eq_true p237
          replace q237 := eq_true q237
          try go_wp2
          have n0_ := Aside0.mk (Kd.R_drew HO_4.out)
          have n1_ := Aside0.mk (Kd.R_drew HO_5.out)
          have n2_ := Aside0.mk (Kd.R_drew HO_6.out)
          have n3_ := Aside0.mk (blk_drew BK217.out)
          have n4_ := Aside0.mk (below_drew1 HB.out)
          clear HO_4
          clear HO_5
          clear HO_6
          clear BK217
          clear HB
          have HO_4 := n0_
          have HO_5 := n1_
          have HO_6 := n2_
          have BK217 := n3_
          have HB := n4_
          clear n0_ n1_ n2_ n3_ n4_
          have p238 : 0 ≤ (x49_3 : Int) := of_decide_eq_true zq75
          have q238 : x49_3 < (l0_0.length : Int) := of_decide_eq_true zq75
          obtain ⟨ad238, e238, hx238_0⟩ := Kd.at_int HR0_0.out x49_3 p238 q238
          have hw238_0 := hx238_0
          cases e238
          replace hx238_0 := (HB.out.cell (World.block_lt_of_cell? w _ hx238_0)).trans hx238_0
          replace p238 := eq_true p238
          replace q238 := eq_true q238
          have p239 : 0 ≤ (x49_3 : Int) := of_decide_eq_true zq75
          have q239 : x49_3 < (l0_2.length : Int) := of_decide_eq_true zq75
          obtain ⟨ad239, e239, hx239_0⟩ := Kd.at_int HR0_2.out x49_3 p239 q239
          have hw239_0 := hx239_0
          cases e239
          replace hx239_0 := (HB.out.cell (World.block_lt_of_cell? w _ hx239_0)).trans hx239_0
          replace p239 := eq_true p239
          replace q239 := eq_true q239
          have p41 : 0 ≤ (x49_3 : Int) := of_decide_eq_true zq75
          have q41 : (x49_3 : Int) < ((x4_3.length : Int) : Int) := of_decide_eq_true zq75
          obtain ⟨go41, co41, eo41, gb41, gl41, cl41, HG41⟩ := Kd.R_form HO_4.out (by omega)
          (first | cases eo41 | (injection eo41 with ea_ en_ ec_; (first | subst ea_ | (injection ea_ with ea_; subst ea_)); subst ec_; clear en_))
          have GB41 := Aside0.mk gb41
          have GG41 := Aside0.mk HG41
          clear gb41 gl41 HG41
          obtain ⟨hx41_0, hf41_0⟩ := Kd.R_celln 0 HO_4.out (x49_3 : Int) p41 q41
          replace p41 := eq_true p41
          replace q41 := eq_true q41
          have HP55 := Kd.R_putn HO_4.out (x49_3 : Int) (rd l0_0 x49_3)
          rw [← Ny240.out] at HP55
          have HQ55 := Aside0.mk HP55
          clear HP55
          have p43 : 0 ≤ (x49_3 : Int) := of_decide_eq_true zq75
          have q43 : (x49_3 : Int) < ((x5_3.length : Int) : Int) := of_decide_eq_true zq75
          obtain ⟨go43, co43, eo43, gb43, gl43, cl43, HG43⟩ := Kd.R_form HO_5.out (by omega)
          (first | cases eo43 | (injection eo43 with ea_ en_ ec_; (first | subst ea_ | (injection ea_ with ea_; subst ea_)); subst ec_; clear en_))
          have GB43 := Aside0.mk gb43
          have GG43 := Aside0.mk HG43
          clear gb43 gl43 HG43
          obtain ⟨hx43_0, hf43_0⟩ := Kd.R_celln 0 (Kd.R_far (p := ⟨go41, (x49_3 : Int).toNat, none⟩) (Kd.R_mono HO_5.out (fun k_ hk => (⟨hk, fun e_ => hk.1 zq77⟩ : _ ∧ k_ ≠ go41))) (fun _ hk => hk.2) (.int .i64 (rd l0_0 x49_3))) (x49_3 : Int) p43 q43
          replace p43 := eq_true p43
          replace q43 := eq_true q43
          have HP56 := Kd.R_putn (Kd.R_far (p := ⟨go41, (x49_3 : Int).toNat, none⟩) (Kd.R_mono HO_5.out (fun k_ hk => (⟨hk, fun e_ => hk.1 zq77⟩ : _ ∧ k_ ≠ go41))) (fun _ hk => hk.2) (.int .i64 (rd l0_0 x49_3))) (x49_3 : Int) (wrap64 (x7_1 + (rd l0_2 x49_3)))
          rw [← Ny241.out] at HP56
          have HQ56 := Aside0.mk HP56
          clear HP56
          refine start_ (n := 20) (S := fun w' => w'.cell? ⟨gb217, 0, none⟩ = some (.slice (some ad238) l0_0.length c0_0) ∧ w'.cell? ⟨gb217, 1, none⟩ = some (.slice (some ad237) l0_1.length c0_1) ∧ w'.cell? ⟨gb217, 2, none⟩ = some (.slice (some ad239) l0_2.length c0_2) ∧ w'.cell? (ad238.add (x49_3).toNat) = some (.int .i64 (rd l0_0 x49_3)) ∧ w'.cell? (ad239.add (x49_3).toNat) = some (.int .i64 (rd l0_2 x49_3))) (ds := [17, 19]) #[false, false, false, false, false, false, false, false, false, false, false, false, false, false, false, false, false, false, false, false] (by kernel_rfl) rfl rfl ⟨(blk_cell BK217.out 0).trans rfl, (blk_cell BK217.out 1).trans rfl, (blk_cell BK217.out 2).trans rfl, ((HB.out.cell (World.block_lt_of_cell? w _ hw238_0)).trans hw238_0), ((HB.out.cell (World.block_lt_of_cell? w _ hw239_0)).trans hw239_0)⟩ (fun hHeld => ?_); refine with_tabW impl_Jobs_earliest.tab18 impl_Jobs_earliest.bits18 (fun HT_ HW_ => ?_)
          generalize wr.drew = w54 at HO_4 HO_5 HO_6 BK217 HB GG41 GG43 HQ55 HQ56 hf41_0 hf43_0 hx238_0 hx239_0 hx41_0 hx43_0 hHeld ⊢
          refine pureA_ 0 58 HT_.out ?_
          refine pureA_ 1 59 HT_.out ?_
          refine pureA_ 2 60 HT_.out ?_
          refine pureA_ 3 61 HT_.out ?_
          refine pureA_ 4 62 HT_.out ?_
          refine pureA_ 6 64 HT_.out ?_
          refine pureA_ 9 67 HT_.out ?_
          refine pureA_ 10 68 HT_.out ?_
          refine pureA_ 12 70 HT_.out ?_
          refine take_ (i := 5) (N := some 63) (v := ?_) (a' := ?_) #[true, true, true, true, true, true, true, false, false, true, true, false, true, false, false, false, false, false, false, false] rfl rfl (take_ofW HT_.out HW_.out (by kernel_rfl)) (fun _ _ _ h => h) (Or.inl ⟨by rfl, ?_⟩) hHeld ?_ ?_
          rotate_left
          · rintro w' ⟨s0, s1, s2, s3, s4⟩
            go_simp
            with_reducible rfl
          rotate_left
          · simp only [Act.put, List.setIfInBounds_toArray, List.set_cons_zero, List.set_cons_succ, i64_w, i32_w]
            rfl
          refine pureA_ 7 65 HT_.out ?_
          refine take_ (i := 8) (N := some 66) (v := ?_) (a' := ?_) #[true, true, true, true, true, true, true, true, true, true, true, false, true, false, false, false, false, false, false, false] rfl rfl (take_ofW HT_.out HW_.out (by kernel_rfl)) (fun _ _ _ h => h) (Or.inl ⟨by rfl, ?_⟩) hHeld ?_ ?_
          rotate_left
          · rintro w' ⟨s0, s1, s2, s3, s4⟩
            go_simp
            with_reducible rfl
          rotate_left
          · simp only [Act.put, List.setIfInBounds_toArray, List.set_cons_zero, List.set_cons_succ, i64_w, i32_w]
            rfl
          refine take_ (i := 11) (N := some 69) (v := ?_) (a' := ?_) #[true, true, true, true, true, true, true, true, true, true, true, true, true, false, false, false, false, false, false, false] rfl rfl (take_ofW HT_.out HW_.out (by kernel_rfl)) (fun _ _ _ h => h) (Or.inl ⟨by rfl, ?_⟩) hHeld ?_ ?_
          rotate_left
          · rintro w' ⟨s0, s1, s2, s3, s4⟩
            go_simp
            with_reducible rfl
          rotate_left
          · simp only [Act.put, List.setIfInBounds_toArray, List.set_cons_zero, List.set_cons_succ, i64_w, i32_w]
            rfl
          refine pureA_ 13 71 HT_.out ?_
          refine take_ (i := 14) (N := some 72) (v := ?_) (a' := ?_) #[true, true, true, true, true, true, true, true, true, true, true, true, true, true, true, false, false, false, false, false] rfl rfl (take_ofW HT_.out HW_.out (by kernel_rfl)) (fun _ _ _ h => h) (Or.inl ⟨by rfl, ?_⟩) hHeld ?_ ?_
          rotate_left
          · rintro w' ⟨s0, s1, s2, s3, s4⟩
            go_simp
            with_reducible rfl
          rotate_left
          · simp only [Act.put, List.setIfInBounds_toArray, List.set_cons_zero, List.set_cons_succ, i64_w, i32_w]
            rfl
          refine pureA_ 15 73 HT_.out ?_
          refine pureA_ 16 74 HT_.out ?_
          refine last_ (i := 17) (N := none) #[true, true, true, true, true, true, true, true, true, true, true, true, true, true, true, true, true, true, false, false] rfl rfl (one_of HT_.out (by kernel_rfl)) (by decide) (fun K hK => ?_)
          refine skip_ (w1 := ?_) (by rfl) rfl ?_ ?_
          rotate_left
          · go_simp
            rfl
          refine hK.out _ _ ?_
          clear hK K
          refine pureA_ 18 75 HT_.out ?_
          refine last_ (i := 19) (N := none) #[true, true, true, true, true, true, true, true, true, true, true, true, true, true, true, true, true, true, true, true] rfl rfl (one_of HT_.out (by kernel_rfl)) (by decide) (fun K hK => ?_)
          refine skip_ (w1 := ?_) (by rfl) rfl ?_ ?_
          rotate_left
          · go_simp
            rfl
          refine hK.out _ _ ?_
          clear hK K
          refine done_ (done_of HT_.out (by kernel_rfl)) ?_
          try go_wp2
          have n0_ : Aside0 (Kd.R (Kd.int .i64) 2 ((w54.setCell ⟨go41, (x49_3 : Int).toNat, none⟩ (.int .i64 (rd l0_0 x49_3))).setCell ⟨go43, (x49_3 : Int).toNat, none⟩ (.int .i64 (wrap64 (x7_1 + (rd l0_2 x49_3))))) w.heap.size (fun k_ => some k_ ≠ (.slice (some ⟨go43, 0, none⟩) x5_3.length co43 : Value).ownBlock ∧ some k_ ≠ (u6 : Value).ownBlock) (.slice (some ⟨go41, 0, none⟩) x4_3.length co17) y240) := ⟨by (with_reducible repeat (first | apply Kd.R_alloc | apply Kd.R_drewN | apply Kd.R_drew)); exact Kd.R_mono (Kd.R_far (p := ⟨go43, (x49_3 : Int).toNat, none⟩) (Kd.R_mono HQ55.out (fun k_ hk => (⟨hk, fun e_ => hk.1 zq77⟩ : _ ∧ k_ ≠ go43))) (fun _ hk => hk.2) (.int .i64 (wrap64 (x7_1 + (rd l0_2 x49_3))))) (fun _ hk => ⟨hk.1.1, hk.1.2⟩)⟩
          have n1_ : Aside0 (Kd.R (Kd.int .i64) 2 ((w54.setCell ⟨go41, (x49_3 : Int).toNat, none⟩ (.int .i64 (rd l0_0 x49_3))).setCell ⟨go43, (x49_3 : Int).toNat, none⟩ (.int .i64 (wrap64 (x7_1 + (rd l0_2 x49_3))))) w.heap.size (fun k_ => some k_ ≠ (.slice (some ⟨go41, 0, none⟩) x4_3.length co17 : Value).ownBlock ∧ some k_ ≠ (u6 : Value).ownBlock) (.slice (some ⟨go43, 0, none⟩) x5_3.length co43) y241) := ⟨by (with_reducible repeat (first | apply Kd.R_alloc | apply Kd.R_drewN | apply Kd.R_drew)); exact Kd.R_mono HQ56.out (fun _ hk => ⟨hk.1.1, hk.1.2⟩)⟩
          have n2_ : Aside0 (Kd.R (Kd.int .i64) 2 ((w54.setCell ⟨go41, (x49_3 : Int).toNat, none⟩ (.int .i64 (rd l0_0 x49_3))).setCell ⟨go43, (x49_3 : Int).toNat, none⟩ (.int .i64 (wrap64 (x7_1 + (rd l0_2 x49_3))))) w.heap.size (fun k_ => some k_ ≠ (.slice (some ⟨go41, 0, none⟩) x4_3.length co17 : Value).ownBlock ∧ some k_ ≠ (.slice (some ⟨go43, 0, none⟩) x5_3.length co43 : Value).ownBlock) u6 x6_1) := ⟨by (with_reducible repeat (first | apply Kd.R_alloc | apply Kd.R_drewN | apply Kd.R_drew)); exact Kd.R_mono (Kd.R_far (p := ⟨go43, (x49_3 : Int).toNat, none⟩) (Kd.R_far (p := ⟨go41, (x49_3 : Int).toNat, none⟩) (Kd.R_mono (Kd.R_mono HO_6.out (fun k_ hk => (⟨hk, fun e_ => hk.1 zq77⟩ : _ ∧ k_ ≠ go41))) (fun k_ hk => (⟨hk, fun e_ => hk.1.2 zq77⟩ : _ ∧ k_ ≠ go43))) (fun _ hk => hk.1.2) (.int .i64 (rd l0_0 x49_3))) (fun _ hk => hk.2) (.int .i64 (wrap64 (x7_1 + (rd l0_2 x49_3))))) (fun _ hk => ⟨hk.1.1.1, hk.1.1.2⟩)⟩
          have n3_ : Aside0 (((w54.setCell ⟨go41, (x49_3 : Int).toNat, none⟩ (.int .i64 (rd l0_0 x49_3))).setCell ⟨go43, (x49_3 : Int).toNat, none⟩ (.int .i64 (wrap64 (x7_1 + (rd l0_2 x49_3))))).heap[gb217]? = some (.cells #[.slice (some ad238) l0_0.length c0_0, .slice (some ad237) l0_1.length c0_1, .slice (some ad239) l0_2.length c0_2] 28 (0, 0))) := ⟨by (with_reducible repeat (first | refine blk_drewN ?_ _ | refine blk_drew ?_ | refine blk_alloc ?_ _)); refine blk_far ?_ zq72 _; (with_reducible repeat (first | refine blk_drewN ?_ _ | refine blk_drew ?_ | refine blk_alloc ?_ _)); refine blk_far ?_ zq73 _; (with_reducible repeat (first | refine blk_drewN ?_ _ | refine blk_drew ?_ | refine blk_alloc ?_ _)); exact BK217.out⟩
          have n4_ : Aside0 (Below w.heap.size w ((w54.setCell ⟨go41, (x49_3 : Int).toNat, none⟩ (.int .i64 (rd l0_0 x49_3))).setCell ⟨go43, (x49_3 : Int).toNat, none⟩ (.int .i64 (wrap64 (x7_1 + (rd l0_2 x49_3)))))) := ⟨by repeat (first | (with_reducible first | exact HB.out | apply below_alloc | apply pw_below_drewN | apply below_drew1 | refine below_set ?_ GB41.out | refine below_set ?_ GB43.out | refine below_set ?_ GE217.out) | exact HB.out)⟩
          (try clear HO_4)
          (try clear HO_5)
          (try clear HO_6)
          (try clear BK217)
          (try clear HB)
          generalize ((w54.setCell ⟨go41, (x49_3 : Int).toNat, none⟩ (.int .i64 (rd l0_0 x49_3))).setCell ⟨go43, (x49_3 : Int).toNat, none⟩ (.int .i64 (wrap64 (x7_1 + (rd l0_2 x49_3))))) = w57 at n0_ n1_ n2_ n3_ n4_ ⊢
          have HO_4 := n0_
          have HO_5 := n1_
          have HO_6 := n2_
          have BK217 := n3_
          have HB := n4_
          clear n0_ n1_ n2_ n3_ n4_
          have n0_ := Aside0.mk (Kd.R_drew HO_4.out)
          have n1_ := Aside0.mk (Kd.R_drew HO_5.out)
          have n2_ := Aside0.mk (Kd.R_drew HO_6.out)
          have n3_ := Aside0.mk (blk_drew BK217.out)
          have n4_ := Aside0.mk (below_drew1 HB.out)
          clear HO_4
          clear HO_5
          clear HO_6
          clear BK217
          clear HB
          have HO_4 := n0_
          have HO_5 := n1_
          have HO_6 := n2_
          have BK217 := n3_
          have HB := n4_
          clear n0_ n1_ n2_ n3_ n4_
          have p242 : 0 ≤ (x49_3 : Int) := of_decide_eq_true zq75
          have q242 : x49_3 < (y240.length : Int) := (by have h_ : (x49_3 : Int) < ((x4_3.length : Int) : Int) := of_decide_eq_true zq75; first | (have e_ := (Kd.R_reads' HO_4.out).1; omega) | simpa only [Ny240.out, List.length_set] using h_)
          have ql242 : ((x49_3 : Int) < ((x4_3.length : Int) : Int)) = True := eq_true (of_decide_eq_true zq75)
          obtain ⟨ad242, e242, hx242_0⟩ := Kd.at_int (Kd.R_reads' HO_4.out).2.2 x49_3 p242 q242
          obtain rfl : (⟨go41, 0, none⟩ : Addr) = ad242 := (by injection e242)
          (first | simp only [add_plain] at hx242_0 | simp only [add_at] at hx242_0 | simp only [Addr.add, Nat.zero_add] at hx242_0 | skip)
          replace p242 := eq_true p242
          replace q242 := eq_true q242
          have p243 : 0 ≤ (x49_3 : Int) := of_decide_eq_true zq75
          have q243 : x49_3 < (y241.length : Int) := (by have h_ : (x49_3 : Int) < ((x5_3.length : Int) : Int) := of_decide_eq_true zq75; first | (have e_ := (Kd.R_reads' HO_5.out).1; omega) | simpa only [Ny241.out, List.length_set] using h_)
          have ql243 : ((x49_3 : Int) < ((x5_3.length : Int) : Int)) = True := eq_true (of_decide_eq_true zq75)
          obtain ⟨ad243, e243, hx243_0⟩ := Kd.at_int (Kd.R_reads' HO_5.out).2.2 x49_3 p243 q243
          obtain rfl : (⟨go43, 0, none⟩ : Addr) = ad243 := (by injection e243)
          (first | simp only [add_plain] at hx243_0 | simp only [add_at] at hx243_0 | simp only [Addr.add, Nat.zero_add] at hx243_0 | skip)
          replace p243 := eq_true p243
          replace q243 := eq_true q243
          have p244 : 0 ≤ (x9_3 : Int) := of_decide_eq_true zq75
          have q244 : x9_3 < (y241.length : Int) := (by have h_ : (x9_3 : Int) < ((x5_3.length : Int) : Int) := of_decide_eq_true zq75; first | (have e_ := (Kd.R_reads' HO_5.out).1; omega) | simpa only [Ny241.out, List.length_set] using h_)
          have ql244 : ((x9_3 : Int) < ((x5_3.length : Int) : Int)) = True := eq_true (of_decide_eq_true zq75)
          obtain ⟨ad244, e244, hx244_0⟩ := Kd.at_int (Kd.R_reads' HO_5.out).2.2 x9_3 p244 q244
          obtain rfl : (⟨go43, 0, none⟩ : Addr) = ad244 := (by injection e244)
          (first | simp only [add_plain] at hx244_0 | simp only [add_at] at hx244_0 | simp only [Addr.add, Nat.zero_add] at hx244_0 | skip)
          replace p244 := eq_true p244
          replace q244 := eq_true q244
          refine start_ (n := 20) (S := fun w' => w'.cell? ⟨go41, (x49_3).toNat, none⟩ = some (.int .i64 (rd y240 x49_3)) ∧ w'.cell? ⟨go43, (x49_3).toNat, none⟩ = some (.int .i64 (rd y241 x49_3)) ∧ w'.cell? ⟨go43, (x9_3).toNat, none⟩ = some (.int .i64 (rd y241 x9_3))) (ds := []) #[false, false, false, false, false, false, false, false, false, false, false, false, false, false, false, false, false, false, false, false] (by kernel_rfl) rfl rfl ⟨hx242_0, hx243_0, hx244_0⟩ (fun hHeld => ?_); refine with_tabW impl_Jobs_earliest.tab19 impl_Jobs_earliest.bits19 (fun HT_ HW_ => ?_)
          generalize w57.drew = w58 at HO_4 HO_5 HO_6 BK217 HB HQ55 HQ56 hx242_0 hx243_0 hx244_0 hHeld ⊢
          refine pureA_ 0 76 HT_.out ?_
          refine pureA_ 1 77 HT_.out ?_
          refine pureA_ 2 78 HT_.out ?_
          refine take_ (i := 3) (N := some 79) (v := ?_) (a' := ?_) #[true, true, true, true, false, false, false, false, false, false, false, false, false, false, false, false, false, false, false, false] rfl rfl (take_ofW HT_.out HW_.out (by kernel_rfl)) (fun _ _ _ h => h) (Or.inl ⟨by rfl, ?_⟩) hHeld ?_ ?_
          rotate_left
          · rintro w' ⟨s0, s1, s2⟩
            go_simp
            with_reducible rfl
          rotate_left
          · simp only [Act.put, List.setIfInBounds_toArray, List.set_cons_zero, List.set_cons_succ, i64_w, i32_w]
            rfl
          refine pureA_ 4 80 HT_.out ?_
          refine pureA_ 5 81 HT_.out ?_
          refine pureA_ 6 82 HT_.out ?_
          refine pureA_ 7 83 HT_.out ?_
          refine pureA_ 8 84 HT_.out ?_
          refine pureA_ 9 85 HT_.out ?_
          refine pureA_ 10 86 HT_.out ?_
          refine pureA_ 11 87 HT_.out ?_
          refine pureA_ 13 89 HT_.out ?_
          refine pureA_ 14 90 HT_.out ?_
          refine pureA_ 15 91 HT_.out ?_
          refine take_ (i := 12) (N := some 88) (v := ?_) (a' := ?_) #[true, true, true, true, true, true, true, true, true, true, true, true, true, true, true, true, false, false, false, false] rfl rfl (take_ofW HT_.out HW_.out (by kernel_rfl)) (fun _ _ _ h => h) (Or.inl ⟨by rfl, ?_⟩) hHeld ?_ ?_
          rotate_left
          · rintro w' ⟨s0, s1, s2⟩
            go_simp
            with_reducible rfl
          rotate_left
          · simp only [Act.put, List.setIfInBounds_toArray, List.set_cons_zero, List.set_cons_succ, i64_w, i32_w]
            rfl
          refine take_ (i := 16) (N := some 92) (v := ?_) (a' := ?_) #[true, true, true, true, true, true, true, true, true, true, true, true, true, true, true, true, true, false, false, false] rfl rfl (take_ofW HT_.out HW_.out (by kernel_rfl)) (fun _ _ _ h => h) (Or.inl ⟨by rfl, ?_⟩) hHeld ?_ ?_
          rotate_left
          · rintro w' ⟨s0, s1, s2⟩
            go_simp
            with_reducible rfl
          rotate_left
          · simp only [Act.put, List.setIfInBounds_toArray, List.set_cons_zero, List.set_cons_succ, i64_w, i32_w]
            rfl
          refine pureA_ 17 93 HT_.out ?_
          refine pureA_ 18 94 HT_.out ?_
          refine pureA_ 19 95 HT_.out ?_
          refine done_ (done_of HT_.out (by kernel_rfl)) ?_
          try go_wp2
          (try simp only [← hl4_3])
          go_roundg k3
          case measure => have := HK1.out; have := HK2.out; have := HK3.out; omega
          case rel => exact ⟨(y240), (y241), (x49_3), (wrap64 (x49_3 + 1)), zq76, zq76, H', ⟨by have := HK1.out; have := HK2.out; have := HK3.out; omega⟩, ⟨by (try simp only [hl4_3]); (with_reducible repeat (first | apply Kd.R_alloc | apply Kd.R_drewN | apply Kd.R_drew)); exact HO_4.out⟩, ⟨by (try simp only [hl4_3]); (with_reducible repeat (first | apply Kd.R_alloc | apply Kd.R_drewN | apply Kd.R_drew)); exact HO_5.out⟩, ⟨by (try simp only [hl4_3]); (with_reducible repeat (first | apply Kd.R_alloc | apply Kd.R_drewN | apply Kd.R_drew)); exact HO_6.out⟩, ⟨by (try simp only [hl4_3]); (with_reducible repeat (first | refine blk_drewN ?_ _ | refine blk_drew ?_ | refine blk_alloc ?_ _)); exact BK217.out⟩, ⟨by repeat (first | (with_reducible first | exact HB.out | apply below_alloc | apply pw_below_drewN | apply below_drew1 | refine below_set ?_ GE217.out) | exact HB.out)⟩⟩
        rw [if_neg c53] at H
        have c53b0 : decide ((rd y241 x49_3) < (rd y241 x9_3)) = false := decide_eq_false c53
        clear c53
        have H' := Aside0.mk H
        clear H
        have p237 : 0 ≤ (x49_3 : Int) := of_decide_eq_true zq75
        have q237 : x49_3 < (l0_1.length : Int) := of_decide_eq_true zq75
        obtain ⟨ad237, e237, hx237_0⟩ := Kd.at_int HR0_1.out x49_3 p237 q237
        cases e237
        replace hx237_0 := (HB.out.cell (World.block_lt_of_cell? w _ hx237_0)).trans hx237_0
        replace p237 := eq_true p237
        replace q237 := eq_true q237
        try go_wp2
        have n0_ := Aside0.mk (Kd.R_drew HO_4.out)
        have n1_ := Aside0.mk (Kd.R_drew HO_5.out)
        have n2_ := Aside0.mk (Kd.R_drew HO_6.out)
        have n3_ := Aside0.mk (blk_drew BK217.out)
        have n4_ := Aside0.mk (below_drew1 HB.out)
        clear HO_4
        clear HO_5
        clear HO_6
        clear BK217
        clear HB
        have HO_4 := n0_
        have HO_5 := n1_
        have HO_6 := n2_
        have BK217 := n3_
        have HB := n4_
        clear n0_ n1_ n2_ n3_ n4_
        have p238 : 0 ≤ (x49_3 : Int) := of_decide_eq_true zq75
        have q238 : x49_3 < (l0_0.length : Int) := of_decide_eq_true zq75
        obtain ⟨ad238, e238, hx238_0⟩ := Kd.at_int HR0_0.out x49_3 p238 q238
        have hw238_0 := hx238_0
        cases e238
        replace hx238_0 := (HB.out.cell (World.block_lt_of_cell? w _ hx238_0)).trans hx238_0
        replace p238 := eq_true p238
        replace q238 := eq_true q238
        have p239 : 0 ≤ (x49_3 : Int) := of_decide_eq_true zq75
        have q239 : x49_3 < (l0_2.length : Int) := of_decide_eq_true zq75
        obtain ⟨ad239, e239, hx239_0⟩ := Kd.at_int HR0_2.out x49_3 p239 q239
        have hw239_0 := hx239_0
        cases e239
        replace hx239_0 := (HB.out.cell (World.block_lt_of_cell? w _ hx239_0)).trans hx239_0
        replace p239 := eq_true p239
        replace q239 := eq_true q239
        have p41 : 0 ≤ (x49_3 : Int) := of_decide_eq_true zq75
        have q41 : (x49_3 : Int) < ((x4_3.length : Int) : Int) := of_decide_eq_true zq75
        obtain ⟨go41, co41, eo41, gb41, gl41, cl41, HG41⟩ := Kd.R_form HO_4.out (by omega)
        (first | cases eo41 | (injection eo41 with ea_ en_ ec_; (first | subst ea_ | (injection ea_ with ea_; subst ea_)); subst ec_; clear en_))
        have GB41 := Aside0.mk gb41
        have GG41 := Aside0.mk HG41
        clear gb41 gl41 HG41
        obtain ⟨hx41_0, hf41_0⟩ := Kd.R_celln 0 HO_4.out (x49_3 : Int) p41 q41
        replace p41 := eq_true p41
        replace q41 := eq_true q41
        have HP60 := Kd.R_putn HO_4.out (x49_3 : Int) (rd l0_0 x49_3)
        rw [← Ny240.out] at HP60
        have HQ60 := Aside0.mk HP60
        clear HP60
        have p43 : 0 ≤ (x49_3 : Int) := of_decide_eq_true zq75
        have q43 : (x49_3 : Int) < ((x5_3.length : Int) : Int) := of_decide_eq_true zq75
        obtain ⟨go43, co43, eo43, gb43, gl43, cl43, HG43⟩ := Kd.R_form HO_5.out (by omega)
        (first | cases eo43 | (injection eo43 with ea_ en_ ec_; (first | subst ea_ | (injection ea_ with ea_; subst ea_)); subst ec_; clear en_))
        have GB43 := Aside0.mk gb43
        have GG43 := Aside0.mk HG43
        clear gb43 gl43 HG43
        obtain ⟨hx43_0, hf43_0⟩ := Kd.R_celln 0 (Kd.R_far (p := ⟨go41, (x49_3 : Int).toNat, none⟩) (Kd.R_mono HO_5.out (fun k_ hk => (⟨hk, fun e_ => hk.1 zq77⟩ : _ ∧ k_ ≠ go41))) (fun _ hk => hk.2) (.int .i64 (rd l0_0 x49_3))) (x49_3 : Int) p43 q43
        replace p43 := eq_true p43
        replace q43 := eq_true q43
        have HP61 := Kd.R_putn (Kd.R_far (p := ⟨go41, (x49_3 : Int).toNat, none⟩) (Kd.R_mono HO_5.out (fun k_ hk => (⟨hk, fun e_ => hk.1 zq77⟩ : _ ∧ k_ ≠ go41))) (fun _ hk => hk.2) (.int .i64 (rd l0_0 x49_3))) (x49_3 : Int) (wrap64 (x7_1 + (rd l0_2 x49_3)))
        rw [← Ny241.out] at HP61
        have HQ61 := Aside0.mk HP61
        clear HP61
        refine start_ (n := 20) (S := fun w' => w'.cell? ⟨gb217, 0, none⟩ = some (.slice (some ad238) l0_0.length c0_0) ∧ w'.cell? ⟨gb217, 1, none⟩ = some (.slice (some ad237) l0_1.length c0_1) ∧ w'.cell? ⟨gb217, 2, none⟩ = some (.slice (some ad239) l0_2.length c0_2) ∧ w'.cell? (ad238.add (x49_3).toNat) = some (.int .i64 (rd l0_0 x49_3)) ∧ w'.cell? (ad239.add (x49_3).toNat) = some (.int .i64 (rd l0_2 x49_3))) (ds := [17, 19]) #[false, false, false, false, false, false, false, false, false, false, false, false, false, false, false, false, false, false, false, false] (by kernel_rfl) rfl rfl ⟨(blk_cell BK217.out 0).trans rfl, (blk_cell BK217.out 1).trans rfl, (blk_cell BK217.out 2).trans rfl, ((HB.out.cell (World.block_lt_of_cell? w _ hw238_0)).trans hw238_0), ((HB.out.cell (World.block_lt_of_cell? w _ hw239_0)).trans hw239_0)⟩ (fun hHeld => ?_); refine with_tabW impl_Jobs_earliest.tab18 impl_Jobs_earliest.bits18 (fun HT_ HW_ => ?_)
        generalize wr.drew = w59 at HO_4 HO_5 HO_6 BK217 HB GG41 GG43 HQ60 HQ61 hf41_0 hf43_0 hx238_0 hx239_0 hx41_0 hx43_0 hHeld ⊢
        refine pureA_ 0 58 HT_.out ?_
        refine pureA_ 1 59 HT_.out ?_
        refine pureA_ 2 60 HT_.out ?_
        refine pureA_ 3 61 HT_.out ?_
        refine pureA_ 4 62 HT_.out ?_
        refine pureA_ 6 64 HT_.out ?_
        refine pureA_ 9 67 HT_.out ?_
        refine pureA_ 10 68 HT_.out ?_
        refine pureA_ 12 70 HT_.out ?_
        refine take_ (i := 5) (N := some 63) (v := ?_) (a' := ?_) #[true, true, true, true, true, true, true, false, false, true, true, false, true, false, false, false, false, false, false, false] rfl rfl (take_ofW HT_.out HW_.out (by kernel_rfl)) (fun _ _ _ h => h) (Or.inl ⟨by rfl, ?_⟩) hHeld ?_ ?_
        rotate_left
        · rintro w' ⟨s0, s1, s2, s3, s4⟩
          go_simp
          with_reducible rfl
        rotate_left
        · simp only [Act.put, List.setIfInBounds_toArray, List.set_cons_zero, List.set_cons_succ, i64_w, i32_w]
          rfl
        refine pureA_ 7 65 HT_.out ?_
        refine take_ (i := 8) (N := some 66) (v := ?_) (a' := ?_) #[true, true, true, true, true, true, true, true, true, true, true, false, true, false, false, false, false, false, false, false] rfl rfl (take_ofW HT_.out HW_.out (by kernel_rfl)) (fun _ _ _ h => h) (Or.inl ⟨by rfl, ?_⟩) hHeld ?_ ?_
        rotate_left
        · rintro w' ⟨s0, s1, s2, s3, s4⟩
          go_simp
          with_reducible rfl
        rotate_left
        · simp only [Act.put, List.setIfInBounds_toArray, List.set_cons_zero, List.set_cons_succ, i64_w, i32_w]
          rfl
        refine take_ (i := 11) (N := some 69) (v := ?_) (a' := ?_) #[true, true, true, true, true, true, true, true, true, true, true, true, true, false, false, false, false, false, false, false] rfl rfl (take_ofW HT_.out HW_.out (by kernel_rfl)) (fun _ _ _ h => h) (Or.inl ⟨by rfl, ?_⟩) hHeld ?_ ?_
        rotate_left
        · rintro w' ⟨s0, s1, s2, s3, s4⟩
          go_simp
          with_reducible rfl
        rotate_left
        · simp only [Act.put, List.setIfInBounds_toArray, List.set_cons_zero, List.set_cons_succ, i64_w, i32_w]
          rfl
        refine pureA_ 13 71 HT_.out ?_
        refine take_ (i := 14) (N := some 72) (v := ?_) (a' := ?_) #[true, true, true, true, true, true, true, true, true, true, true, true, true, true, true, false, false, false, false, false] rfl rfl (take_ofW HT_.out HW_.out (by kernel_rfl)) (fun _ _ _ h => h) (Or.inl ⟨by rfl, ?_⟩) hHeld ?_ ?_
        rotate_left
        · rintro w' ⟨s0, s1, s2, s3, s4⟩
          go_simp
          with_reducible rfl
        rotate_left
        · simp only [Act.put, List.setIfInBounds_toArray, List.set_cons_zero, List.set_cons_succ, i64_w, i32_w]
          rfl
        refine pureA_ 15 73 HT_.out ?_
        refine pureA_ 16 74 HT_.out ?_
        refine last_ (i := 17) (N := none) #[true, true, true, true, true, true, true, true, true, true, true, true, true, true, true, true, true, true, false, false] rfl rfl (one_of HT_.out (by kernel_rfl)) (by decide) (fun K hK => ?_)
        refine skip_ (w1 := ?_) (by rfl) rfl ?_ ?_
        rotate_left
        · go_simp
          rfl
        refine hK.out _ _ ?_
        clear hK K
        refine pureA_ 18 75 HT_.out ?_
        refine last_ (i := 19) (N := none) #[true, true, true, true, true, true, true, true, true, true, true, true, true, true, true, true, true, true, true, true] rfl rfl (one_of HT_.out (by kernel_rfl)) (by decide) (fun K hK => ?_)
        refine skip_ (w1 := ?_) (by rfl) rfl ?_ ?_
        rotate_left
        · go_simp
          rfl
        refine hK.out _ _ ?_
        clear hK K
        refine done_ (done_of HT_.out (by kernel_rfl)) ?_
        try go_wp2
        have n0_ : Aside0 (Kd.R (Kd.int .i64) 2 ((w59.setCell ⟨go41, (x49_3 : Int).toNat, none⟩ (.int .i64 (rd l0_0 x49_3))).setCell ⟨go43, (x49_3 : Int).toNat, none⟩ (.int .i64 (wrap64 (x7_1 + (rd l0_2 x49_3))))) w.heap.size (fun k_ => some k_ ≠ (.slice (some ⟨go43, 0, none⟩) x5_3.length co43 : Value).ownBlock ∧ some k_ ≠ (u6 : Value).ownBlock) (.slice (some ⟨go41, 0, none⟩) x4_3.length co17) y240) := ⟨by (with_reducible repeat (first | apply Kd.R_alloc | apply Kd.R_drewN | apply Kd.R_drew)); exact Kd.R_mono (Kd.R_far (p := ⟨go43, (x49_3 : Int).toNat, none⟩) (Kd.R_mono HQ60.out (fun k_ hk => (⟨hk, fun e_ => hk.1 zq77⟩ : _ ∧ k_ ≠ go43))) (fun _ hk => hk.2) (.int .i64 (wrap64 (x7_1 + (rd l0_2 x49_3))))) (fun _ hk => ⟨hk.1.1, hk.1.2⟩)⟩
        have n1_ : Aside0 (Kd.R (Kd.int .i64) 2 ((w59.setCell ⟨go41, (x49_3 : Int).toNat, none⟩ (.int .i64 (rd l0_0 x49_3))).setCell ⟨go43, (x49_3 : Int).toNat, none⟩ (.int .i64 (wrap64 (x7_1 + (rd l0_2 x49_3))))) w.heap.size (fun k_ => some k_ ≠ (.slice (some ⟨go41, 0, none⟩) x4_3.length co17 : Value).ownBlock ∧ some k_ ≠ (u6 : Value).ownBlock) (.slice (some ⟨go43, 0, none⟩) x5_3.length co43) y241) := ⟨by (with_reducible repeat (first | apply Kd.R_alloc | apply Kd.R_drewN | apply Kd.R_drew)); exact Kd.R_mono HQ61.out (fun _ hk => ⟨hk.1.1, hk.1.2⟩)⟩
        have n2_ : Aside0 (Kd.R (Kd.int .i64) 2 ((w59.setCell ⟨go41, (x49_3 : Int).toNat, none⟩ (.int .i64 (rd l0_0 x49_3))).setCell ⟨go43, (x49_3 : Int).toNat, none⟩ (.int .i64 (wrap64 (x7_1 + (rd l0_2 x49_3))))) w.heap.size (fun k_ => some k_ ≠ (.slice (some ⟨go41, 0, none⟩) x4_3.length co17 : Value).ownBlock ∧ some k_ ≠ (.slice (some ⟨go43, 0, none⟩) x5_3.length co43 : Value).ownBlock) u6 x6_1) := ⟨by (with_reducible repeat (first | apply Kd.R_alloc | apply Kd.R_drewN | apply Kd.R_drew)); exact Kd.R_mono (Kd.R_far (p := ⟨go43, (x49_3 : Int).toNat, none⟩) (Kd.R_far (p := ⟨go41, (x49_3 : Int).toNat, none⟩) (Kd.R_mono (Kd.R_mono HO_6.out (fun k_ hk => (⟨hk, fun e_ => hk.1 zq77⟩ : _ ∧ k_ ≠ go41))) (fun k_ hk => (⟨hk, fun e_ => hk.1.2 zq77⟩ : _ ∧ k_ ≠ go43))) (fun _ hk => hk.1.2) (.int .i64 (rd l0_0 x49_3))) (fun _ hk => hk.2) (.int .i64 (wrap64 (x7_1 + (rd l0_2 x49_3))))) (fun _ hk => ⟨hk.1.1.1, hk.1.1.2⟩)⟩
        have n3_ : Aside0 (((w59.setCell ⟨go41, (x49_3 : Int).toNat, none⟩ (.int .i64 (rd l0_0 x49_3))).setCell ⟨go43, (x49_3 : Int).toNat, none⟩ (.int .i64 (wrap64 (x7_1 + (rd l0_2 x49_3))))).heap[gb217]? = some (.cells #[.slice (some ad238) l0_0.length c0_0, .slice (some ad237) l0_1.length c0_1, .slice (some ad239) l0_2.length c0_2] 28 (0, 0))) := ⟨by (with_reducible repeat (first | refine blk_drewN ?_ _ | refine blk_drew ?_ | refine blk_alloc ?_ _)); refine blk_far ?_ zq72 _; (with_reducible repeat (first | refine blk_drewN ?_ _ | refine blk_drew ?_ | refine blk_alloc ?_ _)); refine blk_far ?_ zq73 _; (with_reducible repeat (first | refine blk_drewN ?_ _ | refine blk_drew ?_ | refine blk_alloc ?_ _)); exact BK217.out⟩
        have n4_ : Aside0 (Below w.heap.size w ((w59.setCell ⟨go41, (x49_3 : Int).toNat, none⟩ (.int .i64 (rd l0_0 x49_3))).setCell ⟨go43, (x49_3 : Int).toNat, none⟩ (.int .i64 (wrap64 (x7_1 + (rd l0_2 x49_3)))))) := ⟨by repeat (first | (with_reducible first | exact HB.out | apply below_alloc | apply pw_below_drewN | apply below_drew1 | refine below_set ?_ GB41.out | refine below_set ?_ GB43.out | refine below_set ?_ GE217.out) | exact HB.out)⟩
        (try clear HO_4)
        (try clear HO_5)
        (try clear HO_6)
        (try clear BK217)
        (try clear HB)
        generalize ((w59.setCell ⟨go41, (x49_3 : Int).toNat, none⟩ (.int .i64 (rd l0_0 x49_3))).setCell ⟨go43, (x49_3 : Int).toNat, none⟩ (.int .i64 (wrap64 (x7_1 + (rd l0_2 x49_3))))) = w62 at n0_ n1_ n2_ n3_ n4_ ⊢
        have HO_4 := n0_
        have HO_5 := n1_
        have HO_6 := n2_
        have BK217 := n3_
        have HB := n4_
        clear n0_ n1_ n2_ n3_ n4_
        have n0_ := Aside0.mk (Kd.R_drew HO_4.out)
        have n1_ := Aside0.mk (Kd.R_drew HO_5.out)
        have n2_ := Aside0.mk (Kd.R_drew HO_6.out)
        have n3_ := Aside0.mk (blk_drew BK217.out)
        have n4_ := Aside0.mk (below_drew1 HB.out)
        clear HO_4
        clear HO_5
        clear HO_6
        clear BK217
        clear HB
        have HO_4 := n0_
        have HO_5 := n1_
        have HO_6 := n2_
        have BK217 := n3_
        have HB := n4_
        clear n0_ n1_ n2_ n3_ n4_
        have p242 : 0 ≤ (x49_3 : Int) := of_decide_eq_true zq75
        have q242 : x49_3 < (y240.length : Int) := (by have h_ : (x49_3 : Int) < ((x4_3.length : Int) : Int) := of_decide_eq_true zq75; first | (have e_ := (Kd.R_reads' HO_4.out).1; omega) | simpa only [Ny240.out, List.length_set] using h_)
        have ql242 : ((x49_3 : Int) < ((x4_3.length : Int) : Int)) = True := eq_true (of_decide_eq_true zq75)
        obtain ⟨ad242, e242, hx242_0⟩ := Kd.at_int (Kd.R_reads' HO_4.out).2.2 x49_3 p242 q242
        obtain rfl : (⟨go41, 0, none⟩ : Addr) = ad242 := (by injection e242)
        (first | simp only [add_plain] at hx242_0 | simp only [add_at] at hx242_0 | simp only [Addr.add, Nat.zero_add] at hx242_0 | skip)
        replace p242 := eq_true p242
        replace q242 := eq_true q242
        have p243 : 0 ≤ (x49_3 : Int) := of_decide_eq_true zq75
        have q243 : x49_3 < (y241.length : Int) := (by have h_ : (x49_3 : Int) < ((x5_3.length : Int) : Int) := of_decide_eq_true zq75; first | (have e_ := (Kd.R_reads' HO_5.out).1; omega) | simpa only [Ny241.out, List.length_set] using h_)
        have ql243 : ((x49_3 : Int) < ((x5_3.length : Int) : Int)) = True := eq_true (of_decide_eq_true zq75)
        obtain ⟨ad243, e243, hx243_0⟩ := Kd.at_int (Kd.R_reads' HO_5.out).2.2 x49_3 p243 q243
        obtain rfl : (⟨go43, 0, none⟩ : Addr) = ad243 := (by injection e243)
        (first | simp only [add_plain] at hx243_0 | simp only [add_at] at hx243_0 | simp only [Addr.add, Nat.zero_add] at hx243_0 | skip)
        replace p243 := eq_true p243
        replace q243 := eq_true q243
        have p244 : 0 ≤ (x9_3 : Int) := of_decide_eq_true zq75
        have q244 : x9_3 < (y241.length : Int) := (by have h_ : (x9_3 : Int) < ((x5_3.length : Int) : Int) := of_decide_eq_true zq75; first | (have e_ := (Kd.R_reads' HO_5.out).1; omega) | simpa only [Ny241.out, List.length_set] using h_)
        have ql244 : ((x9_3 : Int) < ((x5_3.length : Int) : Int)) = True := eq_true (of_decide_eq_true zq75)
        obtain ⟨ad244, e244, hx244_0⟩ := Kd.at_int (Kd.R_reads' HO_5.out).2.2 x9_3 p244 q244
        obtain rfl : (⟨go43, 0, none⟩ : Addr) = ad244 := (by injection e244)
        (first | simp only [add_plain] at hx244_0 | simp only [add_at] at hx244_0 | simp only [Addr.add, Nat.zero_add] at hx244_0 | skip)
        replace p244 := eq_true p244
        replace q244 := eq_true q244
        refine start_ (n := 20) (S := fun w' => w'.cell? ⟨go41, (x49_3).toNat, none⟩ = some (.int .i64 (rd y240 x49_3)) ∧ w'.cell? ⟨go43, (x49_3).toNat, none⟩ = some (.int .i64 (rd y241 x49_3)) ∧ w'.cell? ⟨go43, (x9_3).toNat, none⟩ = some (.int .i64 (rd y241 x9_3))) (ds := []) #[false, false, false, false, false, false, false, false, false, false, false, false, false, false, false, false, false, false, false, false] (by kernel_rfl) rfl rfl ⟨hx242_0, hx243_0, hx244_0⟩ (fun hHeld => ?_); refine with_tabW impl_Jobs_earliest.tab19 impl_Jobs_earliest.bits19 (fun HT_ HW_ => ?_)
        generalize w62.drew = w63 at HO_4 HO_5 HO_6 BK217 HB HQ60 HQ61 hx242_0 hx243_0 hx244_0 hHeld ⊢
        refine pureA_ 0 76 HT_.out ?_
        refine pureA_ 1 77 HT_.out ?_
        refine pureA_ 2 78 HT_.out ?_
        refine take_ (i := 3) (N := some 79) (v := ?_) (a' := ?_) #[true, true, true, true, false, false, false, false, false, false, false, false, false, false, false, false, false, false, false, false] rfl rfl (take_ofW HT_.out HW_.out (by kernel_rfl)) (fun _ _ _ h => h) (Or.inl ⟨by rfl, ?_⟩) hHeld ?_ ?_
        rotate_left
        · rintro w' ⟨s0, s1, s2⟩
          go_simp
          with_reducible rfl
        rotate_left
        · simp only [Act.put, List.setIfInBounds_toArray, List.set_cons_zero, List.set_cons_succ, i64_w, i32_w]
          rfl
        refine pureA_ 4 80 HT_.out ?_
        refine pureA_ 5 81 HT_.out ?_
        refine pureA_ 6 82 HT_.out ?_
        refine pureA_ 7 83 HT_.out ?_
        refine pureA_ 8 84 HT_.out ?_
        refine pureA_ 9 85 HT_.out ?_
        refine pureA_ 10 86 HT_.out ?_
        refine pureA_ 11 87 HT_.out ?_
        refine pureA_ 13 89 HT_.out ?_
        refine pureA_ 14 90 HT_.out ?_
        refine pureA_ 15 91 HT_.out ?_
        refine take_ (i := 12) (N := some 88) (v := ?_) (a' := ?_) #[true, true, true, true, true, true, true, true, true, true, true, true, true, true, true, true, false, false, false, false] rfl rfl (take_ofW HT_.out HW_.out (by kernel_rfl)) (fun _ _ _ h => h) (Or.inl ⟨by rfl, ?_⟩) hHeld ?_ ?_
        rotate_left
        · rintro w' ⟨s0, s1, s2⟩
          go_simp
          with_reducible rfl
        rotate_left
        · simp only [Act.put, List.setIfInBounds_toArray, List.set_cons_zero, List.set_cons_succ, i64_w, i32_w]
          rfl
        refine take_ (i := 16) (N := some 92) (v := ?_) (a' := ?_) #[true, true, true, true, true, true, true, true, true, true, true, true, true, true, true, true, true, false, false, false] rfl rfl (take_ofW HT_.out HW_.out (by kernel_rfl)) (fun _ _ _ h => h) (Or.inl ⟨by rfl, ?_⟩) hHeld ?_ ?_
        rotate_left
        · rintro w' ⟨s0, s1, s2⟩
          go_simp
          with_reducible rfl
        rotate_left
        · simp only [Act.put, List.setIfInBounds_toArray, List.set_cons_zero, List.set_cons_succ, i64_w, i32_w]
          rfl
        refine pureA_ 17 93 HT_.out ?_
        refine pureA_ 18 94 HT_.out ?_
        refine pureA_ 19 95 HT_.out ?_
        refine done_ (done_of HT_.out (by kernel_rfl)) ?_
        try go_wp2
        (try simp only [← hl4_3])
        go_roundg k3
        case measure => have := HK1.out; have := HK2.out; have := HK3.out; omega
        case rel => exact ⟨(y240), (y241), (x9_3), (wrap64 (x49_3 + 1)), zq76, zq76, H', ⟨by have := HK1.out; have := HK2.out; have := HK3.out; omega⟩, ⟨by (try simp only [hl4_3]); (with_reducible repeat (first | apply Kd.R_alloc | apply Kd.R_drewN | apply Kd.R_drew)); exact HO_4.out⟩, ⟨by (try simp only [hl4_3]); (with_reducible repeat (first | apply Kd.R_alloc | apply Kd.R_drewN | apply Kd.R_drew)); exact HO_5.out⟩, ⟨by (try simp only [hl4_3]); (with_reducible repeat (first | apply Kd.R_alloc | apply Kd.R_drewN | apply Kd.R_drew)); exact HO_6.out⟩, ⟨by (try simp only [hl4_3]); (with_reducible repeat (first | refine blk_drewN ?_ _ | refine blk_drew ?_ | refine blk_alloc ?_ _)); exact BK217.out⟩, ⟨by repeat (first | (with_reducible first | exact HB.out | apply below_alloc | apply pw_below_drewN | apply below_drew1 | refine below_set ?_ GE217.out) | exact HB.out)⟩⟩
end Go.Proofs.Ytmgdobiloapelaa.B
