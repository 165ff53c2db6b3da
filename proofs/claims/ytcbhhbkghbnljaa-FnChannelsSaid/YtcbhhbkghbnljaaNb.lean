/- Sets put on channels: what the function gives. Conditions: as each theorem states. Written for this claim by a program of my own out of the print. -/
import Derived.Test.YtcbhhbkghbnljaaNa
namespace Go.Proofs.Ytcbhhbkghbnljaa.K
open Go.RowKit Go.Proofs.YtcbhhbkghbnljaaW.PrintWords Go.Proofs.YtcbhhbkghbnljaaW.PrintLast
set_option linter.unusedVariables false
set_option linter.unusedSimpArgs false
def bq.f (a0 : Int) (a1 : Int) (a2 : Int) : Option (Bool) := if a0 ≥ a1 then (some (decide (a0 ≤ a2))) else (some false)
set_option maxHeartbeats 8000000 in
set_option maxRecDepth 100000 in
theorem bq.calls (a0 : Int) (a1 : Int) (a2 : Int) (r : Bool) (w : World) (h : bq.f a0 a1 a2 = some r) :
  Calls Try.prog 102 #[.int .i64 a0, .int .i64 a1, .int .i64 a2] w fun e w' => e = .returned (.bool r) ∧ eR w w' := by
 have H : (if a0 ≥ a1 then (some (decide (a0 ≤ a2))) else (some false)) = some r := h
 clear h
 by_cases c4 : a0 ≥ a1
 ·rw [if_pos c4] at H
  have c4b0 : decide (a1 ≤ a0) = true := decide_eq_true c4
  clear c4
  obtain rfl := Option.some.inj H
  go_enter Try.func102, Try.ntmps102
  go_wp2
  go_ret
  exact ⟨by first | rfl | (simp; done) | (simp [*]; done), by repeat (first | exact eR.refl _ | apply eR.step)⟩
 rw [if_neg c4] at H
 have c4b0 : decide (a1 ≤ a0) = false := decide_eq_false c4
 clear c4
 obtain rfl := Option.some.inj H
 go_enter Try.func102, Try.ntmps102
 go_wp2
 go_ret
 exact ⟨by first | rfl | (simp; done) | (simp [*]; done), by repeat (first | exact eR.refl _ | apply eR.step)⟩
def aN.l0 : Nat → Int → Int → Option (Int)
 | 0, _, _ => none
 | k + 1, x0, x3 => if x0 > 0 then (aN.l0 k (Go.bits .and .i64 x0 (wrap64 (x0 - 1))) (wrap64 (x3 + 1))) else (some x3)
def aN.f (k : Nat) (a0 : Int) : Option (Int) := aN.l0 k a0 0
theorem aN.calls (k : Nat) (a0 : Int) (r : Int) (w : World) (h : aN.f k a0 = some r) :
  Calls Try.prog 211 #[.int .i64 a0] w fun e w' => e = .returned (.int .i64 r) ∧ eR w w' := by
 have H : (aN.l0 k a0 0) = some r := h
 clear h
 have H' := ab.mk H
 clear H
 go_enter Try.func211, Try.ntmps211
 go_wp2
 go_loopg [0, 3] k (fun kq v0 v3 w' => ∃ (x0_1 : Int) (x3_1 : Int), v0 = .int .i64 x0_1 ∧ v3 = .int .i64 x3_1 ∧ ab (aN.l0 kq x0_1 x3_1 = some r) ∧ ab (kq ≤ k) ∧ eR w w')
 case atStart => exact ⟨(a0), (0), dQ, dQ, H', ⟨Nat.le_refl _⟩, by repeat (first | exact eR.refl _ | apply eR.step)⟩
 clear H'
 obtain ⟨x0_1, x3_1, rfl, rfl, HA, HK1, ⟨m1, rfl⟩⟩ := hrel
 cases gk with
 | zero => exact absurd HA.out (by simp [aN.l0])
 | succ k1 => as_aux_lemma =>
  have H := HA.out
  clear HA
  simp only [aN.l0] at H
  by_cases c2 : x0_1 > 0
  ·rw [if_pos c2] at H
   have c2b0 : decide (0 < x0_1) = true := decide_eq_true c2
   clear c2
   have H' := ab.mk H
   clear H
   go_wp2
   go_roundg k1
   case measure => have := HK1.out; omega
   case rel => exact ⟨(Go.bits .and .i64 x0_1 (wrap64 (x0_1 - 1))), (wrap64 (x3_1 + 1)), dQ, dQ, H', ⟨by have := HK1.out; omega⟩, by repeat (first | exact eR.refl _ | apply eR.step)⟩
  rw [if_neg c2] at H
  have c2b0 : decide (0 < x0_1) = false := decide_eq_false c2
  clear c2
  obtain rfl := Option.some.inj H
  go_wp2
  go_ret
  exact ⟨by first | rfl | (simp; done) | (simp [*]; done), by repeat (first | exact eR.refl _ | apply eR.step)⟩
mutual
def aa.j0 : Nat → Int → Int → List Int → Bool → Option ((List (List Int)) × Int)
 | 0, _, _, _, _ => none
 | k + 1, x0, x1, x2, x37 => if x37 = true then (some (([] : List (List Int)), 2)) else (aa.l0 k x0 x1 x2 0)
def aa.l0 : Nat → Int → Int → List Int → Int → Option ((List (List Int)) × Int)
 | 0, _, _, _, _ => none
 | k + 1, x0, x1, x2, x8 => if x8 < (x2.length : Int) then (if 0 ≤ x8 then (if 0 ≤ (IntKind.u64.wrap (x0)) then ((bq.f (rd x2 x8) 0 (wrap64 ((shl .i64 1 (IntKind.u64.wrap (x0))) - 1))).bind fun t534 => (if t534 = true then ((aN.f k (rd x2 x8)).bind fun t536 => (if t536 > x1 then (some (([] : List (List Int)), 2)) else (aa.l0 k x0 x1 x2 (wrap64 (x8 + 1))))) else (some (([] : List (List Int)), 2)))) else (none)) else (none)) else (aa.l1 k x0 x1 x2 (([] : List (List Int))) (([] : List Int)) 0)
def aa.l1 : Nat → Int → Int → List Int → List (List Int) → List Int → Int → Option ((List (List Int)) × Int)
 | 0, _, _, _, _, _, _ => none
 | k + 1, x0, x1, x2, x9, x10, x11 => if x11 < x1 then (if x9.length < 5864062014805 then (aa.l1 k x0 x1 x2 (x9 ++ [(([] : List Int))]) x10 (wrap64 (x11 + 1))) else (none)) else (aa.l2 k x0 x1 x2 x9 x10 0)
def aa.l2 : Nat → Int → Int → List Int → List (List Int) → List Int → Int → Option ((List (List Int)) × Int)
 | 0, _, _, _, _, _, _ => none
 | k + 1, x0, x1, x2, x9, x10, x12 => if x12 < x0 then (if x10.length < 17592186044416 then (aa.l2 k x0 x1 x2 x9 (x10 ++ [(-1)]) (wrap64 (x12 + 1))) else (none)) else (aa.l3 k x0 x1 x2 x9 x10 0)
def aa.l3 : Nat → Int → Int → List Int → List (List Int) → List Int → Int → Option ((List (List Int)) × Int)
 | 0, _, _, _, _, _, _ => none
 | k + 1, x0, x1, x2, x9, x10, x13 => if x13 < (x2.length : Int) then (aa.l4 k x0 x1 x2 x9 x10 x13 (([] : List Int)) 0) else (some (x9, 0))
def aa.l4 : Nat → Int → Int → List Int → List (List Int) → List Int → Int → List Int → Int → Option ((List (List Int)) × Int)
 | 0, _, _, _, _, _, _, _, _ => none
 | k + 1, x0, x1, x2, x9, x10, x13, x14, x15 => if x15 < x1 then (if x14.length < 17592186044416 then (aa.l4 k x0 x1 x2 x9 x10 x13 (x14 ++ [(-1)]) (wrap64 (x15 + 1))) else (none)) else (aa.l5 k x0 x1 x2 x9 x10 x13 x14 0)
def aa.l5 : Nat → Int → Int → List Int → List (List Int) → List Int → Int → List Int → Int → Option ((List (List Int)) × Int)
 | 0, _, _, _, _, _, _, _, _ => none
 | k + 1, x0, x1, x2, x9, x10, x13, x14, x16 => if x16 < 2 then (aa.l6 k x0 x1 x2 x9 x10 x13 x14 x16 0) else (aa.l8 k x0 x1 x2 x9 x10 x13 x14 (x9.length : Int) 0)
def aa.l6 : Nat → Int → Int → List Int → List (List Int) → List Int → Int → List Int → Int → Int → Option ((List (List Int)) × Int)
 | 0, _, _, _, _, _, _, _, _, _ => none
 | k + 1, x0, x1, x2, x9, x10, x13, x14, x16, x17 => if x17 < x0 then (if 0 ≤ x13 then (if x13 < (x2.length : Int) then (if 0 ≤ (IntKind.u64.wrap (x17)) then (if (Go.bits .and .i64 (shr .i64 (rd x2 x13) (IntKind.u64.wrap (x17))) 1) = 0 then (aa.l6 k x0 x1 x2 x9 x10 x13 x14 x16 (wrap64 (x17 + 1))) else (if x16 = 0 then (if 0 ≤ x17 then (if x17 < (x10.length : Int) then (if (rd x10 x17) ≥ 0 then (if 0 ≤ (rd x10 x17) then (if (rd x10 x17) < (x14.length : Int) then (aa.j8 k x0 x1 x2 x9 x10 x13 x14 x16 x17 (decide ((rd x14 (rd x10 x17)) < 0))) else (none)) else (none)) else (aa.j8 k x0 x1 x2 x9 x10 x13 x14 x16 x17 false)) else (none)) else (none)) else (aa.j8 k x0 x1 x2 x9 x10 x13 x14 x16 x17 false))) else (none)) else (none)) else (none)) else (aa.l5 k x0 x1 x2 x9 x10 x13 x14 (wrap64 (x16 + 1)))
def aa.j8 : Nat → Int → Int → List Int → List (List Int) → List Int → Int → List Int → Int → Int → Bool → Option ((List (List Int)) × Int)
 | 0, _, _, _, _, _, _, _, _, _, _ => none
 | k + 1, x0, x1, x2, x9, x10, x13, x14, x16, x17, x133 => if x133 = true then (if 0 ≤ x17 then (if x17 < (x10.length : Int) then (if 0 ≤ (rd x10 x17) then (if (rd x10 x17) < (x14.length : Int) then (aa.j9 k x0 x1 x2 x9 x10 x13 (x14.set ((rd x10 x17) : Int).toNat x17) x16 x17) else (none)) else (none)) else (none)) else (none)) else (aa.j9 k x0 x1 x2 x9 x10 x13 x14 x16 x17)
def aa.j9 : Nat → Int → Int → List Int → List (List Int) → List Int → Int → List Int → Int → Int → Option ((List (List Int)) × Int)
 | 0, _, _, _, _, _, _, _, _, _ => none
 | k + 1, x0, x1, x2, x9, x10, x13, x14, x16, x17 => if x16 = 1 then (if 0 ≤ x17 then (if x17 < (x10.length : Int) then (if (rd x10 x17) < 0 then (aa.j10 k x0 x1 x2 x9 x10 x13 x14 x16 x17 true) else (if 0 ≤ (rd x10 x17) then (if (rd x10 x17) < (x14.length : Int) then (aa.j10 k x0 x1 x2 x9 x10 x13 x14 x16 x17 ((rd x14 (rd x10 x17)) != x17)) else (none)) else (none))) else (none)) else (none)) else (aa.j10 k x0 x1 x2 x9 x10 x13 x14 x16 x17 false)
def aa.j10 : Nat → Int → Int → List Int → List (List Int) → List Int → Int → List Int → Int → Int → Bool → Option ((List (List Int)) × Int)
 | 0, _, _, _, _, _, _, _, _, _, _ => none
 | k + 1, x0, x1, x2, x9, x10, x13, x14, x16, x17, x160 => if x160 = true then (aa.l7 k x0 x1 x2 x9 x10 x13 x14 x16 x17 0) else (aa.l6 k x0 x1 x2 x9 x10 x13 x14 x16 (wrap64 (x17 + 1)))
def aa.l7 : Nat → Int → Int → List Int → List (List Int) → List Int → Int → List Int → Int → Int → Int → Option ((List (List Int)) × Int)
 | 0, _, _, _, _, _, _, _, _, _, _ => none
 | k + 1, x0, x1, x2, x9, x10, x13, x14, x16, x17, x18 => if 0 ≤ x18 then (if x18 < (x14.length : Int) then (if (rd x14 x18) ≥ 0 then (aa.l7 k x0 x1 x2 x9 x10 x13 x14 x16 x17 (wrap64 (x18 + 1))) else (if 0 ≤ x17 then (if x17 < (x10.length : Int) then (aa.l6 k x0 x1 x2 x9 (x10.set (x17 : Int).toNat x18) x13 (x14.set (x18 : Int).toNat x17) x16 (wrap64 (x17 + 1))) else (none)) else (none))) else (none)) else (none)
def aa.l8 : Nat → Int → Int → List Int → List (List Int) → List Int → Int → List Int → Int → Int → Option ((List (List Int)) × Int)
 | 0, _, _, _, _, _, _, _, _, _ => none
 | k + 1, x0, x1, x2, x9, x10, x13, x14, x177, x178 => if x178 < x177 then (if 0 ≤ x178 then (if x178 < (x9.length : Int) then (if x178 < (x14.length : Int) then (if (cE x9 x178).length < 17592186044416 then (aa.l8 k x0 x1 x2 (x9.set (x178 : Int).toNat ((cE x9 x178) ++ [rd x14 x178])) x10 x13 x14 x177 (wrap64 (x178 + 1))) else (none)) else (none)) else (none)) else (none)) else (aa.l3 k x0 x1 x2 x9 x10 (wrap64 (x13 + 1)))
end
def aa.f (k : Nat) (a0 : Int) (a1 : Int) (l2 : List Int) : Option ((List (List Int)) × Int) := (bq.f a0 1 8).bind fun t531 => (if t531 = true then ((bq.f a1 1 4).bind fun t532 => (if t532 = true then (if (l2.length : Int) < 1 then (aa.j0 k a0 a1 l2 true) else (aa.j0 k a0 a1 l2 (decide ((l2.length : Int) > 120)))) else (aa.j0 k a0 a1 l2 true))) else (aa.j0 k a0 a1 l2 true))
def aa.T43 : Bool × List (List Nat × List Nat) := (true, [([], []), ([], []), ([], []), ([], []), ([2, 3], [2, 3]), ([4], [4]), ([], []), ([], []), ([6, 7], [6, 7]), ([8], [8]), ([9], [9]), ([5, 10], [5, 10]), ([0, 1, 0, 1, 2, 3, 4, 5, 6, 7, 8, 9, 10, 11], [0, 1]), ([12, 11, 11, 0, 1, 2, 3, 4, 5, 6, 7, 8, 9, 10, 11], [11, 12])])
def aa.B43 : List Nat := [0, 0, 0, 0, 12, 28, 0, 0, 192, 448, 960, 2044, 4095, 8191]
theorem aa.Py : jJ .any (opsOf Try.f224 43) = aa.T43 := by kernel_rfl
theorem aa.Lq : mZ aa.T43.2 aa.B43 = true := by kernel_rfl
set_option maxHeartbeats 8000000 in
set_option maxRecDepth 100000 in
theorem aa.calls (k : Nat) (a0 : Int) (a1 : Int) (A2 : Option Addr) (c2 : Nat) (l2 : List Int) (r1 : List (List Int)) (r2 : Int) (w : World) (hr2 : Kd.C (Kd.int .i64) w A2 l2.length l2) (hc2 : l2.length ≤ c2) (h : aa.f k a0 a1 l2 = some (r1, r2)) :
  Calls Try.prog 224 #[.int .i64 a0, .int .i64 a1, .slice A2 l2.length c2] w fun e w' => ∃ v0_ : Value, e = .returned (.tuple #[v0_, .int .i64 r2]) ∧ Kd.S (Kd.slice 2 (Kd.int .i64)) 29 w' w.heap.size (fun _ => True) v0_ r1 ∧ Below w.heap.size w w' := by
 have HR2 := ab.mk hr2
 have HC2 := ab.mk hc2
 clear hr2 hc2
 have HB := ab.mk (Below.refl w.heap.size w)
 have H : ((bq.f a0 1 8).bind fun t531 => (if t531 = true then ((bq.f a1 1 4).bind fun t532 => (if t532 = true then (if (l2.length : Int) < 1 then (aa.j0 k a0 a1 l2 true) else (aa.j0 k a0 a1 l2 (decide ((l2.length : Int) > 120)))) else (aa.j0 k a0 a1 l2 true))) else (aa.j0 k a0 a1 l2 true))) = some (r1, r2) := h
 clear h
 have HC4 := ab.mk H
 clear H
 go_enter Try.func224, Try.ntmps224
 go_upto_region 1 with (fail)
 go_cut [37] (fun v37 wc => ∃ (kq : Nat) (x37_3 : Bool), v37 = .bool x37_3 ∧ ab (aa.j0 kq a0 a1 l2 x37_3 = some (r1, r2)) ∧ ab (kq ≤ k) ∧ ab (Below w.heap.size w wc))
 case first =>
  have H := HC4.out
  clear HC4
  replace H := Option.bind_eq_some_iff.mp H
  obtain ⟨t531, A50, H⟩ := H
  replace H : (if t531 = true then ((bq.f a1 1 4).bind fun t532 => (if t532 = true then (if (l2.length : Int) < 1 then (aa.j0 k a0 a1 l2 true) else (aa.j0 k a0 a1 l2 (decide ((l2.length : Int) > 120)))) else (aa.j0 k a0 a1 l2 true))) else (aa.j0 k a0 a1 l2 true)) = some (r1, r2) := H
  have A5 := ab.mk A50
  clear A50
  by_cases c6 : t531 = true
  rotate_left
  ·replace c6 := Bool.eq_false_iff.mpr c6
   subst c6
   have H1 : (aa.j0 k a0 a1 l2 true) = some (r1, r2) := by rw [if_neg (show ¬ (false = true) by decide)] at H; exact H
   clear H
   have H := H1
   clear H1
   have H' := ab.mk H
   clear H
   go_wp2_with (first | ((with_reducible refine fg (f := 102) rfl ?_); refine nI (some 21) rfl rfl Try.func102 jG rfl #[.int .i64 a0, .int .i64 1, .int .i64 8] rfl KC ?_; (with_reducible refine (bq.calls a0 1 8 false _ A5.out).mono ?_); rintro e w' ⟨rfl, ⟨nd, rfl⟩⟩; refine ⟨_, rfl, ?_⟩))
   go_meet
   case rel => exact ⟨_, (true), dQ, H', ⟨by first | omega | exact Nat.le_refl _⟩, ⟨by repeat (first | (with_reducible first | exact HB.out | apply a6 | apply aG | apply a9) | exact HB.out)⟩⟩
  subst c6
  have H1 : ((bq.f a1 1 4).bind fun t532 => (if t532 = true then (if (l2.length : Int) < 1 then (aa.j0 k a0 a1 l2 true) else (aa.j0 k a0 a1 l2 (decide ((l2.length : Int) > 120)))) else (aa.j0 k a0 a1 l2 true))) = some (r1, r2) := by rw [if_pos rfl] at H; exact H
  clear H
  have H := H1
  clear H1
  replace H := Option.bind_eq_some_iff.mp H
  obtain ⟨t532, A70, H⟩ := H
  replace H : (if t532 = true then (if (l2.length : Int) < 1 then (aa.j0 k a0 a1 l2 true) else (aa.j0 k a0 a1 l2 (decide ((l2.length : Int) > 120)))) else (aa.j0 k a0 a1 l2 true)) = some (r1, r2) := H
  have A7 := ab.mk A70
  clear A70
  by_cases c8 : t532 = true
  rotate_left
  ·replace c8 := Bool.eq_false_iff.mpr c8
   subst c8
   have H1 : (aa.j0 k a0 a1 l2 true) = some (r1, r2) := by rw [if_neg (show ¬ (false = true) by decide)] at H; exact H
   clear H
   have H := H1
   clear H1
   have H' := ab.mk H
   clear H
   go_wp2_with (first | ((with_reducible refine fg (f := 102) rfl ?_); refine nI (some 21) rfl rfl Try.func102 jG rfl #[.int .i64 a0, .int .i64 1, .int .i64 8] rfl KC ?_; (with_reducible refine (bq.calls a0 1 8 true _ A5.out).mono ?_); rintro e w' ⟨rfl, ⟨nd, rfl⟩⟩; refine ⟨_, rfl, ?_⟩) | (go_at_call 102; (with_reducible refine (bq.calls a1 1 4 false _ A7.out).mono ?_); rintro e w' ⟨rfl, ⟨nd, rfl⟩⟩))
   go_meet
   case rel => exact ⟨_, (true), dQ, H', ⟨by first | omega | exact Nat.le_refl _⟩, ⟨by repeat (first | (with_reducible first | exact HB.out | apply a6 | apply aG | apply a9) | exact HB.out)⟩⟩
  subst c8
  have H1 : (if (l2.length : Int) < 1 then (aa.j0 k a0 a1 l2 true) else (aa.j0 k a0 a1 l2 (decide ((l2.length : Int) > 120)))) = some (r1, r2) := by rw [if_pos rfl] at H; exact H
  clear H
  have H := H1
  clear H1
  by_cases c9 : (l2.length : Int) < 1
  ·rw [if_pos c9] at H
   have c9b0 : decide ((l2.length : Int) < 1) = true := decide_eq_true c9
   have c9b1 : decide (l2.length < 1) = true := decide_eq_true (by omega)
   clear c9
   (first | rw [c9b0] | (simp only [fE]; rw [c9b0]) | skip)
   have H' := ab.mk H
   clear H
   go_wp2_with (first | ((with_reducible refine fg (f := 102) rfl ?_); refine nI (some 21) rfl rfl Try.func102 jG rfl #[.int .i64 a0, .int .i64 1, .int .i64 8] rfl KC ?_; (with_reducible refine (bq.calls a0 1 8 true _ A5.out).mono ?_); rintro e w' ⟨rfl, ⟨nd, rfl⟩⟩; refine ⟨_, rfl, ?_⟩) | (go_at_call 102; (with_reducible refine (bq.calls a1 1 4 true _ A7.out).mono ?_); rintro e w' ⟨rfl, ⟨nd, rfl⟩⟩))
   go_meet
   case rel => exact ⟨_, (true), dQ, H', ⟨by first | omega | exact Nat.le_refl _⟩, ⟨by repeat (first | (with_reducible first | exact HB.out | apply a6 | apply aG | apply a9) | exact HB.out)⟩⟩
  rw [if_neg c9] at H
  have c9b0 : decide ((l2.length : Int) < 1) = false := decide_eq_false c9
  have c9b1 : decide (l2.length < 1) = false := decide_eq_false (by omega)
  clear c9
  (first | rw [c9b0] | (simp only [fE]; rw [c9b0]) | skip)
  have H' := ab.mk H
  clear H
  go_wp2_with (first | ((with_reducible refine fg (f := 102) rfl ?_); refine nI (some 21) rfl rfl Try.func102 jG rfl #[.int .i64 a0, .int .i64 1, .int .i64 8] rfl KC ?_; (with_reducible refine (bq.calls a0 1 8 true _ A5.out).mono ?_); rintro e w' ⟨rfl, ⟨nd, rfl⟩⟩; refine ⟨_, rfl, ?_⟩) | (go_at_call 102; (with_reducible refine (bq.calls a1 1 4 true _ A7.out).mono ?_); rintro e w' ⟨rfl, ⟨nd, rfl⟩⟩))
  go_meet
  case rel => exact ⟨_, (decide ((l2.length : Int) > 120)), dQ, H', ⟨by first | omega | exact Nat.le_refl _⟩, ⟨by repeat (first | (with_reducible first | exact HB.out | apply a6 | apply aG | apply a9) | exact HB.out)⟩⟩
 clear HC4
 obtain ⟨kq, x37_3, rfl, HA, HJ3, HB⟩ := hcut
 cases kq with
 | zero => exact absurd HA.out (by simp [aa.j0])
 | succ kj3 =>
  have H := HA.out
  clear HA
  simp only [aa.j0] at H
  by_cases c10 : x37_3 = true
  ·subst c10
   have H1 : (some (([] : List (List Int)), 2)) = some (r1, r2) := by rw [if_pos rfl] at H; exact H
   clear H
   have H := H1
   clear H1
   simp only [Option.some.injEq, Prod.mk.injEq] at H
   obtain ⟨rfl, rfl⟩ := H
   go_wp2
   go_ret2
   exact ⟨_, by first | rfl | (simp [errW_none, errW_some] <;> rfl) | (simp [*, errW_none, errW_some] <;> rfl), by first | exact Kd.Gm _ _ _ _ _ | exact Kd.N_nil _ _ _ _ _ | exact Kd.V_nil _ _ _ _ _ | exact Kd.Q_nil _ _ _ _ _ | exact Kd.De _ _ _ _ _, by repeat (first | (with_reducible first | exact HB.out | apply a6 | apply aG | apply a9) | exact HB.out)⟩
  replace c10 := Bool.eq_false_iff.mpr c10
  subst c10
  have H1 : (aa.l0 kj3 a0 a1 l2 0) = some (r1, r2) := by rw [if_neg (show ¬ (false = true) by decide)] at H; exact H
  clear H
  have H := H1
  clear H1
  have H' := ab.mk H
  clear H
  go_wp2
  go_loopg [8] kj3 (fun kq v8 w' => ∃ (x8_2 : Int), v8 = .int .i64 x8_2 ∧ ab (aa.l0 kq a0 a1 l2 x8_2 = some (r1, r2)) ∧ ab (kq ≤ kj3) ∧ ab (Below w.heap.size w w'))
  case atStart => exact ⟨(0), dQ, H', ⟨Nat.le_refl _⟩, ⟨by repeat (first | (with_reducible first | exact HB.out | apply a6 | apply aG | apply a9) | exact HB.out)⟩⟩
  clear H'
  obtain ⟨x8_2, rfl, HA, HK2, HB⟩ := hrel
  cases gk with
  | zero => exact absurd HA.out (by simp [aa.l0])
  | succ k2 => as_aux_lemma =>
   have H := HA.out
   clear HA
   simp only [aa.l0] at H
   by_cases c11 : x8_2 < (l2.length : Int)
   ·rw [if_pos c11] at H
    have c11b0 : decide (x8_2 < (l2.length : Int)) = true := decide_eq_true c11
    clear c11
    by_cases c12 : 0 ≤ x8_2
    rotate_left
    ·rw [if_neg c12] at H
     exact absurd H (by simp)
    rw [if_pos c12] at H
    have c12b0 : decide (0 ≤ x8_2) = true := decide_eq_true c12
    clear c12
    obtain ⟨ji13, hji13⟩ : ∃ j_ : Int, (IntKind.u64.wrap (a0)) = j_ := ⟨_, rfl⟩
    replace H : (if 0 ≤ (ji13) then ((bq.f (rd l2 x8_2) 0 (wrap64 ((shl .i64 1 (ji13)) - 1))).bind fun t534 => (if t534 = true then ((aN.f k2 (rd l2 x8_2)).bind fun t536 => (if t536 > a1 then (some (([] : List (List Int)), 2)) else (aa.l0 k2 a0 a1 l2 (wrap64 (x8_2 + 1))))) else (some (([] : List (List Int)), 2)))) else (none)) = some (r1, r2) := by first | (rw [hji13] at H; exact H) | (simp only [hji13] at H ⊢; exact H)
    by_cases c14 : 0 ≤ (ji13)
    rotate_left
    ·rw [if_neg c14] at H
     exact absurd H (by simp)
    rw [if_pos c14] at H
    have c14b0 := eq_true c14
    have c14b1 : decide (0 ≤ (ji13)) = true := decide_eq_true c14
    clear c14
    obtain ⟨ji15, hji15⟩ : ∃ j_ : Int, (shl .i64 1 (ji13)) = j_ := ⟨_, rfl⟩
    replace H : ((bq.f (rd l2 x8_2) 0 (wrap64 ((ji15) - 1))).bind fun t534 => (if t534 = true then ((aN.f k2 (rd l2 x8_2)).bind fun t536 => (if t536 > a1 then (some (([] : List (List Int)), 2)) else (aa.l0 k2 a0 a1 l2 (wrap64 (x8_2 + 1))))) else (some (([] : List (List Int)), 2)))) = some (r1, r2) := by first | (rw [hji15] at H; exact H) | (simp only [hji15] at H ⊢; exact H)
    have hji15_ : (IntKind.i64.wrap (1 * 2 ^ min (ji13).toNat 64)) = ji15 := hji15
    have hji15z : (ji13) ≤ 64 → (IntKind.i64.wrap (1 * 2 ^ (ji13).toNat)) = ji15 := F0 hji15
    have hji15u : (IntKind.i64.wrap (2 ^ min (ji13).toNat 64)) = ji15 := by have h_ := hji15_; rw [Int.one_mul] at h_; exact h_
    have hji15v : (ji13) ≤ 64 → (IntKind.i64.wrap (2 ^ (ji13).toNat)) = ji15 := fun hle_ => by have h_ := hji15z hle_; rw [Int.one_mul] at h_; exact h_
    have hji15y : (wrap64 (1 * 2 ^ min (ji13).toNat 64)) = ji15 := (fE _).symm.trans hji15_
    have hji15x : (ji13) ≤ 64 → (wrap64 (1 * 2 ^ (ji13).toNat)) = ji15 := fun h_ => (fE _).symm.trans (hji15z h_)
    replace H := Option.bind_eq_some_iff.mp H
    obtain ⟨t534, A160, H⟩ := H
    replace H : (if t534 = true then ((aN.f k2 (rd l2 x8_2)).bind fun t536 => (if t536 > a1 then (some (([] : List (List Int)), 2)) else (aa.l0 k2 a0 a1 l2 (wrap64 (x8_2 + 1))))) else (some (([] : List (List Int)), 2))) = some (r1, r2) := H
    have A16 := ab.mk A160
    clear A160
    by_cases c17 : t534 = true
    rotate_left
    ·replace c17 := Bool.eq_false_iff.mpr c17
     subst c17
     have H1 : (some (([] : List (List Int)), 2)) = some (r1, r2) := by rw [if_neg (show ¬ (false = true) by decide)] at H; exact H
     clear H
     have H := H1
     clear H1
     simp only [Option.some.injEq, Prod.mk.injEq] at H
     obtain ⟨rfl, rfl⟩ := H
     have p533 : 0 ≤ (x8_2 : Int) := of_decide_eq_true cm
     have q533 : x8_2 < (l2.length : Int) := of_decide_eq_true cm
     obtain ⟨ad533, e533, hx533_0⟩ := Kd.dD HR2.out x8_2 p533 q533
     cases e533
     replace hx533_0 := (HB.out.cell (World.block_lt_of_cell? w _ hx533_0)).trans hx533_0
     replace p533 := eq_true p533
     replace q533 := eq_true q533
     go_wp2_with (first | ((with_reducible refine fg (f := 102) rfl ?_); refine nI (some 52) rfl rfl Try.func102 jG rfl #[.int .i64 (rd l2 x8_2), .int .i64 0, .int .i64 (wrap64 ((ji15) - 1))] rfl zq3 ?_; (with_reducible refine (bq.calls (rd l2 x8_2) 0 (wrap64 ((ji15) - 1)) false _ A16.out).mono ?_); rintro e w' ⟨rfl, ⟨nd, rfl⟩⟩; refine ⟨_, rfl, ?_⟩))
     go_ret2
     exact ⟨_, by first | rfl | (simp [errW_none, errW_some] <;> rfl) | (simp only [← hji13, ← hji15]; first | rfl | (simp [errW_none, errW_some] <;> rfl)) | (simp [*, errW_none, errW_some] <;> rfl), by first | exact Kd.Gm _ _ _ _ _ | exact Kd.N_nil _ _ _ _ _ | exact Kd.V_nil _ _ _ _ _ | exact Kd.Q_nil _ _ _ _ _ | exact Kd.De _ _ _ _ _, by repeat (first | (with_reducible first | exact HB.out | apply a6 | apply aG | apply a9) | exact HB.out)⟩
    subst c17
    have H1 : ((aN.f k2 (rd l2 x8_2)).bind fun t536 => (if t536 > a1 then (some (([] : List (List Int)), 2)) else (aa.l0 k2 a0 a1 l2 (wrap64 (x8_2 + 1))))) = some (r1, r2) := by rw [if_pos rfl] at H; exact H
    clear H
    have H := H1
    clear H1
    replace H := Option.bind_eq_some_iff.mp H
    obtain ⟨t536, A180, H⟩ := H
    replace H : (if t536 > a1 then (some (([] : List (List Int)), 2)) else (aa.l0 k2 a0 a1 l2 (wrap64 (x8_2 + 1)))) = some (r1, r2) := H
    have A18 := ab.mk A180
    clear A180
    by_cases c19 : t536 > a1
    ·rw [if_pos c19] at H
     have c19b0 : decide (a1 < t536) = true := decide_eq_true c19
     clear c19
     simp only [Option.some.injEq, Prod.mk.injEq] at H
     obtain ⟨rfl, rfl⟩ := H
     have p533 : 0 ≤ (x8_2 : Int) := of_decide_eq_true cm
     have q533 : x8_2 < (l2.length : Int) := of_decide_eq_true cm
     obtain ⟨ad533, e533, hx533_0⟩ := Kd.dD HR2.out x8_2 p533 q533
     cases e533
     replace hx533_0 := (HB.out.cell (World.block_lt_of_cell? w _ hx533_0)).trans hx533_0
     replace p533 := eq_true p533
     replace q533 := eq_true q533
     go_wp2_with (first | ((with_reducible refine fg (f := 102) rfl ?_); refine nI (some 52) rfl rfl Try.func102 jG rfl #[.int .i64 (rd l2 x8_2), .int .i64 0, .int .i64 (wrap64 ((ji15) - 1))] rfl zq3 ?_; (with_reducible refine (bq.calls (rd l2 x8_2) 0 (wrap64 ((ji15) - 1)) true _ A16.out).mono ?_); rintro e w' ⟨rfl, ⟨nd, rfl⟩⟩; refine ⟨_, rfl, ?_⟩; have p535 : 0 ≤ (x8_2 : Int) := of_decide_eq_true cm; have q535 : x8_2 < (l2.length : Int) := of_decide_eq_true cm; obtain ⟨ad535, e535, hx535_0⟩ := Kd.dD HR2.out x8_2 p535 q535; obtain rfl : ad533 = ad535 := (by injection e535); replace hx535_0 := (HB.out.cell (World.block_lt_of_cell? w _ hx535_0)).trans hx535_0; replace p535 := eq_true p535; replace q535 := eq_true q535) | (go_at_call 211; (with_reducible refine (aN.calls k2 (rd l2 x8_2) t536 _ A18.out).mono ?_); rintro e w' ⟨rfl, ⟨nd, rfl⟩⟩))
     go_ret2
     exact ⟨_, by first | rfl | (simp [errW_none, errW_some] <;> rfl) | (simp only [← hji13, ← hji15]; first | rfl | (simp [errW_none, errW_some] <;> rfl)) | (simp [*, errW_none, errW_some] <;> rfl), by first | exact Kd.Gm _ _ _ _ _ | exact Kd.N_nil _ _ _ _ _ | exact Kd.V_nil _ _ _ _ _ | exact Kd.Q_nil _ _ _ _ _ | exact Kd.De _ _ _ _ _, by repeat (first | (with_reducible first | exact HB.out | apply a6 | apply aG | apply a9) | exact HB.out)⟩
    rw [if_neg c19] at H
    have c19b0 : decide (a1 < t536) = false := decide_eq_false c19
    clear c19
    have H' := ab.mk H
    clear H
    have p533 : 0 ≤ (x8_2 : Int) := of_decide_eq_true cm
    have q533 : x8_2 < (l2.length : Int) := of_decide_eq_true cm
    obtain ⟨ad533, e533, hx533_0⟩ := Kd.dD HR2.out x8_2 p533 q533
    cases e533
    replace hx533_0 := (HB.out.cell (World.block_lt_of_cell? w _ hx533_0)).trans hx533_0
    replace p533 := eq_true p533
    replace q533 := eq_true q533
    go_wp2_with (first | ((with_reducible refine fg (f := 102) rfl ?_); refine nI (some 52) rfl rfl Try.func102 jG rfl #[.int .i64 (rd l2 x8_2), .int .i64 0, .int .i64 (wrap64 ((ji15) - 1))] rfl zq3 ?_; (with_reducible refine (bq.calls (rd l2 x8_2) 0 (wrap64 ((ji15) - 1)) true _ A16.out).mono ?_); rintro e w' ⟨rfl, ⟨nd, rfl⟩⟩; refine ⟨_, rfl, ?_⟩; have p535 : 0 ≤ (x8_2 : Int) := of_decide_eq_true cm; have q535 : x8_2 < (l2.length : Int) := of_decide_eq_true cm; obtain ⟨ad535, e535, hx535_0⟩ := Kd.dD HR2.out x8_2 p535 q535; obtain rfl : ad533 = ad535 := (by injection e535); replace hx535_0 := (HB.out.cell (World.block_lt_of_cell? w _ hx535_0)).trans hx535_0; replace p535 := eq_true p535; replace q535 := eq_true q535) | (go_at_call 211; (with_reducible refine (aN.calls k2 (rd l2 x8_2) t536 _ A18.out).mono ?_); rintro e w' ⟨rfl, ⟨nd, rfl⟩⟩))
    go_roundg k2
    case measure => have := HJ3.out; have := HK2.out; omega
    case rel => exact ⟨(wrap64 (x8_2 + 1)), dQ, H', ⟨by have := HJ3.out; have := HK2.out; omega⟩, ⟨by repeat (first | (with_reducible first | exact HB.out | apply a6 | apply aG | apply a9) | exact HB.out)⟩⟩
   rw [if_neg c11] at H
   have c11b0 : decide (x8_2 < (l2.length : Int)) = false := decide_eq_false c11
   clear c11
   obtain ⟨y537, hy537⟩ : ∃ y_ : List (List Int), y_ = (([] : List (List Int))) := ⟨_, rfl⟩
   replace H : (aa.l1 k2 a0 a1 l2 y537 (([] : List Int)) 0) = some (r1, r2) := by first | (rw [hy537]; with_reducible exact H) | (have H2_ := (Option.bind_some _ _).symm.trans H; rw [hy537]; with_reducible exact H2_) | (have H2_ := (Option.bind_some _ _).symm.trans H; with_reducible exact H2_) | with_reducible exact H | (rw [hy537]; exact H) | exact H
   have Ny537 := ab.mk hy537
   clear hy537
   obtain ⟨y540, hy540⟩ : ∃ y_ : List Int, y_ = (([] : List Int)) := ⟨_, rfl⟩
   replace H : (aa.l1 k2 a0 a1 l2 y537 y540 0) = some (r1, r2) := by first | (rw [hy540]; with_reducible exact H) | (have H2_ := (Option.bind_some _ _).symm.trans H; rw [hy540]; with_reducible exact H2_) | (have H2_ := (Option.bind_some _ _).symm.trans H; with_reducible exact H2_) | with_reducible exact H | (rw [hy540]; exact H) | exact H
   have Ny540 := ab.mk hy540
   clear hy540
   have H' := ab.mk H
   clear H
   go_wp2_with (first | ((with_reducible refine iv (N := 63) rfl ?_); (try (refine fU (by rfl) ?_; dsimp only)); refine Kd.Gl (Kd.slice 2 (Kd.int .i64)) _ 29 ?hg (N := 63) ?hd (xs := ([] : List (List Int))) (inner := []) (ok := fun _ => True) (okp := fun _ => True) ?hr ?hp (fun _ hk => hk) trivial (Below.refl _ _) (Nat.le_refl _) (by simp) ?_; (case hd => rfl); (case hg => rfl); (case hr => exact qf); (case hp => exact (dC.none _ _)); intro v538 w20 ho21 hb hg_ hnew_; clear hg_ hnew_; (first | rw [← Ny537.out] at ho21 | (simp only [Int.reduceToNat] at ho21; rw [← Ny537.out] at ho21)); have n0_ := ab.mk (Kd.wR ho21 (fe m8)); have n1_ := ab.mk (kF m8 hb); clear HB; have HO539 := n0_; have HB := n1_; clear n0_ n1_; clear hb ho21) | ((with_reducible refine iv (N := 64) rfl ?_); (try (refine fU (by rfl) ?_; dsimp only)); refine Kd.vu (Kd.int .i64) _ 2 ?hg (N := 64) ?hd (xs := ([] : List Int)) (inner := []) (ok := fun _ => True) (okp := fun _ => True) ?hr ?hp (fun _ hk => hk) trivial (Below.refl _ _) (Nat.le_refl _) (by simp) ?_; (case hd => rfl); (case hg => rfl); (case hr => exact qf); (case hp => exact (dC.none _ _)); intro v541 w22 ho23 hb hg_ hnew_; clear hg_ hnew_; (first | rw [← Ny540.out] at ho23 | (simp only [Int.reduceToNat] at ho23; rw [← Ny540.out] at ho23)); have n0_ := ab.mk (Kd.lr (by (with_reducible repeat (first | apply Kd.S_alloc | apply Kd.bN | apply Kd.b9)); exact HO539.out) (Kd.nz ho23) hb); have n1_ := ab.mk (Kd.kA ho23 (fe m8)); have n2_ := ab.mk (kF m8 hb); clear HO539; clear HB; have HO539 := n0_; have HO542 := n1_; have HB := n2_; clear n0_ n1_ n2_; clear hb ho23))
   go_loopg [9, 11] k2 (fun kq v9 v11 w' => ∃ (x9_3 : List (List Int)) (x11_3 : Int), v11 = .int .i64 x11_3 ∧ ab (aa.l1 kq a0 a1 l2 x9_3 y540 x11_3 = some (r1, r2)) ∧ ab (kq ≤ k2) ∧ ab (Kd.S (Kd.slice 2 (Kd.int .i64)) 29 w' w.heap.size (fun k_ => some k_ ≠ (v541 : Value).ownBlock) v9 x9_3) ∧ ab (Kd.R (Kd.int .i64) 2 w' w.heap.size (fun _ => True) v541 y540) ∧ ab (Below w.heap.size w w'))
   case atStart => exact ⟨(y537), (0), dQ, H', ⟨Nat.le_refl _⟩, ⟨by (with_reducible repeat (first | apply Kd.S_alloc | apply Kd.bN | apply Kd.b9)); exact Kd.ei HO539.out (fun _ hk => hk.2)⟩, ⟨by (with_reducible repeat (first | apply Kd.R_alloc | apply Kd.bt | apply Kd.bV)); exact HO542.out⟩, ⟨by repeat (first | (with_reducible first | exact HB.out | apply a6 | apply aG | apply a9) | exact HB.out)⟩⟩
   clear H' c11b0
   obtain ⟨x9_3, x11_3, rfl, HA, HK3, HO_9, HO_10, HB⟩ := hrel
   cases gk with
   | zero => exact absurd HA.out (by simp [aa.l1])
   | succ k3 => as_aux_lemma =>
    have H := HA.out
    clear HA
    simp only [aa.l1] at H
    by_cases c24 : x11_3 < a1
    ·rw [if_pos c24] at H
     have c24b0 : decide (x11_3 < a1) = true := decide_eq_true c24
     clear c24
     obtain ⟨y543, hy543⟩ : ∃ y_ : List Int, y_ = (([] : List Int)) := ⟨_, rfl⟩
     replace H : (if x9_3.length < 5864062014805 then (aa.l1 k3 a0 a1 l2 (x9_3 ++ [y543]) y540 (wrap64 (x11_3 + 1))) else (none)) = some (r1, r2) := by first | (rw [hy543]; with_reducible exact H) | (have H2_ := (Option.bind_some _ _).symm.trans H; rw [hy543]; with_reducible exact H2_) | (have H2_ := (Option.bind_some _ _).symm.trans H; with_reducible exact H2_) | with_reducible exact H | (rw [hy543]; exact H) | exact H
     have Ny543 := ab.mk hy543
     clear hy543
     by_cases c25 : x9_3.length < 5864062014805
     rotate_left
     ·rw [if_neg c25] at H
      exact absurd H (by simp)
     rw [if_pos c25] at H
     have LMc25 := ab.mk c25
     clear c25
     obtain ⟨y546, hy546⟩ : ∃ y_ : List (List Int), y_ = (x9_3 ++ [y543]) := ⟨_, rfl⟩
     replace H : (aa.l1 k3 a0 a1 l2 y546 y540 (wrap64 (x11_3 + 1))) = some (r1, r2) := by first | (rw [hy546]; with_reducible exact H) | (have H2_ := (Option.bind_some _ _).symm.trans H; rw [hy546]; with_reducible exact H2_) | (have H2_ := (Option.bind_some _ _).symm.trans H; with_reducible exact H2_) | with_reducible exact H | (rw [hy546]; exact H) | exact H
     have Ny546 := ab.mk hy546
     clear hy546
     have H' := ab.mk H
     clear H
     go_wp2_with (first | ((with_reducible refine iv (N := 71) rfl ?_); (try (refine fU (by rfl) ?_; dsimp only)); refine Kd.vu (Kd.int .i64) _ 2 ?hg (N := 71) ?hd (xs := ([] : List Int)) (inner := []) (ok := fun _ => True) (okp := fun _ => True) ?hr ?hp (fun _ hk => hk) trivial (Below.refl _ _) (Nat.le_refl _) (by simp) ?_; (case hd => rfl); (case hg => rfl); (case hr => exact qf); (case hp => exact (dC.none _ _)); intro v544 w26 ho27 hb hg_ hnew_; clear hg_ hnew_; (first | rw [← Ny543.out] at ho27 | (simp only [Int.reduceToNat] at ho27; rw [← Ny543.out] at ho27)); have n0_ := ab.mk (Kd.lr F6 (Kd.nz ho27) hb); have n1_ := ab.mk (Kd.rK vp (Kd.nz ho27) hb); have n2_ := ab.mk (Kd.kA (Kd.Gg ho27 (Kd.E1 vp)) (fe m8)); have n3_ := ab.mk (kF m8 hb); clear HO_9; clear HO_10; clear HB; have HO_9 := n0_; have HO_10 := n1_; have HO545 := n2_; have HB := n3_; clear n0_ n1_ n2_ n3_; clear hb ho27; obtain ⟨Ao29, co29, eo29⟩ := Kd.eZ HO545.out; subst eo29) | ((with_reducible refine eE (b := .append) (xs := #[.tmp 70, .tmp 72]) rfl ?_); (try (refine fU (by rfl) ?_; dsimp only)); at_builtin; refine Kd.rN (Kd.slice 2 (Kd.int .i64)) (w0 := w) w.heap.size rfl (.tmp 70) (.tmp 72) 86 29 (.slice none 0 0) 24 rfl Try.underlying86 BH rfl (by decide) (by omega) u9 x9_3 y543 [.slice Ao29 y543.length co29] (fun k_ => some k_ ≠ (v541 : Value).ownBlock) (fun k_ => some k_ = (.slice Ao29 y543.length co29 : Value).ownBlock) rfl rfl ?aP (fun k_ hk_ => ((Kd.cr (ok' := fun k_ => ((fun k_ => some k_ ≠ (v541 : Value).ownBlock)) k_ ∧ some k_ ≠ (u9 : Value).ownBlock) (Kd.kd (HO545.out) (Kd.kC HO_9.out) (by decide)) (fun k_ hk => ⟨hk.1.2, hk.2⟩))).1 k_ hk_.symm) ?aF ?aO ?aB ?aS ?aL ?_; (case aP => exact Kd.yU (Kd.cr (Kd.ri rfl (Kd.cr (ok' := fun k_ => ((fun k_ => some k_ ≠ (v541 : Value).ownBlock)) k_ ∧ some k_ ≠ (u9 : Value).ownBlock) (Kd.kd (HO545.out) (Kd.kC HO_9.out) (by decide)) (fun k_ hk => ⟨hk.1.2, hk.2⟩))) (fun _ h_ => h_))); (case aB => exact m8); (case aF => exact (fun k_ hk => Kd.xe (Kd.E1 vp) k_ hk)); (case aO => exact (by (with_reducible repeat (first | apply Kd.S_alloc | apply Kd.bN | apply Kd.b9)); exact Kd.ei HO_9.out (fun k_ hk => ⟨hk.1, fun e_ => hk.2 e_⟩))); (case aS => exact (fe m8)); (case aL => have := LMc25.out; omega); intro v547 w28 ho hb hg hat; rw [← Ny546.out] at ho; have n0_ := ab.mk (Kd.I2 vp (Kd.kC F6) (by decide) hg); have n1_ := ab.mk (hb); have n2_ := ab.mk (ho); clear HO_10; clear HB; clear HO_9; clear HO545; have HO_10 := n0_; have HB := n1_; have HO548 := n2_; clear n0_ n1_ n2_; clear ho hb hg hat))
     go_roundg k3
     case measure => have := HJ3.out; have := HK2.out; have := HK3.out; omega
     case rel => exact ⟨(y546), (wrap64 (x11_3 + 1)), dQ, H', ⟨by have := HJ3.out; have := HK2.out; have := HK3.out; omega⟩, ⟨by (with_reducible repeat (first | apply Kd.S_alloc | apply Kd.bN | apply Kd.b9)); exact HO548.out⟩, ⟨by (with_reducible repeat (first | apply Kd.R_alloc | apply Kd.bt | apply Kd.bV)); exact Kd.cr HO_10.out (fun _ hk => trivial)⟩, ⟨by repeat (first | (with_reducible first | exact HB.out | apply a6 | apply aG | apply a9) | exact HB.out)⟩⟩
    rw [if_neg c24] at H
    have c24b0 : decide (x11_3 < a1) = false := decide_eq_false c24
    clear c24
    have H' := ab.mk H
    clear H
    go_wp2
    go_loopg [10, 12] k3 (fun kq v10 v12 w' => ∃ (x10_4 : List Int) (x12_4 : Int), v12 = .int .i64 x12_4 ∧ ab (aa.l2 kq a0 a1 l2 x9_3 x10_4 x12_4 = some (r1, r2)) ∧ ab (kq ≤ k3) ∧ ab (Kd.S (Kd.slice 2 (Kd.int .i64)) 29 w' w.heap.size (fun k_ => some k_ ≠ (v10 : Value).ownBlock) u9 x9_3) ∧ ab (Kd.R (Kd.int .i64) 2 w' w.heap.size (fun _ => True) v10 x10_4) ∧ ab (Below w.heap.size w w'))
    case atStart => exact ⟨(y540), (0), dQ, H', ⟨Nat.le_refl _⟩, ⟨by (with_reducible repeat (first | apply Kd.S_alloc | apply Kd.bN | apply Kd.b9)); exact HO_9.out⟩, ⟨by (with_reducible repeat (first | apply Kd.R_alloc | apply Kd.bt | apply Kd.bV)); exact HO_10.out⟩, ⟨by repeat (first | (with_reducible first | exact HB.out | apply a6 | apply aG | apply a9) | exact HB.out)⟩⟩
    clear H' c24b0
    obtain ⟨x10_4, x12_4, rfl, HA, HK4, HO_9, HO_10, HB⟩ := hrel
    cases gk with
    | zero => exact absurd HA.out (by simp [aa.l2])
    | succ k4 => as_aux_lemma =>
     have H := HA.out
     clear HA
     simp only [aa.l2] at H
     by_cases c30 : x12_4 < a0
     ·rw [if_pos c30] at H
      have c30b0 : decide (x12_4 < a0) = true := decide_eq_true c30
      clear c30
      by_cases c31 : x10_4.length < 17592186044416
      rotate_left
      ·rw [if_neg c31] at H
       exact absurd H (by simp)
      rw [if_pos c31] at H
      have LMc31 := ab.mk c31
      clear c31
      obtain ⟨y549, hy549⟩ : ∃ y_ : List Int, y_ = (x10_4 ++ [(-1)]) := ⟨_, rfl⟩
      replace H : (aa.l2 k4 a0 a1 l2 x9_3 y549 (wrap64 (x12_4 + 1))) = some (r1, r2) := by first | (rw [hy549]; with_reducible exact H) | (have H2_ := (Option.bind_some _ _).symm.trans H; rw [hy549]; with_reducible exact H2_) | (have H2_ := (Option.bind_some _ _).symm.trans H; with_reducible exact H2_) | with_reducible exact H | (rw [hy549]; exact H) | exact H
      have Ny549 := ab.mk hy549
      clear hy549
      have H' := ab.mk H
      clear H
      go_wp2_with (first | ((with_reducible refine eE (b := .append) (xs := #[.tmp 79, .tmp 80]) rfl ?_); (try (refine fU (by rfl) ?_; dsimp only)); at_builtin; refine Kd.lp (Kd.int .i64) (w0 := w) w.heap.size rfl (.tmp 79) (.tmp 80) 29 2 (.int .i64 0) 8 rfl Try.underlying29 zE rfl (by decide) (by omega) u10 x10_4 (-1) [.int .i64 (-1)] (fun _ => True) (fun _ => False) rfl rfl ?aP (fun _ hk => hk.elim) ?aF ?aO ?aB ?aS ?aL ?_; (case aP => exact rfl); (case aB => exact m8); (case aF => exact (fun _ _ => trivial)); (case aO => exact vp); (case aS => exact (fe m8)); (case aL => have := LMc31.out; omega); intro v550 w32 ho hb hg hat; rw [← Ny549.out] at ho; have n0_ := ab.mk (Kd.kB (ok := (fun _ => True)) (by (with_reducible repeat (first | apply Kd.S_alloc | apply Kd.bN | apply Kd.b9)); exact Kd.ei HO_9.out (fun _ hk => ⟨trivial, hk⟩)) hg hat); have n1_ := ab.mk (hb); have n2_ := ab.mk (ho); clear HO_9; clear HB; clear HO_10; have HO_9 := n0_; have HB := n1_; have HO551 := n2_; clear n0_ n1_ n2_; clear ho hb hg hat))
      go_roundg k4
      case measure => have := HJ3.out; have := HK2.out; have := HK3.out; have := HK4.out; omega
      case rel => exact ⟨(y549), (wrap64 (x12_4 + 1)), dQ, H', ⟨by have := HJ3.out; have := HK2.out; have := HK3.out; have := HK4.out; omega⟩, ⟨by (with_reducible repeat (first | apply Kd.S_alloc | apply Kd.bN | apply Kd.b9)); exact Kd.ei HO_9.out (fun _ hk => hk.2)⟩, ⟨by (with_reducible repeat (first | apply Kd.R_alloc | apply Kd.bt | apply Kd.bV)); exact HO551.out⟩, ⟨by repeat (first | (with_reducible first | exact HB.out | apply a6 | apply aG | apply a9) | exact HB.out)⟩⟩
     rw [if_neg c30] at H
     have c30b0 : decide (x12_4 < a0) = false := decide_eq_false c30
     clear c30
     have H' := ab.mk H
     clear H
     go_wp2
     go_loopg [13] k4 (fun kq v13 w' => ∃ (x9_5 : List (List Int)) (x10_5 : List Int) (x13_5 : Int), v13 = .int .i64 x13_5 ∧ ab (aa.l3 kq a0 a1 l2 x9_5 x10_5 x13_5 = some (r1, r2)) ∧ ab (kq ≤ k4) ∧ ab (Kd.S (Kd.slice 2 (Kd.int .i64)) 29 w' w.heap.size (fun k_ => some k_ ≠ (u10 : Value).ownBlock) u9 x9_5) ∧ ab (Kd.R (Kd.int .i64) 2 w' w.heap.size (fun _ => True) u10 x10_5) ∧ ab (Below w.heap.size w w'))
     case atStart => exact ⟨(x9_3), (x10_4), (0), dQ, H', ⟨Nat.le_refl _⟩, ⟨by (with_reducible repeat (first | apply Kd.S_alloc | apply Kd.bN | apply Kd.b9)); exact HO_9.out⟩, ⟨by (with_reducible repeat (first | apply Kd.R_alloc | apply Kd.bt | apply Kd.bV)); exact HO_10.out⟩, ⟨by repeat (first | (with_reducible first | exact HB.out | apply a6 | apply aG | apply a9) | exact HB.out)⟩⟩
     clear H' c30b0
     obtain ⟨x9_5, x10_5, x13_5, rfl, HA, HK5, HO_9, HO_10, HB⟩ := hrel
     cases gk with
     | zero => exact absurd HA.out (by simp [aa.l3])
     | succ k5 => as_aux_lemma =>
      have H := HA.out
      clear HA
      simp only [aa.l3] at H
      by_cases c33 : x13_5 < (l2.length : Int)
      rotate_left
      ·rw [if_neg c33] at H
       have c33b0 : decide (x13_5 < (l2.length : Int)) = false := decide_eq_false c33
       clear c33
       simp only [Option.some.injEq, Prod.mk.injEq] at H
       obtain ⟨rfl, rfl⟩ := H
       go_wp2
       go_ret2
       exact ⟨_, by first | rfl | (simp [errW_none, errW_some] <;> rfl) | (simp [*, errW_none, errW_some] <;> rfl), by (with_reducible repeat (first | apply Kd.S_alloc | apply Kd.bN | apply Kd.b9)); exact Kd.ei HO_9.out (fun _ hk => trivial), by repeat (first | (with_reducible first | exact HB.out | apply a6 | apply aG | apply a9) | exact HB.out)⟩
      rw [if_pos c33] at H
      have c33b0 : decide (x13_5 < (l2.length : Int)) = true := decide_eq_true c33
      clear c33
      obtain ⟨y552, hy552⟩ : ∃ y_ : List Int, y_ = (([] : List Int)) := ⟨_, rfl⟩
      replace H : (aa.l4 k5 a0 a1 l2 x9_5 x10_5 x13_5 y552 0) = some (r1, r2) := by first | (rw [hy552]; with_reducible exact H) | (have H2_ := (Option.bind_some _ _).symm.trans H; rw [hy552]; with_reducible exact H2_) | (have H2_ := (Option.bind_some _ _).symm.trans H; with_reducible exact H2_) | with_reducible exact H | (rw [hy552]; exact H) | exact H
      have Ny552 := ab.mk hy552
      clear hy552
      have H' := ab.mk H
      clear H
      go_wp2_with (first | ((with_reducible refine iv (N := 88) rfl ?_); (try (refine fU (by rfl) ?_; dsimp only)); refine Kd.vu (Kd.int .i64) _ 2 ?hg (N := 88) ?hd (xs := ([] : List Int)) (inner := []) (ok := fun _ => True) (okp := fun _ => True) ?hr ?hp (fun _ hk => hk) trivial (Below.refl _ _) (Nat.le_refl _) (by simp) ?_; (case hd => rfl); (case hg => rfl); (case hr => exact qf); (case hp => exact (dC.none _ _)); intro v553 w34 ho35 hb hg_ hnew_; clear hg_ hnew_; (first | rw [← Ny552.out] at ho35 | (simp only [Int.reduceToNat] at ho35; rw [← Ny552.out] at ho35)); have n0_ := ab.mk (Kd.lr F6 (Kd.nz ho35) hb); have n1_ := ab.mk (Kd.rK vp (Kd.nz ho35) hb); have n2_ := ab.mk (Kd.kA (Kd.Gg ho35 (Kd.E1 vp)) (fe m8)); have n3_ := ab.mk (kF m8 hb); clear HO_9; clear HO_10; clear HB; have HO_9 := n0_; have HO_10 := n1_; have HO554 := n2_; have HB := n3_; clear n0_ n1_ n2_ n3_; clear hb ho35))
      go_loopg [14, 15] k5 (fun kq v14 v15 w' => ∃ (x14_6 : List Int) (x15_6 : Int), v15 = .int .i64 x15_6 ∧ ab (aa.l4 kq a0 a1 l2 x9_5 x10_5 x13_5 x14_6 x15_6 = some (r1, r2)) ∧ ab (kq ≤ k5) ∧ ab (Kd.S (Kd.slice 2 (Kd.int .i64)) 29 w' w.heap.size (fun k_ => some k_ ≠ (u10 : Value).ownBlock ∧ some k_ ≠ (v14 : Value).ownBlock) u9 x9_5) ∧ ab (Kd.R (Kd.int .i64) 2 w' w.heap.size (fun k_ => some k_ ≠ (v14 : Value).ownBlock) u10 x10_5) ∧ ab (Kd.R (Kd.int .i64) 2 w' w.heap.size (fun k_ => some k_ ≠ (u10 : Value).ownBlock) v14 x14_6) ∧ ab (Below w.heap.size w w'))
      case atStart => exact ⟨(y552), (0), dQ, H', ⟨Nat.le_refl _⟩, ⟨by (with_reducible repeat (first | apply Kd.S_alloc | apply Kd.bN | apply Kd.b9)); exact HO_9.out⟩, ⟨by (with_reducible repeat (first | apply Kd.R_alloc | apply Kd.bt | apply Kd.bV)); exact Kd.cr HO_10.out (fun _ hk => hk.2)⟩, ⟨by (with_reducible repeat (first | apply Kd.R_alloc | apply Kd.bt | apply Kd.bV)); exact Kd.cr HO554.out (fun _ hk => hk.2)⟩, ⟨by repeat (first | (with_reducible first | exact HB.out | apply a6 | apply aG | apply a9) | exact HB.out)⟩⟩
      clear H' c33b0
      obtain ⟨x14_6, x15_6, rfl, HA, HK6, HO_9, HO_10, HO_14, HB⟩ := hrel
      cases gk with
      | zero => exact absurd HA.out (by simp [aa.l4])
      | succ k6 => as_aux_lemma =>
       have H := HA.out
       clear HA
       simp only [aa.l4] at H
       by_cases c36 : x15_6 < a1
       ·rw [if_pos c36] at H
        have c36b0 : decide (x15_6 < a1) = true := decide_eq_true c36
        clear c36
        by_cases c37 : x14_6.length < 17592186044416
        rotate_left
        ·rw [if_neg c37] at H
         exact absurd H (by simp)
        rw [if_pos c37] at H
        have LMc37 := ab.mk c37
        clear c37
        obtain ⟨y555, hy555⟩ : ∃ y_ : List Int, y_ = (x14_6 ++ [(-1)]) := ⟨_, rfl⟩
        replace H : (aa.l4 k6 a0 a1 l2 x9_5 x10_5 x13_5 y555 (wrap64 (x15_6 + 1))) = some (r1, r2) := by first | (rw [hy555]; with_reducible exact H) | (have H2_ := (Option.bind_some _ _).symm.trans H; rw [hy555]; with_reducible exact H2_) | (have H2_ := (Option.bind_some _ _).symm.trans H; with_reducible exact H2_) | with_reducible exact H | (rw [hy555]; exact H) | exact H
        have Ny555 := ab.mk hy555
        clear hy555
        have H' := ab.mk H
        clear H
        go_wp2_with (first | ((with_reducible refine eE (b := .append) (xs := #[.tmp 94, .tmp 95]) rfl ?_); (try (refine fU (by rfl) ?_; dsimp only)); at_builtin; refine Kd.lp (Kd.int .i64) (w0 := w) w.heap.size rfl (.tmp 94) (.tmp 95) 29 2 (.int .i64 0) 8 rfl Try.underlying29 zE rfl (by decide) (by omega) u14 x14_6 (-1) [.int .i64 (-1)] (fun k_ => some k_ ≠ (u10 : Value).ownBlock) (fun _ => False) rfl rfl ?aP (fun _ hk => hk.elim) ?aF ?aO ?aB ?aS ?aL ?_; (case aP => exact rfl); (case aB => exact m8); (case aF => exact (fun k_ hk => Kd.xe (Kd.E1 vp) k_ hk)); (case aO => exact NH); (case aS => exact (fe m8)); (case aL => have := LMc37.out; omega); intro v556 w38 ho hb hg hat; rw [← Ny555.out] at ho; have n0_ := ab.mk (Kd.kB (ok := (fun k_ => some k_ ≠ (u10 : Value).ownBlock)) F6 hg hat); have n1_ := ab.mk (Kd.n4 (ok := (fun _ => True)) zq9 hg hat); have n2_ := ab.mk (hb); have n3_ := ab.mk (ho); clear HO_9; clear HO_10; clear HB; clear HO_14; have HO_9 := n0_; have HO_10 := n1_; have HB := n2_; have HO557 := n3_; clear n0_ n1_ n2_ n3_; clear ho hb hg hat))
        go_roundg k6
        case measure => have := HJ3.out; have := HK2.out; have := HK3.out; have := HK4.out; have := HK5.out; have := HK6.out; omega
        case rel => exact ⟨(y555), (wrap64 (x15_6 + 1)), dQ, H', ⟨by have := HJ3.out; have := HK2.out; have := HK3.out; have := HK4.out; have := HK5.out; have := HK6.out; omega⟩, ⟨by (with_reducible repeat (first | apply Kd.S_alloc | apply Kd.bN | apply Kd.b9)); exact HO_9.out⟩, ⟨by (with_reducible repeat (first | apply Kd.R_alloc | apply Kd.bt | apply Kd.bV)); exact Kd.cr HO_10.out (fun _ hk => hk.2)⟩, ⟨by (with_reducible repeat (first | apply Kd.R_alloc | apply Kd.bt | apply Kd.bV)); exact HO557.out⟩, ⟨by repeat (first | (with_reducible first | exact HB.out | apply a6 | apply aG | apply a9) | exact HB.out)⟩⟩
       rw [if_neg c36] at H
       have c36b0 : decide (x15_6 < a1) = false := decide_eq_false c36
       clear c36
       have H' := ab.mk H
       clear H
       go_wp2
       go_loopg [16] k6 (fun kq v16 w' => ∃ (x10_7 : List Int) (x14_7 : List Int) (x16_7 : Int), v16 = .int .i64 x16_7 ∧ ab (aa.l5 kq a0 a1 l2 x9_5 x10_7 x13_5 x14_7 x16_7 = some (r1, r2)) ∧ ab (kq ≤ k6) ∧ ab (Kd.S (Kd.slice 2 (Kd.int .i64)) 29 w' w.heap.size (fun k_ => some k_ ≠ (u10 : Value).ownBlock ∧ some k_ ≠ (u14 : Value).ownBlock) u9 x9_5) ∧ ab (Kd.R (Kd.int .i64) 2 w' w.heap.size (fun k_ => some k_ ≠ (u14 : Value).ownBlock) u10 x10_7) ∧ ab (Kd.R (Kd.int .i64) 2 w' w.heap.size (fun k_ => some k_ ≠ (u10 : Value).ownBlock) u14 x14_7) ∧ ab (Below w.heap.size w w'))
       case atStart => exact ⟨(x10_5), (x14_6), (0), dQ, H', ⟨Nat.le_refl _⟩, ⟨by (with_reducible repeat (first | apply Kd.S_alloc | apply Kd.bN | apply Kd.b9)); exact HO_9.out⟩, ⟨by (with_reducible repeat (first | apply Kd.R_alloc | apply Kd.bt | apply Kd.bV)); exact HO_10.out⟩, ⟨by (with_reducible repeat (first | apply Kd.R_alloc | apply Kd.bt | apply Kd.bV)); exact HO_14.out⟩, ⟨by repeat (first | (with_reducible first | exact HB.out | apply a6 | apply aG | apply a9) | exact HB.out)⟩⟩
       clear H' c36b0
       obtain ⟨x10_7, x14_7, x16_7, rfl, HA, HK7, HO_9, HO_10, HO_14, HB⟩ := hrel
       cases gk with
       | zero => exact absurd HA.out (by simp [aa.l5])
       | succ k7 => as_aux_lemma =>
        have H := HA.out
        clear HA
        simp only [aa.l5] at H
        by_cases c39 : x16_7 < 2
        rotate_left
        ·rw [if_neg c39] at H
         have c39b0 : decide (x16_7 < 2) = false := decide_eq_false c39
         clear c39
         have H' := ab.mk H
         clear H
         obtain ⟨Ao91, co91, eo91⟩ := Kd.Dj HO_9.out
         subst eo91
         go_wp2
         go_loopg [178] k7 (fun kq v178 w' => ∃ (x9_8 : List (List Int)) (x178_8 : Int), v178 = .int .i64 x178_8 ∧ ab (aa.l8 kq a0 a1 l2 x9_8 x10_7 x13_5 x14_7 (x9_5.length : Int) x178_8 = some (r1, r2)) ∧ ab (kq ≤ k7) ∧ ab (Kd.S (Kd.slice 2 (Kd.int .i64)) 29 w' w.heap.size (fun k_ => some k_ ≠ (u10 : Value).ownBlock ∧ some k_ ≠ (u14 : Value).ownBlock) (.slice Ao91 x9_5.length co91) x9_8) ∧ ab (Kd.R (Kd.int .i64) 2 w' w.heap.size (fun k_ => some k_ ≠ (u14 : Value).ownBlock) u10 x10_7) ∧ ab (Kd.R (Kd.int .i64) 2 w' w.heap.size (fun k_ => some k_ ≠ (u10 : Value).ownBlock) u14 x14_7) ∧ ab (Below w.heap.size w w'))
         case atStart => exact ⟨(x9_5), (0), dQ, H', ⟨Nat.le_refl _⟩, ⟨by (with_reducible repeat (first | apply Kd.S_alloc | apply Kd.bN | apply Kd.b9)); exact HO_9.out⟩, ⟨by (with_reducible repeat (first | apply Kd.R_alloc | apply Kd.bt | apply Kd.bV)); exact HO_10.out⟩, ⟨by (with_reducible repeat (first | apply Kd.R_alloc | apply Kd.bt | apply Kd.bV)); exact HO_14.out⟩, ⟨by repeat (first | (with_reducible first | exact HB.out | apply a6 | apply aG | apply a9) | exact HB.out)⟩⟩
         clear H' c39b0
         obtain ⟨x9_8, x178_8, rfl, HA, HK8, HO_9, HO_10, HO_14, HB⟩ := hrel
         have hl9_8 := (Kd.dA HO_9.out).1
         rw [hl9_8] at HO_9
         (try simp only [hl9_8])
         (try simp only [hl9_8] at HO_10)
         (try simp only [hl9_8] at HO_14)
         cases gk with
         | zero => exact absurd HA.out (by simp [aa.l8])
         | succ k8 => as_aux_lemma =>
          have H := HA.out
          clear HA
          simp only [aa.l8] at H
          by_cases c92 : x178_8 < (x9_5.length : Int)
          rotate_left
          ·rw [if_neg c92] at H
           have c92b0 : decide (x178_8 < (x9_5.length : Int)) = false := decide_eq_false c92
           (try rw [hl9_8] at c92b0)
           clear c92
           have H' := ab.mk H
           clear H
           go_wp2
           (try simp only [← hl9_8])
           go_roundg k8
           case measure => have := HJ3.out; have := HK2.out; have := HK3.out; have := HK4.out; have := HK5.out; have := HK6.out; have := HK7.out; have := HK8.out; omega
           case rel => exact ⟨(x9_8), (x10_7), (wrap64 (x13_5 + 1)), dQ, H', ⟨by have := HJ3.out; have := HK2.out; have := HK3.out; have := HK4.out; have := HK5.out; have := HK6.out; have := HK7.out; have := HK8.out; omega⟩, ⟨by (try simp only [hl9_8]); (with_reducible repeat (first | apply Kd.S_alloc | apply Kd.bN | apply Kd.b9)); exact Kd.ei HO_9.out (fun _ hk => hk.1)⟩, ⟨by (try simp only [hl9_8]); (with_reducible repeat (first | apply Kd.R_alloc | apply Kd.bt | apply Kd.bV)); exact Kd.cr HO_10.out (fun _ hk => trivial)⟩, ⟨by repeat (first | (with_reducible first | exact HB.out | apply a6 | apply aG | apply a9) | exact HB.out)⟩⟩
          rw [if_pos c92] at H
          have c92b0 : decide (x178_8 < (x9_5.length : Int)) = true := decide_eq_true c92
          clear c92
          by_cases c93 : 0 ≤ x178_8
          rotate_left
          ·rw [if_neg c93] at H
           exact absurd H (by simp)
          rw [if_pos c93] at H
          have c93b0 : decide (0 ≤ x178_8) = true := decide_eq_true c93
          clear c93
          by_cases c94 : x178_8 < (x9_8.length : Int)
          rotate_left
          ·rw [if_neg c94] at H
           exact absurd H (by simp)
          rw [if_pos c94] at H
          have c94b0 : decide (x178_8 < (x9_8.length : Int)) = true := decide_eq_true c94
          clear c94
          by_cases c95 : x178_8 < (x14_7.length : Int)
          rotate_left
          ·rw [if_neg c95] at H
           exact absurd H (by simp)
          rw [if_pos c95] at H
          have c95b0 : decide (x178_8 < (x14_7.length : Int)) = true := decide_eq_true c95
          clear c95
          by_cases c96 : (cE x9_8 x178_8).length < 17592186044416
          rotate_left
          ·rw [if_neg c96] at H
           exact absurd H (by simp)
          rw [if_pos c96] at H
          have LMc96 := ab.mk c96
          clear c96
          obtain ⟨y572, hy572⟩ : ∃ y_ : List Int, y_ = ((cE x9_8 x178_8) ++ [rd x14_7 x178_8]) := ⟨_, rfl⟩
          replace H : (aa.l8 k8 a0 a1 l2 (x9_8.set (x178_8 : Int).toNat y572) x10_7 x13_5 x14_7 (x9_5.length : Int) (wrap64 (x178_8 + 1))) = some (r1, r2) := by first | (rw [hy572]; with_reducible exact H) | (have H2_ := (Option.bind_some _ _).symm.trans H; rw [hy572]; with_reducible exact H2_) | (have H2_ := (Option.bind_some _ _).symm.trans H; with_reducible exact H2_) | with_reducible exact H | (rw [hy572]; exact H) | exact H
          have Ny572 := ab.mk hy572
          clear hy572
          obtain ⟨y575, hy575⟩ : ∃ y_ : List (List Int), y_ = (x9_8.set (x178_8 : Int).toNat y572) := ⟨_, rfl⟩
          replace H : (aa.l8 k8 a0 a1 l2 y575 x10_7 x13_5 x14_7 (x9_5.length : Int) (wrap64 (x178_8 + 1))) = some (r1, r2) := by first | (rw [hy575]; with_reducible exact H) | (have H2_ := (Option.bind_some _ _).symm.trans H; rw [hy575]; with_reducible exact H2_) | (have H2_ := (Option.bind_some _ _).symm.trans H; with_reducible exact H2_) | with_reducible exact H | (rw [hy575]; exact H) | exact H
          have Ny575 := ab.mk hy575
          clear hy575
          have H' := ab.mk H
          clear H
          try go_wp2
          have n0_ := ab.mk (Kd.b9 HO_9.out)
          have n1_ := ab.mk (Kd.bV HO_10.out)
          have n2_ := ab.mk (Kd.bV HO_14.out)
          have n3_ := ab.mk (a9 HB.out)
          clear HO_9 HO_10 HO_14 HB
          have HO_9 := n0_
          have HO_10 := n1_
          have HO_14 := n2_
          have HB := n3_
          clear n0_ n1_ n2_ n3_
          have p570 : 0 ≤ (x178_8 : Int) := of_decide_eq_true cm
          have q570 : x178_8 < (x9_8.length : Int) := of_decide_eq_true cm
          obtain ⟨ad570, A570_0, c570_0, e570, hx570_0, hl570_0, hi570_0⟩ := ze (Kd.dA HO_9.out).2.2 x178_8 p570 q570
          cases e570
          obtain ⟨ce570, hce570, hMe570, hcc570⟩ := Kd.y4 HO_9.out [] x178_8 p570 (by first | exact q570 | exact of_decide_eq_true cm | (have e_ := (Kd.dA HO_9.out).1; omega))
          obtain ⟨ve570_0, rfl, ge570_0⟩ := hMe570
          have hv570_0 := hcc570 0 _ rfl
          rw [Nat.add_zero, show ((Kd.slice 2 (Kd.int .i64))).sz = 1 from rfl, Nat.mul_one] at hv570_0
          replace hv570_0 := Option.some.inj (hv570_0.symm.trans hx570_0)
          rw [hv570_0] at ge570_0
          have HL570_0 := ab.mk (show Kd.R (Kd.int .i64) 2 _ _ _ _ (cE x9_8 x178_8) from ge570_0)
          clear hv570_0 ge570_0
          have HX570_0 := ab.mk hx570_0
          clear hcc570 hce570
          have HR570_0 := ab.mk hi570_0
          have HC570_0 := ab.mk hl570_0
          clear hi570_0 hl570_0
          replace p570 := eq_true p570
          replace q570 := eq_true q570
          obtain ⟨Ao99, co99, eo99⟩ := Kd.eZ HO_14.out
          (first | subst eo99 | (injection eo99 with f1_ f2_ f3_; have f4_ := f1_.symm; have f5_ := f3_.symm; clear f1_ f2_ f3_; subst f4_; subst f5_))
          have p571 : 0 ≤ (x178_8 : Int) := of_decide_eq_true cm
          have q571 : x178_8 < (x14_7.length : Int) := of_decide_eq_true cm
          obtain ⟨ad571, e571, hx571_0⟩ := Kd.dD (Kd.cQ HO_14.out).2.2 x178_8 p571 q571
          cases e571
          replace p571 := eq_true p571
          replace q571 := eq_true q571
          obtain ⟨go100, co100, eo100, gb100, gl100, cl100, HG100⟩ := Kd.Lk HO_9.out (by have h_ : (x178_8 : Int) < ((x9_8.length : Int) : Int) := of_decide_eq_true cm; have h2_ : 0 ≤ (x178_8 : Int) := (of_decide_eq_true cm); omega)
          (first | cases eo100 | (injection eo100 with ea_ en_ ec_; (first | subst ea_ | (injection ea_ with ea_; subst ea_)); subst ec_; clear en_))
          have GB100 := ab.mk gb100
          have GG100 := ab.mk HG100
          clear gb100 gl100 HG100
          (first | simp only [add_plain] at hx570_0 | skip)
          obtain ⟨oki100, ce100, hcl100, hM100, hcc100, _, _, hH100⟩ := Kd.Lj HO_9.out [] (x178_8 : Int) (of_decide_eq_true cm) (by have h_ : (x178_8 : Int) < ((x9_8.length : Int) : Int) := of_decide_eq_true cm; first | exact h_ | (have e_ := (Kd.dA HO_9.out).1; omega) | simpa using h_)
          obtain ⟨ve100_0, rfl, ge100_0⟩ := hM100
          have hv100 := hcc100 0 _ rfl
          have hX100 := HX570_0.out
          (try simp only [add_plain] at hX100)
          (try simp only [Nat.add_zero] at hv100)
          (try rw [show ((Kd.slice 2 (Kd.int .i64))).sz = 1 from rfl, Nat.mul_one] at hv100)
          replace hv100 := Option.some.inj (hv100.symm.trans hX100)
          subst hv100
          clear hX100 hcc100 hcl100
          have UU100 := ab.mk (show Kd.R (Kd.int .i64) 2 _ w.heap.size oki100 (.slice A570_0 (cE x9_8 x178_8).length c570_0) (cE x9_8 x178_8) from ge100_0)
          have HH100 := ab.mk hH100
          have HN100 := ab.mk (Kd.dA HO_9.out).1
          clear hH100 ge100_0
          refine qb (n := 14) (S := fun w' => w'.cell? ⟨go100, (x178_8).toNat, none⟩ = some (.slice A570_0 (cE x9_8 x178_8).length c570_0) ∧ w'.cell? (ad571.add (x178_8).toNat) = some (.int .i64 (rd x14_7 x178_8))) (ds := [11, 13]) #[false, false, false, false, false, false, false, false, false, false, false, false, false, false] jG rfl rfl ⟨hx570_0, hx571_0⟩ (fun hHeld => ?_); refine jd aa.Py aa.Lq (fun HT_ HW_ => ?_)
          generalize wr.drew = w98 at HO_9 HO_10 HO_14 HB GG100 HH100 HL570_0 HR570_0 HX570_0 UU100 hx570_0 hx571_0 hHeld ⊢
          refine dT (i := 0) (N := some 181) (v := ?_) (a' := ?_) #[true, false, false, false, false, false, false, false, false, false, false, false, false, false] rfl rfl (dc HT_.out jG) (fun _ _ _ h => h) (Or.inl ⟨by rfl, ?_⟩) ?_ ?_
          rotate_left
          ·intro w'
           go_simp
           with_reducible rfl
          rotate_left
          ·simp only [Act.put, List.setIfInBounds_toArray, List.set_cons_zero, List.set_cons_succ, fE]
           rfl
          refine dT (i := 1) (N := some 182) (v := ?_) (a' := ?_) #[true, true, false, false, false, false, false, false, false, false, false, false, false, false] rfl rfl (dc HT_.out jG) (fun _ _ _ h => h) (Or.inl ⟨by rfl, ?_⟩) ?_ ?_
          rotate_left
          ·intro w'
           go_simp
           with_reducible rfl
          rotate_left
          ·simp only [Act.put, List.setIfInBounds_toArray, List.set_cons_zero, List.set_cons_succ, fE]
           rfl
          refine dT (i := 2) (N := some 183) (v := ?_) (a' := ?_) #[true, true, true, false, false, false, false, false, false, false, false, false, false, false] rfl rfl (dc HT_.out jG) (fun _ _ _ h => h) (Or.inl ⟨by rfl, ?_⟩) ?_ ?_
          rotate_left
          ·intro w'
           go_simp
           with_reducible rfl
          rotate_left
          ·simp only [Act.put, List.setIfInBounds_toArray, List.set_cons_zero, List.set_cons_succ, fE]
           rfl
          refine dT (i := 3) (N := some 184) (v := ?_) (a' := ?_) #[true, true, true, true, false, false, false, false, false, false, false, false, false, false] rfl rfl (dc HT_.out jG) (fun _ _ _ h => h) (Or.inl ⟨by rfl, ?_⟩) ?_ ?_
          rotate_left
          ·intro w'
           go_simp
           with_reducible rfl
          rotate_left
          ·simp only [Act.put, List.setIfInBounds_toArray, List.set_cons_zero, List.set_cons_succ, fE]
           rfl
          refine dT (i := 4) (N := some 185) (v := ?_) (a' := ?_) #[true, true, true, true, true, false, false, false, false, false, false, false, false, false] rfl rfl (dc HT_.out jG) (fun _ _ _ h => h) (Or.inl ⟨by rfl, ?_⟩) ?_ ?_
          rotate_left
          ·intro w'
           go_simp
           with_reducible rfl
          rotate_left
          ·simp only [Act.put, List.setIfInBounds_toArray, List.set_cons_zero, List.set_cons_succ, fE]
           rfl
          refine dT (i := 6) (N := some 187) (v := ?_) (a' := ?_) #[true, true, true, true, true, false, true, false, false, false, false, false, false, false] rfl rfl (dc HT_.out jG) (fun _ _ _ h => h) (Or.inl ⟨by rfl, ?_⟩) ?_ ?_
          rotate_left
          ·intro w'
           go_simp
           with_reducible rfl
          rotate_left
          ·simp only [Act.put, List.setIfInBounds_toArray, List.set_cons_zero, List.set_cons_succ, fE]
           rfl
          refine dT (i := 7) (N := some 188) (v := ?_) (a' := ?_) #[true, true, true, true, true, false, true, true, false, false, false, false, false, false] rfl rfl (dc HT_.out jG) (fun _ _ _ h => h) (Or.inl ⟨by rfl, ?_⟩) ?_ ?_
          rotate_left
          ·intro w'
           go_simp
           with_reducible rfl
          rotate_left
          ·simp only [Act.put, List.setIfInBounds_toArray, List.set_cons_zero, List.set_cons_succ, fE]
           rfl
          refine dT (i := 8) (N := some 189) (v := ?_) (a' := ?_) #[true, true, true, true, true, false, true, true, true, false, false, false, false, false] rfl rfl (dc HT_.out jG) (fun _ _ _ h => h) (Or.inl ⟨by rfl, ?_⟩) ?_ ?_
          rotate_left
          ·intro w'
           go_simp
           with_reducible rfl
          rotate_left
          ·simp only [Act.put, List.setIfInBounds_toArray, List.set_cons_zero, List.set_cons_succ, fE]
           rfl
          refine uw (i := 5) (N := some 186) (v := ?_) (a' := ?_) #[true, true, true, true, true, true, true, true, true, false, false, false, false, false] rfl rfl (jE HT_.out HW_.out jG) (fun _ _ _ h => h) (Or.inl ⟨by rfl, ?_⟩) hHeld ?_ ?_
          rotate_left
          ·rintro w' ⟨s0, s1⟩
           go_simp
           with_reducible rfl
          rotate_left
          ·simp only [Act.put, List.setIfInBounds_toArray, List.set_cons_zero, List.set_cons_succ, fE]
           rfl
          refine uw (i := 9) (N := some 190) (v := ?_) (a' := ?_) #[true, true, true, true, true, true, true, true, true, true, false, false, false, false] rfl rfl (jE HT_.out HW_.out jG) (fun _ _ _ h => h) (Or.inl ⟨by rfl, ?_⟩) hHeld ?_ ?_
          rotate_left
          ·rintro w' ⟨s0, s1⟩
           go_simp
           with_reducible rfl
          rotate_left
          ·simp only [Act.put, List.setIfInBounds_toArray, List.set_cons_zero, List.set_cons_succ, fE]
           rfl
          refine tI (i := 10) (N := some 191) #[true, true, true, true, true, true, true, true, true, true, true, false, false, false] rfl rfl (eX HT_.out jG) (by decide) (fun K hK => ?_)
          refine NC (w1 := ?_) (v := ?_) (by rfl) rfl ?_ ?_
          rotate_left 2
          ·go_simp
           constructor
           ·rfl
           rfl
          refine hK.out _ _ ⟨(World.cell?_alloc_lt _ _ _ (World.block_lt_of_cell? _ _ (hHeld.1))).trans (hHeld.1), (World.cell?_alloc_lt _ _ _ (World.block_lt_of_cell? _ _ (hHeld.2))).trans (hHeld.2)⟩ (fun hHeld => ?_)
          clear hK K
          refine kY (a' := ?_) ?_ ?_
          rotate_left
          ·show Act.put _ (some 191) _ = _
           simp only [Act.put, List.setIfInBounds_toArray, List.set_cons_zero, List.set_cons_succ, fE]
           rfl
          refine tp (i := 11) (N := some 192) #[true, true, true, true, true, true, true, true, true, true, true, true, false, false] rfl rfl (eX HT_.out jG) (by decide) (fun K hK => ?_)
          refine Kd.uO (Kd.int .i64) (w0 := w) w.heap.size (by rfl) (.tmp 186) (.tmp 191) 29 2 (.int .i64 0) 8 rfl Try.underlying29 zE rfl (by decide) (by omega) (.slice A570_0 (cE x9_8 x178_8).length c570_0) (cE x9_8 x178_8) (rd x14_7 x178_8) [.int .i64 (rd x14_7 x178_8)] (fun k_ => oki100 k_ ∨ ((fun k_ => some k_ ≠ (u10 : Value).ownBlock ∧ some k_ ≠ (.slice (some ad571) x14_7.length co99 : Value).ownBlock)) k_ ∧ w98.heap.size ≤ k_) (fun _ => False) rfl rfl ?aP (fun _ hk => hk.elim) ?aF ?aO ?aB ?aS ?aL ?_
          (case aP => exact rfl)
          (case aB => exact m8)
          (case aF => exact (fun k_ hk => .inr ⟨⟨Kd.xe (Kd.E1 vp) k_ hk, Kd.xe (Kd.E1 NH) k_ hk⟩, hk⟩))
          (case aO => exact (by (with_reducible repeat (first | apply Kd.R_alloc | apply Kd.bt | apply Kd.bV)); exact Kd.cr UU100.out (fun _ hk => .inl hk)))
          (case aS => exact (fe m8))
          (case aL => have := LMc96.out; omega)
          intro v573 w101 ho hb hg hat
          rw [← Ny572.out] at ho
          have n0_ := ab.mk (Kd.yV vp rfl hg (fun k_ e_ => (HL570_0.out.1 k_ e_).1.1))
          have n1_ := ab.mk (Kd.yV NH rfl hg (fun k_ e_ => (HL570_0.out.1 k_ e_).1.2))
          have n2_ := ab.mk (hb)
          have n3_ := ab.mk (Kd.Db (Kd.IT (by repeat (first | exact HH100.out | refine Kd.H_alloc ?_ _ | refine Kd.H_drewN ?_ _ | refine Kd.H_drew ?_))) hg (fun k_ e_ => .inl (UU100.out.1 k_ e_)))
          have n4_ := ab.mk (ho)
          clear HO_10 HO_14 HB HH100 HO_9 UU100 HL570_0
          have HO_10 := n0_
          have HO_14 := n1_
          have HB := n2_
          have HH100 := n3_
          have HO574 := n4_
          clear n0_ n1_ n2_ n3_ n4_ ho hb hg hat
          have p97 : 0 ≤ (x178_8 : Int) := of_decide_eq_true cm
          have q97 : (x178_8 : Int) < ((x9_8.length : Int) : Int) := of_decide_eq_true cm
          replace p97 := eq_true p97
          replace q97 := eq_true q97
          obtain ⟨Ao104, co104, eo104⟩ := Kd.eZ HO574.out
          (first | subst eo104 | (injection eo104 with f1_ f2_ f3_; have f4_ := f1_.symm; have f5_ := f3_.symm; clear f1_ f2_ f3_; subst f4_; subst f5_))
          obtain ⟨_, _, hraw102, _, _, hcc102, _⟩ := Kd.F9 HH100.out (of_decide_eq_true cm) (by have h_ : (x178_8 : Int) < ((x9_8.length : Int) : Int) := of_decide_eq_true cm; first | exact h_ | (have e_ := (HN100.out); omega) | simpa using h_)
          obtain ⟨_, hfr102⟩ := Kd.Qe HH100.out (of_decide_eq_true cm) (by have h_ : (x178_8 : Int) < ((x9_8.length : Int) : Int) := of_decide_eq_true cm; first | exact h_ | (have e_ := (HN100.out); omega) | simpa using h_)
          have hx102_0 := hcc102 0 _ rfl
          have hf102_0 := hfr102 0
          (try simp only [Nat.add_zero] at hx102_0 hf102_0)
          (try rw [show ((Kd.slice 2 (Kd.int .i64))).sz = 1 from rfl, Nat.mul_one] at hx102_0)
          (try rw [show ((Kd.slice 2 (Kd.int .i64))).sz = 1 from rfl, Nat.mul_one] at hf102_0)
          have HP102 := Kd.Lm HH100.out (of_decide_eq_true cm) (by have h_ : (x178_8 : Int) < ((x9_8.length : Int) : Int) := of_decide_eq_true cm; first | exact h_ | (have e_ := (HN100.out); omega) | simpa using h_) (seg := [.slice Ao104 y572.length co104]) (j := 0) (show 1 ≤ 1 from by decide) (x' := y572) (Kd.yU HO574.out) (fun _ hk => hk)
          (try simp only [show ((Kd.slice 2 (Kd.int .i64))).sz = 1 from rfl, Nat.mul_one, Nat.add_zero] at HP102)
          clear hcc102 hfr102
          have HS102 := HP102.1
          rw [← Ny575.out] at HS102
          have HQ102 := ab.mk HS102
          obtain ⟨_, hgg102⟩ := Kd.Df hraw102 go100 rfl
          have GG102_ := ab.mk hgg102
          clear HP102 HS102 hgg102
          refine hK.out _ _ ?_
          clear hK K
          refine kY (a' := ?_) ?_ ?_
          rotate_left
          ·show Act.put _ (some 192) _ = _
           simp only [Act.put, List.setIfInBounds_toArray, List.set_cons_zero, List.set_cons_succ, fE]
           rfl
          refine dT (i := 12) (N := some 193) (v := ?_) (a' := ?_) #[true, true, true, true, true, true, true, true, true, true, true, true, true, false] rfl rfl (dc HT_.out jG) (fun _ _ _ h => h) (Or.inl ⟨by rfl, ?_⟩) ?_ ?_
          rotate_left
          ·intro w'
           go_simp
           with_reducible rfl
          rotate_left
          ·simp only [Act.put, List.setIfInBounds_toArray, List.set_cons_zero, List.set_cons_succ, fE]
           rfl
          refine tp (i := 13) (N := none) #[true, true, true, true, true, true, true, true, true, true, true, true, true, true] rfl rfl (eX HT_.out jG) (by decide) (fun K hK => ?_)
          refine wB (w1 := ?_) (by rfl) rfl ?_ ?_
          rotate_left
          ·go_simp
           rfl
          refine hK.out _ _ ?_
          clear hK K
          refine vE (mL HT_.out jG) ?_
          try go_wp2
          (try simp only [← hl9_8])
          go_roundg k8
          case measure => have := HJ3.out; have := HK2.out; have := HK3.out; have := HK4.out; have := HK5.out; have := HK6.out; have := HK7.out; have := HK8.out; omega
          case rel => exact ⟨(y575), (wrap64 (x178_8 + 1)), dQ, H', ⟨by have := HJ3.out; have := HK2.out; have := HK3.out; have := HK4.out; have := HK5.out; have := HK6.out; have := HK7.out; have := HK8.out; omega⟩, ⟨by (try simp only [hl9_8]); (with_reducible repeat (first | apply Kd.S_alloc | apply Kd.bN | apply Kd.b9)); exact HQ102.out⟩, ⟨by (try simp only [hl9_8]); (with_reducible repeat (first | apply Kd.R_alloc | apply Kd.bt | apply Kd.bV)); exact Kd.cr (Kd.KF (p := ⟨go100, (x178_8 : Int).toNat, none⟩) (Kd.Dg HO_10.out GG102_.out (by decide)) (fun _ hk => hk.2) (.slice Ao104 y572.length co104)) (fun _ hk => hk.1)⟩, ⟨by (try simp only [hl9_8]); (with_reducible repeat (first | apply Kd.R_alloc | apply Kd.bt | apply Kd.bV)); exact Kd.cr (Kd.KF (p := ⟨go100, (x178_8 : Int).toNat, none⟩) (Kd.Dg HO_14.out GG102_.out (by decide)) (fun _ hk => hk.2) (.slice Ao104 y572.length co104)) (fun _ hk => hk.1)⟩, ⟨by repeat (first | (with_reducible first | exact HB.out | apply a6 | apply aG | apply a9 | refine mI ?_ GB100.out) | exact HB.out)⟩⟩
        rw [if_pos c39] at H
        have c39b0 : decide (x16_7 < 2) = true := decide_eq_true c39
        clear c39
        have H' := ab.mk H
        clear H
        go_wp2
        go_loopg [17] k7 (fun kq v17 w' => ∃ (x10_8 : List Int) (x14_8 : List Int) (x17_8 : Int), v17 = .int .i64 x17_8 ∧ ab (aa.l6 kq a0 a1 l2 x9_5 x10_8 x13_5 x14_8 x16_7 x17_8 = some (r1, r2)) ∧ ab (kq ≤ k7) ∧ ab (Kd.S (Kd.slice 2 (Kd.int .i64)) 29 w' w.heap.size (fun k_ => some k_ ≠ (u10 : Value).ownBlock ∧ some k_ ≠ (u14 : Value).ownBlock) u9 x9_5) ∧ ab (Kd.R (Kd.int .i64) 2 w' w.heap.size (fun k_ => some k_ ≠ (u14 : Value).ownBlock) u10 x10_8) ∧ ab (Kd.R (Kd.int .i64) 2 w' w.heap.size (fun k_ => some k_ ≠ (u10 : Value).ownBlock) u14 x14_8) ∧ ab (Below w.heap.size w w'))
        case atStart => exact ⟨(x10_7), (x14_7), (0), dQ, H', ⟨Nat.le_refl _⟩, ⟨by (with_reducible repeat (first | apply Kd.S_alloc | apply Kd.bN | apply Kd.b9)); exact HO_9.out⟩, ⟨by (with_reducible repeat (first | apply Kd.R_alloc | apply Kd.bt | apply Kd.bV)); exact HO_10.out⟩, ⟨by (with_reducible repeat (first | apply Kd.R_alloc | apply Kd.bt | apply Kd.bV)); exact HO_14.out⟩, ⟨by repeat (first | (with_reducible first | exact HB.out | apply a6 | apply aG | apply a9) | exact HB.out)⟩⟩
        clear H' c39b0
        obtain ⟨x10_8, x14_8, x17_8, rfl, HA, HK8, HO_9, HO_10, HO_14, HB⟩ := hrel
        cases gk with
        | zero => exact absurd HA.out (by simp [aa.l6])
        | succ k8 => as_aux_lemma =>
         have H := HA.out
         clear HA
         simp only [aa.l6] at H
         by_cases c40 : x17_8 < a0
         rotate_left
         ·rw [if_neg c40] at H
          have c40b0 : decide (x17_8 < a0) = false := decide_eq_false c40
          clear c40
          have H' := ab.mk H
          clear H
          go_wp2
          go_roundg k8
          case measure => have := HJ3.out; have := HK2.out; have := HK3.out; have := HK4.out; have := HK5.out; have := HK6.out; have := HK7.out; have := HK8.out; omega
          case rel => exact ⟨(x10_8), (x14_8), (wrap64 (x16_7 + 1)), dQ, H', ⟨by have := HJ3.out; have := HK2.out; have := HK3.out; have := HK4.out; have := HK5.out; have := HK6.out; have := HK7.out; have := HK8.out; omega⟩, ⟨by (with_reducible repeat (first | apply Kd.S_alloc | apply Kd.bN | apply Kd.b9)); exact HO_9.out⟩, ⟨by (with_reducible repeat (first | apply Kd.R_alloc | apply Kd.bt | apply Kd.bV)); exact HO_10.out⟩, ⟨by (with_reducible repeat (first | apply Kd.R_alloc | apply Kd.bt | apply Kd.bV)); exact HO_14.out⟩, ⟨by repeat (first | (with_reducible first | exact HB.out | apply a6 | apply aG | apply a9) | exact HB.out)⟩⟩
         rw [if_pos c40] at H
         have c40b0 : decide (x17_8 < a0) = true := decide_eq_true c40
         clear c40
         by_cases c41 : 0 ≤ x13_5
         rotate_left
         ·rw [if_neg c41] at H
          exact absurd H (by simp)
         rw [if_pos c41] at H
         have c41b0 : decide (0 ≤ x13_5) = true := decide_eq_true c41
         clear c41
         by_cases c42 : x13_5 < (l2.length : Int)
         rotate_left
         ·rw [if_neg c42] at H
          exact absurd H (by simp)
         rw [if_pos c42] at H
         have c42b0 : decide (x13_5 < (l2.length : Int)) = true := decide_eq_true c42
         clear c42
         obtain ⟨ji43, hji43⟩ : ∃ j_ : Int, (IntKind.u64.wrap (x17_8)) = j_ := ⟨_, rfl⟩
         replace H : (if 0 ≤ (ji43) then (if (Go.bits .and .i64 (shr .i64 (rd l2 x13_5) (ji43)) 1) = 0 then (aa.l6 k8 a0 a1 l2 x9_5 x10_8 x13_5 x14_8 x16_7 (wrap64 (x17_8 + 1))) else (if x16_7 = 0 then (if 0 ≤ x17_8 then (if x17_8 < (x10_8.length : Int) then (if (rd x10_8 x17_8) ≥ 0 then (if 0 ≤ (rd x10_8 x17_8) then (if (rd x10_8 x17_8) < (x14_8.length : Int) then (aa.j8 k8 a0 a1 l2 x9_5 x10_8 x13_5 x14_8 x16_7 x17_8 (decide ((rd x14_8 (rd x10_8 x17_8)) < 0))) else (none)) else (none)) else (aa.j8 k8 a0 a1 l2 x9_5 x10_8 x13_5 x14_8 x16_7 x17_8 false)) else (none)) else (none)) else (aa.j8 k8 a0 a1 l2 x9_5 x10_8 x13_5 x14_8 x16_7 x17_8 false))) else (none)) = some (r1, r2) := by first | (rw [hji43] at H; exact H) | (simp only [hji43] at H ⊢; exact H)
         by_cases c44 : 0 ≤ (ji43)
         rotate_left
         ·rw [if_neg c44] at H
          exact absurd H (by simp)
         rw [if_pos c44] at H
         have c44b0 := eq_true c44
         have c44b1 : decide (0 ≤ (ji43)) = true := decide_eq_true c44
         clear c44
         obtain ⟨ji45, hji45⟩ : ∃ j_ : Int, (shr .i64 (rd l2 x13_5) (ji43)) = j_ := ⟨_, rfl⟩
         replace H : (if (Go.bits .and .i64 (ji45) 1) = 0 then (aa.l6 k8 a0 a1 l2 x9_5 x10_8 x13_5 x14_8 x16_7 (wrap64 (x17_8 + 1))) else (if x16_7 = 0 then (if 0 ≤ x17_8 then (if x17_8 < (x10_8.length : Int) then (if (rd x10_8 x17_8) ≥ 0 then (if 0 ≤ (rd x10_8 x17_8) then (if (rd x10_8 x17_8) < (x14_8.length : Int) then (aa.j8 k8 a0 a1 l2 x9_5 x10_8 x13_5 x14_8 x16_7 x17_8 (decide ((rd x14_8 (rd x10_8 x17_8)) < 0))) else (none)) else (none)) else (aa.j8 k8 a0 a1 l2 x9_5 x10_8 x13_5 x14_8 x16_7 x17_8 false)) else (none)) else (none)) else (aa.j8 k8 a0 a1 l2 x9_5 x10_8 x13_5 x14_8 x16_7 x17_8 false))) = some (r1, r2) := by first | (rw [hji45] at H; exact H) | (simp only [hji45] at H ⊢; exact H)
         have hji45_ : ((rd l2 x13_5) / 2 ^ min (ji43).toNat 64) = ji45 := hji45
         have hji45z : (ji43) ≤ 64 → ((rd l2 x13_5) / 2 ^ (ji43).toNat) = ji45 := F1 hji45
         by_cases c46 : (Go.bits .and .i64 (ji45) 1) = 0
         ·rw [if_pos c46] at H
          have c46b0 : ((Go.bits .and .i64 (ji45) 1) == 0) = true := beq_iff_eq.mpr c46
          have c46b1 : ((Go.bits .and .i64 (ji45) 1) != 0) = false := bne_eq_false_iff_eq.mpr c46
          clear c46
          have H' := ab.mk H
          clear H
          have p558 : 0 ≤ (x13_5 : Int) := of_decide_eq_true cm
          have q558 : x13_5 < (l2.length : Int) := of_decide_eq_true cm
          obtain ⟨ad558, e558, hx558_0⟩ := Kd.dD HR2.out x13_5 p558 q558
          cases e558
          replace hx558_0 := (HB.out.cell (World.block_lt_of_cell? w _ hx558_0)).trans hx558_0
          replace p558 := eq_true p558
          replace q558 := eq_true q558
          go_wp2
          go_roundg k8
          case measure => have := HJ3.out; have := HK2.out; have := HK3.out; have := HK4.out; have := HK5.out; have := HK6.out; have := HK7.out; have := HK8.out; omega
          case rel => exact ⟨(x10_8), (x14_8), (wrap64 (x17_8 + 1)), dQ, H', ⟨by have := HJ3.out; have := HK2.out; have := HK3.out; have := HK4.out; have := HK5.out; have := HK6.out; have := HK7.out; have := HK8.out; omega⟩, ⟨by (with_reducible repeat (first | apply Kd.S_alloc | apply Kd.bN | apply Kd.b9)); exact HO_9.out⟩, ⟨by (with_reducible repeat (first | apply Kd.R_alloc | apply Kd.bt | apply Kd.bV)); exact HO_10.out⟩, ⟨by (with_reducible repeat (first | apply Kd.R_alloc | apply Kd.bt | apply Kd.bV)); exact HO_14.out⟩, ⟨by repeat (first | (with_reducible first | exact HB.out | apply a6 | apply aG | apply a9) | exact HB.out)⟩⟩
         rw [if_neg c46] at H
         have c46b0 : ((Go.bits .and .i64 (ji45) 1) == 0) = false := beq_eq_false_iff_ne.mpr c46
         have c46b1 : ((Go.bits .and .i64 (ji45) 1) != 0) = true := bne_iff_ne.mpr c46
         have HC47 := ab.mk H
         clear H
         have p558 : 0 ≤ (x13_5 : Int) := of_decide_eq_true cm
         have q558 : x13_5 < (l2.length : Int) := of_decide_eq_true cm
         obtain ⟨ad558, e558, hx558_0⟩ := Kd.dD HR2.out x13_5 p558 q558
         cases e558
         replace hx558_0 := (HB.out.cell (World.block_lt_of_cell? w _ hx558_0)).trans hx558_0
         replace p558 := eq_true p558
         replace q558 := eq_true q558
         go_upto_region 32 with (fail)
         go_cut [133] (fun v133 wc => ∃ (kq : Nat) (x133_46 : Bool), v133 = .bool x133_46 ∧ ab (aa.j8 kq a0 a1 l2 x9_5 x10_8 x13_5 x14_8 x16_7 x17_8 x133_46 = some (r1, r2)) ∧ ab (kq ≤ k8) ∧ ab (Kd.S (Kd.slice 2 (Kd.int .i64)) 29 wc w.heap.size (fun k_ => some k_ ≠ (u10 : Value).ownBlock ∧ some k_ ≠ (u14 : Value).ownBlock) u9 x9_5) ∧ ab (Kd.R (Kd.int .i64) 2 wc w.heap.size (fun k_ => some k_ ≠ (u14 : Value).ownBlock) u10 x10_8) ∧ ab (Kd.R (Kd.int .i64) 2 wc w.heap.size (fun k_ => some k_ ≠ (u10 : Value).ownBlock) u14 x14_8) ∧ ab (Below w.heap.size w wc))
         case first =>
          have H := HC47.out
          clear HC47
          by_cases c48 : x16_7 = 0
          rotate_left
          ·rw [if_neg c48] at H
           have c48b0 : (x16_7 == 0) = false := beq_eq_false_iff_ne.mpr c48
           have c48b1 : (x16_7 != 0) = true := bne_iff_ne.mpr c48
           (first | rw [c48b0] | (simp only [fE]; rw [c48b0]) | skip)
           have H' := ab.mk H
           clear H
           go_wp2
           go_meet
           case rel => exact ⟨_, (false), dQ, H', ⟨by have := HJ3.out; have := HK2.out; have := HK3.out; have := HK4.out; have := HK5.out; have := HK6.out; have := HK7.out; have := HK8.out; first | omega | exact Nat.le_refl _⟩, ⟨by (with_reducible repeat (first | apply Kd.S_alloc | apply Kd.bN | apply Kd.b9)); exact HO_9.out⟩, ⟨by (with_reducible repeat (first | apply Kd.R_alloc | apply Kd.bt | apply Kd.bV)); exact HO_10.out⟩, ⟨by (with_reducible repeat (first | apply Kd.R_alloc | apply Kd.bt | apply Kd.bV)); exact HO_14.out⟩, ⟨by repeat (first | (with_reducible first | exact HB.out | apply a6 | apply aG | apply a9) | exact HB.out)⟩⟩
          rw [if_pos c48] at H
          have c48b0 : (x16_7 == 0) = true := beq_iff_eq.mpr c48
          have c48b1 : (x16_7 != 0) = false := bne_eq_false_iff_eq.mpr c48
          clear c48
          (first | rw [c48b0] | (simp only [fE]; rw [c48b0]) | skip)
          by_cases c49 : 0 ≤ x17_8
          rotate_left
          ·rw [if_neg c49] at H
           exact absurd H (by simp)
          rw [if_pos c49] at H
          have c49b0 : decide (0 ≤ x17_8) = true := decide_eq_true c49
          clear c49
          by_cases c50 : x17_8 < (x10_8.length : Int)
          rotate_left
          ·rw [if_neg c50] at H
           exact absurd H (by simp)
          rw [if_pos c50] at H
          have c50b0 : decide (x17_8 < (x10_8.length : Int)) = true := decide_eq_true c50
          clear c50
          by_cases c51 : (rd x10_8 x17_8) ≥ 0
          rotate_left
          ·rw [if_neg c51] at H
           have c51b0 : decide (0 ≤ (rd x10_8 x17_8)) = false := decide_eq_false c51
           clear c51
           have H' := ab.mk H
           clear H
           obtain ⟨Ao56, co56, eo56⟩ := Kd.eZ HO_10.out
           subst eo56
           have p559 : 0 ≤ (x17_8 : Int) := of_decide_eq_true cm
           have q559 : x17_8 < (x10_8.length : Int) := of_decide_eq_true cm
           obtain ⟨ad559, e559, hx559_0⟩ := Kd.dD (Kd.cQ HO_10.out).2.2 x17_8 p559 q559
           cases e559
           replace p559 := eq_true p559
           replace q559 := eq_true q559
           go_wp2
           go_meet
           case rel => exact ⟨_, (false), dQ, H', ⟨by have := HJ3.out; have := HK2.out; have := HK3.out; have := HK4.out; have := HK5.out; have := HK6.out; have := HK7.out; have := HK8.out; first | omega | exact Nat.le_refl _⟩, ⟨by (with_reducible repeat (first | apply Kd.S_alloc | apply Kd.bN | apply Kd.b9)); exact HO_9.out⟩, ⟨by (with_reducible repeat (first | apply Kd.R_alloc | apply Kd.bt | apply Kd.bV)); exact HO_10.out⟩, ⟨by (with_reducible repeat (first | apply Kd.R_alloc | apply Kd.bt | apply Kd.bV)); exact HO_14.out⟩, ⟨by repeat (first | (with_reducible first | exact HB.out | apply a6 | apply aG | apply a9) | exact HB.out)⟩⟩
          rw [if_pos c51] at H
          have c51b0 : decide (0 ≤ (rd x10_8 x17_8)) = true := decide_eq_true c51
          clear c51
          by_cases c52 : 0 ≤ (rd x10_8 x17_8)
          rotate_left
          ·rw [if_neg c52] at H
           exact absurd H (by simp)
          rw [if_pos c52] at H
          have c52b0 : decide (0 ≤ (rd x10_8 x17_8)) = true := decide_eq_true c52
          clear c52
          by_cases c53 : (rd x10_8 x17_8) < (x14_8.length : Int)
          rotate_left
          ·rw [if_neg c53] at H
           exact absurd H (by simp)
          rw [if_pos c53] at H
          have c53b0 : decide ((rd x10_8 x17_8) < (x14_8.length : Int)) = true := decide_eq_true c53
          clear c53
          have H' := ab.mk H
          clear H
          obtain ⟨Ao54, co54, eo54⟩ := Kd.eZ HO_10.out
          subst eo54
          have p559 : 0 ≤ (x17_8 : Int) := of_decide_eq_true cm
          have q559 : x17_8 < (x10_8.length : Int) := of_decide_eq_true cm
          obtain ⟨ad559, e559, hx559_0⟩ := Kd.dD (Kd.cQ HO_10.out).2.2 x17_8 p559 q559
          cases e559
          replace p559 := eq_true p559
          replace q559 := eq_true q559
          have p560 : 0 ≤ (x17_8 : Int) := of_decide_eq_true cm
          have q560 : x17_8 < (x10_8.length : Int) := of_decide_eq_true cm
          obtain ⟨ad560, e560, hx560_0⟩ := Kd.dD (Kd.cQ HO_10.out).2.2 x17_8 p560 q560
          obtain rfl : ad559 = ad560 := (by injection e560)
          replace p560 := eq_true p560
          replace q560 := eq_true q560
          obtain ⟨Ao55, co55, eo55⟩ := Kd.eZ HO_14.out
          subst eo55
          have p561 : 0 ≤ ((rd x10_8 x17_8) : Int) := of_decide_eq_true cm
          have q561 : (rd x10_8 x17_8) < (x14_8.length : Int) := of_decide_eq_true cm
          obtain ⟨ad561, e561, hx561_0⟩ := Kd.dD (Kd.cQ HO_14.out).2.2 (rd x10_8 x17_8) p561 q561
          cases e561
          replace p561 := eq_true p561
          replace q561 := eq_true q561
          go_wp2
          go_meet
          case rel => exact ⟨_, (decide ((rd x14_8 (rd x10_8 x17_8)) < 0)), dQ, H', ⟨by have := HJ3.out; have := HK2.out; have := HK3.out; have := HK4.out; have := HK5.out; have := HK6.out; have := HK7.out; have := HK8.out; first | omega | exact Nat.le_refl _⟩, ⟨by (with_reducible repeat (first | apply Kd.S_alloc | apply Kd.bN | apply Kd.b9)); exact HO_9.out⟩, ⟨by (with_reducible repeat (first | apply Kd.R_alloc | apply Kd.bt | apply Kd.bV)); exact HO_10.out⟩, ⟨by (with_reducible repeat (first | apply Kd.R_alloc | apply Kd.bt | apply Kd.bV)); exact HO_14.out⟩, ⟨by repeat (first | (with_reducible first | exact HB.out | apply a6 | apply aG | apply a9) | exact HB.out)⟩⟩
         clear HC47 c40b0 c41b0 c42b0 c44b0 c44b1 c46 c46b0 c46b1 hx558_0 p558 q558
         obtain ⟨kq, x133_46, rfl, HA, HJ46, HO_9, HO_10, HO_14, HB⟩ := hcut
         cases kq with
         | zero => exact absurd HA.out (by simp [aa.j8])
         | succ kj46 =>
          have H := HA.out
          clear HA
          simp only [aa.j8] at H
          have HC57 := ab.mk H
          clear H
          go_upto_if 133 with (fail)
          go_cut [] (fun wc => ∃ (kq : Nat) (x14_56 : List Int), ab (aa.j9 kq a0 a1 l2 x9_5 x10_8 x13_5 x14_56 x16_7 x17_8 = some (r1, r2)) ∧ ab (kq ≤ kj46) ∧ ab (Kd.S (Kd.slice 2 (Kd.int .i64)) 29 wc w.heap.size (fun k_ => some k_ ≠ (u10 : Value).ownBlock ∧ some k_ ≠ (u14 : Value).ownBlock) u9 x9_5) ∧ ab (Kd.R (Kd.int .i64) 2 wc w.heap.size (fun k_ => some k_ ≠ (u14 : Value).ownBlock) u10 x10_8) ∧ ab (Kd.R (Kd.int .i64) 2 wc w.heap.size (fun k_ => some k_ ≠ (u10 : Value).ownBlock) u14 x14_56) ∧ ab (Below w.heap.size w wc))
          case first =>
           have H := HC57.out
           clear HC57
           by_cases c58 : x133_46 = true
           rotate_left
           ·replace c58 := Bool.eq_false_iff.mpr c58
            subst c58
            have H1 : (aa.j9 kj46 a0 a1 l2 x9_5 x10_8 x13_5 x14_8 x16_7 x17_8) = some (r1, r2) := by rw [if_neg (show ¬ (false = true) by decide)] at H; exact H
            clear H
            have H := H1
            clear H1
            have H' := ab.mk H
            clear H
            go_wp2
            go_meet
            case rel => exact ⟨_, (x14_8), H', ⟨by have := HJ3.out; have := HK2.out; have := HK3.out; have := HK4.out; have := HK5.out; have := HK6.out; have := HK7.out; have := HK8.out; have := HJ46.out; first | omega | exact Nat.le_refl _⟩, ⟨by (with_reducible repeat (first | apply Kd.S_alloc | apply Kd.bN | apply Kd.b9)); exact HO_9.out⟩, ⟨by (with_reducible repeat (first | apply Kd.R_alloc | apply Kd.bt | apply Kd.bV)); exact HO_10.out⟩, ⟨by (with_reducible repeat (first | apply Kd.R_alloc | apply Kd.bt | apply Kd.bV)); exact HO_14.out⟩, ⟨by repeat (first | (with_reducible first | exact HB.out | apply a6 | apply aG | apply a9) | exact HB.out)⟩⟩
           subst c58
           have H1 : (if 0 ≤ x17_8 then (if x17_8 < (x10_8.length : Int) then (if 0 ≤ (rd x10_8 x17_8) then (if (rd x10_8 x17_8) < (x14_8.length : Int) then (aa.j9 kj46 a0 a1 l2 x9_5 x10_8 x13_5 (x14_8.set ((rd x10_8 x17_8) : Int).toNat x17_8) x16_7 x17_8) else (none)) else (none)) else (none)) else (none)) = some (r1, r2) := by rw [if_pos rfl] at H; exact H
           clear H
           have H := H1
           clear H1
           by_cases c59 : 0 ≤ x17_8
           rotate_left
           ·rw [if_neg c59] at H
            exact absurd H (by simp)
           rw [if_pos c59] at H
           have c59b0 : decide (0 ≤ x17_8) = true := decide_eq_true c59
           clear c59
           (first | rw [c59b0] | (simp only [fE]; rw [c59b0]) | skip)
           by_cases c60 : x17_8 < (x10_8.length : Int)
           rotate_left
           ·rw [if_neg c60] at H
            exact absurd H (by simp)
           rw [if_pos c60] at H
           have c60b0 : decide (x17_8 < (x10_8.length : Int)) = true := decide_eq_true c60
           clear c60
           by_cases c61 : 0 ≤ (rd x10_8 x17_8)
           rotate_left
           ·rw [if_neg c61] at H
            exact absurd H (by simp)
           rw [if_pos c61] at H
           have c61b0 : decide (0 ≤ (rd x10_8 x17_8)) = true := decide_eq_true c61
           clear c61
           by_cases c62 : (rd x10_8 x17_8) < (x14_8.length : Int)
           rotate_left
           ·rw [if_neg c62] at H
            exact absurd H (by simp)
           rw [if_pos c62] at H
           have c62b0 : decide ((rd x10_8 x17_8) < (x14_8.length : Int)) = true := decide_eq_true c62
           clear c62
           obtain ⟨y563, hy563⟩ : ∃ y_ : List Int, y_ = (x14_8.set ((rd x10_8 x17_8) : Int).toNat x17_8) := ⟨_, rfl⟩
           replace H : (aa.j9 kj46 a0 a1 l2 x9_5 x10_8 x13_5 y563 x16_7 x17_8) = some (r1, r2) := by first | (rw [hy563]; with_reducible exact H) | (have H2_ := (Option.bind_some _ _).symm.trans H; rw [hy563]; with_reducible exact H2_) | (have H2_ := (Option.bind_some _ _).symm.trans H; with_reducible exact H2_) | with_reducible exact H | (rw [hy563]; exact H) | exact H
           have Ny563 := ab.mk hy563
           clear hy563
           have H' := ab.mk H
           clear H
           obtain ⟨Ao64, co64, eo64⟩ := Kd.eZ HO_10.out
           subst eo64
           have p562 : 0 ≤ (x17_8 : Int) := of_decide_eq_true cm
           have q562 : x17_8 < (x10_8.length : Int) := of_decide_eq_true cm
           obtain ⟨ad562, e562, hx562_0⟩ := Kd.dD (Kd.cQ HO_10.out).2.2 x17_8 p562 q562
           cases e562
           replace p562 := eq_true p562
           replace q562 := eq_true q562
           have p63 : 0 ≤ ((rd x10_8 x17_8) : Int) := of_decide_eq_true cm
           have q63 : ((rd x10_8 x17_8) : Int) < ((x14_8.length : Int) : Int) := of_decide_eq_true cm
           obtain ⟨go63, co63, eo63, gb63, gl63, cl63, HG63⟩ := Kd.rL HO_14.out (by omega)
           (first | cases eo63 | (injection eo63 with ea_ en_ ec_; (first | subst ea_ | (injection ea_ with ea_; subst ea_)); subst ec_; clear en_))
           have GB63 := ab.mk gb63
           have GG63 := ab.mk HG63
           clear gb63 gl63 HG63
           obtain ⟨hx63_0, hf63_0⟩ := Kd.kz 0 HO_14.out ((rd x10_8 x17_8) : Int) p63 q63
           replace p63 := eq_true p63
           replace q63 := eq_true q63
           have HP65 := Kd.pg HO_14.out ((rd x10_8 x17_8) : Int) x17_8
           go_wp2_with (first | ((with_reducible refine jq (t := 2) (p := 140) rfl ?_); refine iC (t := 2) (p := 140) (v := ?vo_w66) (w1 := (wc.setCell ⟨go63, ((rd x10_8 x17_8) : Int).toNat, none⟩ (.int .i64 x17_8))) ?hg ?ho ?hn ?hr ?_; (case ho => rfl); (case hg => rfl); (case hn => rfl); (case hr => exact qf); intro w66 hw; have hg : wc.grownBy w66 (some go63) := (by rw [hw]; exact HP65.2); have hp_ : Kd.R (Kd.int .i64) 2 w66 w.heap.size (fun k_ => some k_ ≠ (.slice (some ad562) x10_8.length co64 : Value).ownBlock) (.slice (some ⟨go63, 0, none⟩) x14_8.length co63) y563 := (by rw [hw, Ny563.out]; exact HP65.1); clear HP65; have n0_ := ab.mk (Kd.kB (v := (.slice (some ⟨go63, 0, none⟩) x14_8.length co63)) (v1 := (.slice (some ⟨go63, 0, none⟩) x14_8.length co63)) (ok := (fun k_ => some k_ ≠ (.slice (some ad562) x10_8.length co64 : Value).ownBlock)) F6 hg (.inl rfl)); have n1_ := ab.mk (Kd.n4 (v := (.slice (some ⟨go63, 0, none⟩) x14_8.length co63)) (v1 := (.slice (some ⟨go63, 0, none⟩) x14_8.length co63)) (ok := (fun _ => True)) zq9 hg (.inl rfl)); have n2_ := ab.mk (hp_); have n3_ := ab.mk ((by rw [hw]; exact mI (HB.out) GB63.out : Below w.heap.size w w66)); clear HO_9; clear HO_10; clear HO_14; clear HB; have HO_9 := n0_; have HO_10 := n1_; have HO_14 := n2_; have HB := n3_; clear n0_ n1_ n2_ n3_; clear hg hw hp_))
           go_meet
           case rel => exact ⟨_, (y563), H', ⟨by have := HJ3.out; have := HK2.out; have := HK3.out; have := HK4.out; have := HK5.out; have := HK6.out; have := HK7.out; have := HK8.out; have := HJ46.out; first | omega | exact Nat.le_refl _⟩, ⟨by (with_reducible repeat (first | apply Kd.S_alloc | apply Kd.bN | apply Kd.b9)); exact HO_9.out⟩, ⟨by (with_reducible repeat (first | apply Kd.R_alloc | apply Kd.bt | apply Kd.bV)); exact Kd.cr HO_10.out (fun _ hk => hk.2)⟩, ⟨by (with_reducible repeat (first | apply Kd.R_alloc | apply Kd.bt | apply Kd.bV)); exact HO_14.out⟩, ⟨by repeat (first | (with_reducible first | exact HB.out | apply a6 | apply aG | apply a9) | exact HB.out)⟩⟩
          clear HC57
          obtain ⟨kq, x14_56, HA, HJ56, HO_9, HO_10, HO_14, HB⟩ := hcut
          cases kq with
          | zero => exact absurd HA.out (by simp [aa.j9])
          | succ kj56 =>
           have H := HA.out
           clear HA
           simp only [aa.j9] at H
           have HC67 := ab.mk H
           clear H
           go_upto_region 34 with (fail)
           go_cut [160] (fun v160 wc => ∃ (kq : Nat) (x160_66 : Bool), v160 = .bool x160_66 ∧ ab (aa.j10 kq a0 a1 l2 x9_5 x10_8 x13_5 x14_56 x16_7 x17_8 x160_66 = some (r1, r2)) ∧ ab (kq ≤ kj56) ∧ ab (Kd.S (Kd.slice 2 (Kd.int .i64)) 29 wc w.heap.size (fun k_ => some k_ ≠ (u10 : Value).ownBlock ∧ some k_ ≠ (u14 : Value).ownBlock) u9 x9_5) ∧ ab (Kd.R (Kd.int .i64) 2 wc w.heap.size (fun k_ => some k_ ≠ (u14 : Value).ownBlock) u10 x10_8) ∧ ab (Kd.R (Kd.int .i64) 2 wc w.heap.size (fun k_ => some k_ ≠ (u10 : Value).ownBlock) u14 x14_56) ∧ ab (Below w.heap.size w wc))
           case first =>
            have H := HC67.out
            clear HC67
            by_cases c68 : x16_7 = 1
            rotate_left
            ·rw [if_neg c68] at H
             have c68b0 : (x16_7 == 1) = false := beq_eq_false_iff_ne.mpr c68
             have c68b1 : (x16_7 != 1) = true := bne_iff_ne.mpr c68
             (first | rw [c68b0] | (simp only [fE]; rw [c68b0]) | skip)
             have H' := ab.mk H
             clear H
             go_wp2
             go_meet
             case rel => exact ⟨_, (false), dQ, H', ⟨by have := HJ3.out; have := HK2.out; have := HK3.out; have := HK4.out; have := HK5.out; have := HK6.out; have := HK7.out; have := HK8.out; have := HJ46.out; have := HJ56.out; first | omega | exact Nat.le_refl _⟩, ⟨by (with_reducible repeat (first | apply Kd.S_alloc | apply Kd.bN | apply Kd.b9)); exact HO_9.out⟩, ⟨by (with_reducible repeat (first | apply Kd.R_alloc | apply Kd.bt | apply Kd.bV)); exact HO_10.out⟩, ⟨by (with_reducible repeat (first | apply Kd.R_alloc | apply Kd.bt | apply Kd.bV)); exact HO_14.out⟩, ⟨by repeat (first | (with_reducible first | exact HB.out | apply a6 | apply aG | apply a9) | exact HB.out)⟩⟩
            rw [if_pos c68] at H
            have c68b0 : (x16_7 == 1) = true := beq_iff_eq.mpr c68
            have c68b1 : (x16_7 != 1) = false := bne_eq_false_iff_eq.mpr c68
            clear c68
            (first | rw [c68b0] | (simp only [fE]; rw [c68b0]) | skip)
            by_cases c69 : 0 ≤ x17_8
            rotate_left
            ·rw [if_neg c69] at H
             exact absurd H (by simp)
            rw [if_pos c69] at H
            have c69b0 : decide (0 ≤ x17_8) = true := decide_eq_true c69
            clear c69
            by_cases c70 : x17_8 < (x10_8.length : Int)
            rotate_left
            ·rw [if_neg c70] at H
             exact absurd H (by simp)
            rw [if_pos c70] at H
            have c70b0 : decide (x17_8 < (x10_8.length : Int)) = true := decide_eq_true c70
            clear c70
            by_cases c71 : (rd x10_8 x17_8) < 0
            ·rw [if_pos c71] at H
             have c71b0 : decide ((rd x10_8 x17_8) < 0) = true := decide_eq_true c71
             clear c71
             have H' := ab.mk H
             clear H
             obtain ⟨Ao72, co72, eo72⟩ := Kd.eZ HO_10.out
             subst eo72
             have p564 : 0 ≤ (x17_8 : Int) := of_decide_eq_true cm
             have q564 : x17_8 < (x10_8.length : Int) := of_decide_eq_true cm
             obtain ⟨ad564, e564, hx564_0⟩ := Kd.dD (Kd.cQ HO_10.out).2.2 x17_8 p564 q564
             cases e564
             replace p564 := eq_true p564
             replace q564 := eq_true q564
             go_wp2
             go_meet
             case rel => exact ⟨_, (true), dQ, H', ⟨by have := HJ3.out; have := HK2.out; have := HK3.out; have := HK4.out; have := HK5.out; have := HK6.out; have := HK7.out; have := HK8.out; have := HJ46.out; have := HJ56.out; first | omega | exact Nat.le_refl _⟩, ⟨by (with_reducible repeat (first | apply Kd.S_alloc | apply Kd.bN | apply Kd.b9)); exact HO_9.out⟩, ⟨by (with_reducible repeat (first | apply Kd.R_alloc | apply Kd.bt | apply Kd.bV)); exact HO_10.out⟩, ⟨by (with_reducible repeat (first | apply Kd.R_alloc | apply Kd.bt | apply Kd.bV)); exact HO_14.out⟩, ⟨by repeat (first | (with_reducible first | exact HB.out | apply a6 | apply aG | apply a9) | exact HB.out)⟩⟩
            rw [if_neg c71] at H
            have c71b0 : decide ((rd x10_8 x17_8) < 0) = false := decide_eq_false c71
            clear c71
            by_cases c73 : 0 ≤ (rd x10_8 x17_8)
            rotate_left
            ·rw [if_neg c73] at H
             exact absurd H (by simp)
            rw [if_pos c73] at H
            have c73b0 : decide (0 ≤ (rd x10_8 x17_8)) = true := decide_eq_true c73
            clear c73
            by_cases c74 : (rd x10_8 x17_8) < (x14_56.length : Int)
            rotate_left
            ·rw [if_neg c74] at H
             exact absurd H (by simp)
            rw [if_pos c74] at H
            have c74b0 : decide ((rd x10_8 x17_8) < (x14_56.length : Int)) = true := decide_eq_true c74
            clear c74
            have H' := ab.mk H
            clear H
            obtain ⟨Ao75, co75, eo75⟩ := Kd.eZ HO_10.out
            subst eo75
            have p564 : 0 ≤ (x17_8 : Int) := of_decide_eq_true cm
            have q564 : x17_8 < (x10_8.length : Int) := of_decide_eq_true cm
            obtain ⟨ad564, e564, hx564_0⟩ := Kd.dD (Kd.cQ HO_10.out).2.2 x17_8 p564 q564
            cases e564
            replace p564 := eq_true p564
            replace q564 := eq_true q564
            have p565 : 0 ≤ (x17_8 : Int) := of_decide_eq_true cm
            have q565 : x17_8 < (x10_8.length : Int) := of_decide_eq_true cm
            obtain ⟨ad565, e565, hx565_0⟩ := Kd.dD (Kd.cQ HO_10.out).2.2 x17_8 p565 q565
            obtain rfl : ad564 = ad565 := (by injection e565)
            replace p565 := eq_true p565
            replace q565 := eq_true q565
            obtain ⟨Ao76, co76, eo76⟩ := Kd.eZ HO_14.out
            subst eo76
            have p566 : 0 ≤ ((rd x10_8 x17_8) : Int) := of_decide_eq_true cm
            have q566 : (rd x10_8 x17_8) < (x14_56.length : Int) := of_decide_eq_true cm
            obtain ⟨ad566, e566, hx566_0⟩ := Kd.dD (Kd.cQ HO_14.out).2.2 (rd x10_8 x17_8) p566 q566
            cases e566
            replace p566 := eq_true p566
            replace q566 := eq_true q566
            go_wp2
            go_meet
            case rel => exact ⟨_, (((rd x14_56 (rd x10_8 x17_8)) != x17_8)), dQ, H', ⟨by have := HJ3.out; have := HK2.out; have := HK3.out; have := HK4.out; have := HK5.out; have := HK6.out; have := HK7.out; have := HK8.out; have := HJ46.out; have := HJ56.out; first | omega | exact Nat.le_refl _⟩, ⟨by (with_reducible repeat (first | apply Kd.S_alloc | apply Kd.bN | apply Kd.b9)); exact HO_9.out⟩, ⟨by (with_reducible repeat (first | apply Kd.R_alloc | apply Kd.bt | apply Kd.bV)); exact HO_10.out⟩, ⟨by (with_reducible repeat (first | apply Kd.R_alloc | apply Kd.bt | apply Kd.bV)); exact HO_14.out⟩, ⟨by repeat (first | (with_reducible first | exact HB.out | apply a6 | apply aG | apply a9) | exact HB.out)⟩⟩
           clear HC67
           obtain ⟨kq, x160_66, rfl, HA, HJ66, HO_9, HO_10, HO_14, HB⟩ := hcut
           cases kq with
           | zero => exact absurd HA.out (by simp [aa.j10])
           | succ kj66 =>
            have H := HA.out
            clear HA
            simp only [aa.j10] at H
            by_cases c77 : x160_66 = true
            rotate_left
            ·replace c77 := Bool.eq_false_iff.mpr c77
             subst c77
             have H1 : (aa.l6 kj66 a0 a1 l2 x9_5 x10_8 x13_5 x14_56 x16_7 (wrap64 (x17_8 + 1))) = some (r1, r2) := by rw [if_neg (show ¬ (false = true) by decide)] at H; exact H
             clear H
             have H := H1
             clear H1
             have H' := ab.mk H
             clear H
             go_wp2
             go_roundg kj66
             case measure => have := HJ3.out; have := HK2.out; have := HK3.out; have := HK4.out; have := HK5.out; have := HK6.out; have := HK7.out; have := HK8.out; have := HJ46.out; have := HJ56.out; have := HJ66.out; omega
             case rel => exact ⟨(x10_8), (x14_56), (wrap64 (x17_8 + 1)), dQ, H', ⟨by have := HJ3.out; have := HK2.out; have := HK3.out; have := HK4.out; have := HK5.out; have := HK6.out; have := HK7.out; have := HK8.out; have := HJ46.out; have := HJ56.out; have := HJ66.out; omega⟩, ⟨by (with_reducible repeat (first | apply Kd.S_alloc | apply Kd.bN | apply Kd.b9)); exact HO_9.out⟩, ⟨by (with_reducible repeat (first | apply Kd.R_alloc | apply Kd.bt | apply Kd.bV)); exact HO_10.out⟩, ⟨by (with_reducible repeat (first | apply Kd.R_alloc | apply Kd.bt | apply Kd.bV)); exact HO_14.out⟩, ⟨by repeat (first | (with_reducible first | exact HB.out | apply a6 | apply aG | apply a9) | exact HB.out)⟩⟩
            subst c77
            have H1 : (aa.l7 kj66 a0 a1 l2 x9_5 x10_8 x13_5 x14_56 x16_7 x17_8 0) = some (r1, r2) := by rw [if_pos rfl] at H; exact H
            clear H
            have H := H1
            clear H1
            have H' := ab.mk H
            clear H
            go_wp2
            go_loopg [18] kj66 (fun kq v18 w' => ∃ (x18_12 : Int), v18 = .int .i64 x18_12 ∧ ab (aa.l7 kq a0 a1 l2 x9_5 x10_8 x13_5 x14_56 x16_7 x17_8 x18_12 = some (r1, r2)) ∧ ab (kq ≤ kj66) ∧ ab (Kd.S (Kd.slice 2 (Kd.int .i64)) 29 w' w.heap.size (fun k_ => some k_ ≠ (u10 : Value).ownBlock ∧ some k_ ≠ (u14 : Value).ownBlock) u9 x9_5) ∧ ab (Kd.R (Kd.int .i64) 2 w' w.heap.size (fun k_ => some k_ ≠ (u14 : Value).ownBlock) u10 x10_8) ∧ ab (Kd.R (Kd.int .i64) 2 w' w.heap.size (fun k_ => some k_ ≠ (u10 : Value).ownBlock) u14 x14_56) ∧ ab (Below w.heap.size w w'))
            case atStart => exact ⟨(0), dQ, H', ⟨Nat.le_refl _⟩, ⟨by (with_reducible repeat (first | apply Kd.S_alloc | apply Kd.bN | apply Kd.b9)); exact HO_9.out⟩, ⟨by (with_reducible repeat (first | apply Kd.R_alloc | apply Kd.bt | apply Kd.bV)); exact HO_10.out⟩, ⟨by (with_reducible repeat (first | apply Kd.R_alloc | apply Kd.bt | apply Kd.bV)); exact HO_14.out⟩, ⟨by repeat (first | (with_reducible first | exact HB.out | apply a6 | apply aG | apply a9) | exact HB.out)⟩⟩
            clear H'
            obtain ⟨x18_12, rfl, HA, HK12, HO_9, HO_10, HO_14, HB⟩ := hrel
            cases gk with
            | zero => exact absurd HA.out (by simp [aa.l7])
            | succ k12 => as_aux_lemma =>
             have H := HA.out
             clear HA
             simp only [aa.l7] at H
             by_cases c78 : 0 ≤ x18_12
             rotate_left
             ·rw [if_neg c78] at H
              exact absurd H (by simp)
             rw [if_pos c78] at H
             have c78b0 : decide (0 ≤ x18_12) = true := decide_eq_true c78
             clear c78
             by_cases c79 : x18_12 < (x14_56.length : Int)
             rotate_left
             ·rw [if_neg c79] at H
              exact absurd H (by simp)
             rw [if_pos c79] at H
             have c79b0 : decide (x18_12 < (x14_56.length : Int)) = true := decide_eq_true c79
             clear c79
             by_cases c80 : (rd x14_56 x18_12) ≥ 0
             ·rw [if_pos c80] at H
              have c80b0 : decide (0 ≤ (rd x14_56 x18_12)) = true := decide_eq_true c80
              clear c80
              have H' := ab.mk H
              clear H
              obtain ⟨Ao81, co81, eo81⟩ := Kd.eZ HO_14.out
              subst eo81
              have p567 : 0 ≤ (x18_12 : Int) := of_decide_eq_true cm
              have q567 : x18_12 < (x14_56.length : Int) := of_decide_eq_true cm
              obtain ⟨ad567, e567, hx567_0⟩ := Kd.dD (Kd.cQ HO_14.out).2.2 x18_12 p567 q567
              cases e567
              replace p567 := eq_true p567
              replace q567 := eq_true q567
              go_wp2
              go_roundg k12
              case measure => have := HJ3.out; have := HK2.out; have := HK3.out; have := HK4.out; have := HK5.out; have := HK6.out; have := HK7.out; have := HK8.out; have := HJ46.out; have := HJ56.out; have := HJ66.out; have := HK12.out; omega
              case rel => exact ⟨(wrap64 (x18_12 + 1)), dQ, H', ⟨by have := HJ3.out; have := HK2.out; have := HK3.out; have := HK4.out; have := HK5.out; have := HK6.out; have := HK7.out; have := HK8.out; have := HJ46.out; have := HJ56.out; have := HJ66.out; have := HK12.out; omega⟩, ⟨by (with_reducible repeat (first | apply Kd.S_alloc | apply Kd.bN | apply Kd.b9)); exact HO_9.out⟩, ⟨by (with_reducible repeat (first | apply Kd.R_alloc | apply Kd.bt | apply Kd.bV)); exact HO_10.out⟩, ⟨by (with_reducible repeat (first | apply Kd.R_alloc | apply Kd.bt | apply Kd.bV)); exact HO_14.out⟩, ⟨by repeat (first | (with_reducible first | exact HB.out | apply a6 | apply aG | apply a9) | exact HB.out)⟩⟩
             rw [if_neg c80] at H
             have c80b0 : decide (0 ≤ (rd x14_56 x18_12)) = false := decide_eq_false c80
             clear c80
             obtain ⟨y568, hy568⟩ : ∃ y_ : List Int, y_ = (x14_56.set (x18_12 : Int).toNat x17_8) := ⟨_, rfl⟩
             replace H : (if 0 ≤ x17_8 then (if x17_8 < (x10_8.length : Int) then (aa.l6 k12 a0 a1 l2 x9_5 (x10_8.set (x17_8 : Int).toNat x18_12) x13_5 y568 x16_7 (wrap64 (x17_8 + 1))) else (none)) else (none)) = some (r1, r2) := by first | (rw [hy568]; with_reducible exact H) | (have H2_ := (Option.bind_some _ _).symm.trans H; rw [hy568]; with_reducible exact H2_) | (have H2_ := (Option.bind_some _ _).symm.trans H; with_reducible exact H2_) | with_reducible exact H | (rw [hy568]; exact H) | exact H
             have Ny568 := ab.mk hy568
             clear hy568
             by_cases c83 : 0 ≤ x17_8
             rotate_left
             ·rw [if_neg c83] at H
              exact absurd H (by simp)
             rw [if_pos c83] at H
             have c83b0 : decide (0 ≤ x17_8) = true := decide_eq_true c83
             clear c83
             by_cases c84 : x17_8 < (x10_8.length : Int)
             rotate_left
             ·rw [if_neg c84] at H
              exact absurd H (by simp)
             rw [if_pos c84] at H
             have c84b0 : decide (x17_8 < (x10_8.length : Int)) = true := decide_eq_true c84
             clear c84
             obtain ⟨y569, hy569⟩ : ∃ y_ : List Int, y_ = (x10_8.set (x17_8 : Int).toNat x18_12) := ⟨_, rfl⟩
             replace H : (aa.l6 k12 a0 a1 l2 x9_5 y569 x13_5 y568 x16_7 (wrap64 (x17_8 + 1))) = some (r1, r2) := by first | (rw [hy569]; with_reducible exact H) | (have H2_ := (Option.bind_some _ _).symm.trans H; rw [hy569]; with_reducible exact H2_) | (have H2_ := (Option.bind_some _ _).symm.trans H; with_reducible exact H2_) | with_reducible exact H | (rw [hy569]; exact H) | exact H
             have Ny569 := ab.mk hy569
             clear hy569
             have H' := ab.mk H
             clear H
             obtain ⟨Ao86, co86, eo86⟩ := Kd.eZ HO_14.out
             subst eo86
             have p567 : 0 ≤ (x18_12 : Int) := of_decide_eq_true cm
             have q567 : x18_12 < (x14_56.length : Int) := of_decide_eq_true cm
             obtain ⟨ad567, e567, hx567_0⟩ := Kd.dD (Kd.cQ HO_14.out).2.2 x18_12 p567 q567
             cases e567
             replace p567 := eq_true p567
             replace q567 := eq_true q567
             have p82 : 0 ≤ (x18_12 : Int) := of_decide_eq_true cm
             have q82 : (x18_12 : Int) < ((x14_56.length : Int) : Int) := of_decide_eq_true cm
             obtain ⟨go82, co82, eo82, gb82, gl82, cl82, HG82⟩ := Kd.rL HO_14.out (by omega)
             (first | cases eo82 | (injection eo82 with ea_ en_ ec_; (first | subst ea_ | (injection ea_ with ea_; subst ea_)); subst ec_; clear en_))
             have GB82 := ab.mk gb82
             have GG82 := ab.mk HG82
             clear gb82 gl82 HG82
             (first | simp only [add_plain] at hx567_0 | skip)
             obtain ⟨hx82_0, hf82_0⟩ := Kd.kz 0 HO_14.out (x18_12 : Int) p82 q82
             replace p82 := eq_true p82
             replace q82 := eq_true q82
             have HP87 := Kd.pg HO_14.out (x18_12 : Int) x17_8
             go_wp2_with (first | ((with_reducible refine jq (t := 2) (p := 171) rfl ?_); refine iC (t := 2) (p := 171) (v := ?vo_w88) (w1 := (wr.setCell ⟨go82, (x18_12 : Int).toNat, none⟩ (.int .i64 x17_8))) ?hg ?ho ?hn ?hr ?_; (case ho => rfl); (case hg => rfl); (case hn => rfl); (case hr => exact qf); intro w88 hw; have hg : wr.grownBy w88 (some go82) := (by rw [hw]; exact HP87.2); have hp_ : Kd.R (Kd.int .i64) 2 w88 w.heap.size (fun k_ => some k_ ≠ (u10 : Value).ownBlock) (.slice (some ⟨go82, 0, none⟩) x14_56.length co86) y568 := (by rw [hw, Ny568.out]; exact HP87.1); clear HP87; have n0_ := ab.mk (Kd.kB (v := (.slice (some ⟨go82, 0, none⟩) x14_56.length co86)) (v1 := (.slice (some ⟨go82, 0, none⟩) x14_56.length co86)) (ok := (fun k_ => some k_ ≠ (u10 : Value).ownBlock)) F6 hg (.inl rfl)); have n1_ := ab.mk (Kd.n4 (v := (.slice (some ⟨go82, 0, none⟩) x14_56.length co86)) (v1 := (.slice (some ⟨go82, 0, none⟩) x14_56.length co86)) (ok := (fun _ => True)) zq9 hg (.inl rfl)); have n2_ := ab.mk (hp_); have n3_ := ab.mk ((by rw [hw]; exact mI (HB.out) GB82.out : Below w.heap.size w w88)); clear HO_9; clear HO_10; clear HO_14; clear HB; have HO_9 := n0_; have HO_10 := n1_; have HO_14 := n2_; have HB := n3_; clear n0_ n1_ n2_ n3_; clear hg hw hp_; have p85 : 0 ≤ (x17_8 : Int) := of_decide_eq_true cm; have q85 : (x17_8 : Int) < ((x10_8.length : Int) : Int) := of_decide_eq_true cm; obtain ⟨go85, co85, eo85, gb85, gl85, cl85, HG85⟩ := Kd.rL HO_10.out (by omega); (first | cases eo85 | (injection eo85 with ea_ en_ ec_; (first | subst ea_ | (injection ea_ with ea_; subst ea_)); subst ec_; clear en_)); have GB85 := ab.mk gb85; have GG85 := ab.mk HG85; clear gb85 gl85 HG85; obtain ⟨hx85_0, hf85_0⟩ := Kd.kz 0 HO_10.out (x17_8 : Int) p85 q85; replace p85 := eq_true p85; replace q85 := eq_true q85; have n_ := ab.mk (Kd.cr (ok' := (fun k_ => some k_ ≠ (.slice (some ⟨go82, 0, none⟩) x14_56.length co86 : Value).ownBlock)) HO_10.out (fun k_ hk => hk.2)); clear HO_10; have HO_10 := n_; clear n_; obtain ⟨hy89_, hz89_⟩ := Kd.kz 0 HO_10.out (x17_8 : Int) (of_decide_eq_true cm) (of_decide_eq_true cm); have HP89 := Kd.pg HO_10.out (x17_8 : Int) x18_12) | ((with_reducible refine jq (t := 2) (p := 175) rfl ?_); refine iC (t := 2) (p := 175) (v := ?vo_w90) (w1 := (w88.setCell ⟨go85, (x17_8 : Int).toNat, none⟩ (.int .i64 x18_12))) ?hg ?ho ?hn ?hr ?_; (case ho => rfl); (case hg => rfl); (case hn => rfl); (case hr => exact qf); intro w90 hw; have hg : w88.grownBy w90 (some go85) := (by rw [hw]; exact HP89.2); have hp_ : Kd.R (Kd.int .i64) 2 w90 w.heap.size (fun k_ => some k_ ≠ (.slice (some ⟨go82, 0, none⟩) x14_56.length co86 : Value).ownBlock) (.slice (some ⟨go85, 0, none⟩) x10_8.length co85) y569 := (by rw [hw, Ny569.out]; exact HP89.1); clear HP89; have n0_ := ab.mk (Kd.kB (v := (.slice (some ⟨go85, 0, none⟩) x10_8.length co85)) (v1 := (.slice (some ⟨go85, 0, none⟩) x10_8.length co85)) (ok := (fun k_ => some k_ ≠ (.slice (some ⟨go82, 0, none⟩) x14_56.length co86 : Value).ownBlock)) (by (with_reducible repeat (first | apply Kd.S_alloc | apply Kd.bN | apply Kd.b9)); exact Kd.ei HO_9.out (fun _ hk => ⟨hk.2, hk.1⟩)) hg (.inl rfl)); have n1_ := ab.mk (hp_); have n2_ := ab.mk (Kd.n4 (v := (.slice (some ⟨go85, 0, none⟩) x10_8.length co85)) (v1 := (.slice (some ⟨go85, 0, none⟩) x10_8.length co85)) (ok := (fun _ => True)) (by (with_reducible repeat (first | apply Kd.R_alloc | apply Kd.bt | apply Kd.bV)); exact Kd.cr HO_14.out (fun _ hk => ⟨trivial, hk⟩)) hg (.inl rfl)); have n3_ := ab.mk ((by rw [hw]; exact mI (HB.out) GB85.out : Below w.heap.size w w90)); clear HO_9; clear HO_10; clear HO_14; clear HB; have HO_9 := n0_; have HO_10 := n1_; have HO_14 := n2_; have HB := n3_; clear n0_ n1_ n2_ n3_; clear hg hw hp_))
             go_roundg k12
             case measure => have := HJ3.out; have := HK2.out; have := HK3.out; have := HK4.out; have := HK5.out; have := HK6.out; have := HK7.out; have := HK8.out; have := HJ46.out; have := HJ56.out; have := HJ66.out; have := HK12.out; omega
             case rel => exact ⟨(y569), (y568), (wrap64 (x17_8 + 1)), dQ, H', ⟨by have := HJ3.out; have := HK2.out; have := HK3.out; have := HK4.out; have := HK5.out; have := HK6.out; have := HK7.out; have := HK8.out; have := HJ46.out; have := HJ56.out; have := HJ66.out; have := HK12.out; omega⟩, ⟨by (with_reducible repeat (first | apply Kd.S_alloc | apply Kd.bN | apply Kd.b9)); exact Kd.ei HO_9.out (fun _ hk => ⟨hk.2, hk.1⟩)⟩, ⟨by (with_reducible repeat (first | apply Kd.R_alloc | apply Kd.bt | apply Kd.bV)); exact HO_10.out⟩, ⟨by (with_reducible repeat (first | apply Kd.R_alloc | apply Kd.bt | apply Kd.bV)); exact Kd.cr HO_14.out (fun _ hk => hk.2)⟩, ⟨by repeat (first | (with_reducible first | exact HB.out | apply a6 | apply aG | apply a9) | exact HB.out)⟩⟩
end Go.Proofs.Ytcbhhbkghbnljaa.K
