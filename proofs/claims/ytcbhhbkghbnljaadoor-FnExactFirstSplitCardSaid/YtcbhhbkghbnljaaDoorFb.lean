/- What the functions of program, reference and law give, as plain functions, and that they meet them (part 2). Conditions: none. Written by a program of my own (vp.py). -/
import Derived.Test.YtcbhhbkghbnljaaDoorDa
set_option linter.unusedVariables false
set_option maxRecDepth 100000
noncomputable section
namespace Go.Proofs.YtcbhhbkghbnljaaDoor.Vf
open Go Go.V Go.RowKit Go.Proofs
abbrev O8 := Option (Bool)
abbrev T8_0 (R : Type) := (List Int) → (List Int) → Int → R
def laws_eqInt64S.s0 (k : Nat) (r0 : T8_0 O8) : T8_0 O8 := fun x0 x1 x5 => if x5 < x0.length then (if 0 ≤ x5 then (if x5 < x0.length then (if 0 ≤ x5 then (if x5 < x1.length then (if (rd x0 x5) = (rd x1 x5) then (r0 x0 x1 (wrap64 (x5 + 1))) else (some false)) else none) else none) else none) else none) else (some true)
def laws_eqInt64S.l0 (k : Nat) : Nat → T8_0 O8
  | 0 => Z3
  | n + 1 => laws_eqInt64S.s0 k (laws_eqInt64S.l0 k n)
def laws_eqInt64S.g (k : Nat) (r0 : T8_0 O8) (l0 : List Int) (l1 : List Int) : Option (Bool) := if (l0.length : Int) = (l1.length : Int) then (r0 l0 l1 0) else (some false)
def laws_eqInt64S.f (k : Nat) (l0 : List Int) (l1 : List Int) : Option (Bool) := laws_eqInt64S.g k (laws_eqInt64S.l0 k k) l0 l1
def S8 (k : Nat) : Does := ⟨[sL, sL], [sB], U2 (laws_eqInt64S.f k)⟩
def E8 (k : Nat) : En := ⟨tb, orcOf [], lvOf [(0, lz [0, 1, 5])], k, 0, lvOf [], []⟩
def n8_0 : T8_0 St := fun x0 x1 x5 => ⟨26, lookA [(0, aL x0), (1, aL x1), (5, aI x5)], Go.V.look []⟩
def p8_0 : List Bool := [t', t', f', t', f']
def L8 (k : Nat) (p : List Bool) (r : List (St → O8)) : Nat → St → O8 := loopF (E8 k) (S8 k) Tryd.f8 p r
theorem r8_0 (k) (rec : St → O8) (v) : roundF (E8 k) (S8 k) Tryd.f8 p8_0 [] rec (U3 n8_0 v) = U3 (laws_eqInt64S.s0 k (W3 rec n8_0)) v := by kernel_rfl
theorem q8_0 (k) (n) : W3 (L8 k p8_0 [] n) n8_0 = laws_eqInt64S.l0 k n :=
  u3 (lq (E8 k) (S8 k) (fun rec => U3 (laws_eqInt64S.s0 k (C3 rec))) (fun n => U3 (laws_eqInt64S.l0 k n)) (r8_0 k) n)
theorem M8 (k) : Meets Tryd.prog 8 (S8 k) := mo Tryd.func8 on fun x => (show funK (E8 k) (S8 k) Tryd.f8 x = laws_eqInt64S.g k (W3 (L8 k p8_0 [] k) n8_0) x.1 x.2 by kernel_rfl).trans (by rw [q8_0]; rfl)
def laws_eqTasks.f (k : Nat) (l0_0 : List Int) (l1_0 : List Int) : Option (Bool) := (laws_eqInt64S.f k l0_0 l1_0).bind fun t1 => if t1 = true then (some true) else (some false)
def S9 (k : Nat) : Does := ⟨[sT, sT], [sB], U2 (laws_eqTasks.f k)⟩
def E9 (k : Nat) : En := ⟨tb, orcOf [(8, S8 k)], lvOf [], k, 0, lvOf [], []⟩
theorem M9 (k) : Meets Tryd.prog 9 (S9 k) := mo Tryd.func9 (oc (M8 k) on) fun x => (by kernel_rfl : funK (E9 k) (S9 k) Tryd.f9 x = (S9 k).fn x)
abbrev O11 := Option (Int × (List Int))
abbrev T11_0 (R : Type) := (List Int) → Int → Int → R
def laws_markInt64S.s0 (k : Nat) (r0 : T11_0 O11) : T11_0 O11 := fun x0 x1 x5 => if x5 < x0.length then (if 0 ≤ x5 then (if x5 < x0.length then (r0 (x0.set x5.toNat x1) (wrap64 (x1 + 1)) (wrap64 (x5 + 1))) else none) else none) else (some (x1, x0))
def laws_markInt64S.l0 (k : Nat) : Nat → T11_0 O11
  | 0 => Z3
  | n + 1 => laws_markInt64S.s0 k (laws_markInt64S.l0 k n)
def laws_markInt64S.g (k : Nat) (r0 : T11_0 O11) (l0 : List Int) (a1 : Int) : Option (Int × (List Int)) := r0 l0 a1 0
def laws_markInt64S.f (k : Nat) (l0 : List Int) (a1 : Int) : Option (Int × (List Int)) := laws_markInt64S.g k (laws_markInt64S.l0 k k) l0 a1
def S11 (k : Nat) : Does := ⟨[(false, [.own 2 (.int .i64)]), sI], [sI], U2 (laws_markInt64S.f k)⟩
def E11 (k : Nat) : En := ⟨tb, orcOf [], lvOf [(0, lz [0, 1, 5])], k, 1, lvOf [], []⟩
def n11_0 : T11_0 St := fun x0 x1 x5 => ⟨19, lookA [(0, .own 0), (1, aI x1), (5, aI x5)], Go.V.look [(0, .flat 2 (.int .i64) x0)]⟩
def p11_0 : List Bool := [t', f', t', f']
def L11 (k : Nat) (p : List Bool) (r : List (St → O11)) : Nat → St → O11 := loopF (E11 k) (S11 k) Tryd.f11 p r
theorem r11_0 (k) (rec : St → O11) (v) : roundF (E11 k) (S11 k) Tryd.f11 p11_0 [] rec (U3 n11_0 v) = U3 (laws_markInt64S.s0 k (W3 rec n11_0)) v := by kernel_rfl
theorem q11_0 (k) (n) : W3 (L11 k p11_0 [] n) n11_0 = laws_markInt64S.l0 k n :=
  u3 (lq (E11 k) (S11 k) (fun rec => U3 (laws_markInt64S.s0 k (C3 rec))) (fun n => U3 (laws_markInt64S.l0 k n)) (r11_0 k) n)
theorem M11 (k) : Meets Tryd.prog 11 (S11 k) := mo Tryd.func11 on fun x => (show funK (E11 k) (S11 k) Tryd.f11 x = laws_markInt64S.g k (W3 (L11 k p11_0 [] k) n11_0) x.1 x.2 by kernel_rfl).trans (by rw [q11_0]; rfl)
def laws_markTasks.f (k : Nat) (l0_0 : List Int) (a1 : Int) : Option (Int × (List Int)) := (laws_markInt64S.f k l0_0 a1).bind fun t1 => some (t1.1, t1.2)
def S10 (k : Nat) : Does := ⟨[(true, [.own 2 (.int .i64)]), sI], [sI], U2 (laws_markTasks.f k)⟩
def E10 (k : Nat) : En := ⟨tb, orcOf [(11, S11 k)], lvOf [], k, 1, lvOf [], []⟩
theorem M10 (k) : Meets Tryd.prog 10 (S10 k) := mo Tryd.func10 (oc (M11 k) on) fun x => (by kernel_rfl : funK (E10 k) (S10 k) Tryd.f10 x = (S10 k).fn x)
abbrev O12 := Option (Int)
abbrev T12_0 (R : Type) := (List Int) → Int → Int → R
def laws_heldInt64S.s0 (k : Nat) (r0 : T12_0 O12) : T12_0 O12 := fun x0 x1 x5 => if x5 < x0.length then (if 0 ≤ x5 then (if x5 < x0.length then (if (rd x0 x5) = x1 then (r0 x0 (wrap64 (x1 + 1)) (wrap64 (x5 + 1))) else (some (-1))) else none) else none) else (some x1)
def laws_heldInt64S.l0 (k : Nat) : Nat → T12_0 O12
  | 0 => Z3
  | n + 1 => laws_heldInt64S.s0 k (laws_heldInt64S.l0 k n)
def laws_heldInt64S.g (k : Nat) (r0 : T12_0 O12) (l0 : List Int) (a1 : Int) : Option (Int) := r0 l0 a1 0
def laws_heldInt64S.f (k : Nat) (l0 : List Int) (a1 : Int) : Option (Int) := laws_heldInt64S.g k (laws_heldInt64S.l0 k k) l0 a1
def S12 (k : Nat) : Does := ⟨[sL, sI], [sI], U2 (laws_heldInt64S.f k)⟩
def E12 (k : Nat) : En := ⟨tb, orcOf [], lvOf [(0, lz [0, 1, 5])], k, 0, lvOf [], []⟩
def n12_0 : T12_0 St := fun x0 x1 x5 => ⟨21, lookA [(0, aL x0), (1, aI x1), (5, aI x5)], Go.V.look []⟩
def p12_0 : List Bool := [t', f', t', f']
def L12 (k : Nat) (p : List Bool) (r : List (St → O12)) : Nat → St → O12 := loopF (E12 k) (S12 k) Tryd.f12 p r
theorem r12_0 (k) (rec : St → O12) (v) : roundF (E12 k) (S12 k) Tryd.f12 p12_0 [] rec (U3 n12_0 v) = U3 (laws_heldInt64S.s0 k (W3 rec n12_0)) v := by kernel_rfl
theorem q12_0 (k) (n) : W3 (L12 k p12_0 [] n) n12_0 = laws_heldInt64S.l0 k n :=
  u3 (lq (E12 k) (S12 k) (fun rec => U3 (laws_heldInt64S.s0 k (C3 rec))) (fun n => U3 (laws_heldInt64S.l0 k n)) (r12_0 k) n)
theorem M12 (k) : Meets Tryd.prog 12 (S12 k) := mo Tryd.func12 on fun x => (show funK (E12 k) (S12 k) Tryd.f12 x = laws_heldInt64S.g k (W3 (L12 k p12_0 [] k) n12_0) x.1 x.2 by kernel_rfl).trans (by rw [q12_0]; rfl)
def laws_FnExactFirstSplit.f (k : Nat) (l0_0 : List Int) (a1 : Int) : Option (Bool) := (laws_szTasks.f l0_0 1048576).bind fun t1 => if t1 < 0 then (some true) else ((laws_toTasks.f k l0_0).bind fun t2 => (spec_FirstSplit.f k t2 a1).bind fun t3 => (laws_toTasks.f k l0_0).bind fun t4 => (impl_FirstSplit.f k t4 a1).bind fun t5 => (laws_eqInt64S.f k t5.1 t3.1).bind fun t6 => if t6 = true then (if t5.2 = t3.2 then ((laws_toTasks.f k l0_0).bind fun t7 => (laws_eqTasks.f k t4 t7).bind fun t8 => if t8 = true then ((laws_markTasks.f k t4 1).bind fun t9 => if t9.1 < 0 then (some false) else ((laws_eqInt64S.f k t5.1 t3.1).bind fun t10 => if t10 = true then (if t5.2 = t3.2 then ((laws_markInt64S.f k t5.1 1).bind fun t11 => (laws_heldInt64S.f k t11.2 1).bind fun t12 => if t12 < 0 then (some false) else (if t12 = t11.1 then ((laws_toTasks.f k l0_0).bind fun t13 => (impl_FirstSplit.f k t13 a1).bind fun t14 => (laws_eqInt64S.f k t14.1 t3.1).bind fun t15 => if t15 = true then (if t14.2 = t3.2 then ((laws_heldInt64S.f k t11.2 1).bind fun t16 => if t16 < 0 then (some false) else (if t16 = t11.1 then (some true) else (some false))) else (some false)) else (some false)) else (some false))) else (some false)) else (some false))) else (some false)) else (some false)) else (some false))
def S3 (k : Nat) : Does := ⟨[sT, sI], [sB], U2 (laws_FnExactFirstSplit.f k)⟩
def E3 (k : Nat) : En := ⟨tb, orcOf [(4, S4 k), (6, S6 k), (5, S5 k), (7, S7 k), (8, S8 k), (9, S9 k), (10, S10 k), (11, S11 k), (12, S12 k)], lvOf [], k, 0, lvOf [], []⟩
theorem M3 (k) : Meets Tryd.prog 3 (S3 k) := mo Tryd.func3 (oc (M4 k) (oc (M6 k) (oc (M5 k) (oc (M7 k) (oc (M8 k) (oc (M9 k) (oc (M10 k) (oc (M11 k) (oc (M12 k) on))))))))) fun x => (by kernel_rfl : funK (E3 k) (S3 k) Tryd.f3 x = (S3 k).fn x)
end Go.Proofs.YtcbhhbkghbnljaaDoor.Vf
