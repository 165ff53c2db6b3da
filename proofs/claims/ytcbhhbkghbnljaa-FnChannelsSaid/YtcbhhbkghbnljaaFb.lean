/- What the functions of program, reference and laws give, as plain functions, and that they meet them (part 2). Conditions: none. Written by a program of my own (vp.py). -/
import Derived.Test.YtcbhhbkghbnljaaNd
set_option linter.unusedVariables false
set_option maxRecDepth 100000
noncomputable section
namespace Go.Proofs.Ytcbhhbkghbnljaa.Vf
open Go Go.V Go.RowKit Go.Proofs
def dG.f (k : Nat) (l0 : List Int) : Option ((List Int) × (List (List Int))) := (ba.f k l0).bind fun t1 => some (t1.1, t1.2)
def S88 (k : Nat) : bD := ⟨[sU], [sT, sM], dG.f k⟩
def E88 (k : Nat) : En := ⟨tb, bn [(195, Lf k)], aX [], k, 0, aX [], []⟩
theorem M88 (k) : bf Try.prog 88 (S88 k) := mo Try.func88 (oc (Oj k) on) fun x => (by kernel_rfl : cc (E88 k) (S88 k) Try.f88 x = (S88 k).fn x)
def dx.f (l0 : List Int) : Option (Int) := some (l0.length : Int)
def Bj (k : Nat) : bD := ⟨[sL], [sI], dx.f⟩
def PU (k : Nat) : En := ⟨tb, bn [], aX [], k, 0, aX [], []⟩
theorem IZ (k) : bf Try.prog 149 (Bj k) := mo Try.func149 on fun x => (by kernel_rfl : cc (PU k) (Bj k) Try.f149 x = (Bj k).fn x)
def dy.f (l0_0 : List Int) : Option (Int) := (dx.f l0_0).bind fun t1 => some t1
def E7 (k : Nat) : bD := ⟨[sT], [sI], dy.f⟩
def PX (k : Nat) : En := ⟨tb, bn [(149, Bj k)], aX [], k, 0, aX [], []⟩
theorem K9 (k) : bf Try.prog 197 (E7 k) := mo Try.func197 (oc (IZ k) on) fun x => (by kernel_rfl : cc (PX k) (E7 k) Try.f197 x = (E7 k).fn x)
def dj.f (a0 : Int) (a1 : Int) (a2 : Int) : Option (Bool) := if a1 ≤ a0 then (some (decide (a0 ≤ a2))) else (some false)
def qM (k : Nat) : bD := ⟨[sI, sI, sI], [sB], U3 dj.f⟩
def PF (k : Nat) : En := ⟨tb, bn [], aX [], k, 0, aX [], []⟩
theorem wL (k) : bf Try.prog 108 (qM k) := mo Try.func108 on fun x => (by kernel_rfl : cc (PF k) (qM k) Try.f108 x = (qM k).fn x)
def lN.f (a0 : Int) : Option (Bool) := (dj.f a0 1 8).bind fun t1 => some t1
def Jf (k : Nat) : bD := ⟨[sI], [sB], lN.f⟩
def P5 (k : Nat) : En := ⟨tb, bn [(108, qM k)], aX [], k, 0, aX [], []⟩
theorem QG (k) : bf Try.prog 225 (Jf k) := mo Try.func225 (oc (wL k) on) fun x => (by kernel_rfl : cc (P5 k) (Jf k) Try.f225 x = (Jf k).fn x)
def eU.f (l0 : List (List Int)) : Option (Int) := some (l0.length : Int)
def Jg (k : Nat) : bD := ⟨[sM], [sI], eU.f⟩
def P6 (k : Nat) : En := ⟨tb, bn [], aX [], k, 0, aX [], []⟩
theorem QH (k) : bf Try.prog 226 (Jg k) := mo Try.func226 on fun x => (by kernel_rfl : cc (P6 k) (Jg k) Try.f226 x = (Jg k).fn x)
def iE.f (a0 : Int) (a1 : Int) : Option (Bool) := (dj.f a0 (-1) (wrap64 (a1 - 1))).bind fun t1 => some t1
def Je (k : Nat) : bD := ⟨[sI, (false, [.dat (.ptr (.int .i64))])], [sB], U2 iE.f⟩
def P4 (k : Nat) : En := ⟨tb, bn [(108, qM k)], aX [], k, 0, aX [], []⟩
theorem QE (k) : bf Try.prog 221 (Je k) := mo Try.func221 (oc (wL k) on) fun x => (by kernel_rfl : cc (P4 k) (Je k) Try.f221 x = (Je k).fn x)
def cR.f (a0 : Int) (a1 : Int) : Option (Bool) := (iE.f a0 a1).bind fun t1 => some (!decide (t1 = true))
def mE (k : Nat) : bD := ⟨[sI, (false, [.dat (.ptr (.clo 221 (.ptr (.int .i64))))])], [sB], U2 cR.f⟩
def EK (k : Nat) : En := ⟨tb, bn [(221, Je k)], aX [], k, 0, aX [], []⟩
theorem EX (k) : bf Try.prog 217 (mE k) := mo Try.func217 (oc (QE k) on) fun x => (by kernel_rfl : cc (EK k) (mE k) Try.f217 x = (mE k).fn x)
abbrev dZ := Option (Int)
abbrev eJ (R : Type) := (List Int) → Int → Int → Int → R
def af.s0 (k : Nat) (r0 : eJ dZ) : eJ dZ := fun x0 x1 x7 x8 => if x8 < x7 then (if 0 ≤ x8 then (if x8 < x0.length then ((cR.f (rd x0 x8) x1).bind fun t1 => if t1 = true then (some x8) else (r0 x0 x1 x7 (wrap64 (x8 + 1)))) else none) else none) else (some (-1))
def af.l0 (k : Nat) : Nat → eJ dZ
 | 0 => Z4
 | n + 1 => af.s0 k (af.l0 k n)
def af.g (k : Nat) (r0 : eJ dZ) (l0 : List Int) (a1 : Int) : Option (Int) := r0 l0 a1 (l0.length : Int) 0
def af.f (k : Nat) (l0 : List Int) (a1 : Int) : Option (Int) := af.g k (af.l0 k k) l0 a1
def eO (k : Nat) : bD := ⟨[sL, (false, [.dat (.clo 217 (.ptr (.clo 221 (.ptr (.int .i64)))))])], [sI], U2 (af.f k)⟩
def g9 (k : Nat) : En := ⟨tb, bn [(217, mE k)], aX [(0, lz [0, 1, 7, 8])], k, 0, aX [], []⟩
def fP : eJ St := fun x0 x1 x7 x8 => ⟨19, bX [(0, aL x0), (1, .dat (.clo 217 (.ptr (.clo 221 (.ptr (.int .i64))))) x1), (7, aI x7), (8, aI x8)], Go.V.look []⟩
def iH : List Bool := [t', f', t', f']
def na (k : Nat) (p : List Bool) (r : List (St → dZ)) : Nat → St → dZ := cC (g9 k) (eO k) Try.f236 p r
theorem qY (k) (rec : St → dZ) (v) : bJ (g9 k) (eO k) Try.f236 iH [] rec (U4 fP v) = U4 (af.s0 k (W4 rec fP)) v := by kernel_rfl
theorem qV (k) (n) : W4 (na k iH [] n) fP = af.l0 k n :=
 u4 (lq (g9 k) (eO k) (fun rec => U4 (af.s0 k (C4 rec))) (fun n => U4 (af.l0 k n)) (qY k) n)
theorem uL (k) : bf Try.prog 236 (eO k) := mo Try.func236 (oc (EX k) on) fun x => (show cc (g9 k) (eO k) Try.f236 x = af.g k (W4 (na k iH [] k) fP) x.1 x.2 by kernel_rfl).trans (by rw [qV]; rfl)
def bI.f (k : Nat) (l0 : List Int) (a1 : Int) : Option (Bool) := (af.f k l0 a1).bind fun t1 => some (decide (0 ≤ t1))
def ia (k : Nat) : bD := ⟨[sL, (false, [.dat (.clo 217 (.ptr (.clo 221 (.ptr (.int .i64)))))])], [sB], U2 (bI.f k)⟩
def uE (k : Nat) : En := ⟨tb, bn [(236, eO k)], aX [], k, 0, aX [], []⟩
theorem uJ (k) : bf Try.prog 216 (ia k) := mo Try.func216 (oc (uL k) on) fun x => (by kernel_rfl : cc (uE k) (ia k) Try.f216 x = (ia k).fn x)
def cD.f (k : Nat) (l0 : List Int) (a1 : Int) : Option (Bool) := (bI.f k l0 a1).bind fun t1 => some (!decide (t1 = true))
def mC (k : Nat) : bD := ⟨[sL, (false, [.dat (.clo 221 (.ptr (.int .i64)))])], [sB], U2 (cD.f k)⟩
def EE (k : Nat) : En := ⟨tb, bn [(216, ia k)], aX [], k, 0, aX [], []⟩
theorem EU (k) : bf Try.prog 148 (mC k) := mo Try.func148 (oc (uJ k) on) fun x => (by kernel_rfl : cc (EE k) (mC k) Try.f148 x = (mC k).fn x)
def ij.f (k : Nat) (l0 : List Int) (a1 : Int) : Option (Bool) := (dx.f l0).bind fun t1 => (dj.f t1 1 120).bind fun t2 => if t2 = true then ((cD.f k l0 a1).bind fun t3 => some t3) else (some false)
def Ja (k : Nat) : bD := ⟨[sL, sI], [sB], U2 (ij.f k)⟩
def PV (k : Nat) : En := ⟨tb, bn [(149, Bj k), (108, qM k), (148, mC k)], aX [], k, 0, aX [], []⟩
theorem Qt (k) : bf Try.prog 186 (Ja k) := mo Try.func186 (oc (IZ k) (oc (wL k) (oc (EU k) on))) fun x => (by kernel_rfl : cc (PV k) (Ja k) Try.f186 x = (Ja k).fn x)
def fV.f (k : Nat) (l0 : List Int) (a1 : Int) (a2 : List (List Int)) : Option (Bool) := (ij.f k l0 a1).bind fun t1 => if t1 = true then (if 0 < (a2.length : Int) then (some (decide ((l0.length : Int) = ((cP ([] : List Int) a2 0).length : Int)))) else none) else (some false)
def Jh (k : Nat) : bD := ⟨[sL, (false, [.dat (.ptr (.int .i64))]), (false, [.dat (.ptr (.list (.list (.int .i64))))])], [sB], U3 (fV.f k)⟩
def P7 (k : Nat) : En := ⟨tb, bn [(186, Ja k)], aX [], k, 0, aX [], []⟩
theorem QI (k) : bf Try.prog 228 (Jh k) := mo Try.func228 (oc (Qt k) on) fun x => (by kernel_rfl : cc (P7 k) (Jh k) Try.f228 x = (Jh k).fn x)
def ck.f (k : Nat) (l0 : List Int) (a1 : Int × (List (List Int))) : Option (Bool) := (fV.f k l0 a1.1 a1.2).bind fun t1 => some (!decide (t1 = true))
def mH (k : Nat) : bD := ⟨[sL, (false, [.dat (.ptr (.clo 228 (.pair (.ptr (.int .i64)) (.ptr (.list (.list (.int .i64)))))))])], [sB], U2 (ck.f k)⟩
def EN (k : Nat) : En := ⟨tb, bn [(228, Jh k)], aX [], k, 0, aX [], []⟩
theorem E0 (k) : bf Try.prog 239 (mH k) := mo Try.func239 (oc (QI k) on) fun x => (by kernel_rfl : cc (EN k) (mH k) Try.f239 x = (mH k).fn x)
abbrev dY := Option (Int)
abbrev eI (R : Type) := (List (List Int)) → (Int × (List (List Int))) → Int → Int → R
def ae.s0 (k : Nat) (r0 : eI dY) : eI dY := fun x0 x1 x7 x8 => if x8 < x7 then (if 0 ≤ x8 then (if x8 < x0.length then ((ck.f k (cP ([] : List Int) x0 x8) x1).bind fun t1 => if t1 = true then (some x8) else (r0 x0 x1 x7 (wrap64 (x8 + 1)))) else none) else none) else (some (-1))
def ae.l0 (k : Nat) : Nat → eI dY
 | 0 => Z4
 | n + 1 => ae.s0 k (ae.l0 k n)
def ae.g (k : Nat) (r0 : eI dY) (l0 : List (List Int)) (a1 : Int × (List (List Int))) : Option (Int) := r0 l0 a1 (l0.length : Int) 0
def ae.f (k : Nat) (l0 : List (List Int)) (a1 : Int × (List (List Int))) : Option (Int) := ae.g k (ae.l0 k k) l0 a1
def eN (k : Nat) : bD := ⟨[sM, (false, [.dat (.clo 239 (.ptr (.clo 228 (.pair (.ptr (.int .i64)) (.ptr (.list (.list (.int .i64))))))))])], [sI], U2 (ae.f k)⟩
def g8 (k : Nat) : En := ⟨tb, bn [(239, mH k)], aX [(0, lz [0, 1, 7, 8])], k, 0, aX [], []⟩
def fO : eI St := fun x0 x1 x7 x8 => ⟨19, bX [(0, aM x0), (1, .dat (.clo 239 (.ptr (.clo 228 (.pair (.ptr (.int .i64)) (.ptr (.list (.list (.int .i64)))))))) x1), (7, aI x7), (8, aI x8)], Go.V.look []⟩
def iG : List Bool := [t', f', t', f']
def m9 (k : Nat) (p : List Bool) (r : List (St → dY)) : Nat → St → dY := cC (g8 k) (eN k) Try.f206 p r
theorem qX (k) (rec : St → dY) (v) : bJ (g8 k) (eN k) Try.f206 iG [] rec (U4 fO v) = U4 (ae.s0 k (W4 rec fO)) v := by kernel_rfl
theorem qU (k) (n) : W4 (m9 k iG [] n) fO = ae.l0 k n :=
 u4 (lq (g8 k) (eN k) (fun rec => U4 (ae.s0 k (C4 rec))) (fun n => U4 (ae.l0 k n)) (qX k) n)
theorem uI (k) : bf Try.prog 206 (eN k) := mo Try.func206 (oc (E0 k) on) fun x => (show cc (g8 k) (eN k) Try.f206 x = ae.g k (W4 (m9 k iG [] k) fO) x.1 x.2 by kernel_rfl).trans (by rw [qU]; rfl)
def bB.f (k : Nat) (l0 : List (List Int)) (a1 : Int × (List (List Int))) : Option (Bool) := (ae.f k l0 a1).bind fun t1 => some (decide (0 ≤ t1))
def ic (k : Nat) : bD := ⟨[sM, (false, [.dat (.clo 239 (.ptr (.clo 228 (.pair (.ptr (.int .i64)) (.ptr (.list (.list (.int .i64))))))))])], [sB], U2 (bB.f k)⟩
def uG (k : Nat) : En := ⟨tb, bn [(206, eN k)], aX [], k, 0, aX [], []⟩
theorem uN (k) : bf Try.prog 238 (ic k) := mo Try.func238 (oc (uI k) on) fun x => (by kernel_rfl : cc (uG k) (ic k) Try.f238 x = (ic k).fn x)
def cq.f (k : Nat) (l0 : List (List Int)) (a1 : Int × (List (List Int))) : Option (Bool) := (bB.f k l0 a1).bind fun t1 => some (!decide (t1 = true))
def mG (k : Nat) : bD := ⟨[sM, (false, [.dat (.clo 228 (.pair (.ptr (.int .i64)) (.ptr (.list (.list (.int .i64))))))])], [sB], U2 (cq.f k)⟩
def EM (k : Nat) : En := ⟨tb, bn [(238, ic k)], aX [], k, 0, aX [], []⟩
theorem EZ (k) : bf Try.prog 227 (mG k) := mo Try.func227 (oc (uN k) on) fun x => (by kernel_rfl : cc (EM k) (mG k) Try.f227 x = (mG k).fn x)
def cY.f (k : Nat) (a0 : Int) (l1 : List (List Int)) : Option (Bool) := (lN.f a0).bind fun t1 => if t1 = true then ((eU.f l1).bind fun t2 => (dj.f t2 1 4).bind fun t3 => if t3 = true then ((cq.f k l1 (a0, l1)).bind fun t4 => some t4) else (some false)) else (some false)
def yY (k : Nat) : bD := ⟨[sI, sM], [sB], U2 (cY.f k)⟩
def PW (k : Nat) : En := ⟨tb, bn [(225, Jf k), (226, Jg k), (108, qM k), (227, mG k)], aX [], k, 0, aX [], []⟩
theorem Gb (k) : bf Try.prog 196 (yY k) := mo Try.func196 (oc (QG k) (oc (QH k) (oc (wL k) (oc (EZ k) on)))) fun x => (by kernel_rfl : cc (PW k) (yY k) Try.f196 x = (yY k).fn x)
def jr.f (a0 : Int) : Option (Bool) := (dj.f a0 1 40).bind fun t1 => some t1
def Jl (k : Nat) : bD := ⟨[sI], [sB], jr.f⟩
def Qb (k : Nat) : En := ⟨tb, bn [(108, qM k)], aX [], k, 0, aX [], []⟩
theorem QN (k) : bf Try.prog 235 (Jl k) := mo Try.func235 (oc (wL k) on) fun x => (by kernel_rfl : cc (Qb k) (Jl k) Try.f235 x = (Jl k).fn x)
def cV.f (a0 : Int) (a1 : Unit) : Option (Bool) := (jr.f a0).bind fun t1 => some (!decide (t1 = true))
def mF (k : Nat) : bD := ⟨[sI, (false, [.dat (.ptr (.clo 235 .unit))])], [sB], U2 cV.f⟩
def EL (k : Nat) : En := ⟨tb, bn [(235, Jl k)], aX [], k, 0, aX [], []⟩
theorem EY (k) : bf Try.prog 217 (mF k) := mo Try.func217 (oc (QN k) on) fun x => (by kernel_rfl : cc (EL k) (mF k) Try.f217 x = (mF k).fn x)
abbrev eb := Option (Int)
abbrev eK (R : Type) := (List Int) → Unit → Int → Int → R
def ag.s0 (k : Nat) (r0 : eK eb) : eK eb := fun x0 x1 x7 x8 => if x8 < x7 then (if 0 ≤ x8 then (if x8 < x0.length then ((cV.f (rd x0 x8) x1).bind fun t1 => if t1 = true then (some x8) else (r0 x0 x1 x7 (wrap64 (x8 + 1)))) else none) else none) else (some (-1))
def ag.l0 (k : Nat) : Nat → eK eb
 | 0 => Z4
 | n + 1 => ag.s0 k (ag.l0 k n)
def ag.g (k : Nat) (r0 : eK eb) (l0 : List Int) (a1 : Unit) : Option (Int) := r0 l0 a1 (l0.length : Int) 0
def ag.f (k : Nat) (l0 : List Int) (a1 : Unit) : Option (Int) := ag.g k (ag.l0 k k) l0 a1
def eP (k : Nat) : bD := ⟨[sL, (false, [.dat (.clo 217 (.ptr (.clo 235 .unit)))])], [sI], U2 (ag.f k)⟩
def hJ (k : Nat) : En := ⟨tb, bn [(217, mF k)], aX [(0, lz [0, 1, 7, 8])], k, 0, aX [], []⟩
def fQ : eK St := fun x0 x1 x7 x8 => ⟨19, bX [(0, aL x0), (1, .dat (.clo 217 (.ptr (.clo 235 .unit))) x1), (7, aI x7), (8, aI x8)], Go.V.look []⟩
def iI : List Bool := [t', f', t', f']
def nc (k : Nat) (p : List Bool) (r : List (St → eb)) : Nat → St → eb := cC (hJ k) (eP k) Try.f236 p r
theorem qZ (k) (rec : St → eb) (v) : bJ (hJ k) (eP k) Try.f236 iI [] rec (U4 fQ v) = U4 (ag.s0 k (W4 rec fQ)) v := by kernel_rfl
theorem qW (k) (n) : W4 (nc k iI [] n) fQ = ag.l0 k n :=
 u4 (lq (hJ k) (eP k) (fun rec => U4 (ag.s0 k (C4 rec))) (fun n => U4 (ag.l0 k n)) (qZ k) n)
theorem uM (k) : bf Try.prog 236 (eP k) := mo Try.func236 (oc (EY k) on) fun x => (show cc (hJ k) (eP k) Try.f236 x = ag.g k (W4 (nc k iI [] k) fQ) x.1 x.2 by kernel_rfl).trans (by rw [qW]; rfl)
def bK.f (k : Nat) (l0 : List Int) (a1 : Unit) : Option (Bool) := (ag.f k l0 a1).bind fun t1 => some (decide (0 ≤ t1))
def ib (k : Nat) : bD := ⟨[sL, (false, [.dat (.clo 217 (.ptr (.clo 235 .unit)))])], [sB], U2 (bK.f k)⟩
def uF (k : Nat) : En := ⟨tb, bn [(236, eP k)], aX [], k, 0, aX [], []⟩
theorem uK (k) : bf Try.prog 216 (ib k) := mo Try.func216 (oc (uM k) on) fun x => (by kernel_rfl : cc (uF k) (ib k) Try.f216 x = (ib k).fn x)
def cI.f (k : Nat) (l0 : List Int) (a1 : Unit) : Option (Bool) := (bK.f k l0 a1).bind fun t1 => some (!decide (t1 = true))
def mD (k : Nat) : bD := ⟨[sL, (false, [.dat (.clo 235 .unit)])], [sB], U2 (cI.f k)⟩
def EF (k : Nat) : En := ⟨tb, bn [(216, ib k)], aX [], k, 0, aX [], []⟩
theorem EV (k) : bf Try.prog 148 (mD k) := mo Try.func148 (oc (uK k) on) fun x => (by kernel_rfl : cc (EF k) (mD k) Try.f148 x = (mD k).fn x)
def iR.f (k : Nat) (l0_0 : List Int) : Option (Bool) := (dx.f l0_0).bind fun t1 => (dj.f t1 1 8).bind fun t2 => if t2 = true then ((cI.f k l0_0 ()).bind fun t3 => some t3) else (some false)
def Jd (k : Nat) : bD := ⟨[sT], [sB], iR.f k⟩
def P3 (k : Nat) : En := ⟨tb, bn [(149, Bj k), (108, qM k), (148, mD k)], aX [], k, 0, aX [], []⟩
theorem QD (k) : bf Try.prog 214 (Jd k) := mo Try.func214 (oc (IZ k) (oc (wL k) (oc (EV k) on))) fun x => (by kernel_rfl : cc (P3 k) (Jd k) Try.f214 x = (Jd k).fn x)
def fh.f (k : Nat) (l0_0 : List Int) (a1 : Bool) : Option (Int) := (iR.f k l0_0).bind fun t1 => if (!decide (t1 = true)) = true then (some 1) else (if (!decide (a1 = true)) = true then (some 2) else (some 0))
def Gi (k : Nat) : bD := ⟨[sT, sB], [sI], U2 (fh.f k)⟩
def PQ (k : Nat) : En := ⟨tb, bn [(214, Jd k)], aX [], k, 0, aX [], []⟩
theorem Og (k) : bf Try.prog 138 (Gi k) := mo Try.func138 (oc (QD k) on) fun x => (by kernel_rfl : cc (PQ k) (Gi k) Try.f138 x = (Gi k).fn x)
abbrev gL := Option (List (List Int))
abbrev ly (R : Type) := Int → (List (List Int)) → (List (List Int)) → Int → Int → R
abbrev lA (R : Type) := Int → (List (List Int)) → (List (List Int)) → Int → Int → Int → Int → Int → R
abbrev pq (R : Type) := Int → (List (List Int)) → (List (List Int)) → Int → Int → Int → Int → Int → Int → Int → (List (List Int)) → Int → Int → R
def aD.s2 (k : Nat) (r1 : lA gL) (r2 : pq gL) : pq gL := fun x0 x1 x5 x6 x7 x8 x14 x15 x18 x19 x22 x23 x24 => if x24 < x23 then (if 0 ≤ x24 then (if x24 < x22.length then (if 0 ≤ x6 then (if x6 < ((cP ([] : List Int) x22 x24).length : Int) then (if (rd (cP ([] : List Int) x22 x24) x6) = x7 then (r2 x0 x1 x5 x6 x7 (wrap64 (x8 + 1)) x14 x15 x18 x19 x22 x23 (wrap64 (x24 + 1))) else (r2 x0 x1 x5 x6 x7 x8 x14 x15 x18 x19 x22 x23 (wrap64 (x24 + 1)))) else none) else none) else none) else none) else (if 1 < x8 then (if x5.length + 1 ≤ 1099511627776 then (r1 x0 x1 (x5 ++ [[x6, x7]]) x6 x14 x15 x18 (wrap64 (x19 + 1))) else none) else (r1 x0 x1 x5 x6 x14 x15 x18 (wrap64 (x19 + 1))))
def aD.l2 (k : Nat) (r0 : ly gL) (r1 : lA gL) : Nat → pq gL
 | 0 => Z13
 | n + 1 => aD.s2 k r1 (aD.l2 k r0 r1 n)
def aD.s1 (k : Nat) (r0 : ly gL) (r1 : lA gL) (r2 : pq gL) : lA gL := fun x0 x1 x5 x6 x14 x15 x18 x19 => if x19 < x18 then (r2 x0 x1 x5 x6 x19 0 x14 x15 x18 x19 x1 (x1.length : Int) 0) else (r0 x0 x1 x5 x14 (wrap64 (x15 + 1)))
def aD.l1 (k : Nat) (r0 : ly gL) : Nat → lA gL
 | 0 => Z8
 | n + 1 => aD.s1 k r0 (aD.l1 k r0 n) (aD.l2 k r0 (aD.l1 k r0 n) k)
def aD.s0 (k : Nat) (r0 : ly gL) (r1 : lA gL) : ly gL := fun x0 x1 x5 x14 x15 => if x15 < x14 then (r1 x0 x1 x5 x15 x14 x15 x0 0) else (some x5)
def aD.l0 (k : Nat) : Nat → ly gL
 | 0 => Z5
 | n + 1 => aD.s0 k (aD.l0 k n) (aD.l1 k (aD.l0 k n) k)
def aD.g (k : Nat) (r0 : ly gL) (a0 : Int) (l1 : List (List Int)) : Option (List (List Int)) := if 0 < (l1.length : Int) then (r0 a0 l1 [] ((cP ([] : List Int) l1 0).length : Int) 0) else none
def aD.f (k : Nat) (a0 : Int) (l1 : List (List Int)) : Option (List (List Int)) := aD.g k (aD.l0 k k) a0 l1
def qO (k : Nat) : bD := ⟨[sI, sM], [(false, [.own 29 (.list (.int .i64))])], U2 (aD.f k)⟩
def yS (k : Nat) : En := ⟨tb, bn [], aX [(0, [(0, []), (1, []), (5, [.nil 29 (.list (.int .i64))]), (14, []), (15, [])]), (2, [(0, []), (1, []), (5, [.nil 29 (.list (.int .i64))]), (6, []), (14, []), (15, []), (18, []), (19, [])]), (4, lz [0, 1, 5, 6, 7, 8, 14, 15, 18, 19, 22, 23, 24])], k, 0, aX [], []⟩
def ju : ly St := fun x0 x1 x5 x14 x15 => ⟨48, bX [(0, aI x0), (1, aM x1), (5, .own 0), (14, aI x14), (15, aI x15)], Go.V.look [(0, .flat 29 (.list (.int .i64)) x5)]⟩
def Cn : List Bool := [t', t', f', t', f']
def lV : lA St := fun x0 x1 x5 x6 x14 x15 x18 x19 => ⟨48, bX [(0, aI x0), (1, aM x1), (5, .own 0), (6, aI x6), (14, aI x14), (15, aI x15), (18, aI x18), (19, aI x19)], Go.V.look [(0, .flat 29 (.list (.int .i64)) x5)]⟩
def Co : List Bool := [t', t', f', t', f', f', t', t', f', f', t', t', f']
def xP : pq St := fun x0 x1 x5 x6 x7 x8 x14 x15 x18 x19 x22 x23 x24 => ⟨48, bX [(0, aI x0), (1, aM x1), (5, .own 0), (6, aI x6), (7, aI x7), (8, aI x8), (14, aI x14), (15, aI x15), (18, aI x18), (19, aI x19), (22, aM x22), (23, aI x23), (24, aI x24)], Go.V.look [(0, .flat 29 (.list (.int .i64)) x5)]⟩
def Cp : List Bool := [t', t', f', t', f', f', t', t', f', f', t', t', f', f', t', t', f', f', t', t', f', t', f']
def ES (k : Nat) (p : List Bool) (r : List (St → gL)) : Nat → St → gL := cC (yS k) (qO k) Try.f198 p r
theorem M5 (k) (R0 R1 : St → gL) (rec : St → gL) (v) : bJ (yS k) (qO k) Try.f198 Cp [R0, R1] rec (U13 xP v) = U13 (aD.s2 k (W8 R1 lV) (W13 rec xP)) v := by kernel_rfl
theorem Mm (k) (R0 R1 : St → gL) (n) : W13 (ES k Cp [R0, R1] n) xP = aD.l2 k (W5 R0 ju) (W8 R1 lV) n :=
 u13 (lq (yS k) (qO k) (fun rec => U13 (aD.s2 k (W8 R1 lV) (C13 rec))) (fun n => U13 (aD.l2 k (W5 R0 ju) (W8 R1 lV) n)) (M5 k R0 R1) n)
theorem M4 (k) (R0 : St → gL) (rec : St → gL) (G2 : pq gL) (h2 : W13 (ES k Cp [R0, rec] k) xP = G2) (v) : bJ (yS k) (qO k) Try.f198 Co [R0] rec (U8 lV v) = U8 (aD.s1 k (W5 R0 ju) (W8 rec lV) G2) v := by
 subst h2
 kernel_rfl
theorem Ml (k) (R0 : St → gL) (n) : W8 (ES k Co [R0] n) lV = aD.l1 k (W5 R0 ju) n :=
 u8 (lq (yS k) (qO k) (fun rec => U8 (aD.s1 k (W5 R0 ju) (C8 rec) (aD.l2 k (W5 R0 ju) (C8 rec) k))) (fun n => U8 (aD.l1 k (W5 R0 ju) n)) (fun rec v => M4 k R0 rec _ (Mm k R0 rec k) v) n)
theorem M3 (k) (rec : St → gL) (G1 : lA gL) (h1 : W8 (ES k Co [rec] k) lV = G1) (v) : bJ (yS k) (qO k) Try.f198 Cn [] rec (U5 ju v) = U5 (aD.s0 k (W5 rec ju) G1) v := by
 subst h1
 kernel_rfl
theorem Mk (k) (n) : W5 (ES k Cn [] n) ju = aD.l0 k n :=
 u5 (lq (yS k) (qO k) (fun rec => U5 (aD.s0 k (C5 rec) (aD.l1 k (C5 rec) k))) (fun n => U5 (aD.l0 k n)) (fun rec v => M3 k rec _ (Ml k rec k) v) n)
theorem La (k) : bf Try.prog 198 (qO k) := mo Try.func198 on fun x => (show cc (yS k) (qO k) Try.f198 x = aD.g k (W5 (ES k Cn [] k) ju) x.1 x.2 by kernel_rfl).trans (by rw [Mk]; rfl)
def nD.f (a0 : Int) (a1 : Int) : Option (Int × Int) := some ((IntKind.wrap .u64 ((IntKind.wrap .u64 ((IntKind.wrap .u64 ((cp .u64 a0 32) * (cp .u64 a1 32))) + (cp .u64 (IntKind.wrap .u64 ((IntKind.wrap .u64 ((cp .u64 a0 32) * (bE .u64 a1 4294967295))) + (cp .u64 (IntKind.wrap .u64 ((bE .u64 a0 4294967295) * (bE .u64 a1 4294967295))) 32))) 32))) + (cp .u64 (IntKind.wrap .u64 ((bE .u64 (IntKind.wrap .u64 ((IntKind.wrap .u64 ((cp .u64 a0 32) * (bE .u64 a1 4294967295))) + (cp .u64 (IntKind.wrap .u64 ((bE .u64 a0 4294967295) * (bE .u64 a1 4294967295))) 32))) 4294967295) + (IntKind.wrap .u64 ((bE .u64 a0 4294967295) * (cp .u64 a1 32))))) 32))), (IntKind.wrap .u64 (a0 * a1)))
def Ji (k : Nat) : bD := ⟨[(false, [.dat (.int .u64)]), (false, [.dat (.int .u64)])], [(false, [.dat (.int .u64)]), (false, [.dat (.int .u64)])], U2 nD.f⟩
def P8 (k : Nat) : En := ⟨tb, bn [], aX [], k, 0, aX [], []⟩
theorem QJ (k) : bf Try.prog 231 (Ji k) := mo Try.func231 on fun x => (by kernel_rfl : cc (P8 k) (Ji k) Try.f231 x = (Ji k).fn x)
def sP.f (a0 : Int) (a1 : Int) : Option (Int × Int) := (nD.f a0 a1).bind fun t1 => some (t1.1, t1.2)
def Lg (k : Nat) : bD := ⟨[(false, [.dat (.int .u64)]), (false, [.dat (.int .u64)])], [(false, [.dat (.int .u64)]), (false, [.dat (.int .u64)])], U2 sP.f⟩
def P0 (k : Nat) : En := ⟨tb, bn [(231, Ji k)], aX [], k, 0, aX [], []⟩
theorem Qy (k) : bf Try.prog 209 (Lg k) := mo Try.func209 (oc (QJ k) on) fun x => (by kernel_rfl : cc (P0 k) (Lg k) Try.f209 x = (Lg k).fn x)
structure ab (p : Prop) : Prop where mk :: (out : p)
theorem J9 {n : Nat} (hn : n < 4294967296) : sP.f 1 (n : Int) = some (0, (n : Int)) := by
 have w : ∀ x : Int, 0 ≤ x → x < 18446744073709551616 → IntKind.u64.wrap x = x := fun x h0 h1 => IntWalk.u64_in x ⟨h0, by omega⟩
 have m0 : ∀ b : Nat, IntKind.u64.bits = 64 := fun _ => rfl
 have a1 : bE .u64 1 4294967295 = 1 := by rw [iN]; decide
 have a2 : bE .u64 (n : Int) 4294967295 = n := by
  rw [iN, mw]
  have e : ((BitVec.ofInt IntKind.u64.bits (n : Int) &&& BitVec.ofInt IntKind.u64.bits 4294967295).toNat) = n := by
   show ((BitVec.ofInt 64 (n : Int) &&& BitVec.ofInt 64 4294967295).toNat) = n
   rw [BitVec.toNat_and]
   have e1 : (BitVec.ofInt 64 (n : Int)).toNat = n := by simp; omega
   have e2 : (BitVec.ofInt 64 4294967295).toNat = 2 ^ 32 - 1 := by decide
   rw [e1, e2, Nat.and_two_pow_sub_one_eq_mod, Nat.mod_eq_of_lt (by omega)]
  rw [e]; exact w _ (by omega) (by omega)
 have s1 : cp .u64 1 32 = 0 := by rw [kU]; decide
 have s2 : cp .u64 (n : Int) 32 = 0 := by
  rw [kU]
  show (n : Int).fdiv 4294967296 = 0
  rw [Int.fdiv_eq_ediv_of_nonneg _ (by omega)]; omega
 have s3 : cp .u64 0 32 = 0 := by rw [kU]; decide
 have a0 : bE .u64 0 4294967295 = 0 := by rw [iN]; decide
 unfold sP.f nD.f
 simp only [s1, s2, a1, a2, Int.zero_mul, Int.one_mul, Int.mul_zero, Option.bind_some, w 0 (by omega) (by omega), w n (by omega) (by omega), s3, Int.add_zero, a0]
theorem HT {n : Nat} (hn : n < 4294967296) (w : World) : Calls Try.prog 209 #[.int .u64 1, .int .u64 (n : Int)] w fun e w' => e = .returned (.tuple #[.int .u64 0, .int .u64 (n : Int)]) ∧ Below w.heap.size w w' := by
 refine ((Qy 0).calls w (fun _ => False) [.int .u64 1, .int .u64 (n : Int)] [.int .u64 1, .int .u64 (n : Int)] (show Int × Int from (1, (n : Int))) (show Int × Int from (0, (n : Int))) ?_ (fun _ h => h.elim) ?_ ?_ ?_).mono ?_
 ·exact ⟨_, _, _, rfl, rfl, rfl, rfl, _, _, _, rfl, rfl, rfl, rfl, rfl, rfl⟩
 ·exact ⟨_, _, rfl, rfl, _, rfl, rfl⟩
 ·exact List.nodup_nil
 ·exact J9 hn
 ·rintro e w' ⟨v, vs, rc, rfl, hg, hc, hf, hp, -, -⟩
  obtain ⟨v1, vs1, cs1, -, rfl, -, rfl, v2, vs2, cs2, -, rfl, -, rfl, rfl, rfl⟩ := hc
  obtain ⟨u1, us, e1, h1, u2, e2, h2⟩ := hp
  have e1 : [v1, v2] = u1 :: us := e1
  obtain ⟨rfl, rfl⟩ := List.cons.inj e1
  obtain ⟨rfl, -⟩ := List.cons.inj e2
  have h1 : [v1] = [Value.int .u64 0] := h1
  have h2 : [v2] = [Value.int .u64 (n : Int)] := h2
  cases h1; cases h2
  have hg : v = _ := hg
  subst hg
  exact ⟨rfl, hf.os, hf.tape, hf.output, hf.size, fun k hk => hf.block k hk fun h => by cases (show k ∈ ([] : List Nat) from h)⟩
def fa (v : Int) (n c : Nat) : List Value := List.replicate c (.int .i64 v) ++ List.replicate (n - c) (.int .i64 0)
def gp (v : Int) (d : Nat) : List Value := List.replicate d (.int .i64 v)
theorem wm (v : Int) (n c : Nat) (h : c ≤ n) : (fa v n c).length = n := by simp [fa]; omega
theorem CR (v : Int) (n : Nat) : (madeCells #[Value.int .i64 0] n) = (fa v n 0).toArray := by
 apply Array.ext'
 apply List.ext_getElem
 ·simp [fa, madeCells]
 ·intro i h1 h2
  simp [fa, madeCells, Nat.mod_one]
theorem oM (v : Int) (n c d : Nat) (h : c + d ≤ n) : splice (fa v n c) c (gp v d) = fa v n (c + d) := by
 unfold splice fa gp
 rw [List.take_append_of_le_length (by simp), List.take_of_length_le (by simp), List.length_replicate, List.drop_append, List.drop_eq_nil_of_le (by simp), List.nil_append, List.drop_replicate, List.length_replicate, ← List.append_assoc, List.replicate_append_replicate]
 congr 2
 omega
theorem J7 (v : Int) (n c : Nat) (w : World) (g : Nat) (hg : w.heap[g]? = some (.cells (fa v n c).toArray 2 (0, 0))) (d : Nat) (hd : d ≤ c) (ad : Addr) (ha : ad = ⟨g, 0, none⟩) : ∀ j u, (gp v d)[j]? = some u → w.cell? (ad.add j) = some u := by
 intro j u hu
 subst ha
 have hj : j < d := by
  rcases Nat.lt_or_ge j d with h | h
  ·exact h
  ·simp [gp, List.getElem?_eq_none (show (List.replicate d (Value.int IntKind.i64 v)).length ≤ j by simpa using h)] at hu
 simp [gp, hj] at hu
 subst hu
 have e : (fa v n c)[j]? = some (.int .i64 v) := by
  simp only [fa]
  rw [List.getElem?_append_left (by simp; omega), List.getElem?_replicate, if_pos (by omega)]
 have ea : (⟨g, 0, none⟩ : Addr).add j = ⟨g, j, none⟩ := by unfold Addr.add; split <;> simp_all
 rw [ea]
 simp [World.cell?, hg, e]
set_option maxHeartbeats 2000000 in
set_option maxRecDepth 100000 in
theorem FQ (A0 : Option Addr) (ad0 : Addr) (hA : A0 = some ad0) (c0 : Nat) (v : Int) (n : Nat) (w : World) (hr0 : w.cell? ad0 = some (.int .i64 v)) (hn : n ≤ 1048576) :
  Calls Try.prog 109 #[.slice A0 1 c0, .int .i64 n] w fun e w' => ∃ g, e = .returned (.slice (some ⟨g, 0, none⟩) n n) ∧ w.heap.size ≤ g ∧ w'.heap[g]? = some (.cells (fa v n n).toArray 2 (0, 0)) ∧ Below w.heap.size w w' := by
 have HM := ab.mk (HT (n := n) (by omega))
 have hinfo : (Try.prog.info? 2).map (fun i => (i.zero, i.size, i.bytes)) = some (some (.int .i64 0), 1, 8) := by kernel_rfl
 have hu : Try.prog.underlying 29 = some (.slice 2) := by kernel_rfl
 have hmk : ∀ W : World, (Instr.makeSlice 29 (.int .i64 (n : Int)) (.int .i64 (n : Int))).run Try.prog W = .ok (.slice (some ⟨W.heap.size, 0, none⟩) n n) (W.alloc (.cells (madeCells #[.int .i64 0] n) 2)) :=
  run_make_row' 29 2 (.int .i64 0) 8 hu hinfo rfl .i64 .i64 n (by omega) (by omega)
 have c1 : decide (9223372036854775807 < (n : Int)) = false := decide_eq_false (by omega)
 have c2 : decide ((n : Int) < 0) = false := decide_eq_false (by omega)
 have HA0 : ab (∀ W : World, Below w.heap.size w W → 0 < (gp v (Nat.min 1 n)).length → ∃ ad, A0 = some ad ∧ ∀ j u, (gp v (Nat.min 1 n))[j]? = some u → W.cell? (ad.add j) = some u) := ⟨fun W hW hp => by
  refine ⟨ad0, hA, fun j u hu => ?_⟩
  have hj : j < Nat.min 1 n := by
   rcases Nat.lt_or_ge j (Nat.min 1 n) with h | h
   ·exact h
   ·rw [gp, List.getElem?_eq_none (by simpa using h)] at hu; cases hu
  have hm : Nat.min 1 n ≤ 1 := Nat.min_le_left 1 n
  have hj0 : j = 0 := by omega
  subst hj0
  rw [gp, List.getElem?_replicate, if_pos hj] at hu
  obtain rfl := Option.some.inj hu
  have ea : ad0.add 0 = ad0 := by cases ad0; unfold Addr.add; split <;> simp_all
  rw [ea, hW.cell (World.block_lt_of_cell? w _ hr0)]
  exact hr0⟩
 have HL : ab ((gp v (Nat.min 1 n)).length = Nat.min 1 n) := ⟨by simp [gp]⟩
 have HF : ab (0 + (gp v (Nat.min 1 n)).length ≤ (fa v n 0).length) := ⟨by rw [wm v n 0 (by omega), HL.out]; have : Nat.min 1 n ≤ n := Nat.min_le_right 1 n; omega⟩
 have HO : ab (∀ d, ∀ u ∈ gp v d, u.oneCell' = true) := ⟨fun d u hu => by rw [(List.mem_replicate.mp hu).2]; rfl⟩
 have hsz : (Try.prog.info? 2).map (·.size) = some 1 := by kernel_rfl
 have HU := ab.mk hu
 clear hr0 hA hinfo hu
 go_enter Try.func109, Try.ntmps109
 go_wp2_with fail
 refine (HM.out _).mono ?_
 rintro e wb ⟨rfl, hwb⟩
 have HB0 := ab.mk hwb
 clear hwb
 have HG : ab ((wb.alloc (.cells (madeCells #[Value.int .i64 0] n) 2)).heap[wb.heap.size]? = some (.cells (fa v n 0).toArray 2 (0, 0))) := ⟨by rw [CR v n]; exact heap_alloc_new wb _⟩
 go_wp2_with ((refine wpList_copy_splice rfl (.tmp 31) (.tmp 32) 29 29 rfl 2 HU.out hsz _ _ n n 1 c0 rfl rfl wb.heap.size 0 (fa v n 0) 2 HG.out (gp v (Nat.min 1 n)) HL.out (fun hp => ⟨rfl, HA0.out _ (HB0.out.alloc HB0.out.size _) hp⟩) HF.out (HO.out _) w.heap.size w (HB0.out.alloc HB0.out.size _) HB0.out.size ?_; intro w1 hg1 hb1))
 replace hg1 : Hid (w1.heap[wb.heap.size]? = some (.cells (fa v n (Nat.min 1 n)).toArray 2 (0, 0))) := by
  have h := hg1
  rw [oM v n 0 (Nat.min 1 n) (by have : Nat.min 1 n ≤ n := Nat.min_le_right 1 n; omega), Nat.zero_add] at h
  exact h
 have hmin : Nat.min 1 n ≤ n := Nat.min_le_right 1 n
 have hmin1 : n = 0 ∨ 1 ≤ Nat.min 1 n := by
  rcases Nat.eq_zero_or_pos n with h | h
  ·exact .inl h
  ·exact .inr (Nat.le_min.mpr ⟨Nat.le_refl _, h⟩)
 go_loopg [8] n (fun gg s8 wr => ∃ c : Nat, c ≤ n ∧ ab (n = 0 ∨ 1 ≤ c) ∧ n - c ≤ gg ∧ s8 = .int .i64 c ∧ ab (wr.heap[wb.heap.size]? = some (.cells (fa v n c).toArray 2 (0, 0))) ∧ ab (Below w.heap.size w wr))
 case atStart => exact ⟨Nat.min 1 n, hmin, ⟨hmin1⟩, by omega, by rw [HL.out], ⟨hg1⟩, ⟨hb1⟩⟩
 case round =>
  clear HG HA0 hmk
  obtain ⟨c, hc, H1, hgg, rfl, HG, HB⟩ := hrel
  by_cases hlt : c < n
  ·have hltz : (c : Int) < (n : Int) := by omega
   have hne : ¬ n = c := by omega
   have HL2 : ab ((gp v (Nat.min c (n - c))).length = Nat.min c (n - c)) := ⟨by simp [gp]⟩
   have hm1 : Nat.min c (n - c) ≤ c := Nat.min_le_left _ _
   have hm2 : Nat.min c (n - c) ≤ n - c := Nat.min_le_right _ _
   have HF2 : ab (c + (gp v (Nat.min c (n - c))).length ≤ (fa v n c).length) := ⟨by rw [wm v n c hc, HL2.out]; omega⟩
   have HC2 : ab (∀ W : World, W.heap = wr.heap → ∀ j u, (gp v (Nat.min c (n - c)))[j]? = some u → W.cell? ((⟨wb.heap.size, 0, none⟩ : Addr).add j) = some u) := ⟨fun W hW => J7 v n c W wb.heap.size (by rw [hW]; exact HG.out) _ hm1 _ rfl⟩
   go_wp2
   go_region_law ((refine step_copy_splice rfl (.tmp 41) (.tmp 44) 29 29 rfl 2 HU.out hsz (some ⟨wb.heap.size, c, none⟩) (some ⟨wb.heap.size, 0, none⟩) (n - c) (n - c) c n (by simp [Act.eval, Act.put]) (by simp [Act.eval, Act.put]) wb.heap.size c (fa v n c) 2 (by exact HG.out) (gp v (Nat.min c (n - c))) HL2.out (fun _ => ⟨rfl, _, rfl, HC2.out _ rfl⟩) HF2.out (HO.out _) w.heap.size w (by first | exact HB.out | exact HB.out.drew) HB0.out.size ?_; intro w4 hg4 hb4))
   have hg5 : w4.heap[wb.heap.size]? = some (.cells (fa v n (c + Nat.min c (n - c))).toArray 2 (0, 0)) := by
    have h := hg4
    rw [oM v n c (Nat.min c (n - c)) (by omega)] at h
    exact h
   have HG5 := ab.mk hg5
   have HB5 := ab.mk hb4
   clear hg5 hg4 hb4
   have hpos : 1 ≤ Nat.min c (n - c) := Nat.le_min.mpr ⟨by have := H1.out; omega, by omega⟩
   have HW := ab.mk (show IntKind.i64.wrap ((c : Int) + ((gp v (Nat.min c (n - c))).length : Int)) = ((c + Nat.min c (n - c) : Nat) : Int) by rw [HL2.out, IntWalk.i64_in _ (by omega)]; omega)
   go_wp2
   go_roundg (n - (c + Nat.min c (n - c)))
   case measure => omega
   case rel => exact ⟨c + Nat.min c (n - c), by omega, ⟨.inr (by have := H1.out; omega)⟩, Nat.le_refl _, by rw [← HW.out], HG5, HB5⟩
  ·have c3 : decide ((c : Int) < (n : Int)) = false := decide_eq_false (by omega)
   have c4 : decide (c < n) = false := decide_eq_false hlt
   have hcn : c = n := by omega
   have HN : ab (fa v n c = fa v n n) := ⟨by rw [hcn]⟩
   clear hcn
   go_wp2
   go_ret
   exact ⟨wb.heap.size, rfl, HB0.out.size, by rw [← HN.out]; exact HG.out, HB.out⟩
noncomputable def cz.f (l0 : List Int) (a1 : Int) : Option (List Int) :=
 match l0 with
 | [v] => if 0 ≤ a1 ∧ a1 ≤ 1048576 then some (List.replicate a1.toNat v) else none
 | _ => none
noncomputable def Ox (k : Nat) : bD := ⟨[(false, [.dat (.list (.int .i64))]), (false, [.dat (.int .i64)])], [(false, [.own 2 (.int .i64)])], fun x => cz.f x.1 x.2⟩
theorem wo (w : World) (N : Nat → Prop) (v : Int) : ∀ n, cw w N (.int .i64) (List.replicate n v) (List.replicate n (Value.int .i64 v))
 | 0 => rfl
 | n + 1 => ⟨[Value.int .i64 v], List.replicate n (Value.int .i64 v), rfl, rfl, wo w N v n⟩
theorem J8 {l0 : List Int} {a1 : Int} {y : List Int} (h : cz.f l0 a1 = some y) : ∃ (v : Int) (n : Nat), l0 = [v] ∧ a1 = (n : Int) ∧ n ≤ 1048576 ∧ y = List.replicate n v := by
 unfold cz.f at h
 split at h
 ·split at h
  ·rename_i hb
   cases h
   obtain ⟨n, rfl⟩ := Int.eq_ofNat_of_zero_le hb.1
   exact ⟨_, n, rfl, rfl, by omega, rfl⟩
  ·cases h
 ·cases h
theorem Qg (k : Nat) : bf Try.prog 109 (Ox k) := by
 refine ⟨fun args w => by
  have hf := Try.func109
  have h1 : (Try.f109.name == "runtime.NumGoroutine") = false := by kernel_rfl
  have h1 : Try.f109.name ≠ "runtime.NumGoroutine" := by simpa using h1
  obtain ⟨c, hc⟩ := Option.isSome_iff_exists.1 (show Try.f109.body.isSome = true by kernel_rfl)
  simp [callFunc, hf, h1, hc, mark], ?_⟩
 intro w X args cells x y hc hX hp hn hy
 obtain ⟨v1, vs1, cs1, -, rfl, -, rfl, v2, vs2, cs2, -, rfl, -, rfl, rfl, rfl⟩ := hc
 obtain ⟨u1, us, e1, h1, u2, e2, h2⟩ := hp
 obtain ⟨rfl, rfl⟩ := List.cons.inj e1
 obtain ⟨rfl, -⟩ := List.cons.inj e2
 obtain ⟨l0, a1⟩ := x
 obtain ⟨v, n, e5, e6, hb, rfl⟩ := J8 hy
 have e5 : l0 = [v] := e5
 have e6 : a1 = (n : Int) := e6
 subst e5; subst e6
 obtain ⟨A, cap, e3, hcap, -, hel⟩ := h1
 have e4 : [v2] = [Value.int .i64 (n : Int)] := h2
 cases e3; cases e4
 obtain ⟨ad, hA, c, hlc, hat, hrc⟩ := hel 0 (Nat.zero_lt_one)
 have hrc : c = [Value.int .i64 v] := hrc
 subst hrc
 have hcell := (hat 0 (by simp)).2
 have ea : (ad.add (0 * (Ty.int IntKind.i64).size)).add 0 = ad := by
  rw [Nat.zero_mul]
  have e : ad.add 0 = ad := by cases ad; unfold Addr.add; split <;> simp_all
  rw [e, e]
 rw [ea] at hcell
 refine (FQ A ad hA cap v n w hcell hb).mono ?_
 rintro e w' ⟨g, rfl, hg, hrow, hB⟩
 refine ⟨_, [.slice (some ⟨g, 0, none⟩) n n], [.slice (some ⟨g, 0, none⟩) n n], rfl, rfl, ⟨_, _, _, rfl, rfl, rfl, rfl, rfl, rfl⟩, ⟨hB.os, hB.tape, hB.output, hB.size, fun r hr _ => hB.block r hr⟩, ?_, ?_, ?_⟩
 ·refine ⟨_, rfl, List.replicate n (Value.int .i64 v), ?_, ?_⟩
  ·show w'.ownsRow 0 2 1 _ (List.replicate n v).length _
   rw [List.length_replicate]
   refine ⟨by simp, .inr ⟨g, n, _, rfl, Nat.zero_le _, hrow, Nat.le_refl _, Nat.le_trans hb (by decide), ?_, ?_⟩⟩
   ·simp [fa]
   ·simp [fa]
  ·exact wo _ _ v n
 ·show ([g] : List Nat).Nodup
  simp
 ·intro r hr
  have hr : r ∈ [g] := hr
  rw [List.mem_singleton.1 hr]; exact hg
abbrev lg := Option (List Int)
abbrev nB (R : Type) := Int → (List Int) → (List (List Int)) → Int → Int → R
abbrev pw (R : Type) := Int → (List Int) → (List (List Int)) → Int → Int → (List Int) → Int → Int → R
def aH.s1 (k : Nat) (r0 : nB lg) (r1 : pw lg) : pw lg := fun x1 x5 x16 x17 x18 x22 x23 x24 => if x24 < x23 then (if 0 ≤ x24 then (if x24 < x22.length then (if (rd x22 x24) = x1 then (if 0 ≤ x24 then (if x24 < x5.length then (r1 x1 (x5.set x24.toNat x1) x16 x17 x18 x22 x23 (wrap64 (x24 + 1))) else none) else none) else (r1 x1 x5 x16 x17 x18 x22 x23 (wrap64 (x24 + 1)))) else none) else none) else (r0 x1 x5 x16 x17 (wrap64 (x18 + 1)))
def aH.l1 (k : Nat) (r0 : nB lg) : Nat → pw lg
 | 0 => Z8
 | n + 1 => aH.s1 k r0 (aH.l1 k r0 n)
def aH.s0 (k : Nat) (r0 : nB lg) (r1 : pw lg) : nB lg := fun x1 x5 x16 x17 x18 => if x18 < x17 then (if 0 ≤ x18 then (if x18 < x16.length then (r1 x1 x5 x16 x17 x18 (cP ([] : List Int) x16 x18) ((cP ([] : List Int) x16 x18).length : Int) 0) else none) else none) else (some x5)
def aH.l0 (k : Nat) : Nat → nB lg
 | 0 => Z5
 | n + 1 => aH.s0 k (aH.l0 k n) (aH.l1 k (aH.l0 k n) k)
def aH.g (k : Nat) (r0 : nB lg) (l0 : List (List Int)) (a1 : Int) : Option (List Int) := if 0 < (l0.length : Int) then ((cz.f [(-1)] ((cP ([] : List Int) l0 0).length : Int)).bind fun t1 => r0 a1 t1 l0 (l0.length : Int) 0) else none
def aH.f (k : Nat) (l0 : List (List Int)) (a1 : Int) : Option (List Int) := aH.g k (aH.l0 k k) l0 a1
def wP (k : Nat) : bD := ⟨[sM, sI], [(false, [.own 2 (.int .i64)])], U2 (aH.f k)⟩
def EH (k : Nat) : En := ⟨tb, bn [(109, Ox k)], aX [(0, lz [1, 5, 16, 17, 18]), (2, lz [1, 5, 16, 17, 18, 22, 23, 24])], k, 0, aX [], []⟩
def lW : nB St := fun x1 x5 x16 x17 x18 => ⟨39, bX [(1, aI x1), (5, .own 0), (16, aM x16), (17, aI x17), (18, aI x18)], Go.V.look [(0, .flat 2 (.int .i64) x5)]⟩
def Ct : List Bool := [t', t', f', t', f']
def xT : pw St := fun x1 x5 x16 x17 x18 x22 x23 x24 => ⟨39, bX [(1, aI x1), (5, .own 0), (16, aM x16), (17, aI x17), (18, aI x18), (22, aL x22), (23, aI x23), (24, aI x24)], Go.V.look [(0, .flat 2 (.int .i64) x5)]⟩
def Cu : List Bool := [t', t', f', t', f', f', t', t', f', f', t', t', f']
def IV (k : Nat) (p : List Bool) (r : List (St → lg)) : Nat → St → lg := cC (EH k) (wP k) Try.f201 p r
theorem Na (k) (R0 : St → lg) (rec : St → lg) (v) : bJ (EH k) (wP k) Try.f201 Cu [R0] rec (U8 xT v) = U8 (aH.s1 k (W5 R0 lW) (W8 rec xT)) v := by kernel_rfl
theorem Ms (k) (R0 : St → lg) (n) : W8 (IV k Cu [R0] n) xT = aH.l1 k (W5 R0 lW) n :=
 u8 (lq (EH k) (wP k) (fun rec => U8 (aH.s1 k (W5 R0 lW) (C8 rec))) (fun n => U8 (aH.l1 k (W5 R0 lW) n)) (Na k R0) n)
theorem M9 (k) (rec : St → lg) (G1 : pw lg) (h1 : W8 (IV k Cu [rec] k) xT = G1) (v) : bJ (EH k) (wP k) Try.f201 Ct [] rec (U5 lW v) = U5 (aH.s0 k (W5 rec lW) G1) v := by
 subst h1
 kernel_rfl
theorem Mr (k) (n) : W5 (IV k Ct [] n) lW = aH.l0 k n :=
 u5 (lq (EH k) (wP k) (fun rec => U5 (aH.s0 k (C5 rec) (aH.l1 k (C5 rec) k))) (fun n => U5 (aH.l0 k n)) (fun rec v => M9 k rec _ (Ms k rec k) v) n)
theorem Om (k) : bf Try.prog 201 (wP k) := mo Try.func201 (oc (Qg k) on) fun x => (show cc (EH k) (wP k) Try.f201 x = aH.g k (W5 (IV k Ct [] k) lW) x.1 x.2 by kernel_rfl).trans (by rw [Mr]; rfl)
abbrev pb := Option (List Int)
abbrev sn (R : Type) := (List Int) → Int → (List Int) → (List Int) → Int → Int → R
abbrev pt (R : Type) := (List Int) → (List Int) → (List Int) → Int → Int → R
def bk.s1 (k : Nat) (r1 : pt pb) : pt pb := fun x0 x5 x6 x27 x28 => if x28 < x27 then (if 0 ≤ x28 then (if x28 < x5.length then (if (wrap64 (x28 + 1)) < (x5.length : Int) then (if 0 ≤ (wrap64 (x28 + 1)) then (if (wrap64 (x28 + 1)) < (x5.length : Int) then (if x6.length + 1 ≤ 1099511627776 then (r1 x0 x5 (x6 ++ [(wrap64 ((rd x5 (wrap64 (x28 + 1))) - (rd x5 x28)))]) x27 (wrap64 (x28 + 1))) else none) else none) else none) else (if 0 < (x5.length : Int) then ((dx.f x0).bind fun t1 => if x6.length + 1 ≤ 1099511627776 then (r1 x0 x5 (x6 ++ [(wrap64 ((wrap64 ((rd x5 0) + t1)) - (rd x5 x28)))]) x27 (wrap64 (x28 + 1))) else none) else none)) else none) else none) else (some x6)
def bk.l1 (k : Nat) : Nat → pt pb
 | 0 => Z5
 | n + 1 => bk.s1 k (bk.l1 k n)
def bk.s0 (k : Nat) (r0 : sn pb) (r1 : pt pb) : sn pb := fun x0 x1 x5 x11 x12 x13 => if x13 < x12 then (if 0 ≤ x13 then (if x13 < x11.length then (if (rd x11 x13) = x1 then (if x5.length + 1 ≤ 1099511627776 then (r0 x0 x1 (x5 ++ [x13]) x11 x12 (wrap64 (x13 + 1))) else none) else (r0 x0 x1 x5 x11 x12 (wrap64 (x13 + 1)))) else none) else none) else (r1 x0 x5 [] (x5.length : Int) 0)
def bk.l0 (k : Nat) : Nat → sn pb
 | 0 => Z6
 | n + 1 => bk.s0 k (bk.l0 k n) (bk.l1 k k)
def bk.g (k : Nat) (r0 : sn pb) (l0 : List Int) (a1 : Int) : Option (List Int) := r0 l0 a1 [] l0 (l0.length : Int) 0
def bk.f (k : Nat) (l0 : List Int) (a1 : Int) : Option (List Int) := bk.g k (bk.l0 k k) l0 a1
def wO (k : Nat) : bD := ⟨[sL, sI], [(false, [.own 2 (.int .i64)])], U2 (bk.f k)⟩
def EG (k : Nat) : En := ⟨tb, bn [(149, Bj k)], aX [(0, [(0, []), (1, []), (5, [.nil 2 (.int .i64)]), (6, []), (11, []), (12, []), (13, [])]), (2, [(0, []), (5, []), (6, [.nil 2 (.int .i64)]), (26, []), (27, []), (28, [])])], k, 0, aX [], []⟩
def xR : sn St := fun x0 x1 x5 x11 x12 x13 => ⟨61, bX [(0, aL x0), (1, aI x1), (5, .own 0), (6, .nil), (11, aL x11), (12, aI x12), (13, aI x13)], Go.V.look [(0, .flat 2 (.int .i64) x5)]⟩
def Cr : List Bool := [t', t', f', t', f']
def xS : pt St := fun x0 x5 x6 x27 x28 => ⟨61, bX [(0, aL x0), (5, .own 0), (6, .own 1), (26, .own 0), (27, aI x27), (28, aI x28)], Go.V.look [(0, .flat 2 (.int .i64) x5), (1, .flat 2 (.int .i64) x6)]⟩
def Cs : List Bool := [t', t', t', f', t', f']
def IU (k : Nat) (p : List Bool) (r : List (St → pb)) : Nat → St → pb := cC (EG k) (wO k) Try.f200 p r
theorem M8 (k) (rec : St → pb) (v) : bJ (EG k) (wO k) Try.f200 Cs [] rec (U5 xS v) = U5 (bk.s1 k (W5 rec xS)) v := by kernel_rfl
theorem Mq (k) (n) : W5 (IU k Cs [] n) xS = bk.l1 k n :=
 u5 (lq (EG k) (wO k) (fun rec => U5 (bk.s1 k (C5 rec))) (fun n => U5 (bk.l1 k n)) (M8 k) n)
theorem M7 (k) (rec : St → pb) (G1 : pt pb) (h1 : W5 (IU k Cs [] k) xS = G1) (v) : bJ (EG k) (wO k) Try.f200 Cr [] rec (U6 xR v) = U6 (bk.s0 k (W6 rec xR) G1) v := by
 subst h1
 kernel_rfl
theorem Mp (k) (n) : W6 (IU k Cr [] n) xR = bk.l0 k n :=
 u6 (lq (EG k) (wO k) (fun rec => U6 (bk.s0 k (C6 rec) (bk.l1 k k))) (fun n => U6 (bk.l0 k n)) (fun rec v => M7 k rec _ (Mq k k) v) n)
theorem Ol (k) : bf Try.prog 200 (wO k) := mo Try.func200 (oc (IZ k) on) fun x => (show cc (EG k) (wO k) Try.f200 x = bk.g k (W6 (IU k Cr [] k) xR) x.1 x.2 by kernel_rfl).trans (by rw [Mp]; rfl)
abbrev AT := Option (Int)
abbrev sg (R : Type) := Int → (List Int) → Int → Int → R
def bA.s0 (k : Nat) (r0 : sg AT) : sg AT := fun x3 x6 x7 x8 => if x8 < x7 then (if 0 ≤ x8 then (if x8 < x6.length then (r0 (jI x3 (rd x6 x8)) x6 x7 (wrap64 (x8 + 1))) else none) else none) else (some x3)
def bA.l0 (k : Nat) : Nat → sg AT
 | 0 => Z4
 | n + 1 => bA.s0 k (bA.l0 k n)
def bA.g (k : Nat) (r0 : sg AT) (l0 : List Int) : Option (Int) := r0 0 l0 (l0.length : Int) 0
def bA.f (k : Nat) (l0 : List Int) : Option (Int) := bA.g k (bA.l0 k k) l0
def Bm (k : Nat) : bD := ⟨[sL], [sI], bA.f k⟩
def IH (k : Nat) : En := ⟨tb, bn [], aX [(0, lz [3, 6, 7, 8])], k, 0, aX [], []⟩
def xQ : sg St := fun x3 x6 x7 x8 => ⟨17, bX [(3, aI x3), (6, aL x6), (7, aI x7), (8, aI x8)], Go.V.look []⟩
def Cq : List Bool := [t', t', f', t', f']
def NZ (k : Nat) (p : List Bool) (r : List (St → AT)) : Nat → St → AT := cC (IH k) (Bm k) Try.f199 p r
theorem M6 (k) (rec : St → AT) (v) : bJ (IH k) (Bm k) Try.f199 Cq [] rec (U4 xQ v) = U4 (bA.s0 k (W4 rec xQ)) v := by kernel_rfl
theorem Mn (k) (n) : W4 (NZ k Cq [] n) xQ = bA.l0 k n :=
 u4 (lq (IH k) (Bm k) (fun rec => U4 (bA.s0 k (C4 rec))) (fun n => U4 (bA.l0 k n)) (M6 k) n)
theorem Ok (k) : bf Try.prog 199 (Bm k) := mo Try.func199 on fun x => (show cc (IH k) (Bm k) Try.f199 x = bA.g k (W4 (NZ k Cq [] k) xQ) x by kernel_rfl).trans (by rw [Mn]; rfl)
abbrev O89 := Option (Bool × Int)
abbrev y8 (R : Type) := (List (List Int)) → (List Int) → Int → Int → R
def aZ.s0 (k : Nat) (r0 : y8 O89) : y8 O89 := fun x1 x27 x28 x29 => if x29 < x28 then (if 0 ≤ x29 then (if x29 < x27.length then ((aH.f k x1 x29).bind fun t6 => (bk.f k t6 x29).bind fun t7 => (bA.f k t7).bind fun t8 => if t8 = 0 then (some (false, 0)) else (if (rd x27 x29) < t8 then (some (false, 0)) else (r0 x1 x27 x28 (wrap64 (x29 + 1))))) else none) else none) else (some (true, 0))
def aZ.l0 (k : Nat) : Nat → y8 O89
 | 0 => Z4
 | n + 1 => aZ.s0 k (aZ.l0 k n)
def aZ.g (k : Nat) (r0 : y8 O89) (l0_0 : List Int) (l1 : List (List Int)) : Option (Bool × Int) := (dy.f l0_0).bind fun t1 => (cY.f k (jI t1 1) l1).bind fun t2 => (fh.f k l0_0 t2).bind fun t3 => if t3 = 0 then ((dy.f l0_0).bind fun t4 => (aD.f k t4 l1).bind fun t5 => if 0 < (t5.length : Int) then (some (false, 5)) else (r0 l1 l0_0 (l0_0.length : Int) 0)) else (some (false, t3))
def aZ.f (k : Nat) (l0_0 : List Int) (l1 : List (List Int)) : Option (Bool × Int) := aZ.g k (aZ.l0 k k) l0_0 l1
def S89 (k : Nat) : bD := ⟨[sT, sM], [sB, sI], U2 (aZ.f k)⟩
def E89 (k : Nat) : En := ⟨tb, bn [(197, E7 k), (196, yY k), (138, Gi k), (198, qO k), (201, wP k), (200, wO k), (199, Bm k)], aX [(0, lz [1, 27, 28, 29])], k, 0, aX [], []⟩
def D2 : y8 St := fun x1 x27 x28 x29 => ⟨48, bX [(1, aM x1), (27, aL x27), (28, aI x28), (29, aI x29)], Go.V.look []⟩
def Hv : List Bool := [t', t', t', f', t', f']
def L89 (k : Nat) (p : List Bool) (r : List (St → O89)) : Nat → St → O89 := cC (E89 k) (S89 k) Try.f89 p r
theorem Pl (k) (rec : St → O89) (v) : bJ (E89 k) (S89 k) Try.f89 Hv [] rec (U4 D2 v) = U4 (aZ.s0 k (W4 rec D2)) v := by kernel_rfl
theorem O7 (k) (n) : W4 (L89 k Hv [] n) D2 = aZ.l0 k n :=
 u4 (lq (E89 k) (S89 k) (fun rec => U4 (aZ.s0 k (C4 rec))) (fun n => U4 (aZ.l0 k n)) (Pl k) n)
theorem M89 (k) : bf Try.prog 89 (S89 k) := mo Try.func89 (oc (K9 k) (oc (Gb k) (oc (Og k) (oc (La k) (oc (Om k) (oc (Ol k) (oc (Ok k) on))))))) fun x => (show cc (E89 k) (S89 k) Try.f89 x = aZ.g k (W4 (L89 k Hv [] k) D2) x.1 x.2 by kernel_rfl).trans (by rw [O7]; rfl)
abbrev AS := Option (Bool)
abbrev se (R : Type) := (List Int) → Int → Int → R
def bM.s0 (k : Nat) (r0 : se AS) : se AS := fun x0 x1 x5 => if x5 < x0.length then (if 0 ≤ x5 then (if x5 < x0.length then ((bq.f (rd x0 x5) (-1) (wrap64 (x1 - 1))).bind fun t1 => if t1 = true then (r0 x0 x1 (wrap64 (x5 + 1))) else (some false)) else none) else none) else ((bq.f (x0.length : Int) 1 120).bind fun t2 => some t2)
def bM.l0 (k : Nat) : Nat → se AS
 | 0 => Z3
 | n + 1 => bM.s0 k (bM.l0 k n)
def bM.g (k : Nat) (r0 : se AS) (l0 : List Int) (a1 : Int) : Option (Bool) := r0 l0 a1 0
def bM.f (k : Nat) (l0 : List Int) (a1 : Int) : Option (Bool) := bM.g k (bM.l0 k k) l0 a1
def E6 (k : Nat) : bD := ⟨[sL, sI], [sB], U2 (bM.f k)⟩
def IG (k : Nat) : En := ⟨tb, bn [(102, wN k)], aX [(0, lz [0, 1, 5])], k, 0, aX [], []⟩
def xO : se St := fun x0 x1 x5 => ⟨23, bX [(0, aL x0), (1, aI x1), (5, aI x5)], Go.V.look []⟩
def Cm : List Bool := [t', f', t', f']
def NY (k : Nat) (p : List Bool) (r : List (St → AS)) : Nat → St → AS := cC (IG k) (E6 k) Try.f192 p r
theorem M1 (k) (rec : St → AS) (v) : bJ (IG k) (E6 k) Try.f192 Cm [] rec (U3 xO v) = U3 (bM.s0 k (W3 rec xO)) v := by kernel_rfl
theorem Mj (k) (n) : W3 (NY k Cm [] n) xO = bM.l0 k n :=
 u3 (lq (IG k) (E6 k) (fun rec => U3 (bM.s0 k (C3 rec))) (fun n => U3 (bM.l0 k n)) (M1 k) n)
theorem Qv (k) : bf Try.prog 192 (E6 k) := mo Try.func192 (oc (ET k) on) fun x => (show cc (IG k) (E6 k) Try.f192 x = bM.g k (W3 (NY k Cm [] k) xO) x.1 x.2 by kernel_rfl).trans (by rw [Mj]; rfl)
abbrev AU := Option (Bool)
abbrev so (R : Type) := Int → (List (List Int)) → Int → R
def bO.s0 (k : Nat) (r0 : so AU) : so AU := fun x0 x1 x5 => if x5 < x1.length then (if 0 ≤ x5 then (if x5 < x1.length then ((bM.f k (cP ([] : List Int) x1 x5) x0).bind fun t2 => if t2 = true then (if 0 ≤ x5 then (if x5 < x1.length then (if 0 < (x1.length : Int) then (if ((cP ([] : List Int) x1 x5).length : Int) = ((cP ([] : List Int) x1 0).length : Int) then (r0 x0 x1 (wrap64 (x5 + 1))) else (some false)) else none) else none) else none) else (some false)) else none) else none) else (some true)
def bO.l0 (k : Nat) : Nat → so AU
 | 0 => Z3
 | n + 1 => bO.s0 k (bO.l0 k n)
def bO.g (k : Nat) (r0 : so AU) (a0 : Int) (l1 : List (List Int)) : Option (Bool) := (bq.f a0 1 8).bind fun t1 => if t1 = true then (if (l1.length : Int) < 1 then (some false) else (if 4 < (l1.length : Int) then (some false) else (r0 a0 l1 0))) else (some false)
def bO.f (k : Nat) (a0 : Int) (l1 : List (List Int)) : Option (Bool) := bO.g k (bO.l0 k k) a0 l1
def uS (k : Nat) : bD := ⟨[sI, sM], [sB], U2 (bO.f k)⟩
def II (k : Nat) : En := ⟨tb, bn [(102, wN k), (192, E6 k)], aX [(0, lz [0, 1, 5])], k, 0, aX [], []⟩
def xU : so St := fun x0 x1 x5 => ⟨44, bX [(0, aI x0), (1, aM x1), (5, aI x5)], Go.V.look []⟩
def Cv : List Bool := [t', t', f', t', f']
def N0 (k : Nat) (p : List Bool) (r : List (St → AU)) : Nat → St → AU := cC (II k) (uS k) Try.f202 p r
theorem Nb (k) (rec : St → AU) (v) : bJ (II k) (uS k) Try.f202 Cv [] rec (U3 xU v) = U3 (bO.s0 k (W3 rec xU)) v := by kernel_rfl
theorem Mt (k) (n) : W3 (N0 k Cv [] n) xU = bO.l0 k n :=
 u3 (lq (II k) (uS k) (fun rec => U3 (bO.s0 k (C3 rec))) (fun n => U3 (bO.l0 k n)) (Nb k) n)
theorem Gc (k) : bf Try.prog 202 (uS k) := mo Try.func202 (oc (ET k) (oc (Qv k) on)) fun x => (show cc (II k) (uS k) Try.f202 x = bO.g k (W3 (N0 k Cv [] k) xU) x.1 x.2 by kernel_rfl).trans (by rw [Mt]; rfl)
abbrev A1 := Option (Int)
abbrev sw (R : Type) := (List (List Int)) → Int → Int → Int → Int → R
def b7.s0 (k : Nat) (r0 : sw A1) : sw A1 := fun x0 x1 x2 x7 x8 => if x8 < x0.length then (if 0 ≤ x8 then (if x8 < x0.length then (if 0 ≤ x1 then (if x1 < ((cP ([] : List Int) x0 x8).length : Int) then (if (rd (cP ([] : List Int) x0 x8) x1) = x2 then (r0 x0 x1 x2 (wrap64 (x7 + 1)) (wrap64 (x8 + 1))) else (r0 x0 x1 x2 x7 (wrap64 (x8 + 1)))) else none) else none) else none) else none) else (some x7)
def b7.l0 (k : Nat) : Nat → sw A1
 | 0 => Z5
 | n + 1 => b7.s0 k (b7.l0 k n)
def b7.g (k : Nat) (r0 : sw A1) (l0 : List (List Int)) (a1 : Int) (a2 : Int) : Option (Int) := r0 l0 a1 a2 0 0
def b7.f (k : Nat) (l0 : List (List Int)) (a1 : Int) (a2 : Int) : Option (Int) := b7.g k (b7.l0 k k) l0 a1 a2
def Bo (k : Nat) : bD := ⟨[sM, sI, sI], [sI], U3 (b7.f k)⟩
def IN (k : Nat) : En := ⟨tb, bn [], aX [(0, lz [0, 1, 2, 7, 8])], k, 0, aX [], []⟩
def yc : sw St := fun x0 x1 x2 x7 x8 => ⟨27, bX [(0, aM x0), (1, aI x1), (2, aI x2), (7, aI x7), (8, aI x8)], Go.V.look []⟩
def CF : List Bool := [t', t', f', t', f']
def N5 (k : Nat) (p : List Bool) (r : List (St → A1)) : Nat → St → A1 := cC (IN k) (Bo k) Try.f229 p r
theorem Nl (k) (rec : St → A1) (v) : bJ (IN k) (Bo k) Try.f229 CF [] rec (U5 yc v) = U5 (b7.s0 k (W5 rec yc)) v := by kernel_rfl
theorem MC (k) (n) : W5 (N5 k CF [] n) yc = b7.l0 k n :=
 u5 (lq (IN k) (Bo k) (fun rec => U5 (b7.s0 k (C5 rec))) (fun n => U5 (b7.l0 k n)) (Nl k) n)
theorem Oo (k) : bf Try.prog 229 (Bo k) := mo Try.func229 on fun x => (show cc (IN k) (Bo k) Try.f229 x = b7.g k (W5 (N5 k CF [] k) yc) x.1 x.2.1 x.2.2 by kernel_rfl).trans (by rw [MC]; rfl)
abbrev lh := Option (List (List Int))
abbrev nC (R : Type) := Int → (List (List Int)) → (List (List Int)) → Int → R
abbrev pz (R : Type) := Int → (List (List Int)) → (List (List Int)) → Int → Int → R
def aE.s1 (k : Nat) (r0 : nC lh) (r1 : pz lh) : pz lh := fun x0 x1 x5 x6 x7 => if x7 < x0 then ((b7.f k x1 x6 x7).bind fun t1 => if 1 < t1 then (if x5.length + 1 ≤ 1099511627776 then (r1 x0 x1 (x5 ++ [[x6, x7]]) x6 (wrap64 (x7 + 1))) else none) else (r1 x0 x1 x5 x6 (wrap64 (x7 + 1)))) else (r0 x0 x1 x5 (wrap64 (x6 + 1)))
def aE.l1 (k : Nat) (r0 : nC lh) : Nat → pz lh
 | 0 => Z5
 | n + 1 => aE.s1 k r0 (aE.l1 k r0 n)
def aE.s0 (k : Nat) (r0 : nC lh) (r1 : pz lh) : nC lh := fun x0 x1 x5 x6 => if 0 < (x1.length : Int) then (if x6 < ((cP ([] : List Int) x1 0).length : Int) then (r1 x0 x1 x5 x6 0) else (some x5)) else none
def aE.l0 (k : Nat) : Nat → nC lh
 | 0 => Z4
 | n + 1 => aE.s0 k (aE.l0 k n) (aE.l1 k (aE.l0 k n) k)
def aE.g (k : Nat) (r0 : nC lh) (a0 : Int) (l1 : List (List Int)) : Option (List (List Int)) := r0 a0 l1 [] 0
def aE.f (k : Nat) (a0 : Int) (l1 : List (List Int)) : Option (List (List Int)) := aE.g k (aE.l0 k k) a0 l1
def uT (k : Nat) : bD := ⟨[sI, sM], [(false, [.own 29 (.list (.int .i64))])], U2 (aE.f k)⟩
def EI (k : Nat) : En := ⟨tb, bn [(229, Bo k)], aX [(0, lz [0, 1, 5, 6]), (2, lz [0, 1, 5, 6, 7])], k, 0, aX [], []⟩
def lX : nC St := fun x0 x1 x5 x6 => ⟨34, bX [(0, aI x0), (1, aM x1), (5, .own 0), (6, aI x6)], Go.V.look [(0, .flat 29 (.list (.int .i64)) x5)]⟩
def Cw : List Bool := [t', t', f', t', f']
def xV : pz St := fun x0 x1 x5 x6 x7 => ⟨34, bX [(0, aI x0), (1, aM x1), (5, .own 0), (6, aI x6), (7, aI x7)], Go.V.look [(0, .flat 29 (.list (.int .i64)) x5)]⟩
def Cy : List Bool := [t', t', f', t', f', f', t', f', f', t', f']
def IW (k : Nat) (p : List Bool) (r : List (St → lh)) : Nat → St → lh := cC (EI k) (uT k) Try.f203 p r
theorem Nd (k) (R0 : St → lh) (rec : St → lh) (v) : bJ (EI k) (uT k) Try.f203 Cy [R0] rec (U5 xV v) = U5 (aE.s1 k (W4 R0 lX) (W5 rec xV)) v := by kernel_rfl
theorem Mv (k) (R0 : St → lh) (n) : W5 (IW k Cy [R0] n) xV = aE.l1 k (W4 R0 lX) n :=
 u5 (lq (EI k) (uT k) (fun rec => U5 (aE.s1 k (W4 R0 lX) (C5 rec))) (fun n => U5 (aE.l1 k (W4 R0 lX) n)) (Nd k R0) n)
theorem Nc (k) (rec : St → lh) (G1 : pz lh) (h1 : W5 (IW k Cy [rec] k) xV = G1) (v) : bJ (EI k) (uT k) Try.f203 Cw [] rec (U4 lX v) = U4 (aE.s0 k (W4 rec lX) G1) v := by
 subst h1
 kernel_rfl
theorem Mu (k) (n) : W4 (IW k Cw [] n) lX = aE.l0 k n :=
 u4 (lq (EI k) (uT k) (fun rec => U4 (aE.s0 k (C4 rec) (aE.l1 k (C4 rec) k))) (fun n => U4 (aE.l0 k n)) (fun rec v => Nc k rec _ (Mv k rec k) v) n)
theorem Lc (k) : bf Try.prog 203 (uT k) := mo Try.func203 (oc (Oo k) on) fun x => (show cc (EI k) (uT k) Try.f203 x = aE.g k (W4 (IW k Cw [] k) lX) x.1 x.2 by kernel_rfl).trans (by rw [Mu]; rfl)
abbrev AW := Option (Int)
abbrev sq (R : Type) := (List (List Int)) → Int → (List Int) → Int → R
def bQ.s0 (k : Nat) (r0 : sq AW) : sq AW := fun x0 x1 x5 x6 => if 0 < (x0.length : Int) then (if x6 < ((cP ([] : List Int) x0 0).length : Int) then ((b7.f k x0 x6 x1).bind fun t1 => if 0 < t1 then (if x5.length + 1 ≤ 1099511627776 then (r0 x0 x1 (x5 ++ [x1]) (wrap64 (x6 + 1))) else none) else (if x5.length + 1 ≤ 1099511627776 then (r0 x0 x1 (x5 ++ [(-1)]) (wrap64 (x6 + 1))) else none)) else ((aJ.f k x5 x1).bind fun t2 => some t2)) else none
def bQ.l0 (k : Nat) : Nat → sq AW
 | 0 => Z4
 | n + 1 => bQ.s0 k (bQ.l0 k n)
def bQ.g (k : Nat) (r0 : sq AW) (l0 : List (List Int)) (a1 : Int) : Option (Int) := r0 l0 a1 [] 0
def bQ.f (k : Nat) (l0 : List (List Int)) (a1 : Int) : Option (Int) := bQ.g k (bQ.l0 k k) l0 a1
def Bn (k : Nat) : bD := ⟨[sM, sI], [sI], U2 (bQ.f k)⟩
def IJ (k : Nat) : En := ⟨tb, bn [(229, Bo k), (189, Bk k)], aX [(0, lz [0, 1, 5, 6])], k, 0, aX [], []⟩
def xW : sq St := fun x0 x1 x5 x6 => ⟨30, bX [(0, aM x0), (1, aI x1), (5, .own 0), (6, aI x6)], Go.V.look [(0, .flat 2 (.int .i64) x5)]⟩
def Cz : List Bool := [t', t', f', t', f']
def N1 (k : Nat) (p : List Bool) (r : List (St → AW)) : Nat → St → AW := cC (IJ k) (Bn k) Try.f204 p r
theorem Nf (k) (rec : St → AW) (v) : bJ (IJ k) (Bn k) Try.f204 Cz [] rec (U4 xW v) = U4 (bQ.s0 k (W4 rec xW)) v := by kernel_rfl
theorem Mw (k) (n) : W4 (N1 k Cz [] n) xW = bQ.l0 k n :=
 u4 (lq (IJ k) (Bn k) (fun rec => U4 (bQ.s0 k (C4 rec))) (fun n => U4 (bQ.l0 k n)) (Nf k) n)
theorem On (k) : bf Try.prog 204 (Bn k) := mo Try.func204 (oc (Oo k) (oc (Oi k) on)) fun x => (show cc (IJ k) (Bn k) Try.f204 x = bQ.g k (W4 (N1 k Cz [] k) xW) x.1 x.2 by kernel_rfl).trans (by rw [Mw]; rfl)
abbrev O90 := Option (Bool × Int)
abbrev y9 (R : Type) := (List (List Int)) → (List Int) → Int → R
def a5.s0 (k : Nat) (r0 : y9 O90) : y9 O90 := fun x1 x2_0 x6 => (di.f x2_0).bind fun t6 => if x6 < t6 then ((bQ.f k x1 x6).bind fun t7 => if t7 = 0 then (some (false, 0)) else (if 0 ≤ x6 then (if x6 < x2_0.length then (if (rd x2_0 x6) < t7 then (some (false, 0)) else (r0 x1 x2_0 (wrap64 (x6 + 1)))) else none) else none)) else (some (true, 0))
def a5.l0 (k : Nat) : Nat → y9 O90
 | 0 => Z3
 | n + 1 => a5.s0 k (a5.l0 k n)
def a5.g (k : Nat) (r0 : y9 O90) (l0_0 : List Int) (l1 : List (List Int)) : Option (Bool × Int) := (ca.f k l0_0).bind fun t1 => if (!decide (t1 = true)) = true then (some (false, 1)) else ((di.f l0_0).bind fun t2 => (bO.f k t2 l1).bind fun t3 => if (!decide (t3 = true)) = true then (some (false, 2)) else ((di.f l0_0).bind fun t4 => (aE.f k t4 l1).bind fun t5 => if (decide (0 < (t5.length : Int))) = true then (some (false, 5)) else (r0 l1 l0_0 0)))
def a5.f (k : Nat) (l0_0 : List Int) (l1 : List (List Int)) : Option (Bool × Int) := a5.g k (a5.l0 k k) l0_0 l1
def S90 (k : Nat) : bD := ⟨[sT, sM], [sB, sI], U2 (a5.f k)⟩
def E90 (k : Nat) : En := ⟨tb, bn [(144, yX k), (142, Bi k), (202, uS k), (203, uT k), (204, Bn k)], aX [(1, lz [1, 2, 6])], k, 0, aX [], []⟩
def D3 : y9 St := fun x1 x2_0 x6 => ⟨45, bX [(1, aM x1), (2, .box 0 0), (6, aI x6)], Go.V.look [(0, .cells [aL x2_0])]⟩
def Hw : List Bool := [t', t', f', t', f']
def L90 (k : Nat) (p : List Bool) (r : List (St → O90)) : Nat → St → O90 := cC (E90 k) (S90 k) Try.f90 p r
theorem Pm (k) (rec : St → O90) (v) : bJ (E90 k) (S90 k) Try.f90 Hw [] rec (U3 D3 v) = U3 (a5.s0 k (W3 rec D3)) v := by kernel_rfl
theorem O8 (k) (n) : W3 (L90 k Hw [] n) D3 = a5.l0 k n :=
 u3 (lq (E90 k) (S90 k) (fun rec => U3 (a5.s0 k (C3 rec))) (fun n => U3 (a5.l0 k n)) (Pm k) n)
theorem M90 (k) : bf Try.prog 90 (S90 k) := mo Try.func90 (oc (K8 k) (oc (Ga k) (oc (Gc k) (oc (Lc k) (oc (On k) on))))) fun x => (show cc (E90 k) (S90 k) Try.f90 x = a5.g k (W3 (L90 k Hw [] k) D3) x.1 x.2 by kernel_rfl).trans (by rw [O8]; rfl)
def gI.f (a0 : (List Int) × Int × Int) (a1 : Int) : Option (Int × ((List Int) × Int × Int)) := (ak.f (a0.1, a0.2.1, a0.2.2) 14).bind fun t1 => if t1.1 = 0 then ((bT.f (t1.2.1, t1.2.2.1, t1.2.2.2) [(-1), (wrap64 (a1 + 1)), 1099511627776, (-4611686018427387904)]).bind fun t2 => some (t2.1, t2.2.1, t2.2.2.1, t2.2.2.2)) else ((ak.f (t1.2.1, t1.2.2.1, t1.2.2.2) (wrap64 (a1 + 1))).bind fun t3 => some (t3.1, t3.2.1, t3.2.2.1, t3.2.2.2))
def I8 (k : Nat) : bD := ⟨[sC, sI], [sI], U2 gI.f⟩
def PO (k : Nat) : En := ⟨tb, bn [(147, qN k), (136, uR k)], aX [], k, 1, aX [], []⟩
theorem Qr (k) : bf Try.prog 137 (I8 k) := mo Try.func137 (oc (uH k) (oc (yT k) on)) fun x => (by kernel_rfl : cc (PO k) (I8 k) Try.f137 x = (I8 k).fn x)
def ka.f (k : Nat) (l0 : List Int) : Option (Int × (List (List Int)) × Int) := (bC.f k l0).bind fun t1 => (ba.f k l0).bind fun t2 => (ak.f (t1.1, t1.2.1, t1.2.2) 20).bind fun t3 => if t3.1 = 0 then ((bT.f (t3.2.1, t3.2.2.1, t3.2.2.2) [0, 9, (wrap64 ((t2.1.length : Int) - 1))]).bind fun t4 => (gI.f (t4.2.1, t4.2.2.1, t4.2.2.2) (jI (wrap64 (t4.1 - 1)) 0)).bind fun t5 => some (t4.1, t2.2, t5.1)) else ((gI.f (t3.2.1, t3.2.2.1, t3.2.2.2) (jI (wrap64 ((t2.1.length : Int) - 1)) 0)).bind fun t6 => some ((t2.1.length : Int), t2.2, t6.1))
def Jb (k : Nat) : bD := ⟨[sU], [sI, sM, sI], ka.f k⟩
def PY (k : Nat) : En := ⟨tb, bn [(135, Bh k), (195, Lf k), (147, qN k), (136, uR k), (137, I8 k)], aX [], k, 0, aX [], []⟩
theorem Qw (k) : bf Try.prog 205 (Jb k) := mo Try.func205 (oc (Of k) (oc (Oj k) (oc (uH k) (oc (yT k) (oc (Qr k) on))))) fun x => (by kernel_rfl : cc (PY k) (Jb k) Try.f205 x = (Jb k).fn x)
def eF.f (k : Nat) (l0 : List Int) : Option (Int × (List (List Int)) × Int) := (ka.f k l0).bind fun t1 => some (t1.1, t1.2.1, t1.2.2)
def S91 (k : Nat) : bD := ⟨[sU], [sI, sM, sI], eF.f k⟩
def E91 (k : Nat) : En := ⟨tb, bn [(205, Jb k)], aX [], k, 0, aX [], []⟩
theorem M91 (k) : bf Try.prog 91 (S91 k) := mo Try.func91 (oc (Qw k) on) fun x => (by kernel_rfl : cc (E91 k) (S91 k) Try.f91 x = (S91 k).fn x)
def fC.f (l0 : List Int) (a1 : Int) (a2 : Int) : Option (Bool) := if 0 ≤ a1 then (if a1 < (l0.length : Int) then (some (decide ((rd l0 a1) = a2))) else none) else none
def Jc (k : Nat) : bD := ⟨[sL, (false, [.dat (.ptr (.int .i64))]), (false, [.dat (.ptr (.int .i64))])], [sB], U3 fC.f⟩
def PZ (k : Nat) : En := ⟨tb, bn [], aX [], k, 0, aX [], []⟩
theorem Qx (k) : bf Try.prog 207 (Jc k) := mo Try.func207 on fun x => (by kernel_rfl : cc (PZ k) (Jc k) Try.f207 x = (Jc k).fn x)
abbrev gP := Option (Int)
abbrev iq (R : Type) := (List (List Int)) → (Int × Int) → Int → Int → R
def aj.s0 (k : Nat) (r0 : iq gP) : iq gP := fun x0 x1 x7 x8 => if x8 < x7 then (if 0 ≤ x8 then (if x8 < x0.length then ((fC.f (cP ([] : List Int) x0 x8) x1.1 x1.2).bind fun t1 => if t1 = true then (some x8) else (r0 x0 x1 x7 (wrap64 (x8 + 1)))) else none) else none) else (some (-1))
def aj.l0 (k : Nat) : Nat → iq gP
 | 0 => Z4
 | n + 1 => aj.s0 k (aj.l0 k n)
def aj.g (k : Nat) (r0 : iq gP) (l0 : List (List Int)) (a1 : Int × Int) : Option (Int) := r0 l0 a1 (l0.length : Int) 0
def aj.f (k : Nat) (l0 : List (List Int)) (a1 : Int × Int) : Option (Int) := aj.g k (aj.l0 k k) l0 a1
def iX (k : Nat) : bD := ⟨[sM, (false, [.dat (.clo 207 (.pair (.ptr (.int .i64)) (.ptr (.int .i64))))])], [sI], U2 (aj.f k)⟩
def mA (k : Nat) : En := ⟨tb, bn [(207, Jc k)], aX [(0, lz [0, 1, 7, 8])], k, 0, aX [], []⟩
def jQ : iq St := fun x0 x1 x7 x8 => ⟨19, bX [(0, aM x0), (1, .dat (.clo 207 (.pair (.ptr (.int .i64)) (.ptr (.int .i64)))) x1), (7, aI x7), (8, aI x8)], Go.V.look []⟩
def mc : List Bool := [t', f', t', f']
def vr (k : Nat) (p : List Bool) (r : List (St → gP)) : Nat → St → gP := cC (mA k) (iX k) Try.f206 p r
theorem Ad (k) (rec : St → gP) (v) : bJ (mA k) (iX k) Try.f206 mc [] rec (U4 jQ v) = U4 (aj.s0 k (W4 rec jQ)) v := by kernel_rfl
theorem Ab (k) (n) : W4 (vr k mc [] n) jQ = aj.l0 k n :=
 u4 (lq (mA k) (iX k) (fun rec => U4 (aj.s0 k (C4 rec))) (fun n => U4 (aj.l0 k n)) (Ad k) n)
theorem EW (k) : bf Try.prog 206 (iX k) := mo Try.func206 (oc (Qx k) on) fun x => (show cc (mA k) (iX k) Try.f206 x = aj.g k (W4 (vr k mc [] k) jQ) x.1 x.2 by kernel_rfl).trans (by rw [Ab]; rfl)
abbrev O92 := Option (Int × Int)
abbrev za (R : Type) := (List (List Int)) → Int → (List Int) → Int → Int → R
abbrev vw (R : Type) := (List Int) → Int → Int → Int → R
def aK.s1 (k : Nat) (r1 : vw O92) : vw O92 := fun x8 x11 x50 x51 => if x51 < x50 then (if 0 ≤ x51 then (if x51 < x8.length then (if (x8.length : Int) = 0 then none else (if 0 ≤ (Int.tmod (wrap64 ((wrap64 (x51 + (x8.length : Int))) - 1)) (x8.length : Int)) then (if (Int.tmod (wrap64 ((wrap64 (x51 + (x8.length : Int))) - 1)) (x8.length : Int)) < (x8.length : Int) then (if (rd x8 x51) = (rd x8 (Int.tmod (wrap64 ((wrap64 (x51 + (x8.length : Int))) - 1)) (x8.length : Int))) then (r1 x8 x11 x50 (wrap64 (x51 + 1))) else (r1 x8 (wrap64 (x11 + 1)) x50 (wrap64 (x51 + 1)))) else none) else none)) else none) else none) else (some (x11, 0))
def aK.l1 (k : Nat) : Nat → vw O92
 | 0 => Z4
 | n + 1 => aK.s1 k (aK.l1 k n)
def aK.s0 (k : Nat) (r0 : za O92) (r1 : vw O92) : za O92 := fun x1 x5_0 x8 x35 x36 => if x36 < x35 then ((aj.f k x1 (x36, x5_0)).bind fun t4 => if 0 ≤ t4 then (if x8.length + 1 ≤ 1099511627776 then (r0 x1 x5_0 (x8 ++ [t4]) x35 (wrap64 (x36 + 1))) else none) else (r0 x1 x5_0 x8 x35 (wrap64 (x36 + 1)))) else (r1 x8 0 (x8.length : Int) 0)
def aK.l0 (k : Nat) : Nat → za O92
 | 0 => Z5
 | n + 1 => aK.s0 k (aK.l0 k n) (aK.l1 k k)
def aK.g (k : Nat) (r0 : za O92) (a0 : Int) (l1 : List (List Int)) (a2 : Int) : Option (Int × Int) := (cY.f k a0 l1).bind fun t1 => if t1 = true then ((dj.f a2 0 (wrap64 (a0 - 1))).bind fun t2 => if (!decide (t2 = true)) = true then (some (0, 2)) else ((aD.f k a0 l1).bind fun t3 => if (decide (0 < (t3.length : Int))) = true then (some (0, 5)) else (if 0 < (l1.length : Int) then (r0 l1 a2 [] ((cP ([] : List Int) l1 0).length : Int) 0) else none))) else (some (0, 2))
def aK.f (k : Nat) (a0 : Int) (l1 : List (List Int)) (a2 : Int) : Option (Int × Int) := aK.g k (aK.l0 k k) a0 l1 a2
def S92 (k : Nat) : bD := ⟨[sI, sM, sI], [sI, sI], U3 (aK.f k)⟩
def E92 (k : Nat) : En := ⟨tb, bn [(196, yY k), (108, qM k), (198, qO k), (206, iX k)], aX [(1, [(1, []), (5, []), (8, [.nil 3 (.int .i64)]), (35, []), (36, [])]), (3, lz [8, 11, 49, 50, 51])], k, 0, aX [], []⟩
def D4 : za St := fun x1 x5_0 x8 x35 x36 => ⟨73, bX [(1, aM x1), (5, .box 0 0), (8, .own 1), (35, aI x35), (36, aI x36)], Go.V.look [(0, .cells [aI x5_0]), (1, .flat 3 (.int .i64) x8)]⟩
def Hx : List Bool := [t', t', t', f', t', f']
def D5 : vw St := fun x8 x11 x50 x51 => ⟨73, bX [(8, .own 0), (11, aI x11), (49, .own 0), (50, aI x50), (51, aI x51)], Go.V.look [(0, .flat 3 (.int .i64) x8)]⟩
def Hy : List Bool := [t', t', t', t', t', f', t', f']
def L92 (k : Nat) (p : List Bool) (r : List (St → O92)) : Nat → St → O92 := cC (E92 k) (S92 k) Try.f92 p r
theorem Po (k) (rec : St → O92) (v) : bJ (E92 k) (S92 k) Try.f92 Hy [] rec (U4 D5 v) = U4 (aK.s1 k (W4 rec D5)) v := by kernel_rfl
theorem Pa (k) (n) : W4 (L92 k Hy [] n) D5 = aK.l1 k n :=
 u4 (lq (E92 k) (S92 k) (fun rec => U4 (aK.s1 k (C4 rec))) (fun n => U4 (aK.l1 k n)) (Po k) n)
theorem Pn (k) (rec : St → O92) (G1 : vw O92) (h1 : W4 (L92 k Hy [] k) D5 = G1) (v) : bJ (E92 k) (S92 k) Try.f92 Hx [] rec (U5 D4 v) = U5 (aK.s0 k (W5 rec D4) G1) v := by
 subst h1
 kernel_rfl
theorem O9 (k) (n) : W5 (L92 k Hx [] n) D4 = aK.l0 k n :=
 u5 (lq (E92 k) (S92 k) (fun rec => U5 (aK.s0 k (C5 rec) (aK.l1 k k))) (fun n => U5 (aK.l0 k n)) (fun rec v => Pn k rec _ (Pa k k) v) n)
theorem M92 (k) : bf Try.prog 92 (S92 k) := mo Try.func92 (oc (Gb k) (oc (wL k) (oc (La k) (oc (EW k) on)))) fun x => (show cc (E92 k) (S92 k) Try.f92 x = aK.g k (W5 (L92 k Hx [] k) D4) x.1 x.2.1 x.2.2 by kernel_rfl).trans (by rw [O9]; rfl)
abbrev O93 := Option (Int × Int)
abbrev sG (R : Type) := (List (List Int)) → Int → (List Int) → Int → R
abbrev vx (R : Type) := (List (List Int)) → Int → (List Int) → Int → Int → R
abbrev vy (R : Type) := (List Int) → Int → Int → R
def aw.s2 (k : Nat) (r2 : vy O93) : vy O93 := fun x8 x11 x12 => if x12 < x8.length then (if 0 ≤ x12 then (if x12 < x8.length then (if (x8.length : Int) = 0 then none else (if 0 ≤ (Int.tmod (wrap64 (x12 + 1)) (x8.length : Int)) then (if (Int.tmod (wrap64 (x12 + 1)) (x8.length : Int)) < (x8.length : Int) then (if (rd x8 x12) = (rd x8 (Int.tmod (wrap64 (x12 + 1)) (x8.length : Int))) then (r2 x8 x11 (wrap64 (x12 + 1))) else (r2 x8 (wrap64 (x11 + 1)) (wrap64 (x12 + 1)))) else none) else none)) else none) else none) else (some (x11, 0))
def aw.l2 (k : Nat) : Nat → vy O93
 | 0 => Z3
 | n + 1 => aw.s2 k (aw.l2 k n)
def aw.s1 (k : Nat) (r0 : sG O93) (r1 : vx O93) : vx O93 := fun x1 x2 x8 x9 x10 => if x10 < x1.length then (if 0 ≤ x10 then (if x10 < x1.length then (if 0 ≤ x9 then (if x9 < ((cP ([] : List Int) x1 x10).length : Int) then (if (rd (cP ([] : List Int) x1 x10) x9) = x2 then (if x8.length + 1 ≤ 1099511627776 then (r1 x1 x2 (x8 ++ [x10]) x9 (wrap64 (x10 + 1))) else none) else (r1 x1 x2 x8 x9 (wrap64 (x10 + 1)))) else none) else none) else none) else none) else (r0 x1 x2 x8 (wrap64 (x9 + 1)))
def aw.l1 (k : Nat) (r0 : sG O93) : Nat → vx O93
 | 0 => Z5
 | n + 1 => aw.s1 k r0 (aw.l1 k r0 n)
def aw.s0 (k : Nat) (r0 : sG O93) (r1 : vx O93) (r2 : vy O93) : sG O93 := fun x1 x2 x8 x9 => if 0 < (x1.length : Int) then (if x9 < ((cP ([] : List Int) x1 0).length : Int) then (r1 x1 x2 x8 x9 0) else (r2 x8 0 0)) else none
def aw.l0 (k : Nat) : Nat → sG O93
 | 0 => Z4
 | n + 1 => aw.s0 k (aw.l0 k n) (aw.l1 k (aw.l0 k n) k) (aw.l2 k k)
def aw.g (k : Nat) (r0 : sG O93) (a0 : Int) (l1 : List (List Int)) (a2 : Int) : Option (Int × Int) := (bO.f k a0 l1).bind fun t1 => if t1 = true then ((bq.f a2 0 (wrap64 (a0 - 1))).bind fun t2 => if (!decide (t2 = true)) = true then (some (0, 2)) else ((aE.f k a0 l1).bind fun t3 => if (decide (0 < (t3.length : Int))) = true then (some (0, 5)) else (r0 l1 a2 [] 0))) else (some (0, 2))
def aw.f (k : Nat) (a0 : Int) (l1 : List (List Int)) (a2 : Int) : Option (Int × Int) := aw.g k (aw.l0 k k) a0 l1 a2
def S93 (k : Nat) : bD := ⟨[sI, sM, sI], [sI, sI], U3 (aw.f k)⟩
def E93 (k : Nat) : En := ⟨tb, bn [(202, uS k), (102, wN k), (203, uT k)], aX [(1, lz [1, 2, 8, 9]), (3, lz [1, 2, 8, 9, 10]), (5, lz [8, 11, 12])], k, 0, aX [], []⟩
def qu : sG St := fun x1 x2 x8 x9 => ⟨81, bX [(1, aM x1), (2, aI x2), (8, .own 0), (9, aI x9)], Go.V.look [(0, .flat 3 (.int .i64) x8)]⟩
def Hz : List Bool := [t', t', t', f', t', f']
def D6 : vx St := fun x1 x2 x8 x9 x10 => ⟨81, bX [(1, aM x1), (2, aI x2), (8, .own 0), (9, aI x9), (10, aI x10)], Go.V.look [(0, .flat 3 (.int .i64) x8)]⟩
def HC : List Bool := [t', t', t', f', t', f', f', t', f', f', t', f']
def D7 : vy St := fun x8 x11 x12 => ⟨81, bX [(8, .own 0), (11, aI x11), (12, aI x12)], Go.V.look [(0, .flat 3 (.int .i64) x8)]⟩
def HD : List Bool := [t', t', t', t', t', f', t', f']
def L93 (k : Nat) (p : List Bool) (r : List (St → O93)) : Nat → St → O93 := cC (E93 k) (S93 k) Try.f93 p r
theorem Pr (k) (rec : St → O93) (v) : bJ (E93 k) (S93 k) Try.f93 HD [] rec (U3 D7 v) = U3 (aw.s2 k (W3 rec D7)) v := by kernel_rfl
theorem Pd (k) (n) : W3 (L93 k HD [] n) D7 = aw.l2 k n :=
 u3 (lq (E93 k) (S93 k) (fun rec => U3 (aw.s2 k (C3 rec))) (fun n => U3 (aw.l2 k n)) (Pr k) n)
theorem Pq (k) (R0 : St → O93) (rec : St → O93) (v) : bJ (E93 k) (S93 k) Try.f93 HC [R0] rec (U5 D6 v) = U5 (aw.s1 k (W4 R0 qu) (W5 rec D6)) v := by kernel_rfl
theorem Pc (k) (R0 : St → O93) (n) : W5 (L93 k HC [R0] n) D6 = aw.l1 k (W4 R0 qu) n :=
 u5 (lq (E93 k) (S93 k) (fun rec => U5 (aw.s1 k (W4 R0 qu) (C5 rec))) (fun n => U5 (aw.l1 k (W4 R0 qu) n)) (Pq k R0) n)
theorem Pp (k) (rec : St → O93) (G1 : vx O93) (h1 : W5 (L93 k HC [rec] k) D6 = G1) (G2 : vy O93) (h2 : W3 (L93 k HD [] k) D7 = G2) (v) : bJ (E93 k) (S93 k) Try.f93 Hz [] rec (U4 qu v) = U4 (aw.s0 k (W4 rec qu) G1 G2) v := by
 subst h1
 subst h2
 kernel_rfl
theorem Pb (k) (n) : W4 (L93 k Hz [] n) qu = aw.l0 k n :=
 u4 (lq (E93 k) (S93 k) (fun rec => U4 (aw.s0 k (C4 rec) (aw.l1 k (C4 rec) k) (aw.l2 k k))) (fun n => U4 (aw.l0 k n)) (fun rec v => Pp k rec _ (Pc k rec k) _ (Pd k k) v) n)
theorem M93 (k) : bf Try.prog 93 (S93 k) := mo Try.func93 (oc (Gc k) (oc (ET k) (oc (Lc k) on))) fun x => (show cc (E93 k) (S93 k) Try.f93 x = aw.g k (W4 (L93 k Hz [] k) qu) x.1 x.2.1 x.2.2 by kernel_rfl).trans (by rw [Pb]; rfl)
def dL.f (k : Nat) (a0 : Int) (l1 : List (List Int)) (a2 : Int) : Option (Int × Int) := (cY.f k a0 l1).bind fun t1 => if t1 = true then ((dj.f a2 0 (wrap64 (a0 - 1))).bind fun t2 => if t2 = true then ((aH.f k l1 a2).bind fun t3 => (bk.f k t3 a2).bind fun t4 => (bA.f k t4).bind fun t5 => some (t5, 0)) else (some (0, 2))) else (some (0, 2))
def S94 (k : Nat) : bD := ⟨[sI, sM, sI], [sI, sI], U3 (dL.f k)⟩
def E94 (k : Nat) : En := ⟨tb, bn [(196, yY k), (108, qM k), (201, wP k), (200, wO k), (199, Bm k)], aX [], k, 0, aX [], []⟩
theorem M94 (k) : bf Try.prog 94 (S94 k) := mo Try.func94 (oc (Gb k) (oc (wL k) (oc (Om k) (oc (Ol k) (oc (Ok k) on))))) fun x => (by kernel_rfl : cc (E94 k) (S94 k) Try.f94 x = (S94 k).fn x)
def eG.f (k : Nat) (a0 : Int) (l1 : List (List Int)) (a2 : Int) : Option (Int × Int) := (bO.f k a0 l1).bind fun t1 => if t1 = true then ((bq.f a2 0 (wrap64 (a0 - 1))).bind fun t2 => if t2 = true then ((bQ.f k l1 a2).bind fun t3 => some (t3, 0)) else (some (0, 2))) else (some (0, 2))
def S95 (k : Nat) : bD := ⟨[sI, sM, sI], [sI, sI], U3 (eG.f k)⟩
def E95 (k : Nat) : En := ⟨tb, bn [(202, uS k), (102, wN k), (204, Bn k)], aX [], k, 0, aX [], []⟩
theorem M95 (k) : bf Try.prog 95 (S95 k) := mo Try.func95 (oc (Gc k) (oc (ET k) (oc (On k) on))) fun x => (by kernel_rfl : cc (E95 k) (S95 k) Try.f95 x = (S95 k).fn x)
def gF.f (k : Nat) (a0 : Int) (l1 : List (List Int)) : Option ((List (List Int)) × Int) := (cY.f k a0 l1).bind fun t1 => if t1 = true then ((aD.f k a0 l1).bind fun t2 => some (t2, 0)) else (some ([], 2))
def S96 (k : Nat) : bD := ⟨[sI, sM], [(false, [.own 29 (.list (.int .i64))]), sI], U2 (gF.f k)⟩
def E96 (k : Nat) : En := ⟨tb, bn [(196, yY k), (198, qO k)], aX [], k, 0, aX [], []⟩
theorem M96 (k) : bf Try.prog 96 (S96 k) := mo Try.func96 (oc (Gb k) (oc (La k) on)) fun x => (by kernel_rfl : cc (E96 k) (S96 k) Try.f96 x = (S96 k).fn x)
def gG.f (k : Nat) (a0 : Int) (l1 : List (List Int)) : Option ((List (List Int)) × Int) := (bO.f k a0 l1).bind fun t1 => if t1 = true then ((aE.f k a0 l1).bind fun t2 => some (t2, 0)) else (some ([], 2))
def S97 (k : Nat) : bD := ⟨[sI, sM], [(false, [.own 29 (.list (.int .i64))]), sI], U2 (gG.f k)⟩
def E97 (k : Nat) : En := ⟨tb, bn [(202, uS k), (203, uT k)], aX [], k, 0, aX [], []⟩
theorem M97 (k) : bf Try.prog 97 (S97 k) := mo Try.func97 (oc (Gc k) (oc (Lc k) on)) fun x => (by kernel_rfl : cc (E97 k) (S97 k) Try.f97 x = (S97 k).fn x)
abbrev O32 := Option (Bool)
abbrev y7 (R : Type) := (List Int) → (List Int) → Int → R
def bL.s0 (k : Nat) (r0 : y7 O32) : y7 O32 := fun x0 x1 x5 => if x5 < x0.length then (if 0 ≤ x5 then (if x5 < x0.length then (if 0 ≤ x5 then (if x5 < x1.length then (if (rd x0 x5) = (rd x1 x5) then (r0 x0 x1 (wrap64 (x5 + 1))) else (some false)) else none) else none) else none) else none) else (some true)
def bL.l0 (k : Nat) : Nat → y7 O32
 | 0 => Z3
 | n + 1 => bL.s0 k (bL.l0 k n)
def bL.g (k : Nat) (r0 : y7 O32) (l0 : List Int) (l1 : List Int) : Option (Bool) := if (l0.length : Int) = (l1.length : Int) then (r0 l0 l1 0) else (some false)
def bL.f (k : Nat) (l0 : List Int) (l1 : List Int) : Option (Bool) := bL.g k (bL.l0 k k) l0 l1
def S32 (k : Nat) : bD := ⟨[sL, sL], [sB], U2 (bL.f k)⟩
def E32 (k : Nat) : En := ⟨tb, bn [], aX [(0, lz [0, 1, 5])], k, 0, aX [], []⟩
def D0 : y7 St := fun x0 x1 x5 => ⟨26, bX [(0, aL x0), (1, aL x1), (5, aI x5)], Go.V.look []⟩
def Hu : List Bool := [t', t', f', t', f']
def L32 (k : Nat) (p : List Bool) (r : List (St → O32)) : Nat → St → O32 := cC (E32 k) (S32 k) Try.f32 p r
theorem Pk (k) (rec : St → O32) (v) : bJ (E32 k) (S32 k) Try.f32 Hu [] rec (U3 D0 v) = U3 (bL.s0 k (W3 rec D0)) v := by kernel_rfl
theorem O6 (k) (n) : W3 (L32 k Hu [] n) D0 = bL.l0 k n :=
 u3 (lq (E32 k) (S32 k) (fun rec => U3 (bL.s0 k (C3 rec))) (fun n => U3 (bL.l0 k n)) (Pk k) n)
theorem M32 (k) : bf Try.prog 32 (S32 k) := mo Try.func32 on fun x => (show cc (E32 k) (S32 k) Try.f32 x = bL.g k (W3 (L32 k Hu [] k) D0) x.1 x.2 by kernel_rfl).trans (by rw [O6]; rfl)
abbrev O98 := Option (Bool)
abbrev zb (R : Type) := (List (List Int)) → (List (List Int)) → Int → R
def cd.s0 (k : Nat) (r0 : zb O98) : zb O98 := fun x0 x1 x5 => if x5 < x0.length then (if 0 ≤ x5 then (if x5 < x0.length then (if 0 ≤ x5 then (if x5 < x1.length then ((bL.f k (cP ([] : List Int) x0 x5) (cP ([] : List Int) x1 x5)).bind fun t1 => if t1 = true then (r0 x0 x1 (wrap64 (x5 + 1))) else (some false)) else none) else none) else none) else none) else (some true)
def cd.l0 (k : Nat) : Nat → zb O98
 | 0 => Z3
 | n + 1 => cd.s0 k (cd.l0 k n)
def cd.g (k : Nat) (r0 : zb O98) (l0 : List (List Int)) (l1 : List (List Int)) : Option (Bool) := if (l0.length : Int) = (l1.length : Int) then (r0 l0 l1 0) else (some false)
def cd.f (k : Nat) (l0 : List (List Int)) (l1 : List (List Int)) : Option (Bool) := cd.g k (cd.l0 k k) l0 l1
def S98 (k : Nat) : bD := ⟨[sM, sM], [sB], U2 (cd.f k)⟩
def E98 (k : Nat) : En := ⟨tb, bn [(32, S32 k)], aX [(0, lz [0, 1, 5])], k, 0, aX [], []⟩
def D8 : zb St := fun x0 x1 x5 => ⟨27, bX [(0, aM x0), (1, aM x1), (5, aI x5)], Go.V.look []⟩
def HE : List Bool := [t', t', f', t', f']
def L98 (k : Nat) (p : List Bool) (r : List (St → O98)) : Nat → St → O98 := cC (E98 k) (S98 k) Try.f98 p r
theorem Ps (k) (rec : St → O98) (v) : bJ (E98 k) (S98 k) Try.f98 HE [] rec (U3 D8 v) = U3 (cd.s0 k (W3 rec D8)) v := by kernel_rfl
theorem Pe (k) (n) : W3 (L98 k HE [] n) D8 = cd.l0 k n :=
 u3 (lq (E98 k) (S98 k) (fun rec => U3 (cd.s0 k (C3 rec))) (fun n => U3 (cd.l0 k n)) (Ps k) n)
theorem M98 (k) : bf Try.prog 98 (S98 k) := mo Try.func98 (oc (M32 k) on) fun x => (show cc (E98 k) (S98 k) Try.f98 x = cd.g k (W3 (L98 k HE [] k) D8) x.1 x.2 by kernel_rfl).trans (by rw [Pe]; rfl)
def gY.f (k : Nat) (a0 : Int) (l1 : List (List Int)) : Option (Bool) := (cY.f k a0 l1).bind fun t1 => some t1
def S99 (k : Nat) : bD := ⟨[sI, sM], [sB], U2 (gY.f k)⟩
def E99 (k : Nat) : En := ⟨tb, bn [(196, yY k)], aX [], k, 0, aX [], []⟩
theorem M99 (k) : bf Try.prog 99 (S99 k) := mo Try.func99 (oc (Gb k) on) fun x => (by kernel_rfl : cc (E99 k) (S99 k) Try.f99 x = (S99 k).fn x)
def g5.f (k : Nat) (a0 : Int) (l1 : List (List Int)) : Option (Bool) := (bO.f k a0 l1).bind fun t1 => some t1
def I3 (k : Nat) : bD := ⟨[sI, sM], [sB], U2 (g5.f k)⟩
def PD (k : Nat) : En := ⟨tb, bn [(202, uS k)], aX [], k, 0, aX [], []⟩
theorem Qf (k) : bf Try.prog 100 (I3 k) := mo Try.func100 (oc (Gc k) on) fun x => (by kernel_rfl : cc (PD k) (I3 k) Try.f100 x = (I3 k).fn x)
def dR.f (a0 : Int) : Option (Bool) := (dj.f a0 1 4).bind fun t1 => some t1
def I6 (k : Nat) : bD := ⟨[sI], [sB], dR.f⟩
def PI (k : Nat) : En := ⟨tb, bn [(108, qM k)], aX [], k, 0, aX [], []⟩
theorem Qk (k) : bf Try.prog 116 (I6 k) := mo Try.func116 (oc (wL k) on) fun x => (by kernel_rfl : cc (PI k) (I6 k) Try.f116 x = (I6 k).fn x)
abbrev AK := Option (Int)
abbrev rX (R : Type) := Int → (List Int) → Int → Int → R
def a7.s0 (k : Nat) (r0 : rX AK) : rX AK := fun x3 x7 x8 x9 => if x9 < x8 then (if 0 ≤ x9 then (if x9 < x7.length then (r0 (wrap64 (x3 * (rd x7 x9))) x7 x8 (wrap64 (x9 + 1))) else none) else none) else (some x3)
def a7.l0 (k : Nat) : Nat → rX AK
 | 0 => Z4
 | n + 1 => a7.s0 k (a7.l0 k n)
def a7.g (k : Nat) (r0 : rX AK) (l0_0 : List Int) : Option (Int) := r0 1 l0_0 (l0_0.length : Int) 0
def a7.f (k : Nat) (l0_0 : List Int) : Option (Int) := a7.g k (a7.l0 k k) l0_0
def Bg (k : Nat) : bD := ⟨[sT], [sI], a7.f k⟩
def Iy (k : Nat) : En := ⟨tb, bn [], aX [(0, lz [3, 7, 8, 9])], k, 0, aX [], []⟩
def xG : rX St := fun x3 x7 x8 x9 => ⟨18, bX [(3, aI x3), (7, aL x7), (8, aI x8), (9, aI x9)], Go.V.look []⟩
def Cd : List Bool := [t', t', f', t', f']
def NQ (k : Nat) (p : List Bool) (r : List (St → AK)) : Nat → St → AK := cC (Iy k) (Bg k) Try.f124 p r
theorem MT (k) (rec : St → AK) (v) : bJ (Iy k) (Bg k) Try.f124 Cd [] rec (U4 xG v) = U4 (a7.s0 k (W4 rec xG)) v := by kernel_rfl
theorem Mb (k) (n) : W4 (NQ k Cd [] n) xG = a7.l0 k n :=
 u4 (lq (Iy k) (Bg k) (fun rec => U4 (a7.s0 k (C4 rec))) (fun n => U4 (a7.l0 k n)) (MT k) n)
theorem Oe (k) : bf Try.prog 124 (Bg k) := mo Try.func124 on fun x => (show cc (Iy k) (Bg k) Try.f124 x = a7.g k (W4 (NQ k Cd [] k) xG) x by kernel_rfl).trans (by rw [Mb]; rfl)
def dz.f (k : Nat) (l0_0 : List Int) (a1 : Bool) : Option (Int) := (fh.f k l0_0 a1).bind fun t1 => if t1 = 0 then ((a7.f k l0_0).bind fun t2 => if 4000 < t2 then (some 3) else (some 0)) else (some t1)
def I5 (k : Nat) : bD := ⟨[sT, sB], [sI], U2 (dz.f k)⟩
def PH (k : Nat) : En := ⟨tb, bn [(138, Gi k), (124, Bg k)], aX [], k, 0, aX [], []⟩
theorem Qj (k) : bf Try.prog 115 (I5 k) := mo Try.func115 (oc (Og k) (oc (Oe k) on)) fun x => (by kernel_rfl : cc (PH k) (I5 k) Try.f115 x = (I5 k).fn x)
abbrev AP := Option (List Int)
abbrev sa (R : Type) := Int → (List Int) → (List Int) → Int → R
def aT.s0 (k : Nat) (r0 : sa AP) : sa AP := fun x1 x2_0 x5 x6 => if 0 ≤ x6 then (if 0 ≤ x6 then (if x6 < x2_0.length then (if (rd x2_0 x6) = 0 then none else (if 0 ≤ x6 then (if x6 < x5.length then (if 0 ≤ x6 then (if x6 < x2_0.length then (if (rd x2_0 x6) = 0 then none else (r0 (wrap64 (Int.tdiv x1 (rd x2_0 x6))) x2_0 (x5.set x6.toNat (wrap64 ((Int.tmod x1 (rd x2_0 x6)) + 1))) (wrap64 (x6 - 1)))) else none) else none) else none) else none)) else none) else none) else (some x5)
def aT.l0 (k : Nat) : Nat → sa AP
 | 0 => Z4
 | n + 1 => aT.s0 k (aT.l0 k n)
def aT.g (k : Nat) (r0 : sa AP) (l0_0 : List Int) (a1 : Int) : Option (List Int) := (dy.f l0_0).bind fun t1 => if 0 ≤ t1 then (if t1 ≤ t1 then (if t1.toNat ≤ 1099511627776 then ((dy.f l0_0).bind fun t2 => r0 a1 l0_0 (List.replicate t1.toNat (0 : Int)) (wrap64 (t2 - 1))) else none) else none) else none
def aT.f (k : Nat) (l0_0 : List Int) (a1 : Int) : Option (List Int) := aT.g k (aT.l0 k k) l0_0 a1
def E5 (k : Nat) : bD := ⟨[sT, sI], [(false, [.own 2 (.int .i64)])], U2 (aT.f k)⟩
def ID (k : Nat) : En := ⟨tb, bn [(197, E7 k)], aX [(0, lz [1, 2, 5, 6])], k, 0, aX [], []⟩
def xL : sa St := fun x1 x2_0 x5 x6 => ⟨36, bX [(1, aI x1), (2, .box 0 0), (5, .own 1), (6, aI x6)], Go.V.look [(0, .cells [aL x2_0]), (1, .flat 2 (.int .i64) x5)]⟩
def Cj : List Bool := [t', t', f', t', f']
def NV (k : Nat) (p : List Bool) (r : List (St → AP)) : Nat → St → AP := cC (ID k) (E5 k) Try.f155 p r
theorem MY (k) (rec : St → AP) (v) : bJ (ID k) (E5 k) Try.f155 Cj [] rec (U4 xL v) = U4 (aT.s0 k (W4 rec xL)) v := by kernel_rfl
theorem Mg (k) (n) : W4 (NV k Cj [] n) xL = aT.l0 k n :=
 u4 (lq (ID k) (E5 k) (fun rec => U4 (aT.s0 k (C4 rec))) (fun n => U4 (aT.l0 k n)) (MY k) n)
theorem Qs (k) : bf Try.prog 155 (E5 k) := mo Try.func155 (oc (K9 k) on) fun x => (show cc (ID k) (E5 k) Try.f155 x = aT.g k (W4 (NV k Cj [] k) xL) x.1 x.2 by kernel_rfl).trans (by rw [Mg]; rfl)
def fw.f (a0 : Int) : Option (Int) := some (bE .i64 (wrap64 ((IntKind.wrap .u64 ((IntKind.wrap .u64 ((IntKind.wrap .u64 ((bE .u64 (IntKind.wrap .u64 ((cp .u64 (IntKind.wrap .u64 ((bE .u64 (cp .u64 (IntKind.wrap .u64 ((bE .u64 (cp .u64 a0 1) 6148914691236517205) + (bE .u64 a0 6148914691236517205))) 2) 3689348814741910323) + (bE .u64 (IntKind.wrap .u64 ((bE .u64 (cp .u64 a0 1) 6148914691236517205) + (bE .u64 a0 6148914691236517205))) 3689348814741910323))) 4) + (IntKind.wrap .u64 ((bE .u64 (cp .u64 (IntKind.wrap .u64 ((bE .u64 (cp .u64 a0 1) 6148914691236517205) + (bE .u64 a0 6148914691236517205))) 2) 3689348814741910323) + (bE .u64 (IntKind.wrap .u64 ((bE .u64 (cp .u64 a0 1) 6148914691236517205) + (bE .u64 a0 6148914691236517205))) 3689348814741910323))))) 1085102592571150095) + (cp .u64 (bE .u64 (IntKind.wrap .u64 ((cp .u64 (IntKind.wrap .u64 ((bE .u64 (cp .u64 (IntKind.wrap .u64 ((bE .u64 (cp .u64 a0 1) 6148914691236517205) + (bE .u64 a0 6148914691236517205))) 2) 3689348814741910323) + (bE .u64 (IntKind.wrap .u64 ((bE .u64 (cp .u64 a0 1) 6148914691236517205) + (bE .u64 a0 6148914691236517205))) 3689348814741910323))) 4) + (IntKind.wrap .u64 ((bE .u64 (cp .u64 (IntKind.wrap .u64 ((bE .u64 (cp .u64 a0 1) 6148914691236517205) + (bE .u64 a0 6148914691236517205))) 2) 3689348814741910323) + (bE .u64 (IntKind.wrap .u64 ((bE .u64 (cp .u64 a0 1) 6148914691236517205) + (bE .u64 a0 6148914691236517205))) 3689348814741910323))))) 1085102592571150095) 8))) + (cp .u64 (IntKind.wrap .u64 ((bE .u64 (IntKind.wrap .u64 ((cp .u64 (IntKind.wrap .u64 ((bE .u64 (cp .u64 (IntKind.wrap .u64 ((bE .u64 (cp .u64 a0 1) 6148914691236517205) + (bE .u64 a0 6148914691236517205))) 2) 3689348814741910323) + (bE .u64 (IntKind.wrap .u64 ((bE .u64 (cp .u64 a0 1) 6148914691236517205) + (bE .u64 a0 6148914691236517205))) 3689348814741910323))) 4) + (IntKind.wrap .u64 ((bE .u64 (cp .u64 (IntKind.wrap .u64 ((bE .u64 (cp .u64 a0 1) 6148914691236517205) + (bE .u64 a0 6148914691236517205))) 2) 3689348814741910323) + (bE .u64 (IntKind.wrap .u64 ((bE .u64 (cp .u64 a0 1) 6148914691236517205) + (bE .u64 a0 6148914691236517205))) 3689348814741910323))))) 1085102592571150095) + (cp .u64 (bE .u64 (IntKind.wrap .u64 ((cp .u64 (IntKind.wrap .u64 ((bE .u64 (cp .u64 (IntKind.wrap .u64 ((bE .u64 (cp .u64 a0 1) 6148914691236517205) + (bE .u64 a0 6148914691236517205))) 2) 3689348814741910323) + (bE .u64 (IntKind.wrap .u64 ((bE .u64 (cp .u64 a0 1) 6148914691236517205) + (bE .u64 a0 6148914691236517205))) 3689348814741910323))) 4) + (IntKind.wrap .u64 ((bE .u64 (cp .u64 (IntKind.wrap .u64 ((bE .u64 (cp .u64 a0 1) 6148914691236517205) + (bE .u64 a0 6148914691236517205))) 2) 3689348814741910323) + (bE .u64 (IntKind.wrap .u64 ((bE .u64 (cp .u64 a0 1) 6148914691236517205) + (bE .u64 a0 6148914691236517205))) 3689348814741910323))))) 1085102592571150095) 8))) 16))) + (cp .u64 (IntKind.wrap .u64 ((IntKind.wrap .u64 ((bE .u64 (IntKind.wrap .u64 ((cp .u64 (IntKind.wrap .u64 ((bE .u64 (cp .u64 (IntKind.wrap .u64 ((bE .u64 (cp .u64 a0 1) 6148914691236517205) + (bE .u64 a0 6148914691236517205))) 2) 3689348814741910323) + (bE .u64 (IntKind.wrap .u64 ((bE .u64 (cp .u64 a0 1) 6148914691236517205) + (bE .u64 a0 6148914691236517205))) 3689348814741910323))) 4) + (IntKind.wrap .u64 ((bE .u64 (cp .u64 (IntKind.wrap .u64 ((bE .u64 (cp .u64 a0 1) 6148914691236517205) + (bE .u64 a0 6148914691236517205))) 2) 3689348814741910323) + (bE .u64 (IntKind.wrap .u64 ((bE .u64 (cp .u64 a0 1) 6148914691236517205) + (bE .u64 a0 6148914691236517205))) 3689348814741910323))))) 1085102592571150095) + (cp .u64 (bE .u64 (IntKind.wrap .u64 ((cp .u64 (IntKind.wrap .u64 ((bE .u64 (cp .u64 (IntKind.wrap .u64 ((bE .u64 (cp .u64 a0 1) 6148914691236517205) + (bE .u64 a0 6148914691236517205))) 2) 3689348814741910323) + (bE .u64 (IntKind.wrap .u64 ((bE .u64 (cp .u64 a0 1) 6148914691236517205) + (bE .u64 a0 6148914691236517205))) 3689348814741910323))) 4) + (IntKind.wrap .u64 ((bE .u64 (cp .u64 (IntKind.wrap .u64 ((bE .u64 (cp .u64 a0 1) 6148914691236517205) + (bE .u64 a0 6148914691236517205))) 2) 3689348814741910323) + (bE .u64 (IntKind.wrap .u64 ((bE .u64 (cp .u64 a0 1) 6148914691236517205) + (bE .u64 a0 6148914691236517205))) 3689348814741910323))))) 1085102592571150095) 8))) + (cp .u64 (IntKind.wrap .u64 ((bE .u64 (IntKind.wrap .u64 ((cp .u64 (IntKind.wrap .u64 ((bE .u64 (cp .u64 (IntKind.wrap .u64 ((bE .u64 (cp .u64 a0 1) 6148914691236517205) + (bE .u64 a0 6148914691236517205))) 2) 3689348814741910323) + (bE .u64 (IntKind.wrap .u64 ((bE .u64 (cp .u64 a0 1) 6148914691236517205) + (bE .u64 a0 6148914691236517205))) 3689348814741910323))) 4) + (IntKind.wrap .u64 ((bE .u64 (cp .u64 (IntKind.wrap .u64 ((bE .u64 (cp .u64 a0 1) 6148914691236517205) + (bE .u64 a0 6148914691236517205))) 2) 3689348814741910323) + (bE .u64 (IntKind.wrap .u64 ((bE .u64 (cp .u64 a0 1) 6148914691236517205) + (bE .u64 a0 6148914691236517205))) 3689348814741910323))))) 1085102592571150095) + (cp .u64 (bE .u64 (IntKind.wrap .u64 ((cp .u64 (IntKind.wrap .u64 ((bE .u64 (cp .u64 (IntKind.wrap .u64 ((bE .u64 (cp .u64 a0 1) 6148914691236517205) + (bE .u64 a0 6148914691236517205))) 2) 3689348814741910323) + (bE .u64 (IntKind.wrap .u64 ((bE .u64 (cp .u64 a0 1) 6148914691236517205) + (bE .u64 a0 6148914691236517205))) 3689348814741910323))) 4) + (IntKind.wrap .u64 ((bE .u64 (cp .u64 (IntKind.wrap .u64 ((bE .u64 (cp .u64 a0 1) 6148914691236517205) + (bE .u64 a0 6148914691236517205))) 2) 3689348814741910323) + (bE .u64 (IntKind.wrap .u64 ((bE .u64 (cp .u64 a0 1) 6148914691236517205) + (bE .u64 a0 6148914691236517205))) 3689348814741910323))))) 1085102592571150095) 8))) 16))) 32))))) 127)
def Jm (k : Nat) : bD := ⟨[(false, [.dat (.int .u64)])], [sI], fw.f⟩
def Qc (k : Nat) : En := ⟨tb, bn [], aX [], k, 0, aX [], []⟩
theorem QO (k) : bf Try.prog 240 (Jm k) := mo Try.func240 on fun x => (by kernel_rfl : cc (Qc k) (Jm k) Try.f240 x = (Jm k).fn x)
def iS.f (a0 : Int) : Option (Int) := (fw.f (IntKind.wrap .u64 (a0))).bind fun t1 => some t1
def Jj (k : Nat) : bD := ⟨[sI], [sI], iS.f⟩
def P9 (k : Nat) : En := ⟨tb, bn [(240, Jm k)], aX [], k, 0, aX [], []⟩
theorem QK (k) : bf Try.prog 232 (Jj k) := mo Try.func232 (oc (QO k) on) fun x => (by kernel_rfl : cc (P9 k) (Jj k) Try.f232 x = (Jj k).fn x)
def b4.f (l : List Int) : Option (List Int) := if l.length = 0 then some [] else if 0 + l.length ≤ 1099511627776 then some ([] ++ l) else none
def Oy (k : Nat) : bD := ⟨[(false, [.dat (.list (.int .i64))])], [(false, [.own 2 (.int .i64)])], fun x => b4.f x⟩
def PM : En := ⟨tb, bn [], aX [], 0, 0, aX [], []⟩
theorem b4.e (l : List Int) (h : l.length ≠ 0) : b4.f l = (if l.length = 0 then none else if 0 + l.length ≤ 1099511627776 then some ([] ++ l) else none) := by
 unfold b4.f; rw [if_neg h, if_neg h]
theorem Qo (k : Nat) : bf Try.prog 125 (Oy k) := by
 refine FF (E := PM) (t := (.int .i64)) (rs := [(false, [.own 2 (.int .i64)])]) (F := b4.f) Try.func125 (by kernel_rfl) tbOk Ej KO rfl rfl rfl (fun l hl => ?_) (by kernel_rfl) (by kernel_rfl)
 refine Eq.trans ?_ (b4.e l hl).symm
 kernel_rfl
abbrev A6 := Option ((List Int) × Bool)
abbrev sA (R : Type) := Int → (List Int) → (List Int) → Int → Int → R
def a4.s0 (k : Nat) (r0 : sA A6) : sA A6 := fun x2 x3_0 x8 x13 x14 => if x14 < x13 then (if x14 < 0 then none else (if (decide ((bE .i64 (cp .i64 x2 x14) 1) = 1)) = true then (if 0 ≤ x14 then (if x14 < x3_0.length then (if 0 ≤ x14 then (if x14 < x8.length then (r0 x2 x3_0 (x8.set x14.toNat (rd x3_0 x14)) x13 (wrap64 (x14 + 1))) else none) else none) else none) else none) else (if 0 ≤ x14 then (if x14 < x8.length then (if (decide ((rd x8 x14) < 2)) = true then (some ([], false)) else (if 0 ≤ x14 then (if x14 < x8.length then (if 0 ≤ x14 then (if x14 < x8.length then (r0 x2 x3_0 (x8.set x14.toNat (wrap64 ((rd x8 x14) - 1))) x13 (wrap64 (x14 + 1))) else none) else none) else none) else none)) else none) else none))) else (some (x8, true))
def a4.l0 (k : Nat) : Nat → sA A6
 | 0 => Z5
 | n + 1 => a4.s0 k (a4.l0 k n)
def a4.g (k : Nat) (r0 : sA A6) (l0_0 : List Int) (l1 : List Int) (a2 : Int) : Option ((List Int) × Bool) := (b4.f l1).bind fun t1 => r0 a2 l0_0 t1 (t1.length : Int) 0
def a4.f (k : Nat) (l0_0 : List Int) (l1 : List Int) (a2 : Int) : Option ((List Int) × Bool) := a4.g k (a4.l0 k k) l0_0 l1 a2
def Fb (k : Nat) : bD := ⟨[sT, sL, sI], [(false, [.own 2 (.int .i64)]), sB], U3 (a4.f k)⟩
def IP (k : Nat) : En := ⟨tb, bn [(125, Oy k)], aX [(0, lz [2, 3, 8, 13, 14])], k, 0, aX [], []⟩
def yd : sA St := fun x2 x3_0 x8 x13 x14 => ⟨45, bX [(2, aI x2), (3, .box 0 0), (8, .own 1), (13, aI x13), (14, aI x14)], Go.V.look [(0, .cells [aL x3_0]), (1, .flat 2 (.int .i64) x8)]⟩
def CG : List Bool := [t', t', f', t', f']
def N6 (k : Nat) (p : List Bool) (r : List (St → A6)) : Nat → St → A6 := cC (IP k) (Fb k) Try.f233 p r
theorem Nm (k) (rec : St → A6) (v) : bJ (IP k) (Fb k) Try.f233 CG [] rec (U5 yd v) = U5 (a4.s0 k (W5 rec yd)) v := by kernel_rfl
theorem MD (k) (n) : W5 (N6 k CG [] n) yd = a4.l0 k n :=
 u5 (lq (IP k) (Fb k) (fun rec => U5 (a4.s0 k (C5 rec))) (fun n => U5 (a4.l0 k n)) (Nm k) n)
theorem QL (k) : bf Try.prog 233 (Fb k) := mo Try.func233 (oc (Qo k) on) fun x => (show cc (IP k) (Fb k) Try.f233 x = a4.g k (W5 (N6 k CG [] k) yd) x.1 x.2.1 x.2.2 by kernel_rfl).trans (by rw [MD]; rfl)
abbrev AM := Option (Int)
abbrev rZ (R : Type) := (List Int) → Int → (List Int) → Int → Int → R
def bb.s0 (k : Nat) (r0 : rZ AM) : rZ AM := fun x2_0 x5 x8 x9 x10 => if x10 < x9 then (if 0 ≤ x10 then (if x10 < x8.length then (if 0 ≤ x10 then (if x10 < x2_0.length then (r0 x2_0 (wrap64 ((wrap64 ((wrap64 (x5 * (rd x2_0 x10))) + (rd x8 x10))) - 1)) x8 x9 (wrap64 (x10 + 1))) else none) else none) else none) else none) else (some x5)
def bb.l0 (k : Nat) : Nat → rZ AM
 | 0 => Z5
 | n + 1 => bb.s0 k (bb.l0 k n)
def bb.g (k : Nat) (r0 : rZ AM) (l0_0 : List Int) (l1 : List Int) : Option (Int) := r0 l0_0 0 l1 (l1.length : Int) 0
def bb.f (k : Nat) (l0_0 : List Int) (l1 : List Int) : Option (Int) := bb.g k (bb.l0 k k) l0_0 l1
def E4 (k : Nat) : bD := ⟨[sT, sL], [sI], U2 (bb.f k)⟩
def IA (k : Nat) : En := ⟨tb, bn [], aX [(0, lz [2, 5, 8, 9, 10])], k, 0, aX [], []⟩
def xI : rZ St := fun x2_0 x5 x8 x9 x10 => ⟨27, bX [(2, .box 0 0), (5, aI x5), (8, aL x8), (9, aI x9), (10, aI x10)], Go.V.look [(0, .cells [aL x2_0])]⟩
def Cf : List Bool := [t', t', f', t', f']
def NS (k : Nat) (p : List Bool) (r : List (St → AM)) : Nat → St → AM := cC (IA k) (E4 k) Try.f130 p r
theorem MV (k) (rec : St → AM) (v) : bJ (IA k) (E4 k) Try.f130 Cf [] rec (U5 xI v) = U5 (bb.s0 k (W5 rec xI)) v := by kernel_rfl
theorem Md (k) (n) : W5 (NS k Cf [] n) xI = bb.l0 k n :=
 u5 (lq (IA k) (E4 k) (fun rec => U5 (bb.s0 k (C5 rec))) (fun n => U5 (bb.l0 k n)) (MV k) n)
theorem Qq (k) : bf Try.prog 130 (E4 k) := mo Try.func130 on fun x => (show cc (IA k) (E4 k) Try.f130 x = bb.g k (W5 (NS k Cf [] k) xI) x.1 x.2 by kernel_rfl).trans (by rw [Md]; rfl)
abbrev pd := Option ((List (Int × Int)))
abbrev sr (R : Type) := (List Int) → Int → (List Int) → Int → (List Int) → Int → Int → R
abbrev pB (R : Type) := (List Int) → Int → (List Int) → Int → (List (Int × Int)) → Int → R
def au.s1 (k : Nat) (r1 : pB pd) : pB pd := fun x1 x2 x3_0 x7 x10 x11 => (dy.f x3_0).bind fun t1 => if t1 < 0 then none else (if x11 < (FZ .i64 1 t1) then (if (bE .i64 x11 x7) = x7 then ((iS.f x11).bind fun t2 => if t2 ≤ x2 then ((a4.f k x3_0 x1 x11).bind fun t3 => (bb.f k x3_0 t3.1).bind fun t4 => if x10.length + 1 ≤ 1099511627776 then (r1 x1 x2 x3_0 x7 (x10 ++ [(x11, t4)]) (wrap64 (x11 + 1))) else none) else (r1 x1 x2 x3_0 x7 x10 (wrap64 (x11 + 1)))) else (r1 x1 x2 x3_0 x7 x10 (wrap64 (x11 + 1)))) else (some x10))
def au.l1 (k : Nat) : Nat → pB pd
 | 0 => Z6
 | n + 1 => au.s1 k (au.l1 k n)
def au.s0 (k : Nat) (r0 : sr pd) (r1 : pB pd) : sr pd := fun x1 x2 x3_0 x7 x14 x15 x16 => if x16 < x15 then (if 0 ≤ x16 then (if x16 < x14.length then (if (rd x14 x16) < 2 then (if x16 < 0 then none else (r0 x1 x2 x3_0 (orV .i64 x7 (FZ .i64 1 x16)) x14 x15 (wrap64 (x16 + 1)))) else (r0 x1 x2 x3_0 x7 x14 x15 (wrap64 (x16 + 1)))) else none) else none) else (r1 x1 x2 x3_0 x7 [] x7)
def au.l0 (k : Nat) : Nat → sr pd
 | 0 => Z7
 | n + 1 => au.s0 k (au.l0 k n) (au.l1 k k)
def au.g (k : Nat) (r0 : sr pd) (l0_0 : List Int) (l1 : List Int) (a2 : Int) : Option ((List (Int × Int))) := r0 l1 a2 l0_0 0 l1 (l1.length : Int) 0
def au.f (k : Nat) (l0_0 : List Int) (l1 : List Int) (a2 : Int) : Option ((List (Int × Int))) := au.g k (au.l0 k k) l0_0 l1 a2
def yZ (k : Nat) : bD := ⟨[sT, sL, sI], [(false, [.own 122 (.struct (.pair (.int .i64) (.int .i64)))])], U3 (au.f k)⟩
def EJ (k : Nat) : En := ⟨tb, bn [(197, E7 k), (232, Jj k), (233, Fb k), (130, E4 k)], aX [(0, lz [1, 2, 3, 7, 14, 15, 16]), (2, [(1, []), (2, []), (3, []), (7, []), (10, [.nil 122 (.struct (.pair (.int .i64) (.int .i64)))]), (11, [])])], k, 0, aX [], []⟩
def xX : sr St := fun x1 x2 x3_0 x7 x14 x15 x16 => ⟨63, bX [(1, aL x1), (2, aI x2), (3, .box 0 0), (7, aI x7), (14, aL x14), (15, aI x15), (16, aI x16)], Go.V.look [(0, .cells [aL x3_0])]⟩
def CA : List Bool := [t', t', f', t', f']
def xY : pB St := fun x1 x2 x3_0 x7 x10 x11 => ⟨63, bX [(1, aL x1), (2, aI x2), (3, .box 0 0), (7, aI x7), (10, .own 1), (11, aI x11)], Go.V.look [(0, .cells [aL x3_0]), (1, .flat 122 (.struct (.pair (.int .i64) (.int .i64))) x10)]⟩
def CB : List Bool := [t', t', t', t', f', t', f']
def IX (k : Nat) (p : List Bool) (r : List (St → pd)) : Nat → St → pd := cC (EJ k) (yZ k) Try.f210 p r
theorem Nh (k) (rec : St → pd) (v) : bJ (EJ k) (yZ k) Try.f210 CB [] rec (U6 xY v) = U6 (au.s1 k (W6 rec xY)) v := by kernel_rfl
theorem My (k) (n) : W6 (IX k CB [] n) xY = au.l1 k n :=
 u6 (lq (EJ k) (yZ k) (fun rec => U6 (au.s1 k (C6 rec))) (fun n => U6 (au.l1 k n)) (Nh k) n)
theorem Ng (k) (rec : St → pd) (G1 : pB pd) (h1 : W6 (IX k CB [] k) xY = G1) (v) : bJ (EJ k) (yZ k) Try.f210 CA [] rec (U7 xX v) = U7 (au.s0 k (W7 rec xX) G1) v := by
 subst h1
 kernel_rfl
theorem Mx (k) (n) : W7 (IX k CA [] n) xX = au.l0 k n :=
 u7 (lq (EJ k) (yZ k) (fun rec => U7 (au.s0 k (C7 rec) (au.l1 k k))) (fun n => U7 (au.l0 k n)) (fun rec v => Ng k rec _ (My k k) v) n)
theorem Qz (k) : bf Try.prog 210 (yZ k) := mo Try.func210 (oc (K9 k) (oc (QK k) (oc (QL k) (oc (Qq k) on)))) fun x => (show cc (EJ k) (yZ k) Try.f210 x = au.g k (W7 (IX k CA [] k) xX) x.1 x.2.1 x.2.2 by kernel_rfl).trans (by rw [Mx]; rfl)
abbrev AL := Option (Int × Int × Bool)
abbrev rY (R : Type) := ((List (List (Int × Int))) × (List Bool)) → Int → Int → (List (Int × Int)) → Int → Int → R
def aV.s0 (k : Nat) (r0 : rY AL) : rY AL := fun x0 x4_0 x4_1 x14 x15 x16 => if x16 < x15 then (if 0 ≤ x16 then (if x16 < x14.length then (if 0 ≤ ((cP (0, 0) x14 x16).2) then (if ((cP (0, 0) x14 x16).2) < (x0.2.length : Int) then (if (cP false x0.2 ((cP (0, 0) x14 x16).2)) = true then (some ((cP (0, 0) x14 x16).1, (cP (0, 0) x14 x16).2, true)) else (r0 x0 x4_0 x4_1 x14 x15 (wrap64 (x16 + 1)))) else none) else none) else none) else none) else (some (0, 0, false))
def aV.l0 (k : Nat) : Nat → rY AL
 | 0 => Z6
 | n + 1 => aV.s0 k (aV.l0 k n)
def aV.g (k : Nat) (r0 : rY AL) (a0 : (List (List (Int × Int))) × (List Bool)) (a1 : Int) : Option (Int × Int × Bool) := if 0 ≤ a1 then (if a1 < (a0.1.length : Int) then (r0 a0 0 0 (cP ([] : List (Int × Int)) a0.1 a1) ((cP ([] : List (Int × Int)) a0.1 a1).length : Int) 0) else none) else none
def aV.f (k : Nat) (a0 : (List (List (Int × Int))) × (List Bool)) (a1 : Int) : Option (Int × Int × Bool) := aV.g k (aV.l0 k k) a0 a1
def E3 (k : Nat) : bD := ⟨[(false, [.dat (.ptr (.struct (.pair (.list (.list (.struct (.pair (.int .i64) (.int .i64))))) (.list .bool))))]), sI], [(true, [.dat (.int .i64), .dat (.int .i64)]), sB], U2 (aV.f k)⟩
def Iz (k : Nat) : En := ⟨tb, bn [], aX [(0, lz [0, 4, 14, 15, 16])], k, 0, aX [], []⟩
def xH : rY St := fun x0 x4_0 x4_1 x14 x15 x16 => ⟨31, bX [(0, .dp (.struct (.pair (.list (.list (.struct (.pair (.int .i64) (.int .i64))))) (.list .bool))) x0), (4, .box 0 0), (14, .dat (.list (.struct (.pair (.int .i64) (.int .i64)))) x14), (15, aI x15), (16, aI x16)], Go.V.look [(0, .cells [aI x4_0, aI x4_1])]⟩
def Ce : List Bool := [t', f', t', f']
def NR (k : Nat) (p : List Bool) (r : List (St → AL)) : Nat → St → AL := cC (Iz k) (E3 k) Try.f126 p r
theorem MU (k) (rec : St → AL) (v) : bJ (Iz k) (E3 k) Try.f126 Ce [] rec (U6 xH v) = U6 (aV.s0 k (W6 rec xH)) v := by kernel_rfl
theorem Mc (k) (n) : W6 (NR k Ce [] n) xH = aV.l0 k n :=
 u6 (lq (Iz k) (E3 k) (fun rec => U6 (aV.s0 k (C6 rec))) (fun n => U6 (aV.l0 k n)) (MU k) n)
theorem Qp (k) : bf Try.prog 126 (E3 k) := mo Try.func126 on fun x => (show cc (Iz k) (E3 k) Try.f126 x = aV.g k (W6 (NR k Ce [] k) xH) x.1 x.2 by kernel_rfl).trans (by rw [Mc]; rfl)
abbrev jg := Option (((List (List (Int × Int))) × (List Bool)))
abbrev rS (R : Type) := Int → (List Int) → (List (List (Int × Int))) → (List Bool) → Int → Int → R
abbrev lx (R : Type) := (List (List (Int × Int))) → (List Bool) → Bool → R
abbrev po (R : Type) := (List (List (Int × Int))) → (List Bool) → Bool → Int → Int → R
def ao.s2 (k : Nat) (r1 : lx jg) (r2 : po jg) : po jg := fun x5_0 x5_1 x7 x49 x50 => if x50 < x49 then (if 0 ≤ x50 then (if x50 < x5_1.length then ((aV.f k (x5_0, x5_1) x50).bind fun t4 => if (cP false x5_1 x50) = true then (if t4.2.2 = true then (r2 x5_0 x5_1 x7 x49 (wrap64 (x50 + 1))) else (if 0 ≤ x50 then (if x50 < x5_1.length then (r2 x5_0 (x5_1.set x50.toNat false) true x49 (wrap64 (x50 + 1))) else none) else none)) else (r2 x5_0 x5_1 x7 x49 (wrap64 (x50 + 1)))) else none) else none) else (r1 x5_0 x5_1 x7)
def ao.l2 (k : Nat) (r1 : lx jg) : Nat → po jg
 | 0 => Z5
 | n + 1 => ao.s2 k r1 (ao.l2 k r1 n)
def ao.s1 (k : Nat) (r1 : lx jg) (r2 : po jg) : lx jg := fun x5_0 x5_1 x7 => if x7 = true then (r2 x5_0 x5_1 false (x5_1.length : Int) 0) else (some (x5_0, x5_1))
def ao.l1 (k : Nat) : Nat → lx jg
 | 0 => Z3
 | n + 1 => ao.s1 k (ao.l1 k n) (ao.l2 k (ao.l1 k n) k)
def ao.s0 (k : Nat) (r0 : rS jg) (r1 : lx jg) : rS jg := fun x1 x2_0 x5_0 x5_1 x15 x16 => if x16 < x15 then ((aT.f k x2_0 x16).bind fun t2 => (au.f k x2_0 t2 x1).bind fun t3 => if x5_0.length + 1 ≤ 1099511627776 then (if x5_1.length + 1 ≤ 1099511627776 then (r0 x1 x2_0 (x5_0 ++ [t3]) (x5_1 ++ [true]) x15 (wrap64 (x16 + 1))) else none) else none) else (r1 x5_0 x5_1 true)
def ao.l0 (k : Nat) : Nat → rS jg
 | 0 => Z6
 | n + 1 => ao.s0 k (ao.l0 k n) (ao.l1 k k)
def ao.g (k : Nat) (r0 : rS jg) (l0_0 : List Int) (a1 : Int) : Option (((List (List (Int × Int))) × (List Bool))) := (a7.f k l0_0).bind fun t1 => r0 a1 l0_0 [] [] t1 0
def ao.f (k : Nat) (l0_0 : List Int) (a1 : Int) : Option (((List (List (Int × Int))) × (List Bool))) := ao.g k (ao.l0 k k) l0_0 a1
def uQ (k : Nat) : bD := ⟨[sT, sI], [(false, [.dat (.ptr (.struct (.pair (.list (.list (.struct (.pair (.int .i64) (.int .i64))))) (.list .bool))))])], U2 (ao.f k)⟩
def yR (k : Nat) : En := ⟨tb, bn [(124, Bg k), (155, E5 k), (210, yZ k), (126, E3 k)], aX [(0, [(1, []), (2, []), (5, [.cell 0 189 (.list (.struct (.pair (.int .i64) (.int .i64)))), .cell 1 4 .bool]), (15, []), (16, [])]), (2, lz [5, 7]), (4, lz [5, 7, 48, 49, 50])], k, 0, aX [], [29]⟩
def xA : rS St := fun x1 x2_0 x5_0 x5_1 x15 x16 => ⟨74, bX [(1, aI x1), (2, .box 0 0), (5, .box 1 0), (15, aI x15), (16, aI x16)], Go.V.look [(0, .cells [aL x2_0]), (1, .cells [.own 2, .own 3]), (2, .flat 189 (.list (.struct (.pair (.int .i64) (.int .i64)))) x5_0), (3, .flat 4 .bool x5_1)]⟩
def B6 : List Bool := [t', t', f', t', f']
def lU : lx St := fun x5_0 x5_1 x7 => ⟨74, bX [(5, .box 0 0), (7, aB x7)], Go.V.look [(0, .cells [.own 1, .own 2]), (1, .flat 189 (.list (.struct (.pair (.int .i64) (.int .i64)))) x5_0), (2, .flat 4 .bool x5_1)]⟩
def B7 : List Bool := [t', t', t', f', t', f']
def xB : po St := fun x5_0 x5_1 x7 x49 x50 => ⟨74, bX [(5, .box 0 0), (7, aB x7), (48, .own 1), (49, aI x49), (50, aI x50)], Go.V.look [(0, .cells [.own 2, .own 1]), (1, .flat 4 .bool x5_1), (2, .flat 189 (.list (.struct (.pair (.int .i64) (.int .i64)))) x5_0)]⟩
def B8 : List Bool := [t', t', t', f', t', f', f', t', f', t', t', f']
def ER (k : Nat) (p : List Bool) (r : List (St → jg)) : Nat → St → jg := cC (yR k) (uQ k) Try.f117 p r
theorem MO (k) (R1 : St → jg) (rec : St → jg) (v) : bJ (yR k) (uQ k) Try.f117 B8 [R1] rec (U5 xB v) = U5 (ao.s2 k (W3 R1 lU) (W5 rec xB)) v := by kernel_rfl
theorem L6 (k) (R1 : St → jg) (n) : W5 (ER k B8 [R1] n) xB = ao.l2 k (W3 R1 lU) n :=
 u5 (lq (yR k) (uQ k) (fun rec => U5 (ao.s2 k (W3 R1 lU) (C5 rec))) (fun n => U5 (ao.l2 k (W3 R1 lU) n)) (MO k R1) n)
theorem MN (k) (rec : St → jg) (G2 : po jg) (h2 : W5 (ER k B8 [rec] k) xB = G2) (v) : bJ (yR k) (uQ k) Try.f117 B7 [] rec (U3 lU v) = U3 (ao.s1 k (W3 rec lU) G2) v := by
 subst h2
 kernel_rfl
theorem L5 (k) (n) : W3 (ER k B7 [] n) lU = ao.l1 k n :=
 u3 (lq (yR k) (uQ k) (fun rec => U3 (ao.s1 k (C3 rec) (ao.l2 k (C3 rec) k))) (fun n => U3 (ao.l1 k n)) (fun rec v => MN k rec _ (L6 k rec k) v) n)
theorem MM (k) (rec : St → jg) (G1 : lx jg) (h1 : W3 (ER k B7 [] k) lU = G1) (v) : bJ (yR k) (uQ k) Try.f117 B6 [] rec (U6 xA v) = U6 (ao.s0 k (W6 rec xA) G1) v := by
 subst h1
 kernel_rfl
theorem L4 (k) (n) : W6 (ER k B6 [] n) xA = ao.l0 k n :=
 u6 (lq (yR k) (uQ k) (fun rec => U6 (ao.s0 k (C6 rec) (ao.l1 k k))) (fun n => U6 (ao.l0 k n)) (fun rec v => MM k rec _ (L5 k k) v) n)
theorem Ql (k) : bf Try.prog 117 (uQ k) := mo Try.func117 (oc (Oe k) (oc (Qs k) (oc (Qz k) (oc (Qp k) on)))) fun x => (show cc (yR k) (uQ k) Try.f117 x = ao.g k (W6 (ER k B6 [] k) xA) x.1 x.2 by kernel_rfl).trans (by rw [L4]; rfl)
def cN.f (a0 : (List (List (Int × Int))) × (List Bool)) : Option (Bool) := if 0 ≤ (wrap64 ((a0.2.length : Int) - 1)) then (if (wrap64 ((a0.2.length : Int) - 1)) < (a0.2.length : Int) then (some (cP false a0.2 (wrap64 ((a0.2.length : Int) - 1)))) else none) else none
def I7 (k : Nat) : bD := ⟨[(false, [.dat (.ptr (.struct (.pair (.list (.list (.struct (.pair (.int .i64) (.int .i64))))) (.list .bool))))])], [sB], cN.f⟩
def PJ (k : Nat) : En := ⟨tb, bn [], aX [], k, 0, aX [], []⟩
theorem Qm (k) : bf Try.prog 118 (I7 k) := mo Try.func118 on fun x => (by kernel_rfl : cc (PJ k) (I7 k) Try.f118 x = (I7 k).fn x)
def fN.f (k : Nat) (l0_0 : List Int) (a1 : Int) : Option (Bool × Int) := (dR.f a1).bind fun t1 => (dz.f k l0_0 t1).bind fun t2 => if t2 = 0 then ((ao.f k l0_0 a1).bind fun t3 => (cN.f t3).bind fun t4 => some (t4, 0)) else (some (false, t2))
def S18 (k : Nat) : bD := ⟨[sT, sI], [sB, sI], U2 (fN.f k)⟩
def E18 (k : Nat) : En := ⟨tb, bn [(116, I6 k), (115, I5 k), (117, uQ k), (118, I7 k)], aX [], k, 0, aX [], []⟩
theorem M18 (k) : bf Try.prog 18 (S18 k) := mo Try.func18 (oc (Qk k) (oc (Qj k) (oc (Ql k) (oc (Qm k) on)))) fun x => (by kernel_rfl : cc (E18 k) (S18 k) Try.f18 x = (S18 k).fn x)
abbrev O11 := Option (Bool)
abbrev y5 (R : Type) := (List Int) → (List (List Int)) → Bool → Bool → Int → R
def bh.s0 (k : Nat) (r0 : y5 O11) : y5 O11 := fun x3_0 x4 x5 x24 x25 => if x25 < x3_0.length then ((dL.f k (x3_0.length : Int) x4 x25).bind fun t15 => if t15.2 = 0 then (if x24 = true then (if 0 < t15.1 then (if 0 ≤ x25 then (if x25 < x3_0.length then (r0 x3_0 x4 x5 (decide (t15.1 ≤ (rd x3_0 x25))) (wrap64 (x25 + 1))) else none) else none) else (r0 x3_0 x4 x5 false (wrap64 (x25 + 1)))) else (r0 x3_0 x4 x5 false (wrap64 (x25 + 1)))) else (some false)) else (if x5 = x24 then (if x5 = true then ((fN.f k x3_0 (x4.length : Int)).bind fun t16 => if t16.2 = 0 then (some t16.1) else (some true)) else (some true)) else (some false))
def bh.l0 (k : Nat) : Nat → y5 O11
 | 0 => Z5
 | n + 1 => bh.s0 k (bh.l0 k n)
def bh.g (k : Nat) (r0 : y5 O11) (l0 : List Int) : Option (Bool) := (tq.f l0).bind fun t1 => if t1 = true then (some true) else ((dG.f k l0).bind fun t2 => (aZ.f k t2.1 t2.2).bind fun t3 => (a5.f k t2.1 t2.2).bind fun t4 => if t3.2 = t4.2 then (if t3.1 = t4.1 then ((eF.f k l0).bind fun t5 => (aK.f k t5.1 t5.2.1 t5.2.2).bind fun t6 => (aw.f k t5.1 t5.2.1 t5.2.2).bind fun t7 => if t6.2 = t7.2 then (if t6.1 = t7.1 then ((dL.f k t5.1 t5.2.1 t5.2.2).bind fun t8 => (eG.f k t5.1 t5.2.1 t5.2.2).bind fun t9 => if t8.2 = t9.2 then (if t8.1 = t9.1 then ((gF.f k t5.1 t5.2.1).bind fun t10 => (gG.f k t5.1 t5.2.1).bind fun t11 => if t10.2 = t11.2 then ((cd.f k t10.1 t11.1).bind fun t12 => if t12 = true then ((gY.f k t5.1 t5.2.1).bind fun t13 => (g5.f k t5.1 t5.2.1).bind fun t14 => if t13 = t14 then (if t8.2 = 0 then (if t10.2 = 0 then (if (decide (t6.2 = 0)) = (decide ((t10.1.length : Int) = 0)) then (if (t5.2.1.length : Int) = 1 then (if t6.1 = 0 then (if t3.2 = 0 then (r0 t2.1 t2.2 t3.1 true 0) else (some (!decide (t3.1 = true)))) else (some false)) else (if t3.2 = 0 then (r0 t2.1 t2.2 t3.1 true 0) else (some (!decide (t3.1 = true))))) else (some false)) else (some false)) else (if t3.2 = 0 then (r0 t2.1 t2.2 t3.1 true 0) else (some (!decide (t3.1 = true))))) else (some false)) else (some false)) else (some false)) else (some false)) else (some false)) else (some false)) else (some false)) else (some false)) else (some false))
def bh.f (k : Nat) (l0 : List Int) : Option (Bool) := bh.g k (bh.l0 k k) l0
def S11 (k : Nat) : bD := ⟨[sU], [sB], bh.f k⟩
def E11 (k : Nat) : En := ⟨tb, bn [(28, S28 k), (88, S88 k), (89, S89 k), (90, S90 k), (91, S91 k), (92, S92 k), (93, S93 k), (94, S94 k), (95, S95 k), (96, S96 k), (97, S97 k), (98, S98 k), (99, S99 k), (100, I3 k), (18, S18 k)], aX [(0, lz [3, 4, 5, 24, 25])], k, 0, aX [], []⟩
def DX : y5 St := fun x3_0 x4 x5 x24 x25 => ⟨210, bX [(3, .box 0 0), (4, aM x4), (5, aB x5), (24, aB x24), (25, aI x25)], Go.V.look [(0, .cells [aL x3_0])]⟩
def Hr : List Bool := [t', t', t', t', t', t', t', t', t', t', t', t', t', t', t', f', t', f']
def L11 (k : Nat) (p : List Bool) (r : List (St → O11)) : Nat → St → O11 := cC (E11 k) (S11 k) Try.f11 p r
theorem Pf (k) (rec : St → O11) (v) : bJ (E11 k) (S11 k) Try.f11 Hr [] rec (U5 DX v) = U5 (bh.s0 k (W5 rec DX)) v := by kernel_rfl
theorem O3 (k) (n) : W5 (L11 k Hr [] n) DX = bh.l0 k n :=
 u5 (lq (E11 k) (S11 k) (fun rec => U5 (bh.s0 k (C5 rec))) (fun n => U5 (bh.l0 k n)) (Pf k) n)
theorem M11 (k) : bf Try.prog 11 (S11 k) := mo Try.func11 (oc (M28 k) (oc (M88 k) (oc (M89 k) (oc (M90 k) (oc (M91 k) (oc (M92 k) (oc (M93 k) (oc (M94 k) (oc (M95 k) (oc (M96 k) (oc (M97 k) (oc (M98 k) (oc (M99 k) (oc (Qf k) (oc (M18 k) on))))))))))))))) fun x => (show cc (E11 k) (S11 k) Try.f11 x = bh.g k (W5 (L11 k Hr [] k) DX) x by kernel_rfl).trans (by rw [O3]; rfl)
end Go.Proofs.Ytcbhhbkghbnljaa.Vf
